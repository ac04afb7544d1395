/- An abstract evaluator for the model's code, part P: operations that make, or turn, objects: which ones. -/
import Derived.Test.YtdlofomblpdiaaaGreatKsO
namespace Go.Ks
noncomputable section

theorem plainOf_nil {x : AV} {y : PV} {G1 : List GObj} (h : plainOf [] x = some (y, G1)) : G1 = [] ∧ ∀ G, plainOf G x = some (y, G) := by
  unfold plainOf at h ⊢
  cases x <;> simp_all
theorem aElems_nil {esz : Nat} : ∀ {parts : List (Nat × AV)} {k : Nat} {xs : List PV} {G1 : List GObj}, aElems esz [] k parts = some (xs, G1) → G1 = [] ∧ ∀ G, aElems esz G k parts = some (xs, G)
  | [], k, xs, G1, h => by simp only [aElems, Option.some.injEq, Prod.mk.injEq] at h ⊢; exact ⟨h.2.symm, fun G => ⟨h.1, trivial⟩⟩
  | (i, x) :: rest, k, xs, G1, h => by
    simp only [aElems] at h ⊢
    cases hp : plainOf [] x with
    | none => simp [hp] at h
    | some q =>
      obtain ⟨y, G2⟩ := q
      obtain ⟨rfl, hall⟩ := plainOf_nil hp
      simp only [hp] at h
      split at h
      · rename_i hc
        cases hr : aElems esz [] (k + 1) rest with
        | none => simp [hr] at h
        | some r =>
          obtain ⟨ys, G3⟩ := r
          obtain ⟨rfl, hall'⟩ := aElems_nil hr
          simp only [hr, Option.map_some, Option.some.injEq, Prod.mk.injEq] at h
          refine ⟨h.2.symm, fun G => ?_⟩
          rw [hall G]
          simp only [if_pos hc, hall' G, Option.map_some, h.1]
      · simp at h

theorem aop_A {P : Program} {T : List AV} {o : Oper} {v : AV} {ob : GObj} (hk : kindOf o.op = .A) (h : aop P T [] o = some (v, [ob])) (G : List GObj) : aop P T G o = some (v.ren (fun _ => G.length), G ++ [ob]) := by
  unfold aop at h ⊢
  cases hop : o.op <;> simp only [hop, kindOf] at hk h ⊢ <;> try (cases hk; done)
  case alloc t =>
    unfold aAlloc at h ⊢
    split at h
    · split at h
      · simp only [aBox, Option.some.injEq, Prod.mk.injEq] at h ⊢
        obtain ⟨rfl, h2⟩ := h
        simp at h2
        subst h2
        simp [AV.ren]
      · simp at h
    · simp at h
  case buildSlice t n parts =>
    simp only [Option.bind_eq_some_iff] at h ⊢
    obtain ⟨ps, hps, h⟩ := h
    refine ⟨ps, hps, ?_⟩
    unfold aBuildSlice at h ⊢
    split at h
    · rename_i elem hu
      split at h
      · rename_i ie hie
        split at h
        · rename_i z hz
          split at h
          · rename_i hc
            simp only [Option.map_eq_some_iff, Prod.mk.injEq] at h
            obtain ⟨⟨xs, G1⟩, h1, h2, h3⟩ := h
            obtain ⟨rfl, hall⟩ := aElems_nil h1
            simp at h3
            subst h2; subst h3
            simp [hu, hie, hz, hc, hall G, AV.ren]
          · simp at h
        · simp at h
      · simp at h
    · simp at h
  case makeSlice t l c =>
    split at h
    · rename_i l' c' hl hc
      unfold aMakeSlice at h ⊢
      split at h
      · rename_i elem kl l2 kc c2 hu
        split at h
        · rename_i ie hie
          split at h
          · rename_i z hz
            split at h
            · rename_i hcond
              simp only [Option.some.injEq, Prod.mk.injEq] at h
              obtain ⟨h1, h2⟩ := h
              simp at h2
              subst h1; subst h2
              rw [if_pos hcond]
              simp [AV.ren]
            · simp at h
          · simp at h
        · simp at h
      · simp at h
    · simp at h
  all_goals (rename_i c; obtain ⟨cal, args, ats⟩ := c; cases cal with
    | builtin b => cases b <;> cases hk
    | value f => cases hk
    | invoke r nm => cases hk)

/-- G' has turned no objects of G but these, and may have more. -/
def Turns (tch : List Nat) (G G' : List GObj) : Prop := G.length ≤ G'.length ∧ ∀ g, g < G.length → g ∉ tch → G'[g]? = G[g]?
theorem Turns.refl (tch : List Nat) (G : List GObj) : Turns tch G G := ⟨Nat.le_refl _, fun _ _ _ => rfl⟩
theorem Turns.push {tch : List Nat} {G G' : List GObj} (h : Turns tch G G') (o : GObj) : Turns tch G (G' ++ [o]) :=
  ⟨by have := h.1; simp; omega, fun g hg hn => by rw [List.getElem?_append_left (Nat.lt_of_lt_of_le hg h.1)]; exact h.2 g hg hn⟩
theorem Turns.set {tch : List Nat} {G G' : List GObj} (h : Turns tch G G') {g : Nat} (hm : g ∈ tch) (o : GObj) : Turns tch G (G'.set g o) :=
  ⟨by simpa using h.1, fun k hk hn => by rw [List.getElem?_set_ne (show g ≠ k from fun e => by subst e; exact hn hm)]; exact h.2 k hk hn⟩
theorem plainOf_turns {G : List GObj} {x : AV} {y : PV} {G1 : List GObj} (h : plainOf G x = some (y, G1)) {tch : List Nat} (hs : ∀ g ∈ x.refs, g ∈ tch) : Turns tch G G1 := by
  unfold plainOf at h
  split at h
  · cases h; exact .refl _ _
  · split at h
    · split at h
      · cases h
        exact (Turns.refl _ _).set (hs _ (by simp [AV.refs])) _
      · simp at h
    · split at h
      · cases h; exact .refl _ _
      · simp at h
    · simp at h
  · simp at h

theorem aStore_turns {P : Program} {G G' : List GObj} {t : TypeId} {x v : AV} (h : aStore P G t x v = some G') {tch : List Nat} (hx : ∀ g ∈ x.refs, g ∈ tch) (hv : ∀ g ∈ v.refs, g ∈ tch) : Turns tch G G' := by
  unfold aStore at h
  split at h
  · split at h
    · split at h
      · cases h
        exact (Turns.refl _ _).set (hx _ (by simp [AV.refs])) _
      · simp at h
    · simp at h
  · split at h
    · rename_i y G1 hp
      split at h
      · split at h
        · split at h
          · cases h
            exact (plainOf_turns hp hv).set (hx _ (by simp [AV.refs])) _
          · simp at h
        · simp at h
      · simp at h
    · simp at h
  · simp at h
theorem aMapUpdate_turns {P : Program} {G G' : List GObj} {t : TypeId} {m k v : AV} (h : aMapUpdate P G t m k v = some G') {tch : List Nat} (hx : ∀ g ∈ m.refs, g ∈ tch) (hv : ∀ g ∈ v.refs, g ∈ tch) : Turns tch G G' := by
  unfold aMapUpdate at h
  split at h
  · split at h
    · rename_i y G1 _ hp
      split at h
      · split at h
        · split at h
          · split at h
            · split at h
              · split at h
                · cases h
                  exact (plainOf_turns hp hv).set (hx _ (by simp [AV.refs])) _
                · simp at h
              · simp at h
            · cases h
              exact (plainOf_turns hp hv).set (hx _ (by simp [AV.refs])) _
            · simp at h
          · simp at h
        · simp at h
      · simp at h
    · simp at h
  · simp at h
theorem aDelete_turns {P : Program} {G G' : List GObj} {t : TypeId} {m k : AV} (h : aDelete P G t m k = some G') {tch : List Nat} (hx : ∀ g ∈ m.refs, g ∈ tch) : Turns tch G G' := by
  unfold aDelete at h
  split at h
  · split at h
    · split at h
      · split at h
        · cases h
          exact (Turns.refl _ _).set (hx _ (by simp [AV.refs])) _
        · cases h
          exact (Turns.refl _ _).set (hx _ (by simp [AV.refs])) _
        · simp at h
      · simp at h
    · simp at h
  · simp at h
theorem aCopy_turns {P : Program} {G : List GObj} {t : TypeId} {d s v : AV} {G' : List GObj} (h : aCopy P G t d s = some (v, G')) {tch : List Nat} (hx : ∀ g ∈ d.refs, g ∈ tch) : Turns tch G G' := by
  unfold aCopy at h
  split at h
  · split at h
    · split at h
      · split at h
        · cases h
          exact (Turns.refl _ _).set (hx _ (by simp [AV.refs])) _
        · simp at h
      · simp at h
    · simp at h
  · simp at h
theorem aClear_turns {P : Program} {G G' : List GObj} {t : TypeId} {d : AV} (h : aClear P G t d = some G') {tch : List Nat} (hx : ∀ g ∈ d.refs, g ∈ tch) : Turns tch G G' := by
  unfold aClear at h
  split at h
  · split at h
    · split at h
      · split at h
        · cases h
          exact (Turns.refl _ _).set (hx _ (by simp [AV.refs])) _
        · simp at h
      · simp at h
    · simp at h
  · simp at h
theorem aAppend_turns {P : Program} {G G' : List GObj} {ts tx : TypeId} {s x v : AV} (h : aAppend P G ts tx s x = some (v, G')) {tch : List Nat} (hx : ∀ g ∈ s.refs, g ∈ tch) : Turns tch G G' := by
  unfold aAppend at h
  split at h
  · split at h
    · split at h
      · split at h
        · split at h
          · split at h
            · cases h; exact .refl _ _
            · split at h
              · cases h; exact (Turns.refl _ _).push _
              · simp at h
          · split at h
            · split at h
              · cases h
                exact ((Turns.refl _ _).set (hx _ (by simp [AV.refs])) _).push _
              · simp at h
            · simp at h
          · simp at h
        · simp at h
      · simp at h
    · simp at h
  · simp at h

theorem aevals_orefs {T : List AV} : ∀ {xs : List Operand} {ys : List AV}, aevals T xs = some ys → ∀ y ∈ ys, ∀ g ∈ y.refs, g ∈ orefs T xs
  | [], ys, h, y, hy, g, hg => by cases h; simp at hy
  | x :: xs, ys, h, y, hy, g, hg => by
    simp only [aevals] at h
    split at h
    · rename_i z zs h1 h2
      cases h
      simp only [orefs, List.mem_append]
      rcases List.mem_cons.1 hy with rfl | hy
      · left; rw [h1]; exact hg
      · exact .inr (aevals_orefs h2 y hy g hg)
    · simp at h

theorem aop_B {P : Program} {T : List AV} {o : Oper} {v : AV} {G G' : List GObj} (hk : kindOf o.op = .B) (h : aop P T G o = some (v, G')) : Turns (orefs T o.op.operands.toList) G G' := by
  unfold aop at h
  cases hop : o.op <;> simp only [hop, kindOf] at hk h <;> try (cases hk; done)
  case store t x u =>
    split at h
    · rename_i x' v' hx hv
      simp only [Option.map_eq_some_iff, Prod.mk.injEq] at h
      obtain ⟨G1, h1, _, rfl⟩ := h
      exact aStore_turns h1 (fun g hg => orefs_mem (x := x) (by simp [Op.operands]) hx g hg) (fun g hg => orefs_mem (x := u) (by simp [Op.operands]) hv g hg)
    · simp at h
  case box t x =>
    simp only [Option.map_eq_some_iff] at h
    obtain ⟨y, _, h⟩ := h
    cases h
    exact (Turns.refl _ _).push _
  case mapUpdate t m k u =>
    split at h
    · rename_i m' k' v' hm _ hv
      simp only [Option.map_eq_some_iff, Prod.mk.injEq] at h
      obtain ⟨G1, h1, _, rfl⟩ := h
      exact aMapUpdate_turns h1 (fun g hg => orefs_mem (x := m) (by simp [Op.operands]) hm g hg) (fun g hg => orefs_mem (x := u) (by simp [Op.operands]) hv g hg)
    · simp at h
  case insert t m k u =>
    split at h
    · rename_i m' k' v' hm _ hv
      simp only [Option.map_eq_some_iff, Prod.mk.injEq] at h
      obtain ⟨G1, h1, _, rfl⟩ := h
      exact aMapUpdate_turns h1 (fun g hg => orefs_mem (x := m) (by simp [Op.operands]) hm g hg) (fun g hg => orefs_mem (x := u) (by simp [Op.operands]) hv g hg)
    · simp at h
  case makeMap t r =>
    cases r <;> simp only [Option.some.injEq, reduceCtorEq] at h
    cases h
    exact (Turns.refl _ _).push _
  case call c =>
    obtain ⟨cal, args, ats⟩ := c
    cases cal with
    | builtin b =>
      simp only [Option.bind_eq_some_iff] at h
      obtain ⟨xs, hxs, h⟩ := h
      have hall : ∀ y ∈ xs, ∀ g ∈ y.refs, g ∈ orefs T (Op.call { callee := .builtin b, args := args, argTypes := ats }).operands.toList := fun y hy g hg => by
        have := aevals_orefs hxs y hy g hg
        simpa [Op.operands, Call.operands] using this
      unfold aBuiltin at h
      split at h
      · exact aAppend_turns h (hall _ (by simp))
      · cases hk
      · exact aCopy_turns h (hall _ (by simp))
      · simp only [Option.map_eq_some_iff, Prod.mk.injEq] at h
        obtain ⟨G1, h1, _, rfl⟩ := h
        exact aClear_turns h1 (hall _ (by simp))
      · simp only [Option.map_eq_some_iff, Prod.mk.injEq] at h
        obtain ⟨G1, h1, _, rfl⟩ := h
        exact aDelete_turns h1 (hall _ (by simp))
      · cases hk
      · cases hk
      · simp at h
    | value f => cases hk
    | invoke r nm => cases hk
end
end Go.Ks
