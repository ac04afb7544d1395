/- An abstract evaluator for the model's code, part R: one operation of a region whose order is open. -/
import Derived.Test.YtdlofomblpdiaaaGreatKsQ
namespace Go.Ks
noncomputable section

/-! ### The same objects -/
mutual
def PV.same : PV → PV → Bool
  | .bool a, .bool b => a == b
  | .int k n, .int k' n' => decide (k = k') && decide (n = n')
  | .str s, .str t => decide (s = t)
  | .nilsl, .nilsl | .nilptr, .nilptr | .nilmap, .nilmap | .nilfn, .nilfn | .nilif, .nilif => true
  | .list e xs, .list e' ys => decide (e = e') && PV.sameL xs ys
  | .agg xs, .agg ys => PV.sameL xs ys
  | .tup xs, .tup ys => PV.sameL xs ys
  | .iel x o, .iel y o' => decide (o = o') && PV.same x y
  | .fn f, .fn g => decide (f = g)
  | .iface t x, .iface t' y => decide (t = t') && PV.same x y
  | _, _ => false
def PV.sameL : List PV → List PV → Bool
  | [], [] => true
  | x :: xs, y :: ys => PV.same x y && PV.sameL xs ys
  | _, _ => false
end
mutual
theorem PV.same_sound : ∀ (x y : PV), PV.same x y = true → x = y
  | .bool a, y, h => by cases y <;> simp [PV.same] at h; rw [h]
  | .int k n, y, h => by cases y <;> simp [PV.same] at h; rw [h.1, h.2]
  | .str s, y, h => by cases y <;> simp [PV.same] at h; rw [h]
  | .nilsl, y, h | .nilptr, y, h | .nilmap, y, h | .nilfn, y, h | .nilif, y, h => by cases y <;> simp [PV.same] at h; rfl
  | .list e xs, y, h => by cases y <;> simp [PV.same] at h; rw [h.1, PV.sameL_sound xs _ h.2]
  | .agg xs, y, h => by cases y <;> simp [PV.same] at h; rw [PV.sameL_sound xs _ h]
  | .tup xs, y, h => by cases y <;> simp [PV.same] at h; rw [PV.sameL_sound xs _ h]
  | .iel x o, y, h => by cases y <;> simp [PV.same] at h; rw [h.1, PV.same_sound x _ h.2]
  | .fn f, y, h => by cases y <;> simp [PV.same] at h; rw [h]
  | .iface t x, y, h => by cases y <;> simp [PV.same] at h; rw [h.1, PV.same_sound x _ h.2]
theorem PV.sameL_sound : ∀ (x y : List PV), PV.sameL x y = true → x = y
  | [], [], _ => rfl
  | [], _ :: _, h => by simp [PV.sameL] at h
  | _ :: _, [], h => by simp [PV.sameL] at h
  | x :: xs, y :: ys, h => by
    simp only [PV.sameL, Bool.and_eq_true] at h
    rw [PV.same_sound x y h.1, PV.sameL_sound xs ys h.2]
end
mutual
def AV.same : AV → AV → Bool
  | .p x, .p y => PV.same x y
  | .ref g o, .ref g' o' => decide (g = g') && decide (o = o')
  | .aref g i o, .aref g' i' o' => decide (g = g') && (decide (i = i') && decide (o = o'))
  | .sl g o l, .sl g' o' l' => decide (g = g') && (decide (o = o') && decide (l = l'))
  | .mp g, .mp g' => decide (g = g')
  | .clo f xs, .clo f' ys => decide (f = f') && AV.sameL xs ys
  | .agg xs, .agg ys => AV.sameL xs ys
  | .tup xs, .tup ys => AV.sameL xs ys
  | .iface t x, .iface t' y => decide (t = t') && AV.same x y
  | .yld g, .yld g' => decide (g = g')
  | _, _ => false
def AV.sameL : List AV → List AV → Bool
  | [], [] => true
  | x :: xs, y :: ys => AV.same x y && AV.sameL xs ys
  | _, _ => false
end
mutual
theorem AV.same_sound : ∀ (x y : AV), AV.same x y = true → x = y
  | .p x, y, h => by cases y <;> simp [AV.same] at h; rw [PV.same_sound x _ h]
  | .ref g o, y, h => by cases y <;> simp [AV.same] at h; rw [h.1, h.2]
  | .aref g i o, y, h => by cases y <;> simp [AV.same] at h; rw [h.1, h.2.1, h.2.2]
  | .sl g i o, y, h => by cases y <;> simp [AV.same] at h; rw [h.1, h.2.1, h.2.2]
  | .mp g, y, h => by cases y <;> simp [AV.same] at h; rw [h]
  | .clo f xs, y, h => by cases y <;> simp [AV.same] at h; rw [h.1, AV.sameL_sound xs _ h.2]
  | .agg xs, y, h => by cases y <;> simp [AV.same] at h; rw [AV.sameL_sound xs _ h]
  | .tup xs, y, h => by cases y <;> simp [AV.same] at h; rw [AV.sameL_sound xs _ h]
  | .iface t x, y, h => by cases y <;> simp [AV.same] at h; rw [h.1, AV.same_sound x _ h.2]
  | .yld g, y, h => by cases y <;> simp [AV.same] at h; rw [h]
theorem AV.sameL_sound : ∀ (x y : List AV), AV.sameL x y = true → x = y
  | [], [], _ => rfl
  | [], _ :: _, h => by simp [AV.sameL] at h
  | _ :: _, [], h => by simp [AV.sameL] at h
  | x :: xs, y :: ys, h => by
    simp only [AV.sameL, Bool.and_eq_true] at h
    rw [AV.same_sound x y h.1, AV.sameL_sound xs ys h.2]
end
def sameM : List (PV × PV) → List (PV × PV) → Bool
  | [], [] => true
  | x :: xs, y :: ys => PV.same x.1 y.1 && (PV.same x.2 y.2 && sameM xs ys)
  | _, _ => false
theorem sameM_sound : ∀ (x y : List (PV × PV)), sameM x y = true → x = y
  | [], [], _ => rfl
  | [], _ :: _, h => by simp [sameM] at h
  | _ :: _, [], h => by simp [sameM] at h
  | x :: xs, y :: ys, h => by
    simp only [sameM, Bool.and_eq_true] at h
    rw [sameM_sound xs ys h.2.2, Prod.ext (PV.same_sound _ _ h.1) (PV.same_sound _ _ h.2.1)]
def GObj.same : GObj → GObj → Bool
  | .box xs, .box ys => AV.sameL xs ys
  | .arr e xs, .arr e' ys => decide (e = e') && PV.sameL xs ys
  | .ice e xs, .ice e' ys => decide (e = e') && PV.sameL xs ys
  | .map xs bs c, .map ys bs' c' => decide (c = c') && (decide (bs = bs') && sameM xs ys)
  | .iter m s l b, .iter m' s' l' b' => decide (m = m') && (decide (s = s') && (decide (l = l') && decide (b = b')))
  | .dfr, .dfr => true
  | .dead, .dead => true
  | _, _ => false
theorem GObj.same_sound (x y : GObj) (h : GObj.same x y = true) : x = y := by
  cases x <;> cases y <;> simp [GObj.same] at h
  · rw [AV.sameL_sound _ _ h]
  · rw [h.1, PV.sameL_sound _ _ h.2]
  · rw [h.1, PV.sameL_sound _ _ h.2]
  · rw [h.1, h.2.1, sameM_sound _ _ h.2.2]
  · rw [h.1, h.2.1, h.2.2.1, h.2.2.2]
  · rfl
  · rfl

/-! ### References -/
mutual
theorem AV.ren_id {f : Nat → Nat} : ∀ (x : AV), (∀ g ∈ x.refs, f g = g) → x.ren f = x
  | .p x, _ => rfl
  | .ref g off, h => by simp only [AV.ren]; rw [h g (by simp [AV.refs])]
  | .aref g i off, h => by simp only [AV.ren]; rw [h g (by simp [AV.refs])]
  | .sl g off len, h => by simp only [AV.ren]; rw [h g (by simp [AV.refs])]
  | .mp g, h => by simp only [AV.ren]; rw [h g (by simp [AV.refs])]
  | .clo c cs, h => by simp only [AV.ren]; rw [AV.renL_id cs (by simpa [AV.refs] using h)]
  | .agg xs, h => by simp only [AV.ren]; rw [AV.renL_id xs (by simpa [AV.refs] using h)]
  | .tup xs, h => by simp only [AV.ren]; rw [AV.renL_id xs (by simpa [AV.refs] using h)]
  | .iface t x, h => by simp only [AV.ren]; rw [AV.ren_id x (by simpa [AV.refs] using h)]
  | .yld g, h => by simp only [AV.ren]; rw [h g (by simp [AV.refs])]
theorem AV.renL_id {f : Nat → Nat} : ∀ (xs : List AV), (∀ g ∈ AV.refsL xs, f g = g) → AV.renL f xs = xs
  | [], _ => rfl
  | x :: xs, h => by
    simp only [AV.refsL, List.mem_append] at h
    simp only [AV.renL]
    rw [AV.ren_id x (fun g hg => h g (.inl hg)), AV.renL_id xs (fun g hg => h g (.inr hg))]
end
theorem GObj.ren_id {f : Nat → Nat} (o : GObj) (h : ∀ g ∈ o.refs, f g = g) : o.ren f = o := by
  cases o <;> simp only [GObj.ren]
  · rw [AV.renL_id _ h]
  · rename_i m _ _ _
    cases m with
    | none => rfl
    | some k => simp only [Option.map_some]; rw [h k (by simp [GObj.refs])]
  · simp only [GObj.refs, List.mem_cons, forall_eq_or_imp] at h
    rw [AV.renL_id _ h.2, h.1]
mutual
theorem AV.refs_lt {φ : Emb} : ∀ (x : AV) (v : Value), AV.rel φ x v → ∀ g ∈ x.refs, g < φ.n
  | .p x, v, _, g, hg => by simp [AV.refs] at hg
  | .ref g off, v, h, k, hk => by simp only [AV.refs, List.mem_singleton] at hk; rw [hk]; exact h.1
  | .aref g i off, v, h, k, hk => by simp only [AV.refs, List.mem_singleton] at hk; rw [hk]; exact h.1
  | .sl g off len, v, h, k, hk => by simp only [AV.refs, List.mem_singleton] at hk; rw [hk]; exact h.1
  | .mp g, v, h, k, hk => by simp only [AV.refs, List.mem_singleton] at hk; rw [hk]; exact h.1
  | .clo c cs, v, h, k, hk => by obtain ⟨vs, _, h⟩ := h; exact AV.refsL_lt cs vs h k (by simpa [AV.refs] using hk)
  | .agg xs, v, h, k, hk => by obtain ⟨vs, _, h⟩ := h; exact AV.refsL_lt xs vs h k (by simpa [AV.refs] using hk)
  | .tup xs, v, h, k, hk => by obtain ⟨vs, _, h⟩ := h; exact AV.refsL_lt xs vs h k (by simpa [AV.refs] using hk)
  | .iface t x, v, h, k, hk => by obtain ⟨u, _, h⟩ := h; exact AV.refs_lt x u h k (by simpa [AV.refs] using hk)
  | .yld g, v, h, k, hk => by simp only [AV.refs, List.mem_singleton] at hk; rw [hk]; exact h.1
theorem AV.refsL_lt {φ : Emb} : ∀ (xs : List AV) (vs : List Value), AV.relL φ xs vs → ∀ g ∈ AV.refsL xs, g < φ.n
  | [], _, _, g, hg => by simp [AV.refsL] at hg
  | x :: xs, vs, h, g, hg => by
    obtain ⟨v, r, _, h1, h2⟩ := h
    simp only [AV.refsL, List.mem_append] at hg
    exact hg.elim (AV.refs_lt x v h1 g) (AV.refsL_lt xs r h2 g)
end
theorem refsL_mem {xs : List AV} {g : Nat} : g ∈ AV.refsL xs ↔ ∃ x ∈ xs, g ∈ x.refs := by
  induction xs with
  | nil => simp [AV.refsL]
  | cons x xs ih => simp [AV.refsL, ih]
theorem WRel.refs_lt {φ : Emb} {G : List GObj} {w : World} (h : WRel φ G w) {o : GObj} (ho : o ∈ G) : ∀ g ∈ o.refs, g < φ.n := by
  obtain ⟨i, hi, rfl⟩ := List.mem_iff_getElem.1 ho
  have hr := h.obj i _ (List.getElem?_eq_getElem hi)
  intro g hg
  cases hob : G[i] with
  | box cs =>
    rw [hob] at hr hg
    obtain ⟨_, vs, _, _, h2⟩ := hr
    exact AV.refsL_lt cs vs h2 g hg
  | iter m since seen last =>
    rw [hob] at hr hg
    obtain ⟨_, r, _, h2⟩ := hr
    cases m with
    | none => simp [GObj.refs] at hg
    | some k =>
      simp only [GObj.refs, List.mem_singleton] at hg
      subst hg
      rcases h2 with ⟨e, _⟩ | ⟨k', e, hk, _⟩
      · cases e
      · cases e; exact hk
  | loop st pend T ps asg body d =>
    rw [hob] at hr hg
    obtain ⟨fn, tmps, _, h2, h3⟩ := hr
    simp only [GObj.refs, List.mem_cons] at hg
    rcases hg with rfl | hg
    · exact h3
    · exact AV.refsL_lt T tmps h2 g hg
  | _ => rw [hob] at hg; simp [GObj.refs] at hg

/-- A new object moves to a free number. -/
theorem Ctx.fill {w0 : World} {O : Nat → Prop} {I0 : Imm} {φ1 : Emb} {G : List GObj} {ob : GObj} {w : World} (h : Ctx w0 O I0 φ1 (G ++ [ob]) w) {s : Nat} (hs : G[s]? = some .dead)
    (hobj : ∀ o ∈ G, s ∉ o.refs ∧ G.length ∉ o.refs) (hob : ob.refs = []) :
    ∃ φ', Same φ1 φ' (fun g => if g = G.length then s else g) (· ≠ s) ∧ Ctx w0 O I0 φ' (G.set s ob) w := by
  have hslt : s < G.length := (List.getElem?_eq_some_iff.1 hs).1
  have hn : φ1.n = G.length + 1 := by have := h.rel.n; simp at this; exact this
  let b : Nat → Nat := fun k => if k = s then G.length else k
  let φ' : Emb := { n := G.length, I := φ1.I, blk := fun k => φ1.blk (b k), bas := fun k => φ1.bas (b k), siz := fun k => φ1.siz (b k), esz := fun k => φ1.esz (b k) }
  have hb : ∀ g, g ≠ s → g < φ1.n → b (if g = G.length then s else g) = g := by
    intro g hg hlt
    simp only [b]
    split
    · rename_i e; simp [e]
    · simp [hg]
  have hsame : Same φ1 φ' (fun g => if g = G.length then s else g) (· ≠ s) := by
    refine ⟨fun g hg hlt => ?_, fun _ _ e => e, fun g hg hlt => ?_, fun g hg hlt => ?_, fun g hg hlt => ?_, fun g hg hlt => ?_⟩
    · show (if g = G.length then s else g) < G.length
      split
      · exact hslt
      · omega
    all_goals simp only [φ', hb g hg hlt]
  -- the objects
  have hget : ∀ k o, (G.set s ob)[k]? = some o → (G ++ [ob])[b k]? = some o ∧ (if b k = G.length then s else b k) = k ∧ b k ≠ s ∧ b k < φ1.n ∧ (∀ g ∈ o.refs, g ≠ s ∧ (if g = G.length then s else g) = g) := by
    intro k o hk
    rcases get_set hk with ⟨hne, hk⟩ | ⟨rfl, rfl, _⟩
    · have hlt : k < G.length := (List.getElem?_eq_some_iff.1 hk).1
      have hm := List.mem_of_getElem? hk
      simp only [b, if_neg hne]
      refine ⟨by rw [List.getElem?_append_left hlt]; exact hk, by rw [if_neg (by omega)], hne, by omega, fun g hg => ?_⟩
      have := hobj o hm
      refine ⟨fun e => this.1 (by rw [← e]; exact hg), ?_⟩
      rw [if_neg (fun e => this.2 (by rw [← e]; exact hg))]
    · simp only [b, if_true]
      refine ⟨by simp, trivial, by omega, by omega, fun g hg => ?_⟩
      rw [hob] at hg; simp at hg
  have hinj : ∀ k k', b k = b k' → k < G.length → k' < G.length → k = k' := by
    intro k k' e h1 h2
    simp only [b] at e
    split at e <;> split at e <;> omega
  refine ⟨φ', hsame, ⟨by simp [φ'], ?_, ?_, h.rel.imm, ?_⟩, ⟨h.fr.size, h.fr.os, h.fr.tape, h.fr.output, h.fr.same, ?_⟩, h.immn⟩
  · intro k o hk
    obtain ⟨h1, h2, h3, h4, h5⟩ := hget k o hk
    have := GObj.ren_rel hsame (w := w) (w' := w) h4 h3 (fun g hg => (h5 g hg).1) (fun _ => rfl) (h.rel.obj (b k) o h1)
    simp only [h2] at this
    rw [GObj.ren_id o (fun g hg => (h5 g hg).2)] at this
    exact this
  · intro k k' o o' hk hk' l l' e
    obtain ⟨h1, _⟩ := hget k o hk
    obtain ⟨h1', _⟩ := hget k' o' hk'
    have h2 : k < G.length := by have := (List.getElem?_eq_some_iff.1 hk).1; simpa using this
    have h2' : k' < G.length := by have := (List.getElem?_eq_some_iff.1 hk').1; simpa using this
    exact hinj k k' (h.rel.inj _ _ o o' h1 h1' l l' e) h2 h2'
  · intro k o hk l
    obtain ⟨h1, _⟩ := hget k o hk
    exact h.rel.apart _ o h1 l
  · intro k o hk l
    obtain ⟨h1, _⟩ := hget k o hk
    exact h.fr.own _ o h1 l

/-! ### What is turned -/
theorem setAll_in {f : Nat → GObj} : ∀ (ks : List Nat) (G : List GObj) (g : Nat), g ∈ ks → g < G.length → (setAll (ks.map fun k => (k, f k)) G)[g]? = some (f g)
  | [], _, _, h, _ => by simp at h
  | k :: ks, G, g, h, hlt => by
    simp only [List.map_cons, setAll]
    by_cases hm : g ∈ ks
    · exact setAll_in ks _ g hm (by simpa using hlt)
    · have e : g = k := by rcases List.mem_cons.1 h with e | e; exact e; exact absurd e hm
      subst e
      rw [setAll_out _ _ _ (by simpa using hm)]
      simp [hlt]
theorem setAll_turns {ch : Nat → Bool} {f : Nat → GObj} {tch : List Nat} {G G' : List GObj} (h : Turns tch G G') (h1 : ∀ g ∈ tch, g < G.length → ch g = true → G'[g]? = some (f g)) (h2 : ∀ g ∈ tch, g < G.length → ch g = false → G'[g]? = G[g]?) :
    setAll ((tch.filter ch).map fun k => (k, f k)) G ++ G'.drop G.length = G' := by
  apply List.ext_getElem?
  intro g
  by_cases hlt : g < G.length
  · rw [List.getElem?_append_left (by rw [setAll_length]; exact hlt)]
    by_cases hm : g ∈ tch.filter ch
    · rw [setAll_in _ _ g hm hlt]
      have hm' := List.mem_filter.1 hm
      rw [h1 g hm'.1 hlt hm'.2]
    · rw [setAll_out _ _ _ (by simpa using hm)]
      by_cases ht : g ∈ tch
      · have : ch g = false := by
          cases hc : ch g with
          | false => rfl
          | true => exact absurd (List.mem_filter.2 ⟨ht, hc⟩) hm
        rw [h2 g ht hlt this]
      · rw [h.2 g hlt ht]
  · rw [List.getElem?_append_right (by rw [setAll_length]; omega), setAll_length, List.getElem?_drop]
    congr 1
    omega

def turned (dst : Option Tmp) (tch rd : List Nat) (bar : Bool) (G : List GObj) (r : AV × List GObj) : Rec :=
  { v := r.1, dst := dst, rd := rd, wr := (tch.filter fun g => !GObj.same (G.getD g .dead) (r.2.getD g .dead)).map fun g => (g, r.2.getD g .dead), app := r.2.drop G.length, chain := true, bar := bar }

theorem getD_some {G : List GObj} {g : Nat} (h : g < G.length) : G[g]? = some (G.getD g .dead) := by
  rw [List.getD_eq_getElem?_getD, List.getElem?_eq_getElem h]; rfl
theorem getD_of {G G2 : List GObj} {g : Nat} (h : G[g]? = G2[g]?) : G.getD g .dead = G2.getD g .dead := by
  rw [List.getD_eq_getElem?_getD, List.getD_eq_getElem?_getD, h]

theorem turned_apply {dst : Option Tmp} {tch rd : List Nat} {bar : Bool} {G : List GObj} {r : AV × List GObj} (h : Turns tch G r.2) {G2 : List GObj} {r2 : List GObj} (h2 : Turns tch G2 r2)
    (hl : G.length = G2.length) (hr : ∀ g ∈ tch, G[g]? = G2[g]?) (he : ∀ g ∈ tch, r.2[g]? = r2[g]?) (hd : r.2.drop G.length = r2.drop G2.length) : (turned dst tch rd bar G r).apply G2 = r2 := by
  unfold Rec.apply turned
  simp only
  rw [hd]
  refine setAll_turns h2 ?_ ?_
  · intro g hg hlt _
    rw [← he g hg]
    exact getD_some (Nat.lt_of_lt_of_le (hl ▸ hlt) h.1)
  · intro g hg hlt hc
    have hs := GObj.same_sound (G.getD g .dead) (r.2.getD g .dead) (by
      cases hq : GObj.same (G.getD g .dead) (r.2.getD g .dead) with
      | true => rfl
      | false => rw [hq] at hc; cases hc)
    have hlt1 : g < G.length := hl ▸ hlt
    rw [← he g hg, ← hr g hg, getD_some hlt1, getD_some (Nat.lt_of_lt_of_le hlt1 h.1), hs]

theorem mergeBack_turns {ρ : List Nat} {G : List GObj} {r r' : AV × List GObj} (h : mergeBack ρ G r = some r') : Turns ρ G r'.2 := by
  have base : Turns ρ G (putBack (backOf ρ G.length) G ρ (r.2.take ρ.length)) := ⟨by rw [putBack_length]; exact Nat.le_refl _, fun g _ hn => putBack_out _ _ _ _ _ hn⟩
  unfold mergeBack at h
  simp only at h
  split at h
  · split at h
    · cases h; exact base
    · split at h
      · cases h
        refine ⟨by rw [List.length_append, putBack_length]; omega, fun g hg hn => ?_⟩
        rw [List.getElem?_append_left (by rw [putBack_length]; exact hg)]
        exact base.2 g hg hn
      · simp at h
  · simp at h
theorem mergeBack_other {ρ : List Nat} {G G2 : List GObj} {r r' : AV × List GObj} (h : mergeBack ρ G r = some r') (hn : nodup ρ = true) (hlt : ∀ g ∈ ρ, g < G.length) (hl : G.length = G2.length) :
    ∃ r2, mergeBack ρ G2 r = some (r'.1, r2) ∧ (∀ g ∈ ρ, r'.2[g]? = r2[g]?) ∧ r'.2.drop G.length = r2.drop G2.length := by
  have hput : ∀ g ∈ ρ, ρ.length ≤ r.2.length → (putBack (backOf ρ G.length) G ρ (r.2.take ρ.length))[g]? = (putBack (backOf ρ G.length) G2 ρ (r.2.take ρ.length))[g]? := by
    intro g hg hm
    obtain ⟨hi, hi'⟩ := idxOf_get hg
    have hp : (r.2.take ρ.length)[ρ.idxOf g]? = some (r.2[ρ.idxOf g]'(by omega)) := by
      rw [List.getElem?_take, if_pos hi]
      exact List.getElem?_eq_getElem (by omega)
    rw [putBack_in _ _ _ _ _ g _ hn (hlt g hg) hi' hp, putBack_in _ _ _ _ _ g _ hn (hl ▸ hlt g hg) hi' hp]
  unfold mergeBack at h ⊢
  simp only [← hl] at h ⊢
  split at h
  · rename_i hm
    rw [if_pos hm]
    split at h
    · rename_i hlow
      rw [if_pos hlow]
      cases h
      refine ⟨_, rfl, fun g hg => hput g hg hm, ?_⟩
      simp only
      rw [List.drop_eq_nil_of_le (by rw [putBack_length]; exact Nat.le_refl _), List.drop_eq_nil_of_le (by rw [putBack_length]; omega)]
    · rename_i hlow
      rw [if_neg hlow]
      split at h
      · rename_i hlow2
        rw [if_pos hlow2]
        cases h
        refine ⟨_, rfl, fun g hg => ?_, ?_⟩
        · simp only
          rw [List.getElem?_append_left (by rw [putBack_length]; exact hlt g hg), List.getElem?_append_left (by rw [putBack_length]; exact hl ▸ hlt g hg)]
          exact hput g hg hm
        · simp only
          rw [List.drop_left' (putBack_length _ _ _ _), List.drop_left' (by rw [putBack_length]; exact hl.symm)]
      · simp at h
  · simp at h

theorem Local.other {φ : Emb} {G G2 : List GObj} {args : List AV} {ρ : List Nat} {argsc : List AV} {Gc : List GObj} (h : Local φ G args ρ argsc Gc) (hr : ∀ g ∈ ρ, G[g]? = G2[g]?) : Local φ G2 args ρ argsc Gc := by
  refine ⟨h.sub, h.nd, fun g hg => ?_, fun g hg => ?_, h.ea, ?_⟩
  · have h1 := hr g hg
    rw [List.getElem?_eq_getElem (h.lt g hg)] at h1
    exact (List.getElem?_eq_some_iff.1 h1.symm).1
  · rw [← getD_of (hr g hg)]; exact h.cl g hg
  · rw [h.eG]
    apply List.map_congr_left
    intro g hg
    rw [getD_of (hr g hg)]

/-! ### One operation -/
def dcall (P : Program) (H : Handler) (E : Ext1) (T : List AV) (G : List GObj) (dst : Option Tmp) (c : Call) : Option Rec :=
  match target P T c with
  | some (g, args) => if hasBody P g = true then
      match localize args G with
      | some (ρ, argsc, Gc) => match H g argsc Gc with
        | .ret r => (mergeBack ρ G r).map fun r' => turned dst ρ ρ false G r'
        | _ => none
      | none => none
    else match (concL args).bind (E g) with
      | some v => (absV v).map fun z => { v := .p z, dst := dst }
      | none => none
  | none => none

def dstep (P : Program) (H : Handler) (E : Ext1) (ops : Array Oper) (slot : Nat) (T : List AV) (G : List GObj) (o : Oper) : Option Rec :=
  if wantedA ops T o = true then match kindOf o.op with
    | .S => (aop P T [] o).map fun r => { v := r.1, dst := o.dst }
    | .R => (aop P T G o).map fun r => { v := r.1, dst := o.dst, rd := orefs T o.op.operands.toList }
    | .I => (aop P T G o).map fun r => { v := r.1, dst := o.dst, rd := orefs T o.op.operands.toList }
    | .A => match aop P T [] o with
      | some (v, [ob]) => if ob.refs = [] then some { v := v.ren fun _ => slot, dst := o.dst, wr := [(slot, ob)], slot := some slot } else none
      | _ => none
    | .B => (aop P T G o).map fun r => turned o.dst (orefs T o.op.operands.toList) [] true G r
    | .C => match o.op with
      | .call c => dcall P H E T G o.dst c
      | _ => none
    | .X => none
  else some { v := aundef, dst := o.dst }

theorem astep_plain {P : Program} {H : Handler} {E : Ext1} {T : List AV} {G : List GObj} {o : Oper} (hC : kindOf o.op ≠ .C) (hX : kindOf o.op ≠ .X) : astep P H E T G o = M.of (aop P T G o) := by
  unfold astep
  cases ho : o.op <;> try rfl
  rename_i c
  obtain ⟨cal, args, ats⟩ := c
  cases cal with
  | builtin b => rfl
  | value f => rw [ho] at hC; simp [kindOf] at hC
  | invoke r nm => rw [ho] at hC; simp [kindOf] at hC
end
end Go.Ks
