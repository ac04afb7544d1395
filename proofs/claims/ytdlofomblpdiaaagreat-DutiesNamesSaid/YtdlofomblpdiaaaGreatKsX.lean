/- An abstract evaluator for the model's code, part X: stretches of runs put together; marks; what is reached alone is kept. -/
import Derived.Test.YtdlofomblpdiaaaGreatKsW
namespace Go.Ks
noncomputable section
variable {P : Program} {w0 : World} {O : Nat → Prop} {I0 : Imm} {φ φ' : Emb} {G G' : List GObj} {w w' : World}

/-- The beginning of a stretch. -/
theorem Ctx.self (h : WRel φ G w) : Ctx w (Own φ G) φ.I φ G w := ⟨h, Fr.refl w, fun b c hb => .inl hb⟩
theorem Ctx.trans (h : Ctx w0 O I0 φ G w) (k : Ctx w (Own φ G) φ.I φ' G' w') : Ctx w0 O I0 φ' G' w' := by
  have hown : ∀ b, Own φ G b → O b ∨ w0.heap.size ≤ b := by
    rintro b ⟨g, o, hg, hl, rfl⟩
    exact h.fr.own g o hg hl
  refine ⟨k.rel, ⟨?_, k.fr.os.trans h.fr.os, k.fr.tape.trans h.fr.tape, k.fr.output.trans h.fr.output, ?_, ?_⟩, ?_⟩
  · have := h.fr.size; have := k.fr.size; omega
  · intro b hb ho
    rw [k.fr.same b (Nat.lt_of_lt_of_le hb h.fr.size) fun hq => ?_]
    · exact h.fr.same b hb ho
    · rcases hown b hq with h1 | h1
      · exact ho h1
      · omega
  · intro g o hg hl
    rcases k.fr.own g o hg hl with h1 | h1
    · exact hown _ h1
    · right; have := h.fr.size; omega
  · intro b c hb
    rcases k.immn b c hb with h1 | h1 | h1
    · exact h.immn b c h1
    · exact .inr (hown b h1)
    · right; right; have := h.fr.size; omega

theorem Ctx.kill (h : Ctx w0 O I0 φ G w) (g : Nat) : Ctx w0 O I0 φ (G.set g .dead) w := h.note g .dead rfl fun _ => trivial

/-- The marks of ranges over functions, among an activation's deferred calls. -/
def Marked (B : Nat) (φ : Emb) (G : List GObj) (w : World) : List Deferred → Prop
  | [] => True
  | d :: ds => (∃ r, d = { target := .collected r, args := #[] } ∧ w.heap[r]? = some (.deferred (some [])) ∧ ¬ Own φ G r ∧ B ≤ r ∧ ∀ d' ∈ ds, d'.target ≠ .collected r) ∧ Marked B φ G w ds
theorem Marked.after {B : Nat} (k : Ctx w (Own φ G) φ.I φ' G' w') : ∀ {ds : List Deferred}, Marked B φ G w ds → Marked B φ' G' w' ds
  | [], _ => trivial
  | d :: ds, h => by
    obtain ⟨⟨r, e, h1, h2, h3, h4⟩, h5⟩ := h
    have hlt := (Array.getElem?_eq_some_iff.1 h1).1
    refine ⟨⟨r, e, by rw [k.fr.same r hlt h2]; exact h1, ?_, h3, h4⟩, Marked.after k h5⟩
    rintro ⟨g, o, hg, hl, hb⟩
    rcases k.fr.own g o hg hl with hq | hq
    · exact h2 (hb ▸ hq)
    · omega
/-- A block that is no own one is turned. -/
theorem Ctx.aside (h : Ctx w0 O I0 φ G w) {r : Nat} {ob ob' : Obj} (h1 : w.heap[r]? = some ob) (hc : ∀ xs e fr, ob ≠ .cells xs e fr) (h2 : ¬ Own φ G r) (h3 : w0.heap.size ≤ r) : Ctx w0 O I0 φ G { w with heap := w.heap.setIfInBounds r ob' } := by
  have hne : ∀ b, b ≠ r → (w.heap.setIfInBounds r ob')[b]? = w.heap[b]? := fun b hb => by simp [Array.getElem?_setIfInBounds, Ne.symm hb]
  refine ⟨⟨h.rel.n, ?_, h.rel.inj, ?_, h.rel.apart⟩, ⟨by simpa using h.fr.size, h.fr.os, h.fr.tape, h.fr.output, ?_, h.fr.own⟩, h.immn⟩
  · intro g o hg
    refine GObj.rel_ext (Ext.refl φ) (h.rel.lt hg) (fun hl => hne _ fun e => h2 ⟨g, o, hg, hl, e⟩) (h.rel.obj g o hg)
  · intro b c hb
    obtain ⟨e, fr, he⟩ := h.rel.imm b c hb
    refine ⟨e, fr, ?_⟩
    show (w.heap.setIfInBounds r ob')[b]? = _
    rw [hne b fun e' => ?_]
    · exact he
    · subst e'
      rw [he] at h1
      cases h1
      exact hc _ _ _ rfl
  · intro b hb ho
    show (w.heap.setIfInBounds r ob')[b]? = _
    rw [hne b (by omega)]
    exact h.fr.same b hb ho

theorem leaves_marks {fn : Func} {tmps : Array Value} {R : Ending → World → Prop} {F : Fence} {n : Nat} (hres : ∀ w, Ctx w0 O I0 φ G w → (∃ v, (results fn tmps).run P w = .ok v w ∧ R (.returned v) w)) : ∀ (ds : List Deferred) (w : World), Ctx w0 O I0 φ G w → Marked w0.heap.size φ G w ds → LeavesInM F n P fn tmps R ds .returning w
  | [], w, h, _ => hres w h
  | d :: ds, w, h, hm => by
    obtain ⟨⟨r, rfl, h1, h2, h3, h4⟩, h5⟩ := hm
    refine ⟨by simp, .inl ⟨r, { w with heap := w.heap.setIfInBounds r (.deferred none) }, rfl, ?_, ?_⟩⟩
    · simp [Instr.takeDeferred, getObj, setObj, Sem.run, h1, Result.andThen]
    · refine leaves_marks hres ds _ (h.aside h1 (fun _ _ _ e => by cases e) h2 h3) ?_
      -- the other marks stand as they stood
      have : ∀ (es : List Deferred), (∀ d' ∈ es, d'.target ≠ .collected r) → Marked w0.heap.size φ G w es → Marked w0.heap.size φ G { w with heap := w.heap.setIfInBounds r (.deferred none) } es := by
        intro es
        induction es with
        | nil => intro _ _; trivial
        | cons e es ih =>
          intro hne hm
          obtain ⟨⟨r', rfl, k1, k2, k3, k4⟩, k5⟩ := hm
          refine ⟨⟨r', rfl, ?_, k2, k3, k4⟩, ih (fun d' hd' => hne d' (by simp [hd'])) k5⟩
          have : r' ≠ r := fun e => hne _ (List.mem_cons_self ..) (by rw [e])
          show (w.heap.setIfInBounds r _)[r']? = _
          simp [Array.getElem?_setIfInBounds, Ne.symm this, k1]
      exact this ds h4 h5

/-! ### What is reached alone is kept -/
/-- The numbers that a value, and the first so many objects, reach. -/
def kept (m : Nat) (x : AV) (G : List GObj) : List Nat := reach G (8 * G.length + 8 * x.refs.length + 100) ((List.range m).flatMap (fun g => (G.getD g .dead).refs) ++ x.refs) (List.range m)
def keepOk (m : Nat) (x : AV) (G : List GObj) (σ : List Nat) : Bool :=
  subset x.refs σ && (nodup σ && ((σ.all fun g => decide (g < G.length) && subset (G.getD g .dead).refs σ) && (decide (m ≤ σ.length) && (List.range m).all fun g => decide (σ.getD g G.length = g))))
def compact (m : Nat) (r : AV × List GObj) : AV × List GObj :=
  let σ := kept m r.1 r.2
  if keepOk m r.1 r.2 σ = true then (r.1.ren (fun g => σ.idxOf g), σ.map fun g => (r.2.getD g .dead).ren (fun g => σ.idxOf g)) else r
theorem compact_sound {m : Nat} (hφ : φ.n = m) (hx : Ext φ φ') {r : AV × List GObj} {v : Value} (h : Ctx w0 O I0 φ' r.2 w) (hv : AV.rel φ' r.1 v) : ∃ φ2, Ext φ φ2 ∧ Ctx w0 O I0 φ2 (compact m r).2 w ∧ AV.rel φ2 (compact m r).1 v := by
  unfold compact
  simp only
  split
  · rename_i hok
    generalize kept m r.1 r.2 = σ at hok
    simp only [keepOk, Bool.and_eq_true, decide_eq_true_eq] at hok
    obtain ⟨k1, k2, k3, k4, k5⟩ := hok
    have hL : Local φ' r.2 [r.1] σ (AV.renL (fun g => σ.idxOf g) [r.1]) (σ.map fun g => (r.2.getD g .dead).ren (fun g => σ.idxOf g)) := by
      refine ⟨?_, k2, fun g hg => ?_, fun g hg => ?_, rfl, rfl⟩
      · simp only [AV.refsL, List.append_nil]
        exact subset_mem k1
      · have := List.all_eq_true.1 k3 g hg
        simp only [Bool.and_eq_true, decide_eq_true_eq] at this
        exact this.1
      · have := List.all_eq_true.1 k3 g hg
        simp only [Bool.and_eq_true, decide_eq_true_eq] at this
        exact subset_mem this.2
    have hfix : ∀ g, g < φ.n → σ.getD g 0 = g := by
      intro g hg
      have h1 := List.all_eq_true.1 k5 g (by simp; omega)
      have h2 := of_decide_eq_true h1
      have hlt : g < σ.length := by omega
      rw [List.getD_eq_getElem?_getD, List.getElem?_eq_getElem hlt] at h2 ⊢
      exact h2
    have hs := down_same hL
    refine ⟨φ'.down σ, ⟨by show φ.n ≤ σ.length; omega, fun b c e => hx.I b c e, fun g hg => ?_, fun g hg => ?_, fun g hg => ?_, fun g hg => ?_⟩, ⟨down_rel h.rel hL, ⟨h.fr.size, h.fr.os, h.fr.tape, h.fr.output, h.fr.same, ?_⟩, h.immn⟩, AV.ren_rel hs _ _ ?_ hv⟩
    · show φ'.blk (σ.getD g 0) = _; rw [hfix g hg, hx.blk g hg]
    · show φ'.bas (σ.getD g 0) = _; rw [hfix g hg, hx.bas g hg]
    · show φ'.siz (σ.getD g 0) = _; rw [hfix g hg, hx.siz g hg]
    · show φ'.esz (σ.getD g 0) = _; rw [hfix g hg, hx.esz g hg]
    · intro i o hi hl
      obtain ⟨g, p, q1, q2, rfl, q4, q5⟩ := down_get hL hi
      rw [GObj.ren_live] at hl
      rw [q4]
      exact h.fr.own g p q2 hl
    · intro g hg
      exact subset_mem k1 g hg
  · exact ⟨φ', hx, h, hv⟩

/-! ### Answers that do not hang on the choice -/
def M.leaves {α : Type} : M α → Option (List α)
  | .ret a => some [a]
  | .fail => none
  | .pick n k => (List.range n).foldr (fun i acc => match (k i).leaves, acc with
    | some xs, some ys => some (xs ++ ys)
    | _, _ => none) (some [])
theorem leaves_pick {α : Type} {k : Nat → M α} : ∀ {l : List Nat} {xs : List α}, l.foldr (fun i acc => match (k i).leaves, acc with
    | some xs, some ys => some (xs ++ ys)
    | _, _ => none) (some []) = some xs → ∀ i ∈ l, ∃ ys, (k i).leaves = some ys ∧ ∀ y ∈ ys, y ∈ xs
  | [], xs, h, i, hi => by simp at hi
  | j :: l, xs, h, i, hi => by
    simp only [List.foldr_cons] at h
    split at h
    · rename_i ys zs h1 h2
      cases h
      rcases List.mem_cons.1 hi with rfl | hi
      · exact ⟨ys, h1, fun y hy => by simp [hy]⟩
      · obtain ⟨us, q1, q2⟩ := leaves_pick h2 i hi
        exact ⟨us, q1, fun y hy => by simp [q2 y hy]⟩
    · simp at h
theorem M.all_leaves {α : Type} {Q : α → Prop} (m : M α) : ∀ {xs : List α}, m.leaves = some xs → (∀ x ∈ xs, Q x) → m.all Q := by
  induction m with
  | ret a => intro xs h hq; cases h; exact hq a (by simp)
  | fail => intro xs h _; simp [M.leaves] at h
  | pick n k ih =>
    intro xs h hq i hi
    simp only [M.leaves] at h
    obtain ⟨ys, h1, h2⟩ := leaves_pick h i (by simpa using hi)
    exact ih i h1 fun y hy => hq y (h2 y hy)

def sameG : List GObj → List GObj → Bool
  | [], [] => true
  | x :: xs, y :: ys => GObj.same x y && sameG xs ys
  | _, _ => false
theorem sameG_sound : ∀ (x y : List GObj), sameG x y = true → x = y
  | [], [], _ => rfl
  | [], _ :: _, h => by simp [sameG] at h
  | _ :: _, [], h => by simp [sameG] at h
  | x :: xs, y :: ys, h => by
    simp only [sameG, Bool.and_eq_true] at h
    rw [GObj.same_sound _ _ h.1, sameG_sound xs ys h.2]
/-- All answers are one: that one. -/
def settleM (m : M (AV × List GObj)) : M (AV × List GObj) := match m with
  | .pick n k => match (M.pick n k).leaves with
    | some (x :: xs) => if xs.all (fun y => AV.same x.1 y.1 && sameG x.2 y.2) = true then .ret x else .pick n k
    | _ => .pick n k
  | m => m
theorem settle_all {m : M (AV × List GObj)} {Q : AV × List GObj → Prop} (h : (settleM m).all Q) : m.all Q := by
  unfold settleM at h
  split at h
  · rename_i n k
    split at h
    · rename_i x xs hl
      split at h
      · rename_i hc
        refine M.all_leaves _ hl fun y hy => ?_
        rcases List.mem_cons.1 hy with rfl | hy
        · exact h
        · have := List.all_eq_true.1 hc y hy
          simp only [Bool.and_eq_true] at this
          rw [← Prod.ext (AV.same_sound _ _ this.1) (sameG_sound _ _ this.2)]
          exact h
      · exact h
    · exact h
  · exact h
end
end Go.Ks
