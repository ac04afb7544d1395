/- An abstract evaluator for the model's code, part M: calls: the own objects that a call can reach, under numbers of their own; back again. -/
import Derived.Test.YtdlofomblpdiaaaGreatKsL
namespace Go.Ks
noncomputable section

mutual
def AV.refs : AV → List Nat
  | .p _ => []
  | .ref g _ => [g]
  | .aref g _ _ => [g]
  | .sl g _ _ => [g]
  | .mp g => [g]
  | .clo _ cs => AV.refsL cs
  | .agg xs => AV.refsL xs
  | .tup xs => AV.refsL xs
  | .iface _ x => AV.refs x
  | .yld g => [g]
def AV.refsL : List AV → List Nat
  | [] => []
  | x :: xs => AV.refs x ++ AV.refsL xs
end
mutual
def AV.ren (f : Nat → Nat) : AV → AV
  | .p x => .p x
  | .ref g off => .ref (f g) off
  | .aref g i off => .aref (f g) i off
  | .sl g off len => .sl (f g) off len
  | .mp g => .mp (f g)
  | .clo c cs => .clo c (AV.renL f cs)
  | .agg xs => .agg (AV.renL f xs)
  | .tup xs => .tup (AV.renL f xs)
  | .iface t x => .iface t (AV.ren f x)
  | .yld g => .yld (f g)
def AV.renL (f : Nat → Nat) : List AV → List AV
  | [] => []
  | x :: xs => AV.ren f x :: AV.renL f xs
end
def GObj.refs : GObj → List Nat
  | .box cs => AV.refsL cs
  | .iter (some m) _ _ _ => [m]
  | .loop _ _ T _ _ _ d => d :: AV.refsL T
  | _ => []
def GObj.ren (f : Nat → Nat) : GObj → GObj
  | .box cs => .box (AV.renL f cs)
  | .iter m since seen last => .iter (m.map f) since seen last
  | .loop st pend T ps asg body d => .loop st pend (AV.renL f T) ps asg body (f d)
  | o => o
theorem GObj.ren_live (f : Nat → Nat) (o : GObj) : (o.ren f).live = o.live := by cases o <;> rfl

/-- The same places under other numbers. -/
structure Same (φ φ' : Emb) (f : Nat → Nat) (S : Nat → Prop) : Prop where
  lt : ∀ g, S g → g < φ.n → f g < φ'.n
  I : ∀ b c, φ.I b = some c → φ'.I b = some c
  blk : ∀ g, S g → g < φ.n → φ'.blk (f g) = φ.blk g
  bas : ∀ g, S g → g < φ.n → φ'.bas (f g) = φ.bas g
  siz : ∀ g, S g → g < φ.n → φ'.siz (f g) = φ.siz g
  esz : ∀ g, S g → g < φ.n → φ'.esz (f g) = φ.esz g
section
variable {φ φ' : Emb} {f : Nat → Nat} {S : Nat → Prop}
mutual
theorem AV.ren_rel (h : Same φ φ' f S) : ∀ (x : AV) (v : Value), (∀ g ∈ x.refs, S g) → AV.rel φ x v → AV.rel φ' (x.ren f) v
  | .p x, v, _, hr => PV.rel_mono h.I x v hr
  | .ref g off, v, hs, hr => by
    obtain ⟨hg, e⟩ := hr
    have hS := hs g (by simp [AV.refs])
    exact ⟨h.lt g hS hg, by rw [e, h.blk g hS hg, h.bas g hS hg]⟩
  | .aref g i off, v, hs, hr => by
    obtain ⟨hg, e⟩ := hr
    have hS := hs g (by simp [AV.refs])
    exact ⟨h.lt g hS hg, by rw [e, h.blk g hS hg, h.bas g hS hg, h.esz g hS hg]⟩
  | .sl g off len, v, hs, hr => by
    obtain ⟨hg, a, cap, e, hc, hx⟩ := hr
    have hS := hs g (by simp [AV.refs])
    refine ⟨h.lt g hS hg, a, cap, e, hc, ?_⟩
    rw [h.blk g hS hg, h.bas g hS hg, h.esz g hS hg, h.siz g hS hg]
    exact hx
  | .mp g, v, hs, hr => by
    obtain ⟨hg, e⟩ := hr
    have hS := hs g (by simp [AV.refs])
    exact ⟨h.lt g hS hg, by rw [e, h.blk g hS hg]⟩
  | .clo c cs, v, hs, hr => by
    obtain ⟨vs, e, hx⟩ := hr
    exact ⟨vs, e, AV.renL_rel h cs vs (by simpa [AV.refs] using hs) hx⟩
  | .agg xs, v, hs, hr => by
    obtain ⟨vs, e, hx⟩ := hr
    exact ⟨vs, e, AV.renL_rel h xs vs (by simpa [AV.refs] using hs) hx⟩
  | .tup xs, v, hs, hr => by
    obtain ⟨vs, e, hx⟩ := hr
    exact ⟨vs, e, AV.renL_rel h xs vs (by simpa [AV.refs] using hs) hx⟩
  | .iface t x, v, hs, hr => by
    obtain ⟨u, e, hx⟩ := hr
    exact ⟨u, e, AV.ren_rel h x u (by simpa [AV.refs] using hs) hx⟩
  | .yld g, v, hs, hr => by
    obtain ⟨hg, e⟩ := hr
    have hS := hs g (by simp [AV.refs])
    exact ⟨h.lt g hS hg, by rw [e, h.blk g hS hg]⟩
theorem AV.renL_rel (h : Same φ φ' f S) : ∀ (xs : List AV) (vs : List Value), (∀ g ∈ AV.refsL xs, S g) → AV.relL φ xs vs → AV.relL φ' (AV.renL f xs) vs
  | [], _, _, hr => hr
  | x :: xs, _, hs, hr => by
    obtain ⟨v, r, e, h1, h2⟩ := hr
    simp only [AV.refsL, List.mem_append] at hs
    exact ⟨v, r, e, AV.ren_rel h x v (fun g hg => hs g (.inl hg)) h1, AV.renL_rel h xs r (fun g hg => hs g (.inr hg)) h2⟩
end
theorem GObj.ren_rel (h : Same φ φ' f S) {w w' : World} {g : Nat} {o : GObj} (hg : g < φ.n) (hS : S g) (hs : ∀ r ∈ o.refs, S r) (hw : o.live = true → w'.heap[φ.blk g]? = w.heap[φ.blk g]?) (hr : GObj.rel φ w g o) : GObj.rel φ' w' (f g) (o.ren f) := by
  cases o with
  | box cs =>
    obtain ⟨hb, vs, e, h1, h2⟩ := hr
    exact ⟨by rw [h.bas g hS hg, hb], vs, e, by rw [h.blk g hS hg, hw rfl, h1], AV.renL_rel h _ _ hs h2⟩
  | arr esz xs =>
    obtain ⟨hz, vs, e, fr, h1, hlo, h2, h3, h4⟩ := hr
    exact ⟨by rw [h.esz g hS hg, hz], vs, e, fr, by rw [h.blk g hS hg, hw rfl, h1], hlo, by rw [h.siz g hS hg, h2], by rw [h.bas g hS hg, h.siz g hS hg]; exact h3, by rw [h.bas g hS hg]; exact PV.relE_mono h.I _ _ _ h4⟩
  | ice esz xs =>
    obtain ⟨hz, vs, h1, h2, h3, h4⟩ := hr
    exact ⟨by rw [h.esz g hS hg, hz], vs, by rw [h.blk g hS hg]; exact h.I _ _ h1, by rw [h.siz g hS hg, h2], by rw [h.bas g hS hg, h.siz g hS hg]; exact h3, by rw [h.bas g hS hg]; exact PV.relE_mono h.I _ _ _ h4⟩
  | map es bs clk =>
    obtain ⟨ms, h1, h2, h3⟩ := hr
    exact ⟨ms, by rw [h.blk g hS hg, hw rfl, h1], relM_mono h.I _ _ h2, h3⟩
  | iter m since seen last =>
    obtain ⟨hb, r, h1, h2⟩ := hr
    refine ⟨by rw [h.bas g hS hg, hb], r, by rw [h.blk g hS hg, hw rfl, h1], ?_⟩
    rcases h2 with ⟨e, e'⟩ | ⟨k, e, hk, e'⟩
    · exact .inl ⟨by rw [e]; rfl, e'⟩
    · subst e
      have hk' := hs k (by simp [GObj.refs])
      exact .inr ⟨f k, rfl, h.lt k hk' hk, by rw [e', h.blk k hk' hk]⟩
  | loop st pend T ps asg body d =>
    obtain ⟨fn, tmps, h1, h2, h3⟩ := hr
    simp only [GObj.refs, List.mem_cons, forall_eq_or_imp] at hs
    exact ⟨fn, tmps, by rw [h.blk g hS hg, hw rfl, h1, h.blk d hs.1 h3], AV.renL_rel h _ _ hs.2 h2, h.lt d hs.1 h3⟩
  | dfr => show _ = _; rw [h.blk g hS hg, hw rfl]; exact hr
  | dead => trivial
end

/-- The numbers that can be reached. -/
def reach (G : List GObj) : Nat → List Nat → List Nat → List Nat
  | 0, _, seen => seen
  | _ + 1, [], seen => seen
  | n + 1, g :: todo, seen => if seen.contains g then reach G n todo seen else reach G n ((G.getD g .dead).refs ++ todo) (seen ++ [g])
def subset (xs ys : List Nat) : Bool := xs.all fun x => ys.contains x
def nodup : List Nat → Bool
  | [] => true
  | x :: xs => !xs.contains x && nodup xs
theorem subset_mem {xs ys : List Nat} (h : subset xs ys = true) : ∀ x ∈ xs, x ∈ ys := fun x hx => by
  have := List.all_eq_true.1 h x hx
  simpa using this
theorem nodup_inj : ∀ {xs : List Nat}, nodup xs = true → ∀ (i j x : Nat), xs[i]? = some x → xs[j]? = some x → i = j
  | [], _, i, j, x, h, _ => by simp at h
  | y :: ys, hn, i, j, x, h1, h2 => by
    simp only [nodup, Bool.and_eq_true, Bool.not_eq_true'] at hn
    have hy : y ∉ ys := by simpa using hn.1
    cases i with
    | zero =>
      cases j with
      | zero => rfl
      | succ j =>
        simp only [List.getElem?_cons_zero, Option.some.injEq, List.getElem?_cons_succ] at h1 h2
        subst h1
        exact absurd (List.mem_of_getElem? h2) hy
    | succ i =>
      cases j with
      | zero =>
        simp only [List.getElem?_cons_zero, Option.some.injEq, List.getElem?_cons_succ] at h1 h2
        subst h2
        exact absurd (List.mem_of_getElem? h1) hy
      | succ j =>
        simp only [List.getElem?_cons_succ] at h1 h2
        rw [nodup_inj hn.2 i j x h1 h2]

/-- What a call is handed: the numbers it can reach; all under new ones. -/
def localize (args : List AV) (G : List GObj) : Option (List Nat × List AV × List GObj) :=
  let ρ := reach G (4 * G.length + 4 * args.length + 40) (AV.refsL args) []
  if subset (AV.refsL args) ρ = true ∧ nodup ρ = true ∧ (ρ.all fun g => decide (g < G.length) && subset (G.getD g .dead).refs ρ) = true then
    some (ρ, AV.renL (fun g => ρ.idxOf g) args, ρ.map fun g => (G.getD g .dead).ren (fun g => ρ.idxOf g))
  else none
/-- The number that an object of a call has with its caller. -/
def backOf (ρ : List Nat) (n i : Nat) : Nat := if i < ρ.length then ρ.getD i 0 else n + (i - ρ.length)
def putBack (back : Nat → Nat) : List GObj → List Nat → List GObj → List GObj
  | G, g :: ρ, o :: os => putBack back (G.set g (o.ren back)) ρ os
  | G, _, _ => G
/-- What a call leaves, under the caller's numbers. -/
def mergeBack (ρ : List Nat) (G : List GObj) (r : AV × List GObj) : Option (AV × List GObj) :=
  let m := ρ.length
  let low := fun (k : Nat) => (r.1.refs.all fun g => decide (g < k)) && (r.2.take k).all fun o => o.refs.all fun g => decide (g < k)
  let back := backOf ρ G.length
  if m ≤ r.2.length then
    if low m = true then some (r.1.ren back, putBack back G ρ (r.2.take m))
    else if low r.2.length = true then some (r.1.ren back, putBack back G ρ (r.2.take m) ++ (r.2.drop m).map (·.ren back))
    else none
  else none

theorem putBack_length (back : Nat → Nat) : ∀ (G : List GObj) (ρ : List Nat) (os : List GObj), (putBack back G ρ os).length = G.length
  | G, [], _ => by simp [putBack]
  | G, _ :: _, [] => by simp [putBack]
  | G, g :: ρ, o :: os => by rw [putBack, putBack_length back]; simp
theorem putBack_out (back : Nat → Nat) : ∀ (G : List GObj) (ρ : List Nat) (os : List GObj) (g : Nat), g ∉ ρ → (putBack back G ρ os)[g]? = G[g]?
  | G, [], _, g, _ => by simp [putBack]
  | G, _ :: _, [], g, _ => by simp [putBack]
  | G, k :: ρ, o :: os, g, h => by
    simp only [List.mem_cons, not_or] at h
    rw [putBack, putBack_out back _ ρ os g h.2, List.getElem?_set_ne (Ne.symm h.1)]
theorem putBack_in (back : Nat → Nat) : ∀ (G : List GObj) (ρ : List Nat) (os : List GObj) (i g : Nat) (o : GObj), nodup ρ = true → g < G.length → ρ[i]? = some g → os[i]? = some o → (putBack back G ρ os)[g]? = some (o.ren back)
  | G, [], _, i, g, o, _, _, h, _ => by simp at h
  | G, _ :: _, [], i, g, o, _, _, _, h => by simp at h
  | G, k :: ρ, p :: os, i, g, o, hn, hg, h1, h2 => by
    simp only [nodup, Bool.and_eq_true, Bool.not_eq_true'] at hn
    cases i with
    | zero =>
      simp only [List.getElem?_cons_zero, Option.some.injEq] at h1 h2
      subst h1; subst h2
      rw [putBack, putBack_out back _ ρ os k (by simpa using hn.1)]
      simp [hg]
    | succ i =>
      simp only [List.getElem?_cons_succ] at h1 h2
      rw [putBack]
      exact putBack_in back _ ρ os i g o hn.2 (by simpa using hg) h1 h2

/-- The blocks of own objects. -/
def Own (φ : Emb) (G : List GObj) (b : Nat) : Prop := ∃ g o, G[g]? = some o ∧ o.live = true ∧ φ.blk g = b

/-- Where a call's objects lie. -/
def Emb.down (φ : Emb) (ρ : List Nat) : Emb :=
  { n := ρ.length, I := φ.I, blk := fun i => φ.blk (ρ.getD i 0), bas := fun i => φ.bas (ρ.getD i 0), siz := fun i => φ.siz (ρ.getD i 0), esz := fun i => φ.esz (ρ.getD i 0) }

theorem idxOf_get {ρ : List Nat} {g : Nat} (h : g ∈ ρ) : ρ.idxOf g < ρ.length ∧ ρ[ρ.idxOf g]? = some g := by
  have hlt : ρ.idxOf g < ρ.length := List.idxOf_lt_length_iff.2 h
  exact ⟨hlt, by rw [List.getElem?_eq_getElem hlt, List.getElem_idxOf hlt]⟩

structure Local (φ : Emb) (G : List GObj) (args : List AV) (ρ : List Nat) (argsc : List AV) (Gc : List GObj) : Prop where
  sub : ∀ g ∈ AV.refsL args, g ∈ ρ
  nd : nodup ρ = true
  lt : ∀ g ∈ ρ, g < G.length
  cl : ∀ g ∈ ρ, ∀ r ∈ (G.getD g .dead).refs, r ∈ ρ
  ea : argsc = AV.renL (fun g => ρ.idxOf g) args
  eG : Gc = ρ.map fun g => (G.getD g .dead).ren (fun g => ρ.idxOf g)
theorem localize_sound {φ : Emb} {G : List GObj} {args : List AV} {ρ : List Nat} {argsc : List AV} {Gc : List GObj} (h : localize args G = some (ρ, argsc, Gc)) : Local φ G args ρ argsc Gc := by
  unfold localize at h
  simp only at h
  split at h
  · rename_i hc
    obtain ⟨h1, h2, h3⟩ := hc
    cases h
    refine ⟨subset_mem h1, h2, fun g hg => ?_, fun g hg => ?_, rfl, rfl⟩
    · have := List.all_eq_true.1 h3 g hg
      simp only [Bool.and_eq_true, decide_eq_true_eq] at this
      exact this.1
    · have := List.all_eq_true.1 h3 g hg
      simp only [Bool.and_eq_true, decide_eq_true_eq] at this
      exact subset_mem this.2
  · simp at h

theorem down_same {φ : Emb} {G : List GObj} {args : List AV} {ρ : List Nat} {argsc : List AV} {Gc : List GObj} (h : Local φ G args ρ argsc Gc) : Same φ (φ.down ρ) (fun g => ρ.idxOf g) (· ∈ ρ) := by
  have hg : ∀ g ∈ ρ, ρ.getD (ρ.idxOf g) 0 = g := fun g hg => by
    rw [List.getD_eq_getElem?_getD, (idxOf_get hg).2]; rfl
  exact ⟨fun g hm _ => (idxOf_get hm).1, fun _ _ e => e, fun g hm _ => by simp only [Emb.down]; rw [hg g hm], fun g hm _ => by simp only [Emb.down]; rw [hg g hm], fun g hm _ => by simp only [Emb.down]; rw [hg g hm], fun g hm _ => by simp only [Emb.down]; rw [hg g hm]⟩

theorem down_get {φ : Emb} {G : List GObj} {args : List AV} {ρ : List Nat} {argsc : List AV} {Gc : List GObj} (h : Local φ G args ρ argsc Gc) {i : Nat} {o : GObj} (hi : Gc[i]? = some o) :
    ∃ g p, ρ[i]? = some g ∧ G[g]? = some p ∧ o = p.ren (fun g => ρ.idxOf g) ∧ (φ.down ρ).blk i = φ.blk g ∧ ρ.idxOf g = i := by
  rw [h.eG, List.getElem?_map, Option.map_eq_some_iff] at hi
  obtain ⟨g, hg, rfl⟩ := hi
  have hlt := h.lt g (List.mem_of_getElem? hg)
  refine ⟨g, G[g], hg, List.getElem?_eq_getElem hlt, ?_, ?_, ?_⟩
  · rw [List.getD_eq_getElem?_getD, List.getElem?_eq_getElem hlt]; rfl
  · simp only [Emb.down]
    rw [List.getD_eq_getElem?_getD, hg]; rfl
  · exact nodup_inj h.nd _ _ g (idxOf_get (List.mem_of_getElem? hg)).2 hg

theorem down_rel {φ : Emb} {G : List GObj} {w : World} (hw : WRel φ G w) {args : List AV} {ρ : List Nat} {argsc : List AV} {Gc : List GObj} (h : Local φ G args ρ argsc Gc) : WRel (φ.down ρ) Gc w := by
  refine ⟨by rw [h.eG]; simp [Emb.down], ?_, ?_, hw.imm, ?_⟩
  · intro i o hi
    obtain ⟨g, p, h1, h2, rfl, h4, h5⟩ := down_get h hi
    have hm := List.mem_of_getElem? h1
    have := GObj.ren_rel (down_same h) (w := w) (w' := w) (hw.lt h2) hm (fun r hr => h.cl g hm r (by rw [List.getD_eq_getElem?_getD, h2]; exact hr)) (fun _ => rfl) (hw.obj g p h2)
    simp only [h5] at this
    exact this
  · intro i j o o' hi hj li lj e
    obtain ⟨g, p, h1, h2, rfl, h4, h5⟩ := down_get h hi
    obtain ⟨g', p', h1', h2', rfl, h4', h5'⟩ := down_get h hj
    rw [GObj.ren_live] at li lj
    rw [h4, h4'] at e
    have := hw.inj g g' p p' h2 h2' li lj e
    rw [← h5, ← h5', this]
  · intro i o hi li
    obtain ⟨g, p, h1, h2, rfl, h4, h5⟩ := down_get h hi
    rw [GObj.ren_live] at li
    rw [h4]
    exact hw.apart g p h2 li

theorem down_own {φ : Emb} {G : List GObj} {args : List AV} {ρ : List Nat} {argsc : List AV} {Gc : List GObj} (h : Local φ G args ρ argsc Gc) {b : Nat} : Own (φ.down ρ) Gc b → ∃ g o, g ∈ ρ ∧ G[g]? = some o ∧ o.live = true ∧ φ.blk g = b := by
  rintro ⟨i, o, hi, li, rfl⟩
  obtain ⟨g, p, h1, h2, rfl, h4, h5⟩ := down_get h hi
  rw [GObj.ren_live] at li
  exact ⟨g, p, List.mem_of_getElem? h1, h2, li, h4.symm⟩

/-- Where all lies behind a call; k: how many of its new objects are kept. -/
def Emb.up (φ φc : Emb) (m k : Nat) : Emb :=
  { n := φ.n + k, I := φc.I, blk := fun g => if g < φ.n then φ.blk g else φc.blk (m + (g - φ.n)), bas := fun g => if g < φ.n then φ.bas g else φc.bas (m + (g - φ.n)),
    siz := fun g => if g < φ.n then φ.siz g else φc.siz (m + (g - φ.n)), esz := fun g => if g < φ.n then φ.esz g else φc.esz (m + (g - φ.n)) }

theorem call_back {w0 : World} {O : Nat → Prop} {I0 : Imm} {φ : Emb} {G : List GObj} {w w' : World} (h : Ctx w0 O I0 φ G w) {args : List AV} {ρ : List Nat} {argsc : List AV} {Gc : List GObj} (hL : Local φ G args ρ argsc Gc)
    {φc : Emb} {r : AV × List GObj} {v : Value} (hx : Ext (φ.down ρ) φc) (hc : Ctx w (Own (φ.down ρ) Gc) (φ.down ρ).I φc r.2 w') (hv : AV.rel φc r.1 v) {r' : AV × List GObj} (hr : mergeBack ρ G r = some r') :
    ∃ φ', Ext φ φ' ∧ Ctx w0 O I0 φ' r'.2 w' ∧ AV.rel φ' r'.1 v := by
  have main : ∀ k, ρ.length + k ≤ r.2.length → (∀ g ∈ r.1.refs, g < ρ.length + k) → (∀ i o, i < ρ.length + k → r.2[i]? = some o → ∀ g ∈ o.refs, g < ρ.length + k) →
      ∃ φ', Ext φ φ' ∧ Ctx w0 O I0 φ' (putBack (backOf ρ G.length) G ρ (r.2.take ρ.length) ++ ((r.2.drop ρ.length).take k).map (·.ren (backOf ρ G.length))) w' ∧ AV.rel φ' (r.1.ren (backOf ρ G.length)) v := by
    intro k hk hlow hlowo
    have hn := h.rel.n
    have hm : (φ.down ρ).n = ρ.length := rfl
    have hcn := hc.rel.n
    have hsame : Same φc (φ.up φc ρ.length k) (backOf ρ G.length) (· < ρ.length + k) := by
      have hold : ∀ i, i < ρ.length → backOf ρ G.length i = ρ.getD i 0 ∧ ρ.getD i 0 < φ.n := fun i hi => by
        refine ⟨by simp [backOf, hi], ?_⟩
        rw [List.getD_eq_getElem?_getD, List.getElem?_eq_getElem hi, hn]
        exact hL.lt _ (List.getElem_mem hi)
      have hnew : ∀ i, ¬ i < ρ.length → backOf ρ G.length i = φ.n + (i - ρ.length) := fun i hi => by simp [backOf, hi, hn]
      refine ⟨fun i hi _ => ?_, fun b c e => e, fun i hi _ => ?_, fun i hi _ => ?_, fun i hi _ => ?_, fun i hi _ => ?_⟩
      · by_cases hi' : i < ρ.length
        · rw [(hold i hi').1]; have := (hold i hi').2; simp only [Emb.up]; omega
        · rw [hnew i hi']; simp only [Emb.up]; omega
      all_goals
        by_cases hi' : i < ρ.length
        · rw [(hold i hi').1]
          simp only [Emb.up, if_pos (hold i hi').2]
          first
            | rw [hx.blk i (by rw [hm]; exact hi')]; rfl
            | rw [hx.bas i (by rw [hm]; exact hi')]; rfl
            | rw [hx.siz i (by rw [hm]; exact hi')]; rfl
            | rw [hx.esz i (by rw [hm]; exact hi')]; rfl
        · rw [hnew i hi']
          simp only [Emb.up, if_neg (show ¬ φ.n + (i - ρ.length) < φ.n by omega)]
          congr 1
          omega
    have hext : Ext φ (φ.up φc ρ.length k) := ⟨Nat.le_add_right _ _, fun b c e => hx.I b c e, fun g hg => by simp [Emb.up, hg], fun g hg => by simp [Emb.up, hg], fun g hg => by simp [Emb.up, hg], fun g hg => by simp [Emb.up, hg]⟩
    -- the object at each number behind the call
    have hget : ∀ g o, (putBack (backOf ρ G.length) G ρ (r.2.take ρ.length) ++ ((r.2.drop ρ.length).take k).map (·.ren (backOf ρ G.length)))[g]? = some o →
        (g < G.length ∧ g ∉ ρ ∧ G[g]? = some o) ∨ ∃ i p, i < ρ.length + k ∧ r.2[i]? = some p ∧ o = p.ren (backOf ρ G.length) ∧ backOf ρ G.length i = g := by
      intro g o hg
      by_cases hlt : g < G.length
      · rw [List.getElem?_append_left (by rw [putBack_length]; exact hlt)] at hg
        by_cases hmem : g ∈ ρ
        · obtain ⟨hi, hi'⟩ := idxOf_get hmem
          have hp : r.2[ρ.idxOf g]? = some r.2[ρ.idxOf g] := List.getElem?_eq_getElem (by omega)
          have := putBack_in (backOf ρ G.length) G ρ (r.2.take ρ.length) (ρ.idxOf g) g _ hL.nd hlt hi' (by rw [List.getElem?_take, if_pos hi]; exact hp)
          rw [this] at hg
          refine .inr ⟨_, _, by omega, hp, (Option.some.inj hg).symm, ?_⟩
          simp only [backOf, if_pos hi]
          rw [List.getD_eq_getElem?_getD, hi']; rfl
        · rw [putBack_out _ _ _ _ _ hmem] at hg
          exact .inl ⟨hlt, hmem, hg⟩
      · rw [List.getElem?_append_right (by rw [putBack_length]; omega), putBack_length, List.getElem?_map, Option.map_eq_some_iff] at hg
        obtain ⟨p, hp, rfl⟩ := hg
        rw [List.getElem?_take] at hp
        split at hp
        · rename_i hk'
          rw [List.getElem?_drop] at hp
          refine .inr ⟨_, p, by omega, hp, rfl, ?_⟩
          simp only [backOf]
          rw [if_neg (by omega)]
          omega
        · simp at hp
    -- own blocks of others are not the call's
    have hother : ∀ g o, G[g]? = some o → o.live = true → g ∉ ρ → ¬ Own (φ.down ρ) Gc (φ.blk g) := by
      intro g o hg hl hmem ho
      obtain ⟨g', o', hm', hg', hl', e⟩ := down_own hL ho
      exact hmem ((h.rel.inj g' g o' o hg' hg hl' hl e) ▸ hm')
    have hblk : ∀ i p, i < ρ.length + k → r.2[i]? = some p → p.live = true → (φ.up φc ρ.length k).blk (backOf ρ G.length i) = φc.blk i := fun i p hi hp _ => hsame.blk i hi (hc.rel.lt hp)
    refine ⟨φ.up φc ρ.length k, hext, ⟨⟨?_, ?_, ?_, hc.rel.imm, ?_⟩, ⟨?_, ?_, ?_, ?_, ?_, ?_⟩, ?_⟩, AV.ren_rel hsame _ _ hlow hv⟩
    · simp only [Emb.up, List.length_append, putBack_length, List.length_map, List.length_take, List.length_drop, hn]
      omega
    · intro g o hg
      rcases hget g o hg with ⟨hlt, hmem, hg'⟩ | ⟨i, p, hi, hp, rfl, rfl⟩
      · refine GObj.rel_ext hext (h.rel.lt hg') (fun hl => ?_) (h.rel.obj g o hg')
        exact hc.fr.same _ (h.rel.blk_lt hg' hl) (hother g o hg' hl hmem)
      · exact GObj.ren_rel hsame (w := w') (hc.rel.lt hp) hi (hlowo i p hi hp) (fun _ => rfl) (hc.rel.obj i p hp)
    · intro g g' o o' hg hg' hl hl' e
      rcases hget g o hg with ⟨hlt, hmem, k1⟩ | ⟨i, p, hi, hp, rfl, rfl⟩ <;> rcases hget g' o' hg' with ⟨hlt', hmem', k1'⟩ | ⟨j, q, hj, hq, rfl, rfl⟩
      · rw [hext.blk g (h.rel.lt k1), hext.blk g' (h.rel.lt k1')] at e
        exact h.rel.inj g g' o o' k1 k1' hl hl' e
      · rw [GObj.ren_live] at hl'
        rw [hext.blk g (h.rel.lt k1), hblk j q hj hq hl'] at e
        rcases hc.fr.own j q hq hl' with ho | ho
        · exact absurd (e ▸ ho) (hother g o k1 hl hmem)
        · have := h.rel.blk_lt k1 hl; omega
      · rw [GObj.ren_live] at hl
        rw [hext.blk g' (h.rel.lt k1'), hblk i p hi hp hl] at e
        rcases hc.fr.own i p hp hl with ho | ho
        · exact absurd (e ▸ ho) (hother g' o' k1' hl' hmem')
        · have := h.rel.blk_lt k1' hl'; omega
      · rw [GObj.ren_live] at hl hl'
        rw [hblk i p hi hp hl, hblk j q hj hq hl'] at e
        rw [hc.rel.inj i j p q hp hq hl hl' e]
    · intro g o hg hl
      rcases hget g o hg with ⟨hlt, hmem, k1⟩ | ⟨i, p, hi, hp, rfl, rfl⟩
      · rw [hext.blk g (h.rel.lt k1)]
        show φc.I _ = none
        cases hI : φc.I (φ.blk g) with
        | none => rfl
        | some c =>
          rcases hc.immn _ c hI with h1 | h1 | h1
          · have := h.rel.apart g o k1 hl
            have h1' : φ.I (φ.blk g) = some c := h1
            rw [this] at h1'
            simp at h1'
          · exact absurd h1 (hother g o k1 hl hmem)
          · have := h.rel.blk_lt k1 hl; omega
      · rw [GObj.ren_live] at hl
        rw [hblk i p hi hp hl]
        exact hc.rel.apart i p hp hl
    · have := hc.fr.size; have := h.fr.size; omega
    · exact hc.fr.os.trans h.fr.os
    · exact hc.fr.tape.trans h.fr.tape
    · exact hc.fr.output.trans h.fr.output
    · intro b hb ho
      rw [hc.fr.same b (Nat.lt_of_lt_of_le hb h.fr.size) fun hown => ?_]
      · exact h.fr.same b hb ho
      · obtain ⟨g, o, hm', hg, hl, rfl⟩ := down_own hL hown
        rcases h.fr.own g o hg hl with h1 | h1
        · exact ho h1
        · omega
    · intro g o hg hl
      rcases hget g o hg with ⟨hlt, hmem, k1⟩ | ⟨i, p, hi, hp, rfl, rfl⟩
      · rw [hext.blk g (h.rel.lt k1)]
        exact h.fr.own g o k1 hl
      · rw [GObj.ren_live] at hl
        rw [hblk i p hi hp hl]
        rcases hc.fr.own i p hp hl with ho | ho
        · obtain ⟨g, o, hm', hg', hl', e⟩ := down_own hL ho
          rw [← e]
          exact h.fr.own g o hg' hl'
        · right
          have := h.fr.size
          omega
    · intro b c hI
      rcases hc.immn b c hI with h1 | h1 | h1
      · exact h.immn b c h1
      · obtain ⟨g, o, hm', hg', hl', e⟩ := down_own hL h1
        rw [← e]
        exact .inr (h.fr.own g o hg' hl')
      · right; right
        have := h.fr.size
        omega
  unfold mergeBack at hr
  simp only at hr
  have lows : ∀ {k : Nat}, ((r.1.refs.all fun g => decide (g < k)) && (r.2.take k).all fun o => o.refs.all fun g => decide (g < k)) = true → (∀ g ∈ r.1.refs, g < k) ∧ ∀ i o, i < k → r.2[i]? = some o → ∀ g ∈ o.refs, g < k := by
    intro k hk
    simp only [Bool.and_eq_true, List.all_eq_true, decide_eq_true_eq] at hk
    refine ⟨hk.1, fun i o hi ho => hk.2 o (List.mem_of_getElem? (i := i) (by rw [List.getElem?_take, if_pos hi]; exact ho))⟩
  split at hr
  · rename_i hm
    split at hr
    · rename_i hlow
      cases hr
      obtain ⟨l1, l2⟩ := lows hlow
      have := main 0 (by omega) (by simpa using l1) (by simpa using l2)
      simpa using this
    · split at hr
      · rename_i hlow
        cases hr
        obtain ⟨l1, l2⟩ := lows hlow
        have := main (r.2.length - ρ.length) (by omega) (by rw [show ρ.length + (r.2.length - ρ.length) = r.2.length by omega]; exact l1) (by rw [show ρ.length + (r.2.length - ρ.length) = r.2.length by omega]; exact l2)
        rw [List.take_of_length_le (l := r.2.drop ρ.length) (by simp)] at this
        exact this
      · simp at hr
  · simp at hr

end
end Go.Ks
