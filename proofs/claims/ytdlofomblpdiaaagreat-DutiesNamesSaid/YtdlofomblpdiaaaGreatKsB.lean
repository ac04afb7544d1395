/- An abstract evaluator for the model's code, part B: answers that may hang on an order; what memory operations do to what is known. -/
import Derived.Test.YtdlofomblpdiaaaGreatKsA
namespace Go.Ks
noncomputable section

/-- An answer; none; or one that hangs on a choice that is not ours. -/
inductive M (α : Type) where
  | ret (a : α)
  | fail
  | pick (n : Nat) (k : Nat → M α)
def M.bind {α β : Type} : M α → (α → M β) → M β
  | .ret a, f => f a
  | .fail, _ => .fail
  | .pick n k, f => .pick n fun i => (k i).bind f
def M.all {α : Type} : M α → (α → Prop) → Prop
  | .ret a, Q => Q a
  | .fail, _ => False
  | .pick n k, Q => ∀ i, i < n → (k i).all Q
def M.of {α : Type} : Option α → M α
  | some a => .ret a
  | none => .fail
theorem M.all_bind {α β : Type} {m : M α} {f : α → M β} {Q : β → Prop} : (m.bind f).all Q ↔ m.all fun a => (f a).all Q := by
  induction m with
  | ret a => rfl
  | fail => rfl
  | pick n k ih => simp only [M.bind, M.all, ih]
theorem M.all_mono {α : Type} {m : M α} {Q R : α → Prop} (h : m.all Q) (hq : ∀ a, Q a → R a) : m.all R := by
  induction m with
  | ret a => exact hq a h
  | fail => exact h
  | pick n k ih => exact fun i hi => ih i (h i hi)
theorem M.all_of {α : Type} {x : Option α} {Q : α → Prop} (h : (M.of x).all Q) : ∃ a, x = some a ∧ Q a := by
  cases x with
  | none => exact h.elim
  | some a => exact ⟨a, rfl, h⟩

/-- What is known of a world at a place of a run that began at w0, where the blocks O were own and I0 stood still. -/
structure Ctx (w0 : World) (O : Nat → Prop) (I0 : Imm) (φ : Emb) (G : List GObj) (w : World) : Prop where
  rel : WRel φ G w
  fr : Fr w0 O φ G w
  immn : ∀ b c, φ.I b = some c → I0 b = some c ∨ O b ∨ w0.heap.size ≤ b

section
variable {w0 : World} {O : Nat → Prop} {I0 : Imm} {φ : Emb} {G : List GObj} {w : World}

theorem Ctx.drew (h : Ctx w0 O I0 φ G w) : Ctx w0 O I0 φ G { w with drawn := w.drawn + 1 } :=
  ⟨h.rel.heap rfl, h.fr.heap rfl rfl rfl rfl, h.immn⟩

/-- A new object. -/
def Emb.push (φ : Emb) (b bas siz esz : Nat) : Emb :=
  { n := φ.n + 1, I := φ.I, blk := fun g => if g = φ.n then b else φ.blk g, bas := fun g => if g = φ.n then bas else φ.bas g, siz := fun g => if g = φ.n then siz else φ.siz g, esz := fun g => if g = φ.n then esz else φ.esz g }
theorem Emb.push_ext (φ : Emb) (b bas siz esz : Nat) : Ext φ (φ.push b bas siz esz) :=
  ⟨Nat.le_succ _, fun _ _ h => h, fun g hg => by simp [Emb.push, Nat.ne_of_lt hg], fun g hg => by simp [Emb.push, Nat.ne_of_lt hg], fun g hg => by simp [Emb.push, Nat.ne_of_lt hg], fun g hg => by simp [Emb.push, Nat.ne_of_lt hg]⟩
theorem Emb.push_blk (φ : Emb) (b bas siz esz : Nat) : (φ.push b bas siz esz).blk φ.n = b := by simp [Emb.push]
theorem Emb.push_bas (φ : Emb) (b bas siz esz : Nat) : (φ.push b bas siz esz).bas φ.n = bas := by simp [Emb.push]
theorem Emb.push_siz (φ : Emb) (b bas siz esz : Nat) : (φ.push b bas siz esz).siz φ.n = siz := by simp [Emb.push]
theorem Emb.push_esz (φ : Emb) (b bas siz esz : Nat) : (φ.push b bas siz esz).esz φ.n = esz := by simp [Emb.push]

theorem get_push {G : List GObj} {o o' : GObj} {g : Nat} (h : (G ++ [o])[g]? = some o') : (G[g]? = some o' ∧ g < G.length) ∨ (g = G.length ∧ o' = o) := by
  rcases Nat.lt_trichotomy g G.length with hg | hg | hg
  · rw [List.getElem?_append_left hg] at h
    exact .inl ⟨h, hg⟩
  · subst hg
    simp only [List.getElem?_concat_length, Option.some.injEq] at h
    exact .inr ⟨rfl, h.symm⟩
  · rw [List.getElem?_eq_none (by simp; omega)] at h
    simp at h

theorem heap_push_old {w : World} (o : Obj) {b : Nat} (h : b < w.heap.size) : (w.heap.push o)[b]? = w.heap[b]? := by
  rw [Array.getElem?_push, if_neg (Nat.ne_of_lt h)]
theorem heap_push_new {w : World} (o : Obj) : (w.heap.push o)[w.heap.size]? = some o := by simp

theorem Ctx.new (h : Ctx w0 O I0 φ G w) (o : GObj) (obj : Obj) (siz esz : Nat)
    (hr : GObj.rel (φ.push w.heap.size 0 siz esz) { w with heap := w.heap.push obj } φ.n o) :
    Ctx w0 O I0 (φ.push w.heap.size 0 siz esz) (G ++ [o]) { w with heap := w.heap.push obj } := by
  have hx := Emb.push_ext φ w.heap.size 0 siz esz
  have hn := h.rel.n
  have hblk : ∀ g o', G[g]? = some o' → g < G.length → (φ.push w.heap.size 0 siz esz).blk g = φ.blk g := fun g o' _ hg => hx.blk g (by omega)
  refine ⟨⟨by simp [Emb.push, hn], ?_, ?_, ?_, ?_⟩, ⟨?_, h.fr.os, h.fr.tape, h.fr.output, ?_, ?_⟩, h.immn⟩
  · intro g o' hg
    rcases get_push hg with ⟨hg, hlt⟩ | ⟨rfl, rfl⟩
    · exact GObj.rel_ext hx (by omega) (fun hl => heap_push_old obj (h.rel.blk_lt hg hl)) (h.rel.obj g o' hg)
    · rw [← hn]; exact hr
  · intro g g' o1 o2 h1 h2 l1 l2 e
    rcases get_push h1 with ⟨k1, hlt1⟩ | ⟨q1, r1⟩ <;> rcases get_push h2 with ⟨k2, hlt2⟩ | ⟨q2, r2⟩
    · rw [hblk g o1 k1 hlt1, hblk g' o2 k2 hlt2] at e
      exact h.rel.inj g g' o1 o2 k1 k2 l1 l2 e
    · rw [hblk g o1 k1 hlt1, q2, ← hn, Emb.push_blk] at e
      have := h.rel.blk_lt k1 l1
      omega
    · rw [hblk g' o2 k2 hlt2, q1, ← hn, Emb.push_blk] at e
      have := h.rel.blk_lt k2 l2
      omega
    · rw [q1, q2]
  · intro b c hb
    obtain ⟨e, fr, he⟩ := h.rel.imm b c hb
    exact ⟨e, fr, by rw [heap_push_old obj (Array.getElem?_eq_some_iff.1 he).1]; exact he⟩
  · intro g o' hg hl
    rcases get_push hg with ⟨hg, hlt⟩ | ⟨rfl, rfl⟩
    · rw [hblk g o' hg hlt]; exact h.rel.apart g o' hg hl
    · rw [← hn, Emb.push_blk]
      show φ.I _ = none
      cases hc : φ.I w.heap.size with
      | none => rfl
      | some c =>
        obtain ⟨e, fr, he⟩ := h.rel.imm _ c hc
        have := (Array.getElem?_eq_some_iff.1 he).1
        omega
  · have := h.fr.size; simp; omega
  · intro b hb ho
    rw [heap_push_old obj (Nat.lt_of_lt_of_le hb h.fr.size)]
    exact h.fr.same b hb ho
  · intro g o' hg hl
    rcases get_push hg with ⟨hg, hlt⟩ | ⟨rfl, rfl⟩
    · rw [hblk g o' hg hlt]; exact h.fr.own g o' hg hl
    · rw [← hn, Emb.push_blk]; exact .inr h.fr.size

theorem get_set {G : List GObj} {o o' : GObj} {g k : Nat} (h : (G.set g o)[k]? = some o') : (k ≠ g ∧ G[k]? = some o') ∨ (k = g ∧ o' = o ∧ g < G.length) := by
  by_cases e : k = g
  · subst e
    rw [List.getElem?_set] at h
    simp only [if_true] at h
    split at h
    · rename_i hlt; exact .inr ⟨rfl, (Option.some.inj h).symm, hlt⟩
    · simp at h
  · rw [List.getElem?_set_ne (Ne.symm e)] at h
    exact .inl ⟨e, h⟩

/-- An own object is written. -/
theorem Ctx.upd (h : Ctx w0 O I0 φ G w) {g : Nat} {o : GObj} (hg : G[g]? = some o) (hl : o.live = true) (o' : GObj) (w' : World)
    (hs : w'.heap.size = w.heap.size) (hsame : ∀ b, b ≠ φ.blk g → w'.heap[b]? = w.heap[b]?) (e1 : w'.os = w.os) (e2 : w'.tape = w.tape) (e3 : w'.output = w.output)
    (hr : o' ≠ .dead → GObj.rel φ w' g o') : Ctx w0 O I0 φ (G.set g o') w' := by
  have hother : ∀ k o2, k ≠ g → G[k]? = some o2 → o2.live = true → φ.blk k ≠ φ.blk g := fun k o2 hk h2 l2 e => hk (h.rel.inj k g o2 o h2 hg l2 hl e)
  refine ⟨⟨by simp [h.rel.n], ?_, ?_, ?_, ?_⟩, ⟨by rw [hs]; exact h.fr.size, e1.trans h.fr.os, e2.trans h.fr.tape, e3.trans h.fr.output, ?_, ?_⟩, h.immn⟩
  · intro k o2 hk
    rcases get_set hk with ⟨hne, hk⟩ | ⟨rfl, rfl, _⟩
    · exact GObj.rel_ext (Ext.refl φ) (h.rel.lt hk) (fun l2 => hsame _ (hother k o2 hne hk l2)) (h.rel.obj k o2 hk)
    · by_cases l2 : o2 = .dead
      · subst l2; trivial
      · exact hr l2
  · intro k k' o1 o2 h1 h2 l1 l2 e
    rcases get_set h1 with ⟨hne1, k1⟩ | ⟨q1, r1, _⟩ <;> rcases get_set h2 with ⟨hne2, k2⟩ | ⟨q2, r2, _⟩
    · exact h.rel.inj k k' o1 o2 k1 k2 l1 l2 e
    · exact absurd (q2 ▸ e) (hother k o1 hne1 k1 l1)
    · exact absurd (q1 ▸ e).symm (hother k' o2 hne2 k2 l2)
    · rw [q1, q2]
  · intro b c hb
    obtain ⟨e, fr, he⟩ := h.rel.imm b c hb
    refine ⟨e, fr, (hsame b fun eb => ?_).trans he⟩
    have := h.rel.apart g o hg hl
    rw [← eb, hb] at this
    simp at this
  · intro k o2 hk l2
    rcases get_set hk with ⟨hne, hk⟩ | ⟨rfl, rfl, _⟩
    · exact h.rel.apart k o2 hk l2
    · exact h.rel.apart k o hg hl
  · intro b hb ho
    rw [hsame b fun eb => ?_]
    · exact h.fr.same b hb ho
    · rcases h.fr.own g o hg hl with h1 | h1
      · exact ho (eb ▸ h1)
      · omega
  · intro k o2 hk l2
    rcases get_set hk with ⟨hne, hk⟩ | ⟨rfl, rfl, _⟩
    · exact h.fr.own k o2 hk l2
    · exact h.fr.own k o hg hl

/-- An own row that nobody writes any more. -/
def Emb.still (φ : Emb) (b : Nat) (c : List Value) : Emb := { φ with I := fun x => if x = b then some c else φ.I x }
theorem Ctx.freeze (h : Ctx w0 O I0 φ G w) {g : Nat} {o : GObj} (hg : G[g]? = some o) (hl : o.live = true) {vs : List Value} {e : TypeId} {fr : Nat × Nat} (hb : w.heap[φ.blk g]? = some (.cells vs.toArray e fr)) :
    Ext φ (φ.still (φ.blk g) vs) ∧ Ctx w0 O I0 (φ.still (φ.blk g) vs) (G.set g .dead) w := by
  have hap := h.rel.apart g o hg hl
  have hx : Ext φ (φ.still (φ.blk g) vs) := ⟨Nat.le_refl _, fun b c hc => by
    simp only [Emb.still]
    split
    · rename_i eb; rw [eb, hap] at hc; simp at hc
    · exact hc, fun _ _ => rfl, fun _ _ => rfl, fun _ _ => rfl, fun _ _ => rfl⟩
  have hother : ∀ k o2, k ≠ g → G[k]? = some o2 → o2.live = true → φ.blk k ≠ φ.blk g := fun k o2 hk h2 l2 e => hk (h.rel.inj k g o2 o h2 hg l2 hl e)
  refine ⟨hx, ⟨by simp [Emb.still, h.rel.n], ?_, ?_, ?_, ?_⟩, ⟨h.fr.size, h.fr.os, h.fr.tape, h.fr.output, h.fr.same, ?_⟩, ?_⟩
  · intro k o2 hk
    rcases get_set hk with ⟨hne, hk⟩ | ⟨rfl, rfl, _⟩
    · exact GObj.rel_ext hx (h.rel.lt hk) (fun _ => rfl) (h.rel.obj k o2 hk)
    · trivial
  · intro k k' o1 o2 h1 h2 l1 l2 e
    rcases get_set h1 with ⟨hne1, h1⟩ | ⟨rfl, rfl, _⟩
    · rcases get_set h2 with ⟨hne2, h2⟩ | ⟨rfl, rfl, _⟩
      · exact h.rel.inj k k' o1 o2 h1 h2 l1 l2 e
      · simp [GObj.live] at l2
    · simp [GObj.live] at l1
  · intro b c hc
    simp only [Emb.still] at hc
    split at hc
    · rename_i eb
      obtain rfl := Option.some.inj hc
      subst eb
      exact ⟨e, fr, hb⟩
    · exact h.rel.imm b c hc
  · intro k o2 hk l2
    rcases get_set hk with ⟨hne, hk⟩ | ⟨rfl, rfl, _⟩
    · simp only [Emb.still]
      rw [if_neg (hother k o2 hne hk l2)]
      exact h.rel.apart k o2 hk l2
    · simp [GObj.live] at l2
  · intro k o2 hk l2
    rcases get_set hk with ⟨hne, hk⟩ | ⟨rfl, rfl, _⟩
    · exact h.fr.own k o2 hk l2
    · simp [GObj.live] at l2
  · intro b c hc
    simp only [Emb.still] at hc
    split at hc
    · rename_i eb
      subst eb
      exact .inr (h.fr.own g o hg hl)
    · exact h.immn b c hc

/-- A number is given to what is no block of its own. -/
theorem Ctx.note (h : Ctx w0 O I0 φ G w) (g : Nat) (o' : GObj) (hl : o'.live = false) (hr : g < G.length → GObj.rel φ w g o') : Ctx w0 O I0 φ (G.set g o') w := by
  have hget : ∀ (k : Nat) (o2 : GObj), (G.set g o')[k]? = some o2 → o2.live = true → G[k]? = some o2 := by
    intro k o2 hk l2
    rcases get_set hk with ⟨_, hk⟩ | ⟨_, rfl, _⟩
    · exact hk
    · rw [hl] at l2; cases l2
  refine ⟨⟨by simp [h.rel.n], ?_, ?_, h.rel.imm, ?_⟩, ⟨h.fr.size, h.fr.os, h.fr.tape, h.fr.output, h.fr.same, ?_⟩, h.immn⟩
  · intro k o2 hk
    rcases get_set hk with ⟨_, hk⟩ | ⟨rfl, rfl, hlt⟩
    · exact h.rel.obj k o2 hk
    · exact hr hlt
  · intro k k' o1 o2 h1 h2 l1 l2 e
    exact h.rel.inj k k' o1 o2 (hget k o1 h1 l1) (hget k' o2 h2 l2) l1 l2 e
  · intro k o2 hk l2
    exact h.rel.apart k o2 (hget k o2 hk l2) l2
  · intro k o2 hk l2
    exact h.fr.own k o2 (hget k o2 hk l2) l2
theorem Ctx.freezeIce (h : Ctx w0 O I0 φ G w) {g : Nat} {esz : Nat} {xs : List PV} (hg : G[g]? = some (.arr esz xs)) {vs : List Value} {e : TypeId} {fr : Nat × Nat} (hb : w.heap[φ.blk g]? = some (.cells vs.toArray e fr)) :
    Ext φ (φ.still (φ.blk g) vs) ∧ Ctx w0 O I0 (φ.still (φ.blk g) vs) (G.set g (.ice esz xs)) w := by
  obtain ⟨hx1, hx2⟩ := h.freeze hg rfl hb
  obtain ⟨hz, vs', e', fr', h1, hlo, h2, h3, h4⟩ := h.rel.obj g _ hg
  rw [hb] at h1
  simp only [Option.some.injEq, Obj.cells.injEq] at h1
  have hv : vs = vs' := by simpa using h1.1
  subst hv
  refine ⟨hx1, ?_⟩
  have := hx2.note g (.ice esz xs) rfl (fun _ => ⟨hz, vs, by simp [Emb.still], h2, h3, PV.relE_mono hx1.I _ _ _ h4⟩)
  rw [List.set_set] at this
  exact this
/-- A row that may be read. -/
def rowAt (G : List GObj) (g : Nat) : Option (Nat × List PV) := match G[g]? with
  | some (.arr esz xs) => some (esz, xs)
  | some (.ice esz xs) => some (esz, xs)
  | _ => none
theorem Ctx.readRow (h : Ctx w0 O I0 φ G w) {g : Nat} {esz : Nat} {xs : List PV} (hg : rowAt G g = some (esz, xs)) :
    φ.esz g = esz ∧ ∃ (vs : List Value) (e : TypeId) (fr : Nat × Nat), w.heap[φ.blk g]? = some (.cells vs.toArray e fr) ∧ vs.length = φ.siz g ∧ φ.bas g + xs.length * esz ≤ φ.siz g ∧ PV.relE φ.I esz xs (vs.drop (φ.bas g)) := by
  unfold rowAt at hg
  split at hg
  · rename_i hg'
    cases hg
    obtain ⟨hz, vs, e, fr, h1, hlo, h2, h3, h4⟩ := h.rel.obj g _ hg'
    exact ⟨hz, vs, e, fr, h1, h2, h3, h4⟩
  · rename_i hg'
    cases hg
    obtain ⟨hz, vs, h1, h2, h3, h4⟩ := h.rel.obj g _ hg'
    obtain ⟨e, fr, he⟩ := h.rel.imm _ _ h1
    exact ⟨hz, vs, e, fr, he, h2, h3, h4⟩
  · simp at hg

/-- A row's block goes over to another row (an append that found room). -/
theorem Ctx.hand (h : Ctx w0 O I0 φ G w) {g : Nat} {o : GObj} (hg : G[g]? = some o) (hl : o.live = true) (o' : GObj) (bas siz esz : Nat) (w' : World)
    (hs : w'.heap.size = w.heap.size) (hsame : ∀ b, b ≠ φ.blk g → w'.heap[b]? = w.heap[b]?) (e1 : w'.os = w.os) (e2 : w'.tape = w.tape) (e3 : w'.output = w.output)
    (hr : GObj.rel (φ.push (φ.blk g) bas siz esz) w' φ.n o') : Ctx w0 O I0 (φ.push (φ.blk g) bas siz esz) (G.set g .dead ++ [o']) w' := by
  have h1 := h.upd hg hl .dead w' hs hsame e1 e2 e3 (fun l => absurd rfl l)
  have hx := Emb.push_ext φ (φ.blk g) bas siz esz
  have hn := h.rel.n
  have hlen : (G.set g .dead).length = φ.n := by simp [hn]
  have hblk : ∀ k, k < φ.n → (φ.push (φ.blk g) bas siz esz).blk k = φ.blk k := fun k hk => hx.blk k hk
  have hne : ∀ k o2, (G.set g .dead)[k]? = some o2 → o2.live = true → φ.blk k ≠ φ.blk g := by
    intro k o2 hk l2 e
    rcases get_set hk with ⟨hne, hk⟩ | ⟨rfl, rfl, _⟩
    · exact hne (h.rel.inj k g o2 o hk hg l2 hl e)
    · simp [GObj.live] at l2
  refine ⟨⟨by simp [Emb.push, hn], ?_, ?_, h1.rel.imm, ?_⟩, ⟨h1.fr.size, h1.fr.os, h1.fr.tape, h1.fr.output, h1.fr.same, ?_⟩, h1.immn⟩
  · intro k o2 hk
    rcases get_push hk with ⟨hk, hlt⟩ | ⟨rfl, rfl⟩
    · exact GObj.rel_ext hx (by omega) (fun _ => rfl) (h1.rel.obj k o2 hk)
    · rw [hlen]; exact hr
  · intro k k' o1 o2 k1 k2 l1 l2 e
    rcases get_push k1 with ⟨j1, hlt1⟩ | ⟨q1, r1⟩ <;> rcases get_push k2 with ⟨j2, hlt2⟩ | ⟨q2, r2⟩
    · rw [hblk k (by omega), hblk k' (by omega)] at e
      exact h1.rel.inj k k' o1 o2 j1 j2 l1 l2 e
    · rw [hblk k (by omega), q2, hlen, Emb.push_blk] at e
      exact absurd e (hne k o1 j1 l1)
    · rw [hblk k' (by omega), q1, hlen, Emb.push_blk] at e
      exact absurd e.symm (hne k' o2 j2 l2)
    · rw [q1, q2]
  · intro k o2 hk l2
    rcases get_push hk with ⟨hk, hlt⟩ | ⟨rfl, rfl⟩
    · rw [hblk k (by omega)]; exact h1.rel.apart k o2 hk l2
    · rw [hlen, Emb.push_blk]; exact h.rel.apart g o hg hl
  · intro k o2 hk l2
    rcases get_push hk with ⟨hk, hlt⟩ | ⟨rfl, rfl⟩
    · rw [hblk k (by omega)]; exact h1.fr.own k o2 hk l2
    · rw [hlen, Emb.push_blk]; exact h.fr.own g o hg hl
end

end
end Go.Ks
