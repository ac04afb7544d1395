/- An abstract evaluator for the model's code, part A: abstract values, what they stand for, the worlds that fit. -/
import Derived.CallsIn
import Derived.RangeFuncLeaves
import Derived.LoopNIn
import Derived.OrdersIn
import Derived.Below
namespace Go.Ks
noncomputable section

/-- Plain values: no reference to memory that may still be written. -/
inductive PV where
  | bool (b : Bool)
  | int (k : IntKind) (n : Int)
  | str (s : ByteArray)
  | nilsl
  | list (esz : Nat) (xs : List PV)
  | agg (xs : List PV)
  | tup (xs : List PV)
  | iel (x : PV) (off : Nat)
  | nilptr
  | nilmap
  | nilfn
  | nilif
  | fn (f : FuncId)
  | iface (t : TypeId) (x : PV)
  deriving Inhabited

/-- The contents of blocks that nobody writes any more. -/
abbrev Imm := Nat → Option (List Value)

mutual
def PV.rel (I : Imm) : PV → Value → Prop
  | .bool b, v => v = .bool b
  | .int k n, v => v = .int k n
  | .str s, v => v = .string s
  | .nilsl, v => v = .slice none 0 0
  | .list esz xs, v => ∃ a cap, v = .slice a xs.length cap ∧ xs.length ≤ cap ∧ (xs = [] ∨ ∃ b o c, a = some ⟨b, o, none⟩ ∧ I b = some c ∧ PV.relE I esz xs (c.drop o))
  | .agg xs, v => ∃ vs : List Value, v = .agg vs.toArray ∧ vs.length = xs.length ∧ PV.relT I xs vs
  | .tup xs, v => ∃ vs : List Value, v = .tuple vs.toArray ∧ vs.length = xs.length ∧ PV.relT I xs vs
  | .iel x off, v => ∃ b o c n, v = .pointer (some ⟨b, o + off, none⟩) ∧ I b = some c ∧ PV.relC I n x (c.drop o)
  | .nilptr, v => v = .pointer none
  | .nilmap, v => v = .map none
  | .nilfn, v => v = .nilFunc
  | .nilif, v => v = .nilIface
  | .fn f, v => v = .func (.func f) #[] #[]
  | .iface t x, v => ∃ u, v = .iface t u ∧ PV.rel I x u
termination_by x _ => (SizeOf.sizeOf x, 0)
/-- The elements of a row, one behind the other, each of so many cells, at a list's front. -/
def PV.relE (I : Imm) (esz : Nat) : List PV → List Value → Prop
  | [], _ => True
  | x :: xs, cs => PV.relC I esz x cs ∧ PV.relE I esz xs (cs.drop esz)
termination_by xs _ => (SizeOf.sizeOf xs, 0)
/-- One element, at a list's front. -/
def PV.relC (I : Imm) (esz : Nat) : PV → List Value → Prop
  | .agg ys, cs => ys.length = esz ∧ PV.relT I ys cs
  | x, cs => esz = 1 ∧ ∃ v r, cs = v :: r ∧ PV.rel I x v
termination_by x _ => (SizeOf.sizeOf x, 1)
def PV.relT (I : Imm) : List PV → List Value → Prop
  | [], _ => True
  | x :: xs, cs => ∃ v r, cs = v :: r ∧ PV.rel I x v ∧ PV.relT I xs r
termination_by xs _ => (SizeOf.sizeOf xs, 0)
end

mutual
theorem PV.rel_mono {I I' : Imm} (h : ∀ b c, I b = some c → I' b = some c) : ∀ (x : PV) (v : Value), PV.rel I x v → PV.rel I' x v
  | .bool _, _, hr | .int _ _, _, hr | .str _, _, hr | .nilsl, _, hr | .nilptr, _, hr | .nilmap, _, hr | .nilfn, _, hr | .nilif, _, hr | .fn _, _, hr => by
    simpa [PV.rel] using hr
  | .list esz xs, v, hr => by
    simp only [PV.rel] at hr ⊢
    obtain ⟨a, cap, e, hc, hx⟩ := hr
    refine ⟨a, cap, e, hc, hx.imp id ?_⟩
    rintro ⟨b, o, c, e1, e2, e3⟩
    exact ⟨b, o, c, e1, h _ _ e2, PV.relE_mono h esz xs _ e3⟩
  | .agg xs, v, hr => by
    simp only [PV.rel] at hr ⊢
    obtain ⟨vs, e, hl, hx⟩ := hr
    exact ⟨vs, e, hl, PV.relT_mono h xs _ hx⟩
  | .tup xs, v, hr => by
    simp only [PV.rel] at hr ⊢
    obtain ⟨vs, e, hl, hx⟩ := hr
    exact ⟨vs, e, hl, PV.relT_mono h xs _ hx⟩
  | .iel x off, v, hr => by
    simp only [PV.rel] at hr ⊢
    obtain ⟨b, o, c, n, e, e1, hx⟩ := hr
    exact ⟨b, o, c, n, e, h _ _ e1, PV.relC_mono h n x _ hx⟩
  | .iface t x, v, hr => by
    simp only [PV.rel] at hr ⊢
    obtain ⟨u, e, hx⟩ := hr
    exact ⟨u, e, PV.rel_mono h x _ hx⟩
termination_by x _ _ => (SizeOf.sizeOf x, 0)
theorem PV.relE_mono {I I' : Imm} (h : ∀ b c, I b = some c → I' b = some c) (esz : Nat) : ∀ (xs : List PV) (cs : List Value), PV.relE I esz xs cs → PV.relE I' esz xs cs
  | [], _, _ => by simp [PV.relE]
  | x :: xs, cs, hr => by
    simp only [PV.relE] at hr ⊢
    exact ⟨PV.relC_mono h esz x cs hr.1, PV.relE_mono h esz xs _ hr.2⟩
termination_by xs _ _ => (SizeOf.sizeOf xs, 0)
theorem PV.relC_mono {I I' : Imm} (h : ∀ b c, I b = some c → I' b = some c) (esz : Nat) : ∀ (x : PV) (cs : List Value), PV.relC I esz x cs → PV.relC I' esz x cs
  | .agg ys, cs, hr => by
    simp only [PV.relC] at hr ⊢
    exact ⟨hr.1, PV.relT_mono h ys cs hr.2⟩
  | .bool b, cs, hr => by
    simp only [PV.relC] at hr ⊢
    obtain ⟨e, v, r, e1, hx⟩ := hr
    exact ⟨e, v, r, e1, PV.rel_mono h _ _ hx⟩
  | .int k n, cs, hr => by
    simp only [PV.relC] at hr ⊢
    obtain ⟨e, v, r, e1, hx⟩ := hr
    exact ⟨e, v, r, e1, PV.rel_mono h _ _ hx⟩
  | .str s, cs, hr => by
    simp only [PV.relC] at hr ⊢
    obtain ⟨e, v, r, e1, hx⟩ := hr
    exact ⟨e, v, r, e1, PV.rel_mono h _ _ hx⟩
  | .nilsl, cs, hr => by
    simp only [PV.relC] at hr ⊢
    obtain ⟨e, v, r, e1, hx⟩ := hr
    exact ⟨e, v, r, e1, PV.rel_mono h _ _ hx⟩
  | .list z xs, cs, hr => by
    simp only [PV.relC] at hr ⊢
    obtain ⟨e, v, r, e1, hx⟩ := hr
    exact ⟨e, v, r, e1, PV.rel_mono h _ _ hx⟩
  | .tup xs, cs, hr => by
    simp only [PV.relC] at hr ⊢
    obtain ⟨e, v, r, e1, hx⟩ := hr
    exact ⟨e, v, r, e1, PV.rel_mono h _ _ hx⟩
  | .iel x off, cs, hr => by
    simp only [PV.relC] at hr ⊢
    obtain ⟨e, v, r, e1, hx⟩ := hr
    exact ⟨e, v, r, e1, PV.rel_mono h _ _ hx⟩
  | .nilptr, cs, hr | .nilmap, cs, hr | .nilfn, cs, hr | .nilif, cs, hr => by
    simp only [PV.relC, PV.rel] at hr ⊢
    exact hr
  | .fn f, cs, hr => by
    simp only [PV.relC, PV.rel] at hr ⊢
    exact hr
  | .iface t x, cs, hr => by
    simp only [PV.relC] at hr ⊢
    obtain ⟨e, v, r, e1, hx⟩ := hr
    exact ⟨e, v, r, e1, PV.rel_mono h _ _ hx⟩
termination_by x _ _ => (SizeOf.sizeOf x, 1)
theorem PV.relT_mono {I I' : Imm} (h : ∀ b c, I b = some c → I' b = some c) : ∀ (xs : List PV) (cs : List Value), PV.relT I xs cs → PV.relT I' xs cs
  | [], _, _ => by simp [PV.relT]
  | x :: xs, cs, hr => by
    simp only [PV.relT] at hr ⊢
    obtain ⟨v, r, e, h1, h2⟩ := hr
    exact ⟨v, r, e, PV.rel_mono h x v h1, PV.relT_mono h xs _ h2⟩
termination_by xs _ _ => (SizeOf.sizeOf xs, 0)
end

def PV.isAgg : PV → Bool
  | .agg _ => true
  | _ => false
theorem PV.relC_one {I : Imm} {esz : Nat} {x : PV} {cs : List Value} (hx : x.isAgg = false) : PV.relC I esz x cs ↔ esz = 1 ∧ ∃ v r, cs = v :: r ∧ PV.rel I x v := by
  cases x <;> simp_all [PV.relC, PV.isAgg]
theorem PV.relC_agg {I : Imm} {esz : Nat} {ys : List PV} {cs : List Value} : PV.relC I esz (.agg ys) cs ↔ ys.length = esz ∧ PV.relT I ys cs := by
  simp [PV.relC]

theorem PV.relT_iff {I : Imm} : ∀ {xs : List PV} {cs : List Value}, PV.relT I xs cs ↔ ∀ (i : Nat) (x : PV), xs[i]? = some x → ∃ v, cs[i]? = some v ∧ PV.rel I x v
  | [], cs => by simp [PV.relT]
  | x :: xs, cs => by
    simp only [PV.relT]
    constructor
    · rintro ⟨v, r, rfl, h1, h2⟩ i y hy
      cases i with
      | zero =>
        simp only [List.getElem?_cons_zero, Option.some.injEq] at hy
        subst hy
        exact ⟨v, by simp, h1⟩
      | succ i =>
        simp only [List.getElem?_cons_succ] at hy ⊢
        exact PV.relT_iff.1 h2 i y hy
    · intro h
      obtain ⟨v, hv, hx⟩ := h 0 x (by simp)
      cases cs with
      | nil => simp at hv
      | cons u r =>
        simp only [List.getElem?_cons_zero, Option.some.injEq] at hv
        subst hv
        exact ⟨u, r, rfl, hx, PV.relT_iff.2 fun i y hy => by
          obtain ⟨z, hz, hz'⟩ := h (i + 1) y (by simpa using hy)
          exact ⟨z, by simpa using hz, hz'⟩⟩
theorem PV.relE_iff {I : Imm} {esz : Nat} : ∀ {xs : List PV} {cs : List Value}, PV.relE I esz xs cs ↔ ∀ (i : Nat) (x : PV), xs[i]? = some x → PV.relC I esz x (cs.drop (i * esz))
  | [], cs => by simp [PV.relE]
  | x :: xs, cs => by
    simp only [PV.relE]
    constructor
    · rintro ⟨h1, h2⟩ i y hy
      cases i with
      | zero =>
        simp only [List.getElem?_cons_zero, Option.some.injEq] at hy
        subst hy
        simpa using h1
      | succ i =>
        simp only [List.getElem?_cons_succ] at hy
        have := PV.relE_iff.1 h2 i y hy
        rw [List.drop_drop] at this
        rw [show (i + 1) * esz = esz + i * esz by rw [Nat.add_mul]; omega]
        exact this
    · intro h
      refine ⟨by simpa using h 0 x (by simp), PV.relE_iff.2 fun i y hy => ?_⟩
      have := h (i + 1) y (by simpa using hy)
      rw [List.drop_drop]
      rw [show (i + 1) * esz = esz + i * esz by rw [Nat.add_mul]; omega] at this
      exact this

/-- A value's cells. -/
def PV.cells : PV → List PV
  | .agg xs => xs
  | x => [x]
theorem PV.relC_iff {I : Imm} {esz : Nat} {x : PV} {cs : List Value} : PV.relC I esz x cs ↔ x.cells.length = esz ∧ PV.relT I x.cells cs := by
  cases hx : x.isAgg with
  | true =>
    cases x <;> simp [PV.isAgg] at hx
    simp only [PV.relC_agg, PV.cells]
  | false =>
    rw [PV.relC_one hx]
    have : x.cells = [x] := by cases x <;> simp_all [PV.cells, PV.isAgg]
    rw [this]
    simp only [PV.relT, List.length_singleton]
    constructor
    · rintro ⟨h1, v, r, h2, h3⟩; exact ⟨h1.symm, v, r, h2, h3, trivial⟩
    · rintro ⟨h1, v, r, h2, h3, _⟩; exact ⟨h1.symm, v, r, h2, h3⟩

/-- Values of frames: plain ones, and references to a small heap of own objects, by their numbers. -/
inductive AV where
  | p (x : PV)
  | ref (g off : Nat)
  | aref (g i off : Nat)
  | sl (g off len : Nat)
  | mp (g : Nat)
  | clo (f : FuncId) (caps : List AV)
  | agg (xs : List AV)
  | tup (xs : List AV)
  | iface (t : TypeId) (x : AV)
  | yld (g : Nat)
  deriving Inhabited

/-- Where the objects lie. -/
structure Emb where
  n : Nat
  I : Imm
  blk : Nat → Nat
  bas : Nat → Nat
  siz : Nat → Nat
  esz : Nat → Nat

mutual
def AV.rel (φ : Emb) : AV → Value → Prop
  | .p x, v => x.rel φ.I v
  | .ref g off, v => g < φ.n ∧ v = .pointer (some ⟨φ.blk g, φ.bas g + off, none⟩)
  | .aref g i off, v => g < φ.n ∧ v = .pointer (some ⟨φ.blk g, φ.bas g + i * φ.esz g + off, none⟩)
  | .sl g off len, v => g < φ.n ∧ ∃ a cap, v = .slice a len cap ∧ len ≤ cap ∧ ((len = 0 ∧ cap = 0) ∨ (a = some ⟨φ.blk g, φ.bas g + off * φ.esz g, none⟩ ∧ φ.bas g + (off + cap) * φ.esz g ≤ φ.siz g))
  | .mp g, v => g < φ.n ∧ v = .map (some (φ.blk g))
  | .clo f caps, v => ∃ cs : List Value, v = .func (.func f) #[] cs.toArray ∧ AV.relL φ caps cs
  | .agg xs, v => ∃ vs : List Value, v = .agg vs.toArray ∧ AV.relL φ xs vs
  | .tup xs, v => ∃ vs : List Value, v = .tuple vs.toArray ∧ AV.relL φ xs vs
  | .iface t x, v => ∃ u, v = .iface t u ∧ AV.rel φ x u
  | .yld g, v => g < φ.n ∧ v = .func (.yield (φ.blk g)) #[] #[]
def AV.relL (φ : Emb) : List AV → List Value → Prop
  | [], vs => vs = []
  | x :: xs, vs => ∃ v r, vs = v :: r ∧ AV.rel φ x v ∧ AV.relL φ xs r
end

/-- One place more, or less, is known. -/
structure Ext (φ φ' : Emb) : Prop where
  n : φ.n ≤ φ'.n
  I : ∀ b c, φ.I b = some c → φ'.I b = some c
  blk : ∀ g, g < φ.n → φ'.blk g = φ.blk g
  bas : ∀ g, g < φ.n → φ'.bas g = φ.bas g
  siz : ∀ g, g < φ.n → φ'.siz g = φ.siz g
  esz : ∀ g, g < φ.n → φ'.esz g = φ.esz g
theorem Ext.refl (φ : Emb) : Ext φ φ := ⟨Nat.le_refl _, fun _ _ h => h, fun _ _ => rfl, fun _ _ => rfl, fun _ _ => rfl, fun _ _ => rfl⟩
theorem Ext.trans {a b c : Emb} (h : Ext a b) (k : Ext b c) : Ext a c :=
  ⟨Nat.le_trans h.n k.n, fun x y e => k.I _ _ (h.I _ _ e), fun g hg => (k.blk g (Nat.lt_of_lt_of_le hg h.n)).trans (h.blk g hg), fun g hg => (k.bas g (Nat.lt_of_lt_of_le hg h.n)).trans (h.bas g hg),
   fun g hg => (k.siz g (Nat.lt_of_lt_of_le hg h.n)).trans (h.siz g hg), fun g hg => (k.esz g (Nat.lt_of_lt_of_le hg h.n)).trans (h.esz g hg)⟩

mutual
theorem AV.rel_ext {φ φ' : Emb} (h : Ext φ φ') : ∀ (x : AV) (v : Value), AV.rel φ x v → AV.rel φ' x v
  | .p x, v, hr => PV.rel_mono h.I x v hr
  | .ref g off, v, hr => by
    obtain ⟨hg, e⟩ := hr
    exact ⟨Nat.lt_of_lt_of_le hg h.n, by rw [e, h.blk g hg, h.bas g hg]⟩
  | .aref g i off, v, hr => by
    obtain ⟨hg, e⟩ := hr
    exact ⟨Nat.lt_of_lt_of_le hg h.n, by rw [e, h.blk g hg, h.bas g hg, h.esz g hg]⟩
  | .sl g off len, v, hr => by
    obtain ⟨hg, a, cap, e, hc, hx⟩ := hr
    refine ⟨Nat.lt_of_lt_of_le hg h.n, a, cap, e, hc, ?_⟩
    rw [h.blk g hg, h.bas g hg, h.esz g hg, h.siz g hg]
    exact hx
  | .mp g, v, hr => by
    obtain ⟨hg, e⟩ := hr
    exact ⟨Nat.lt_of_lt_of_le hg h.n, by rw [e, h.blk g hg]⟩
  | .clo f caps, v, hr => by
    obtain ⟨cs, e, hx⟩ := hr
    exact ⟨cs, e, AV.relL_ext h caps cs hx⟩
  | .agg xs, v, hr => by
    obtain ⟨cs, e, hx⟩ := hr
    exact ⟨cs, e, AV.relL_ext h xs cs hx⟩
  | .tup xs, v, hr => by
    obtain ⟨cs, e, hx⟩ := hr
    exact ⟨cs, e, AV.relL_ext h xs cs hx⟩
  | .iface t x, v, hr => by
    obtain ⟨u, e, hx⟩ := hr
    exact ⟨u, e, AV.rel_ext h x u hx⟩
  | .yld g, v, hr => by
    obtain ⟨hg, e⟩ := hr
    exact ⟨Nat.lt_of_lt_of_le hg h.n, by rw [e, h.blk g hg]⟩
theorem AV.relL_ext {φ φ' : Emb} (h : Ext φ φ') : ∀ (xs : List AV) (vs : List Value), AV.relL φ xs vs → AV.relL φ' xs vs
  | [], _, hr => hr
  | x :: xs, _, hr => by
    obtain ⟨v, r, e, h1, h2⟩ := hr
    exact ⟨v, r, e, AV.rel_ext h x v h1, AV.relL_ext h xs r h2⟩
end

theorem AV.relL_length {φ : Emb} : ∀ {xs : List AV} {vs : List Value}, AV.relL φ xs vs → vs.length = xs.length
  | [], _, h => by simp only [AV.relL] at h; simp [h]
  | x :: xs, vs, h => by
    obtain ⟨v, r, rfl, _, h2⟩ := h
    simp [AV.relL_length h2]
theorem AV.relL_get {φ : Emb} : ∀ {xs : List AV} {vs : List Value}, AV.relL φ xs vs → ∀ (i : Nat) (x : AV), xs[i]? = some x → ∃ v, vs[i]? = some v ∧ AV.rel φ x v
  | [], _, _, i, x, hx => by simp at hx
  | y :: ys, vs, h, i, x, hx => by
    obtain ⟨v, r, rfl, h1, h2⟩ := h
    cases i with
    | zero =>
      simp only [List.getElem?_cons_zero, Option.some.injEq] at hx
      subst hx
      exact ⟨v, by simp, h1⟩
    | succ i =>
      simp only [List.getElem?_cons_succ] at hx
      obtain ⟨u, e, hu⟩ := AV.relL_get h2 i x hx
      exact ⟨u, by simpa using e, hu⟩
theorem AV.relL_set {φ : Emb} : ∀ {xs : List AV} {vs : List Value}, AV.relL φ xs vs → ∀ (i : Nat) (x : AV) (v : Value), AV.rel φ x v → AV.relL φ (xs.set i x) (vs.set i v)
  | [], vs, h, i, x, v, _ => by simp only [AV.relL] at h; subst h; simp [AV.relL]
  | y :: ys, vs, h, i, x, v, hx => by
    obtain ⟨u, r, rfl, h1, h2⟩ := h
    cases i with
    | zero => exact ⟨v, r, by simp, hx, h2⟩
    | succ i => exact ⟨u, _, by simp, h1, AV.relL_set h2 i x v hx⟩
theorem AV.relL_append {φ : Emb} : ∀ {xs ys : List AV} {vs us : List Value}, AV.relL φ xs vs → AV.relL φ ys us → AV.relL φ (xs ++ ys) (vs ++ us)
  | [], ys, vs, us, h, k => by simp only [AV.relL] at h; subst h; simpa using k
  | y :: xs, ys, vs, us, h, k => by
    obtain ⟨u, r, rfl, h1, h2⟩ := h
    exact ⟨u, _, rfl, h1, AV.relL_append h2 k⟩
theorem AV.relL_replicate {φ : Emb} {x : AV} {v : Value} (h : AV.rel φ x v) : ∀ n, AV.relL φ (List.replicate n x) (List.replicate n v)
  | 0 => rfl
  | n + 1 => ⟨v, _, rfl, h, AV.relL_replicate h n⟩

/-- Own objects. -/
inductive GObj where
  | box (cs : List AV)
  | arr (esz : Nat) (xs : List PV)
  | ice (esz : Nat) (xs : List PV)
  | map (es : List (PV × PV)) (bs : List Nat) (clk : Nat)
  | iter (m : Option Nat) (since : Nat) (seen : List Nat) (last : Nat)
  | loop (st : LoopState) (pend : Option Code) (T : List AV) (ps : List Tmp) (asg body : Code) (d : Nat)
  | dfr
  | dead
  deriving Inhabited
def GObj.live : GObj → Bool
  | .dead => false
  | .ice _ _ => false
  | _ => true

def relM (I : Imm) : List (PV × PV) → List MapEntry → Prop
  | [], es => es = []
  | x :: xs, es => ∃ e r, es = e :: r ∧ x.1.rel I e.key ∧ x.2.rel I e.val ∧ relM I xs r
theorem relM_mono {I I' : Imm} (h : ∀ b c, I b = some c → I' b = some c) : ∀ (xs : List (PV × PV)) (es : List MapEntry), relM I xs es → relM I' xs es
  | [], _, hr => hr
  | x :: xs, _, hr => by
    obtain ⟨e, r, e1, h1, h2, h3⟩ := hr
    exact ⟨e, r, e1, PV.rel_mono h _ _ h1, PV.rel_mono h _ _ h2, relM_mono h xs r h3⟩

/-- No cell of the row is shared with a string. -/
def Loose (fr : Nat × Nat) (n : Nat) : Prop := ∀ i, i < n → (decide (fr.1 ≤ i) && decide (i < fr.2)) = false
theorem Loose.zero (n : Nat) : Loose (0, 0) n := fun i _ => by simp
def GObj.rel (φ : Emb) (w : World) (g : Nat) : GObj → Prop
  | .box cs => φ.bas g = 0 ∧ ∃ (vs : List Value) (e : TypeId), w.heap[φ.blk g]? = some (.cells vs.toArray e (0, 0)) ∧ AV.relL φ cs vs
  | .arr esz xs => φ.esz g = esz ∧ ∃ (vs : List Value) (e : TypeId) (fr : Nat × Nat), w.heap[φ.blk g]? = some (.cells vs.toArray e fr) ∧ Loose fr vs.length ∧ vs.length = φ.siz g ∧ φ.bas g + xs.length * esz ≤ φ.siz g ∧ PV.relE φ.I esz xs (vs.drop (φ.bas g))
  | .ice esz xs => φ.esz g = esz ∧ ∃ (vs : List Value), φ.I (φ.blk g) = some vs ∧ vs.length = φ.siz g ∧ φ.bas g + xs.length * esz ≤ φ.siz g ∧ PV.relE φ.I esz xs (vs.drop (φ.bas g))
  | .map es bs clk => ∃ (ms : List MapEntry), w.heap[φ.blk g]? = some (.map ms.toArray clk) ∧ relM φ.I es ms ∧ ms.map (·.born) = bs
  | .iter m since seen last => φ.bas g = 0 ∧ ∃ (r : Option Nat), w.heap[φ.blk g]? = some (.mapIter r since seen.toArray last) ∧ ((m = none ∧ r = none) ∨ ∃ k, m = some k ∧ k < φ.n ∧ r = some (φ.blk k))
  | .loop st pend T ps asg body d => ∃ (fn : FuncId) (tmps : List Value), w.heap[φ.blk g]? = some (.loop { state := st, pending := pend, fn := fn, tmps := tmps.toArray, params := ps.toArray, assign := asg, body := body, defers := φ.blk d }) ∧ AV.relL φ T tmps ∧ d < φ.n
  | .dfr => w.heap[φ.blk g]? = some (.deferred (some []))
  | .dead => True

structure WRel (φ : Emb) (G : List GObj) (w : World) : Prop where
  n : φ.n = G.length
  obj : ∀ (g : Nat) (o : GObj), G[g]? = some o → GObj.rel φ w g o
  inj : ∀ (g g' : Nat) (o o' : GObj), G[g]? = some o → G[g']? = some o' → o.live = true → o'.live = true → φ.blk g = φ.blk g' → g = g'
  imm : ∀ b c, φ.I b = some c → ∃ e fr, w.heap[b]? = some (.cells c.toArray e fr)
  apart : ∀ (g : Nat) (o : GObj), G[g]? = some o → o.live = true → φ.I (φ.blk g) = none

/-- What a stretch of a run leaves alone: all blocks that were there and are not own. -/
structure Fr (w0 : World) (O : Nat → Prop) (φ : Emb) (G : List GObj) (w : World) : Prop where
  size : w0.heap.size ≤ w.heap.size
  os : w.os = w0.os
  tape : w.tape = w0.tape
  output : w.output = w0.output
  same : ∀ b, b < w0.heap.size → ¬ O b → w.heap[b]? = w0.heap[b]?
  own : ∀ (g : Nat) (o : GObj), G[g]? = some o → o.live = true → O (φ.blk g) ∨ w0.heap.size ≤ φ.blk g

theorem GObj.rel_ext {φ φ' : Emb} {w w' : World} {g : Nat} {o : GObj} (h : Ext φ φ') (hg : g < φ.n) (hw : o.live = true → w'.heap[φ.blk g]? = w.heap[φ.blk g]?) (hr : GObj.rel φ w g o) : GObj.rel φ' w' g o := by
  cases o with
  | box cs =>
    obtain ⟨hb, vs, e, h1, h2⟩ := hr
    exact ⟨by rw [h.bas g hg, hb], vs, e, by rw [h.blk g hg, hw rfl, h1], AV.relL_ext h _ _ h2⟩
  | arr esz xs =>
    obtain ⟨hz, vs, e, fr, h1, hlo, h2, h3, h4⟩ := hr
    exact ⟨by rw [h.esz g hg, hz], vs, e, fr, by rw [h.blk g hg, hw rfl, h1], hlo, by rw [h.siz g hg, h2], by rw [h.bas g hg, h.siz g hg]; exact h3, by rw [h.bas g hg]; exact PV.relE_mono h.I _ _ _ h4⟩
  | ice esz xs =>
    obtain ⟨hz, vs, h1, h2, h3, h4⟩ := hr
    exact ⟨by rw [h.esz g hg, hz], vs, by rw [h.blk g hg]; exact h.I _ _ h1, by rw [h.siz g hg, h2], by rw [h.bas g hg, h.siz g hg]; exact h3, by rw [h.bas g hg]; exact PV.relE_mono h.I _ _ _ h4⟩
  | map es bs clk =>
    obtain ⟨ms, h1, h2, h3⟩ := hr
    exact ⟨ms, by rw [h.blk g hg, hw rfl, h1], relM_mono h.I _ _ h2, h3⟩
  | iter m since seen last =>
    obtain ⟨hb, r, h1, h2⟩ := hr
    refine ⟨by rw [h.bas g hg, hb], r, by rw [h.blk g hg, hw rfl, h1], h2.imp id ?_⟩
    rintro ⟨k, e, hk, e'⟩
    exact ⟨k, e, Nat.lt_of_lt_of_le hk h.n, by rw [e', h.blk k hk]⟩
  | loop st pend T ps asg body d =>
    obtain ⟨fn, tmps, h1, h2, h3⟩ := hr
    exact ⟨fn, tmps, by rw [h.blk g hg, hw rfl, h1, h.blk d h3], AV.relL_ext h _ _ h2, Nat.lt_of_lt_of_le h3 h.n⟩
  | dfr => show _ = _; rw [h.blk g hg, hw rfl]; exact hr
  | dead => trivial

theorem WRel.lt {φ : Emb} {G : List GObj} {w : World} (h : WRel φ G w) {g : Nat} {o : GObj} (hg : G[g]? = some o) : g < φ.n := by
  rw [h.n]
  exact (List.getElem?_eq_some_iff.1 hg).1

theorem WRel.blk_lt {φ : Emb} {G : List GObj} {w : World} (h : WRel φ G w) {g : Nat} {o : GObj} (hg : G[g]? = some o) (hl : o.live = true) : φ.blk g < w.heap.size := by
  have hr := h.obj g o hg
  cases o with
  | box cs => obtain ⟨_, vs, e, h1, _⟩ := hr; exact (Array.getElem?_eq_some_iff.1 h1).1
  | arr esz xs => obtain ⟨_, vs, e, fr, h1, _⟩ := hr; exact (Array.getElem?_eq_some_iff.1 h1).1
  | map es bs clk => obtain ⟨vs, h1, _⟩ := hr; exact (Array.getElem?_eq_some_iff.1 h1).1
  | iter m since seen last => obtain ⟨_, r, h1, _⟩ := hr; exact (Array.getElem?_eq_some_iff.1 h1).1
  | loop st pend T ps asg body d => obtain ⟨fn, tmps, h1, _⟩ := hr; exact (Array.getElem?_eq_some_iff.1 h1).1
  | dfr => exact (Array.getElem?_eq_some_iff.1 hr).1
  | ice esz xs => simp [GObj.live] at hl
  | dead => simp [GObj.live] at hl

/-- The draws of a world change nothing. -/
theorem WRel.heap {φ : Emb} {G : List GObj} {w w' : World} (h : WRel φ G w) (e : w'.heap = w.heap) : WRel φ G w' :=
  ⟨h.n, fun g o hg => GObj.rel_ext (Ext.refl φ) (h.lt hg) (fun _ => by rw [e]) (h.obj g o hg), h.inj, fun b c hb => by rw [e]; exact h.imm b c hb, h.apart⟩
theorem Fr.heap {w0 : World} {O : Nat → Prop} {φ : Emb} {G : List GObj} {w w' : World} (h : Fr w0 O φ G w) (e : w'.heap = w.heap) (e1 : w'.os = w.os) (e2 : w'.tape = w.tape) (e3 : w'.output = w.output) : Fr w0 O φ G w' :=
  ⟨by rw [e]; exact h.size, e1.trans h.os, e2.trans h.tape, e3.trans h.output, fun b hb ho => by rw [e]; exact h.same b hb ho, h.own⟩
theorem Fr.refl {φ : Emb} {G : List GObj} (w : World) : Fr w (fun b => ∃ g o, G[g]? = some o ∧ o.live = true ∧ φ.blk g = b) φ G w :=
  ⟨Nat.le_refl _, rfl, rfl, rfl, fun _ _ _ => rfl, fun g o hg hl => .inl ⟨g, o, hg, hl, rfl⟩⟩

end
end Go.Ks
