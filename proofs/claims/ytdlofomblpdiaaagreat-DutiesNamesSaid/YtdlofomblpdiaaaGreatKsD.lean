/- An abstract evaluator for the model's code, part D: operations on memory: variables, structs, rows. -/
import Derived.Test.YtdlofomblpdiaaaGreatKsC
namespace Go.Ks
noncomputable section

theorem AV.relL_iff {φ : Emb} : ∀ {xs : List AV} {vs : List Value}, AV.relL φ xs vs ↔ vs.length = xs.length ∧ ∀ (i : Nat) (x : AV), xs[i]? = some x → ∃ v, vs[i]? = some v ∧ AV.rel φ x v
  | [], vs => by simp [AV.relL]
  | x :: xs, vs => by
    constructor
    · intro h
      exact ⟨AV.relL_length h, AV.relL_get h⟩
    · rintro ⟨hl, h⟩
      cases vs with
      | nil => simp at hl
      | cons v r =>
        obtain ⟨u, hu, hx⟩ := h 0 x (by simp)
        simp only [List.getElem?_cons_zero, Option.some.injEq] at hu
        subst hu
        exact ⟨v, r, rfl, hx, AV.relL_iff.2 ⟨by simpa using hl, fun i y hy => by simpa using h (i + 1) y (by simpa using hy)⟩⟩

/-- All plain. -/
def plainL : List AV → Option (List PV)
  | [] => some []
  | .p x :: r => (plainL r).map (x :: ·)
  | _ :: _ => none
theorem plainL_some : ∀ {xs : List AV} {ps : List PV}, plainL xs = some ps → xs = ps.map .p
  | [], ps, h => by cases h; rfl
  | .p x :: r, ps, h => by
    simp only [plainL, Option.map_eq_some_iff] at h
    obtain ⟨q, hq, rfl⟩ := h
    rw [plainL_some hq]
    rfl
  | .ref _ _ :: _, _, h | .aref _ _ _ :: _, _, h | .sl _ _ _ :: _, _, h | .mp _ :: _, _, h | .clo _ _ :: _, _, h | .agg _ :: _, _, h | .tup _ :: _, _, h | .iface _ _ :: _, _, h | .yld _ :: _, _, h => by simp [plainL] at h
theorem relL_plain {φ : Emb} {ps : List PV} {vs : List Value} : AV.relL φ (ps.map .p) vs ↔ vs.length = ps.length ∧ PV.relT φ.I ps vs := by
  rw [AV.relL_iff, PV.relT_iff, List.length_map]
  refine and_congr_right fun _ => ⟨fun h i x hx => h i (.p x) (by simp [hx]), fun h i x hx => ?_⟩
  simp only [List.getElem?_map, Option.map_eq_some_iff] at hx
  obtain ⟨y, hy, rfl⟩ := hx
  exact h i y hy

def AV.mkAgg (xs : List AV) : AV := match plainL xs with
  | some ps => .p (.agg ps)
  | none => .agg xs
def AV.mkTup (xs : List AV) : AV := match plainL xs with
  | some ps => .p (.tup ps)
  | none => .tup xs
def AV.mkIface (t : TypeId) : AV → AV
  | .p x => .p (.iface t x)
  | x => .iface t x
def AV.mkClo (f : FuncId) : List AV → AV
  | [] => .p (.fn f)
  | xs => .clo f xs
theorem AV.mkAgg_rel {φ : Emb} {xs : List AV} {vs : List Value} (h : AV.relL φ xs vs) : AV.rel φ (.mkAgg xs) (.agg vs.toArray) := by
  unfold AV.mkAgg
  split
  · rename_i ps hp
    rw [plainL_some hp] at h
    have := relL_plain.1 h
    show PV.rel φ.I _ _
    simp only [PV.rel]
    exact ⟨vs, rfl, this.1, this.2⟩
  · exact ⟨vs, rfl, h⟩
theorem AV.mkTup_rel {φ : Emb} {xs : List AV} {vs : List Value} (h : AV.relL φ xs vs) : AV.rel φ (.mkTup xs) (.tuple vs.toArray) := by
  unfold AV.mkTup
  split
  · rename_i ps hp
    rw [plainL_some hp] at h
    have := relL_plain.1 h
    show PV.rel φ.I _ _
    simp only [PV.rel]
    exact ⟨vs, rfl, this.1, this.2⟩
  · exact ⟨vs, rfl, h⟩
theorem AV.mkIface_rel {φ : Emb} {t : TypeId} {x : AV} {v : Value} (h : AV.rel φ x v) : AV.rel φ (.mkIface t x) (.iface t v) := by
  unfold AV.mkIface
  split
  · rename_i y
    show PV.rel φ.I _ _
    simp only [PV.rel]
    exact ⟨v, rfl, h⟩
  · exact ⟨v, rfl, h⟩
theorem AV.mkClo_rel {φ : Emb} {f : FuncId} {xs : List AV} {vs : List Value} (h : AV.relL φ xs vs) : AV.rel φ (.mkClo f xs) (.func (.func f) #[] vs.toArray) := by
  unfold AV.mkClo
  split
  · simp only [AV.relL] at h
    subst h
    show PV.rel φ.I _ _
    simp [PV.rel]
  · exact ⟨vs, rfl, h⟩

/-- A value's cells. -/
def AV.cells : AV → List AV
  | .p x => x.cells.map .p
  | .agg xs => xs
  | x => [x]
theorem AV.cells_rel {φ : Emb} {x : AV} {v : Value} (h : AV.rel φ x v) : AV.relL φ x.cells v.cells.toList := by
  have single : ∀ (y : AV) (u : Value), AV.rel φ y u → (∀ cs, u ≠ .agg cs) → AV.relL φ [y] u.cells.toList := by
    intro y u hy hu
    have : u.cells = #[u] := by cases u <;> simp_all [Value.cells]
    rw [this]
    exact ⟨u, [], rfl, hy, rfl⟩
  cases x with
  | p y =>
    have h' : PV.rel φ.I y v := h
    cases hy : y.isAgg with
    | true =>
      cases y <;> simp [PV.isAgg] at hy
      simp only [PV.rel] at h'
      obtain ⟨vs, rfl, hl, hr⟩ := h'
      simp only [AV.cells, PV.cells, Value.cells]
      exact relL_plain.2 ⟨by simpa using hl, by simpa using hr⟩
    | false =>
      have hc : y.cells = [y] := by cases y <;> simp_all [PV.cells, PV.isAgg]
      simp only [AV.cells, hc, List.map_cons, List.map_nil]
      refine single _ _ h fun cs e => ?_
      subst e
      cases y <;> simp [PV.rel, PV.isAgg] at h' hy
      all_goals (first | (obtain ⟨_, _, h', _⟩ := h'; simp at h') | (obtain ⟨_, h', _⟩ := h'; simp at h') | simp at h')
  | agg xs =>
    obtain ⟨vs, rfl, hr⟩ := h
    simpa [AV.cells, Value.cells] using hr
  | ref g off => obtain ⟨_, rfl⟩ := h; exact single _ _ (by simpa [AV.rel]) (by simp)
  | aref g i off => obtain ⟨_, rfl⟩ := h; exact single _ _ (by simpa [AV.rel]) (by simp)
  | sl g off len => have h0 := h; obtain ⟨_, a, c, rfl, _⟩ := h; exact single _ _ h0 (by simp)
  | mp g => obtain ⟨_, rfl⟩ := h; exact single _ _ (by simpa [AV.rel]) (by simp)
  | clo f cs => have h0 := h; obtain ⟨_, rfl, _⟩ := h; exact single _ _ h0 (by simp)
  | tup xs => have h0 := h; obtain ⟨_, rfl, _⟩ := h; exact single _ _ h0 (by simp)
  | iface t y => have h0 := h; obtain ⟨_, rfl, _⟩ := h; exact single _ _ h0 (by simp)
  | yld g => obtain ⟨_, rfl⟩ := h; exact single _ _ (by simpa [AV.rel]) (by simp)
/-- May the value stand in one cell? -/
def PV.one : PV → Bool
  | .agg _ | .tup _ => false
  | _ => true
def AV.one : AV → Bool
  | .p x => x.one
  | .agg _ | .tup _ => false
  | _ => true
theorem PV.one_rel {I : Imm} {x : PV} {v : Value} (h : PV.rel I x v) (ho : x.one = true) : v.oneCell = true := by
  cases x <;> simp [PV.rel, PV.one] at h ho
  all_goals first
    | (subst h; rfl)
    | (obtain ⟨_, _, rfl, _⟩ := h; rfl)
    | (obtain ⟨_, rfl, _⟩ := h; rfl)
    | (obtain ⟨_, ⟨_, rfl⟩, _⟩ := h; rfl)
    | (obtain ⟨_, _, _, ⟨_, rfl⟩, _⟩ := h; rfl)
theorem AV.one_rel {φ : Emb} {x : AV} {v : Value} (h : AV.rel φ x v) (ho : x.one = true) : v.oneCell = true := by
  cases x with
  | p y => exact PV.one_rel h ho
  | agg xs => simp [AV.one] at ho
  | tup xs => simp [AV.one] at ho
  | ref g off => obtain ⟨_, rfl⟩ := h; rfl
  | aref g i off => obtain ⟨_, rfl⟩ := h; rfl
  | sl g off len => obtain ⟨_, a, c, rfl, _⟩ := h; rfl
  | mp g => obtain ⟨_, rfl⟩ := h; rfl
  | clo f cs => obtain ⟨_, rfl, _⟩ := h; rfl
  | iface t y => obtain ⟨_, rfl, _⟩ := h; rfl
  | yld g => obtain ⟨_, rfl⟩ := h; rfl

section
variable {P : Program} {w0 : World} {O : Nat → Prop} {I0 : Imm} {φ : Emb} {G : List GObj} {w : World}

/-! ### Loads -/
/-- The cells from an address on, to the end of its variable, or of its row's element. -/
def cellsAt (G : List GObj) : AV → Option (List AV)
  | .ref g off => match G[g]? with
    | some (.box cs) => some (cs.drop off)
    | _ => none
  | .aref g i off => match rowAt G g with
    | some (_, xs) => (xs[i]?).map fun x => (x.cells.drop off).map .p
    | _ => none
  | .p (.iel x off) => some ((x.cells.drop off).map .p)
  | _ => none
theorem cellsAt_sound (h : Ctx w0 O I0 φ G w) {x : AV} {v : Value} (hx : AV.rel φ x v) {cs : List AV} (hc : cellsAt G x = some cs) :
    ∃ (b o : Nat) (vs : List Value) (e : TypeId) (fr : Nat × Nat), v = .pointer (some ⟨b, o, none⟩) ∧ w.heap[b]? = some (.cells vs.toArray e fr) ∧ ∀ (k : Nat) (c : AV), cs[k]? = some c → ∃ u, vs[o + k]? = some u ∧ AV.rel φ c u := by
  cases x with
  | ref g off =>
    simp only [cellsAt] at hc
    split at hc
    · rename_i cs' hg
      cases hc
      obtain ⟨hlt, rfl⟩ := hx
      obtain ⟨hb, vs, e, h1, h2⟩ := h.rel.obj g _ hg
      refine ⟨_, _, vs, e, _, rfl, h1, fun k c hk => ?_⟩
      rw [hb, Nat.zero_add]
      rw [List.getElem?_drop] at hk
      exact AV.relL_get h2 _ c hk
    · simp at hc
  | aref g i off =>
    simp only [cellsAt] at hc
    split at hc
    · rename_i esz xs hg
      simp only [Option.map_eq_some_iff] at hc
      obtain ⟨y, hy, rfl⟩ := hc
      obtain ⟨hlt, rfl⟩ := hx
      obtain ⟨hz, vs, e, fr, h1, h2, h3, h4⟩ := h.readRow hg
      have h5 := PV.relC_iff.1 (PV.relE_iff.1 h4 i y hy)
      refine ⟨_, _, vs, e, fr, rfl, h1, fun k c hk => ?_⟩
      simp only [List.getElem?_map, List.getElem?_drop, Option.map_eq_some_iff] at hk
      obtain ⟨z, hz', rfl⟩ := hk
      obtain ⟨u, hu, hu'⟩ := PV.relT_iff.1 h5.2 _ z hz'
      refine ⟨u, ?_, hu'⟩
      rw [List.drop_drop, List.getElem?_drop] at hu
      rw [← hu, hz]
      congr 1
      omega
    · simp at hc
  | p z =>
    cases z with
    | iel y off =>
      simp only [cellsAt] at hc
      cases hc
      have hx' : PV.rel φ.I (.iel y off) v := hx
      simp only [PV.rel] at hx'
      obtain ⟨b, o, c, n, rfl, hb, hr⟩ := hx'
      obtain ⟨e, fr, he⟩ := h.rel.imm b c hb
      refine ⟨b, o + off, c, e, fr, rfl, he, fun k z hk => ?_⟩
      simp only [List.getElem?_map, List.getElem?_drop, Option.map_eq_some_iff] at hk
      obtain ⟨q, hq, rfl⟩ := hk
      obtain ⟨u, hu, hu'⟩ := PV.relT_iff.1 (PV.relC_iff.1 hr).2 _ q hq
      refine ⟨u, ?_, hu'⟩
      rw [List.getElem?_drop] at hu
      rw [← hu, Nat.add_assoc]
    | _ => simp [cellsAt] at hc
  | _ => simp [cellsAt] at hc

theorem run_loadCells' {b o : Nat} {vs : List Value} {e : TypeId} {fr : Nat × Nat} (hb : w.heap[b]? = some (.cells vs.toArray e fr)) (n : Nat) (h : ∀ k, k < n → ∃ u, vs[o + k]? = some u) :
    (loadCells ⟨b, o, none⟩ n).run P w = .ok ((vs.drop o).take n).toArray w := by
  unfold loadCells
  cases n with
  | zero => simp [loadCellsFrom]
  | succ n =>
    obtain ⟨u, hu⟩ := h n (by omega)
    have := (List.getElem?_eq_some_iff.1 hu).1
    have := run_loadCells (P := P) hb (n + 1) 0 [] (by omega : o + 0 + (n + 1) ≤ vs.length)
    simpa using this

def aLoad (P : Program) (G : List GObj) (t : TypeId) (x : AV) : Option AV :=
  match P.info? t, aggT P t, cellsAt G x with
  | some i, some true, some cs => if i.size ≤ cs.length then some (.mkAgg (cs.take i.size)) else none
  | some _, some false, some (c :: _) => some c
  | _, _, _ => none
theorem aLoad_sound (h : Ctx w0 O I0 φ G w) {t : TypeId} {x y : AV} {v : Value} (hx : AV.rel φ x v) (hy : aLoad P G t x = some y) :
    ∃ u, (Instr.loadAt t v).run P w = .ok u w ∧ AV.rel φ y u := by
  unfold aLoad at hy
  split at hy
  · rename_i i cs hi ha hc
    split at hy
    · rename_i hle
      cases hy
      obtain ⟨b, o, vs, e, fr, rfl, hb, hcs⟩ := cellsAt_sound h hx hc
      refine ⟨.agg ((vs.drop o).take i.size).toArray, ?_, ?_⟩
      · simp only [Instr.loadAt, Instr.sureAddr, loadVar, Sem.run_bind, Sem.run_pure, Result.andThen, run_isAgg ha, run_size hi, if_true]
        rw [run_loadCells' hb]
        intro k hk
        obtain ⟨u, hu, _⟩ := hcs k _ (List.getElem?_eq_getElem (by omega))
        exact ⟨u, hu⟩
      · refine AV.mkAgg_rel (AV.relL_iff.2 ⟨?_, fun k c hk => ?_⟩)
        · simp only [List.length_take, List.length_drop]
          rcases Nat.eq_zero_or_pos i.size with hz | hz
          · omega
          · obtain ⟨u, hu, _⟩ := hcs (i.size - 1) _ (List.getElem?_eq_getElem (by omega))
            have := (List.getElem?_eq_some_iff.1 hu).1
            omega
        · rw [List.getElem?_take] at hk
          split at hk
          · rename_i hlt
            obtain ⟨u, hu, hr⟩ := hcs k c hk
            exact ⟨u, by rw [List.getElem?_take, if_pos hlt, List.getElem?_drop]; exact hu, hr⟩
          · simp at hk
    · simp at hy
  · rename_i i c cs hi ha hc
    cases hy
    obtain ⟨b, o, vs, e, fr, rfl, hb, hcs⟩ := cellsAt_sound h hx hc
    obtain ⟨u, hu, hr⟩ := hcs 0 y (by simp)
    refine ⟨u, ?_, hr⟩
    simp only [Instr.loadAt, Instr.sureAddr, loadVar, Sem.run_bind, Sem.run_pure, Result.andThen, run_isAgg ha, Bool.false_eq_true, if_false]
    exact run_load hb (by simpa using hu)
  · simp at hy

/-! ### Stores -/
/-- A value made plain: rows that it holds stand still from now on. -/
def plainOf (G : List GObj) : AV → Option (PV × List GObj)
  | .p x => some (x, G)
  | .sl g off len => match G[g]? with
    | some (.arr esz xs) => if off + len ≤ xs.length then some (.list esz ((xs.drop off).take len), G.set g (.ice esz xs)) else none
    | some (.ice esz xs) => if off + len ≤ xs.length then some (.list esz ((xs.drop off).take len), G) else none
    | _ => none
  | _ => none
theorem plainOf_sound (h : Ctx w0 O I0 φ G w) {x : AV} {v : Value} (hx : AV.rel φ x v) {y : PV} {G' : List GObj} (hp : plainOf G x = some (y, G')) :
    ∃ φ', Ext φ φ' ∧ Ctx w0 O I0 φ' G' w ∧ PV.rel φ'.I y v := by
  cases x with
  | p z =>
    simp only [plainOf] at hp
    cases hp
    exact ⟨φ, Ext.refl φ, h, hx⟩
  | sl g off len =>
    simp only [plainOf] at hp
    split at hp
    · rename_i esz xs hg
      split at hp
      · rename_i hle
        cases hp
        obtain ⟨hz, vs, e, fr, h1, hlo, h2, h3, h4⟩ := h.rel.obj g _ hg
        obtain ⟨hx1, hx2⟩ := h.freezeIce hg h1
        obtain ⟨hlt, a, cap, rfl, hcap, hor⟩ := hx
        refine ⟨_, hx1, hx2, ?_⟩
        simp only [PV.rel]
        have hlen : ((xs.drop off).take len).length = len := by simp; omega
        refine ⟨a, cap, by rw [hlen], by rw [hlen]; exact hcap, ?_⟩
        rcases hor with ⟨h0, _⟩ | ⟨rfl, _⟩
        · left
          subst h0
          simp
        · right
          refine ⟨_, _, vs, rfl, by simp [Emb.still], ?_⟩
          refine PV.relE_mono hx1.I _ _ _ (PV.relE_iff.2 fun k z hk => ?_)
          rw [List.getElem?_take] at hk
          split at hk
          · rw [List.getElem?_drop] at hk
            have := PV.relE_iff.1 h4 _ z hk
            rw [List.drop_drop] at this ⊢
            rw [hz]
            rw [show φ.bas g + off * esz + k * esz = φ.bas g + (off + k) * esz by rw [Nat.add_mul]; omega]
            exact this
          · simp at hk
      · simp at hp
    · rename_i esz xs hg
      split at hp
      · rename_i hle
        cases hp
        obtain ⟨hz, vs, h1, h2, h3, h4⟩ := h.rel.obj g _ hg
        obtain ⟨hlt, a, cap, rfl, hcap, hor⟩ := hx
        refine ⟨φ, Ext.refl φ, h, ?_⟩
        simp only [PV.rel]
        have hlen : ((xs.drop off).take len).length = len := by simp; omega
        refine ⟨a, cap, by rw [hlen], by rw [hlen]; exact hcap, ?_⟩
        rcases hor with ⟨h0, _⟩ | ⟨rfl, _⟩
        · left
          subst h0
          simp
        · right
          refine ⟨_, _, vs, rfl, h1, PV.relE_iff.2 fun k z hk => ?_⟩
          rw [List.getElem?_take] at hk
          split at hk
          · rw [List.getElem?_drop] at hk
            have := PV.relE_iff.1 h4 _ z hk
            rw [List.drop_drop] at this ⊢
            rw [hz]
            rw [show φ.bas g + off * esz + k * esz = φ.bas g + (off + k) * esz by rw [Nat.add_mul]; omega]
            exact this
          · simp at hk
      · simp at hp
    · simp at hp
  | _ => simp [plainOf] at hp

/-- An element with some of its cells written. -/
def PV.put (x : PV) (off : Nat) (cs : List PV) : PV :=
  match x with
  | .agg ys => .agg (setR ys off cs)
  | _ => cs.headD x
def aStore (P : Program) (G : List GObj) (t : TypeId) (x v : AV) : Option (List GObj) :=
  match P.info? t, x with
  | some i, .ref g off => match G[g]? with
    | some (.box cs) => if v.cells.length = i.size ∧ off + i.size ≤ cs.length ∧ v.cells.all (·.one) = true then some (G.set g (.box (setR cs off v.cells))) else none
    | _ => none
  | some i, .aref g k off => match plainOf G v with
    | some (y, G') => match G'[g]? with
      | some (.arr esz xs) => match xs[k]? with
        | some z => if y.cells.length = i.size ∧ off + i.size ≤ z.cells.length ∧ y.cells.all (·.one) = true ∧ i.size ≠ 0 then some (G'.set g (.arr esz (xs.set k (z.put off y.cells)))) else none
        | none => none
      | _ => none
    | none => none
  | _, _ => none
theorem relL_setR {φ : Emb} : ∀ {ys : List AV} {us : List Value} {xs : List AV} {vs : List Value} (o : Nat), AV.relL φ ys us → AV.relL φ xs vs → AV.relL φ (setR xs o ys) (setR vs o us)
  | [], us, xs, vs, o, h, k => by simp only [AV.relL] at h; subst h; exact k
  | y :: ys, us, xs, vs, o, h, k => by
    obtain ⟨u, r, rfl, h1, h2⟩ := h
    exact relL_setR (o + 1) h2 (AV.relL_set k o y u h1)
theorem setR_ne {α : Type} {vs us : List α} {o i : Nat} (h : o + us.length ≤ vs.length) (hi : i < o ∨ o + us.length ≤ i) : (setR vs o us)[i]? = vs[i]? := by
  rw [setR_get _ _ _ _ h, if_neg (by omega)]
theorem setR_in {α : Type} {vs us : List α} {o i : Nat} (h : o + us.length ≤ vs.length) (hi : o ≤ i) (hi' : i < o + us.length) : (setR vs o us)[i]? = us[i - o]? := by
  rw [setR_get _ _ _ _ h, if_pos ⟨hi, hi'⟩]
theorem put_cells {z : PV} {off : Nat} {cs : List PV} (h : off + cs.length ≤ z.cells.length) (h1 : cs.all (·.one) = true) (h0 : cs.length ≠ 0) : (z.put off cs).cells = setR z.cells off cs := by
  unfold PV.put
  cases hz : z.isAgg with
  | true =>
    cases z <;> simp [PV.isAgg] at hz
    rfl
  | false =>
    have hc : z.cells = [z] := by cases z <;> simp_all [PV.cells, PV.isAgg]
    rw [hc] at h
    simp only [List.length_singleton] at h
    match cs, h0 with
    | [c], _ =>
      have ho : off = 0 := by simp at h; omega
      subst ho
      have : c.cells = [c] := by
        simp only [List.all_cons, List.all_nil, Bool.and_true] at h1
        cases c <;> simp_all [PV.cells, PV.one]
      rw [hc]
      cases z <;> simp_all [PV.isAgg, setR]
    | _ :: _ :: _, _ => simp at h; omega

theorem aStore_sound (h : Ctx w0 O I0 φ G w) {t : TypeId} {x y : AV} {v u : Value} (hx : AV.rel φ x v) (hy : AV.rel φ y u) {G' : List GObj} (hs : aStore P G t x y = some G') :
    ∃ w' φ', (Instr.storeAt t v u).run P w = .ok () w' ∧ Ext φ φ' ∧ Ctx w0 O I0 φ' G' w' := by
  unfold aStore at hs
  cases hi : P.info? t with
  | none => simp [hi] at hs
  | some i =>
  cases x with
  | ref g off =>
    simp only [hi] at hs
    split at hs
    · rename_i cs hg
      split at hs
      · rename_i hc
        obtain ⟨c1, c2, c3⟩ := hc
        cases hs
        obtain ⟨hlt, rfl⟩ := hx
        obtain ⟨hb, vs, e, h1, h2⟩ := h.rel.obj g _ hg
        have hu := AV.cells_rel hy
        have hul : u.cells.toList.length = i.size := by rw [AV.relL_length hu, c1]
        have hvl := AV.relL_length h2
        obtain ⟨w', h3, h4, h5⟩ := run_storeCells (P := P) (o := φ.bas g + off) u.cells.toList vs 0 w h1 (Loose.zero _) (by omega) (by
          intro z hz
          obtain ⟨k, hk⟩ := List.mem_iff_getElem?.1 hz
          have hkl := (List.getElem?_eq_some_iff.1 hk).1
          have hkl' : k < y.cells.length := by omega
          obtain ⟨z', hz', hr⟩ := AV.relL_get hu k _ (List.getElem?_eq_getElem hkl')
          rw [hk] at hz'
          cases hz'
          exact AV.one_rel hr (List.all_eq_true.1 c3 _ (List.getElem_mem hkl')))
        refine ⟨w', φ, ?_, Ext.refl φ, h.upd hg rfl _ w' h4.size h4.same h4.os h4.tape h4.output fun _ => ⟨hb, _, e, h5, ?_⟩⟩
        · simp only [Instr.storeAt, Instr.sureAddr, storeVar, Sem.run_bind, Sem.run_pure, Result.andThen, run_size hi]
          rw [if_neg (by simpa using hul)]
          exact h3
        · rw [hb, Nat.zero_add, Nat.add_zero]
          exact relL_setR off hu h2
      · simp at hs
    · simp at hs
  | aref g k off =>
    simp only [hi] at hs
    split at hs
    · rename_i pv G1 hp
      obtain ⟨φ1, hx1, hc1, hr1⟩ := plainOf_sound h hy hp
      split at hs
      · rename_i esz xs hg
        split at hs
        · rename_i z hz
          split at hs
          · rename_i hc
            obtain ⟨c1, c2, c3, c4⟩ := hc
            cases hs
            have hx' := AV.rel_ext hx1 _ _ hx
            obtain ⟨hlt, rfl⟩ := hx'
            obtain ⟨hze, vs, e, fr, h1, hlo, h2, h3, h4⟩ := hc1.rel.obj g _ hg
            have hu : AV.relL φ1 (AV.p pv).cells u.cells.toList := AV.cells_rel (x := .p pv) hr1
            have hu' : u.cells.toList.length = pv.cells.length ∧ PV.relT φ1.I pv.cells u.cells.toList := relL_plain.1 hu
            have hzc := PV.relC_iff.1 (PV.relE_iff.1 h4 k z hz)
            have hkl := (List.getElem?_eq_some_iff.1 hz).1
            have hmul : (k + 1) * esz ≤ xs.length * esz := Nat.mul_le_mul_right _ (by omega)
            have hmul' : (k + 1) * esz = k * esz + esz := by rw [Nat.add_mul]; omega
            obtain ⟨w', r3, r4, r5⟩ := run_storeCells (P := P) (o := φ1.bas g + k * φ1.esz g + off) u.cells.toList vs 0 w h1 hlo (by rw [hze]; omega) (by
              intro q hq
              obtain ⟨j, hj⟩ := List.mem_iff_getElem?.1 hq
              have hjl := (List.getElem?_eq_some_iff.1 hj).1
              have hjl' : j < pv.cells.length := by omega
              obtain ⟨q', hq', hr⟩ := PV.relT_iff.1 hu'.2 j _ (List.getElem?_eq_getElem hjl')
              rw [hj] at hq'
              cases hq'
              exact PV.one_rel hr (List.all_eq_true.1 c3 _ (List.getElem_mem hjl')))
            have hpc := put_cells (z := z) (off := off) (cs := pv.cells) (by omega) c3 (by omega)
            refine ⟨w', φ1, ?_, hx1, hc1.upd hg rfl _ w' r4.size r4.same r4.os r4.tape r4.output fun _ => ⟨hze, _, e, fr, r5, by rw [setR_length]; exact hlo, by rw [setR_length]; exact h2, by simpa using h3, ?_⟩⟩
            · simp only [Instr.storeAt, Instr.sureAddr, storeVar, Sem.run_bind, Sem.run_pure, Result.andThen, run_size hi]
              rw [if_neg (by have := hu'.1; simp at this; omega)]
              exact r3
            · refine PV.relE_iff.2 fun j q hq => ?_
              have hjl := (List.getElem?_eq_some_iff.1 hq).1
              rw [List.length_set] at hjl
              have hout : φ1.bas g + k * esz + off + u.cells.toList.length ≤ vs.length := by omega
              by_cases hjk : j = k
              · subst hjk
                rw [List.getElem?_set_self hkl] at hq
                cases hq
                refine PV.relC_iff.2 ⟨by rw [hpc, setR_length]; exact hzc.1, PV.relT_iff.2 fun m q hm => ?_⟩
                rw [hpc, setR_get _ _ _ _ (by omega)] at hm
                rw [List.drop_drop, List.getElem?_drop, hze, Nat.add_zero]
                split at hm
                · rename_i hin
                  obtain ⟨q', hq', hr⟩ := PV.relT_iff.1 hu'.2 _ _ hm
                  refine ⟨q', ?_, hr⟩
                  rw [setR_in hout (by omega) (by omega)]
                  rw [← hq']
                  congr 1
                  omega
                · rename_i hnin
                  have hml := (List.getElem?_eq_some_iff.1 hm).1
                  obtain ⟨q', hq', hr⟩ := PV.relT_iff.1 hzc.2 _ _ hm
                  refine ⟨q', ?_, hr⟩
                  rw [setR_ne hout (by omega)]
                  rw [List.drop_drop, List.getElem?_drop] at hq'
                  exact hq'
              · rw [List.getElem?_set_ne (Ne.symm hjk)] at hq
                have hqc := PV.relC_iff.1 (PV.relE_iff.1 h4 j q hq)
                refine PV.relC_iff.2 ⟨hqc.1, PV.relT_iff.2 fun m p hm => ?_⟩
                have hml := (List.getElem?_eq_some_iff.1 hm).1
                obtain ⟨q', hq', hr⟩ := PV.relT_iff.1 hqc.2 _ _ hm
                refine ⟨q', ?_, hr⟩
                rw [List.drop_drop, List.getElem?_drop] at hq' ⊢
                rw [hze, Nat.add_zero, setR_ne hout ?_]
                · exact hq'
                · rcases Nat.lt_or_ge j k with hj | hj
                  · left
                    have : (j + 1) * esz ≤ k * esz := Nat.mul_le_mul_right _ (by omega)
                    have : (j + 1) * esz = j * esz + esz := by rw [Nat.add_mul]; omega
                    omega
                  · right
                    have : (k + 1) * esz ≤ j * esz := Nat.mul_le_mul_right _ (by omega)
                    omega
          · simp at hs
        · simp at hs
      · simp at hs
    · simp at hs
  | _ => simp [hi] at hs
end
end
end Go.Ks
