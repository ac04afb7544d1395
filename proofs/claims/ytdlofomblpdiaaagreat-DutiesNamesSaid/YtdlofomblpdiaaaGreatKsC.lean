/- An abstract evaluator for the model's code, part C: loads and stores of rows of cells as the model runs them; scalars. -/
import Derived.Test.YtdlofomblpdiaaaGreatKsB
import Derived.Laws.Sem
import Derived.Laws.World
import Derived.Laws.Entries
import Derived.Wp
namespace Go.Ks
noncomputable section

theorem add_addr (b o i : Nat) : (⟨b, o, none⟩ : Addr).add i = ⟨b, o + i, none⟩ := by
  unfold Addr.add
  split
  · rename_i h; subst h; rfl
  · rfl

theorem cell_at {w : World} {b o : Nat} {vs : List Value} {e : TypeId} {fr : Nat × Nat} (hb : w.heap[b]? = some (.cells vs.toArray e fr)) : w.cell? ⟨b, o, none⟩ = vs[o]? := by
  simp [World.cell?, hb]

theorem run_load {P : Program} {w : World} {b o : Nat} {vs : List Value} {e : TypeId} {fr : Nat × Nat} (hb : w.heap[b]? = some (.cells vs.toArray e fr)) {v : Value} (hv : vs[o]? = some v) :
    (load ⟨b, o, none⟩).run P w = .ok v w := by
  simp only [load, Sem.run, cell_at hb, hv]

theorem run_loadCells {P : Program} {w : World} {b o : Nat} {vs : List Value} {e : TypeId} {fr : Nat × Nat} (hb : w.heap[b]? = some (.cells vs.toArray e fr)) :
    ∀ (n i : Nat) (acc : List Value), o + i + n ≤ vs.length → (loadCellsFrom ⟨b, o, none⟩ i n acc.toArray).run P w = .ok (acc ++ (vs.drop (o + i)).take n).toArray w
  | 0, i, acc, _ => by simp [loadCellsFrom]
  | n + 1, i, acc, h => by
    have hlt : o + i < vs.length := by omega
    simp only [loadCellsFrom, add_addr]
    rw [Sem.run_bind, run_load hb (List.getElem?_eq_getElem hlt)]
    simp only [Result.andThen]
    have ih := run_loadCells (P := P) (o := o) hb n (i + 1) (acc ++ [vs[o + i]]) (by omega)
    simp only [List.push_toArray] at ih ⊢
    rw [ih]
    congr 2
    rw [List.append_assoc]
    congr 1
    rw [show o + (i + 1) = o + i + 1 by omega, List.drop_eq_getElem_cons hlt, List.take_succ_cons]
    rfl

/-- A list with some of its places written. -/
def setR {α : Type} : List α → Nat → List α → List α
  | vs, _, [] => vs
  | vs, o, u :: us => setR (vs.set o u) (o + 1) us
theorem setR_length {α : Type} : ∀ (us vs : List α) (o : Nat), (setR vs o us).length = vs.length
  | [], vs, o => rfl
  | u :: us, vs, o => by simp [setR, setR_length us]
theorem setR_get {α : Type} : ∀ (us vs : List α) (o i : Nat), o + us.length ≤ vs.length → (setR vs o us)[i]? = if o ≤ i ∧ i < o + us.length then us[i - o]? else vs[i]?
  | [], vs, o, i, _ => by simp [setR]; omega
  | u :: us, vs, o, i, h => by
    simp only [List.length_cons] at h ⊢
    rw [setR, setR_get us _ _ _ (by simp; omega)]
    by_cases h1 : o + 1 ≤ i ∧ i < o + 1 + us.length
    · rw [if_pos h1, if_pos (by omega), show i - o = (i - (o + 1)) + 1 by omega, List.getElem?_cons_succ]
    · rw [if_neg h1]
      by_cases h2 : i = o
      · subst h2
        rw [if_pos (by omega)]
        simp [List.getElem?_set_self (show i < vs.length by omega)]
      · rw [if_neg (by omega), List.getElem?_set_ne (Ne.symm h2)]

/-- A world after some cells of a block have been written. -/
structure Wrote (w w' : World) (b : Nat) : Prop where
  size : w'.heap.size = w.heap.size
  same : ∀ k, k ≠ b → w'.heap[k]? = w.heap[k]?
  os : w'.os = w.os
  tape : w'.tape = w.tape
  output : w'.output = w.output
theorem Wrote.refl (w : World) (b : Nat) : Wrote w w b := ⟨rfl, fun _ _ => rfl, rfl, rfl, rfl⟩
theorem Wrote.trans {a b c : World} {k : Nat} (h : Wrote a b k) (h' : Wrote b c k) : Wrote a c k :=
  ⟨h'.size.trans h.size, fun j hj => (h'.same j hj).trans (h.same j hj), h'.os.trans h.os, h'.tape.trans h.tape, h'.output.trans h.output⟩

theorem setCell_at {w : World} {b o : Nat} {vs : List Value} {e : TypeId} {fr : Nat × Nat} (hb : w.heap[b]? = some (.cells vs.toArray e fr)) (v : Value) :
    (w.setCell ⟨b, o, none⟩ v).heap[b]? = some (.cells (vs.set o v).toArray e fr) ∧ Wrote w (w.setCell ⟨b, o, none⟩ v) b := by
  have hlt := (Array.getElem?_eq_some_iff.1 hb).1
  refine ⟨?_, by simp [World.setCell], ?_, rfl, rfl, rfl⟩
  · simp only [World.setCell, Array.getElem?_modify, if_true, hb]
    simp
  · intro k hk
    simp only [World.setCell, Array.getElem?_modify]
    rw [if_neg (Ne.symm hk)]

theorem run_store {P : Program} {w : World} {b o : Nat} {vs : List Value} {e : TypeId} {fr : Nat × Nat} (hb : w.heap[b]? = some (.cells vs.toArray e fr)) (hf : Loose fr vs.length) (ho : o < vs.length) {v : Value} (hv : v.oneCell = true) :
    (store ⟨b, o, none⟩ v).run P w = .ok () (w.setCell ⟨b, o, none⟩ v) := by
  have hc : w.cell? ⟨b, o, none⟩ = some vs[o] := by rw [cell_at hb, List.getElem?_eq_getElem ho]
  have hz : w.frozen? ⟨b, o, none⟩ = false := by
    simp only [World.frozen?, hb]
    exact hf o ho
  cases v <;> simp_all [store, Sem.run, Value.oneCell]

theorem run_storeCells {P : Program} {b o : Nat} {e : TypeId} {fr : Nat × Nat} : ∀ (us vs : List Value) (i : Nat) (w : World), w.heap[b]? = some (.cells vs.toArray e fr) → Loose fr vs.length → o + i + us.length ≤ vs.length → (∀ u ∈ us, u.oneCell = true) →
    ∃ w', (storeCells ⟨b, o, none⟩ us i).run P w = .ok () w' ∧ Wrote w w' b ∧ w'.heap[b]? = some (.cells (setR vs (o + i) us).toArray e fr)
  | [], vs, i, w, hb, _, _, _ => ⟨w, by simp [storeCells], Wrote.refl w b, by simpa [setR] using hb⟩
  | u :: us, vs, i, w, hb, hf, hl, hu => by
    simp only [List.length_cons] at hl
    have h1 := run_store (P := P) (w := w) (b := b) (o := o + i) hb hf (by omega) (hu u (by simp))
    obtain ⟨h2, h3⟩ := setCell_at (o := o + i) hb u
    obtain ⟨w', h4, h5, h6⟩ := run_storeCells (P := P) (o := o) us (vs.set (o + i) u) (i + 1) _ h2 (by simpa using hf) (by simp; omega) (fun x hx => hu x (by simp [hx]))
    refine ⟨w', ?_, h3.trans h5, ?_⟩
    · simp only [storeCells, add_addr]
      rw [Sem.run_bind, h1]
      simp only [Result.andThen]
      exact h4
    · rw [h6]; rfl

theorem run_newRow {P : Program} {w : World} (e : TypeId) (cs : Array Value) : (newRow e cs).run P w = .ok ⟨w.heap.size, 0, none⟩ { w with heap := w.heap.push (.cells cs e) } := by
  simp [newRow, newObj, Sem.run]

theorem run_info {P : Program} {w : World} {t : TypeId} {i : TypeInfo} (h : P.info? t = some i) : (typeInfo t).run P w = .ok i w := by
  simp [typeInfo, program, Sem.run, h]
theorem run_size {P : Program} {w : World} {t : TypeId} {i : TypeInfo} (h : P.info? t = some i) : (sizeOf t).run P w = .ok i.size w := by
  simp [sizeOf, run_info h, Result.andThen]
theorem run_under {P : Program} {w : World} {t : TypeId} {d : TypeDesc} (h : P.underlying t = some d) : (underlying t).run P w = .ok d w := by
  simp [underlying, program, Sem.run, h]
theorem run_zero {P : Program} {w : World} {t : TypeId} {i : TypeInfo} {z : Value} (h : P.info? t = some i) (hz : i.zero = some z) : (zeroValue t).run P w = .ok z w := by
  simp [zeroValue, run_info h, Result.andThen, hz]

/-- Is the type a struct or an array? -/
def aggT (P : Program) (t : TypeId) : Option Bool :=
  match P.underlying t with
  | some (.struct _) | some (.array _ _) => some true
  | some _ => some false
  | none => none
theorem run_isAgg {P : Program} {w : World} {t : TypeId} {b : Bool} (h : aggT P t = some b) : (isAgg t).run P w = .ok b w := by
  unfold aggT at h
  split at h
  · rename_i f hu; cases h; simp [isAgg, run_under hu, Result.andThen]
  · rename_i n e hu; cases h; simp [isAgg, run_under hu, Result.andThen]
  · rename_i d hs ha hu
    cases h
    simp only [isAgg, Sem.run_bind, run_under hu, Result.andThen]
    cases d <;> simp_all
  · simp at h

/-! ### Values that are what they stand for -/
mutual
/-- A plain value with no row in it, as the model has it. -/
def PV.conc : PV → Option Value
  | .bool b => some (.bool b)
  | .int k n => some (.int k n)
  | .str s => some (.string s)
  | .nilsl => some (.slice none 0 0)
  | .nilptr => some (.pointer none)
  | .nilmap => some (.map none)
  | .nilfn => some .nilFunc
  | .nilif => some .nilIface
  | .fn f => some (.func (.func f) #[] #[])
  | .iface t x => (PV.conc x).map (.iface t)
  | .agg xs => (PV.concL xs).map fun vs => .agg vs.toArray
  | .tup xs => (PV.concL xs).map fun vs => .tuple vs.toArray
  | .list _ _ => none
  | .iel _ _ => none
def PV.concL : List PV → Option (List Value)
  | [] => some []
  | x :: xs => match PV.conc x, PV.concL xs with
    | some v, some vs => some (v :: vs)
    | _, _ => none
end

mutual
theorem PV.conc_rel {I : Imm} : ∀ {x : PV} {u v : Value}, x.conc = some u → (x.rel I v ↔ v = u)
  | .bool _, u, v, h | .int _ _, u, v, h | .str _, u, v, h | .nilsl, u, v, h | .nilptr, u, v, h | .nilmap, u, v, h | .nilfn, u, v, h | .nilif, u, v, h | .fn _, u, v, h => by
    simp only [PV.conc, Option.some.injEq] at h
    subst h
    simp [PV.rel]
  | .iface t x, u, v, h => by
    simp only [PV.conc, Option.map_eq_some_iff] at h
    obtain ⟨y, hy, rfl⟩ := h
    simp only [PV.rel]
    constructor
    · rintro ⟨z, rfl, hz⟩
      rw [(PV.conc_rel hy).1 hz]
    · rintro rfl
      exact ⟨y, rfl, (PV.conc_rel hy).2 rfl⟩
  | .agg xs, u, v, h => by
    simp only [PV.conc, Option.map_eq_some_iff] at h
    obtain ⟨ys, hy, rfl⟩ := h
    simp only [PV.rel]
    constructor
    · rintro ⟨vs, rfl, hl, hr⟩
      rw [(PV.concL_rel hy).1 ⟨hl, hr⟩]
    · rintro rfl
      have := (PV.concL_rel (I := I) hy).2 rfl
      exact ⟨ys, rfl, this.1, this.2⟩
  | .tup xs, u, v, h => by
    simp only [PV.conc, Option.map_eq_some_iff] at h
    obtain ⟨ys, hy, rfl⟩ := h
    simp only [PV.rel]
    constructor
    · rintro ⟨vs, rfl, hl, hr⟩
      rw [(PV.concL_rel hy).1 ⟨hl, hr⟩]
    · rintro rfl
      have := (PV.concL_rel (I := I) hy).2 rfl
      exact ⟨ys, rfl, this.1, this.2⟩
  | .list _ _, u, v, h => by simp [PV.conc] at h
  | .iel _ _, u, v, h => by simp [PV.conc] at h
theorem PV.concL_rel {I : Imm} : ∀ {xs : List PV} {us vs : List Value}, PV.concL xs = some us → ((vs.length = xs.length ∧ PV.relT I xs vs) ↔ vs = us)
  | [], us, vs, h => by
    simp only [PV.concL, Option.some.injEq] at h
    subst h
    simp [PV.relT]
  | x :: xs, us, vs, h => by
    simp only [PV.concL] at h
    split at h
    · rename_i y ys hy hys
      cases h
      simp only [PV.relT]
      constructor
      · rintro ⟨hl, z, r, rfl, h1, h2⟩
        rw [(PV.conc_rel hy).1 h1, (PV.concL_rel hys).1 ⟨by simpa using hl, h2⟩]
      · rintro rfl
        have := (PV.concL_rel (I := I) hys).2 rfl
        exact ⟨by simp [this.1], y, ys, rfl, (PV.conc_rel hy).2 rfl, this.2⟩
    · simp at h
end

/-- A value of the model that is its own sign: a scalar. -/
def absS : Value → Option PV
  | .bool b => some (.bool b)
  | .int k n => some (.int k n)
  | .string s => some (.str s)
  | .slice none 0 0 => some .nilsl
  | .pointer none => some .nilptr
  | .map none => some .nilmap
  | .nilFunc => some .nilfn
  | .nilIface => some .nilif
  | .func (.func f) ⟨[]⟩ ⟨[]⟩ => some (.fn f)
  | _ => none
theorem absS_rel {I : Imm} {v : Value} {x : PV} (h : absS v = some x) : x.rel I v := by
  unfold absS at h
  split at h <;> first | (cases h; simp [PV.rel]; done) | simp at h
def absL : List Value → Option (List PV)
  | [] => some []
  | v :: vs => match absS v, absL vs with
    | some x, some xs => some (x :: xs)
    | _, _ => none
theorem absL_rel {I : Imm} : ∀ {vs : List Value} {xs : List PV}, absL vs = some xs → vs.length = xs.length ∧ PV.relT I xs vs
  | [], xs, h => by cases h; simp [PV.relT]
  | v :: vs, xs, h => by
    simp only [absL] at h
    split at h
    · rename_i y ys hy hys
      cases h
      have := absL_rel (I := I) hys
      exact ⟨by simp [this.1], by simp only [PV.relT]; exact ⟨v, vs, rfl, absS_rel hy, this.2⟩⟩
    · simp at h
/-- A value of the model that is its own sign: scalars, structs, arrays and tuples of them. -/
def absV : Value → Option PV
  | .agg cs => (absL cs.toList).map .agg
  | .tuple cs => (absL cs.toList).map .tup
  | .iface t v => (absS v).map (.iface t)
  | v => absS v
theorem absV_rel {I : Imm} {v : Value} {x : PV} (h : absV v = some x) : x.rel I v := by
  unfold absV at h
  split at h
  · rename_i cs
    simp only [Option.map_eq_some_iff] at h
    obtain ⟨xs, hx, rfl⟩ := h
    have := absL_rel (I := I) hx
    simp only [PV.rel]
    exact ⟨cs.toList, by simp, this.1, this.2⟩
  · rename_i cs
    simp only [Option.map_eq_some_iff] at h
    obtain ⟨xs, hx, rfl⟩ := h
    have := absL_rel (I := I) hx
    simp only [PV.rel]
    exact ⟨cs.toList, by simp, this.1, this.2⟩
  · rename_i t u
    simp only [Option.map_eq_some_iff] at h
    obtain ⟨y, hy, rfl⟩ := h
    simp only [PV.rel]
    exact ⟨u, rfl, absS_rel hy⟩
  · exact absS_rel h

/-- What needs no memory. -/
def pureIn {α : Type} (P : Program) : Sem α → Option α
  | .pure a => some a
  | .program k => pureIn P (k P)
  | _ => none
theorem run_pureIn {α : Type} {P : Program} {s : Sem α} {a : α} (h : pureIn P s = some a) (w : World) : s.run P w = .ok a w := by
  induction s with
  | pure b => simp only [pureIn, Option.some.injEq] at h; subst h; rfl
  | program k ih => exact ih P h
  | _ => simp [pureIn] at h

end
end Go.Ks
