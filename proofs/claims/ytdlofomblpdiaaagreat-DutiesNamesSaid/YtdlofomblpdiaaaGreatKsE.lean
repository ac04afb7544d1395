/- An abstract evaluator for the model's code, part E: addresses, new variables, structs, rows, scalars. -/
import Derived.Test.YtdlofomblpdiaaaGreatKsD
namespace Go.Ks
noncomputable section
section
variable {P : Program} {w0 : World} {O : Nat → Prop} {I0 : Imm} {φ : Emb} {G : List GObj} {w : World}

/-- An address some cells on. -/
def AV.shift : AV → Nat → Option AV
  | .ref g off, k => some (.ref g (off + k))
  | .aref g i off, k => some (.aref g i (off + k))
  | .p (.iel x off), k => some (.p (.iel x (off + k)))
  | _, _ => none
theorem AV.shift_sound {x y : AV} {v : Value} {k : Nat} (hx : AV.rel φ x v) (hy : x.shift k = some y) : ∃ b o, v = .pointer (some ⟨b, o, none⟩) ∧ AV.rel φ y (.pointer (some ⟨b, o + k, none⟩)) := by
  cases x with
  | ref g off =>
    cases hy
    obtain ⟨hlt, rfl⟩ := hx
    exact ⟨_, _, rfl, hlt, by rw [Nat.add_assoc]⟩
  | aref g i off =>
    cases hy
    obtain ⟨hlt, rfl⟩ := hx
    exact ⟨_, _, rfl, hlt, by rw [Nat.add_assoc]⟩
  | p z =>
    cases z with
    | iel q off =>
      cases hy
      have hx' : PV.rel φ.I (.iel q off) v := hx
      simp only [PV.rel] at hx'
      obtain ⟨b, o, c, n, rfl, hb, hr⟩ := hx'
      refine ⟨_, _, rfl, ?_⟩
      show PV.rel φ.I _ _
      simp only [PV.rel]
      exact ⟨b, o, c, n, by rw [Nat.add_assoc], hb, hr⟩
    | _ => simp [AV.shift] at hy
  | _ => simp [AV.shift] at hy

def aFieldAddr (P : Program) (s : TypeId) (x : AV) (f : Nat) : Option AV :=
  match P.underlying s with
  | some (.struct fields) => match fields[f]? with
    | some fd => match P.info? fd.type with
      | some i => if i.size ≠ 0 then x.shift fd.offset else none
      | none => none
    | none => none
  | _ => none
theorem aFieldAddr_sound {s : TypeId} {x y : AV} {v : Value} {f : Nat} (hx : AV.rel φ x v) (hy : aFieldAddr P s x f = some y) :
    ∃ u, (Instr.fieldAt s v f).run P w = .ok u w ∧ AV.rel φ y u := by
  unfold aFieldAddr at hy
  split at hy
  · rename_i fields hu
    split at hy
    · rename_i fd hf
      split at hy
      · rename_i i hi
        split at hy
        · rename_i hz
          obtain ⟨b, o, rfl, hr⟩ := AV.shift_sound hx hy
          refine ⟨_, ?_, hr⟩
          simp only [Instr.fieldAt, Sem.run_bind, run_under hu, Result.andThen, hf, Instr.sureAddr, Sem.run_pure, fieldPlace, run_size hi]
          rw [if_neg hz]
          simp only [Sem.run_pure, Result.andThen, add_addr]
        · simp at hy
      · simp at hy
    · simp at hy
  · simp at hy

def aIndexAddr (P : Program) (G : List GObj) (t : TypeId) (x idx : AV) : Option AV :=
  match P.underlying t, idx with
  | some (.slice elem), .p (.int _ i) => match P.info? elem, x with
    | some ie, .sl g off len => match rowAt G g with
      | some (esz, xs) => if 0 ≤ i ∧ i < (len : Int) ∧ esz = ie.size ∧ off + len ≤ xs.length then some (.aref g (off + i.toNat) 0) else none
      | _ => none
    | some ie, .p (.list esz xs) => if 0 ≤ i ∧ esz = ie.size then (xs[i.toNat]?).map fun z => .p (.iel z 0) else none
    | _, _ => none
  | some (.array n elem), .p (.int _ i) => match P.info? elem with
    | some ie => if 0 ≤ i ∧ i < (n : Int) then x.shift (i.toNat * ie.size) else none
    | none => none
  | _, _ => none
theorem aIndexAddr_sound (h : Ctx w0 O I0 φ G w) {t : TypeId} {x y idx : AV} {v vi : Value} (hx : AV.rel φ x v) (hidx : AV.rel φ idx vi) (hy : aIndexAddr P G t x idx = some y) :
    ∃ u, (Instr.indexAt t v vi).run P w = .ok u w ∧ AV.rel φ y u := by
  unfold aIndexAddr at hy
  split at hy
  · rename_i elem k i hu
    have hvi : vi = .int k i := by have : PV.rel φ.I (.int k i) vi := hidx; simpa [PV.rel] using this
    subst hvi
    cases hie : P.info? elem with
    | none => simp [hie] at hy
    | some ie =>
    simp only [hie] at hy
    cases x with
    | sl g off len =>
      simp only at hy
      split at hy
      · rename_i esz xs hg
        split at hy
        · rename_i hc
          obtain ⟨h1, h2, h3, h4⟩ := hc
          cases hy
          obtain ⟨hlt, a, cap, rfl, hcap, hor⟩ := hx
          have hlen : 0 < len := by omega
          rcases hor with ⟨h0, _⟩ | ⟨rfl, hbd⟩
          · omega
          · obtain ⟨hz, _⟩ := h.readRow hg
            refine ⟨_, ?_, ⟨hlt, rfl⟩⟩
            simp only [Instr.indexAt, asIntOf, Sem.run_bind, Sem.run_pure, run_under hu, Result.andThen]
            rw [if_pos ⟨h1, h2⟩]
            simp only [Sem.run_bind, run_size hie, Result.andThen, Sem.run_pure, add_addr]
            congr 4
            rw [hz, h3, Nat.add_mul]
            omega
        · simp at hy
      · simp at hy
    | p z =>
      cases z with
      | list esz xs =>
        simp only at hy
        split at hy
        · rename_i hc
          obtain ⟨h1, h2⟩ := hc
          simp only [Option.map_eq_some_iff] at hy
          obtain ⟨z, hz, rfl⟩ := hy
          have hx' : PV.rel φ.I (.list esz xs) v := hx
          simp only [PV.rel] at hx'
          obtain ⟨a, cap, rfl, hcap, hor⟩ := hx'
          have hlt := (List.getElem?_eq_some_iff.1 hz).1
          rcases hor with rfl | ⟨b, o, c, rfl, hb, hr⟩
          · simp at hlt
          · refine ⟨.pointer (some ⟨b, o + i.toNat * esz, none⟩), ?_, ?_⟩
            · simp only [Instr.indexAt, asIntOf, Sem.run_bind, Sem.run_pure, run_under hu, Result.andThen]
              rw [if_pos ⟨h1, by omega⟩]
              simp only [Sem.run_bind, run_size hie, Result.andThen, Sem.run_pure, add_addr, h2]
            · show PV.rel φ.I _ _
              simp only [PV.rel]
              refine ⟨b, o + i.toNat * esz, c, esz, rfl, hb, ?_⟩
              have := PV.relE_iff.1 hr _ z hz
              rw [List.drop_drop] at this
              exact this
        · simp at hy
      | _ => simp at hy
    | _ => simp at hy
  · rename_i n elem k i hu
    have hvi : vi = .int k i := by have : PV.rel φ.I (.int k i) vi := hidx; simpa [PV.rel] using this
    subst hvi
    split at hy
    · rename_i ie hie
      split at hy
      · rename_i hc
        obtain ⟨b, o, rfl, hr⟩ := AV.shift_sound hx hy
        refine ⟨_, ?_, hr⟩
        simp only [Instr.indexAt, asIntOf, Sem.run_bind, Sem.run_pure, run_under hu, Result.andThen, Instr.sureAddr]
        rw [if_pos hc]
        simp only [Sem.run_bind, run_size hie, Result.andThen, Sem.run_pure, add_addr]
      · simp at hy
    · simp at hy
  · simp at hy

/-! ### New variables -/
theorem Ctx.box (h : Ctx w0 O I0 φ G w) {cs : List AV} {vs : List Value} (t : TypeId) (hr : AV.relL φ cs vs) :
    ∃ φ', Ext φ φ' ∧ Ctx w0 O I0 φ' (G ++ [.box cs]) { w with heap := w.heap.push (.cells vs.toArray t) } ∧ AV.rel φ' (.ref G.length 0) (.pointer (some ⟨w.heap.size, 0, none⟩)) := by
  have hx := Emb.push_ext φ w.heap.size 0 0 0
  refine ⟨_, hx, h.new _ _ 0 0 ⟨Emb.push_bas .., vs, t, ?_, AV.relL_ext hx _ _ hr⟩, ?_⟩
  · rw [Emb.push_blk]
    exact heap_push_new _
  · refine ⟨by simp [Emb.push, h.rel.n], ?_⟩
    rw [← h.rel.n, Emb.push_blk, Emb.push_bas]

def aBox (G : List GObj) (x : AV) : AV × List GObj := (.ref G.length 0, G ++ [.box x.cells])
theorem aBox_sound (h : Ctx w0 O I0 φ G w) (t : TypeId) {x : AV} {v : Value} (hx : AV.rel φ x v) :
    ∃ u w' φ', (Instr.box t v).run P w = .ok u w' ∧ Ext φ φ' ∧ Ctx w0 O I0 φ' (aBox G x).2 w' ∧ AV.rel φ' (aBox G x).1 u := by
  obtain ⟨φ', h1, h2, h3⟩ := h.box t (AV.cells_rel hx)
  refine ⟨_, _, φ', ?_, h1, h2, h3⟩
  simp only [Instr.box, newVar, Sem.run_bind, run_newRow, Result.andThen, Sem.run_pure, Array.toArray_toList]
def aAlloc (P : Program) (G : List GObj) (t : TypeId) : Option (AV × List GObj) :=
  match P.info? t with
  | some i => match i.zero.bind absV with
    | some z => some (aBox G (.p z))
    | none => none
  | none => none
theorem aAlloc_sound (h : Ctx w0 O I0 φ G w) {t : TypeId} {r : AV × List GObj} (hr : aAlloc P G t = some r) :
    ∃ u w' φ', (Instr.alloc t true (.tuple #[])).run P w = .ok u w' ∧ Ext φ φ' ∧ Ctx w0 O I0 φ' r.2 w' ∧ AV.rel φ' r.1 u := by
  unfold aAlloc at hr
  split at hr
  · rename_i i hi
    split at hr
    · rename_i z hz
      cases hr
      simp only [Option.bind_eq_some_iff] at hz
      obtain ⟨zv, h1, h2⟩ := hz
      have hzr : AV.rel φ (.p z) zv := absV_rel h2
      obtain ⟨u, w', φ', h3, h4, h5, h6⟩ := aBox_sound (P := P) h t hzr
      refine ⟨u, w', φ', ?_, h4, h5, h6⟩
      simp only [Instr.box] at h3
      simp only [Instr.alloc, Sem.run_bind, run_zero hi h1, Result.andThen]
      simpa only [Sem.run_bind, Result.andThen] using h3
    · simp at hr
  · simp at hr

/-! ### Parts of structs and arrays -/
def AV.aggCells : AV → Option (List AV)
  | .p (.agg xs) => some (xs.map .p)
  | .agg xs => some xs
  | _ => none
theorem AV.aggCells_sound {x : AV} {v : Value} {cs : List AV} (hx : AV.rel φ x v) (hc : x.aggCells = some cs) : ∃ vs : List Value, v = .agg vs.toArray ∧ AV.relL φ cs vs := by
  cases x with
  | p z =>
    cases z with
    | agg xs =>
      cases hc
      have hx' : PV.rel φ.I (.agg xs) v := hx
      simp only [PV.rel] at hx'
      obtain ⟨vs, rfl, hl, hr⟩ := hx'
      exact ⟨vs, rfl, relL_plain.2 ⟨hl, hr⟩⟩
    | _ => simp [AV.aggCells] at hc
  | agg xs =>
    cases hc
    exact hx
  | _ => simp [AV.aggCells] at hc
def AV.tupParts : AV → Option (List AV)
  | .p (.tup xs) => some (xs.map .p)
  | .tup xs => some xs
  | _ => none
theorem AV.tupParts_sound {x : AV} {v : Value} {cs : List AV} (hx : AV.rel φ x v) (hc : x.tupParts = some cs) : ∃ vs : List Value, v = .tuple vs.toArray ∧ AV.relL φ cs vs := by
  cases x with
  | p z =>
    cases z with
    | tup xs =>
      cases hc
      have hx' : PV.rel φ.I (.tup xs) v := hx
      simp only [PV.rel] at hx'
      obtain ⟨vs, rfl, hl, hr⟩ := hx'
      exact ⟨vs, rfl, relL_plain.2 ⟨hl, hr⟩⟩
    | _ => simp [AV.tupParts] at hc
  | tup xs =>
    cases hc
    exact hx
  | _ => simp [AV.tupParts] at hc

theorem AV.relL_drop {xs : List AV} {vs : List Value} (h : AV.relL φ xs vs) (k : Nat) : AV.relL φ (xs.drop k) (vs.drop k) := by
  rw [AV.relL_iff] at h ⊢
  refine ⟨by simp [h.1], fun i x hx => ?_⟩
  rw [List.getElem?_drop] at hx ⊢
  exact h.2 _ x hx
theorem AV.relL_take {xs : List AV} {vs : List Value} (h : AV.relL φ xs vs) (k : Nat) : AV.relL φ (xs.take k) (vs.take k) := by
  rw [AV.relL_iff] at h ⊢
  refine ⟨by simp [h.1], fun i x hx => ?_⟩
  rw [List.getElem?_take] at hx ⊢
  split at hx
  · rename_i hlt
    rw [if_pos hlt]
    exact h.2 _ x hx
  · simp at hx

def aPart (P : Program) (t : TypeId) (cs : List AV) (off : Nat) : Option AV :=
  match aggT P t, P.info? t with
  | some true, some i => some (.mkAgg ((cs.drop off).take i.size))
  | some false, _ => cs[off]?
  | _, _ => none
theorem aPart_sound {t : TypeId} {cs : List AV} {vs : List Value} {off : Nat} {y : AV} (hr : AV.relL φ cs vs) (hy : aPart P t cs off = some y) :
    ∃ u, (part t vs.toArray off).run P w = .ok u w ∧ AV.rel φ y u := by
  unfold aPart at hy
  split at hy
  · rename_i i ha hi
    cases hy
    refine ⟨_, ?_, AV.mkAgg_rel (AV.relL_take (AV.relL_drop hr off) i.size)⟩
    simp only [part, Sem.run_bind, run_isAgg ha, Result.andThen, if_true, run_size hi, Sem.run_pure]
    congr 2
    rw [List.extract_toArray]
    congr 1
    simp [List.extract_eq_take_drop]
  · rename_i ha
    obtain ⟨u, hu, hr'⟩ := AV.relL_get hr off y hy
    refine ⟨u, ?_, hr'⟩
    simp only [part, Sem.run_bind, run_isAgg ha, Result.andThen, Bool.false_eq_true, if_false, List.getElem?_toArray, hu, Sem.run_pure]
  · simp at hy

def aField (P : Program) (t : TypeId) (x : AV) (f : Nat) : Option AV :=
  match P.underlying t, x.aggCells with
  | some (.struct fields), some cs => match fields[f]? with
    | some fd => aPart P fd.type cs fd.offset
    | none => none
  | _, _ => none
theorem aField_sound {t : TypeId} {x y : AV} {v : Value} {f : Nat} (hx : AV.rel φ x v) (hy : aField P t x f = some y) :
    ∃ u, (Instr.field t v f).run P w = .ok u w ∧ AV.rel φ y u := by
  unfold aField at hy
  split at hy
  · rename_i fields cs hu hc
    split at hy
    · rename_i fd hf
      obtain ⟨vs, rfl, hr⟩ := AV.aggCells_sound hx hc
      obtain ⟨u, h1, h2⟩ := aPart_sound (w := w) hr hy
      refine ⟨u, ?_, h2⟩
      simp only [Instr.field, Sem.run_bind, run_under hu, Result.andThen, hf, asAgg, Sem.run_pure]
      exact h1
    · simp at hy
  · simp at hy

def aIndex (P : Program) (t : TypeId) (x idx : AV) : Option AV :=
  match P.underlying t, idx with
  | some (.array n elem), .p (.int _ i) => match x.aggCells, P.info? elem with
    | some cs, some ie => if 0 ≤ i ∧ i < (n : Int) then aPart P elem cs (i.toNat * ie.size) else none
    | _, _ => none
  | some .string, .p (.int _ i) => match x with
    | .p (.str s) => if 0 ≤ i then (s[i.toNat]?).map fun b => .p (.int .u8 b.toNat) else none
    | _ => none
  | _, _ => none
theorem aIndex_sound {t : TypeId} {x y idx : AV} {v vi : Value} (hx : AV.rel φ x v) (hidx : AV.rel φ idx vi) (hy : aIndex P t x idx = some y) :
    ∃ u, (Instr.index t v vi).run P w = .ok u w ∧ AV.rel φ y u := by
  unfold aIndex at hy
  split at hy
  · rename_i n elem k i hu
    have hvi : vi = .int k i := by have : PV.rel φ.I (.int k i) vi := hidx; simpa [PV.rel] using this
    subst hvi
    split at hy
    · rename_i cs ie hc hie
      split at hy
      · rename_i hin
        obtain ⟨vs, rfl, hr⟩ := AV.aggCells_sound hx hc
        obtain ⟨u, h1, h2⟩ := aPart_sound (w := w) hr hy
        refine ⟨u, ?_, h2⟩
        simp only [Instr.index, asIntOf, Sem.run_bind, Sem.run_pure, run_under hu, Result.andThen]
        rw [if_pos hin]
        simp only [Sem.run_bind, run_size hie, Result.andThen]
        exact h1
      · simp at hy
    · simp at hy
  · rename_i k i hu
    have hvi : vi = .int k i := by have : PV.rel φ.I (.int k i) vi := hidx; simpa [PV.rel] using this
    subst hvi
    split at hy
    · rename_i s
      split at hy
      · rename_i h0
        simp only [Option.map_eq_some_iff] at hy
        obtain ⟨b, hb, rfl⟩ := hy
        have hv : v = .string s := by have : PV.rel φ.I (.str s) v := hx; simpa [PV.rel] using this
        subst hv
        refine ⟨.int .u8 b.toNat, ?_, by show PV.rel φ.I _ _; simp [PV.rel]⟩
        simp only [Instr.index, asIntOf, Sem.run_bind, Sem.run_pure, run_under hu, Result.andThen]
        rw [if_pos h0, hb]
        simp only [Sem.run_pure]
      · simp at hy
    · simp at hy
  · simp at hy

def aExtract (x : AV) (i : Nat) : Option AV := x.tupParts.bind (·[i]?)
theorem aExtract_sound {x y : AV} {v : Value} {i : Nat} (hx : AV.rel φ x v) (hy : aExtract x i = some y) :
    ∃ u, (Instr.extract v i).run P w = .ok u w ∧ AV.rel φ y u := by
  unfold aExtract at hy
  simp only [Option.bind_eq_some_iff] at hy
  obtain ⟨cs, hc, hi⟩ := hy
  obtain ⟨vs, rfl, hr⟩ := AV.tupParts_sound hx hc
  obtain ⟨u, hu, hr'⟩ := AV.relL_get hr i y hi
  exact ⟨u, by simp [Instr.extract, hu], hr'⟩

/-! ### Structs and arrays that are built -/
theorem fold_setR (off : Nat) : ∀ (us : List Value) (k : Nat) (cs : Array Value), ((us.zipIdx k).foldl (fun cs (p : Value × Nat) => cs.setIfInBounds (off + p.2) p.1) cs).toList = setR cs.toList (off + k) us
  | [], k, cs => rfl
  | u :: us, k, cs => by
    simp only [List.zipIdx_cons, List.foldl_cons]
    rw [fold_setR off us (k + 1)]
    simp only [Array.toList_setIfInBounds, setR]
    rfl
theorem fill_cons (place : Nat → Option (Nat × Nat)) (cells : Array Value) (i : Nat) (v : Value) (rest : List (Nat × Value)) (off size : Nat) (hp : place i = some (off, size)) (h1 : v.cells.size = size) (h2 : off + v.cells.size ≤ cells.size) :
    Instr.fill place cells ((i, v) :: rest) = Instr.fill place (setR cells.toList off v.cells.toList).toArray rest := by
  have e : (v.cells.zipIdx.foldl (fun cs (p : Value × Nat) => cs.setIfInBounds (off + p.2) p.1) cells) = (setR cells.toList off v.cells.toList).toArray := by
    apply Array.toList_inj.1
    rw [← Array.foldl_toList, Array.toList_zipIdx]
    exact fold_setR off v.cells.toList 0 cells
  rw [Instr.fill, hp]
  simp only
  rw [if_neg (by simp; omega)]
  exact congrArg (fun x => Instr.fill place x rest) e

def aFill (place : Nat → Option (Nat × Nat)) : List AV → List (Nat × AV) → Option (List AV)
  | cells, [] => some cells
  | cells, (i, v) :: rest => match place i with
    | some (off, size) => if v.cells.length = size ∧ off + size ≤ cells.length then aFill place (setR cells off v.cells) rest else none
    | none => none
def relParts (φ : Emb) : List (Nat × AV) → List (Nat × Value) → Prop
  | [], vs => vs = []
  | x :: xs, vs => ∃ v r, vs = v :: r ∧ x.1 = v.1 ∧ AV.rel φ x.2 v.2 ∧ relParts φ xs r
theorem aFill_sound (place : Nat → Option (Nat × Nat)) : ∀ {parts : List (Nat × AV)} {vparts : List (Nat × Value)} {cells : List AV} {vs : List Value} {r : List AV}, relParts φ parts vparts → AV.relL φ cells vs → aFill place cells parts = some r →
    ∃ us : List Value, Instr.fill place vs.toArray vparts = some us.toArray ∧ AV.relL φ r us
  | [], vp, cells, vs, r, h, hc, hr => by
    simp only [relParts] at h
    subst h
    cases hr
    exact ⟨vs, rfl, hc⟩
  | (i, x) :: parts, vp, cells, vs, r, h, hc, hr => by
    obtain ⟨⟨j, v⟩, vr, rfl, rfl, h2, h3⟩ := h
    simp only [aFill] at hr
    split at hr
    · rename_i off size hp
      split at hr
      · rename_i hcond
        have hcv := AV.cells_rel h2
        have hlv : v.cells.size = x.cells.length := by simpa using AV.relL_length hcv
        have hlc := AV.relL_length hc
        obtain ⟨us, h4, h5⟩ := aFill_sound place h3 (relL_setR off hcv hc) hr
        refine ⟨us, ?_, h5⟩
        rw [fill_cons place _ i v vr off size hp (by omega) (by simp; omega)]
        exact h4
      · simp at hr
    · simp at hr

def structPlaces (P : Program) : List Field → Option (List (Nat × Nat))
  | [] => some []
  | f :: fs => match P.info? f.type, structPlaces P fs with
    | some i, some r => some ((f.offset, i.size) :: r)
    | _, _ => none
theorem run_places : ∀ {fs : List Field} {r : List (Nat × Nat)}, structPlaces P fs = some r → (fs.mapM fun f => do pure (f.offset, ← sizeOf f.type) : Sem (List (Nat × Nat))).run P w = .ok r w
  | [], r, h => by cases h; simp
  | f :: fs, r, h => by
    simp only [structPlaces] at h
    split at h
    · rename_i i r' hi hr
      cases h
      have ih := run_places hr
      simp only [List.mapM_cons, Sem.run_bind, run_size hi, Result.andThen, Sem.run_pure] at ih ⊢
      rw [ih]
    · simp at h

def aBuild (P : Program) (t : TypeId) (parts : List (Nat × AV)) : Option AV :=
  match P.info? t with
  | some i => match i.zero.bind absV with
    | some z => match P.underlying t with
      | some (.struct fields) => match structPlaces P fields.toList with
        | some places => (aFill (places[·]?) (AV.p z).cells parts).map .mkAgg
        | none => none
      | some (.array _ elem) => match P.info? elem with
        | some ie => (aFill (fun i => some (i * ie.size, ie.size)) (AV.p z).cells parts).map .mkAgg
        | none => none
      | _ => none
    | none => none
  | none => none
theorem aBuild_sound {t : TypeId} {parts : List (Nat × AV)} {vparts : Array (Nat × Value)} {y : AV} (hp : relParts φ parts vparts.toList) (hy : aBuild P t parts = some y) :
    ∃ u, (Instr.build t vparts).run P w = .ok u w ∧ AV.rel φ y u := by
  unfold aBuild at hy
  split at hy
  · rename_i i hi
    split at hy
    · rename_i z hz
      simp only [Option.bind_eq_some_iff] at hz
      obtain ⟨zv, h1, h2⟩ := hz
      have hzr : AV.rel φ (.p z) zv := absV_rel h2
      have hzc := AV.cells_rel hzr
      split at hy
      · rename_i fields hu
        split at hy
        · rename_i places hpl
          simp only [Option.map_eq_some_iff] at hy
          obtain ⟨r, hr, rfl⟩ := hy
          obtain ⟨us, h3, h4⟩ := aFill_sound _ hp hzc hr
          refine ⟨_, ?_, AV.mkAgg_rel h4⟩
          have hm := run_places (P := P) (w := w) hpl
          have hm' : (fields.mapM (fun f => do pure (f.offset, ← sizeOf f.type) : Field → Sem (Nat × Nat))).run P w = .ok places.toArray w := by
            rw [Array.mapM_eq_mapM_toList]
            simp only [Functor.map]
            rw [Sem.run_bind', hm]
            rfl
          simp only [Instr.build, Sem.run_bind, run_zero hi h1, Result.andThen, run_under hu, hm']
          simp only [Array.toArray_toList] at h3
          simp only [List.getElem?_toArray, h3, Sem.run_pure]
        · simp at hy
      · rename_i n elem hu
        split at hy
        · rename_i ie hie
          simp only [Option.map_eq_some_iff] at hy
          obtain ⟨r, hr, rfl⟩ := hy
          obtain ⟨us, h3, h4⟩ := aFill_sound _ hp hzc hr
          refine ⟨_, ?_, AV.mkAgg_rel h4⟩
          simp only [Array.toArray_toList] at h3
          simp only [Instr.build, Sem.run_bind, run_zero hi h1, Result.andThen, run_under hu, run_size hie, h3, Sem.run_pure]
        · simp at hy
      · simp at hy
    · simp at hy
  · simp at hy
end
end
end Go.Ks
