/- An abstract evaluator for the model's code, part F: rows: made, cut, appended to, told. -/
import Derived.Test.YtdlofomblpdiaaaGreatKsE
namespace Go.Ks
noncomputable section
section
variable {P : Program} {w0 : World} {O : Nat → Prop} {I0 : Imm} {φ : Emb} {G : List GObj} {w : World}

theorem relT_take {I : Imm} {xs : List PV} {cs : List Value} {n : Nat} (h : PV.relT I xs cs) (hn : xs.length ≤ n) : PV.relT I xs (cs.take n) := by
  rw [PV.relT_iff] at h ⊢
  intro i x hx
  obtain ⟨v, hv, hr⟩ := h i x hx
  have := (List.getElem?_eq_some_iff.1 hx).1
  exact ⟨v, by rw [List.getElem?_take, if_pos (by omega)]; exact hv, hr⟩
/-- What is known of a row's elements hangs on their cells alone. -/
theorem relE_congr {I : Imm} {esz : Nat} {xs : List PV} {cs cs' : List Value} (h : PV.relE I esz xs cs) (he : ∀ k, k < xs.length * esz → cs'[k]? = cs[k]?) : PV.relE I esz xs cs' := by
  rw [PV.relE_iff] at h ⊢
  intro i x hx
  have hi := (List.getElem?_eq_some_iff.1 hx).1
  have h1 := PV.relC_iff.1 (h i x hx)
  refine PV.relC_iff.2 ⟨h1.1, PV.relT_iff.2 fun j y hy => ?_⟩
  have hj := (List.getElem?_eq_some_iff.1 hy).1
  obtain ⟨v, hv, hr⟩ := PV.relT_iff.1 h1.2 j y hy
  refine ⟨v, ?_, hr⟩
  rw [List.getElem?_drop] at hv ⊢
  have : (i + 1) * esz ≤ xs.length * esz := Nat.mul_le_mul_right _ (by omega)
  have : (i + 1) * esz = i * esz + esz := by rw [Nat.add_mul]; omega
  rw [he _ (by omega)]
  exact hv
theorem relE_some {I : Imm} {esz : Nat} {xs : List PV} {cs : List Value} (h : PV.relE I esz xs cs) {k : Nat} (hk : k < xs.length * esz) : ∃ u, cs[k]? = some u := by
  have he : 0 < esz := by
    rcases Nat.eq_zero_or_pos esz with h0 | h0
    · subst h0; simp at hk
    · exact h0
  have hi : k / esz < xs.length := (Nat.div_lt_iff_lt_mul he).2 hk
  have h1 := PV.relC_iff.1 (PV.relE_iff.1 h (k / esz) _ (List.getElem?_eq_getElem hi))
  have hm : k % esz < (xs[k / esz]).cells.length := by rw [h1.1]; exact Nat.mod_lt _ he
  obtain ⟨v, hv, _⟩ := PV.relT_iff.1 h1.2 _ _ (List.getElem?_eq_getElem hm)
  rw [List.getElem?_drop] at hv
  refine ⟨v, ?_⟩
  rw [← hv, Nat.mul_comm, Nat.div_add_mod]
theorem relE_append {I : Imm} {esz : Nat} {xs ys : List PV} {cs : List Value} : PV.relE I esz (xs ++ ys) cs ↔ PV.relE I esz xs cs ∧ PV.relE I esz ys (cs.drop (xs.length * esz)) := by
  simp only [PV.relE_iff]
  constructor
  · intro h
    refine ⟨fun i x hx => h i x ?_, fun i y hy => ?_⟩
    · have := (List.getElem?_eq_some_iff.1 hx).1
      rw [List.getElem?_append_left this]; exact hx
    · have := h (xs.length + i) y (by rw [List.getElem?_append_right (by omega)]; simpa using hy)
      rw [List.drop_drop]
      rw [Nat.add_mul] at this
      exact this
  · rintro ⟨h1, h2⟩ i x hx
    by_cases hi : i < xs.length
    · rw [List.getElem?_append_left hi] at hx
      exact h1 i x hx
    · rw [List.getElem?_append_right (by omega)] at hx
      have := h2 _ x hx
      rw [List.drop_drop, ← Nat.add_mul] at this
      rw [show xs.length + (i - xs.length) = i by omega] at this
      exact this

/-- The elements of a slice. -/
def rowOf (G : List GObj) (esz : Nat) : AV → Option (List PV)
  | .p .nilsl => some []
  | .p (.list e xs) => if e = esz then some xs else none
  | .sl g off len => match rowAt G g with
    | some (e, xs) => if e = esz ∧ off + len ≤ xs.length then some ((xs.drop off).take len) else none
    | _ => none
  | _ => none
theorem rowOf_sound (h : Ctx w0 O I0 φ G w) {esz : Nat} {x : AV} {v : Value} (hx : AV.rel φ x v) {xs : List PV} (hr : rowOf G esz x = some xs) :
    ∃ (a : Option Addr) (cap : Nat), v = .slice a xs.length cap ∧ xs.length ≤ cap ∧ (xs = [] ∨ ∃ (b o : Nat) (vs : List Value) (e : TypeId) (fr : Nat × Nat), a = some ⟨b, o, none⟩ ∧ w.heap[b]? = some (.cells vs.toArray e fr) ∧ PV.relE φ.I esz xs (vs.drop o)) := by
  cases x with
  | p z =>
    cases z with
    | nilsl =>
      cases hr
      have hx' : PV.rel φ.I .nilsl v := hx
      simp only [PV.rel] at hx'
      subst hx'
      exact ⟨none, 0, rfl, Nat.le_refl _, .inl rfl⟩
    | list e ys =>
      simp only [rowOf] at hr
      split at hr
      · rename_i he
        cases hr
        subst he
        have hx' : PV.rel φ.I (.list e xs) v := hx
        simp only [PV.rel] at hx'
        obtain ⟨a, cap, rfl, hc, hor⟩ := hx'
        refine ⟨a, cap, rfl, hc, hor.imp id ?_⟩
        rintro ⟨b, o, c, rfl, hb, hr⟩
        obtain ⟨e', fr, he'⟩ := h.rel.imm b c hb
        exact ⟨b, o, c, e', fr, rfl, he', hr⟩
      · simp at hr
    | _ => simp [rowOf] at hr
  | sl g off len =>
    simp only [rowOf] at hr
    split at hr
    · rename_i e ys hg
      split at hr
      · rename_i hc
        obtain ⟨he, hle⟩ := hc
        cases hr
        subst he
        obtain ⟨hlt, a, cap, rfl, hcap, hor⟩ := hx
        obtain ⟨hz, vs, e', fr, h1, h2, h3, h4⟩ := h.readRow hg
        have hlen : ((ys.drop off).take len).length = len := by simp; omega
        refine ⟨a, cap, by rw [hlen], by rw [hlen]; exact hcap, ?_⟩
        rcases hor with ⟨h0, _⟩ | ⟨rfl, _⟩
        · left; subst h0; simp
        · right
          refine ⟨_, _, vs, e', fr, rfl, h1, PV.relE_iff.2 fun k z hk => ?_⟩
          rw [List.getElem?_take] at hk
          split at hk
          · rw [List.getElem?_drop] at hk
            have := PV.relE_iff.1 h4 _ z hk
            rw [List.drop_drop] at this ⊢
            rw [hz, show φ.bas g + off * e + k * e = φ.bas g + (off + k) * e by rw [Nat.add_mul]; omega]
            exact this
          · simp at hk
      · simp at hr
    · simp at hr
  | _ => simp [rowOf] at hr

theorem run_first {esz : Nat} {xs : List PV} {a : Option Addr} {cap : Nat} (hor : xs = [] ∨ ∃ (b o : Nat) (vs : List Value) (e : TypeId) (fr : Nat × Nat), a = some ⟨b, o, none⟩ ∧ w.heap[b]? = some (.cells vs.toArray e fr) ∧ PV.relE φ.I esz xs (vs.drop o)) :
    ∃ us : List Value, (Builtin.firstCells esz xs.length (.slice a xs.length cap)).run P w = .ok us.toArray w ∧ us.length = xs.length * esz ∧ PV.relE φ.I esz xs us := by
  rcases hor with rfl | ⟨b, o, vs, e, fr, rfl, hb, hr⟩
  · refine ⟨[], ?_, by simp, by simp [PV.relE]⟩
    cases a <;> simp [Builtin.firstCells, loadCells, loadCellsFrom]
  · have hs : ∀ k, k < xs.length * esz → ∃ u, vs[o + k]? = some u := fun k hk => by
      obtain ⟨u, hu⟩ := relE_some hr hk
      rw [List.getElem?_drop] at hu
      exact ⟨u, hu⟩
    refine ⟨(vs.drop o).take (xs.length * esz), ?_, ?_, relE_congr hr fun k hk => by rw [List.getElem?_take, if_pos hk]⟩
    · simp only [Builtin.firstCells]
      exact run_loadCells' hb _ hs
    · simp only [List.length_take, List.length_drop]
      rcases Nat.eq_zero_or_pos (xs.length * esz) with h0 | h0
      · omega
      · obtain ⟨u, hu⟩ := hs (xs.length * esz - 1) (by omega)
        have := (List.getElem?_eq_some_iff.1 hu).1
        omega

/-- A new row. -/
theorem Ctx.row (h : Ctx w0 O I0 φ G w) {esz : Nat} {xs : List PV} {vs : List Value} (t : TypeId) (cap : Nat) (hl : vs.length = cap * esz) (hc : xs.length ≤ cap) (hr : PV.relE φ.I esz xs vs) :
    ∃ φ', Ext φ φ' ∧ Ctx w0 O I0 φ' (G ++ [.arr esz xs]) { w with heap := w.heap.push (.cells vs.toArray t) } ∧ AV.rel φ' (.sl G.length 0 xs.length) (.slice (some ⟨w.heap.size, 0, none⟩) xs.length cap) := by
  have hx := Emb.push_ext φ w.heap.size 0 (cap * esz) esz
  refine ⟨_, hx, h.new _ _ (cap * esz) esz ⟨Emb.push_esz .., vs, t, (0, 0), ?_, Loose.zero _, by rw [Emb.push_siz]; exact hl, ?_, ?_⟩, ?_⟩
  · rw [Emb.push_blk]
    exact heap_push_new _
  · rw [Emb.push_bas, Emb.push_siz, Nat.zero_add]
    exact Nat.mul_le_mul_right _ hc
  · rw [Emb.push_bas]
    exact PV.relE_mono hx.I _ _ _ (by simpa using hr)
  · refine ⟨by simp [Emb.push, h.rel.n], _, cap, rfl, hc, .inr ⟨?_, ?_⟩⟩
    · rw [← h.rel.n, Emb.push_blk, Emb.push_bas, Nat.zero_mul]
    · rw [← h.rel.n, Emb.push_bas, Emb.push_siz, Emb.push_esz, Nat.zero_add, Nat.zero_add]
      exact Nat.le_refl _

/-- Elements that a literal tells, one behind the other. -/
def aElems (esz : Nat) : List GObj → Nat → List (Nat × AV) → Option (List PV × List GObj)
  | G, _, [] => some ([], G)
  | G, k, (i, x) :: rest => match plainOf G x with
    | some (y, G1) => if i = k ∧ y.cells.length = esz then (aElems esz G1 (k + 1) rest).map fun r => (y :: r.1, r.2) else none
    | none => none
theorem relParts_ext {φ φ' : Emb} (h : Ext φ φ') : ∀ {xs : List (Nat × AV)} {vs : List (Nat × Value)}, relParts φ xs vs → relParts φ' xs vs
  | [], _, hr => hr
  | _ :: _, _, hr => by
    obtain ⟨v, r, e, h1, h2, h3⟩ := hr
    exact ⟨v, r, e, h1, AV.rel_ext h _ _ h2, relParts_ext h h3⟩
theorem aElems_sound {esz : Nat} : ∀ {parts : List (Nat × AV)} {vparts : List (Nat × Value)} {G : List GObj} {φ : Emb} {k : Nat} {ys : List PV} {G' : List GObj} {cells : List Value}, Ctx w0 O I0 φ G w → relParts φ parts vparts → aElems esz G k parts = some (ys, G') → (k + parts.length) * esz ≤ cells.length →
    ∃ (φ' : Emb) (us : List Value), Ext φ φ' ∧ Ctx w0 O I0 φ' G' w ∧ ys.length = parts.length ∧ Instr.fill (fun i => some (i * esz, esz)) cells.toArray vparts = some us.toArray ∧ us.length = cells.length ∧ (∀ j, j < k * esz → us[j]? = cells[j]?) ∧ PV.relE φ'.I esz ys (us.drop (k * esz))
  | [], vp, G, φ, k, ys, G', cells, h, hp, hr, hl => by
    simp only [relParts] at hp
    subst hp
    cases hr
    exact ⟨φ, cells, Ext.refl φ, h, rfl, rfl, rfl, fun _ _ => rfl, by simp [PV.relE]⟩
  | (i, x) :: parts, vp, G, φ, k, ys, G', cells, h, hp, hr, hl => by
    obtain ⟨⟨j, v⟩, vr, rfl, rfl, h2, h3⟩ := hp
    simp only [aElems] at hr
    split at hr
    · rename_i y G1 hpl
      split at hr
      · rename_i hc
        obtain ⟨hik, hyl⟩ := hc
        simp only [Option.map_eq_some_iff] at hr
        obtain ⟨⟨ys', G2⟩, hr', he⟩ := hr
        cases he
        obtain ⟨φ1, x1, c1, r1⟩ := plainOf_sound h h2 hpl
        have hyc : v.cells.toList.length = y.cells.length ∧ PV.relT φ1.I y.cells v.cells.toList := relL_plain.1 (AV.cells_rel (x := .p y) r1)
        simp only [List.length_cons] at hl
        have hk1 : (k + 1) * esz = k * esz + esz := by rw [Nat.add_mul]; omega
        have hk2 : (k + 1) * esz ≤ (k + (parts.length + 1)) * esz := Nat.mul_le_mul_right _ (by omega)
        have hsz : k * esz + v.cells.toList.length ≤ cells.length := by omega
        obtain ⟨φ2, us, x2, c2, l2, f2, u2, o2, e2⟩ := aElems_sound (cells := setR cells (k * esz) v.cells.toList) c1 (relParts_ext x1 h3) hr' (by rw [setR_length]; rw [show k + 1 + parts.length = k + (parts.length + 1) by omega]; exact hl)
        refine ⟨φ2, us, x1.trans x2, c2, by simp [l2], ?_, by rw [u2, setR_length], fun j hj => ?_, ?_⟩
        · rw [fill_cons (fun i => some (i * esz, esz)) cells.toArray i v vr (k * esz) esz (by simp [hik]) (by have := hyc.1; simp at this; omega) (by have := hsz; simp only [Array.length_toList] at this; exact this)]
          exact f2
        · rw [o2 j (by omega), setR_ne hsz (by omega)]
        · simp only [PV.relE]
          refine ⟨PV.relC_iff.2 ⟨hyl, PV.relT_iff.2 fun m z hm => ?_⟩, ?_⟩
          · have hml := (List.getElem?_eq_some_iff.1 hm).1
            obtain ⟨u, hu, hur⟩ := PV.relT_iff.1 hyc.2 m z hm
            refine ⟨u, ?_, PV.rel_mono x2.I _ _ hur⟩
            rw [List.getElem?_drop, o2 _ (by omega), setR_in hsz (by omega) (by omega)]
            rw [← hu]
            congr 1
            omega
          · rw [List.drop_drop, ← hk1]
            exact e2
      · simp at hr
    · simp at hr

def aBuildSlice (P : Program) (G : List GObj) (t : TypeId) (len : Nat) (parts : List (Nat × AV)) : Option (AV × List GObj) :=
  match P.underlying t with
  | some (.slice elem) => match P.info? elem with
    | some ie => match ie.zero with
      | some _ => if parts.length = len ∧ len * ie.size ≤ 2 ^ 24 then (aElems ie.size G 0 parts).map fun r => (.sl r.2.length 0 len, r.2 ++ [.arr ie.size r.1]) else none
      | none => none
    | none => none
  | _ => none
theorem aBuildSlice_sound (h : Ctx w0 O I0 φ G w) {t : TypeId} {len : Nat} {parts : List (Nat × AV)} {vparts : Array (Nat × Value)} {r : AV × List GObj} (hp : relParts φ parts vparts.toList) (hr : aBuildSlice P G t len parts = some r) :
    ∃ u w' φ', (Instr.buildSlice t len vparts).run P w = .ok u w' ∧ Ext φ φ' ∧ Ctx w0 O I0 φ' r.2 w' ∧ AV.rel φ' r.1 u := by
  unfold aBuildSlice at hr
  split at hr
  · rename_i elem hu
    split at hr
    · rename_i ie hie
      split at hr
      · rename_i zv hz
        split at hr
        · rename_i hc
          obtain ⟨hlen, hmax⟩ := hc
          simp only [Option.map_eq_some_iff] at hr
          obtain ⟨⟨ys, G'⟩, he, rfl⟩ := hr
          have hzero : ∃ zs : Array Value, ((if len * ie.size = 0 then pure #[] else do pure (← zeroValue elem).cells : Sem (Array Value))).run P w = .ok zs w := by
            split
            · exact ⟨#[], rfl⟩
            · exact ⟨zv.cells, by simp only [Sem.run_bind, run_zero hie hz, Result.andThen, Sem.run_pure]⟩
          obtain ⟨zs, hzs⟩ := hzero
          obtain ⟨φ1, us, x1, c1, l1, f1, u1, _, e1⟩ := aElems_sound (cells := ((Array.range (len * ie.size)).map (zs[· % zs.size]!)).toList) h hp he (by simp [hlen])
          have hul : us.length = len * ie.size := by rw [u1]; simp
          obtain ⟨φ2, x2, c2, r2⟩ := c1.row elem len (esz := ie.size) (xs := ys) (vs := us) hul (by omega) (by simpa using e1)
          refine ⟨.slice (some ⟨w.heap.size, 0, none⟩) len len, _, φ2, ?_, x1.trans x2, c2, by rw [l1, hlen] at r2; exact r2⟩
          simp only [Array.toArray_toList] at f1
          simp only [Instr.buildSlice, Sem.run_bind, run_under hu, Result.andThen, run_size hie]
          rw [if_neg (by omega)]
          by_cases hz0 : len * ie.size = 0
          · rw [if_pos hz0] at hzs ⊢
            obtain rfl : #[] = zs := by simpa using hzs
            simp only [Sem.run_bind, Sem.run_pure, Result.andThen, f1, run_newRow]
          · rw [if_neg hz0] at hzs ⊢
            simp only [Sem.run_bind, run_zero hie hz, Result.andThen, Sem.run_pure, Result.ok.injEq, and_true] at hzs
            subst hzs
            simp only [Sem.run_bind, Sem.run_pure, run_zero hie hz, Result.andThen, f1, run_newRow]
        · simp at hr
      · simp at hr
    · simp at hr
  · simp at hr

def aMakeSlice (P : Program) (G : List GObj) (t : TypeId) (l c : AV) : Option (AV × List GObj) :=
  match P.underlying t, l, c with
  | some (.slice elem), .p (.int _ l), .p (.int _ c) => match P.info? elem with
    | some ie => match ie.zero.bind absV with
      | some z => if 0 ≤ l ∧ l ≤ c ∧ c < 2 ^ 62 ∧ (ie.bytes : Int) * c ≤ 2 ^ 48 ∧ z.cells.length = ie.size then some (.sl G.length 0 l.toNat, G ++ [.arr ie.size (List.replicate l.toNat z)]) else none
      | none => none
    | none => none
  | _, _, _ => none
theorem wrap64_small {n : Int} (h0 : 0 ≤ n) (h1 : n < 2 ^ 62) : IntKind.i64.wrap n = n := by
  simp only [IntKind.wrap, IntKind.bits, IntKind.signed]
  first
    | omega
    | (simp; omega)
theorem zero_rows {zs : Array Value} {n : Nat} {z : PV} {I : Imm} (hr : PV.relT I z.cells zs.toList) (hl : zs.size = z.cells.length) (cap : Nat) (hn : n ≤ cap) :
    PV.relE I z.cells.length (List.replicate n z) ((Array.range (cap * z.cells.length)).map (zs[· % zs.size]!)).toList := by
  refine PV.relE_iff.2 fun i x hx => ?_
  have hi := (List.getElem?_eq_some_iff.1 hx).1
  rw [List.getElem?_replicate] at hx
  simp only [List.length_replicate] at hi
  rw [if_pos hi] at hx
  cases hx
  refine PV.relC_iff.2 ⟨rfl, PV.relT_iff.2 fun j y hy => ?_⟩
  have hj := (List.getElem?_eq_some_iff.1 hy).1
  obtain ⟨v, hv, hvr⟩ := PV.relT_iff.1 hr j y hy
  refine ⟨v, ?_, hvr⟩
  have h1 : (i + 1) * z.cells.length ≤ cap * z.cells.length := Nat.mul_le_mul_right _ (by omega)
  have h2 : (i + 1) * z.cells.length = i * z.cells.length + z.cells.length := by rw [Nat.add_mul]; omega
  rw [List.getElem?_drop, Array.getElem?_toList, Array.getElem?_map, Array.getElem?_range]
  rw [if_pos (by omega)]
  simp only [Option.map_some, Option.some.injEq]
  rw [hl]
  rw [show (i * z.cells.length + j) % z.cells.length = j by rw [Nat.add_comm, Nat.add_mul_mod_self_right, Nat.mod_eq_of_lt hj]]
  rw [Array.getElem?_toList] at hv
  rw [getElem!_def, hv]
theorem aMakeSlice_sound (h : Ctx w0 O I0 φ G w) {t : TypeId} {l c : AV} {vl vc : Value} (hl : AV.rel φ l vl) (hc : AV.rel φ c vc) {r : AV × List GObj} (hr : aMakeSlice P G t l c = some r) :
    ∃ u w' φ', (Instr.makeSlice t vl vc).run P w = .ok u w' ∧ Ext φ φ' ∧ Ctx w0 O I0 φ' r.2 w' ∧ AV.rel φ' r.1 u := by
  unfold aMakeSlice at hr
  split at hr
  · rename_i elem k1 li k2 ci hu
    have hvl : vl = .int k1 li := by have : PV.rel φ.I (.int k1 li) vl := hl; simpa [PV.rel] using this
    have hvc : vc = .int k2 ci := by have : PV.rel φ.I (.int k2 ci) vc := hc; simpa [PV.rel] using this
    subst hvl; subst hvc
    split at hr
    · rename_i ie hie
      split at hr
      · rename_i z hz
        split at hr
        · rename_i hcond
          obtain ⟨h0, h1, h2, h3, h4⟩ := hcond
          cases hr
          simp only [Option.bind_eq_some_iff] at hz
          obtain ⟨zv, hz1, hz2⟩ := hz
          have hzr : AV.rel φ (.p z) zv := absV_rel hz2
          have hzc : zv.cells.toList.length = z.cells.length ∧ PV.relT φ.I z.cells zv.cells.toList := relL_plain.1 (AV.cells_rel hzr)
          have hw1 : IntKind.i64.wrap li = li := wrap64_small h0 (by omega)
          have hw2 : IntKind.i64.wrap ci = ci := wrap64_small (by omega) h2
          have hrows : ∃ zs : Array Value, ((if ci.toNat * ie.size = 0 then pure #[] else do pure (← zeroValue elem).cells : Sem (Array Value))).run P w = .ok zs w ∧ PV.relE φ.I ie.size (List.replicate li.toNat z) ((Array.range (ci.toNat * ie.size)).map (zs[· % zs.size]!)).toList := by
            by_cases hz0 : ci.toNat * ie.size = 0
            · refine ⟨#[], by rw [if_pos hz0]; rfl, PV.relE_iff.2 fun i x hx => ?_⟩
              have hi := (List.getElem?_eq_some_iff.1 hx).1
              rw [List.getElem?_replicate] at hx
              simp only [List.length_replicate] at hi
              rw [if_pos hi] at hx
              cases hx
              have hs0 : ie.size = 0 := by
                rcases Nat.mul_eq_zero.1 hz0 with h5 | h5
                · omega
                · exact h5
              refine PV.relC_iff.2 ⟨h4, ?_⟩
              have : z.cells = [] := List.eq_nil_of_length_eq_zero (by omega)
              rw [this]
              simp [PV.relT]
            · refine ⟨zv.cells, by rw [if_neg hz0]; simp only [Sem.run_bind, run_zero hie hz1, Result.andThen, Sem.run_pure], ?_⟩
              rw [← h4]
              exact zero_rows hzc.2 (by simpa using hzc.1) _ (by omega)
          obtain ⟨zs, hzs, hre⟩ := hrows
          obtain ⟨φ2, x2, c2, r2⟩ := h.row elem ci.toNat (esz := ie.size) (by simp) (by simp; omega) hre
          refine ⟨.slice (some ⟨w.heap.size, 0, none⟩) li.toNat ci.toNat, _, φ2, ?_, x2, c2, by simpa using r2⟩
          have hb1 : ¬ ((decide (ci < 0) || decide ((ie.bytes : Int) * ci > 2 ^ 48) || decide (li < 0) || decide (li > ci)) = true) := by
            simp only [Bool.or_eq_true, decide_eq_true_eq]; omega
          simp only [Instr.makeSlice, Sem.run_bind, run_under hu, Result.andThen, asInt, asIntOf, Sem.run_pure, run_info hie, hw1, hw2]
          rw [if_neg (by simpa [Bool.or_eq_true] using hb1)]
          have hask : (askRoom (ci.toNat * ie.bytes)).run P w = .ok () w := by
            unfold askRoom
            split
            · simp [mark, Sem.run]
            · rfl
          simp only [Sem.run_bind, hask, Result.andThen, run_size hie]
          by_cases hz0 : ci.toNat * ie.size = 0
          · rw [if_pos hz0] at hzs ⊢
            obtain rfl : #[] = zs := by simpa using hzs
            simp only [Sem.run_bind, Sem.run_pure, Result.andThen, run_newRow, Array.toArray_toList]
          · rw [if_neg hz0] at hzs ⊢
            simp only [Sem.run_bind, run_zero hie hz1, Result.andThen, Sem.run_pure, Result.ok.injEq, and_true] at hzs
            subst hzs
            simp only [Sem.run_bind, Sem.run_pure, run_zero hie hz1, Result.andThen, run_newRow, Array.toArray_toList]
        · simp at hr
      · simp at hr
    · simp at hr
  · simp at hr
end
end
end Go.Ks
