/- An abstract evaluator for the model's code, part I: copy, clear; maps; interface values. -/
import Derived.Test.YtdlofomblpdiaaaGreatKsH
namespace Go.Ks
noncomputable section
section
variable {P : Program} {w0 : World} {O : Nat → Prop} {I0 : Imm} {φ : Emb} {G : List GObj} {w : World}

theorem relE_setR {I : Imm} {esz : Nat} {xs ys : List PV} {vs us : List Value} {o off : Nat} (hx : PV.relE I esz xs (vs.drop o)) (hy : PV.relE I esz ys us) (hl : us.length = ys.length * esz) (h1 : off + ys.length ≤ xs.length) (h2 : o + xs.length * esz ≤ vs.length) :
    PV.relE I esz (setR xs off ys) ((setR vs (o + off * esz) us).drop o) := by
  have hm : (off + ys.length) * esz ≤ xs.length * esz := Nat.mul_le_mul_right _ h1
  have hm' : (off + ys.length) * esz = off * esz + ys.length * esz := by rw [Nat.add_mul]
  have hin : o + off * esz + us.length ≤ vs.length := by omega
  refine PV.relE_iff.2 fun i x hi => ?_
  rw [setR_get _ _ _ _ h1] at hi
  split at hi
  · rename_i hc
    have h3 := PV.relC_iff.1 (PV.relE_iff.1 hy _ x hi)
    refine PV.relC_iff.2 ⟨h3.1, PV.relT_iff.2 fun j z hz => ?_⟩
    have hj := (List.getElem?_eq_some_iff.1 hz).1
    have hi' := (List.getElem?_eq_some_iff.1 hi).1
    obtain ⟨u, hu, hur⟩ := PV.relT_iff.1 h3.2 j z hz
    refine ⟨u, ?_, hur⟩
    have e1 : (i - off) * esz + off * esz = i * esz := by rw [← Nat.add_mul]; congr 1; omega
    have e2 : (i - off + 1) * esz ≤ ys.length * esz := Nat.mul_le_mul_right _ (by omega)
    have e3 : (i - off + 1) * esz = (i - off) * esz + esz := by rw [Nat.add_mul]; omega
    rw [List.getElem?_drop] at hu
    rw [List.drop_drop, List.getElem?_drop, setR_in hin (by omega) (by omega), ← hu]
    congr 1
    omega
  · rename_i hc
    have h3 := PV.relC_iff.1 (PV.relE_iff.1 hx _ x hi)
    refine PV.relC_iff.2 ⟨h3.1, PV.relT_iff.2 fun j z hz => ?_⟩
    have hj := (List.getElem?_eq_some_iff.1 hz).1
    obtain ⟨u, hu, hur⟩ := PV.relT_iff.1 h3.2 j z hz
    refine ⟨u, ?_, hur⟩
    rw [List.drop_drop, List.getElem?_drop] at hu ⊢
    rw [setR_ne hin ?_]
    · exact hu
    · rcases Nat.lt_or_ge i off with hlt | hge
      · left
        have : (i + 1) * esz ≤ off * esz := Nat.mul_le_mul_right _ (by omega)
        have : (i + 1) * esz = i * esz + esz := by rw [Nat.add_mul]; omega
        omega
      · right
        have : (off + ys.length) * esz ≤ i * esz := Nat.mul_le_mul_right _ (by omega)
        omega

/-- Elements are written over some of a row's. -/
theorem Ctx.over (h : Ctx w0 O I0 φ G w) {g off len : Nat} {esz : Nat} {xs ys : List PV} {us : List Value} {a : Option Addr} {cap : Nat} (hg : G[g]? = some (.arr esz xs)) (hs : AV.rel φ (.sl g off len) (.slice a len cap)) (h1 : off + len ≤ xs.length) (h2 : ys.length ≤ len)
    (hy : PV.relE φ.I esz ys us) (hl : us.length = ys.length * esz) (ho : ys.all (fun y => y.cells.all (·.one)) = true) :
    ∃ w', (match a with | some b => storeCells b us | none => pure ()).run P w = .ok () w' ∧ Ctx w0 O I0 φ (G.set g (.arr esz (setR xs off ys))) w' := by
  obtain ⟨hlt, a', cap', e, hcap, hor⟩ := hs
  cases e
  obtain ⟨hze, cs, e, fr, g1, g2, g3, g4, g5⟩ := h.rel.obj g _ hg
  rcases hor with ⟨h0, h0'⟩ | ⟨rfl, hbd⟩
  · have hy0 : ys = [] := List.eq_nil_of_length_eq_zero (by omega)
    subst hy0
    have hus : us = [] := by simpa using hl
    subst hus
    refine ⟨w, by cases a <;> simp [storeCells], ?_⟩
    have := h.upd hg rfl (.arr esz (setR xs off [])) w rfl (fun _ _ => rfl) rfl rfl rfl fun _ => h.rel.obj g _ hg
    exact this
  · have hmul : (off + ys.length) * esz ≤ xs.length * esz := Nat.mul_le_mul_right _ (by omega)
    have hmul' : (off + ys.length) * esz = off * esz + ys.length * esz := by rw [Nat.add_mul]
    obtain ⟨w', r3, r4, r5⟩ := run_storeCells (P := P) (o := φ.bas g + off * φ.esz g) us cs 0 w g1 g2 (by rw [hze]; omega) (one_cells hl hy ho)
    refine ⟨w', r3, h.upd hg rfl _ w' r4.size r4.same r4.os r4.tape r4.output fun _ => ⟨hze, _, e, fr, r5, by rw [setR_length]; exact g2, by rw [setR_length]; exact g3, by rw [setR_length]; exact g4, ?_⟩⟩
    rw [hze, Nat.add_zero]
    exact relE_setR g5 hy hl (by omega) (by omega)

theorem run_first_n {esz n m : Nat} {xs : List PV} {a : Option Addr} {cap : Nat} (hn : n ≤ xs.length) (hor : xs = [] ∨ ∃ (b o : Nat) (vs : List Value) (e : TypeId) (fr : Nat × Nat), a = some ⟨b, o, none⟩ ∧ w.heap[b]? = some (.cells vs.toArray e fr) ∧ PV.relE φ.I esz xs (vs.drop o)) :
    ∃ us : List Value, (Builtin.firstCells esz n (.slice a m cap)).run P w = .ok us.toArray w ∧ us.length = n * esz ∧ PV.relE φ.I esz (xs.take n) us := by
  have hlen : (xs.take n).length = n := by simp; omega
  have hor' : xs.take n = [] ∨ ∃ (b o : Nat) (vs : List Value) (e : TypeId) (fr : Nat × Nat), a = some ⟨b, o, none⟩ ∧ w.heap[b]? = some (.cells vs.toArray e fr) ∧ PV.relE φ.I esz (xs.take n) (vs.drop o) := by
    rcases hor with rfl | ⟨b, o, vs, e, fr, rfl, hb, hr⟩
    · left; simp
    · refine .inr ⟨b, o, vs, e, fr, rfl, hb, PV.relE_iff.2 fun k z hk => ?_⟩
      rw [List.getElem?_take] at hk
      split at hk
      · exact PV.relE_iff.1 hr k z hk
      · simp at hk
  obtain ⟨us, h1, h2, h3⟩ := run_first (P := P) (w := w) (cap := cap) (φ := φ) hor'
  rw [hlen] at h1 h2
  exact ⟨us, by cases a <;> exact h1, h2, h3⟩

def aCopy (P : Program) (G : List GObj) (td : TypeId) (d s : AV) : Option (AV × List GObj) :=
  match P.underlying td, d with
  | some (.slice elem), .sl g off len => match P.info? elem, G[g]? with
    | some ie, some (.arr esz xs) => match rowOf G ie.size s with
      | some ys => if esz = ie.size ∧ off + len ≤ xs.length ∧ ys.all (fun y => y.cells.all (·.one)) = true then
          some (.p (.int .i64 (Nat.min ys.length len)), G.set g (.arr esz (setR xs off (ys.take (Nat.min ys.length len))))) else none
      | none => none
    | _, _ => none
  | _, _ => none
theorem aCopy_sound (h : Ctx w0 O I0 φ G w) {ats : Array TypeId} {td ty : TypeId} {d s : AV} {vd vs : Value} (ht : ats[0]? = some td) (hd : AV.rel φ d vd) (hs : AV.rel φ s vs) {r : AV × List GObj} (hr : aCopy P G td d s = some r) :
    ∃ u w' φ', (Builtin.copy_ ats ty #[vd, vs]).run P w = .ok u w' ∧ Ext φ φ' ∧ Ctx w0 O I0 φ' r.2 w' ∧ AV.rel φ' r.1 u := by
  unfold aCopy at hr
  cases hu : P.underlying td with
  | none => simp [hu] at hr
  | some dsc =>
  simp only [hu] at hr
  cases dsc with
  | slice elem =>
    cases d with
    | sl g off len =>
      simp only at hr
      split at hr
      · rename_i ie esz xs hie hg
        split at hr
        · rename_i ys hy
          split at hr
          · rename_i hc
            obtain ⟨c1, c2, c3⟩ := hc
            cases hr
            subst c1
            obtain ⟨a, cap, rfl, hcap, hor⟩ := rowOf_sound h hs hy
            have hmin : Nat.min ys.length len ≤ ys.length := Nat.min_le_left _ _
            have hmin' : Nat.min ys.length len ≤ len := Nat.min_le_right _ _
            obtain ⟨us, h1, h2, h3⟩ := run_first_n (P := P) (w := w) (cap := cap) (m := ys.length) hmin hor
            have hlen : (ys.take (Nat.min ys.length len)).length = Nat.min ys.length len := by rw [List.length_take]; omega
            have hd0 := hd
            obtain ⟨hlt, ad, capd, rfl, _⟩ := hd
            obtain ⟨w', h4, h5⟩ := h.over (P := P) (ys := ys.take (Nat.min ys.length len)) hg hd0 c2 (by omega) h3 (by rw [hlen]; exact h2) (by
              refine List.all_eq_true.2 fun q hq => List.all_eq_true.1 c3 q (List.mem_of_mem_take hq))
            refine ⟨_, w', φ, ?_, Ext.refl φ, h5, rel_of_int _ _⟩
            have e0 : (#[Value.slice ad len capd, Value.slice a ys.length cap] : Array Value)[0]? = some (.slice ad len capd) := rfl
            have e1 : (#[Value.slice ad len capd, Value.slice a ys.length cap] : Array Value)[1]? = some (.slice a ys.length cap) := rfl
            cases ad with
            | none =>
              simp only [Sem.run_pure, Result.ok.injEq, true_and] at h4
              subst h4
              simp only [Builtin.copy_, ht, e0, e1, Sem.run_bind, run_under hu, Result.andThen, Builtin.lenOf, Sem.run_pure, run_size hie, h1, goInt]
            | some ad =>
              simp only [Builtin.copy_, ht, e0, e1, Sem.run_bind, run_under hu, Result.andThen, Builtin.lenOf, Sem.run_pure, run_size hie, h1, goInt]
              simp only at h4
              rw [h4]
          · simp at hr
        · simp at hr
      · simp at hr
    | _ => simp at hr
  | _ => simp at hr

def aClear (P : Program) (G : List GObj) (td : TypeId) (d : AV) : Option (List GObj) :=
  match P.underlying td, d with
  | some (.slice elem), .sl g off len => match P.info? elem, G[g]? with
    | some ie, some (.arr esz xs) => match ie.zero.bind absV with
      | some z => if esz = ie.size ∧ off + len ≤ xs.length ∧ z.cells.length = ie.size ∧ z.cells.all (·.one) = true then some (G.set g (.arr esz (setR xs off (List.replicate len z)))) else none
      | none => none
    | _, _ => none
  | _, _ => none
theorem aClear_sound (h : Ctx w0 O I0 φ G w) {ats : Array TypeId} {td ty : TypeId} {d : AV} {vd : Value} (ht : ats[0]? = some td) (hd : AV.rel φ d vd) {G' : List GObj} (hr : aClear P G td d = some G') :
    ∃ w', (Builtin.clear_ ats ty #[vd]).run P w = .ok (.tuple #[]) w' ∧ Ctx w0 O I0 φ G' w' := by
  unfold aClear at hr
  cases hu : P.underlying td with
  | none => simp [hu] at hr
  | some dsc =>
  simp only [hu] at hr
  cases dsc with
  | slice elem =>
    cases d with
    | sl g off len =>
      simp only at hr
      split at hr
      · rename_i ie esz xs hie hg
        split at hr
        · rename_i z hz
          split at hr
          · rename_i hc
            obtain ⟨c1, c2, c3, c4⟩ := hc
            cases hr
            subst c1
            simp only [Option.bind_eq_some_iff] at hz
            obtain ⟨zv, hz1, hz2⟩ := hz
            have hzr : AV.rel φ (.p z) zv := absV_rel hz2
            have hzc : zv.cells.toList.length = z.cells.length ∧ PV.relT φ.I z.cells zv.cells.toList := relL_plain.1 (AV.cells_rel hzr)
            have hzs : zv.cells.size = z.cells.length := by have := hzc.1; simpa using this
            have hrow := zero_rows hzc.2 hzs len (Nat.le_refl _)
            have hzl : (Builtin.zeroCells zv.cells len).toList = ((Array.range (len * z.cells.length)).map (zv.cells[· % zv.cells.size]!)).toList := by simp only [Builtin.zeroCells, hzs]
            have hd0 := hd
            obtain ⟨hlt, ad, capd, rfl, hcap, hor⟩ := hd
            obtain ⟨w', h4, h5⟩ := h.over (P := P) (ys := List.replicate len z) (us := (Builtin.zeroCells zv.cells len).toList) hg hd0 c2 (by simp) (by rw [hzl, ← c3]; exact hrow) (by simp [Builtin.zeroCells, hzs, c3]) (by
              simp only [List.all_replicate]
              split <;> simp [c4])
            have e0 : (#[Value.slice ad len capd] : Array Value)[0]? = some (.slice ad len capd) := rfl
            refine ⟨w', ?_, h5⟩
            by_cases hlz : len = 0
            · subst hlz
              have hw : w' = w := by
                have : (Builtin.zeroCells zv.cells 0).toList = [] := by simp [Builtin.zeroCells]
                rw [this] at h4
                cases ad <;> simp [storeCells] at h4 <;> exact h4.symm
              subst hw
              cases ad <;> simp only [Builtin.clear_, ht, e0, Sem.run_bind, run_under hu, Result.andThen, Sem.run_pure]
            · rcases hor with ⟨h0, _⟩ | ⟨rfl, _⟩
              · omega
              · simp only at h4
                simp only [Builtin.clear_, ht, e0, Sem.run_bind, run_under hu, Result.andThen]
                obtain ⟨n, rfl⟩ : ∃ n, len = n + 1 := ⟨len - 1, by omega⟩
                simp only [Sem.run_bind, run_zero hie hz1, Result.andThen, h4, Sem.run_pure]
          · simp at hr
        · simp at hr
      · simp at hr
    | _ => simp at hr
  | _ => simp at hr
end
end
end Go.Ks
