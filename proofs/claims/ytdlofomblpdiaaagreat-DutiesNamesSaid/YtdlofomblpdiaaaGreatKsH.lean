/- An abstract evaluator for the model's code, part H: append, copy, clear; maps. -/
import Derived.Test.YtdlofomblpdiaaaGreatKsG
import Derived.Deep.AppendSrc
namespace Go.Ks
noncomputable section
section
variable {P : Program} {w0 : World} {O : Nat → Prop} {I0 : Imm} {φ : Emb} {G : List GObj} {w : World}

/-! ### append -/
theorem growBy_le (n : Nat) : ∀ (r c : Nat), c ≤ n + (n + 768) / 4 → Builtin.growBy n r c ≤ n + (n + 768) / 4
  | 0, c, h => h
  | r + 1, c, h => by
    rw [Builtin.growBy]
    split
    · exact h
    · exact growBy_le n r _ (by omega)
theorem nextcap_le {need cap : Nat} (h : cap < need) : Builtin.nextslicecap need cap ≤ 2 * need + 192 := by
  unfold Builtin.nextslicecap
  split
  · omega
  · split
    · omega
    · have := growBy_le need 4 cap (by omega)
      omega

def isSliceT (P : Program) (t : TypeId) : Bool := match P.underlying t with
  | some (.slice _) => true
  | _ => false
theorem isSliceT_some {t : TypeId} (h : isSliceT P t = true) : ∃ e', P.underlying t = some (.slice e') := by
  unfold isSliceT at h
  split at h
  · rename_i e hu; exact ⟨e, hu⟩
  · simp at h

def aAppend (P : Program) (G : List GObj) (ts tx : TypeId) (s x : AV) : Option (AV × List GObj) :=
  match P.underlying ts with
  | some (.slice elem) => match P.info? elem with
    | some ie => match ie.zero.bind absV, rowOf G ie.size x with
      | some z, some ys => if isSliceT P tx = true ∧ z.cells.length = ie.size ∧ ys.all (fun y => y.cells.all (·.one)) = true then
          match s with
          | .p .nilsl => if ys = [] then some (.p .nilsl, G) else if ys.length * ie.bytes ≤ 2 ^ 46 ∧ ie.bytes ≤ 2 ^ 30 ∧ ys.length < 2 ^ 62 then some (.sl G.length 0 ys.length, G ++ [.arr ie.size ys]) else none
          | .sl g off len => match G[g]? with
            | some (.arr esz xs) => if esz = ie.size ∧ off + len ≤ xs.length ∧ (len + ys.length) * ie.bytes ≤ 2 ^ 46 ∧ ie.bytes ≤ 2 ^ 30 ∧ len + ys.length < 2 ^ 62 then
                some (.sl G.length 0 (len + ys.length), G.set g .dead ++ [.arr ie.size ((xs.drop off).take len ++ ys)])
              else none
            | _ => none
          | _ => none
        else none
      | _, _ => none
    | none => none
  | _ => none

theorem one_cells {esz : Nat} {ys : List PV} {us : List Value} (hl : us.length = ys.length * esz) (hr : PV.relE φ.I esz ys us) (ho : ys.all (fun y => y.cells.all (·.one)) = true) : ∀ u ∈ us, u.oneCell = true := by
  intro u hu
  obtain ⟨k, hk⟩ := List.mem_iff_getElem?.1 hu
  have hkl := (List.getElem?_eq_some_iff.1 hk).1
  have he : 0 < esz := by
    rcases Nat.eq_zero_or_pos esz with h0 | h0
    · subst h0; omega
    · exact h0
  have hi : k / esz < ys.length := (Nat.div_lt_iff_lt_mul he).2 (by omega)
  have h1 := PV.relC_iff.1 (PV.relE_iff.1 hr (k / esz) _ (List.getElem?_eq_getElem hi))
  have hm : k % esz < (ys[k / esz]).cells.length := by rw [h1.1]; exact Nat.mod_lt _ he
  obtain ⟨v, hv, hvr⟩ := PV.relT_iff.1 h1.2 _ _ (List.getElem?_eq_getElem hm)
  rw [List.getElem?_drop, Nat.mul_comm, Nat.div_add_mod, hk] at hv
  cases hv
  have h2 := List.all_eq_true.1 (List.all_eq_true.1 ho _ (List.getElem_mem hi)) _ (List.getElem_mem hm)
  exact PV.one_rel hvr h2

theorem oneCell_iff {u : Value} : u.oneCell' = u.oneCell := by cases u <;> rfl
theorem arr_append (xs : List Value) (Z : Array Value) : xs.toArray ++ Z = (xs ++ Z.toList).toArray := by
  apply Array.ext'
  simp
theorem drew_eq (w : World) : w.drew = { w with drawn := w.drawn + 1 } := rfl

theorem run_append_in {t tx ty e : TypeId} {i : TypeInfo} (ht : P.underlying t = some (.slice e)) (hi : P.info? e = some i) {b off sLen sCap : Nat} {x : Value} {n : Nat} {news : List Value} (hs : Src P i.size tx x n news w)
    (hroom : sLen + n ≤ sCap) {w' : World} (hst : (storeCells ⟨b, off + sLen * i.size, none⟩ news 0).run P w = .ok () w') :
    (Builtin.append_ #[t, tx] ty #[.slice (some ⟨b, off, none⟩) sLen sCap, x]).run P w = .ok (.slice (some ⟨b, off, none⟩) (sLen + n) sCap) w' := by
  rcases hs.kind with ⟨e', hk⟩ | hk <;> simp [Builtin.append_, run_underlying ht, run_underlying hk, sizeOf, typeInfo, hi, hs.len, hroom, hs.cells, add_addr, hst]
theorem run_append_0 {t tx ty e : TypeId} {i : TypeInfo} (ht : P.underlying t = some (.slice e)) (hi : P.info? e = some i) {a : Option Addr} {sLen sCap : Nat} {x : Value} (hs : Src P i.size tx x 0 [] w)
    (hroom : sLen ≤ sCap) : (Builtin.append_ #[t, tx] ty #[.slice a sLen sCap, x]).run P w = .ok (.slice a sLen sCap) w := by
  rcases hs.kind with ⟨e', hk⟩ | hk <;> cases a <;> simp [Builtin.append_, run_underlying ht, run_underlying hk, sizeOf, typeInfo, hi, hs.len, hroom, hs.cells, storeCells]

/-- The elements that are appended, as the kit's laws want them. -/
theorem src_of (h : Ctx w0 O I0 φ G w) {tx : TypeId} {esz : Nat} {x : AV} {v : Value} (hk : ∃ e', P.underlying tx = some (.slice e')) (hx : AV.rel φ x v) {ys : List PV} (hy : rowOf G esz x = some ys) (ho : ys.all (fun y => y.cells.all (·.one)) = true) :
    ∃ us : List Value, Src P esz tx v ys.length us w ∧ us.length = ys.length * esz ∧ PV.relE φ.I esz ys us := by
  obtain ⟨a, cap, rfl, hcap, hor⟩ := rowOf_sound h hx hy
  obtain ⟨us, h1, h2, h3⟩ := run_first (P := P) (w := w) (cap := cap) hor
  have hor' : ys = [] ∨ ∃ (b o : Nat) (vs : List Value) (e : TypeId) (fr : Nat × Nat), a = some ⟨b, o, none⟩ ∧ w.drew.heap[b]? = some (.cells vs.toArray e fr) ∧ PV.relE φ.I esz ys (vs.drop o) := hor
  obtain ⟨us', h1', h2', h3'⟩ := run_first (P := P) (w := w.drew) (cap := cap) hor'
  have he : us' = us := by
    rcases hor with rfl | ⟨b, o, vs, e, fr, rfl, hb, hr⟩
    · simp at h2 h2'
      rw [h2, h2']
    · have hs : ∀ k, k < ys.length * esz → ∃ u, vs[o + k]? = some u := fun k hk => by
        obtain ⟨u, hu⟩ := relE_some hr hk
        rw [List.getElem?_drop] at hu
        exact ⟨u, hu⟩
      have e1 := run_loadCells' (P := P) hb _ hs
      have e2 := run_loadCells' (P := P) (w := w.drew) hb _ hs
      simp only [Builtin.firstCells] at h1 h1'
      rw [e1] at h1
      rw [e2] at h1'
      simp only [Result.ok.injEq, and_true] at h1 h1'
      have := h1.symm.trans h1'
      simpa using this.symm
  subst he
  exact ⟨us', ⟨.inl hk, fun _ => rfl, h1, h1', h2, fun u hu => by rw [oneCell_iff]; exact one_cells h2 h3 ho u hu⟩, h2, h3⟩

theorem aAppend_sound (h : Ctx w0 O I0 φ G w) {ts tx ty : TypeId} {s x : AV} {vs vx : Value} (hs : AV.rel φ s vs) (hx : AV.rel φ x vx) {r : AV × List GObj} (hr : aAppend P G ts tx s x = some r) :
    ∃ u w' φ', (Builtin.append_ #[ts, tx] ty #[vs, vx]).run P w = .ok u w' ∧ Ext φ φ' ∧ Ctx w0 O I0 φ' r.2 w' ∧ AV.rel φ' r.1 u := by
  unfold aAppend at hr
  split at hr
  · rename_i elem hu
    split at hr
    · rename_i ie hie
      split at hr
      · rename_i z ys hz hy
        split at hr
        · rename_i hc
          obtain ⟨c1, c2, c3⟩ := hc
          simp only [Option.bind_eq_some_iff] at hz
          obtain ⟨zv, hz1, hz2⟩ := hz
          have hzr : AV.rel φ (.p z) zv := absV_rel hz2
          have hzc : zv.cells.toList.length = z.cells.length ∧ PV.relT φ.I z.cells zv.cells.toList := relL_plain.1 (AV.cells_rel hzr)
          have hzs : zv.cells.size = ie.size := by have := hzc.1; simp at this; omega
          have hzl : ∀ k, (Builtin.zeroCells zv.cells k).size = k * ie.size := fun k => by simp [Builtin.zeroCells, hzs]
          have hkind := isSliceT_some c1
          obtain ⟨us, hsrc, hul, hur⟩ := src_of (P := P) h hkind hx hy c3
          cases s with
          | p q =>
            cases q with
            | nilsl =>
              simp only at hr
              have hvs : vs = .slice none 0 0 := by have : PV.rel φ.I .nilsl vs := hs; simpa [PV.rel] using this
              subst hvs
              split at hr
              · rename_i he
                cases hr
                subst he
                have : us = [] := by simpa using hul
                subst this
                exact ⟨_, w, φ, run_append_0 hu hie hsrc (Nat.le_refl _), Ext.refl φ, h, by show PV.rel φ.I _ _; simp [PV.rel]⟩
              · rename_i he
                split at hr
                · rename_i hb
                  obtain ⟨b1, b2, b3⟩ := hb
                  cases hr
                  have hpos : 0 < ys.length := by
                    cases ys with
                    | nil => exact absurd rfl he
                    | cons _ _ => simp
                  have hcap := nextcap_le (need := 0 + ys.length) (cap := 0) (by omega)
                  have h3 : Builtin.nextslicecap (0 + ys.length) 0 * ie.bytes ≤ (2 * (0 + ys.length) + 192) * ie.bytes := Nat.mul_le_mul_right _ hcap
                  have h4 : (2 * (0 + ys.length) + 192) * ie.bytes = 2 * (ys.length * ie.bytes) + 192 * ie.bytes := by rw [Nat.add_mul, Nat.mul_assoc, Nat.zero_add]
                  have hrun := run_append_grow_src (P := P) w ts tx ty elem ie zv hu hie hz1 none 0 0 [] (by simp [Builtin.firstCells]) vx ys.length us hsrc (by omega) (by omega) (by omega)
                  have hge : ys.length ≤ grownCap w (0 + ys.length) 0 elem := by simp [grownCap, Question.cut]
                  obtain ⟨φ2, x2, k2, r2⟩ := h.drew.row (vs := us ++ (Builtin.zeroCells zv.cells (grownCap w (0 + ys.length) 0 elem - (0 + ys.length))).toList) elem (grownCap w (0 + ys.length) 0 elem) (esz := ie.size) (xs := ys) (by
                    simp only [List.length_append, hul, Array.length_toList, hzl]
                    rw [← Nat.add_mul]
                    congr 1
                    omega) hge (relE_congr hur fun k hk => by rw [List.getElem?_append_left (by omega)])
                  rw [arr_append, List.nil_append, Nat.zero_add] at hrun
                  simp only [Nat.zero_add] at k2 r2 x2
                  exact ⟨_, _, φ2, hrun, x2, k2, r2⟩
                · simp at hr
            | _ => simp at hr
          | sl g off len =>
            simp only at hr
            split at hr
            · rename_i esz xs hg
              split at hr
              · rename_i hb
                obtain ⟨b0, b1, b2, b3, b4⟩ := hb
                cases hr
                subst b0
                have hold := rowOf_sound h (esz := ie.size) hs (xs := (xs.drop off).take len) (by simp [rowOf, rowAt, hg, b1])
                have hlen : ((xs.drop off).take len).length = len := by simp; omega
                have hs0 := hs
                obtain ⟨hlt, a, cap, rfl, hcap, hor⟩ := hs
                obtain ⟨hze, cs, e, fr, g1, g2, g3, g4, g5⟩ := h.rel.obj g _ hg
                by_cases hroom : len + ys.length ≤ cap
                · rcases hor with ⟨h0, h0'⟩ | ⟨rfl, hbd⟩
                  · subst h0; subst h0'
                    have hy0 : ys = [] := List.eq_nil_of_length_eq_zero (by omega)
                    subst hy0
                    have hus : us = [] := by simpa using hul
                    subst hus
                    have hh := h.hand hg rfl (.arr ie.size ((xs.drop off).take 0 ++ [])) (φ.bas g) (φ.siz g) ie.size w rfl (fun _ _ => rfl) rfl rfl rfl
                      ⟨Emb.push_esz .., cs, e, fr, by rw [Emb.push_blk]; exact g1, g2, by rw [Emb.push_siz]; exact g3, by rw [Emb.push_bas, Emb.push_siz]; simp; omega, by simp [PV.relE]⟩
                    refine ⟨_, w, _, run_append_0 hu hie hsrc (Nat.le_refl _), Emb.push_ext .., hh, ?_⟩
                    exact ⟨by simp [Emb.push, h.rel.n], a, 0, rfl, Nat.le_refl _, .inl ⟨rfl, rfl⟩⟩
                  · have hmul : (len + ys.length) * ie.size ≤ cap * ie.size := Nat.mul_le_mul_right _ hroom
                    have hmul' : (off + cap) * ie.size = off * ie.size + cap * ie.size := by rw [Nat.add_mul]
                    have hmul'' : (len + ys.length) * ie.size = len * ie.size + ys.length * ie.size := by rw [Nat.add_mul]
                    rw [hze] at hbd
                    obtain ⟨w', r3, r4, r5⟩ := run_storeCells (P := P) (o := φ.bas g + off * φ.esz g + len * ie.size) us cs 0 w g1 g2 (by rw [hze]; omega) (one_cells hul hur c3)
                    have hrun := run_append_in (ty := ty) hu hie hsrc hroom r3
                    have hin : φ.bas g + off * ie.size + len * ie.size + us.length ≤ cs.length := by omega
                    have hh := h.hand hg rfl (.arr ie.size ((xs.drop off).take len ++ ys)) (φ.bas g + off * ie.size) (φ.siz g) ie.size w' r4.size r4.same r4.os r4.tape r4.output
                      ⟨Emb.push_esz .., setR cs (φ.bas g + off * ie.size + len * ie.size) us, e, fr, by rw [Emb.push_blk, r5, hze]; rfl, by rw [setR_length]; exact g2, by rw [Emb.push_siz, setR_length]; exact g3, by
                        rw [Emb.push_bas, Emb.push_siz, List.length_append, hlen]; omega, by
                        rw [Emb.push_bas]
                        refine relE_append.2 ⟨?_, ?_⟩
                        · show PV.relE φ.I _ _ _
                          refine relE_congr (cs := cs.drop (φ.bas g + off * ie.size)) ?_ fun k hk => ?_
                          · refine PV.relE_iff.2 fun k q hk => ?_
                            rw [List.getElem?_take] at hk
                            split at hk
                            · rw [List.getElem?_drop] at hk
                              have := PV.relE_iff.1 g5 _ q hk
                              rw [List.drop_drop] at this ⊢
                              rw [show φ.bas g + off * ie.size + k * ie.size = φ.bas g + (off + k) * ie.size by rw [Nat.add_mul]; omega]
                              exact this
                            · simp at hk
                          · rw [hlen] at hk
                            rw [List.getElem?_drop, List.getElem?_drop, setR_ne hin (by omega)]
                        · show PV.relE φ.I _ _ _
                          refine relE_congr hur fun k hk => ?_
                          rw [List.drop_drop, List.getElem?_drop, hlen, setR_in hin (by omega) (by omega)]
                          congr 1
                          omega⟩
                    refine ⟨_, w', _, hrun, Emb.push_ext .., hh, ?_⟩
                    refine ⟨by simp [Emb.push, h.rel.n], _, cap, rfl, hroom, .inr ⟨?_, ?_⟩⟩
                    · rw [← h.rel.n, Emb.push_blk, Emb.push_bas, Nat.zero_mul, hze]
                      rfl
                    · rw [← h.rel.n, Emb.push_bas, Emb.push_siz, Emb.push_esz, Nat.zero_add]
                      omega
                · obtain ⟨a', cap', he, hcap', hor'⟩ := hold
                  rw [hlen] at he
                  cases he
                  obtain ⟨os, o1, o2, o3⟩ := run_first (P := P) (w := w.drew) (cap := cap) (φ := φ) hor'
                  rw [hlen] at o1 o2
                  have hgrow : cap < len + ys.length := by omega
                  have hcp := nextcap_le hgrow
                  have h3 : Builtin.nextslicecap (len + ys.length) cap * ie.bytes ≤ (2 * (len + ys.length) + 192) * ie.bytes := Nat.mul_le_mul_right _ hcp
                  have h4 : (2 * (len + ys.length) + 192) * ie.bytes = 2 * ((len + ys.length) * ie.bytes) + 192 * ie.bytes := by rw [Nat.add_mul, Nat.mul_assoc]
                  have hrun := run_append_grow_src (P := P) w ts tx ty elem ie zv hu hie hz1 a len cap os o1 vx ys.length us hsrc hgrow (by omega) (by omega)
                  have hge : len + ys.length ≤ grownCap w (len + ys.length) cap elem := by simp [grownCap, Question.cut]
                  have hdead := h.drew.upd (o' := .dead) hg rfl _ rfl (fun _ _ => rfl) rfl rfl rfl (fun l => by simp [GObj.live] at l)
                  obtain ⟨φ2, x2, k2, r2⟩ := hdead.row (vs := os ++ us ++ (Builtin.zeroCells zv.cells (grownCap w (len + ys.length) cap elem - (len + ys.length))).toList) elem (grownCap w (len + ys.length) cap elem) (esz := ie.size) (xs := (xs.drop off).take len ++ ys) (by
                    simp only [List.length_append, hul, o2, Array.length_toList, hzl]
                    rw [← Nat.add_mul, ← Nat.add_mul]
                    congr 1
                    omega) (by rw [List.length_append, hlen]; exact hge) (by
                      rw [List.append_assoc]
                      refine relE_append.2 ⟨relE_congr o3 fun k hk => ?_, relE_congr hur fun k hk => ?_⟩
                      · rw [List.getElem?_append_left (by rw [hlen] at hk; omega)]
                      · rw [hlen, List.getElem?_drop, List.getElem?_append_right (by omega), o2, Nat.add_sub_cancel_left, List.getElem?_append_left (by omega)])
                  rw [arr_append] at hrun
                  rw [List.length_set, List.length_append, hlen] at r2
                  exact ⟨_, _, φ2, hrun, x2, k2, r2⟩
              · simp at hr
            · simp at hr
          | _ => simp at hr
        · simp at hr
      · simp at hr
    · simp at hr
  · simp at hr
end
end
end Go.Ks
