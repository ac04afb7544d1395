/- An abstract evaluator for the model's code, part W: operations beside: array variables cut, iterators over maps. -/
import Derived.Test.YtdlofomblpdiaaaGreatKsU
namespace Go.Ks
noncomputable section
section
variable {P : Program} {w0 : World} {O : Nat → Prop} {I0 : Imm} {φ : Emb} {G : List GObj} {w : World}

def plainAs : List AV → Option (List PV)
  | [] => some []
  | .p x :: xs => (plainAs xs).map (x :: ·)
  | _ :: _ => none
theorem plainAs_rel : ∀ {cs : List AV} {ys : List PV} {vs : List Value}, plainAs cs = some ys → AV.relL φ cs vs → ys.length = cs.length ∧ ∀ (i : Nat) (y : PV), ys[i]? = some y → ∃ v, vs[i]? = some v ∧ y.rel φ.I v
  | [], ys, vs, h, hr => by cases h; exact ⟨rfl, fun i y hy => by simp at hy⟩
  | x :: cs, ys, vs, h, hr => by
    obtain ⟨v, r, rfl, h1, h2⟩ := hr
    cases x with
    | p z =>
      simp only [plainAs, Option.map_eq_some_iff] at h
      obtain ⟨zs, hz, rfl⟩ := h
      obtain ⟨k1, k2⟩ := plainAs_rel hz h2
      refine ⟨by simp [k1], fun i y hy => ?_⟩
      cases i with
      | zero => simp only [List.getElem?_cons_zero, Option.some.injEq] at hy; subst hy; exact ⟨v, by simp, h1⟩
      | succ i => simpa using k2 i y (by simpa using hy)
    | _ => simp [plainAs] at h

/-- An array variable is cut: nobody writes it any more. -/
def aSliceBox (P : Program) (G : List GObj) (t : TypeId) (x : AV) (lo hi : Option AV) : Option (AV × List GObj) :=
  match P.underlying t, x with
  | some (.array n elem), .ref g 0 => match P.info? elem, G[g]?, bound 0 lo, bound n hi with
    | some ie, some (.box cs), some l, some h => match plainAs cs with
      | some ys => if l ≤ h ∧ h ≤ n ∧ n = cs.length ∧ ie.size = 1 ∧ ys.all (fun y => !y.isAgg) = true then some (.p (.list 1 ((ys.drop l).take (h - l))), G.set g .dead) else none
      | none => none
    | _, _, _, _ => none
  | _, _ => none
theorem aSliceBox_sound (h : Ctx w0 O I0 φ G w) {t : TypeId} {x : AV} {lo hi : Option AV} {v : Value} {vlo vhi : Option Value} (hx : AV.rel φ x v) (r1 : relO φ lo vlo) (r2 : relO φ hi vhi) {r : AV × List GObj} (hy : aSliceBox P G t x lo hi = some r) :
    ∃ u φ', (Instr.sliceAt t v vlo vhi none).run P w = .ok u w ∧ Ext φ φ' ∧ Ctx w0 O I0 φ' r.2 w ∧ AV.rel φ' r.1 u := by
  unfold aSliceBox at hy
  split at hy
  · rename_i n elem g hu
    split at hy
    · rename_i ie cs l h' hie hg b1 b2
      split at hy
      · rename_i ys hys
        split at hy
        · rename_i hc
          obtain ⟨c1, c2, c3, c4, c5⟩ := hc
          cases hy
          obtain ⟨hlt, rfl⟩ := hx
          obtain ⟨hb, vs, e, h1, h2⟩ := h.rel.obj g _ hg
          obtain ⟨hx1, hx2⟩ := h.freeze hg rfl h1
          obtain ⟨k1, k2⟩ := plainAs_rel hys h2
          have hlen : ((ys.drop l).take (h' - l)).length = h' - l := by simp; omega
          refine ⟨.slice (some (if n = l then ⟨φ.blk g, φ.bas g + 0, none⟩ else (⟨φ.blk g, φ.bas g + 0, none⟩ : Addr).add (l * ie.size))) (h' - l) (n - l), _, ?_, hx1, hx2, ?_⟩
          · simp only [Instr.sliceAt, Sem.run_bind, run_under hu, Result.andThen, Instr.sureAddr, run_bounds r1 r2 b1 b2 c1 c2, run_size hie, Sem.run_pure]
          · show PV.rel _ _ _
            simp only [PV.rel]
            refine ⟨_, _, by rw [hlen], by rw [hlen]; omega, ?_⟩
            by_cases h0 : h' = l
            · left; subst h0; simp
            · right
              rw [if_neg (by omega)]
              refine ⟨φ.blk g, l, vs, by simp [add_addr, c4, hb], by simp [Emb.still], PV.relE_iff.2 fun k z hk => ?_⟩
              rw [List.getElem?_take] at hk
              split at hk
              · rw [List.getElem?_drop] at hk
                obtain ⟨u, hu1, hu2⟩ := k2 _ z hk
                have hz : z.isAgg = false := by
                  have := List.all_eq_true.1 c5 z (List.mem_of_getElem? hk)
                  simpa using this
                rw [List.drop_drop, PV.relC_one hz]
                refine ⟨rfl, u, vs.drop (l + k + 1), ?_, PV.rel_mono hx1.I _ _ hu2⟩
                have hlt' := (List.getElem?_eq_some_iff.1 hu1).1
                rw [Nat.mul_one, List.drop_eq_getElem_cons hlt']
                rw [List.getElem?_eq_getElem hlt'] at hu1
                rw [Option.some.inj hu1]
              · simp at hk
        · simp at hy
      · simp at hy
    · simp at hy
  · simp at hy

/-! ### Iterators over maps -/
def aRange (P : Program) (G : List GObj) (t : TypeId) (x : AV) : Option (AV × List GObj) :=
  match P.underlying t, x with
  | some (.map _ _), .mp g => match G[g]? with
    | some (.map _ _ clk) => some (.ref G.length 0, G ++ [.iter (some g) clk [] clk])
    | _ => none
  | some (.map _ _), .p .nilmap => some (.ref G.length 0, G ++ [.iter none 0 [] 0])
  | _, _ => none
theorem aRange_sound (h : Ctx w0 O I0 φ G w) {t : TypeId} {x : AV} {v : Value} (hx : AV.rel φ x v) {r : AV × List GObj} (hr : aRange P G t x = some r) :
    ∃ u w' φ', (Instr.range t v).run P w = .ok u w' ∧ Ext φ φ' ∧ Ctx w0 O I0 φ' r.2 w' ∧ AV.rel φ' r.1 u := by
  have hxt := Emb.push_ext φ w.heap.size 0 0 0
  have href : AV.rel (φ.push w.heap.size 0 0 0) (.ref G.length 0) (.pointer (some ⟨w.heap.size, 0, none⟩)) := by
    refine ⟨by simp [Emb.push, h.rel.n], ?_⟩
    rw [← h.rel.n, Emb.push_blk, Emb.push_bas]
  unfold aRange at hr
  split at hr
  · rename_i kt et g hu
    split at hr
    · rename_i es bs clk hg
      cases hr
      obtain ⟨hlt, rfl⟩ := hx
      obtain ⟨ms, h1, h2, h3⟩ := h.rel.obj g _ hg
      refine ⟨.pointer (some ⟨w.heap.size, 0, none⟩), _, _, ?_, hxt, h.new (.iter (some g) clk [] clk) (.mapIter (some (φ.blk g)) clk #[] clk) 0 0 ?_, href⟩
      · simp [Instr.range, run_under hu, Result.andThen, getObj, newObj, Sem.run, h1]
      · refine ⟨Emb.push_bas _ _ _ _ _, some (φ.blk g), by rw [Emb.push_blk]; exact heap_push_new _, .inr ⟨g, rfl, Nat.lt_of_lt_of_le hlt hxt.n, by rw [hxt.blk g hlt]⟩⟩
    · simp at hr
  · rename_i kt et hu
    cases hr
    have hv : v = .map none := by have : PV.rel φ.I .nilmap v := hx; simpa [PV.rel] using this
    subst hv
    refine ⟨.pointer (some ⟨w.heap.size, 0, none⟩), _, _, ?_, hxt, h.new (.iter none 0 [] 0) (.mapIter none 0 #[] 0) 0 0 ?_, href⟩
    · simp [Instr.range, run_under hu, Result.andThen, newObj, Sem.run]
    · exact ⟨Emb.push_bas _ _ _ _ _, none, by rw [Emb.push_blk]; exact heap_push_new _, .inl ⟨rfl, rfl⟩⟩
  · simp at hr

/-- Entries with their stamps. -/
def relZ (I : Imm) : List ((PV × PV) × Nat) → List MapEntry → Prop
  | [], es => es = []
  | x :: xs, es => ∃ e r, es = e :: r ∧ x.1.1.rel I e.key ∧ x.1.2.rel I e.val ∧ x.2 = e.born ∧ relZ I xs r
theorem relZ_zip {I : Imm} : ∀ {es : List (PV × PV)} {bs : List Nat} {ms : List MapEntry}, relM I es ms → ms.map (·.born) = bs → relZ I (es.zip bs) ms
  | [], bs, ms, h, hb => by simp only [relM] at h; subst h; simp at hb; subst hb; rfl
  | e :: es, bs, ms, h, hb => by
    obtain ⟨m, r, rfl, h1, h2, h3⟩ := h
    subst hb
    exact ⟨m, r, rfl, h1, h2, rfl, relZ_zip h3 rfl⟩
theorem relZ_filter {I : Imm} (q : Nat → Bool) : ∀ {xs : List ((PV × PV) × Nat)} {ms : List MapEntry}, relZ I xs ms → relZ I (xs.filter fun x => q x.2) (ms.filter fun m => q m.born)
  | [], ms, h => by simp only [relZ] at h; subst h; rfl
  | x :: xs, ms, h => by
    obtain ⟨m, r, rfl, h1, h2, h3, h4⟩ := h
    have ih := relZ_filter q h4
    simp only [List.filter_cons, h3]
    split
    · exact ⟨m, _, rfl, h1, h2, h3, ih⟩
    · exact ih
theorem relZ_append {I : Imm} : ∀ {xs ys : List ((PV × PV) × Nat)} {ms ns : List MapEntry}, relZ I xs ms → relZ I ys ns → relZ I (xs ++ ys) (ms ++ ns)
  | [], ys, ms, ns, h, k => by simp only [relZ] at h; subst h; exact k
  | x :: xs, ys, ms, ns, h, k => by
    obtain ⟨m, r, rfl, h1, h2, h3, h4⟩ := h
    exact ⟨m, _, rfl, h1, h2, h3, relZ_append h4 k⟩
theorem relZ_get {I : Imm} : ∀ {xs : List ((PV × PV) × Nat)} {ms : List MapEntry}, relZ I xs ms → xs.length = ms.length ∧ ∀ (i : Nat) (x : (PV × PV) × Nat), xs[i]? = some x → ∃ m, ms[i]? = some m ∧ x.1.1.rel I m.key ∧ x.1.2.rel I m.val ∧ x.2 = m.born
  | [], ms, h => by simp only [relZ] at h; subst h; exact ⟨rfl, fun i x hx => by simp at hx⟩
  | y :: xs, ms, h => by
    obtain ⟨m, r, rfl, h1, h2, h3, h4⟩ := h
    obtain ⟨k1, k2⟩ := relZ_get h4
    refine ⟨by simp [k1], fun i x hx => ?_⟩
    cases i with
    | zero => simp only [List.getElem?_cons_zero, Option.some.injEq] at hx; subst hx; exact ⟨m, by simp, h1, h2, h3⟩
    | succ i => simpa using k2 i x (by simpa using hx)
theorem relZ_find {I : Imm} (s : Nat) : ∀ {xs : List ((PV × PV) × Nat)} {ms : List MapEntry} {x : (PV × PV) × Nat}, relZ I xs ms → xs.find? (fun x => x.2 == s) = some x → ∃ m, ms.find? (fun m => m.born == s) = some m ∧ x.1.1.rel I m.key ∧ x.1.2.rel I m.val
  | [], ms, x, h, hx => by simp at hx
  | y :: xs, ms, x, h, hx => by
    obtain ⟨m, r, rfl, h1, h2, h3, h4⟩ := h
    simp only [List.find?_cons, h3] at hx ⊢
    split at hx
    · cases hx; exact ⟨m, rfl, h1, h2⟩
    · exact relZ_find s h4 hx

def aOver : AV := .p (.tup [.bool false])
def candsOf (es : List (PV × PV)) (bs : List Nat) (since : Nat) (seen : List Nat) : List (Option ((PV × PV) × Nat)) :=
  (if (((es.zip bs).filter fun e => !seen.contains e.2).filter fun e => decide (e.2 < since)).isEmpty then [none] else []) ++
    ((((es.zip bs).filter fun e => !seen.contains e.2).filter fun e => decide (e.2 < since)) ++ (((es.zip bs).filter fun e => !seen.contains e.2).filter fun e => decide (since ≤ e.2))).map some
def nextAns (G : List GObj) (g k since : Nat) (seen : List Nat) (clk : Nat) : Option (Option ((PV × PV) × Nat)) → M (AV × List GObj)
  | some none => .ret (aOver, G)
  | some (some e) => .ret (.p (.tup [.bool true, e.1.1, e.1.2]), G.set g (.iter (some k) since (seen ++ [e.2]) clk))
  | none => .fail
def aNext (G : List GObj) (it : AV) : M (AV × List GObj) :=
  match it with
  | .ref g 0 => match G[g]? with
    | some (.iter (some k) since seen last) => match G[k]? with
      | some (.map es bs clk) => if (!seen.isEmpty && (!bs.isEmpty && bs.all fun b => decide (last ≤ b))) = true then .fail
          else if (candsOf es bs since seen).length ≤ 1 then nextAns G g k since seen clk (candsOf es bs since seen)[0]?
          else .pick (candsOf es bs since seen).length fun i => nextAns G g k since seen clk (candsOf es bs since seen)[i]?
      | _ => .fail
    | some (.iter none _ _ _) => .ret (aOver, G)
    | _ => .fail
  | _ => .fail

theorem aOver_rel {φ : Emb} : AV.rel φ aOver (.tuple #[.bool false]) := by
  show PV.rel _ _ _
  simp only [PV.rel]
  exact ⟨[.bool false], rfl, rfl, by simp only [PV.relT]; exact ⟨_, _, rfl, by simp [PV.rel], trivial⟩⟩

theorem aNext_sound (h : Ctx w0 O I0 φ G w) {it : AV} {v : Value} (hx : AV.rel φ it v) (ty : TypeId) {K : AV × List GObj → Prop} (hk : (aNext G it).all K) :
    ∃ u w' r, (Instr.next v false ty).run P w = .ok u w' ∧ K r ∧ Ctx w0 O I0 φ r.2 w' ∧ AV.rel φ r.1 u := by
  unfold aNext at hk
  split at hk
  · rename_i g
    obtain ⟨hlt, rfl⟩ := hx
    split at hk
    · rename_i k since seen last hg
      split at hk
      · rename_i es bs clk hgk
        obtain ⟨hb, rr, h1, h2⟩ := h.rel.obj g _ hg
        obtain ⟨ms, m1, m2, m3⟩ := h.rel.obj k _ hgk
        rcases h2 with ⟨e, _⟩ | ⟨k', e, hkn, rfl⟩
        · cases e
        · cases e
          have hz := relZ_zip m2 m3
          have hl := relZ_filter (fun b => !seen.contains b) hz
          have ho := relZ_filter (fun b => decide (b < since)) hl
          have hnw := relZ_filter (fun b => decide (since ≤ b)) hl
          have hon := relZ_append ho hnw
          obtain ⟨ol, _⟩ := relZ_get ho
          obtain ⟨onl, onget⟩ := relZ_get hon
          split at hk
          · exact hk.elim
          · rename_i hcond
            -- the model's candidates
            obtain ⟨C, hC⟩ : ∃ C : List (Option MapEntry), C = (if ((ms.filter fun m => !seen.contains m.born).filter fun m => decide (m.born < since)).isEmpty then [none] else []) ++
              (((ms.filter fun m => !seen.contains m.born).filter fun m => decide (m.born < since)) ++ ((ms.filter fun m => !seen.contains m.born).filter fun m => decide (since ≤ m.born))).map some := ⟨_, rfl⟩
            have hlen : C.length = (candsOf es bs since seen).length := by
              rw [hC]
              unfold candsOf
              have he : ((ms.filter fun m => !seen.contains m.born).filter fun m => decide (m.born < since)).isEmpty = ((((es.zip bs).filter fun e => !seen.contains e.2).filter fun e => decide (e.2 < since))).isEmpty := by
                rw [Bool.eq_iff_iff, List.isEmpty_iff_length_eq_zero, List.isEmpty_iff_length_eq_zero, ol]
              rw [he, List.length_append, List.length_append, List.length_map, List.length_map, onl]
              split <;> rfl
            have hca : ((if ((ms.toArray.filter fun e => !seen.toArray.contains e.born).filter (fun e => decide (e.born < since))).isEmpty then #[none] else #[]) ++
              (((ms.toArray.filter fun e => !seen.toArray.contains e.born).filter (fun e => decide (e.born < since))) ++ ((ms.toArray.filter fun e => !seen.toArray.contains e.born).filter (fun e => decide (e.born ≥ since)))).map some : Array (Option MapEntry)) = C.toArray := by
              rw [hC]
              apply Array.ext'
              simp
              split <;> simp_all
            have hgo : (getObj (φ.blk g)).run P w = .ok (.mapIter (some (φ.blk k)) since seen.toArray last) w := by simp [getObj, Sem.run, h1]
            have hgo2 : (getObj (φ.blk k)).run P w = .ok (.map ms.toArray clk) w := by simp [getObj, Sem.run, m1]
            have hun : (!seen.toArray.isEmpty && !ms.toArray.isEmpty && ms.toArray.all fun e => decide (e.born ≥ last)) = false := by
              cases hq : (!seen.toArray.isEmpty && !ms.toArray.isEmpty && ms.toArray.all fun e => decide (e.born ≥ last)) with
              | false => rfl
              | true =>
                exfalso
                apply hcond
                simp only [Bool.and_eq_true, Bool.not_eq_true', List.isEmpty_toArray] at hq ⊢
                obtain ⟨⟨a1, a2⟩, a3⟩ := hq
                subst m3
                refine ⟨a1, by simpa using a2, ?_⟩
                rw [List.all_map]
                simpa using a3
            have hstep : ∀ (i : Nat) (w1 : World), (choose (.mapNext C.length)).run P w = .ok i w1 → (Instr.next (.pointer (some ⟨φ.blk g, φ.bas g + 0, none⟩)) false ty).run P w = (match C[i]? with
                | some (some e) => (do setObj (φ.blk g) (.mapIter (some (φ.blk k)) since (seen.toArray.push e.born) clk); pure (Value.tuple #[.bool true, e.key, e.val]) : Sem Value)
                | some none => pure (.tuple #[.bool false])
                | none => stuck "Next: no such candidate").run P w1 := by
              intro i w1 hi
              simp only [Instr.next, hb, Nat.add_zero, Sem.run_bind, hgo, hgo2, Result.andThen, hun, Bool.false_eq_true, if_false]
              rw [hca]
              simp only [Sem.run_bind, List.size_toArray, hi, Result.andThen, List.getElem?_toArray]
              cases C[i]? with
              | none => rfl
              | some c => cases c <;> rfl
            have hrel : ∀ i : Nat, (∀ e : (PV × PV) × Nat, (candsOf es bs since seen)[i]? = some (some e) → ∃ m : MapEntry, C[i]? = some (some m) ∧ e.1.1.rel φ.I m.key ∧ e.1.2.rel φ.I m.val ∧ e.2 = m.born) ∧ ((candsOf es bs since seen)[i]? = some none → C[i]? = some none) := by
              intro i
              rw [hC]
              unfold candsOf
              have he : ((ms.filter fun m => !seen.contains m.born).filter fun m => decide (m.born < since)).isEmpty = ((((es.zip bs).filter fun e => !seen.contains e.2).filter fun e => decide (e.2 < since))).isEmpty := by
                rw [Bool.eq_iff_iff, List.isEmpty_iff_length_eq_zero, List.isEmpty_iff_length_eq_zero, ol]
              rw [he]
              have hmapped : ∀ j : Nat, (∀ e : (PV × PV) × Nat, ((((((es.zip bs).filter fun e => !seen.contains e.2).filter fun e => decide (e.2 < since)) ++ (((es.zip bs).filter fun e => !seen.contains e.2).filter fun e => decide (since ≤ e.2))).map some)[j]? = some (some e) → ∃ m : MapEntry, ((((ms.filter fun m => !seen.contains m.born).filter fun m => decide (m.born < since)) ++ ((ms.filter fun m => !seen.contains m.born).filter fun m => decide (since ≤ m.born))).map some)[j]? = some (some m) ∧ e.1.1.rel φ.I m.key ∧ e.1.2.rel φ.I m.val ∧ e.2 = m.born)) ∧
                  ((((((es.zip bs).filter fun e => !seen.contains e.2).filter fun e => decide (e.2 < since)) ++ (((es.zip bs).filter fun e => !seen.contains e.2).filter fun e => decide (since ≤ e.2))).map some)[j]? ≠ some none) := by
                intro j
                refine ⟨fun e h => ?_, fun h => ?_⟩
                · rw [List.getElem?_map, Option.map_eq_some_iff] at h
                  obtain ⟨e', h, he'⟩ := h
                  cases he'
                  obtain ⟨m, q1, q2⟩ := onget j e h
                  exact ⟨m, by rw [List.getElem?_map, q1]; rfl, q2⟩
                · rw [List.getElem?_map, Option.map_eq_some_iff] at h
                  obtain ⟨_, _, h⟩ := h
                  cases h
              split
              · cases i with
                | zero => simp
                | succ i =>
                  simp only [List.cons_append, List.nil_append, List.getElem?_cons_succ]
                  exact ⟨(hmapped i).1, fun h => absurd h (hmapped i).2⟩
              · simp only [List.nil_append]
                exact ⟨(hmapped i).1, fun h => absurd h (hmapped i).2⟩
            have fin : ∀ (i : Nat) (w1 : World), (choose (.mapNext C.length)).run P w = .ok i w1 → Ctx w0 O I0 φ G w1 → w1.heap = w.heap → (nextAns G g k since seen clk (candsOf es bs since seen)[i]?).all K →
                ∃ u w' r, (Instr.next (.pointer (some ⟨φ.blk g, φ.bas g + 0, none⟩)) false ty).run P w = .ok u w' ∧ K r ∧ Ctx w0 O I0 φ r.2 w' ∧ AV.rel φ r.1 u := by
              intro i w1 hi hc1 hw1 hk
              rw [hstep i w1 hi]
              obtain ⟨r1, r2⟩ := hrel i
              cases hcd : (candsOf es bs since seen)[i]? with
              | none => rw [hcd] at hk; exact hk.elim
              | some c =>
                rw [hcd] at hk
                cases c with
                | none =>
                  rw [r2 hcd]
                  exact ⟨_, w1, _, rfl, hk, hc1, aOver_rel⟩
                | some e =>
                  obtain ⟨m, q1, q2, q3, q4⟩ := r1 e hcd
                  rw [q1]
                  have hblk := (Array.getElem?_eq_some_iff.1 h1).1
                  have h1' : w1.heap[φ.blk g]? = some (.mapIter (some (φ.blk k)) since seen.toArray last) := by rw [hw1]; exact h1
                  refine ⟨.tuple #[.bool true, m.key, m.val], { w1 with heap := w1.heap.setIfInBounds (φ.blk g) (.mapIter (some (φ.blk k)) since (seen.toArray.push m.born) clk) }, _, ?_, hk, ?_, ?_⟩
                  · simp only [Sem.run_bind, setObj, Sem.run, h1', Result.andThen, Sem.run_pure]
                  · refine hc1.upd hg rfl _ _ (by simp) (fun b hb' => by simp [Array.getElem?_setIfInBounds, Ne.symm hb']) rfl rfl rfl fun _ => ⟨hb, some (φ.blk k), ?_, .inr ⟨k, rfl, hkn, rfl⟩⟩
                    rw [hw1]
                    simp [hblk, q4]
                  · show PV.rel _ _ _
                    simp only [PV.rel]
                    exact ⟨[.bool true, m.key, m.val], rfl, rfl, by simp only [PV.relT]; exact ⟨_, _, rfl, by simp [PV.rel], _, _, rfl, q2, _, _, rfl, q3, trivial⟩⟩
            split at hk
            · rename_i hle
              refine fin 0 w ?_ h rfl hk
              simp [choose, Sem.run, Question.forced, hlen, hle]
            · rename_i hle
              have hpos : 0 < (candsOf es bs since seen).length := by omega
              refine fin ((w.tape w.drawn (.mapNext C.length)) % C.length) { w with drawn := w.drawn + 1 } ?_ h.drew rfl (hk _ (by rw [hlen]; exact Nat.mod_lt _ hpos))
              simp [choose, Sem.run, Question.forced, hlen, hle, Question.cut]
      · exact hk.elim
    · rename_i since seen last hg
      obtain ⟨hb, rr, h1, h2⟩ := h.rel.obj g _ hg
      rcases h2 with ⟨_, rfl⟩ | ⟨k', e, _⟩
      · refine ⟨_, w, _, ?_, hk, h, aOver_rel⟩
        simp [Instr.next, hb, getObj, Sem.run, h1, Result.andThen]
      · cases e
    · exact hk.elim
  · exact hk.elim

def aEntry (G : List GObj) (it : AV) : Option AV :=
  match it with
  | .ref g 0 => match G[g]? with
    | some (.iter (some k) _ seen stepped) => match G[k]?, seen.getLast? with
      | some (.map es bs clk), some stamp => if clk = stepped then ((es.zip bs).find? fun e => e.2 == stamp).map fun e => .p (.tup [e.1.1, e.1.2]) else none
      | _, _ => none
    | _ => none
  | _ => none
theorem aEntry_sound (h : Ctx w0 O I0 φ G w) {it : AV} {v : Value} (hx : AV.rel φ it v) {y : AV} (hy : aEntry G it = some y) : ∃ u, (Instr.entry v).run P w = .ok u w ∧ AV.rel φ y u := by
  unfold aEntry at hy
  split at hy
  · rename_i g
    obtain ⟨hlt, rfl⟩ := hx
    split at hy
    · rename_i k since seen stepped hg
      split at hy
      · rename_i es bs clk stamp hgk hst
        split at hy
        · rename_i hclk
          subst hclk
          obtain ⟨hb, rr, h1, h2⟩ := h.rel.obj g _ hg
          obtain ⟨ms, m1, m2, m3⟩ := h.rel.obj k _ hgk
          rcases h2 with ⟨e, _⟩ | ⟨k', e, hkn, rfl⟩
          · cases e
          · cases e
            simp only [Option.map_eq_some_iff] at hy
            obtain ⟨e, he, rfl⟩ := hy
            obtain ⟨m, q1, q2, q3⟩ := relZ_find stamp (relZ_zip m2 m3) he
            have hgo : (getObj (φ.blk g)).run P w = .ok (.mapIter (some (φ.blk k)) since seen.toArray clk) w := by simp [getObj, Sem.run, h1]
            have hgo2 : (getObj (φ.blk k)).run P w = .ok (.map ms.toArray clk) w := by simp [getObj, Sem.run, m1]
            have hbk : seen.toArray.back? = some stamp := by simpa using hst
            have hfd : ms.toArray.find? (fun e => e.born == stamp) = some m := by simpa using q1
            refine ⟨.tuple #[m.key, m.val], ?_, ?_⟩
            · simp only [Instr.entry, hb, Nat.add_zero, Sem.run_bind, hgo, hgo2, Result.andThen, hbk, hfd, bne_self_eq_false, Bool.false_eq_true, if_false, Sem.run_pure]
            · show PV.rel _ _ _
              simp only [PV.rel]
              exact ⟨[m.key, m.val], rfl, rfl, by simp only [PV.relT]; exact ⟨_, _, rfl, q2, _, _, rfl, q3, trivial⟩⟩
        · simp at hy
      · simp at hy
    · simp at hy
  · simp at hy
end
end
end Go.Ks
