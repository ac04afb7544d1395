/- An abstract evaluator for the model's code, part G: rows cut, appended to, copied; lengths. -/
import Derived.Test.YtdlofomblpdiaaaGreatKsF
namespace Go.Ks
noncomputable section
section
variable {P : Program} {w0 : World} {O : Nat → Prop} {I0 : Imm} {φ : Emb} {G : List GObj} {w : World}

theorem rel_int {k : IntKind} {n : Int} {v : Value} (h : AV.rel φ (.p (.int k n)) v) : v = .int k n := by
  have : PV.rel φ.I (.int k n) v := h
  simpa [PV.rel] using this
theorem rel_of_int (k : IntKind) (n : Int) : AV.rel φ (.p (.int k n)) (.int k n) := by
  show PV.rel φ.I _ _
  simp [PV.rel]
theorem rel_bool {b : Bool} {v : Value} (h : AV.rel φ (.p (.bool b)) v) : v = .bool b := by
  have : PV.rel φ.I (.bool b) v := h
  simpa [PV.rel] using this
theorem rel_of_bool (b : Bool) : AV.rel φ (.p (.bool b)) (.bool b) := by
  show PV.rel φ.I _ _
  simp [PV.rel]
theorem rel_str {s : ByteArray} {v : Value} (h : AV.rel φ (.p (.str s)) v) : v = .string s := by
  have : PV.rel φ.I (.str s) v := h
  simpa [PV.rel] using this
theorem rel_of_str (s : ByteArray) : AV.rel φ (.p (.str s)) (.string s) := by
  show PV.rel φ.I _ _
  simp [PV.rel]

/-- A bound that a slice expression tells. -/
def bound (d : Nat) : Option AV → Option Nat
  | none => some d
  | some (.p (.int _ i)) => if 0 ≤ i then some i.toNat else none
  | _ => none
def relO (φ : Emb) : Option AV → Option Value → Prop
  | none, v => v = none
  | some x, v => ∃ u, v = some u ∧ AV.rel φ x u
theorem run_bounds {s : Bool} {len cap l h : Nat} {lo hi : Option AV} {vlo vhi : Option Value} (r1 : relO φ lo vlo) (r2 : relO φ hi vhi) (b1 : bound 0 lo = some l) (b2 : bound len hi = some h) (h1 : l ≤ h) (h2 : h ≤ cap) :
    (Instr.sliceBounds s len cap vlo vhi none).run P w = .ok (l, h, cap) w := by
  have hhi : (match vhi, (none : Option Value) with
    | some v, some _ => Instr.sliceBound v cap .slice3B
    | some v, none => Instr.sliceBound v cap (if s then .sliceAcap else .sliceAlen)
    | none, none => pure len
    | none, some _ => stuck "Slice: max without high").run P w = .ok h w := by
    cases hi with
    | none =>
      simp only [relO] at r2
      subst r2
      simp only [bound, Option.some.injEq] at b2
      subst b2
      rfl
    | some x =>
      obtain ⟨u, rfl, hx⟩ := r2
      simp only [bound] at b2
      split at b2
      · simp_all
      · rename_i i e
        cases e
        obtain rfl := rel_int hx
        split at b2
        · rename_i h0
          cases b2
          simp only [Instr.sliceBound, asIntOf, Sem.run_bind, Sem.run_pure, Result.andThen]
          rw [if_pos ⟨h0, by omega⟩]
          rfl
        · simp at b2
      · simp at b2
  have hlo : (match vlo with
    | some v => Instr.sliceBound v h (if (none : Option Value).isSome then .slice3C else .sliceB)
    | none => pure 0).run P w = .ok l w := by
    cases lo with
    | none =>
      simp only [relO] at r1
      subst r1
      simp only [bound, Option.some.injEq] at b1
      subst b1
      rfl
    | some x =>
      obtain ⟨u, rfl, hx⟩ := r1
      simp only [bound] at b1
      split at b1
      · simp_all
      · rename_i i e
        cases e
        obtain rfl := rel_int hx
        split at b1
        · rename_i h0
          cases b1
          simp only [Instr.sliceBound, asIntOf, Sem.run_bind, Sem.run_pure, Result.andThen]
          rw [if_pos ⟨h0, by omega⟩]
          rfl
        · simp at b1
      · simp at b1
  unfold Instr.sliceBounds
  simp only [Sem.run_bind, Sem.run_pure, Result.andThen]
  cases vhi <;> cases vlo <;> simp only [Sem.run_pure, Sem.run_bind, Result.andThen] at hhi hlo ⊢ <;> simp_all [Result.andThen]

def aSlice (P : Program) (G : List GObj) (t : TypeId) (x : AV) (lo hi : Option AV) : Option AV :=
  match P.underlying t, x with
  | some .string, .p (.str s) => match bound 0 lo, bound s.size hi with
    | some l, some h => if l ≤ h ∧ h ≤ s.size then some (.p (.str (s.extract l h))) else none
    | _, _ => none
  | some (.slice elem), .sl g off len => match P.info? elem, rowAt G g, bound 0 lo, bound len hi with
    | some ie, some (esz, xs), some l, some h => if l ≤ h ∧ h ≤ len ∧ esz = ie.size ∧ off + len ≤ xs.length then some (.sl g (off + l) (h - l)) else none
    | _, _, _, _ => none
  | some (.slice elem), .p (.list esz xs) => match P.info? elem, bound 0 lo, bound xs.length hi with
    | some ie, some l, some h => if l ≤ h ∧ h ≤ xs.length ∧ esz = ie.size then some (.p (.list esz ((xs.drop l).take (h - l)))) else none
    | _, _, _ => none
  | some (.slice elem), .p .nilsl => match P.info? elem, bound 0 lo, bound 0 hi with
    | some _, some 0, some 0 => some (.p .nilsl)
    | _, _, _ => none
  | _, _ => none
theorem aSlice_sound (h : Ctx w0 O I0 φ G w) {t : TypeId} {x y : AV} {lo hi : Option AV} {v : Value} {vlo vhi : Option Value} (hx : AV.rel φ x v) (r1 : relO φ lo vlo) (r2 : relO φ hi vhi) (hy : aSlice P G t x lo hi = some y) :
    ∃ u, (Instr.sliceAt t v vlo vhi none).run P w = .ok u w ∧ AV.rel φ y u := by
  unfold aSlice at hy
  cases hu : P.underlying t with
  | none => simp [hu] at hy
  | some d =>
  simp only [hu] at hy
  cases d with
  | string =>
    cases x with
    | p z =>
      cases z with
      | str s =>
        simp only at hy
        split at hy
        · rename_i l h' b1 b2
          split at hy
          · rename_i hc
            cases hy
            obtain rfl := rel_str hx
            refine ⟨_, ?_, rel_of_str _⟩
            simp only [Instr.sliceAt, Instr.slice, Sem.run_bind, run_under hu, Result.andThen, Option.isSome_none, Bool.false_eq_true, if_false, Sem.run_pure, run_bounds r1 r2 b1 b2 hc.1 hc.2]
          · simp at hy
        · simp at hy
      | _ => simp at hy
    | _ => simp at hy
  | slice elem =>
    cases x with
    | sl g off len =>
      simp only at hy
      split at hy
      · rename_i ie esz xs l h' hie hg b1 b2
        split at hy
        · rename_i hc
          obtain ⟨c1, c2, c3, c4⟩ := hc
          cases hy
          obtain ⟨hlt, a, cap, rfl, hcap, hor⟩ := hx
          obtain ⟨hz, _⟩ := h.readRow hg
          refine ⟨.slice (if cap = l then a else a.map (·.add (l * ie.size))) (h' - l) (cap - l), ?_, hlt, _, _, rfl, by omega, ?_⟩
          · simp only [Instr.sliceAt, Instr.slice, Sem.run_bind, run_under hu, Result.andThen, run_bounds r1 r2 b1 b2 c1 (by omega : h' ≤ cap), run_size hie, Sem.run_pure]
          · rcases hor with ⟨h0, h0'⟩ | ⟨rfl, hb⟩
            · left; omega
            · by_cases he : cap = l
              · left; omega
              · right
                rw [if_neg he]
                refine ⟨?_, ?_⟩
                · simp only [Option.map_some, add_addr]
                  rw [hz, c3, Nat.add_mul]
                  congr 2
                  omega
                · rw [show off + l + (cap - l) = off + cap by omega]
                  exact hb
        · simp at hy
      · simp at hy
    | p z =>
      cases z with
      | list esz xs =>
        simp only at hy
        split at hy
        · rename_i ie l h' hie b1 b2
          split at hy
          · rename_i hc
            obtain ⟨c1, c2, c3⟩ := hc
            cases hy
            have hx' : PV.rel φ.I (.list esz xs) v := hx
            simp only [PV.rel] at hx'
            obtain ⟨a, cap, rfl, hcap, hor⟩ := hx'
            have hlen : ((xs.drop l).take (h' - l)).length = h' - l := by simp; omega
            refine ⟨.slice (if cap = l then a else a.map (·.add (l * ie.size))) (h' - l) (cap - l), ?_, ?_⟩
            · simp only [Instr.sliceAt, Instr.slice, Sem.run_bind, run_under hu, Result.andThen, run_bounds r1 r2 b1 b2 c1 (by omega : h' ≤ cap), run_size hie, Sem.run_pure]
            · show PV.rel φ.I _ _
              simp only [PV.rel]
              refine ⟨_, _, by rw [hlen], by rw [hlen]; omega, ?_⟩
              by_cases h0 : h' = l
              · left; subst h0; simp
              · right
                rcases hor with rfl | ⟨b, o, c, rfl, hb, hr⟩
                · simp at c2; omega
                · rw [if_neg (by omega)]
                  refine ⟨b, o + l * esz, c, by simp [add_addr, c3], hb, PV.relE_iff.2 fun k z hk => ?_⟩
                  rw [List.getElem?_take] at hk
                  split at hk
                  · rw [List.getElem?_drop] at hk
                    have := PV.relE_iff.1 hr _ z hk
                    rw [List.drop_drop] at this ⊢
                    rw [show o + l * esz + k * esz = o + (l + k) * esz by rw [Nat.add_mul]; omega]
                    exact this
                  · simp at hk
          · simp at hy
        · simp at hy
      | nilsl =>
        simp only at hy
        split at hy
        · rename_i ie hie b1 b2
          cases hy
          have hx' : PV.rel φ.I .nilsl v := hx
          simp only [PV.rel] at hx'
          subst hx'
          refine ⟨.slice none 0 0, ?_, by show PV.rel φ.I _ _; simp [PV.rel]⟩
          simp only [Instr.sliceAt, Instr.slice, Sem.run_bind, run_under hu, Result.andThen, run_bounds r1 r2 b1 b2 (Nat.le_refl 0) (Nat.le_refl 0), run_size hie, Sem.run_pure]
          simp
        · simp at hy
      | _ => simp at hy
    | _ => simp at hy
  | _ => simp at hy

def aLen (P : Program) (G : List GObj) (t : TypeId) (x : AV) : Option AV :=
  match P.underlying t, x with
  | some .string, .p (.str s) => some (.p (.int .i64 s.size))
  | some (.array n _), _ => some (.p (.int .i64 n))
  | some (.slice _), .sl _ _ len => some (.p (.int .i64 len))
  | some (.slice _), .p (.list _ xs) => some (.p (.int .i64 xs.length))
  | some (.slice _), .p .nilsl => some (.p (.int .i64 0))
  | some (.map _ _), .mp g => match G[g]? with
    | some (.map es _ _) => some (.p (.int .i64 es.length))
    | _ => none
  | some (.map _ _), .p .nilmap => some (.p (.int .i64 0))
  | _, _ => none
theorem relM_length {I : Imm} : ∀ {xs : List (PV × PV)} {es : List MapEntry}, relM I xs es → es.length = xs.length
  | [], _, h => by simp only [relM] at h; simp [h]
  | x :: xs, _, h => by obtain ⟨e, r, rfl, _, _, h3⟩ := h; simp [relM_length h3]
theorem aLen_sound (h : Ctx w0 O I0 φ G w) {ats : Array TypeId} {t ty : TypeId} {x y : AV} {v : Value} (ht : ats[0]? = some t) (hx : AV.rel φ x v) (hy : aLen P G t x = some y) :
    ∃ u, (Builtin.len_ ats ty #[v]).run P w = .ok u w ∧ AV.rel φ y u := by
  unfold aLen at hy
  cases hu : P.underlying t with
  | none => simp [hu] at hy
  | some d =>
  simp only [hu] at hy
  have h0 : (#[v] : Array Value)[0]? = some v := rfl
  cases d with
  | string =>
    cases x with
    | p z =>
      cases z with
      | str s =>
        cases hy
        obtain rfl := rel_str hx
        exact ⟨_, by simp only [Builtin.len_, ht, h0, Sem.run_bind, run_under hu, Result.andThen, Sem.run_pure, goInt], rel_of_int _ _⟩
      | _ => simp at hy
    | _ => simp at hy
  | array n e =>
    cases hy
    exact ⟨_, by simp only [Builtin.len_, ht, h0, Sem.run_bind, run_under hu, Result.andThen, Sem.run_pure, goInt], rel_of_int _ _⟩
  | slice e =>
    cases x with
    | sl g off len =>
      cases hy
      obtain ⟨hlt, a, cap, rfl, _⟩ := hx
      exact ⟨_, by simp only [Builtin.len_, ht, h0, Sem.run_bind, run_under hu, Result.andThen, Sem.run_pure, goInt], rel_of_int _ _⟩
    | p z =>
      cases z with
      | list esz xs =>
        cases hy
        have hx' : PV.rel φ.I (.list esz xs) v := hx
        simp only [PV.rel] at hx'
        obtain ⟨a, cap, rfl, _⟩ := hx'
        exact ⟨_, by simp only [Builtin.len_, ht, h0, Sem.run_bind, run_under hu, Result.andThen, Sem.run_pure, goInt], rel_of_int _ _⟩
      | nilsl =>
        cases hy
        have hx' : PV.rel φ.I .nilsl v := hx
        simp only [PV.rel] at hx'
        subst hx'
        exact ⟨_, by simp only [Builtin.len_, ht, h0, Sem.run_bind, run_under hu, Result.andThen, Sem.run_pure, goInt]; rfl, rel_of_int _ _⟩
      | _ => simp at hy
    | _ => simp at hy
  | map k e =>
    cases x with
    | mp g =>
      simp only at hy
      split at hy
      · rename_i es hg
        cases hy
        obtain ⟨hlt, rfl⟩ := hx
        obtain ⟨ms, h1, h2, _⟩ := h.rel.obj g _ hg
        refine ⟨_, ?_, rel_of_int _ _⟩
        simp only [Builtin.len_, ht, h0, Sem.run_bind, run_under hu, Result.andThen, getObj, Sem.run, h1, Sem.run_pure, goInt, List.size_toArray, relM_length h2]
      · simp at hy
    | p z =>
      cases z with
      | nilmap =>
        cases hy
        have hx' : PV.rel φ.I .nilmap v := hx
        simp only [PV.rel] at hx'
        subst hx'
        exact ⟨_, by simp only [Builtin.len_, ht, h0, Sem.run_bind, run_under hu, Result.andThen, Sem.run_pure, goInt], rel_of_int _ _⟩
      | _ => simp at hy
    | _ => simp at hy
  | _ => simp at hy
end
end
end Go.Ks
