/- An abstract evaluator for the model's code, part K: scalars, interface values, functions; one operation. -/
import Derived.Test.YtdlofomblpdiaaaGreatKsJ
import Derived.Laws.BytesArg
namespace Go.Ks
noncomputable section
section
variable {P : Program} {w0 : World} {O : Nat → Prop} {I0 : Imm} {φ : Emb} {G : List GObj} {w : World}

theorem bytes_loop (x : ByteArray) : ∀ (n i : Nat) (r : List UInt8), x.size - i = n → ByteArray.toList.loop x i r = r.reverse ++ x.data.toList.drop i
  | 0, i, r, h => by
    rw [ByteArray.toList.loop]
    have hs : x.size = x.data.toList.length := rfl
    rw [if_neg (by omega), List.drop_eq_nil_of_le (by omega), List.append_nil]
  | n + 1, i, r, h => by
    rw [ByteArray.toList.loop]
    have hs : x.size = x.data.toList.length := rfl
    have hlt : i < x.data.toList.length := by omega
    rw [if_pos (by omega), bytes_loop x n (i + 1) _ (by omega), List.reverse_cons, List.append_assoc, List.drop_eq_getElem_cons hlt]
    congr 1
    simp only [List.singleton_append, List.cons.injEq, and_true]
    simp only [ByteArray.get!, Array.getElem_toList]
    rw [getElem!_pos x.data i (by simpa using hlt)]
theorem bytes_toList (x : ByteArray) : x.toList = x.data.toList := by
  unfold ByteArray.toList
  rw [bytes_loop x _ 0 [] rfl]
  simp

def aStrOp (op : BinOp) (x y : ByteArray) : Option PV :=
  match op with
  | .add => if x.size + y.size < 2 ^ 62 then some (.str (x ++ y)) else none
  | .eql => some (.bool (x.data.toList == y.data.toList))
  | .neq => some (.bool !(x.data.toList == y.data.toList))
  | .lss => some (.bool (Op.bytesLess x.data.toList y.data.toList))
  | .leq => some (.bool (Op.bytesLess x.data.toList y.data.toList || x.data.toList == y.data.toList))
  | .gtr => some (.bool !(Op.bytesLess x.data.toList y.data.toList || x.data.toList == y.data.toList))
  | .geq => some (.bool !(Op.bytesLess x.data.toList y.data.toList))
  | _ => none
theorem aStrOp_sound {op : BinOp} {x y : ByteArray} {r : PV} (h : aStrOp op x y = some r) : ∃ u, (Op.stringOp op x y).run P w = .ok u w ∧ PV.rel φ.I r u := by
  unfold aStrOp at h
  cases op <;> simp only [reduceCtorEq] at h
  case add =>
    split at h
    · rename_i hc
      cases h
      refine ⟨.string (x ++ y), ?_, by simp [PV.rel]⟩
      simp only [Op.stringOp]
      rw [if_neg (by simp only [IntKind.max, IntKind.signed, IntKind.bits]; simp; omega)]
      rfl
    · simp at h
  all_goals
    cases h
    apply Exists.intro
    constructor
    · simp only [Op.stringOp, bytes_toList]
      exact rfl
    · simp only [PV.rel]

/-- Is a value nil, that is held against nil? -/
def nilTest (d : TypeDesc) : AV → Option Bool
  | .sl _ _ len => match d with
    | .slice _ => if len = 0 then none else some false
    | _ => none
  | .p (.list _ (_ :: _)) => match d with
    | .slice _ => some false
    | _ => none
  | .ref _ _ | .aref _ _ _ | .p (.iel _ _) => match d with
    | .pointer _ => some false
    | _ => none
  | .mp _ => match d with
    | .map _ _ => some false
    | _ => none
  | .clo _ _ => match d with
    | .func _ _ _ => some false
    | _ => none
  | .iface _ _ | .p (.iface _ _) => match d with
    | .interface _ => some false
    | _ => none
  | _ => none
def nilOf (d : TypeDesc) : PV → Bool
  | .nilsl => match d with | .slice _ => true | _ => false
  | .nilptr => match d with | .pointer _ => true | _ => false
  | .nilmap => match d with | .map _ _ => true | _ => false
  | .nilfn => match d with | .func _ _ _ => true | _ => false
  | .nilif => match d with | .interface _ => true | _ => false
  | _ => false

def aBin (P : Program) (op : BinOp) (t : TypeId) (ox oy : Operand) (x y : AV) : Option AV :=
  match x, y with
  | .p (.str a), .p (.str b) => (aStrOp op a b).map .p
  | _, _ => match x.conc, y.conc with
    | some u, some v => ((pureIn P (do eqGuard op t ox oy u v; binOp op t u v)).bind absV).map .p
    | _, _ => match P.underlying t, y with
      | some d, .p z => if nilOf d z = true then match op, nilTest d x with
        | .eql, some b => some (.p (.bool b))
        | .neq, some b => some (.p (.bool !b))
        | _, _ => none
        else none
      | _, _ => none

theorem eqIn_slice {n : Nat} {t e : TypeId} (hu : P.underlying t = some (.slice e)) (a : Addr) (l c l' c' : Nat) : (Op.equalIn (n + 1) t (.slice (some a) l c) (.slice none l' c')).run P w = .ok false w := by
  simp only [Op.equalIn, Sem.run_bind, run_under hu, Result.andThen, Sem.run_pure]
theorem eqIn_pointer {n : Nat} {t e : TypeId} (hu : P.underlying t = some (.pointer e)) (a : Addr) : (Op.equalIn (n + 1) t (.pointer (some a)) (.pointer none)).run P w = .ok false w := by
  simp only [Op.equalIn, Sem.run_bind, run_under hu, Result.andThen, Sem.run_pure]
theorem eqIn_map {n : Nat} {t k e : TypeId} (hu : P.underlying t = some (.map k e)) (r : Nat) : (Op.equalIn (n + 1) t (.map (some r)) (.map none)).run P w = .ok false w := by
  simp only [Op.equalIn, Sem.run_bind, run_under hu, Result.andThen, Sem.run_pure]
theorem eqIn_func {n : Nat} {t : TypeId} {a b : Array TypeId} {v : Bool} (hu : P.underlying t = some (.func a b v)) (f : Fn) (x y : Array Value) : (Op.equalIn (n + 1) t (.func f x y) .nilFunc).run P w = .ok false w := by
  simp only [Op.equalIn, Sem.run_bind, run_under hu, Result.andThen, Sem.run_pure]
theorem eqIn_iface {n : Nat} {t : TypeId} {m : Array (String × TypeId)} (hu : P.underlying t = some (.interface m)) (t' : TypeId) (x : Value) : (Op.equalIn (n + 1) t (.iface t' x) .nilIface).run P w = .ok false w := by
  simp only [Op.equalIn, Sem.run_bind, run_under hu, Result.andThen, Sem.run_pure]

theorem nilTest_sound {d : TypeDesc} {x : AV} {z : PV} {v u : Value} {b : Bool} {t : TypeId} (hu : P.underlying t = some d) (hx : AV.rel φ x v) (hz : PV.rel φ.I z u) (hn : nilOf d z = true) (ht : nilTest d x = some b) :
    (∀ ox oy, (do eqGuard .eql t ox oy v u; binOp .eql t v u).run P w = .ok (.bool b) w) ∧ (∀ ox oy, (do eqGuard .neq t ox oy v u; binOp .neq t v u).run P w = .ok (.bool !b) w) := by
  have key : ∀ (v u : Value), (∀ op ox oy, eqGuard op t ox oy v u = pure ()) → (binOp .eql t v u = do pure (.bool (← Op.equal t v u))) → (binOp .neq t v u = do pure (.bool (!(← Op.equal t v u)))) → (Op.equal t v u).run P w = .ok b w →
      (∀ ox oy, (do eqGuard .eql t ox oy v u; binOp .eql t v u).run P w = .ok (.bool b) w) ∧ (∀ ox oy, (do eqGuard .neq t ox oy v u; binOp .neq t v u).run P w = .ok (.bool !b) w) := by
    intro v u h1 h2 h3 h4
    constructor
    · intro ox oy
      rw [h1, h2]
      simp only [Sem.run_bind, Sem.run_pure, Result.andThen, h4]
    · intro ox oy
      rw [h1, h3]
      simp only [Sem.run_bind, Sem.run_pure, Result.andThen, h4]
  cases z <;> simp only [nilOf, Bool.false_eq_true, reduceCtorEq] at hn
  case nilsl =>
    simp only [PV.rel] at hz
    subst hz
    cases d <;> simp at hn
    rename_i e
    cases x with
    | sl g off len =>
      simp only [nilTest] at ht
      split at ht
      · simp at ht
      · cases ht
        obtain ⟨hlt, a, cap, rfl, hcap, hor⟩ := hx
        rcases hor with ⟨h0, _⟩ | ⟨rfl, _⟩
        · omega
        · refine key _ _ (fun op ox oy => by cases op <;> rfl) rfl rfl ?_
          exact eqIn_slice hu _ _ _ _ _
    | p q =>
      cases q with
      | list esz xs =>
        cases xs with
        | nil => simp [nilTest] at ht
        | cons q qs =>
          cases ht
          have hx' : PV.rel φ.I (.list esz (q :: qs)) v := hx
          simp only [PV.rel] at hx'
          obtain ⟨a, cap, rfl, hcap, hor⟩ := hx'
          rcases hor with h0 | ⟨b, o, c, rfl, _⟩
          · simp at h0
          · refine key _ _ (fun op ox oy => by cases op <;> rfl) rfl rfl ?_
            exact eqIn_slice hu _ _ _ _ _
      | _ => simp [nilTest] at ht
    | _ => simp [nilTest] at ht
  case nilptr =>
    simp only [PV.rel] at hz
    subst hz
    cases d <;> simp at hn
    have hp : ∃ a, v = .pointer (some a) ∧ b = false := by
      cases x with
      | ref g off => cases ht; obtain ⟨_, rfl⟩ := hx; exact ⟨_, rfl, rfl⟩
      | aref g i off => cases ht; obtain ⟨_, rfl⟩ := hx; exact ⟨_, rfl, rfl⟩
      | p q =>
        cases q with
        | iel q off =>
          cases ht
          have hx' : PV.rel φ.I (.iel q off) v := hx
          simp only [PV.rel] at hx'
          obtain ⟨b, o, c, n, rfl, _⟩ := hx'
          exact ⟨_, rfl, rfl⟩
        | list e ys => cases ys <;> simp [nilTest] at ht
        | _ => simp [nilTest] at ht
      | _ => simp [nilTest] at ht
    obtain ⟨a, rfl, rfl⟩ := hp
    refine key _ _ (fun op ox oy => by cases op <;> rfl) rfl rfl ?_
    exact eqIn_pointer hu _
  case nilmap =>
    simp only [PV.rel] at hz
    subst hz
    cases d <;> simp at hn
    cases x with
    | mp g =>
      cases ht
      obtain ⟨_, rfl⟩ := hx
      refine key _ _ (fun op ox oy => by cases op <;> rfl) rfl rfl ?_
      exact eqIn_map hu _
    | p q => cases q <;> (try (rename_i ys; cases ys)) <;> simp [nilTest] at ht
    | _ => simp [nilTest] at ht
  case nilfn =>
    simp only [PV.rel] at hz
    subst hz
    cases d <;> simp at hn
    cases x with
    | clo f cs =>
      cases ht
      obtain ⟨_, rfl, _⟩ := hx
      refine key _ _ (fun op ox oy => by cases op <;> rfl) rfl rfl ?_
      exact eqIn_func hu _ _ _
    | p q => cases q <;> (try (rename_i ys; cases ys)) <;> simp [nilTest] at ht
    | _ => simp [nilTest] at ht
  case nilif =>
    simp only [PV.rel] at hz
    subst hz
    cases d <;> simp at hn
    have hp : ∃ t' y, v = .iface t' y ∧ b = false := by
      cases x with
      | iface t' q => cases ht; obtain ⟨_, rfl, _⟩ := hx; exact ⟨_, _, rfl, rfl⟩
      | p q =>
        cases q with
        | iface t' q =>
          cases ht
          have hx' : PV.rel φ.I (.iface t' q) v := hx
          simp only [PV.rel] at hx'
          obtain ⟨u, rfl, _⟩ := hx'
          exact ⟨_, _, rfl, rfl⟩
        | list e ys => cases ys <;> simp [nilTest] at ht
        | _ => simp [nilTest] at ht
      | _ => simp [nilTest] at ht
    obtain ⟨t', y, rfl, rfl⟩ := hp
    refine key _ _ (fun op ox oy => by cases op <;> rfl) rfl rfl ?_
    exact eqIn_iface hu _ _

theorem aBin_sound {op : BinOp} {t : TypeId} {ox oy : Operand} {x y r : AV} {vx vy : Value} (hx : AV.rel φ x vx) (hy : AV.rel φ y vy) (h : aBin P op t ox oy x y = some r) :
    ∃ u, (do eqGuard op t ox oy vx vy; binOp op t vx vy).run P w = .ok u w ∧ AV.rel φ r u := by
  unfold aBin at h
  split at h
  · rename_i a b
    obtain rfl := rel_str hx
    obtain rfl := rel_str hy
    simp only [Option.map_eq_some_iff] at h
    obtain ⟨q, hq, rfl⟩ := h
    obtain ⟨u, h1, h2⟩ := aStrOp_sound (P := P) (w := w) (φ := φ) hq
    refine ⟨u, ?_, h2⟩
    have hg : eqGuard op t ox oy (.string a) (.string b) = pure () := by cases op <;> rfl
    rw [hg]
    have hb : binOp op t (.string a) (.string b) = Op.stringOp op a b := by cases op <;> rfl
    rw [hb]
    simpa [Result.andThen] using h1
  · split at h
    · rename_i u v hu hv
      obtain rfl := AV.conc_rel hu hx
      obtain rfl := AV.conc_rel hv hy
      simp only [Option.map_eq_some_iff, Option.bind_eq_some_iff] at h
      obtain ⟨q, ⟨z, hz, hzq⟩, rfl⟩ := h
      exact ⟨z, run_pureIn hz w, absV_rel hzq⟩
    · split at h
      · rename_i d z hu _ _
        split at h
        · rename_i hn
          split at h
          · rename_i b hb
            cases h
            exact ⟨_, (nilTest_sound (w := w) hu hx hy hn hb).1 ox oy, rel_of_bool _⟩
          · rename_i b hb
            cases h
            exact ⟨_, (nilTest_sound (w := w) hu hx hy hn hb).2 ox oy, rel_of_bool _⟩
          · simp at h
        · simp at h
      · simp at h

/-! ### Conversions -/
def u8s : List PV → Option (List Int)
  | [] => some []
  | .int .u8 n :: r => (u8s r).map (n :: ·)
  | _ :: _ => none
theorem u8s_some : ∀ {ys : List PV} {ns : List Int}, u8s ys = some ns → ys = ns.map (.int .u8)
  | [], ns, h => by cases h; rfl
  | y :: ys, ns, h => by
    cases y with
    | int k n =>
      cases k with
      | u8 =>
        simp only [u8s, Option.map_eq_some_iff] at h
        obtain ⟨q, hq, rfl⟩ := h
        rw [u8s_some hq]
        rfl
      | _ => simp [u8s] at h
    | _ => simp [u8s] at h
def aConv (P : Program) (G : List GObj) (src dst : TypeId) (x : AV) : Option AV :=
  match x.conc with
  | some v => ((pureIn P (convert src dst v)).bind absV).map .p
  | none => match P.underlying src, P.underlying dst with
    | some (.slice e), some .string => match P.underlying e with
      | some (.int .u8) => ((rowOf G 1 x).bind u8s).map fun ns => .p (.str (strOfNums ns))
      | _ => none
    | _, _ => none
theorem aConv_sound (h : Ctx w0 O I0 φ G w) {src dst : TypeId} {x r : AV} {v : Value} (hx : AV.rel φ x v) (hr : aConv P G src dst x = some r) :
    ∃ u, (convert src dst v).run P w = .ok u w ∧ AV.rel φ r u := by
  unfold aConv at hr
  split at hr
  · rename_i u hu
    obtain rfl := AV.conc_rel hu hx
    simp only [Option.map_eq_some_iff, Option.bind_eq_some_iff] at hr
    obtain ⟨q, ⟨z, hz, hzq⟩, rfl⟩ := hr
    exact ⟨z, run_pureIn hz w, absV_rel hzq⟩
  · split at hr
    · rename_i e hs hd
      split at hr
      · rename_i he
        simp only [Option.map_eq_some_iff, Option.bind_eq_some_iff] at hr
        obtain ⟨ns, ⟨ys, hy, hns⟩, rfl⟩ := hr
        obtain rfl := u8s_some hns
        obtain ⟨a, cap, rfl, hcap, hor⟩ := rowOf_sound h hx hy
        refine ⟨.string (strOfNums ns), ?_, rel_of_str _⟩
        rcases hor with h0 | ⟨b, o, vs, e', fr, rfl, hb, hr⟩
        · have hn : ns = [] := by simpa using h0
          subst hn
          cases a with
          | none => exact run_convert_bytes_nil w src e hs he _ _ dst hd
          | some ad =>
            obtain ⟨b, o, s⟩ := ad
            have := run_convert_bytes_arg (P := P) w src e hs he
            rw [run_convert_bytes_string w src dst e _ _ _ hs he hd]
            simp [Conv.bytesToString, loadCells, loadCellsFrom, strOfNums]
            rfl
        · simp only [List.length_map]
          refine run_convert_bytes_arg w src e hs he b o ns.length cap ns rfl (fun i hi => ?_) dst hd
          have h1 := PV.relC_iff.1 (PV.relE_iff.1 hr i (.int .u8 ns[i]) (by simp [hi]))
          obtain ⟨u, hu, hur⟩ := PV.relT_iff.1 h1.2 0 (.int .u8 ns[i]) (by simp [PV.cells])
          simp only [PV.rel] at hur
          subst hur
          rw [cell_at hb]
          rw [List.getElem?_drop, List.getElem?_drop] at hu
          simp only [Nat.mul_one, Nat.add_zero] at hu
          rw [hu]
          simp [List.getD_eq_getElem?_getD, hi]
      · simp at hr
    · simp at hr
end
end
end Go.Ks
