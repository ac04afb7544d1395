/- An abstract evaluator for the model's code, part L: one operation that is no call of a function. -/
import Derived.Test.YtdlofomblpdiaaaGreatKsK
namespace Go.Ks
noncomputable section

/-- A row's place, and a row with a place turned: made for the kernel. -/
def rget {α : Type} (xs : List α) : Nat → Option α := List.rec (motive := fun _ => Nat → Option α) (fun _ => none) (fun x _ ih n => Nat.casesOn n (some x) (fun m => ih m)) xs
def rset {α : Type} (v : α) (xs : List α) : Nat → List α := List.rec (motive := fun _ => Nat → List α) (fun _ => []) (fun x xs ih n => Nat.casesOn n (v :: xs) (fun m => x :: ih m)) xs
theorem rget_eq {α : Type} : ∀ (xs : List α) (n : Nat), rget xs n = xs[n]?
  | [], n => by simp [rget]
  | x :: xs, 0 => rfl
  | x :: xs, n + 1 => (rget_eq xs n).trans (by simp)
theorem rset_eq {α : Type} (v : α) : ∀ (xs : List α) (n : Nat), rset v xs n = xs.set n v
  | [], n => by simp [rset]
  | x :: xs, 0 => rfl
  | x :: xs, n + 1 => congrArg (x :: ·) (rset_eq v xs n)
def lgetC {α : Type} (xs : List α) (n : Nat) : Option α := xs[n]?
def lsetC {α : Type} (v : α) (xs : List α) (n : Nat) : List α := xs.set n v
theorem rget_lget : @rget = @lgetC := by funext α xs n; exact rget_eq xs n
theorem rset_lset : @rset = @lsetC := by funext α v xs n; exact rset_eq v xs n

theorem map_arr {α β : Type} (f : α → β) (xs : Array α) : (xs.toList.map f).toArray = xs.map f := by
  apply Array.ext'
  simp
def aundef : AV := .p (.tup [])
theorem aundef_rel {φ : Emb} : AV.rel φ aundef undef := by
  show PV.rel φ.I (.tup []) _
  simp only [PV.rel]
  exact ⟨[], rfl, rfl, by simp [PV.relT]⟩

def aeval (T : List AV) : Operand → Option AV
  | .tmp t => rget T t
  | .const v => (absV v).map .p
  | .func f => some (.p (.fn f))
  | .global _ => none
theorem aeval_sound {φ : Emb} {T : List AV} {a : Act} (h : AV.relL φ T a.tmps.toList) {x : Operand} {y : AV} (hy : aeval T x = some y) : AV.rel φ y (a.eval x) := by
  cases x with
  | tmp t =>
    simp only [aeval, rget_eq] at hy
    obtain ⟨v, hv, hr⟩ := AV.relL_get h t y hy
    rw [Array.getElem?_toList] at hv
    simp only [Act.eval]
    rw [Array.getD_eq_getD_getElem?, hv]
    exact hr
  | const v =>
    simp only [aeval, Option.map_eq_some_iff] at hy
    obtain ⟨z, hz, rfl⟩ := hy
    exact absV_rel hz
  | func f =>
    cases hy
    show PV.rel φ.I _ _
    simp [PV.rel, Act.eval]
  | global g => simp [aeval] at hy

def aevals (T : List AV) : List Operand → Option (List AV)
  | [] => some []
  | x :: xs => match aeval T x, aevals T xs with
    | some y, some ys => some (y :: ys)
    | _, _ => none
theorem aevals_sound {φ : Emb} {T : List AV} {a : Act} (h : AV.relL φ T a.tmps.toList) : ∀ {xs : List Operand} {ys : List AV}, aevals T xs = some ys → AV.relL φ ys (xs.map a.eval)
  | [], ys, hy => by cases hy; rfl
  | x :: xs, ys, hy => by
    simp only [aevals] at hy
    split at hy
    · rename_i y r h1 h2
      cases hy
      exact ⟨_, _, rfl, aeval_sound h h1, aevals_sound h h2⟩
    · simp at hy
def aparts (T : List AV) : List (Nat × Operand) → Option (List (Nat × AV))
  | [] => some []
  | x :: xs => match aeval T x.2, aparts T xs with
    | some y, some ys => some ((x.1, y) :: ys)
    | _, _ => none
theorem aparts_sound {φ : Emb} {T : List AV} {a : Act} (h : AV.relL φ T a.tmps.toList) : ∀ {xs : List (Nat × Operand)} {ys : List (Nat × AV)}, aparts T xs = some ys → relParts φ ys (xs.map fun (p : Nat × Operand) => (p.1, a.eval p.2))
  | [], ys, hy => by cases hy; rfl
  | x :: xs, ys, hy => by
    simp only [aparts] at hy
    split at hy
    · rename_i y r h1 h2
      cases hy
      exact ⟨_, _, rfl, rfl, aeval_sound h h1, aparts_sound h h2⟩
    · simp at hy
def aevalO (T : List AV) : Option Operand → Option (Option AV)
  | none => some none
  | some x => (aeval T x).map some
theorem aevalO_sound {φ : Emb} {T : List AV} {a : Act} (h : AV.relL φ T a.tmps.toList) {x : Option Operand} {y : Option AV} (hy : aevalO T x = some y) : relO φ y (x.map a.eval) := by
  cases x with
  | none => cases hy; rfl
  | some z =>
    simp only [aevalO, Option.map_eq_some_iff] at hy
    obtain ⟨q, hq, rfl⟩ := hy
    exact ⟨_, rfl, aeval_sound h hq⟩

def isIface (P : Program) (t : TypeId) : Option Bool := match P.underlying t with
  | some (.interface _) => some true
  | some _ => some false
  | none => none

/-- A value's dynamic type, and what it holds. -/
def AV.ifaceParts : AV → Option (TypeId × AV)
  | .p (.iface t x) => some (t, .p x)
  | .iface t x => some (t, x)
  | _ => none
theorem AV.ifaceParts_sound {φ : Emb} {x : AV} {v : Value} {t : TypeId} {y : AV} (hx : AV.rel φ x v) (h : x.ifaceParts = some (t, y)) : ∃ u, v = .iface t u ∧ AV.rel φ y u := by
  cases x with
  | p z =>
    cases z with
    | iface t' q =>
      cases h
      have hx' : PV.rel φ.I (.iface t q) v := hx
      simp only [PV.rel] at hx'
      exact hx'
    | _ => simp [AV.ifaceParts] at h
  | iface t' q =>
    cases h
    exact hx
  | _ => simp [AV.ifaceParts] at h

def aTypeAssert (P : Program) (x : AV) (asserted : TypeId) (ok : Bool) : Option AV :=
  match P.underlying asserted, x.ifaceParts with
  | some (.interface want), some (t, _) => match P.info? t with
    | some i => if Instr.missingMethod want i.methods = none then some (if ok then .mkTup [x, .p (.bool true)] else x) else none
    | none => none
  | some _, some (t, y) => if t = asserted then some (if ok then .mkTup [y, .p (.bool true)] else y)
      else if ok = true then match (P.info? asserted).bind fun i => i.zero.bind absV with
        | some z => some (.p (.tup [z, .bool false]))
        | none => none
      else none
  | _, _ => none
theorem aTypeAssert_sound {P : Program} {φ : Emb} {w : World} {x r : AV} {v : Value} {xt asserted : TypeId} {ok : Bool} (hx : AV.rel φ x v) (h : aTypeAssert P x asserted ok = some r) :
    ∃ u, (Instr.typeAssert v xt asserted ok).run P w = .ok u w ∧ AV.rel φ r u := by
  have htup : ∀ (y : AV) (u : Value), AV.rel φ y u → AV.rel φ (if ok then .mkTup [y, .p (.bool true)] else y) (if ok then .tuple #[u, .bool true] else u) := by
    intro y u hy
    cases ok with
    | true => exact AV.mkTup_rel (vs := [u, .bool true]) ⟨_, _, rfl, hy, _, _, rfl, rel_of_bool _, rfl⟩
    | false => exact hy
  unfold aTypeAssert at h
  split at h
  · rename_i want t y hu hp
    obtain ⟨u, rfl, hr⟩ := AV.ifaceParts_sound hx hp
    split at h
    · rename_i i hi
      split at h
      · rename_i hm
        cases h
        refine ⟨_, ?_, htup _ _ hx⟩
        simp only [Instr.typeAssert, Sem.run_bind, run_under hu, Result.andThen, run_info hi, hm, Sem.run_pure]
      · simp at h
    · simp at h
  · rename_i d t y hni hu hp
    obtain ⟨u, rfl, hr⟩ := AV.ifaceParts_sound hx hp
    split at h
    · rename_i he
      cases h
      refine ⟨_, ?_, htup _ _ hr⟩
      simp only [Instr.typeAssert, Sem.run_bind, run_under hu, Result.andThen]
      cases d <;> simp_all
    · rename_i he
      split at h
      · rename_i hok
        subst hok
        split at h
        · rename_i z hz
          cases h
          simp only [Option.bind_eq_some_iff] at hz
          obtain ⟨i, hi, zv, hz1, hz2⟩ := hz
          refine ⟨.tuple #[zv, .bool false], ?_, ?_⟩
          · simp only [Instr.typeAssert, Sem.run_bind, run_under hu, Result.andThen]
            cases d <;> simp_all [run_zero hi hz1, Result.andThen]
          · show PV.rel φ.I _ _
            simp only [PV.rel]
            exact ⟨[zv, .bool false], rfl, rfl, by simp only [PV.relT]; exact ⟨_, _, rfl, absV_rel hz2, _, _, rfl, by simp [PV.rel], trivial⟩⟩
        · simp at h
      · simp at h
  · simp at h

def aBuiltin (P : Program) (G : List GObj) (b : Builtin) (ats : List TypeId) (ty : TypeId) (args : List AV) : Option (AV × List GObj) :=
  match b, ats, args with
  | .append, [ts, tx], [s, x] => aAppend P G ts tx s x
  | .len, t :: _, [x] => (aLen P G t x).map (·, G)
  | .copy, t :: _, [d, s] => aCopy P G t d s
  | .clear, t :: _, [d] => (aClear P G t d).map (aundef, ·)
  | .delete, t :: _, [m, k] => (aDelete P G t m k).map (aundef, ·)
  | .min, _, [x, y] => match x.conc, y.conc with
    | some u, some v => ((pureIn P (Builtin.min_ ats.toArray ty #[u, v])).bind absV).map fun z => (.p z, G)
    | _, _ => none
  | .max, _, [x, y] => match x.conc, y.conc with
    | some u, some v => ((pureIn P (Builtin.max_ ats.toArray ty #[u, v])).bind absV).map fun z => (.p z, G)
    | _, _ => none
  | _, _, _ => none

section
variable {P : Program} {w0 : World} {O : Nat → Prop} {I0 : Imm} {φ : Emb} {G : List GObj} {w : World}

theorem aBuiltin_sound (h : Ctx w0 O I0 φ G w) {b : Builtin} {ats : Array TypeId} {ty : TypeId} {consts : Array Bool} {args : List AV} {vs : List Value} (hargs : AV.relL φ args vs) {r : AV × List GObj} (hr : aBuiltin P G b ats.toList ty args = some r) :
    ∃ v w' φ', (builtin b ats ty consts vs.toArray).run P w = .ok (.value v) w' ∧ Ext φ φ' ∧ Ctx w0 O I0 φ' r.2 w' ∧ AV.rel φ' r.1 v := by
  have hv : ∀ {s : Sem Value} {v : Value} {w' : World}, s.run P w = .ok v w' → (do pure (.value (← s)) : Sem Next).run P w = .ok (.value v) w' := by
    intro s v w' hs
    simp only [Sem.run_bind, hs, Result.andThen, Sem.run_pure]
  unfold aBuiltin at hr
  split at hr
  · rename_i ts tx s x hats
    obtain ⟨vs', _, rfl, hs, vx, _, rfl, hx, rfl⟩ := hargs
    have ha : ats = #[ts, tx] := by rw [← Array.toArray_toList (xs := ats), hats]
    subst ha
    obtain ⟨u, w', φ', h1, h2, h3, h4⟩ := aAppend_sound (P := P) (ty := ty) h hs hx hr
    exact ⟨u, w', φ', hv h1, h2, h3, h4⟩
  · rename_i t ats' x hats
    obtain ⟨vx, _, rfl, hx, rfl⟩ := hargs
    simp only [Option.map_eq_some_iff] at hr
    obtain ⟨y, hy, rfl⟩ := hr
    have ht : ats[0]? = some t := by rw [← Array.getElem?_toList, hats]; rfl
    obtain ⟨u, h1, h2⟩ := aLen_sound (P := P) (ty := ty) h ht hx hy
    exact ⟨u, w, φ, hv h1, Ext.refl φ, h, h2⟩
  · rename_i t ats' d s hats
    obtain ⟨vd, _, rfl, hd, vs', _, rfl, hs, rfl⟩ := hargs
    have ht : ats[0]? = some t := by rw [← Array.getElem?_toList, hats]; rfl
    obtain ⟨u, w', φ', h1, h2, h3, h4⟩ := aCopy_sound (P := P) (ty := ty) h ht hd hs hr
    exact ⟨u, w', φ', hv h1, h2, h3, h4⟩
  · rename_i t ats' d hats
    obtain ⟨vd, _, rfl, hd, rfl⟩ := hargs
    simp only [Option.map_eq_some_iff] at hr
    obtain ⟨y, hy, rfl⟩ := hr
    have ht : ats[0]? = some t := by rw [← Array.getElem?_toList, hats]; rfl
    obtain ⟨w', h1, h2⟩ := aClear_sound (P := P) (ty := ty) h ht hd hy
    exact ⟨_, w', φ, hv h1, Ext.refl φ, h2, aundef_rel⟩
  · rename_i t ats' m k hats
    obtain ⟨vm, _, rfl, hm, vk, _, rfl, hk, rfl⟩ := hargs
    simp only [Option.map_eq_some_iff] at hr
    obtain ⟨y, hy, rfl⟩ := hr
    have ht : ats[0]? = some t := by rw [← Array.getElem?_toList, hats]; rfl
    obtain ⟨w', h1, h2⟩ := aDelete_sound (P := P) (ty := ty) h ht hm hk hy
    exact ⟨_, w', φ, hv h1, Ext.refl φ, h2, aundef_rel⟩
  · rename_i x y
    obtain ⟨vx, _, rfl, hx, vy, _, rfl, hy, rfl⟩ := hargs
    split at hr
    · rename_i u v hu hv'
      obtain rfl := AV.conc_rel hu hx
      obtain rfl := AV.conc_rel hv' hy
      simp only [Option.map_eq_some_iff, Option.bind_eq_some_iff] at hr
      obtain ⟨q, ⟨z, hz, hzq⟩, rfl⟩ := hr
      rw [Array.toArray_toList] at hz
      exact ⟨z, w, φ, hv (run_pureIn hz w), Ext.refl φ, h, absV_rel hzq⟩
    · simp at hr
  · rename_i x y
    obtain ⟨vx, _, rfl, hx, vy, _, rfl, hy, rfl⟩ := hargs
    split at hr
    · rename_i u v hu hv'
      obtain rfl := AV.conc_rel hu hx
      obtain rfl := AV.conc_rel hv' hy
      simp only [Option.map_eq_some_iff, Option.bind_eq_some_iff] at hr
      obtain ⟨q, ⟨z, hz, hzq⟩, rfl⟩ := hr
      rw [Array.toArray_toList] at hz
      exact ⟨z, w, φ, hv (run_pureIn hz w), Ext.refl φ, h, absV_rel hzq⟩
    · simp at hr
  · simp at hr
end

/-- One operation that is no call of a function. -/
def aop (P : Program) (T : List AV) (G : List GObj) (o : Oper) : Option (AV × List GObj) :=
  match o.op with
  | .move x | .assign x => (aeval T x).map (·, G)
  | .pick c a b => match aeval T c, aeval T a, aeval T b with
    | some (.p (.bool t)), some x, some y => some (if t then x else y, G)
    | _, _, _ => none
  | .alloc t => aAlloc P G t
  | .box _ x => (aeval T x).map (aBox G)
  | .build t parts => ((aparts T parts.toList).bind (aBuild P t)).map (·, G)
  | .buildSlice t n parts => (aparts T parts.toList).bind (aBuildSlice P G t n)
  | .load t x => ((aeval T x).bind (aLoad P G t)).map (·, G)
  | .store t x v => match aeval T x, aeval T v with
    | some x, some v => (aStore P G t x v).map (aundef, ·)
    | _, _ => none
  | .nilCheck x => match aeval T x with
    | some (.ref g off) => some (.ref g off, G)
    | some (.aref g i off) => some (.aref g i off, G)
    | some (.p (.iel x off)) => some (.p (.iel x off), G)
    | some (.p (.fn f)) => some (.p (.fn f), G)
    | some (.clo f cs) => some (.clo f cs, G)
    | _ => none
  | .binOp op t x y _ => match aeval T x, aeval T y with
    | some u, some v => (aBin P op t x y u v).map (·, G)
    | _, _ => none
  | .unOp op _ x => match (aeval T x).bind AV.conc with
    | some v => ((pureIn P (Op.unary op v)).bind absV).map fun z => (.p z, G)
    | none => none
  | .convert s d x => ((aeval T x).bind (aConv P G s d)).map (·, G)
  | .makeInterface t x => match isIface P t with
    | some false => (aeval T x).map fun y => (.mkIface t y, G)
    | _ => none
  | .makeFunc fn first caps => match fn with
    | .func f => if first.size = 0 then (aevals T caps.toList).map fun cs => (.mkClo f cs, G) else none
    | _ => none
  | .makeMap _ none => some (aMakeMap G)
  | .makeSlice t l c => match aeval T l, aeval T c with
    | some l, some c => aMakeSlice P G t l c
    | _, _ => none
  | .slice t x lo hi none => match aeval T x, aevalO T lo, aevalO T hi with
    | some x, some lo, some hi => (aSlice P G t x lo hi).map (·, G)
    | _, _, _ => none
  | .fieldAddr s x f => ((aeval T x).bind fun x => aFieldAddr P s x f).map (·, G)
  | .field t x f => ((aeval T x).bind fun x => aField P t x f).map (·, G)
  | .indexAddr t x i => match aeval T x, aeval T i with
    | some x, some i => (aIndexAddr P G t x i).map (·, G)
    | _, _ => none
  | .index t x i => match aeval T x, aeval T i with
    | some x, some i => (aIndex P t x i).map (·, G)
    | _, _ => none
  | .lookup t x k ok => match aeval T x, aeval T k with
    | some x, some k => (aLookup P G t x k ok).map (·, G)
    | _, _ => none
  | .mapUpdate t m k v | .insert t m k v => match aeval T m, aeval T k, aeval T v with
    | some m, some k, some v => (aMapUpdate P G t m k v).map (aundef, ·)
    | _, _, _ => none
  | .typeAssert x _ asserted ok => ((aeval T x).bind fun x => aTypeAssert P x asserted ok).map (·, G)
  | .extract x i => ((aeval T x).bind fun x => aExtract x i).map (·, G)
  | .call { callee := .builtin b, args, argTypes } => (aevals T args.toList).bind (aBuiltin P G b argTypes.toList o.type)
  | _ => none

def Ans (P : Program) (s : Sem Next) (w0 : World) (O : Nat → Prop) (I0 : Imm) (φ : Emb) (w : World) (r : AV × List GObj) : Prop :=
  ∃ nx v w' φ', s.run P w = .ok nx w' ∧ (nx = .value v ∨ nx = .skip ∧ v = undef) ∧ Ext φ φ' ∧ Ctx w0 O I0 φ' r.2 w' ∧ AV.rel φ' r.1 v

theorem aop_sound {P : Program} {w0 : World} {O : Nat → Prop} {I0 : Imm} {φ : Emb} {G : List GObj} {w : World} (h : Ctx w0 O I0 φ G w) {T : List AV} {a : Act} (hT : AV.relL φ T a.tmps.toList) {o : Oper} {r : AV × List GObj} (hr : aop P T G o = some r) :
    Ans P (execOp a.eval o) w0 O I0 φ w r := by
  have hval : ∀ {s : Sem Value} {u : Value} {y : AV}, s.run P w = .ok u w → AV.rel φ y u → execOp a.eval o = (do pure (.value (← s))) → Ans P (execOp a.eval o) w0 O I0 φ w (y, G) := by
    intro s u y hs hy he
    refine ⟨_, u, w, φ, ?_, .inl rfl, Ext.refl φ, h, hy⟩
    rw [he]
    simp only [Sem.run_bind, hs, Result.andThen, Sem.run_pure]
  have hval' : ∀ {s : Sem Value} {u : Value} {w' : World} {φ' : Emb} {r : AV × List GObj}, s.run P w = .ok u w' → Ext φ φ' → Ctx w0 O I0 φ' r.2 w' → AV.rel φ' r.1 u → execOp a.eval o = (do pure (.value (← s))) → Ans P (execOp a.eval o) w0 O I0 φ w r := by
    intro s u w' φ' r hs hx hc hy he
    refine ⟨_, u, w', φ', ?_, .inl rfl, hx, hc, hy⟩
    rw [he]
    simp only [Sem.run_bind, hs, Result.andThen, Sem.run_pure]
  have hskip : ∀ {s : Sem Unit} {w' : World} {φ' : Emb} {G' : List GObj}, s.run P w = .ok () w' → Ext φ φ' → Ctx w0 O I0 φ' G' w' → execOp a.eval o = (do s; pure .skip) → Ans P (execOp a.eval o) w0 O I0 φ w (aundef, G') := by
    intro s w' φ' G' hs hx hc he
    refine ⟨_, undef, w', φ', ?_, .inr ⟨rfl, rfl⟩, hx, hc, aundef_rel⟩
    rw [he]
    simp only [Sem.run_bind, hs, Result.andThen, Sem.run_pure]
  have hret : ∀ {x : Operand} {y : AV}, aeval T x = some y → execOp a.eval o = pure (.value (a.eval x)) → Ans P (execOp a.eval o) w0 O I0 φ w (y, G) := by
    intro x y hx he
    refine ⟨_, a.eval x, w, φ, ?_, .inl rfl, Ext.refl φ, h, aeval_sound hT hx⟩
    rw [he]
    rfl
  unfold aop at hr
  split at hr
  · rename_i x ho
    simp only [Option.map_eq_some_iff] at hr
    obtain ⟨y, hy, rfl⟩ := hr
    exact hret hy (by simp [execOp, ho])
  · rename_i x ho
    simp only [Option.map_eq_some_iff] at hr
    obtain ⟨y, hy, rfl⟩ := hr
    exact hret hy (by simp [execOp, ho])
  · rename_i c p q ho
    split at hr
    · rename_i t x y hc hp hq
      cases hr
      have hb := rel_bool (aeval_sound hT hc)
      refine ⟨_, if t then a.eval p else a.eval q, w, φ, ?_, .inl rfl, Ext.refl φ, h, ?_⟩
      · simp only [execOp, ho, hb, asBool, Sem.run_bind, Sem.run_pure, Result.andThen]
      · cases t with
        | true => exact aeval_sound hT hp
        | false => exact aeval_sound hT hq
    · simp at hr
  · rename_i t ho
    obtain ⟨u, w', φ', h1, h2, h3, h4⟩ := aAlloc_sound h hr
    exact hval' h1 h2 h3 h4 (by simp [execOp, ho])
  · rename_i t x ho
    simp only [Option.map_eq_some_iff] at hr
    obtain ⟨y, hy, rfl⟩ := hr
    obtain ⟨u, w', φ', h1, h2, h3, h4⟩ := aBox_sound (P := P) h t (aeval_sound hT hy)
    exact hval' h1 h2 h3 h4 (by simp [execOp, ho])
  · rename_i t parts ho
    simp only [Option.map_eq_some_iff, Option.bind_eq_some_iff] at hr
    obtain ⟨y, ⟨ps, hps, hy⟩, rfl⟩ := hr
    obtain ⟨u, h1, h2⟩ := aBuild_sound (P := P) (w := w) (vparts := parts.map fun (p : Nat × Operand) => (p.1, a.eval p.2)) (by simpa using aparts_sound hT hps) hy
    exact hval h1 h2 (by simp [execOp, ho])
  · rename_i t n parts ho
    simp only [Option.bind_eq_some_iff] at hr
    obtain ⟨ps, hps, hy⟩ := hr
    obtain ⟨u, w', φ', h1, h2, h3, h4⟩ := aBuildSlice_sound (P := P) h (vparts := parts.map fun (p : Nat × Operand) => (p.1, a.eval p.2)) (by simpa using aparts_sound hT hps) hy
    exact hval' h1 h2 h3 h4 (by simp [execOp, ho])
  · rename_i t x ho
    simp only [Option.map_eq_some_iff, Option.bind_eq_some_iff] at hr
    obtain ⟨y, ⟨z, hz, hy⟩, rfl⟩ := hr
    obtain ⟨u, h1, h2⟩ := aLoad_sound (P := P) h (aeval_sound hT hz) hy
    exact hval h1 h2 (by simp [execOp, ho])
  · rename_i t x v ho
    split at hr
    · rename_i x' v' hx hv
      simp only [Option.map_eq_some_iff] at hr
      obtain ⟨G', hG, rfl⟩ := hr
      obtain ⟨w', φ', h1, h2, h3⟩ := aStore_sound (P := P) h (aeval_sound hT hx) (aeval_sound hT hv) hG
      exact hskip h1 h2 h3 (by simp [execOp, ho])
    · simp at hr
  · rename_i x ho
    have hn : ∀ (v : Value), (∀ (t : TypeId), v ≠ .nilIface) → (∃ q, v = .pointer (some q)) ∨ (∃ f cs, v = .func (.func f) #[] cs) → a.eval x = v → (execOp a.eval o).run P w = .ok (.value v) w := by
      intro v _ hv he
      rcases hv with ⟨q, rfl⟩ | ⟨f, cs, rfl⟩ <;> simp [execOp, ho, he]
    split at hr
    · rename_i g off hx
      cases hr
      have hrel := aeval_sound hT hx
      obtain ⟨hlt, he⟩ := hrel
      exact ⟨_, _, w, φ, hn _ (by simp) (.inl ⟨_, rfl⟩) he, .inl rfl, Ext.refl φ, h, ⟨hlt, rfl⟩⟩
    · rename_i g i off hx
      cases hr
      obtain ⟨hlt, he⟩ := aeval_sound hT hx
      exact ⟨_, _, w, φ, hn _ (by simp) (.inl ⟨_, rfl⟩) he, .inl rfl, Ext.refl φ, h, ⟨hlt, rfl⟩⟩
    · rename_i y off hx
      cases hr
      have hrel : PV.rel φ.I (.iel y off) _ := aeval_sound hT hx
      have hrel' := hrel
      simp only [PV.rel] at hrel'
      obtain ⟨b, o', c, n, he, _⟩ := hrel'
      exact ⟨_, _, w, φ, hn _ (by simp [he]) (.inl ⟨_, he⟩) rfl, .inl rfl, Ext.refl φ, h, hrel⟩
    · rename_i f hx
      cases hr
      have hrel : PV.rel φ.I (.fn f) _ := aeval_sound hT hx
      have hrel' := hrel
      simp only [PV.rel] at hrel'
      exact ⟨_, _, w, φ, hn _ (by simp [hrel']) (.inr ⟨_, _, hrel'⟩) rfl, .inl rfl, Ext.refl φ, h, hrel⟩
    · rename_i f cs hx
      cases hr
      have hrel := aeval_sound hT hx
      obtain ⟨vs, he, _⟩ := hrel
      exact ⟨_, _, w, φ, hn _ (by simp [he]) (.inr ⟨_, _, he⟩) rfl, .inl rfl, Ext.refl φ, h, aeval_sound hT hx⟩
    · simp at hr
  · rename_i op t x y yt ho
    split at hr
    · rename_i u v hu hv
      simp only [Option.map_eq_some_iff] at hr
      obtain ⟨z, hz, rfl⟩ := hr
      obtain ⟨q, h1, h2⟩ := aBin_sound (P := P) (w := w) (aeval_sound hT hu) (aeval_sound hT hv) hz
      exact hval h1 h2 (by simp [execOp, ho])
    · simp at hr
  · rename_i op t x ho
    split at hr
    · rename_i v hv
      simp only [Option.bind_eq_some_iff] at hv
      obtain ⟨y, hy, hc⟩ := hv
      have he := AV.conc_rel hc (aeval_sound hT hy)
      simp only [Option.map_eq_some_iff, Option.bind_eq_some_iff] at hr
      obtain ⟨q, ⟨z, hz, hzq⟩, rfl⟩ := hr
      rw [← he] at hz
      exact hval (run_pureIn hz w) (absV_rel (I := φ.I) hzq) (by simp [execOp, ho])
    · simp at hr
  · rename_i s d x ho
    simp only [Option.map_eq_some_iff, Option.bind_eq_some_iff] at hr
    obtain ⟨y, ⟨z, hz, hy⟩, rfl⟩ := hr
    obtain ⟨u, h1, h2⟩ := aConv_sound (P := P) h (aeval_sound hT hz) hy
    exact hval h1 h2 (by simp [execOp, ho])
  · rename_i t x ho
    split at hr
    · rename_i hi
      simp only [Option.map_eq_some_iff] at hr
      obtain ⟨y, hy, rfl⟩ := hr
      refine hval (s := Instr.makeInterface t (a.eval x)) (u := .iface t (a.eval x)) ?_ (AV.mkIface_rel (aeval_sound hT hy)) (by simp [execOp, ho])
      unfold isIface at hi
      split at hi
      · simp at hi
      · rename_i d hd hu
        simp only [Instr.makeInterface, Sem.run_bind, run_under hu, Result.andThen]
        cases d <;> first | rfl | exact absurd rfl (hd _)
      · simp at hi
    · simp at hr
  · rename_i fn first caps ho
    split at hr
    · rename_i f
      split at hr
      · rename_i h0
        simp only [Option.map_eq_some_iff] at hr
        obtain ⟨cs, hcs, rfl⟩ := hr
        have hf : first = #[] := Array.eq_empty_of_size_eq_zero h0
        subst hf
        refine hval (s := Instr.makeFunc (.func f) #[] (caps.map a.eval)) (u := .func (.func f) #[] (caps.toList.map a.eval).toArray) ?_ (AV.mkClo_rel (aevals_sound hT hcs)) (by simp [execOp, ho])
        rw [map_arr]
        rfl
      · simp at hr
    · simp at hr
  · rename_i t ho
    cases hr
    obtain ⟨u, w', φ', h1, h2, h3, h4⟩ := aMakeMap_sound (P := P) h t
    exact hval' h1 h2 h3 h4 (by simp [execOp, ho])
  · rename_i t l c ho
    split at hr
    · rename_i l' c' hl hc
      obtain ⟨u, w', φ', h1, h2, h3, h4⟩ := aMakeSlice_sound (P := P) h (aeval_sound hT hl) (aeval_sound hT hc) hr
      exact hval' h1 h2 h3 h4 (by simp [execOp, ho])
    · simp at hr
  · rename_i t x lo hi ho
    split at hr
    · rename_i x' lo' hi' hx hlo hhi
      simp only [Option.map_eq_some_iff] at hr
      obtain ⟨y, hy, rfl⟩ := hr
      obtain ⟨u, h1, h2⟩ := aSlice_sound (P := P) h (aeval_sound hT hx) (aevalO_sound hT hlo) (aevalO_sound hT hhi) hy
      exact hval h1 h2 (by simp [execOp, ho])
    · simp at hr
  · rename_i s x f ho
    simp only [Option.map_eq_some_iff, Option.bind_eq_some_iff] at hr
    obtain ⟨y, ⟨z, hz, hy⟩, rfl⟩ := hr
    obtain ⟨u, h1, h2⟩ := aFieldAddr_sound (P := P) (w := w) (aeval_sound hT hz) hy
    exact hval h1 h2 (by simp [execOp, ho])
  · rename_i t x f ho
    simp only [Option.map_eq_some_iff, Option.bind_eq_some_iff] at hr
    obtain ⟨y, ⟨z, hz, hy⟩, rfl⟩ := hr
    obtain ⟨u, h1, h2⟩ := aField_sound (P := P) (w := w) (aeval_sound hT hz) hy
    exact hval h1 h2 (by simp [execOp, ho])
  · rename_i t x i ho
    split at hr
    · rename_i x' i' hx hi
      simp only [Option.map_eq_some_iff] at hr
      obtain ⟨y, hy, rfl⟩ := hr
      obtain ⟨u, h1, h2⟩ := aIndexAddr_sound (P := P) h (aeval_sound hT hx) (aeval_sound hT hi) hy
      exact hval h1 h2 (by simp [execOp, ho])
    · simp at hr
  · rename_i t x i ho
    split at hr
    · rename_i x' i' hx hi
      simp only [Option.map_eq_some_iff] at hr
      obtain ⟨y, hy, rfl⟩ := hr
      obtain ⟨u, h1, h2⟩ := aIndex_sound (P := P) (w := w) (aeval_sound hT hx) (aeval_sound hT hi) hy
      exact hval h1 h2 (by simp [execOp, ho])
    · simp at hr
  · rename_i t x k ok ho
    split at hr
    · rename_i x' k' hx hk
      simp only [Option.map_eq_some_iff] at hr
      obtain ⟨y, hy, rfl⟩ := hr
      obtain ⟨u, h1, h2⟩ := aLookup_sound (P := P) h (aeval_sound hT hx) (aeval_sound hT hk) hy
      exact hval h1 h2 (by simp [execOp, ho])
    · simp at hr
  · rename_i t m k v ho
    split at hr
    · rename_i m' k' v' hm hk hv
      simp only [Option.map_eq_some_iff] at hr
      obtain ⟨G', hG, rfl⟩ := hr
      obtain ⟨w', φ', h1, h2, h3⟩ := aMapUpdate_sound (P := P) h (aeval_sound hT hm) (aeval_sound hT hk) (aeval_sound hT hv) hG
      exact hskip h1 h2 h3 (by simp [execOp, ho])
    · simp at hr
  · rename_i t m k v ho
    split at hr
    · rename_i m' k' v' hm hk hv
      simp only [Option.map_eq_some_iff] at hr
      obtain ⟨G', hG, rfl⟩ := hr
      obtain ⟨w', φ', h1, h2, h3⟩ := aMapUpdate_sound (P := P) h (aeval_sound hT hm) (aeval_sound hT hk) (aeval_sound hT hv) hG
      exact hskip h1 h2 h3 (by simp [execOp, ho])
    · simp at hr
  · rename_i x xt asserted ok ho
    simp only [Option.map_eq_some_iff, Option.bind_eq_some_iff] at hr
    obtain ⟨y, ⟨z, hz, hy⟩, rfl⟩ := hr
    obtain ⟨u, h1, h2⟩ := aTypeAssert_sound (P := P) (w := w) (xt := xt) (aeval_sound hT hz) hy
    exact hval h1 h2 (by simp [execOp, ho])
  · rename_i x i ho
    simp only [Option.map_eq_some_iff, Option.bind_eq_some_iff] at hr
    obtain ⟨y, ⟨z, hz, hy⟩, rfl⟩ := hr
    obtain ⟨u, h1, h2⟩ := aExtract_sound (P := P) (w := w) (aeval_sound hT hz) hy
    exact hval h1 h2 (by simp [execOp, ho])
  · rename_i b args argTypes ho
    simp only [Option.bind_eq_some_iff] at hr
    obtain ⟨ys, hys, hb⟩ := hr
    obtain ⟨u, w', φ', h1, h2, h3, h4⟩ := aBuiltin_sound (P := P) (ty := o.type) (consts := args.map fun | .const _ => true | _ => false) h (aevals_sound hT hys) hb
    refine ⟨_, u, w', φ', ?_, .inl rfl, h2, h3, h4⟩
    rw [map_arr] at h1
    rw [← h1]
    simp [execOp, ho, resolve, invoke, Result.andThen]
    rfl
  · simp at hr
end
end Go.Ks
