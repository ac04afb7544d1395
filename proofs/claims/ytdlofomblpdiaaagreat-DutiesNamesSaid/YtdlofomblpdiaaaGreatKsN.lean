/- An abstract evaluator for the model's code, part N: regions, code, functions. -/
import Derived.Test.YtdlofomblpdiaaaGreatKsM
namespace Go.Ks
noncomputable section

/-- What a call answers: a value, and the own objects behind it. -/
abbrev Handler := FuncId → List AV → List GObj → M (AV × List GObj)

/-- What a call does that is handed these own objects: it returns one of the answers, and leaves all else alone. -/
def ACalls (P : Program) (f : FuncId) (args : List AV) (G : List GObj) (K : AV × List GObj → Prop) : Prop :=
  ∀ (φ : Emb) (w : World) (vs : List Value), WRel φ G w → AV.relL φ args vs → ∀ n, CallsIn Fence.wide n P f vs.toArray w fun e w' =>
    ∃ (v : Value) (r : AV × List GObj) (φ' : Emb), e = .returned v ∧ K r ∧ Ext φ φ' ∧ Ctx w (Own φ G) φ.I φ' r.2 w' ∧ AV.rel φ' r.1 v
def HOK (P : Program) (H : Handler) : Prop := ∀ f args G (K : AV × List GObj → Prop), (H f args G).all K → ACalls P f args G K

/-- What functions without a body answer. -/
abbrev Ext1 := FuncId → List Value → Option Value
def EOK (P : Program) (E : Ext1) : Prop := ∀ f vs v, E f vs = some v → ∀ w, (callFunc f vs.toArray).run P w = .ok (.value v) w

def acall (H : Handler) (f : FuncId) (args : List AV) (G : List GObj) : M (AV × List GObj) :=
  match localize args G with
  | some (ρ, argsc, Gc) => (H f argsc Gc).bind fun r => M.of (mergeBack ρ G r)
  | none => .fail

def hasBody (P : Program) (f : FuncId) : Bool := match P.funcs[f]? with
  | some fn => fn.body.isSome
  | none => false

/-- Which function is called, with what. -/
def target (P : Program) (T : List AV) (c : Call) : Option (FuncId × List AV) :=
  match aevals T c.args.toList with
  | some args => match c.callee with
    | .value f => match aeval T f with
      | some (.p (.fn g)) => some (g, args)
      | some (.clo g caps) => some (g, args ++ caps)
      | _ => none
    | .invoke recv name => match (aeval T recv).bind AV.ifaceParts with
      | some (t, y) => match y.conc with
        | some v => match pureIn P (method (P.types.size + Made.depth) t v name) with
          | some (g, rv) => (absV rv).map fun z => (g, .p z :: args)
          | none => none
        | none => none
      | none => none
    | .builtin _ => none
  | none => none
def concL : List AV → Option (List Value)
  | [] => some []
  | x :: xs => match x.conc, concL xs with
    | some v, some vs => some (v :: vs)
    | _, _ => none
theorem concL_rel {φ : Emb} : ∀ {xs : List AV} {us vs : List Value}, concL xs = some us → AV.relL φ xs vs → vs = us
  | [], us, vs, h, hr => by cases h; exact hr
  | x :: xs, us, vs, h, hr => by
    simp only [concL] at h
    split at h
    · rename_i u us' h1 h2
      cases h
      obtain ⟨v, r, rfl, k1, k2⟩ := hr
      rw [AV.conc_rel h1 k1, concL_rel h2 k2]
    · simp at h

def astep (P : Program) (H : Handler) (E : Ext1) (T : List AV) (G : List GObj) (o : Oper) : M (AV × List GObj) :=
  match o.op with
  | .call c => match c.callee with
    | .builtin _ => M.of (aop P T G o)
    | _ => match target P T c with
      | some (g, args) => if hasBody P g = true then acall H g args G else match (concL args).bind (E g) with
        | some v => M.of ((absV v).map fun z => (.p z, G))
        | none => .fail
      | none => .fail
  | _ => M.of (aop P T G o)

def wantedA (ops : Array Oper) (T : List AV) (o : Oper) : Bool :=
  match o.guard with
  | none => true
  | some (j, want) => match (ops[j]?).bind (·.dst) with
    | some d => match T[d]? with
      | some (.p (.bool b)) => b == want
      | _ => false
    | none => false
def aput (T : List AV) (dst : Option Tmp) (v : AV) : List AV := match dst with
  | some d => rset v T d
  | none => T

def runOps (P : Program) (H : Handler) (E : Ext1) (ops : Array Oper) : List Oper → List AV → List GObj → M (List AV × List GObj)
  | [], T, G => .ret (T, G)
  | o :: rest, T, G => if wantedA ops T o then (astep P H E T G o).bind fun r => runOps P H E ops rest (aput T o.dst r.1) r.2 else runOps P H E ops rest (aput T o.dst aundef) G

/-! ### Soundness -/
theorem ACalls.mono {P : Program} {f : FuncId} {args : List AV} {G : List GObj} {K K' : AV × List GObj → Prop} (h : ACalls P f args G K) (hk : ∀ r, K r → K' r) : ACalls P f args G K' := by
  intro φ w vs hw hv n
  refine CallsIn.mono (h φ w vs hw hv n) ?_
  rintro e w' ⟨v, r, φ', e1, e2, e3⟩
  exact ⟨v, r, φ', e1, hk r e2, e3⟩

section
variable {P : Program} {H : Handler} {E : Ext1} {F : Fence} {m : Nat} {w0 : World} {O : Nat → Prop} {I0 : Imm}

/-- The fences in which runs are looked at: none, or none but a round of a loop over a function. -/
def Wide (F : Fence) : Prop := F = Fence.wide ∨ ∃ l, F = Fence.wide.inRound l
theorem Wide.fn {F : Fence} (h : Wide F) (f : FuncId) : F.fn f := by
  rcases h with rfl | ⟨l, rfl⟩ <;> trivial
theorem Wide.depth {F : Fence} (h : Wide F) : F.depth = none := by
  rcases h with rfl | ⟨l, rfl⟩ <;> rfl
theorem Wide.calls {F : Fence} (h : Wide F) {n : Nat} {f : FuncId} {args : Array Value} {w : World} {R : Ending → World → Prop} (hc : CallsIn Fence.wide n P f args w R) : CallsIn F n P f args w R := by
  rcases h with rfl | ⟨l, rfl⟩
  · exact hc
  · exact hc

theorem acall_sound (hH : HOK P H) {φ : Emb} {G : List GObj} {w : World} (h : Ctx w0 O I0 φ G w) {f : FuncId} {args : List AV} {vs : List Value} (hv : AV.relL φ args vs) {K : AV × List GObj → Prop} (hk : (acall H f args G).all K) (hF : Wide F) (n : Nat) :
    CallsIn F n P f vs.toArray w fun e w' => ∃ (v : Value) (r : AV × List GObj) (φ' : Emb), e = .returned v ∧ K r ∧ Ext φ φ' ∧ Ctx w0 O I0 φ' r.2 w' ∧ AV.rel φ' r.1 v := by
  unfold acall at hk
  split at hk
  · rename_i ρ argsc Gc hl
    have hL := localize_sound (φ := φ) hl
    rw [M.all_bind] at hk
    have hc := hH f argsc Gc _ hk (φ.down ρ) w vs (down_rel h.rel hL) (by rw [hL.ea]; exact AV.renL_rel (down_same hL) _ _ hL.sub hv) n
    refine CallsIn.mono (hF.calls hc) ?_
    rintro e w' ⟨v, r, φ', rfl, k1, k2, k3, k4⟩
    obtain ⟨r', hr', hkr⟩ := M.all_of k1
    obtain ⟨φ2, x1, x2, x3⟩ := call_back h hL k2 k3 k4 hr'
    exact ⟨v, r', φ2, rfl, hkr, x1, x2, x3⟩
  · exact hk.elim

theorem wanted_sound {φ : Emb} {T : List AV} {a : Act} (hT : AV.relL φ T a.tmps.toList) (ops : Array Oper) (o : Oper) : Region.wanted o (yielded ops a.tmps) = wantedA ops T o := by
  unfold Region.wanted wantedA
  cases hg : o.guard with
  | none => rfl
  | some jw =>
    obtain ⟨j, want⟩ := jw
    simp only [yielded]
    cases hd : (ops[j]?).bind (·.dst) with
    | none => simp
    | some d =>
      simp only [Option.bind_some]
      cases hx : T[d]? with
      | none =>
        have hl := AV.relL_length hT
        have : a.tmps[d]? = none := by
          rw [← Array.getElem?_toList, List.getElem?_eq_none]
          have := List.getElem?_eq_none_iff.1 hx
          omega
        simp [this]
      | some x =>
        obtain ⟨v, hv, hr⟩ := AV.relL_get hT d x hx
        rw [Array.getElem?_toList] at hv
        rw [hv]
        cases x with
        | p y =>
          have hr' : PV.rel φ.I y v := hr
          cases y <;> simp only [PV.rel] at hr'
          case bool b => subst hr'; rfl
          all_goals
            (first
              | subst hr'
              | (obtain ⟨_, _, rfl, _⟩ := hr')
              | (obtain ⟨_, rfl, _⟩ := hr')
              | (obtain ⟨_, _, _, _, rfl, _⟩ := hr'))
            rfl
        | ref g off => obtain ⟨_, rfl⟩ := hr; rfl
        | aref g i off => obtain ⟨_, rfl⟩ := hr; rfl
        | sl g off len => obtain ⟨_, _, _, rfl, _⟩ := hr; rfl
        | mp g => obtain ⟨_, rfl⟩ := hr; rfl
        | clo f cs => obtain ⟨_, rfl, _⟩ := hr; rfl
        | agg xs => obtain ⟨_, rfl, _⟩ := hr; rfl
        | tup xs => obtain ⟨_, rfl, _⟩ := hr; rfl
        | iface t y => obtain ⟨_, rfl, _⟩ := hr; rfl
        | yld g => obtain ⟨_, rfl⟩ := hr; rfl

theorem aput_rel {φ : Emb} {T : List AV} {a : Act} (hT : AV.relL φ T a.tmps.toList) (dst : Option Tmp) {x : AV} {v : Value} (hx : AV.rel φ x v) : AV.relL φ (aput T dst x) (a.put dst v).tmps.toList := by
  cases dst with
  | none => exact hT
  | some d =>
    simp only [aput, rset_eq, Act.put, Array.toList_setIfInBounds]
    exact AV.relL_set hT d x v hx
theorem put_defers (a : Act) (dst : Option Tmp) (v : Value) : (a.put dst v).defers = a.defers := by cases dst <;> rfl

theorem noDefer {o : Oper} {r : AV × List GObj} {T : List AV} {G : List GObj} (h : aop P T G o = some r) : ∀ c, o.op ≠ .defer c := by
  intro c e
  simp [aop, e] at h

/-- What is asked of a program's table of functions, once. -/
def NoCount (P : Program) : Prop := ∀ (f : FuncId) (fn : Func), P.funcs[f]? = some fn → (fn.name == "runtime.NumGoroutine") = false

theorem run_callFunc (hN : NoCount P) {g : FuncId} (hb : hasBody P g = true) (vs : Array Value) (w : World) : (callFunc g vs).run P w = .ok (.enter g vs) w := by
  unfold hasBody at hb
  split at hb
  · rename_i fn hf
    have h1 := hN g fn hf
    cases hbody : fn.body with
    | none => simp [hbody] at hb
    | some c =>
      have h1' : fn.name ≠ "runtime.NumGoroutine" := by simpa using h1
      simp [callFunc, program, Sem.run, hf, h1', hbody]
  · simp at hb

theorem target_sound {φ : Emb} {T : List AV} {a : Act} (hT : AV.relL φ T a.tmps.toList) {c : Call} {g : FuncId} {args : List AV} (ht : target P T c = some (g, args)) (ty : TypeId) (w : World) :
    ∃ vs : List Value, AV.relL φ args vs ∧ ((do let d ← resolve a.eval c ty; invoke d.target d.args) : Sem Next).run P w = (callFunc g vs.toArray).run P w := by
  unfold target at ht
  split at ht
  · rename_i ys hys
    have hys' := aevals_sound hT hys
    split at ht
    · rename_i f hc
      split at ht
      · rename_i g' hf
        cases ht
        have he : PV.rel φ.I (.fn g) (a.eval f) := aeval_sound hT hf
        simp only [PV.rel] at he
        refine ⟨_, hys', ?_⟩
        rw [map_arr]
        simp [resolve, hc, he, Deferred.ofValue, invoke, Result.andThen]
      · rename_i g' caps hf
        cases ht
        obtain ⟨cs, he, hr⟩ := aeval_sound hT hf
        refine ⟨_, AV.relL_append hys' hr, ?_⟩
        have e : (c.args.toList.map a.eval ++ cs).toArray = c.args.map a.eval ++ cs.toArray := by
          rw [← map_arr]; simp
        rw [e]
        simp [resolve, hc, he, Deferred.ofValue, invoke, Result.andThen]
      · simp at ht
    · rename_i recv name hc
      split at ht
      · rename_i t y hp
        simp only [Option.bind_eq_some_iff] at hp
        obtain ⟨x, hx, hp⟩ := hp
        obtain ⟨u, hu, hr⟩ := AV.ifaceParts_sound (aeval_sound hT hx) hp
        split at ht
        · rename_i v hv
          obtain rfl := AV.conc_rel hv hr
          split at ht
          · rename_i g' rv hm
            simp only [Option.map_eq_some_iff] at ht
            obtain ⟨z, hz, he⟩ := ht
            cases he
            refine ⟨rv :: c.args.toList.map a.eval, ⟨_, _, rfl, absV_rel hz, hys'⟩, ?_⟩
            have e : (rv :: c.args.toList.map a.eval).toArray = #[rv] ++ c.args.map a.eval := by
              rw [← map_arr]; simp
            rw [e]
            have hm' := run_pureIn hm w
            have e0 : (#[Value.iface t u] ++ c.args.map a.eval)[0]? = some (Value.iface t u) := by
              rw [Array.getElem?_append_left (by simp)]; rfl
            have e1 : (c.args.map a.eval).extract 0 c.args.size = c.args.map a.eval := by
              apply Array.ext'
              simp
              exact List.take_of_length_le (by simp)
            simp [resolve, hc, hu, invoke, callMethod, Result.andThen, program, Sem.run, e0]
            rw [e1, hm']
          · simp at ht
        · simp at ht
      · simp at ht
    · simp at ht
  · simp at ht

theorem astep_sound (hH : HOK P H) (hE : EOK P E) (hN : NoCount P) (hF : Wide F) {φ : Emb} {T : List AV} {G : List GObj} {a : Act} {w : World} (h : Ctx w0 O I0 φ G w) (hT : AV.relL φ T a.tmps.toList) {o : Oper} {K : AV × List GObj → Prop}
    (hk : (astep P H E T G o).all K) {next : Act → World → Prop} {Q : Exit → Act → World → Prop}
    (hn : ∀ (φ' : Emb) (r : AV × List GObj) (v : Value) (w' : World), Ext φ φ' → Ctx w0 O I0 φ' r.2 w' → AV.rel φ' r.1 v → K r → next (a.put o.dst v) w') : o.wpIn F m P a w next Q := by
  have plain : ∀ {r : AV × List GObj}, aop P T G o = some r → K r → o.wpIn F m P a w next Q := by
    intro r hr hkr
    obtain ⟨nx, v, w', φ', h1, h2, h3, h4, h5⟩ := aop_sound h hT hr
    refine ⟨fun f _ => hF.fn f, ?_⟩
    rw [Oper.semAt_eq _ _ _ (noDefer hr), h1]
    rcases h2 with rfl | ⟨rfl, rfl⟩
    · exact hn φ' r v w' h3 h4 h5 hkr
    · exact hn φ' r _ w' h3 h4 h5 hkr
  unfold astep at hk
  split at hk
  · rename_i c ho
    have hnd : ∀ d, o.op ≠ .defer d := fun d e => by rw [ho] at e; cases e
    have hex : execOp a.eval o = (do let d ← resolve a.eval c o.type; invoke d.target d.args) := by simp [execOp, ho]
    split at hk
    · obtain ⟨r, hr, hkr⟩ := M.all_of hk
      exact plain hr hkr
    · rename_i hnb
      split at hk
      · rename_i g args ht
        obtain ⟨vs, hvs, hrun⟩ := target_sound hT ht o.type w
        refine ⟨fun f _ => hF.fn f, ?_⟩
        rw [Oper.semAt_eq _ _ _ hnd, hex, hrun]
        split at hk
        · rename_i hb
          rw [run_callFunc hN hb]
          refine ⟨fun hd => by simp [hF.depth] at hd, ?_⟩
          refine CallsIn.mono (acall_sound hH h hvs hk hF _) ?_
          rintro e w' ⟨v, r, φ', rfl, k1, k2, k3, k4⟩
          exact hn φ' r v w' k2 k3 k4 k1
        · rename_i hb
          split at hk
          · rename_i v hv
            simp only [Option.bind_eq_some_iff] at hv
            obtain ⟨us, hus, hv⟩ := hv
            obtain rfl := concL_rel hus hvs
            obtain ⟨r, hr, hkr⟩ := M.all_of hk
            simp only [Option.map_eq_some_iff] at hr
            obtain ⟨z, hz, rfl⟩ := hr
            rw [hE g _ v hv w]
            exact hn φ (.p z, G) v w (Ext.refl φ) h (show AV.rel φ (.p z) v from absV_rel hz) hkr
          · exact hk.elim
      · exact hk.elim
  · obtain ⟨r, hr, hkr⟩ := M.all_of hk
    exact plain hr hkr

/-- The relation of a frame. -/
def Good (w0 : World) (O : Nat → Prop) (I0 : Imm) (φ : Emb) (D : List Deferred) (K : List AV × List GObj → Prop) (a : Act) (w : World) : Prop :=
  ∃ (φ' : Emb) (r : List AV × List GObj), K r ∧ Ext φ φ' ∧ Ctx w0 O I0 φ' r.2 w ∧ AV.relL φ' r.1 a.tmps.toList ∧ a.defers = D

theorem runOps_sound (hH : HOK P H) (hE : EOK P E) (hN : NoCount P) (hF : Wide F) (D : List Deferred) (ops : Array Oper) {Q : Exit → Act → World → Prop} : ∀ (l : List Oper) (k : Nat) {φ : Emb} {T : List AV} {G : List GObj} {a : Act} {w : World} {K : List AV × List GObj → Prop},
    ops.toList.drop k = l → Ctx w0 O I0 φ G w → AV.relL φ T a.tmps.toList → a.defers = D → (runOps P H E ops l T G).all K → (∀ a' w', Good w0 O I0 φ D K a' w' → Q .normal a' w') → wpOpsIn F m P ops Q (List.range' k l.length) a w
  | [], k, φ, T, G, a, w, K, hl, h, hT, hD, hk, hq => hq a w ⟨φ, (T, G), hk, Ext.refl φ, h, hT, hD⟩
  | o :: rest, k, φ, T, G, a, w, K, hl, h, hT, hD, hk, hq => by
    have hk0 : ops[k]? = some o := by
      rw [← Array.getElem?_toList]
      have := congrArg (·[0]?) hl
      simpa [List.getElem?_drop] using this
    have hl' : ops.toList.drop (k + 1) = rest := by
      have := congrArg (List.drop 1) hl
      simpa [List.drop_drop] using this
    simp only [List.length_cons, List.range'_succ, wpOpsIn, hk0]
    rw [wanted_sound hT]
    simp only [runOps] at hk
    cases hw : wantedA ops T o with
    | true =>
      simp only [hw, if_true] at hk ⊢
      rw [M.all_bind] at hk
      refine astep_sound hH hE hN hF h hT hk ?_
      intro φ' r v w' x1 x2 x3 x4
      refine runOps_sound hH hE hN hF D ops rest (k + 1) hl' x2 (aput_rel (AV.relL_ext x1 _ _ hT) o.dst x3) (by rw [put_defers]; exact hD) x4 ?_
      rintro a' w'' ⟨φ2, r2, y1, y2, y3⟩
      exact hq a' w'' ⟨φ2, r2, y1, x1.trans y2, y3⟩
    | false =>
      simp only [hw, Bool.false_eq_true, if_false] at hk ⊢
      exact ⟨fun f _ => hF.fn f, runOps_sound hH hE hN hF D ops rest (k + 1) hl' h (aput_rel hT o.dst aundef_rel) (by rw [put_defers]; exact hD) hk hq⟩

end
end
end Go.Ks
