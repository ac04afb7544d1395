/- An abstract evaluator for the model's code, part V: code, functions. -/
import Derived.Test.YtdlofomblpdiaaaGreatKsU
namespace Go.Ks
noncomputable section

def exec (P : Program) (H : Handler) (E : Ext1) : Nat → Code → List AV → List GObj → M (Exit × List AV × List GObj)
  | 0, _, _, _ => .fail
  | n + 1, c, T, G => match c with
    | .skip | .label _ => .ret (.normal, T, G)
    | .region _ ops draw => if draw then (M.of (dregion P H E ops T G)).bind fun r => .ret (.normal, r.1, r.2) else (runOps P H E ops ops.toList T G).bind fun r => .ret (.normal, r.1, r.2)
    | .seq x y => (exec P H E n x T G).bind fun r => match r.1 with
      | .normal => exec P H E n y r.2.1 r.2.2
      | _ => .ret r
    | .cond c x y => match aeval T c with
      | some (.p (.bool b)) => exec P H E n (if b then x else y) T G
      | _ => .fail
    | .block id x => (exec P H E n x T G).bind fun r => match r.1 with
      | .exit id' => if id' = id then .ret (.normal, r.2) else .ret r
      | _ => .ret r
    | .loop x => (exec P H E n x T G).bind fun r => match r.1 with
      | .normal => exec P H E n (.loop x) r.2.1 r.2.2
      | _ => .ret r
    | .exit id => .ret (.exit id, T, G)
    | .ret => .ret (.ret, T, G)
    | _ => .fail

def aresult (P : Program) (T : List AV) (G : List GObj) : ResultVar → Option AV
  | .tmp t => T[t]?
  | .cell a t => match T[a]? with
    | some x => aLoad P G t x
    | none => none
def aresults (P : Program) (T : List AV) (G : List GObj) : List ResultVar → Option (List AV)
  | [] => some []
  | r :: rs => match aresult P T G r, aresults P T G rs with
    | some x, some xs => some (x :: xs)
    | _, _ => none
def one (xs : List AV) : AV := match xs with
  | [x] => x
  | xs => .mkTup xs
def runFn (P : Program) (H : Handler) (E : Ext1) (fuel : Nat) : Handler := fun f args G =>
  match P.funcs[f]? with
  | some fn => match fn.body with
    | some c => (exec P H E fuel c (args ++ List.replicate (fn.ntmps - args.length) aundef) G).bind fun r => match r.1 with
      | .normal | .ret => M.of ((aresults P r.2.1 r.2.2 fn.results.toList).map fun xs => (one xs, r.2.2))
      | _ => .fail
    | none => .fail
  | none => .fail
/-- The functions of a program, each run by its text. -/
def callN (P : Program) (E : Ext1) (fuel : Nat) : Nat → Handler
  | 0 => fun _ _ _ => .fail
  | n + 1 => runFn P (callN P E fuel n) E fuel

section
variable {P : Program} {H : Handler} {E : Ext1} {F : Fence} {m : Nat} {w0 : World} {O : Nat → Prop} {I0 : Imm}

theorem exec_sound (hH : HOK P H) (hE : EOK P E) (hN : NoCount P) (hm : P.follows .mixedOrders = true) (hF : Wide F) (D : List Deferred) : ∀ (fuel : Nat),
    (∀ (c : Code) {φ : Emb} {T : List AV} {G : List GObj} {a : Act} {w : World} {K : Exit × List AV × List GObj → Prop} {Q : Exit → Act → World → Prop}, Ctx w0 O I0 φ G w → AV.relL φ T a.tmps.toList → a.defers = D → (exec P H E fuel c T G).all K →
      (∀ e a' w', Good w0 O I0 φ D (fun r => K (e, r)) a' w' → Q e a' w') → c.wpIn F m P Q a w) ∧
    (∀ (c : Code) {φ : Emb} {T : List AV} {G : List GObj} {a : Act} {w : World} {K : Exit × List AV × List GObj → Prop} {Q : Exit → Act → World → Prop}, Ctx w0 O I0 φ G w → AV.relL φ T a.tmps.toList → a.defers = D → (exec P H E fuel (.loop c) T G).all K →
      (∀ e a' w', Good w0 O I0 φ D (fun r => K (e, r)) a' w' → Q e a' w') → Code.roundsIn F m P c Q fuel a w)
  | 0 => ⟨fun c _ _ _ _ _ _ _ _ _ _ hk _ => hk.elim, fun c _ _ _ _ _ _ _ _ _ _ hk _ => hk.elim⟩
  | n + 1 => by
    obtain ⟨ih, ihl⟩ := exec_sound hH hE hN hm hF D n
    have loops : ∀ (c : Code) {φ : Emb} {T : List AV} {G : List GObj} {a : Act} {w : World} {K : Exit × List AV × List GObj → Prop} {Q : Exit → Act → World → Prop}, Ctx w0 O I0 φ G w → AV.relL φ T a.tmps.toList → a.defers = D → (exec P H E (n + 1) (.loop c) T G).all K →
        (∀ e a' w', Good w0 O I0 φ D (fun r => K (e, r)) a' w' → Q e a' w') → Code.roundsIn F m P c Q (n + 1) a w := by
      intro c φ T G a w K Q h hT hD hk hq
      simp only [exec] at hk
      rw [M.all_bind] at hk
      rw [roundsIn_succ]
      refine ih c h hT hD hk ?_
      rintro e a' w' ⟨φ', r, k1, x1, c1, t1, d1⟩
      cases e with
      | normal =>
        refine ihl c c1 t1 d1 k1 ?_
        rintro e2 a2 w2 ⟨φ2, r2, k2, x2, rest⟩
        exact hq e2 a2 w2 ⟨φ2, r2, k2, x1.trans x2, rest⟩
      | exit id => exact hq _ a' w' ⟨φ', r, k1, x1, c1, t1, d1⟩
      | goto l => exact hq _ a' w' ⟨φ', r, k1, x1, c1, t1, d1⟩
      | ret => exact hq _ a' w' ⟨φ', r, k1, x1, c1, t1, d1⟩
      | panic ch => exact hq _ a' w' ⟨φ', r, k1, x1, c1, t1, d1⟩
      | outgrown => exact hq _ a' w' ⟨φ', r, k1, x1, c1, t1, d1⟩
    refine ⟨?_, loops⟩
    intro c φ T G a w K Q h hT hD hk hq
    have here : ∀ {e : Exit}, K (e, T, G) → Q e a w := fun {e} hk => hq e a w ⟨φ, (T, G), hk, Ext.refl φ, h, hT, hD⟩
    cases c with
    | skip => exact wpIn_skip (here hk)
    | label l => exact wpIn_label (here hk)
    | exit id => exact wpIn_exit (here hk)
    | ret => exact wpIn_ret (here hk)
    | region id ops draw =>
      simp only [exec] at hk
      cases draw with
      | true =>
        simp only [if_true] at hk
        rw [M.all_bind] at hk
        obtain ⟨r, hr, hkr⟩ := M.all_of hk
        refine dregion_sound hH hE hN hF hm D h hT hD hr ?_
        rintro a' w' ⟨φ', _, rfl, x1, c1, t1, d1⟩
        exact hq .normal a' w' ⟨φ', _, hkr, x1, c1, t1, d1⟩
      | false =>
        simp only [Bool.false_eq_true, if_false] at hk
        rw [M.all_bind] at hk
        refine wpIn_region ?_
        have := runOps_sound (F := F) (m := m) (Q := Q) hH hE hN hF D ops ops.toList 0 (by simp) h hT hD hk (fun a' w' hg => hq .normal a' w' hg)
        rw [List.range_eq_range']
        simpa using this
    | seq x y =>
      simp only [exec] at hk
      rw [M.all_bind] at hk
      refine wpIn_seq (ih x h hT hD hk ?_)
      rintro e a' w' ⟨φ', r, k1, x1, c1, t1, d1⟩
      cases e with
      | normal =>
        refine ih y c1 t1 d1 k1 ?_
        rintro e2 a2 w2 ⟨φ2, r2, k2, x2, rest⟩
        exact hq e2 a2 w2 ⟨φ2, r2, k2, x1.trans x2, rest⟩
      | exit id => exact hq _ a' w' ⟨φ', r, k1, x1, c1, t1, d1⟩
      | goto l => exact hq _ a' w' ⟨φ', r, k1, x1, c1, t1, d1⟩
      | ret => exact hq _ a' w' ⟨φ', r, k1, x1, c1, t1, d1⟩
      | panic ch => exact hq _ a' w' ⟨φ', r, k1, x1, c1, t1, d1⟩
      | outgrown => exact hq _ a' w' ⟨φ', r, k1, x1, c1, t1, d1⟩
    | cond cnd x y =>
      simp only [exec] at hk
      split at hk
      · rename_i b hb
        exact wpIn_cond (rel_bool (aeval_sound hT hb)) (ih _ h hT hD hk hq)
      · exact hk.elim
    | block id x =>
      simp only [exec] at hk
      rw [M.all_bind] at hk
      refine wpIn_block (ih x h hT hD hk ?_)
      rintro e a' w' ⟨φ', r, k1, x1, c1, t1, d1⟩
      cases e with
      | exit id' =>
        simp only [Exit.inBlock]
        simp only at k1
        split at k1
        · rename_i he
          rw [if_pos he]
          exact hq _ a' w' ⟨φ', r, k1, x1, c1, t1, d1⟩
        · rename_i he
          rw [if_neg he]
          exact hq _ a' w' ⟨φ', r, k1, x1, c1, t1, d1⟩
      | normal => exact hq _ a' w' ⟨φ', r, k1, x1, c1, t1, d1⟩
      | goto l => exact hq _ a' w' ⟨φ', r, k1, x1, c1, t1, d1⟩
      | ret => exact hq _ a' w' ⟨φ', r, k1, x1, c1, t1, d1⟩
      | panic ch => exact hq _ a' w' ⟨φ', r, k1, x1, c1, t1, d1⟩
      | outgrown => exact hq _ a' w' ⟨φ', r, k1, x1, c1, t1, d1⟩
    | loop x => exact wpIn_loop_rounds (n + 1) (loops x h hT hD hk hq)
    | rangeFunc f ps asg body => exact hk.elim
    | scope x => exact hk.elim
    | goto l => exact hk.elim
    | refuse why => exact hk.elim

def rvSem (tmps : Array Value) : ResultVar → Sem Value
  | .tmp t => pure (tmps.getD t undef)
  | .cell a t => do loadVar t (← asAddr (tmps.getD a undef))
theorem results_eq (fn : Func) (tmps : Array Value) : results fn tmps = (do let vs ← fn.results.mapM (rvSem tmps); pure (if h : vs.size = 1 then vs[0] else .tuple vs)) := rfl
theorem rvSem_cell (tmps : Array Value) (x : Tmp) (t : TypeId) : rvSem tmps (.cell x t) = (do loadVar t (← asAddr (tmps.getD x undef))) := rfl
theorem rvSem_tmp (tmps : Array Value) (t : Tmp) : rvSem tmps (.tmp t) = pure (tmps.getD t undef) := rfl
theorem aresults_sound {φ : Emb} {G : List GObj} {w : World} (h : Ctx w0 O I0 φ G w) {T : List AV} {a : Act} (hT : AV.relL φ T a.tmps.toList) : ∀ {rs : List ResultVar} {xs : List AV}, aresults P T G rs = some xs →
    ∃ vs : List Value, AV.relL φ xs vs ∧ (rs.mapM (rvSem a.tmps)).run P w = .ok vs w
  | [], xs, hx => by cases hx; exact ⟨[], rfl, by simp⟩
  | r :: rs, xs, hx => by
    simp only [aresults] at hx
    split at hx
    · rename_i y ys h1 h2
      cases hx
      obtain ⟨vs, k1, k2⟩ := aresults_sound h hT h2
      have htmp : ∀ {t : Tmp} {z : AV}, T[t]? = some z → AV.rel φ z (a.tmps.getD t undef) := fun {t z} hz => aeval_sound (x := .tmp t) hT ((rget_eq T t).trans hz)
      cases r with
      | tmp t =>
        refine ⟨_ :: vs, ⟨_, vs, rfl, htmp h1, k1⟩, ?_⟩
        simp only [List.mapM_cons, rvSem_tmp, Sem.run_bind, Sem.run_pure, Result.andThen, k2]
      | cell x t =>
        simp only [aresult] at h1
        split at h1
        · rename_i z hz
          obtain ⟨u, l1, l2⟩ := aLoad_sound (P := P) h (htmp hz) h1
          refine ⟨u :: vs, ⟨_, vs, rfl, l2, k1⟩, ?_⟩
          have hptr : ∃ ad, a.tmps.getD x undef = .pointer (some ad) := by
            unfold aLoad at h1
            have hc : ∃ cs, cellsAt G z = some cs := by
              split at h1
              · rename_i i cs _ _ hc; exact ⟨cs, hc⟩
              · rename_i i c cs _ _ hc; exact ⟨_, hc⟩
              · simp at h1
            obtain ⟨cs, hc⟩ := hc
            obtain ⟨b, o, _, _, _, he, _⟩ := cellsAt_sound h (htmp hz) hc
            exact ⟨_, he⟩
          obtain ⟨ad, had⟩ := hptr
          rw [had] at l1
          simp only [Instr.loadAt, Instr.sureAddr, Sem.run_bind, Sem.run_pure, Result.andThen] at l1
          simp only [List.mapM_cons, rvSem_cell, Sem.run_bind, had, asAddr, Sem.run_pure, Result.andThen, l1, k2]
        · simp at h1
    · simp at hx

theorem one_rel {φ : Emb} {xs : List AV} {vs : List Value} (h : AV.relL φ xs vs) : AV.rel φ (one xs) (if h : vs.toArray.size = 1 then vs.toArray[0] else .tuple vs.toArray) := by
  cases xs with
  | nil =>
    simp only [AV.relL] at h
    subst h
    exact AV.mkTup_rel (xs := []) rfl
  | cons x xs =>
    cases xs with
    | nil =>
      obtain ⟨v, r, rfl, h1, h2⟩ := h
      simp only [AV.relL] at h2
      subst h2
      exact h1
    | cons y ys =>
      have hl := AV.relL_length h
      have : ¬ vs.toArray.size = 1 := by simp; simp at hl; omega
      rw [dif_neg this]
      exact AV.mkTup_rel h

theorem run_results {φ : Emb} {G : List GObj} {w : World} (h : Ctx w0 O I0 φ G w) {T : List AV} {a : Act} (hT : AV.relL φ T a.tmps.toList) {fn : Func} {xs : List AV} (hx : aresults P T G fn.results.toList = some xs) :
    ∃ v, (results fn a.tmps).run P w = .ok v w ∧ AV.rel φ (one xs) v := by
  obtain ⟨vs, h1, h2⟩ := aresults_sound (P := P) h hT hx
  refine ⟨_, ?_, one_rel h1⟩
  rw [results_eq, Array.mapM_eq_mapM_toList]
  simp only [Functor.map]
  rw [Sem.run_bind, Sem.run_bind', h2]
  rfl
end

theorem runFn_sound {P : Program} {H : Handler} {E : Ext1} (hH : HOK P H) (hE : EOK P E) (hN : NoCount P) (hm : P.follows .mixedOrders = true) (fuel : Nat) : HOK P (runFn P H E fuel) := by
  intro f args G K hk φ w vs hw hv n
  unfold runFn at hk
  split at hk
  · rename_i fn hf
    split at hk
    · rename_i c hb
      rw [M.all_bind] at hk
      refine callsIn_of_wp hf hb trivial ?_
      have hctx : Ctx w (Own φ G) φ.I φ G w := ⟨hw, Fr.refl w, fun b c hb => .inl hb⟩
      have hlen := AV.relL_length hv
      refine (exec_sound (F := Fence.wide) (m := n) hH hE hN hm (.inl rfl) [] fuel).1 c hctx (T := args ++ List.replicate (fn.ntmps - args.length) aundef) ?_ rfl hk ?_
      · simp only [Array.toList_append, Array.toList_replicate, List.size_toArray, hlen]
        exact AV.relL_append hv (AV.relL_replicate aundef_rel _)
      · rintro e a' w' ⟨φ', r, k1, x1, c1, t1, d1⟩
        have fin : (M.of ((aresults P r.1 r.2 fn.results.toList).map fun xs => (one xs, r.2))).all K → (a'.defers = [] ∧ ∃ v, (results fn a'.tmps).run P w' = .ok v w' ∧ ∃ (v' : Value) (r : AV × List GObj) (φ' : Emb), Ending.returned v = .returned v' ∧ K r ∧ Ext φ φ' ∧ Ctx w (Own φ G) φ.I φ' r.2 w' ∧ AV.rel φ' r.1 v') := by
          intro hk
          obtain ⟨q, hq, hkq⟩ := M.all_of hk
          simp only [Option.map_eq_some_iff] at hq
          obtain ⟨xs, hxs, rfl⟩ := hq
          obtain ⟨v, h1, h2⟩ := run_results c1 t1 hxs
          exact ⟨d1, v, h1, v, _, φ', rfl, hkq, x1, c1, h2⟩
        cases e with
        | normal => exact fin k1
        | ret => exact fin k1
        | exit id => exact k1.elim
        | goto l => exact k1.elim
        | panic ch => exact k1.elim
        | outgrown => exact k1.elim
    · exact hk.elim
  · exact hk.elim
theorem callN_sound {P : Program} {E : Ext1} (hE : EOK P E) (hN : NoCount P) (hm : P.follows .mixedOrders = true) (fuel : Nat) : ∀ n, HOK P (callN P E fuel n)
  | 0 => fun _ _ _ _ hk => hk.elim
  | n + 1 => runFn_sound (callN_sound hE hN hm fuel n) hE hN hm fuel
end
end Go.Ks
