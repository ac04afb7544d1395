/- An abstract evaluator for the model's code, part Z: code, loops over functions, functions: sound. -/
import Derived.Test.YtdlofomblpdiaaaGreatKsY
import Derived.Test.YtdlofomblpdiaaaGreatKsV
namespace Go.Ks
noncomputable section

def bops (P : Program) (H : Handler) (E : Ext1) (X : Runner) (ops : Array Oper) : List Oper → List AV → List GObj → M (List AV × List GObj)
  | [], T, G => .ret (T, G)
  | o :: rest, T, G => if wantedA ops T o then (bstep P H E X T G o).bind fun r => bops P H E X ops rest (aput T o.dst r.1) r.2 else bops P H E X ops rest (aput T o.dst aundef) G

def funOf : AV → Option (FuncId × List AV)
  | .p (.fn g) => some (g, [])
  | .clo g cs => some (g, cs)
  | _ => none
/-- Behind a loop over a function. -/
def endF (T : List AV) (l d : Nat) (X : Runner) (r : AV × List GObj) : M (Exit × List AV × List GObj) :=
  match r.2[l]?, r.2[d]? with
  | some (.loop st pend T' ps' asg' body' d'), some .dfr => match st with
    | .busy => .fail
    | _ => match pend with
      | none => .ret (.normal, T, ((r.2.set l (.loop .exhausted none T' ps' asg' body' d')).set l .dead).set d .dead)
      | some c => X c T (((r.2.set l (.loop .exhausted (some c) T' ps' asg' body' d')).set l .dead).set d .dead)
  | _, _ => .fail

def exec2 (P : Program) (H : Handler) (E : Ext1) : Nat → Bool → Code → List AV → List GObj → M (Exit × List AV × List GObj)
  | 0, _, _, _, _ => .fail
  | n + 1, top, c, T, G => match c with
    | .skip | .label _ => .ret (.normal, T, G)
    | .region _ ops draw => if draw then (M.of (dregion P H E ops T G)).bind fun r => .ret (.normal, r.1, r.2) else (bops P H E (exec2 P H E n false) ops ops.toList T G).bind fun r => .ret (.normal, r.1, r.2)
    | .seq x y => (exec2 P H E n top x T G).bind fun r => match r.1 with
      | .normal => exec2 P H E n top y r.2.1 r.2.2
      | _ => .ret r
    | .cond c x y => match aeval T c with
      | some (.p (.bool b)) => exec2 P H E n top (if b then x else y) T G
      | _ => .fail
    | .block id x => (exec2 P H E n top x T G).bind fun r => match r.1 with
      | .exit id' => if id' = id then .ret (.normal, r.2) else .ret r
      | _ => .ret r
    | .loop x => (exec2 P H E n top x T G).bind fun r => match r.1 with
      | .normal => exec2 P H E n top (.loop x) r.2.1 r.2.2
      | _ => .ret r
    | .exit id => .ret (.exit id, T, G)
    | .ret => .ret (.ret, T, G)
    | .rangeFunc f ps asg body => if top then match (aeval T f).bind funOf with
        | some (g, caps) => if hasBody P g = true then (acall H g (.yld (G.length + 1) :: caps) (G ++ [.dfr] ++ [.loop .ready none T ps.toList asg body G.length])).bind (endF T (G.length + 1) G.length (exec2 P H E n top))
          else .fail
        | none => .fail
      else .fail
    | _ => .fail

def runFn2 (P : Program) (H : Handler) (E : Ext1) (fuel : Nat) : Handler := fun f args G =>
  match P.funcs[f]? with
  | some fn => match fn.body with
    | some c => settleM ((exec2 P H E fuel true c (args ++ List.replicate (fn.ntmps - args.length) aundef) G).bind fun r => match r.1 with
      | .normal | .ret => M.of ((aresults P r.2.1 r.2.2 fn.results.toList).map fun xs => compact G.length (one xs, r.2.2))
      | _ => .fail)
    | none => .fail
  | none => .fail
/-- The functions of a program, each run by its text, over a table of others. -/
def callN2 (P : Program) (E : Ext1) (H0 : Handler) (fuel : Nat) : Nat → Handler
  | 0 => H0
  | n + 1 => runFn2 P (callN2 P E H0 fuel n) E fuel

section
variable {P : Program} {H : Handler} {E : Ext1}

theorem bops_sound {F : Fence} {m : Nat} {X : Runner} (hX : XOK P X) (hH : HOK P H) (hE : EOK P E) (hN : NoCount P) (hF : Wide F) (B : Nat) (ops : Array Oper) {Q : Exit → Act → World → Prop} : ∀ (l : List Oper) (k : Nat) {φ : Emb} {T : List AV} {G : List GObj} {a : Act} {w : World} {K : List AV × List GObj → Prop},
    ops.toList.drop k = l → WRel φ G w → AV.relL φ T a.tmps.toList → Marked B φ G w a.defers → (bops P H E X ops l T G).all K → (∀ a' w', GoodS B φ G w K a' w' → Q .normal a' w') → wpOpsIn F m P ops Q (List.range' k l.length) a w
  | [], k, φ, T, G, a, w, K, hl, h, hT, hD, hk, hq => hq a w ⟨φ, (T, G), hk, Ext.refl φ, Ctx.self h, hT, hD⟩
  | o :: rest, k, φ, T, G, a, w, K, hl, h, hT, hD, hk, hq => by
    have hk0 : ops[k]? = some o := by
      rw [← Array.getElem?_toList]
      have := congrArg (·[0]?) hl
      simpa [List.getElem?_drop] using this
    have hl' : ops.toList.drop (k + 1) = rest := by
      have := congrArg (List.drop 1) hl
      simpa [List.drop_drop] using this
    simp only [List.length_cons, List.range'_succ, wpOpsIn, hk0]
    rw [wanted_sound hT]
    simp only [bops] at hk
    cases hw : wantedA ops T o with
    | true =>
      simp only [hw, if_true] at hk ⊢
      rw [M.all_bind] at hk
      refine bstep_sound hX hH hE hN hF (Ctx.self h) hT hk ?_
      intro φ' r v w' x1 x2 x3 x4
      refine bops_sound hX hH hE hN hF B ops rest (k + 1) hl' x2.rel (aput_rel (AV.relL_ext x1 _ _ hT) o.dst x3) (by rw [put_defers]; exact Marked.after x2 hD) x4 ?_
      intro a' w'' hg
      exact hq a' w'' (hg.trans x1 x2)
    | false =>
      simp only [hw, Bool.false_eq_true, if_false] at hk ⊢
      exact ⟨fun f _ => hF.fn f, bops_sound hX hH hE hN hF B ops rest (k + 1) hl' h (aput_rel hT o.dst aundef_rel) (by rw [put_defers]; exact hD) hk hq⟩

theorem funOf_rel {φ : Emb} {x : AV} {v : Value} {g : FuncId} {caps : List AV} (h : AV.rel φ x v) (hf : funOf x = some (g, caps)) : ∃ cs : List Value, v = .func (.func g) #[] cs.toArray ∧ AV.relL φ caps cs := by
  cases x with
  | p y =>
    cases y with
    | fn g' =>
      cases hf
      have : PV.rel φ.I (.fn g) v := h
      simp only [PV.rel] at this
      exact ⟨[], this, rfl⟩
    | _ => simp [funOf] at hf
  | clo g' cs =>
    cases hf
    exact h
  | _ => simp [funOf] at hf

/-- What is to be shown of a runner. -/
def Runs (P : Program) (top : Bool) (X : Runner) (c : Code) (F : Fence) : Prop := ∀ (m B : Nat) (φ : Emb) (T : List AV) (G : List GObj) (a : Act) (w : World) (K : Exit × List AV × List GObj → Prop) (Q : Exit → Act → World → Prop),
  WRel φ G w → AV.relL φ T a.tmps.toList → Marked B φ G w a.defers → B ≤ w.heap.size → (X c T G).all K → (∀ e a' w', GoodS B φ G w (fun r => K (e, r)) a' w' → Q e a' w') → c.wpIn F m P Q a w

theorem range_sound (hH : HOK P H) (hN : NoCount P) {F : Fence} (hF : Wide F) (hro : F.round = none) {m : Nat} {X : Runner} (hX : ∀ c, Runs P true X c F) {f : Operand} {ps : Array Tmp} {asg body : Code} {g : FuncId} {caps : List AV} {B : Nat} {φ : Emb} {T : List AV} {G : List GObj} {a : Act} {w : World}
    {K : Exit × List AV × List GObj → Prop} {Q : Exit → Act → World → Prop} (h : WRel φ G w) (hT : AV.relL φ T a.tmps.toList) (hD : Marked B φ G w a.defers) (hB : B ≤ w.heap.size)
    (hf : (aeval T f).bind funOf = some (g, caps)) (hb : hasBody P g = true) (hk : ((acall H g (.yld (G.length + 1) :: caps) (G ++ [.dfr] ++ [.loop .ready none T ps.toList asg body G.length])).bind (endF T (G.length + 1) G.length X)).all K)
    (hq : ∀ e a' w', GoodS B φ G w (fun r => K (e, r)) a' w' → Q e a' w') : (Code.rangeFunc f ps asg body).wpIn F m P Q a w := by
  simp only [Option.bind_eq_some_iff] at hf
  obtain ⟨x, hx, hf⟩ := hf
  obtain ⟨cs, hev, hcaps⟩ := funOf_rel (aeval_sound hT hx) hf
  refine wpIn_rangeFunc ?_
  intro fn hfn
  rw [hro]
  have hn := h.n
  -- the two new objects
  have c1 := (Ctx.self h).new .dfr (.deferred (some [])) 0 0 (by show _ = _; rw [Emb.push_blk]; exact heap_push_new _)
  have x1 := Emb.push_ext φ w.heap.size 0 0 0
  generalize hφ1 : φ.push w.heap.size 0 0 0 = φ1 at c1 x1
  have hb1 : φ1.blk φ.n = w.heap.size := by rw [← hφ1]; exact Emb.push_blk _ _ _ _ _
  have hn1 : φ1.n = φ.n + 1 := by rw [← hφ1]; rfl
  have x2 := Emb.push_ext φ1 (w.heap.push (.deferred (some []))).size 0 0 0
  have c2 := c1.new (.loop .ready none T ps.toList asg body G.length) (.loop { state := .ready, pending := none, fn := fn, tmps := a.tmps, params := ps, assign := asg, body := body, defers := w.heap.size }) 0 0 (by
    refine ⟨fn, a.tmps.toList, ?_, AV.relL_ext x2 _ _ (AV.relL_ext x1 _ _ hT), ?_⟩
    · rw [Emb.push_blk]
      rw [x2.blk G.length (by omega), ← hn, hb1]
      exact heap_push_new _
    · show G.length < _ + 1; omega)
  generalize hφ2 : φ1.push (w.heap.push (.deferred (some []))).size 0 0 0 = φ2 at c2 x2
  have hb2 : φ2.blk (φ.n + 1) = w.heap.size + 1 := by rw [← hφ2, ← hn1, Emb.push_blk]; simp
  have hn2 : φ2.n = φ.n + 2 := by rw [← hφ2]; show φ1.n + 1 = _; omega
  have x12 := x1.trans x2
  rw [M.all_bind] at hk
  have hargs : AV.relL φ2 (.yld (G.length + 1) :: caps) (.func (.yield (w.heap.size + 1)) #[] #[] :: cs) := ⟨_, _, rfl, ⟨by omega, by rw [← hn, hb2]⟩, AV.relL_ext x12 _ _ hcaps⟩
  obtain ⟨W2, hW2⟩ : ∃ W2 : World, W2 = { heap := (w.heap.push (.deferred (some []))).push (.loop { state := .ready, pending := none, fn := fn, tmps := a.tmps, params := ps, assign := asg, body := body, defers := w.heap.size }), tape := w.tape, drawn := w.drawn, os := w.os, output := w.output } := ⟨_, rfl⟩
  have c2' : Ctx w (Own φ G) φ.I φ2 (G ++ [.dfr] ++ [.loop .ready none T ps.toList asg body G.length]) W2 := by rw [hW2]; exact c2
  have hcall := acall_sound (F := F) hH c2' hargs hk hF (m - 1)
  refine ⟨w.heap.size + 1, [{ target := .collected w.heap.size, args := #[] }], W2, { target := .fn (.func g) cs.toArray, args := #[.func (.yield (w.heap.size + 1)) #[] #[]] }, W2, g, (.func (.yield (w.heap.size + 1)) #[] #[] :: cs).toArray, W2, ?_, ?_, fun f' _ => hF.fn f', ?_, fun hd => by simp [hF.depth] at hd, ?_⟩
  · rw [hW2]; simp [Instr.enterLoop, newObj, Sem.run, Result.andThen]; exact ⟨rfl, rfl, rfl⟩
  · simp only [resolve, hev]
    simp [Deferred.ofValue, Result.andThen, Act.eval]
  · rw [← run_callFunc hN hb]
    simp [invoke, Result.andThen]
  · refine CallsIn.mono hcall ?_
    rintro e w3 ⟨v, r, φ3, rfl, k1, x3, c3, _⟩
    unfold endF at k1
    split at k1
    · rename_i st pend T' ps' asg' body' d' hl hdd
      have x13 := x12.trans x3
      have hbl : φ3.blk (G.length + 1) = w.heap.size + 1 := by rw [← hn, x3.blk _ (by omega), hb2]
      have hbd : φ3.blk G.length = w.heap.size := by rw [← hn, x3.blk _ (by omega), x2.blk _ (by omega), hb1]
      obtain ⟨rec, l1, l2, l3, l4⟩ := c3.loopSet (st' := .exhausted) (pe' := pend) hl
      have l5 := (l4.kill (G.length + 1)).kill G.length
      rw [hbl] at l1 l4 l5
      have hend : st ≠ .busy → (Instr.endLoop (w.heap.size + 1)).run P w3 = .ok pend { w3 with heap := w3.heap.setIfInBounds (w.heap.size + 1) (.loop { rec with state := .exhausted, pending := pend }) } := by
        intro hst
        have hs : rec.state ≠ LoopState.busy := by
          rw [l2]; exact hst
        subst l3
        simp [Instr.endLoop, Instr.getLoop, getObj, setObj, Sem.run, l1, Result.andThen, hs]
      have hmark : Marked B φ3 (((r.2.set (G.length + 1) (.loop .exhausted pend T' ps' asg' body' d')).set (G.length + 1) .dead).set G.length .dead) { w3 with heap := w3.heap.setIfInBounds (w.heap.size + 1) (.loop { rec with state := .exhausted, pending := pend }) } ([{ target := .collected w.heap.size, args := #[] }] ++ a.defers) := by
        refine ⟨⟨w.heap.size, rfl, ?_, ?_, hB, ?_⟩, Marked.after l5 hD⟩
        · have := c3.rel.obj _ _ hdd
          have h1 : w3.heap[φ3.blk G.length]? = some (.deferred (some [])) := this
          rw [hbd] at h1
          show (w3.heap.setIfInBounds _ _)[w.heap.size]? = _
          rw [Array.getElem?_setIfInBounds, if_neg (by omega)]
          exact h1
        · rintro ⟨q, o, hq1, hq2, hq3⟩
          rcases get_set hq1 with ⟨hne, hq1⟩ | ⟨_, rfl, _⟩
          · rcases get_set hq1 with ⟨hne2, hq1⟩ | ⟨_, rfl, _⟩
            · rcases get_set hq1 with ⟨_, hq1⟩ | ⟨e, _⟩
              · exact hne (c3.rel.inj q G.length o _ hq1 hdd hq2 rfl (by rw [hq3, hbd]))
              · exact absurd e hne2
            · simp [GObj.live] at hq2
          · simp [GObj.live] at hq2
        · intro d2 hd2 e
          have : ∀ (ds : List Deferred), Marked B φ G w ds → ∀ d2 ∈ ds, d2.target ≠ .collected w.heap.size := by
            intro ds
            induction ds with
            | nil => intro _ d2 h; simp at h
            | cons d1 ds ih =>
              intro hm d2 h
              obtain ⟨⟨r0, e0, e1, _⟩, e2⟩ := hm
              rcases List.mem_cons.1 h with rfl | h
              · subst e0
                intro e
                have hlt := (Array.getElem?_eq_some_iff.1 e1).1
                simp only [Target.collected.injEq] at e
                omega
              · exact ih e2 d2 h
          exact this _ hD d2 hd2 e
      have hT3 := AV.relL_ext x13 _ _ hT
      cases st with
      | busy => exact k1.elim
      | _ =>
        refine ⟨pend, _, hend (by simp), ?_⟩
        cases pend with
        | none => exact hq .normal _ _ ⟨φ3, _, k1, x13, l5, hT3, hmark⟩
        | some c =>
          refine hX c m B φ3 T _ _ _ K Q l5.rel hT3 hmark ?_ k1 ?_
          · have h1 := l5.fr.size
            omega
          · intro e a' w' hg
            exact hq e a' w' (hg.trans x13 l5)
    · exact k1.elim

theorem exec2_sound (hH : HOK P H) (hE : EOK P E) (hN : NoCount P) (hmix : P.follows .mixedOrders = true) : ∀ (fuel : Nat),
    (∀ (top : Bool) (F : Fence), Wide F → (top = true → F.round = none) → ∀ c, Runs P top (exec2 P H E fuel top) c F) ∧
    (∀ (top : Bool) (F : Fence), Wide F → (top = true → F.round = none) → ∀ (c : Code) (m B : Nat) (φ : Emb) (T : List AV) (G : List GObj) (a : Act) (w : World) (K : Exit × List AV × List GObj → Prop) (Q : Exit → Act → World → Prop),
      WRel φ G w → AV.relL φ T a.tmps.toList → Marked B φ G w a.defers → B ≤ w.heap.size → (exec2 P H E fuel top (.loop c) T G).all K → (∀ e a' w', GoodS B φ G w (fun r => K (e, r)) a' w' → Q e a' w') → Code.roundsIn F m P c Q fuel a w)
  | 0 => ⟨fun _ _ _ _ _ _ _ _ _ _ _ _ _ _ _ _ _ _ hk _ => hk.elim, fun _ _ _ _ _ _ _ _ _ _ _ _ _ _ _ _ _ _ hk _ => hk.elim⟩
  | n + 1 => by
    obtain ⟨ih, ihl⟩ := exec2_sound hH hE hN hmix n
    have hX : XOK P (exec2 P H E n false) := fun F m B c φ T G a w K Q hF h hT hD hB hk hq => ih false F hF (fun e => by cases e) c m B φ T G a w K Q h hT hD hB hk hq
    have loops : ∀ (top : Bool) (F : Fence), Wide F → (top = true → F.round = none) → ∀ (c : Code) (m B : Nat) (φ : Emb) (T : List AV) (G : List GObj) (a : Act) (w : World) (K : Exit × List AV × List GObj → Prop) (Q : Exit → Act → World → Prop),
        WRel φ G w → AV.relL φ T a.tmps.toList → Marked B φ G w a.defers → B ≤ w.heap.size → (exec2 P H E (n + 1) top (.loop c) T G).all K → (∀ e a' w', GoodS B φ G w (fun r => K (e, r)) a' w' → Q e a' w') → Code.roundsIn F m P c Q (n + 1) a w := by
      intro top F hF hro c m B φ T G a w K Q h hT hD hB hk hq
      simp only [exec2] at hk
      rw [M.all_bind] at hk
      rw [roundsIn_succ]
      refine ih top F hF hro c m B φ T G a w _ _ h hT hD hB hk ?_
      rintro e a' w' ⟨φ', r, k1, x1, c1, t1, d1⟩
      cases e with
      | normal =>
        refine ihl top F hF hro c m B φ' _ _ a' w' K Q c1.rel t1 d1 (by have := c1.fr.size; omega) k1 ?_
        intro e2 a2 w2 hg
        exact hq e2 a2 w2 (hg.trans x1 c1)
      | exit id => exact hq _ a' w' ⟨φ', r, k1, x1, c1, t1, d1⟩
      | goto l => exact hq _ a' w' ⟨φ', r, k1, x1, c1, t1, d1⟩
      | ret => exact hq _ a' w' ⟨φ', r, k1, x1, c1, t1, d1⟩
      | panic ch => exact hq _ a' w' ⟨φ', r, k1, x1, c1, t1, d1⟩
      | outgrown => exact hq _ a' w' ⟨φ', r, k1, x1, c1, t1, d1⟩
    refine ⟨?_, loops⟩
    intro top F hF hro c m B φ T G a w K Q h hT hD hB hk hq
    have here : ∀ {e : Exit}, K (e, T, G) → Q e a w := fun {e} hk => hq e a w ⟨φ, (T, G), hk, Ext.refl φ, Ctx.self h, hT, hD⟩
    cases c with
    | skip => exact wpIn_skip (here hk)
    | label l => exact wpIn_label (here hk)
    | exit id => exact wpIn_exit (here hk)
    | ret => exact wpIn_ret (here hk)
    | region id ops draw =>
      simp only [exec2] at hk
      cases draw with
      | true =>
        simp only [if_true] at hk
        rw [M.all_bind] at hk
        obtain ⟨r, hr, hkr⟩ := M.all_of hk
        refine dregion_sound hH hE hN hF hmix a.defers (Ctx.self h) hT rfl hr ?_
        rintro a' w' ⟨φ', _, rfl, x1, c1, t1, d1⟩
        exact hq .normal a' w' ⟨φ', _, hkr, x1, c1, t1, by rw [d1]; exact Marked.after c1 hD⟩
      | false =>
        simp only [Bool.false_eq_true, if_false] at hk
        rw [M.all_bind] at hk
        refine wpIn_region ?_
        have := bops_sound (F := F) (m := m) (Q := Q) hX hH hE hN hF B ops ops.toList 0 (by simp) h hT hD hk (fun a' w' hg => hq .normal a' w' hg)
        rw [List.range_eq_range']
        simpa using this
    | seq x y =>
      simp only [exec2] at hk
      rw [M.all_bind] at hk
      refine wpIn_seq (ih top F hF hro x m B φ T G a w _ _ h hT hD hB hk ?_)
      rintro e a' w' ⟨φ', r, k1, x1, c1, t1, d1⟩
      cases e with
      | normal =>
        refine ih top F hF hro y m B φ' _ _ a' w' K Q c1.rel t1 d1 (by have := c1.fr.size; omega) k1 ?_
        intro e2 a2 w2 hg
        exact hq e2 a2 w2 (hg.trans x1 c1)
      | exit id => exact hq _ a' w' ⟨φ', r, k1, x1, c1, t1, d1⟩
      | goto l => exact hq _ a' w' ⟨φ', r, k1, x1, c1, t1, d1⟩
      | ret => exact hq _ a' w' ⟨φ', r, k1, x1, c1, t1, d1⟩
      | panic ch => exact hq _ a' w' ⟨φ', r, k1, x1, c1, t1, d1⟩
      | outgrown => exact hq _ a' w' ⟨φ', r, k1, x1, c1, t1, d1⟩
    | cond cnd x y =>
      simp only [exec2] at hk
      split at hk
      · rename_i b hb
        exact wpIn_cond (rel_bool (aeval_sound hT hb)) (ih top F hF hro _ m B φ T G a w K Q h hT hD hB hk hq)
      · exact hk.elim
    | block id x =>
      simp only [exec2] at hk
      rw [M.all_bind] at hk
      refine wpIn_block (ih top F hF hro x m B φ T G a w _ _ h hT hD hB hk ?_)
      rintro e a' w' ⟨φ', r, k1, x1, c1, t1, d1⟩
      cases e with
      | exit id' =>
        simp only [Exit.inBlock]
        simp only at k1
        split at k1
        · rename_i he
          rw [if_pos he]
          exact hq _ a' w' ⟨φ', r, k1, x1, c1, t1, d1⟩
        · rename_i he
          rw [if_neg he]
          exact hq _ a' w' ⟨φ', r, k1, x1, c1, t1, d1⟩
      | normal => exact hq _ a' w' ⟨φ', r, k1, x1, c1, t1, d1⟩
      | goto l => exact hq _ a' w' ⟨φ', r, k1, x1, c1, t1, d1⟩
      | ret => exact hq _ a' w' ⟨φ', r, k1, x1, c1, t1, d1⟩
      | panic ch => exact hq _ a' w' ⟨φ', r, k1, x1, c1, t1, d1⟩
      | outgrown => exact hq _ a' w' ⟨φ', r, k1, x1, c1, t1, d1⟩
    | loop x => exact wpIn_loop_rounds (n + 1) (loops top F hF hro x m B φ T G a w K Q h hT hD hB hk hq)
    | rangeFunc f ps asg body =>
      simp only [exec2] at hk
      split at hk
      · rename_i htop
        subst htop
        split at hk
        · rename_i g caps hf
          split at hk
          · rename_i hb
            exact range_sound hH hN hF (hro rfl) (fun c => ih true F hF hro c) h hT hD hB hf hb hk hq
          · exact hk.elim
        · exact hk.elim
      · exact hk.elim
    | scope x => exact hk.elim
    | goto l => exact hk.elim
    | refuse why => exact hk.elim

theorem runFn2_sound (hH : HOK P H) (hE : EOK P E) (hN : NoCount P) (hmix : P.follows .mixedOrders = true) (fuel : Nat) : HOK P (runFn2 P H E fuel) := by
  intro f args G K hk φ w vs hw hv n
  unfold runFn2 at hk
  split at hk
  · rename_i fn hf
    split at hk
    · rename_i c hb
      have hk := settle_all hk
      rw [M.all_bind] at hk
      refine callsIn_of_wp_marks hf hb trivial ?_
      have hlen := AV.relL_length hv
      refine (exec2_sound hH hE hN hmix fuel).1 true Fence.wide (.inl rfl) (fun _ => rfl) c n w.heap.size φ (args ++ List.replicate (fn.ntmps - args.length) aundef) G _ w _ _ hw ?_ trivial (Nat.le_refl _) hk ?_
      · simp only [Array.toList_append, Array.toList_replicate, List.size_toArray, hlen]
        exact AV.relL_append hv (AV.relL_replicate aundef_rel _)
      · rintro e a' w' ⟨φ', r, k1, x1, c1, t1, d1⟩
        have fin : (M.of ((aresults P r.1 r.2 fn.results.toList).map fun xs => compact G.length (one xs, r.2))).all K → LeavesInM Fence.wide n P fn a'.tmps (fun e w' => ∃ (v : Value) (r : AV × List GObj) (φ' : Emb), e = .returned v ∧ K r ∧ Ext φ φ' ∧ Ctx w (Own φ G) φ.I φ' r.2 w' ∧ AV.rel φ' r.1 v) a'.defers .returning w' := by
          intro hk
          obtain ⟨q, hq, hkq⟩ := M.all_of hk
          simp only [Option.map_eq_some_iff] at hq
          obtain ⟨xs, hxs, rfl⟩ := hq
          refine leaves_marks (w0 := w) (O := Own φ G) (I0 := φ.I) (φ := φ') (G := r.2) ?_ a'.defers w' c1 d1
          intro w2 c2
          obtain ⟨v, h1, h2⟩ := run_results c2 t1 hxs
          obtain ⟨φ2, q1, q2, q3⟩ := compact_sound (r := (one xs, r.2)) hw.n x1 c2 h2
          exact ⟨v, h1, v, _, φ2, rfl, hkq, q1, q2, q3⟩
        cases e with
        | normal => exact fin k1
        | ret => exact fin k1
        | exit id => exact k1.elim
        | goto l => exact k1.elim
        | panic ch => exact k1.elim
        | outgrown => exact k1.elim
    · exact hk.elim
  · exact hk.elim
theorem callN2_sound {H0 : Handler} (h0 : HOK P H0) (hE : EOK P E) (hN : NoCount P) (hmix : P.follows .mixedOrders = true) (fuel : Nat) : ∀ n, HOK P (callN2 P E H0 fuel n)
  | 0 => h0
  | n + 1 => runFn2_sound (callN2_sound h0 hE hN hmix fuel n) hE hN hmix fuel
def none0 : Handler := fun _ _ _ => .fail
theorem none0_ok : HOK P none0 := fun _ _ _ _ hk => hk.elim
end
end
end Go.Ks
