/- An abstract evaluator for the model's code, part Y: one operation more: iterators, array variables, rounds of loops over functions. -/
import Derived.Test.YtdlofomblpdiaaaGreatKsX
namespace Go.Ks
noncomputable section

abbrev Runner := Code → List AV → List GObj → M (Exit × List AV × List GObj)

def aop2 (P : Program) (T : List AV) (G : List GObj) (o : Oper) : M (AV × List GObj) :=
  match o.op with
  | .slice t x lo hi none => match aeval T x, aevalO T lo, aevalO T hi with
    | some x, some lo, some hi => M.of (aSliceBox P G t x lo hi)
    | _, _, _ => .fail
  | .range t x => M.of ((aeval T x).bind fun x => aRange P G t x)
  | .next it false => match aeval T it with
    | some x => aNext G x
    | none => .fail
  | .entry it => M.of (((aeval T it).bind fun x => aEntry G x).map (·, G))
  | _ => .fail

def setPs : List AV → List Tmp → List AV → List AV
  | T, p :: ps, x :: xs => setPs (T.set p x) ps xs
  | T, _, _ => T
def jumpOf : Exit → Option (Option Code)
  | .normal => some none
  | .ret => some (some .ret)
  | .exit id => some (some (.exit id))
  | _ => none
/-- The end of a round. -/
def endR (g : Nat) (r : Exit × List AV × List GObj) : M (AV × List GObj) :=
  match r.2.2[g]? with
  | some (.loop _ _ T ps asg body d) => match jumpOf r.1 with
    | some j => .ret (.p (.bool j.isNone), r.2.2.set g (.loop (if j.isNone then .ready else .done) j T ps asg body d))
    | none => .fail
  | _ => .fail
/-- A round: yield is called. -/
def ayield (X : Runner) (g : Nat) (args : List AV) (G : List GObj) : M (AV × List GObj) :=
  match G[g]? with
  | some (.loop _ _ T ps asg body _) => if args.length = ps.length then (X asg (setPs T ps args) G).bind fun r => match r.1 with
      | .normal => match r.2.2[g]? with
        | some (.loop .ready pend T' ps' asg' body' d') => (X body r.2.1 (r.2.2.set g (.loop .busy pend T' ps' asg' body' d'))).bind (endR g)
        | _ => .fail
      | _ => .fail
    else .fail
  | _ => .fail

def bstep (P : Program) (H : Handler) (E : Ext1) (X : Runner) (T : List AV) (G : List GObj) (o : Oper) : M (AV × List GObj) :=
  match o.op with
  | .call c => match c.callee with
    | .value f => match aeval T f, aevals T c.args.toList with
      | some (.yld g), some args => ayield X g args G
      | _, _ => astep P H E T G o
    | _ => astep P H E T G o
  | _ => match aop P T G o with
    | some r => .ret r
    | none => aop2 P T G o

/-- What is known behind a stretch. -/
def GoodS (B : Nat) (φ : Emb) (G : List GObj) (w : World) (K : List AV × List GObj → Prop) (a' : Act) (w' : World) : Prop :=
  ∃ (φ' : Emb) (r : List AV × List GObj), K r ∧ Ext φ φ' ∧ Ctx w (Own φ G) φ.I φ' r.2 w' ∧ AV.relL φ' r.1 a'.tmps.toList ∧ Marked B φ' r.2 w' a'.defers
theorem GoodS.trans {B : Nat} {φ φ1 : Emb} {G G1 : List GObj} {w w1 : World} {K : List AV × List GObj → Prop} {a : Act} {w' : World} (hx : Ext φ φ1) (h : Ctx w (Own φ G) φ.I φ1 G1 w1) (k : GoodS B φ1 G1 w1 K a w') : GoodS B φ G w K a w' := by
  obtain ⟨φ', r, k1, k2, k3, k4, k5⟩ := k
  exact ⟨φ', r, k1, hx.trans k2, h.trans k3, k4, k5⟩

/-- A runner that may be trusted, in rounds too. -/
def XOK (P : Program) (X : Runner) : Prop := ∀ (F : Fence) (m B : Nat) (c : Code) (φ : Emb) (T : List AV) (G : List GObj) (a : Act) (w : World) (K : Exit × List AV × List GObj → Prop) (Q : Exit → Act → World → Prop),
  Wide F → WRel φ G w → AV.relL φ T a.tmps.toList → Marked B φ G w a.defers → B ≤ w.heap.size → (X c T G).all K → (∀ e a' w', GoodS B φ G w (fun r => K (e, r)) a' w' → Q e a' w') → c.wpIn F m P Q a w

section
variable {P : Program} {H : Handler} {E : Ext1} {F : Fence} {m : Nat} {w0 : World} {O : Nat → Prop} {I0 : Imm}

theorem aop2_sound (hF : Wide F) {φ : Emb} {T : List AV} {G : List GObj} {a : Act} {w : World} (h : Ctx w0 O I0 φ G w) (hT : AV.relL φ T a.tmps.toList) {o : Oper} {K : AV × List GObj → Prop}
    (hk : (aop2 P T G o).all K) {next : Act → World → Prop} {Q : Exit → Act → World → Prop}
    (hn : ∀ (φ' : Emb) (r : AV × List GObj) (v : Value) (w' : World), Ext φ φ' → Ctx w0 O I0 φ' r.2 w' → AV.rel φ' r.1 v → K r → next (a.put o.dst v) w') : o.wpIn F m P a w next Q := by
  have val : ∀ {s : Sem Value} {u : Value} {w' : World} {φ' : Emb} {r : AV × List GObj}, (∀ c, o.op ≠ .defer c) → s.run P w = .ok u w' → Ext φ φ' → Ctx w0 O I0 φ' r.2 w' → AV.rel φ' r.1 u → K r → execOp a.eval o = (do pure (.value (← s))) → o.wpIn F m P a w next Q := by
    intro s u w' φ' r hnd hs hx hc hy hkr he
    refine ⟨fun f _ => hF.fn f, ?_⟩
    rw [Oper.semAt_eq _ _ _ hnd, he]
    simp only [Sem.run_bind, hs, Result.andThen, Sem.run_pure]
    exact hn φ' r u w' hx hc hy hkr
  unfold aop2 at hk
  split at hk
  · rename_i t x lo hi ho
    have hnd : ∀ d, o.op ≠ .defer d := fun d e => by rw [ho] at e; cases e
    split at hk
    · rename_i x' lo' hi' hx hlo hhi
      obtain ⟨r, hr, hkr⟩ := M.all_of hk
      obtain ⟨u, φ', h1, h2, h3, h4⟩ := aSliceBox_sound (P := P) h (aeval_sound hT hx) (aevalO_sound hT hlo) (aevalO_sound hT hhi) hr
      exact val hnd h1 h2 h3 h4 hkr (by simp [execOp, ho])
    · exact hk.elim
  · rename_i t x ho
    have hnd : ∀ d, o.op ≠ .defer d := fun d e => by rw [ho] at e; cases e
    obtain ⟨r, hr, hkr⟩ := M.all_of hk
    simp only [Option.bind_eq_some_iff] at hr
    obtain ⟨y, hy, hr⟩ := hr
    obtain ⟨u, w', φ', h1, h2, h3, h4⟩ := aRange_sound (P := P) h (aeval_sound hT hy) hr
    exact val hnd h1 h2 h3 h4 hkr (by simp [execOp, ho])
  · rename_i it ho
    have hnd : ∀ d, o.op ≠ .defer d := fun d e => by rw [ho] at e; cases e
    split at hk
    · rename_i x hx
      obtain ⟨u, w', r, h1, h2, h3, h4⟩ := aNext_sound (P := P) h (aeval_sound hT hx) o.type hk
      exact val hnd h1 (Ext.refl φ) h3 h4 h2 (by simp [execOp, ho])
    · exact hk.elim
  · rename_i it ho
    have hnd : ∀ d, o.op ≠ .defer d := fun d e => by rw [ho] at e; cases e
    obtain ⟨r, hr, hkr⟩ := M.all_of hk
    simp only [Option.map_eq_some_iff, Option.bind_eq_some_iff] at hr
    obtain ⟨y, ⟨z, hz, hy⟩, rfl⟩ := hr
    obtain ⟨u, h1, h2⟩ := aEntry_sound (P := P) h (aeval_sound hT hz) hy
    exact val hnd h1 (Ext.refl φ) h h2 hkr (by simp [execOp, ho])
  · exact hk.elim

theorem setPs_rel {φ : Emb} : ∀ {T : List AV} {ps : List Tmp} {xs : List AV} {tmps : Array Value} {vs : List Value}, AV.relL φ T tmps.toList → AV.relL φ xs vs → AV.relL φ (setPs T ps xs) ((ps.zip vs).foldl (fun (t : Array Value) (p : Tmp × Value) => t.setIfInBounds p.1 p.2) tmps).toList
  | T, [], xs, tmps, vs, h, hx => by simpa [setPs] using h
  | T, p :: ps, [], tmps, vs, h, hx => by
    simp only [AV.relL] at hx
    subst hx
    simpa [setPs] using h
  | T, p :: ps, x :: xs, tmps, vs, h, hx => by
    obtain ⟨v, r, rfl, h1, h2⟩ := hx
    simp only [setPs, List.zip_cons_cons, List.foldl_cons]
    refine setPs_rel ?_ h2
    rw [Array.toList_setIfInBounds]
    exact AV.relL_set h p x v h1

theorem loop_rel {φ : Emb} {w : World} {g : Nat} {st st' : LoopState} {pe pe' : Option Code} {T : List AV} {ps : List Tmp} {asg body : Code} {d : Nat} (hr : GObj.rel φ w g (.loop st pe T ps asg body d)) :
    ∃ (rec : Loop), w.heap[φ.blk g]? = some (.loop rec) ∧ rec.state = st ∧ rec.pending = pe ∧ GObj.rel φ { w with heap := w.heap.setIfInBounds (φ.blk g) (.loop { rec with state := st', pending := pe' }) } g (.loop st' pe' T ps asg body d) := by
  obtain ⟨fn, tmps, h1, h2, h3⟩ := hr
  refine ⟨_, h1, rfl, rfl, fn, tmps, ?_, h2, h3⟩
  have hlt := (Array.getElem?_eq_some_iff.1 h1).1
  simp [hlt]
theorem Ctx.loopSet {φ : Emb} {G : List GObj} {w : World} (h : Ctx w0 O I0 φ G w) {g : Nat} {st st' : LoopState} {pe pe' : Option Code} {T : List AV} {ps : List Tmp} {asg body : Code} {d : Nat} (hg : G[g]? = some (.loop st pe T ps asg body d)) :
    ∃ (rec : Loop), w.heap[φ.blk g]? = some (.loop rec) ∧ rec.state = st ∧ rec.pending = pe ∧ Ctx w0 O I0 φ (G.set g (.loop st' pe' T ps asg body d)) { w with heap := w.heap.setIfInBounds (φ.blk g) (.loop { rec with state := st', pending := pe' }) } := by
  obtain ⟨rec, h1, h2, h3, h4⟩ := loop_rel (st' := st') (pe' := pe') (h.rel.obj g _ hg)
  exact ⟨rec, h1, h2, h3, h.upd hg rfl _ _ (by simp) (fun b hb => by simp [Array.getElem?_setIfInBounds, Ne.symm hb]) rfl rfl rfl fun _ => h4⟩

theorem ayield_sound {X : Runner} (hX : XOK P X) (hF : Wide F) {φ : Emb} {G : List GObj} {w : World} (h : Ctx w0 O I0 φ G w) {g : Nat} {args : List AV} {vs : List Value} (hv : AV.relL φ args vs) (hlt : g < φ.n) {K : AV × List GObj → Prop} (hk : (ayield X g args G).all K) (n : Nat) :
    ∃ (fn : FuncId) (tmps : Array Value) (asg body : Code), (Instr.yield (φ.blk g) vs.toArray).run P w = .ok (.round (φ.blk g) fn tmps asg body) w ∧
      RoundIn F n P (φ.blk g) fn tmps asg body w fun e w' => ∃ (v : Value) (r : AV × List GObj) (φ' : Emb), e = .returned v ∧ K r ∧ Ext φ φ' ∧ Ctx w0 O I0 φ' r.2 w' ∧ AV.rel φ' r.1 v := by
  unfold ayield at hk
  split at hk
  · rename_i st pe T ps asg body d hg
    split at hk
    · rename_i hlen
      obtain ⟨fn, tmps, h1, h2, h3⟩ := h.rel.obj g _ hg
      have hlen' := AV.relL_length hv
      refine ⟨fn, (ps.zip vs).foldl (fun (t : Array Value) (p : Tmp × Value) => t.setIfInBounds p.1 p.2) tmps.toArray, asg, body, ?_, ?_⟩
      · simp only [Instr.yield, Instr.getLoop, Sem.run_bind, getObj, Sem.run, h1, Result.andThen, List.size_toArray, hlen', hlen]
        simp [List.zip_toArray]
      · refine roundIn_of_wpIn (hF.fn _) ?_
        have hF' : Wide (F.inRound (φ.blk g)) := by
          rcases hF with rfl | ⟨l, rfl⟩
          · exact .inr ⟨_, rfl⟩
          · exact .inr ⟨_, rfl⟩
        rw [M.all_bind] at hk
        refine hX (F.inRound (φ.blk g)) n 0 asg φ _ G _ w _ _ hF' h.rel (setPs_rel (by simpa using h2) hv) trivial (Nat.zero_le _) hk ?_
        rintro e a1 w1 ⟨φ1, r1, k1, x1, c1, t1, m1⟩
        cases e with
        | normal =>
          simp only at k1
          split at k1
          · rename_i pend T' ps' asg' body' d' hg1
            obtain ⟨rec, l1, l2, l3, l4⟩ := (Ctx.self c1.rel).loopSet (st' := .busy) (pe' := pend) hg1
            have hb1 : φ1.blk g = φ.blk g := x1.blk g hlt
            rw [hb1] at l1 l4
            refine ⟨{ w1 with heap := w1.heap.setIfInBounds (φ.blk g) (.loop { rec with state := .busy, pending := pend }) }, ?_, ?_⟩
            · subst l3
              simp [Instr.beginRound, Instr.getLoop, getObj, setObj, Sem.run, l1, l2, Result.andThen]
            · rw [M.all_bind] at k1
              refine hX (F.inRound (φ.blk g)) n 0 body φ1 _ _ a1 _ _ _ hF' l4.rel t1 (Marked.after l4 m1) (Nat.zero_le _) k1 ?_
              rintro e a2 w2 ⟨φ2, r2, k2, x2, c2, t2, _⟩
              unfold endR at k2
              simp only at k2
              split at k2
              · rename_i st2 pe2 T2 ps2 asg2 body2 d2 hg2
                split at k2
                · rename_i j hj
                  obtain ⟨rec2, q1, q2, q3, q4⟩ := (Ctx.self c2.rel).loopSet (st' := if j.isNone then .ready else .done) (pe' := j) hg2
                  have hb2 : φ2.blk g = φ.blk g := by
                    rw [x2.blk g (Nat.lt_of_lt_of_le hlt x1.n), hb1]
                  rw [hb2] at q1 q4
                  have hrun : (Instr.endRound (φ.blk g) j).run P w2 = .ok (.bool j.isNone) { w2 with heap := w2.heap.setIfInBounds (φ.blk g) (.loop { rec2 with state := if j.isNone then .ready else .done, pending := j }) } := by
                    simp [Instr.endRound, Instr.getLoop, getObj, setObj, Sem.run, q1, Result.andThen]
                  have hR : ∃ (v : Value) (r : AV × List GObj) (φ' : Emb), Ending.returned (.bool j.isNone) = .returned v ∧ K r ∧ Ext φ φ' ∧ Ctx w0 O I0 φ' r.2 { w2 with heap := w2.heap.setIfInBounds (φ.blk g) (.loop { rec2 with state := if j.isNone then .ready else .done, pending := j }) } ∧ AV.rel φ' r.1 v :=
                    ⟨_, _, φ2, rfl, k2, x1.trans x2, h.trans (c1.trans (l4.trans (c2.trans q4))), rel_of_bool _⟩
                  cases e with
                  | normal => cases hj; exact ⟨_, _, hrun, hR⟩
                  | ret => cases hj; exact ⟨_, _, hrun, hR⟩
                  | exit id => cases hj; exact ⟨_, _, hrun, hR⟩
                  | _ => cases hj
                · exact k2.elim
              · exact k2.elim
          · exact k1.elim
        | _ => exact k1.elim
    · exact hk.elim
  · exact hk.elim

theorem bstep_sound {X : Runner} (hX : XOK P X) (hH : HOK P H) (hE : EOK P E) (hN : NoCount P) (hF : Wide F) {φ : Emb} {T : List AV} {G : List GObj} {a : Act} {w : World} (h : Ctx w0 O I0 φ G w) (hT : AV.relL φ T a.tmps.toList) {o : Oper} {K : AV × List GObj → Prop}
    (hk : (bstep P H E X T G o).all K) {next : Act → World → Prop} {Q : Exit → Act → World → Prop}
    (hn : ∀ (φ' : Emb) (r : AV × List GObj) (v : Value) (w' : World), Ext φ φ' → Ctx w0 O I0 φ' r.2 w' → AV.rel φ' r.1 v → K r → next (a.put o.dst v) w') : o.wpIn F m P a w next Q := by
  have old : (astep P H E T G o).all K → o.wpIn F m P a w next Q := fun hk => astep_sound hH hE hN hF h hT hk hn
  have plain : (∀ c, o.op ≠ .call c) → (match aop P T G o with | some r => M.ret r | none => aop2 P T G o).all K → o.wpIn F m P a w next Q := by
    intro hnc hk
    split at hk
    · rename_i r hr
      refine old ?_
      have : astep P H E T G o = M.of (aop P T G o) := by
        unfold astep
        cases ho : o.op <;> try rfl
        exact absurd ho (hnc _)
      rw [this, hr]
      exact hk
    · exact aop2_sound hF h hT hk hn
  unfold bstep at hk
  split at hk
  · rename_i c ho
    have hnd : ∀ d, o.op ≠ .defer d := fun d e => by rw [ho] at e; cases e
    split at hk
    · rename_i f hc
      split at hk
      · rename_i g args hf hargs
        obtain ⟨hlt, he⟩ := aeval_sound hT hf
        have hvs := aevals_sound hT hargs
        have hex : execOp a.eval o = (do let d ← resolve a.eval c o.type; invoke d.target d.args) := by simp [execOp, ho]
        obtain ⟨fn, tmps, asg, body, y1, y2⟩ := ayield_sound hX hF h hvs hlt hk (m - 1)
        refine ⟨fun f _ => hF.fn f, ?_⟩
        rw [Oper.semAt_eq _ _ _ hnd, hex]
        have hrun : ((do let d ← resolve a.eval c o.type; invoke d.target d.args) : Sem Next).run P w = .ok (.round (φ.blk g) fn tmps asg body) w := by
          rw [map_arr] at y1
          simp [resolve, hc, he, Deferred.ofValue, invoke, Result.andThen, y1]
        rw [hrun]
        refine ⟨fun hd => by simp [hF.depth] at hd, ?_⟩
        refine y2.mono ?_
        rintro e w' ⟨v, r, φ', rfl, k1, k2, k3, k4⟩
        exact hn φ' r v w' k2 k3 k4 k1
      · exact old hk
    · exact old hk
  · rename_i hnc
    exact plain hnc hk
end
end
end Go.Ks
