/- An abstract evaluator for the model's code, part Za: the same, strict: for the kernel's sake all that is carried on is written out. -/
import Derived.Test.YtdlofomblpdiaaaGreatKsZ
namespace Go.Ks
noncomputable section
variable {β : Type}

def nfN (n : Nat) (k : Nat → β) : β := match n with
  | .zero => k 0
  | .succ m => k (.succ m)
theorem nfN_eq (n : Nat) (k : Nat → β) : nfN n k = k n := by cases n <;> rfl
def nfI (n : Int) (k : Int → β) : β := match n with
  | .ofNat m => nfN m fun m => k (.ofNat m)
  | .negSucc m => nfN m fun m => k (.negSucc m)
theorem nfI_eq (n : Int) (k : Int → β) : nfI n k = k n := by cases n <;> simp [nfI, nfN_eq]
def nfB (b : Bool) (k : Bool → β) : β := match b with
  | true => k true
  | false => k false
theorem nfB_eq (n : Bool) (k : Bool → β) : nfB n k = k n := by cases n <;> rfl
mutual
def nfP : PV → (PV → β) → β
  | .bool b, k => nfB b fun b => k (.bool b)
  | .int kd n, k => nfI n fun n => k (.int kd n)
  | .str s, k => k (.str s)
  | .nilsl, k => k .nilsl
  | .list e xs, k => nfN e fun e => nfPL xs fun xs => k (.list e xs)
  | .agg xs, k => nfPL xs fun xs => k (.agg xs)
  | .tup xs, k => nfPL xs fun xs => k (.tup xs)
  | .iel x o, k => nfP x fun x => nfN o fun o => k (.iel x o)
  | .nilptr, k => k .nilptr
  | .nilmap, k => k .nilmap
  | .nilfn, k => k .nilfn
  | .nilif, k => k .nilif
  | .fn f, k => nfN f fun f => k (.fn f)
  | .iface t x, k => nfN t fun t => nfP x fun x => k (.iface t x)
def nfPL : List PV → (List PV → β) → β
  | [], k => k []
  | x :: xs, k => nfP x fun x => nfPL xs fun xs => k (x :: xs)
end
mutual
theorem nfP_eq : ∀ (x : PV) (k : PV → β), nfP x k = k x
  | .bool b, k => by simp [nfP, nfB_eq]
  | .int kd n, k => by simp [nfP, nfI_eq]
  | .str s, k => rfl
  | .nilsl, k => rfl
  | .list e xs, k => by simp only [nfP, nfN_eq]; rw [nfPL_eq xs]
  | .agg xs, k => by simp only [nfP]; rw [nfPL_eq xs]
  | .tup xs, k => by simp only [nfP]; rw [nfPL_eq xs]
  | .iel x o, k => by simp only [nfP, nfN_eq]; rw [nfP_eq x]
  | .nilptr, k => rfl
  | .nilmap, k => rfl
  | .nilfn, k => rfl
  | .nilif, k => rfl
  | .fn f, k => by simp [nfP, nfN_eq]
  | .iface t x, k => by simp only [nfP, nfN_eq]; rw [nfP_eq x]
theorem nfPL_eq : ∀ (xs : List PV) (k : List PV → β), nfPL xs k = k xs
  | [], k => rfl
  | x :: xs, k => by simp only [nfPL]; rw [nfP_eq x, nfPL_eq xs]
end
mutual
def nfA : AV → (AV → β) → β
  | .p x, k => nfP x fun x => k (.p x)
  | .ref g o, k => nfN g fun g => nfN o fun o => k (.ref g o)
  | .aref g i o, k => nfN g fun g => nfN i fun i => nfN o fun o => k (.aref g i o)
  | .sl g o l, k => nfN g fun g => nfN o fun o => nfN l fun l => k (.sl g o l)
  | .mp g, k => nfN g fun g => k (.mp g)
  | .clo f xs, k => nfN f fun f => nfAL xs fun xs => k (.clo f xs)
  | .agg xs, k => nfAL xs fun xs => k (.agg xs)
  | .tup xs, k => nfAL xs fun xs => k (.tup xs)
  | .iface t x, k => nfN t fun t => nfA x fun x => k (.iface t x)
  | .yld g, k => nfN g fun g => k (.yld g)
def nfAL : List AV → (List AV → β) → β
  | [], k => k []
  | x :: xs, k => nfA x fun x => nfAL xs fun xs => k (x :: xs)
end
mutual
theorem nfA_eq : ∀ (x : AV) (k : AV → β), nfA x k = k x
  | .p x, k => by simp only [nfA, nfP_eq]
  | .ref g o, k => by simp [nfA, nfN_eq]
  | .aref g i o, k => by simp [nfA, nfN_eq]
  | .sl g o l, k => by simp [nfA, nfN_eq]
  | .mp g, k => by simp [nfA, nfN_eq]
  | .clo f xs, k => by simp only [nfA, nfN_eq]; rw [nfAL_eq xs]
  | .agg xs, k => by simp only [nfA]; rw [nfAL_eq xs]
  | .tup xs, k => by simp only [nfA]; rw [nfAL_eq xs]
  | .iface t x, k => by simp only [nfA, nfN_eq]; rw [nfA_eq x]
  | .yld g, k => by simp [nfA, nfN_eq]
theorem nfAL_eq : ∀ (xs : List AV) (k : List AV → β), nfAL xs k = k xs
  | [], k => rfl
  | x :: xs, k => by simp only [nfAL]; rw [nfA_eq x, nfAL_eq xs]
end
/-- A row's spine alone. -/
def nfS {α : Type} : List α → (List α → β) → β
  | [], k => k []
  | x :: xs, k => nfS xs fun xs => k (x :: xs)
theorem nfS_eq {α : Type} : ∀ (xs : List α) (k : List α → β), nfS xs k = k xs
  | [], k => rfl
  | x :: xs, k => by simp only [nfS]; rw [nfS_eq xs]
def nfM : List (PV × PV) → (List (PV × PV) → β) → β
  | [], k => k []
  | x :: xs, k => nfP x.1 fun a => nfP x.2 fun b => nfM xs fun xs => k ((a, b) :: xs)
theorem nfM_eq : ∀ (xs : List (PV × PV)) (k : List (PV × PV) → β), nfM xs k = k xs
  | [], k => rfl
  | x :: xs, k => by simp only [nfM, nfP_eq]; rw [nfM_eq xs]
def nfNL : List Nat → (List Nat → β) → β
  | [], k => k []
  | x :: xs, k => nfN x fun x => nfNL xs fun xs => k (x :: xs)
theorem nfNL_eq : ∀ (xs : List Nat) (k : List Nat → β), nfNL xs k = k xs
  | [], k => rfl
  | x :: xs, k => by simp only [nfNL, nfN_eq]; rw [nfNL_eq xs]
def nfO (o : GObj) (k : GObj → β) : β := match o with
  | .box cs => nfAL cs fun cs => k (.box cs)
  | .arr e xs => nfN e fun e => nfPL xs fun xs => k (.arr e xs)
  | .ice e xs => nfN e fun e => nfPL xs fun xs => k (.ice e xs)
  | .map es bs c => nfM es fun es => nfNL bs fun bs => nfN c fun c => k (.map es bs c)
  | .iter m s l b => match m with
    | none => nfN s fun s => nfNL l fun l => nfN b fun b => k (.iter none s l b)
    | some m => nfN m fun m => nfN s fun s => nfNL l fun l => nfN b fun b => k (.iter (some m) s l b)
  | .loop st pe T ps a b d => nfAL T fun T => nfN d fun d => k (.loop st pe T ps a b d)
  | .dfr => k .dfr
  | .dead => k .dead
theorem nfO_eq (o : GObj) (k : GObj → β) : nfO o k = k o := by
  cases o <;> simp only [nfO, nfN_eq, nfAL_eq, nfPL_eq, nfM_eq, nfNL_eq]
  rename_i m _ _ _
  cases m <;> rfl
def nfG : List GObj → (List GObj → β) → β
  | [], k => k []
  | x :: xs, k => nfO x fun x => nfG xs fun xs => k (x :: xs)
theorem nfG_eq : ∀ (xs : List GObj) (k : List GObj → β), nfG xs k = k xs
  | [], k => rfl
  | x :: xs, k => by simp only [nfG, nfO_eq]; rw [nfG_eq xs]

/-- Does an operation leave the objects as they are? -/
def calm (o : Oper) : Bool := match kindOf o.op with
  | .S | .R => true
  | .I => match o.op with
    | .indexAddr .. => true
    | _ => false
  | _ => false

def bops3 (P : Program) (H : Handler) (E : Ext1) (X : Runner) (ops : Array Oper) : List Oper → List AV → List GObj → M (List AV × List GObj)
  | [], T, G => .ret (T, G)
  | o :: rest, T, G => if wantedA ops T o then (bstep P H E X T G o).bind fun r => nfA r.1 fun v => nfS (aput T o.dst v) fun T' => if calm o then bops3 P H E X ops rest T' r.2 else nfG r.2 fun G' => bops3 P H E X ops rest T' G'
    else nfS (aput T o.dst aundef) fun T' => bops3 P H E X ops rest T' G
theorem bops3_eq {P : Program} {H : Handler} {E : Ext1} {X : Runner} {ops : Array Oper} : ∀ (l : List Oper) (T : List AV) (G : List GObj), bops3 P H E X ops l T G = bops P H E X ops l T G
  | [], T, G => rfl
  | o :: rest, T, G => by
    have ih := bops3_eq (P := P) (H := H) (E := E) (X := X) (ops := ops) rest
    simp only [bops3, bops, nfA_eq, nfS_eq, nfG_eq, ih, ite_self]

def nfR (r : Rec) (k : Rec → β) : β := nfA r.v fun v => nfNL r.rd fun rd => nfG (r.wr.map (·.2)) fun os => nfNL (r.wr.map (·.1)) fun gs => nfG r.app fun app =>
  nfB r.chain fun chain => nfB r.bar fun bar => match r.slot with
    | none => k { v := v, dst := r.dst, rd := rd, wr := gs.zip os, app := app, chain := chain, bar := bar, slot := none }
    | some s => nfN s fun s => k { v := v, dst := r.dst, rd := rd, wr := gs.zip os, app := app, chain := chain, bar := bar, slot := some s }
theorem zip_map : ∀ (w : List (Nat × GObj)), (w.map (·.1)).zip (w.map (·.2)) = w
  | [] => rfl
  | x :: w => by simp [zip_map w]
theorem nfR_eq (r : Rec) (k : Rec → β) : nfR r k = k r := by
  simp only [nfR, nfA_eq, nfNL_eq, nfG_eq, nfB_eq, nfN_eq, zip_map]
  obtain ⟨v, dst, rd, wr, app, chain, bar, slot⟩ := r
  cases slot <;> rfl
def drun3 (P : Program) (H : Handler) (E : Ext1) (ops : Array Oper) : Nat → List Oper → List AV → List GObj → Option (List Rec)
  | _, [], _, _ => some []
  | slot, o :: os, T, G => match dstep P H E ops slot T G o with
    | some r => nfR r fun r => nfS (aput T r.dst r.v) fun T' => nfN (slot + isA o) fun slot' => if calm o then (drun3 P H E ops slot' os T' (r.apply G)).map (r :: ·) else nfG (r.apply G) fun G' => (drun3 P H E ops slot' os T' G').map (r :: ·)
    | none => none
theorem drun3_eq {P : Program} {H : Handler} {E : Ext1} {ops : Array Oper} : ∀ (l : List Oper) (slot : Nat) (T : List AV) (G : List GObj), drun3 P H E ops slot l T G = drun P H E ops slot l T G
  | [], slot, T, G => rfl
  | o :: rest, slot, T, G => by
    have ih := drun3_eq (P := P) (H := H) (E := E) (ops := ops) rest
    simp only [drun3, drun, nfR_eq, nfS_eq, nfN_eq, nfG_eq, ih, ite_self]
    cases dstep P H E ops slot T G o <;> rfl
def nfRs : List Rec → (List Rec → β) → β
  | [], k => k []
  | x :: xs, k => nfR x fun x => nfRs xs fun xs => k (x :: xs)
theorem nfRs_eq : ∀ (xs : List Rec) (k : List Rec → β), nfRs xs k = k xs
  | [], k => rfl
  | x :: xs, k => by simp only [nfRs, nfR_eq]; rw [nfRs_eq xs]
def dregion3 (P : Program) (H : Handler) (E : Ext1) (ops : Array Oper) (T : List AV) (G : List GObj) : Option (List AV × List GObj) :=
  match drun3 P H E ops G.length ops.toList T (G ++ List.replicate (countA ops.toList) .dead) with
  | some rs => nfRs rs fun rs => if (statAll ops && dynOk G.length (G.length + countA ops.toList) (masks ops.toList []) rs 0 rs) = true then
      some (tfold (fun _ => true) 0 rs T, gfold (fun _ => true) 0 rs (G ++ List.replicate (countA ops.toList) .dead))
    else none
  | none => none
theorem dregion3_eq {P : Program} {H : Handler} {E : Ext1} {ops : Array Oper} {T : List AV} {G : List GObj} : dregion3 P H E ops T G = dregion P H E ops T G := by
  unfold dregion3 dregion
  simp only [drun3_eq, nfRs_eq]
  rfl

def nfTG (r : List AV × List GObj) (k : List AV → List GObj → β) : β := nfAL r.1 fun T => nfG r.2 fun G => k T G
theorem nfTG_eq (r : List AV × List GObj) (k : List AV → List GObj → β) : nfTG r k = k r.1 r.2 := by simp only [nfTG, nfAL_eq, nfG_eq]

def exec3 (P : Program) (H : Handler) (E : Ext1) : Nat → Bool → Code → List AV → List GObj → M (Exit × List AV × List GObj)
  | 0, _, _, _, _ => .fail
  | n + 1, top, c, T, G => match c with
    | .skip | .label _ => .ret (.normal, T, G)
    | .region _ ops draw => if draw then (M.of (dregion P H E ops T G)).bind fun r => .ret (.normal, r.1, r.2) else (bops P H E (exec3 P H E n false) ops ops.toList T G).bind fun r => .ret (.normal, r.1, r.2)
    | .seq x y => (exec3 P H E n top x T G).bind fun r => match r.1 with
      | .normal => exec3 P H E n top y r.2.1 r.2.2
      | _ => .ret r
    | .cond c x y => match aeval T c with
      | some (.p (.bool b)) => nfB b fun b => exec3 P H E n top (if b then x else y) T G
      | _ => .fail
    | .block id x => (exec3 P H E n top x T G).bind fun r => match r.1 with
      | .exit id' => if id' = id then .ret (.normal, r.2) else .ret r
      | _ => .ret r
    | .loop x => (exec3 P H E n top x T G).bind fun r => match r.1 with
      | .normal => nfTG r.2 fun T G => exec3 P H E n top (.loop x) T G
      | _ => .ret r
    | .exit id => .ret (.exit id, T, G)
    | .ret => .ret (.ret, T, G)
    | .rangeFunc f ps asg body => if top then match (aeval T f).bind funOf with
        | some (g, caps) => if hasBody P g = true then (acall H g (.yld (G.length + 1) :: caps) (G ++ [.dfr] ++ [.loop .ready none T ps.toList asg body G.length])).bind (endF T (G.length + 1) G.length (exec3 P H E n top))
          else .fail
        | none => .fail
      else .fail
    | _ => .fail
theorem exec3_eq {P : Program} {H : Handler} {E : Ext1} : ∀ (n : Nat) (top : Bool) (c : Code) (T : List AV) (G : List GObj), exec3 P H E n top c T G = exec2 P H E n top c T G
  | 0, _, _, _, _ => rfl
  | n + 1, top, c, T, G => by
    have ih : ∀ top, exec3 P H E n top = exec2 P H E n top := fun top => funext fun c => funext fun T => funext fun G => exec3_eq n top c T G
    cases c <;> simp only [exec3, exec2, bops3_eq, dregion3_eq, nfTG_eq, nfB_eq, ih]
    all_goals first | rfl | skip

def nfV (r : AV × List GObj) (k : AV × List GObj → β) : β := nfA r.1 fun v => nfG r.2 fun G => k (v, G)
theorem nfV_eq (r : AV × List GObj) (k : AV × List GObj → β) : nfV r k = k r := by simp only [nfV, nfA_eq, nfG_eq]
def runFn3 (P : Program) (H : Handler) (E : Ext1) (fuel : Nat) : Handler := fun f args G => nfN f fun f => nfAL args fun args => nfG G fun G =>
  match P.funcs[f]? with
  | some fn => match fn.body with
    | some c => settleM ((exec3 P H E fuel true c (args ++ List.replicate (fn.ntmps - args.length) aundef) G).bind fun r => match r.1 with
      | .normal | .ret => (M.of ((aresults P r.2.1 r.2.2 fn.results.toList).map fun xs => compact G.length (one xs, r.2.2))).bind fun r => nfV r fun r => .ret r
      | _ => .fail)
    | none => .fail
  | none => .fail
theorem bind_ret {α : Type} (m : M α) : (m.bind fun r => .ret r) = m := by
  induction m with
  | ret a => rfl
  | fail => rfl
  | pick n k ih => simp only [M.bind]; congr 1; funext i; exact ih i
theorem runFn3_eq {P : Program} {H : Handler} {E : Ext1} {fuel : Nat} : runFn3 P H E fuel = runFn2 P H E fuel := by
  funext f args G
  simp only [runFn3, runFn2, nfN_eq, nfAL_eq, nfG_eq, nfV_eq, exec3_eq, bind_ret]
  rfl
def callN3 (P : Program) (E : Ext1) (H0 : Handler) (fuel : Nat) : Nat → Handler
  | 0 => H0
  | n + 1 => runFn3 P (callN3 P E H0 fuel n) E fuel
theorem callN3_sound {P : Program} {E : Ext1} {H0 : Handler} (h0 : HOK P H0) (hE : EOK P E) (hN : NoCount P) (hmix : P.follows .mixedOrders = true) (fuel : Nat) : ∀ n, HOK P (callN3 P E H0 fuel n)
  | 0 => h0
  | n + 1 => by
    show HOK P (runFn3 P (callN3 P E H0 fuel n) E fuel)
    rw [runFn3_eq]
    exact runFn2_sound (callN3_sound h0 hE hN hmix fuel n) hE hN hmix fuel
end
end Go.Ks
