/- An abstract evaluator for the model's code, part O: what one operation hangs on, and what it turns (for regions whose order is open). -/
import Derived.Test.YtdlofomblpdiaaaGreatKsN
namespace Go.Ks
noncomputable section

def orefs (T : List AV) : List Operand → List Nat
  | [] => []
  | x :: xs => (match aeval T x with | some y => y.refs | none => []) ++ orefs T xs
theorem orefs_mem {T : List AV} : ∀ {xs : List Operand} {x : Operand} {y : AV}, x ∈ xs → aeval T x = some y → ∀ g ∈ y.refs, g ∈ orefs T xs
  | [], x, y, h, _, _, _ => by simp at h
  | z :: zs, x, y, h, hy, g, hg => by
    simp only [orefs, List.mem_append]
    rcases List.mem_cons.1 h with rfl | h
    · left; rw [hy]; exact hg
    · exact .inr (orefs_mem h hy g hg)

/-! ### What an operation hangs on -/
theorem aevals_congr {T T2 : List AV} : ∀ {xs : List Operand}, (∀ x ∈ xs, aeval T x = aeval T2 x) → aevals T xs = aevals T2 xs
  | [], _ => rfl
  | x :: xs, h => by
    simp only [aevals]
    rw [h x (by simp), aevals_congr fun y hy => h y (by simp [hy])]
theorem aparts_congr {T T2 : List AV} : ∀ {xs : List (Nat × Operand)}, (∀ x ∈ xs.map (·.2), aeval T x = aeval T2 x) → aparts T xs = aparts T2 xs
  | [], _ => rfl
  | x :: xs, h => by
    simp only [aparts]
    rw [h x.2 (by simp), aparts_congr fun y hy => h y (by simp only [List.map_cons, List.mem_cons]; exact .inr hy)]
theorem aevalO_congr {T T2 : List AV} {x : Option Operand} (h : ∀ y ∈ x.toList, aeval T y = aeval T2 y) : aevalO T x = aevalO T2 x := by
  cases x with
  | none => rfl
  | some y => simp only [aevalO]; rw [h y (by simp)]
theorem orefs_congr {T T2 : List AV} : ∀ {xs : List Operand}, (∀ x ∈ xs, aeval T x = aeval T2 x) → orefs T xs = orefs T2 xs
  | [], _ => rfl
  | x :: xs, h => by
    simp only [orefs]
    rw [h x (by simp), orefs_congr fun y hy => h y (by simp [hy])]

theorem aop_congr {P : Program} {T T2 : List AV} {G : List GObj} {o : Oper} (h : ∀ x ∈ o.op.operands.toList, aeval T x = aeval T2 x) : aop P T G o = aop P T2 G o := by
  unfold aop
  cases hop : o.op <;> simp only [hop, Op.operands] at h ⊢
  case move x => rw [h x (by simp)]
  case assign x => rw [h x (by simp)]
  case pick c a b => rw [h c (by simp), h a (by simp), h b (by simp)]
  case box t x => rw [h x (by simp)]
  case build t ps => rw [aparts_congr (T := T) (T2 := T2) (by simpa using h)]
  case buildSlice t n ps => rw [aparts_congr (T := T) (T2 := T2) (by simpa using h)]
  case insert t m k v => rw [h m (by simp), h k (by simp), h v (by simp)]
  case load t x => rw [h x (by simp)]
  case store t x v => rw [h x (by simp), h v (by simp)]
  case nilCheck x => rw [h x (by simp)]
  case binOp op t x y yt => rw [h x (by simp), h y (by simp)]
  case unOp op t x => rw [h x (by simp)]
  case convert s d x => rw [h x (by simp)]
  case makeInterface t x => rw [h x (by simp)]
  case makeFunc fn first caps =>
    cases fn <;> simp only []
    rw [aevals_congr (T := T) (T2 := T2) (fun x hx => h x (by simp; exact .inr (by simpa using hx)))]
  case makeMap t r => cases r <;> rfl
  case makeSlice t l c => rw [h l (by simp), h c (by simp)]
  case slice t x lo hi mx =>
    cases mx with
    | some m => rfl
    | none =>
      simp only
      rw [h x (by simp), aevalO_congr (T := T) (T2 := T2) (x := lo) (fun y hy => h y (by simp at hy ⊢; simp [hy])), aevalO_congr (T := T) (T2 := T2) (x := hi) (fun y hy => h y (by simp at hy ⊢; simp [hy]))]
  case fieldAddr s x f => rw [h x (by simp)]
  case field t x f => rw [h x (by simp)]
  case indexAddr t x i => rw [h x (by simp), h i (by simp)]
  case index t x i => rw [h x (by simp), h i (by simp)]
  case lookup t x k ok => rw [h x (by simp), h k (by simp)]
  case mapUpdate t m k v => rw [h m (by simp), h k (by simp), h v (by simp)]
  case typeAssert x xt t ok => rw [h x (by simp)]
  case extract x i => rw [h x (by simp)]
  case call c =>
    obtain ⟨cal, args, ats⟩ := c
    cases cal with
    | builtin b =>
      simp only
      rw [aevals_congr (T := T) (T2 := T2) (fun x hx => h x (by simp [Call.operands]; simpa using hx))]
    | value f => rfl
    | invoke r nm => rfl

theorem target_congr {P : Program} {T T2 : List AV} {c : Call} (h : ∀ x ∈ c.operands.toList, aeval T x = aeval T2 x) : target P T c = target P T2 c := by
  unfold target
  have ha : aevals T c.args.toList = aevals T2 c.args.toList := aevals_congr fun x hx => h x (by simp only [Call.operands, Array.toList_append, List.mem_append]; exact .inr hx)
  rw [ha]
  cases hc : c.callee with
  | builtin b => rfl
  | value f =>
    simp only
    rw [h f (by simp [Call.operands, hc])]
  | invoke r nm =>
    simp only
    rw [h r (by simp [Call.operands, hc])]

/-! ### Kinds -/
/-- S: its operands alone; R: what some objects hold; I: some rows' lengths; A: makes one new object, out of its operands alone; B: turns objects; C: a call of a function. -/
inductive Kind where
  | S | R | I | A | B | C | X
  deriving DecidableEq

def kindOf : Op → Kind
  | .move _ | .assign _ | .pick .. | .binOp .. | .unOp .. | .extract .. | .field .. | .fieldAddr .. | .makeFunc .. | .build .. | .makeInterface .. | .typeAssert .. | .index .. | .nilCheck _ => .S
  | .load .. | .lookup .. | .convert .. => .R
  | .indexAddr .. | .slice .. => .I
  | .alloc _ | .buildSlice .. | .makeSlice .. => .A
  | .store .. | .box .. | .mapUpdate .. | .insert .. | .makeMap .. => .B
  | .call { callee := .builtin .len, .. } => .R
  | .call { callee := .builtin .min, .. } | .call { callee := .builtin .max, .. } => .S
  | .call { callee := .builtin .append, .. } | .call { callee := .builtin .delete, .. } | .call { callee := .builtin .copy, .. } | .call { callee := .builtin .clear, .. } => .B
  | .call { callee := .builtin _, .. } => .X
  | .call _ => .C
  | _ => .X

theorem map_pair {x : Option AV} {G : List GObj} {v : AV} {G1 : List GObj} (h : x.map (·, G) = some (v, G1)) : x = some v ∧ G1 = G := by
  cases x with
  | none => simp at h
  | some y => simp at h; exact ⟨by rw [h.1], h.2.symm⟩

theorem aop_S {P : Program} {T : List AV} {o : Oper} {v : AV} {G1 : List GObj} (hk : kindOf o.op = .S) (h : aop P T [] o = some (v, G1)) (G : List GObj) : aop P T G o = some (v, G) := by
  unfold aop at h ⊢
  cases hop : o.op <;> simp only [hop, kindOf] at hk h ⊢ <;> try (cases hk; done)
  case call c =>
    obtain ⟨cal, args, ats⟩ := c
    cases cal with
    | builtin b =>
      cases b <;> simp only at hk h ⊢ <;> try (cases hk; done)
      all_goals
        simp only [Option.bind_eq_some_iff] at h ⊢
        obtain ⟨xs, hxs, h⟩ := h
        refine ⟨xs, hxs, ?_⟩
        unfold aBuiltin at h ⊢
        rcases xs with _ | ⟨x, _ | ⟨y, _ | ⟨z, r⟩⟩⟩ <;> simp only [reduceCtorEq] at h ⊢
        cases hx : x.conc <;> cases hy : y.conc <;> simp only [hx, hy, reduceCtorEq, Option.map_eq_some_iff, Prod.mk.injEq] at h ⊢
        obtain ⟨q, hq, rfl, _⟩ := h
        exact ⟨q, hq, rfl, trivial⟩
    | value f => cases hk
    | invoke r nm => cases hk
  case makeFunc fn first caps =>
    cases fn <;> simp only [reduceCtorEq] at h ⊢
    split at h
    · rename_i h0
      rw [if_pos h0]
      cases hc : aevals T caps.toList <;> simp_all
    · simp at h
  case pick c a b =>
    split at h
    · simp_all
    · simp at h
  case nilCheck x =>
    split at h <;> simp_all
  case binOp op t x y yt =>
    split at h
    · obtain ⟨h1, _⟩ := map_pair h
      simp_all
    · simp at h
  case unOp op t x =>
    split at h
    · rename_i u hu
      cases hq : (pureIn P (Op.unary op u)).bind absV <;> simp_all
    · simp at h
  case makeInterface t x =>
    split at h
    · rename_i hi
      cases hq : aeval T x <;> simp_all
    · simp at h
  case index t x i =>
    split at h
    · obtain ⟨h1, _⟩ := map_pair h
      simp_all
    · simp at h
  all_goals
    obtain ⟨h1, _⟩ := map_pair h
    rw [h1]; rfl

theorem rowAt_of {G G2 : List GObj} {g : Nat} (h : G[g]? = G2[g]?) : rowAt G g = rowAt G2 g := by unfold rowAt; rw [h]
theorem aLoad_at {P : Program} {G G2 : List GObj} {t : TypeId} {x : AV} (hg : ∀ g ∈ x.refs, G[g]? = G2[g]?) : aLoad P G t x = aLoad P G2 t x := by
  have : cellsAt G x = cellsAt G2 x := by
    have hr : ∀ g ∈ x.refs, rowAt G g = rowAt G2 g := fun g hg' => rowAt_of (hg g hg')
    unfold cellsAt
    cases x <;> (try simp only [AV.refs, List.mem_singleton, forall_eq] at hg hr) <;> grind
  unfold aLoad
  rw [this]
theorem rowOf_at {G G2 : List GObj} {n : Nat} {x : AV} (hg : ∀ g ∈ x.refs, G[g]? = G2[g]?) : rowOf G n x = rowOf G2 n x := by
  have hr : ∀ g ∈ x.refs, rowAt G g = rowAt G2 g := fun g hg' => rowAt_of (hg g hg')
  unfold rowOf
  cases x <;> (try simp only [AV.refs, List.mem_singleton, forall_eq] at hg hr) <;> grind
theorem aConv_at {P : Program} {G G2 : List GObj} {s d : TypeId} {x : AV} (hg : ∀ g ∈ x.refs, G[g]? = G2[g]?) : aConv P G s d x = aConv P G2 s d x := by
  unfold aConv
  rw [rowOf_at hg]
theorem aLen_at {P : Program} {G G2 : List GObj} {t : TypeId} {x : AV} (hg : ∀ g ∈ x.refs, G[g]? = G2[g]?) : aLen P G t x = aLen P G2 t x := by
  unfold aLen
  cases x <;> (try simp only [AV.refs, List.mem_singleton, forall_eq] at hg) <;> grind
theorem aLookup_at {P : Program} {G G2 : List GObj} {t : TypeId} {x k : AV} {ok : Bool} (hg : ∀ g ∈ x.refs, G[g]? = G2[g]?) : aLookup P G t x k ok = aLookup P G2 t x k ok := by
  unfold aLookup
  cases x with
  | mp g =>
    simp only [AV.refs, List.mem_singleton, forall_eq] at hg
    simp only [hg]
  | p y =>
    cases y <;> rfl
  | _ => rfl

/-- A row's shape. -/
def shapeOf (G : List GObj) (g : Nat) : Option (Nat × Nat) := match rowAt G g with
  | some (esz, xs) => some (esz, xs.length)
  | _ => none
theorem shapeOf_of {G G2 : List GObj} {g : Nat} (h : G[g]? = G2[g]?) : shapeOf G g = shapeOf G2 g := by unfold shapeOf; rw [rowAt_of h]

theorem aIndexAddr_at {P : Program} {G G2 : List GObj} {t : TypeId} {x i : AV} (hg : ∀ g ∈ x.refs, shapeOf G g = shapeOf G2 g) : aIndexAddr P G t x i = aIndexAddr P G2 t x i := by
  unfold aIndexAddr
  unfold shapeOf at hg
  cases x <;> (try simp only [AV.refs, List.mem_singleton, forall_eq] at hg) <;> grind
theorem aSlice_at {P : Program} {G G2 : List GObj} {t : TypeId} {x : AV} {lo hi : Option AV} (hg : ∀ g ∈ x.refs, shapeOf G g = shapeOf G2 g) : aSlice P G t x lo hi = aSlice P G2 t x lo hi := by
  unfold aSlice
  unfold shapeOf at hg
  cases x <;> (try simp only [AV.refs, List.mem_singleton, forall_eq] at hg) <;> grind

theorem aop_R {P : Program} {T : List AV} {o : Oper} {v : AV} {G G1 : List GObj} (hk : kindOf o.op = .R) (h : aop P T G o = some (v, G1)) : G1 = G ∧ ∀ G2 : List GObj, (∀ g ∈ orefs T o.op.operands.toList, G[g]? = G2[g]?) → aop P T G2 o = some (v, G2) := by
  unfold aop at h ⊢
  cases hop : o.op <;> simp only [hop, kindOf] at hk h ⊢ <;> try (cases hk; done)
  case load t x =>
    obtain ⟨h1, rfl⟩ := map_pair h
    refine ⟨rfl, fun G2 hg => ?_⟩
    cases hx : aeval T x with
    | none => simp [hx] at h1
    | some y =>
      simp only [hx, Option.bind_some] at h1 ⊢
      rw [← aLoad_at (fun g hg' => hg g (orefs_mem (x := x) (by simp [Op.operands]) hx g hg')), h1]; rfl
  case convert s d x =>
    obtain ⟨h1, rfl⟩ := map_pair h
    refine ⟨rfl, fun G2 hg => ?_⟩
    cases hx : aeval T x with
    | none => simp [hx] at h1
    | some y =>
      simp only [hx, Option.bind_some] at h1 ⊢
      rw [← aConv_at (fun g hg' => hg g (orefs_mem (x := x) (by simp [Op.operands]) hx g hg')), h1]; rfl
  case lookup t x k ok =>
    cases hx : aeval T x with
    | none => simp [hx] at h
    | some y =>
      cases hk : aeval T k with
      | none => simp [hx, hk] at h
      | some z =>
        simp only [hx, hk] at h ⊢
        obtain ⟨h1, rfl⟩ := map_pair h
        refine ⟨rfl, fun G2 hg => ?_⟩
        rw [← aLookup_at (fun g hg' => hg g (orefs_mem (x := x) (by simp [Op.operands]) hx g hg')), h1]; rfl
  case call c =>
    obtain ⟨cal, args, ats⟩ := c
    cases cal with
    | builtin b =>
      cases b <;> simp only at hk h ⊢ <;> try (cases hk; done)
      simp only [Option.bind_eq_some_iff] at h ⊢
      obtain ⟨xs, hxs, h⟩ := h
      unfold aBuiltin at h ⊢
      rcases hts : ats.toList with _ | ⟨t, ts⟩ <;> rcases xs with _ | ⟨x, _ | ⟨y, r⟩⟩ <;> simp only [hts, reduceCtorEq] at h
      obtain ⟨h1, rfl⟩ := map_pair h
      refine ⟨rfl, fun G2 hg => ⟨_, hxs, ?_⟩⟩
      simp only []
      have hx : ∃ z, z ∈ args.toList ∧ aeval T z = some x := by
        rcases hargs : args.toList with _ | ⟨z, zs⟩ <;> rw [hargs] at hxs <;> simp only [aevals] at hxs
        · cases hxs
        · cases hz : aeval T z with
          | none => simp [hz] at hxs
          | some q =>
            cases hzs : aevals T zs with
            | none => simp [hz, hzs] at hxs
            | some qs =>
              simp only [hz, hzs, Option.some.injEq, List.cons.injEq] at hxs
              exact ⟨z, by simp, by rw [hz, hxs.1]⟩
      obtain ⟨z, hz, hzx⟩ := hx
      rw [← aLen_at (fun g hg' => hg g (orefs_mem (x := z) (by simp [Op.operands, Call.operands]; simpa using hz) hzx g hg')), h1]; rfl
    | value f => cases hk
    | invoke r nm => cases hk

theorem aop_I {P : Program} {T : List AV} {o : Oper} {v : AV} {G G1 : List GObj} (hk : kindOf o.op = .I) (h : aop P T G o = some (v, G1)) : G1 = G ∧ ∀ G2 : List GObj, (∀ g ∈ orefs T o.op.operands.toList, shapeOf G g = shapeOf G2 g) → aop P T G2 o = some (v, G2) := by
  unfold aop at h ⊢
  cases hop : o.op <;> simp only [hop, kindOf] at hk h ⊢ <;> try (cases hk; done)
  case indexAddr t x i =>
    cases hx : aeval T x with
    | none => simp [hx] at h
    | some y =>
      cases hi : aeval T i with
      | none => simp [hx, hi] at h
      | some z =>
        simp only [hx, hi] at h ⊢
        obtain ⟨h1, rfl⟩ := map_pair h
        refine ⟨rfl, fun G2 hg => ?_⟩
        rw [← aIndexAddr_at (fun g hg' => hg g (orefs_mem (x := x) (by simp [Op.operands]) hx g hg')), h1]; rfl
  case slice t x lo hi mx =>
    cases mx with
    | some m => simp at h
    | none =>
      simp only at h ⊢
      cases hx : aeval T x with
      | none => simp [hx] at h
      | some y =>
        cases hlo : aevalO T lo with
        | none => simp [hx, hlo] at h
        | some lo' =>
          cases hhi : aevalO T hi with
          | none => simp [hx, hlo, hhi] at h
          | some hi' =>
            simp only [hx, hlo, hhi] at h ⊢
            obtain ⟨h1, rfl⟩ := map_pair h
            refine ⟨rfl, fun G2 hg => ?_⟩
            rw [← aSlice_at (fun g hg' => hg g (orefs_mem (x := x) (by simp [Op.operands]) hx g hg')), h1]; rfl
  all_goals (rename_i c; obtain ⟨cal, args, ats⟩ := c; cases cal with
    | builtin b => cases b <;> cases hk
    | value f => cases hk
    | invoke r nm => cases hk)
end
end Go.Ks
