/- An abstract evaluator for the model's code, part T: regions whose order is open: one run stands for all. -/
import Derived.Test.YtdlofomblpdiaaaGreatKsS
namespace Go.Ks
noncomputable section

def isA (o : Oper) : Nat := match kindOf o.op with
  | .A => 1
  | _ => 0
def countA : List Oper → Nat
  | [] => 0
  | o :: os => isA o + countA os

def drun (P : Program) (H : Handler) (E : Ext1) (ops : Array Oper) : Nat → List Oper → List AV → List GObj → Option (List Rec)
  | _, [], _, _ => some []
  | slot, o :: os, T, G => match dstep P H E ops slot T G o with
    | some r => (drun P H E ops (slot + isA o) os (aput T r.dst r.v) (r.apply G)).map (r :: ·)
    | none => none

/-! ### Who comes before whom -/
def maskOf (M : List Nat) : List Edge → Nat
  | [] => 0
  | e :: es => if Region.binds .any e = true then (2 ^ e.on ||| M.getD e.on 0) ||| maskOf M es else maskOf M es
def masks : List Oper → List Nat → List Nat
  | [], M => M
  | o :: os, M => masks os (M ++ [maskOf M o.after.toList])
def edgesOk (M : List Nat) : Nat → List Oper → Bool
  | _, [] => true
  | i, o :: os => (o.after.toList.all fun e => !Region.binds .any e || decide (e.on < i)) && (Nat.beq (M.getD i 0) (maskOf M o.after.toList) && edgesOk M (i + 1) os)

theorem maskOf_bit {M : List Nat} {j : Nat} : ∀ {es : List Edge}, (maskOf M es).testBit j = true → ∃ e ∈ es, Region.binds .any e = true ∧ (j = e.on ∨ (M.getD e.on 0).testBit j = true)
  | [], h => by simp [maskOf] at h
  | e :: es, h => by
    simp only [maskOf] at h
    split at h
    · rename_i hb
      rw [Nat.testBit_or, Nat.testBit_or, Nat.testBit_two_pow] at h
      simp only [Bool.or_eq_true, decide_eq_true_eq] at h
      rcases h with (h | h) | h
      · exact ⟨e, by simp, hb, .inl h.symm⟩
      · exact ⟨e, by simp, hb, .inr h⟩
      · obtain ⟨e', h1, h2⟩ := maskOf_bit h
        exact ⟨e', by simp [h1], h2⟩
    · obtain ⟨e', h1, h2⟩ := maskOf_bit h
      exact ⟨e', by simp [h1], h2⟩
theorem edgesOk_spec {M : List Nat} : ∀ {l : List Oper} {i : Nat}, edgesOk M i l = true → ∀ (k : Nat) (o : Oper), l[k]? = some o → (∀ e ∈ o.after, Region.binds .any e = true → e.on < i + k) ∧ M.getD (i + k) 0 = maskOf M o.after.toList
  | [], i, _, k, o, hk => by simp at hk
  | p :: l, i, h, k, o, hk => by
    simp only [edgesOk, Bool.and_eq_true] at h
    obtain ⟨h1, h2, h3⟩ := h
    cases k with
    | zero =>
      simp only [List.getElem?_cons_zero, Option.some.injEq] at hk
      subst hk
      refine ⟨fun e he hb => ?_, by simpa using Nat.eq_of_beq_eq_true h2⟩
      have := List.all_eq_true.1 h1 e (by simpa using he)
      simpa [hb] using this
    | succ k =>
      have := edgesOk_spec h3 k o (by simpa using hk)
      rw [show i + (k + 1) = i + 1 + k by omega]
      exact this

/-! ### Who is apart from whom -/
def Rec.refs (r : Rec) : List Nat := r.v.refs ++ ((r.wr.flatMap fun x => x.2.refs) ++ r.app.flatMap GObj.refs)
/-- r knows nothing of the new object of r'. -/
def avoid (r r' : Rec) : Bool := match r'.slot with
  | none => true
  | some s => !(r.refs.contains s) && !(r.keys.contains s)
def disj (xs ys : List Nat) : Bool := xs.all fun x => !ys.contains x
def Rec.quiet (r : Rec) : Bool := r.wr.isEmpty && r.app.isEmpty
def half (L : Nat) (r r' : Rec) : Bool := (!r.bar || r'.quiet) && (disj r.rd r'.keys && (disj r.keys r'.keys && (r'.app.isEmpty || r.rd.all fun g => decide (g < L))))
def pairOk (ops : Array Oper) (L : Nat) (ordered : Bool) (oi oj : Oper) (ri rj : Rec) : Bool :=
  avoid ri rj && (ordered || (oi.apart ops oj && (!(ri.chain && rj.chain) && (avoid rj ri && (half L ri rj && half L rj ri)))))
def oneOk (n0 L : Nat) (r : Rec) : Bool := (r.chain || (r.app.isEmpty && r.keys.all fun g => decide (g < L))) && match r.slot with
  | none => true
  | some s => decide (n0 ≤ s) && decide (s < L)
def rowOk (ops : Array Oper) (L mask : Nat) (oj : Oper) (rj : Rec) : Nat → List Oper → List Rec → Bool
  | i, oi :: os, ri :: rs => pairOk ops L (mask.testBit i) oi oj ri rj && rowOk ops L mask oj rj (i + 1) os rs
  | _, _, _ => true
def allOk (ops : Array Oper) (n0 L : Nat) (M : List Nat) (l : List Oper) (rs : List Rec) : Nat → List Oper → List Rec → Bool
  | j, oj :: os, rj :: qs => rowOk ops L (M.getD j 0) oj rj 0 (l.take j) (rs.take j) && (oneOk n0 L rj && allOk ops n0 L M l rs (j + 1) os qs)
  | _, _, _ => true

theorem rowOk_spec {ops : Array Oper} {L mask : Nat} {oj : Oper} {rj : Rec} : ∀ {l : List Oper} {rs : List Rec} {i : Nat}, rowOk ops L mask oj rj i l rs = true → ∀ (k : Nat) (o : Oper) (r : Rec), l[k]? = some o → rs[k]? = some r → pairOk ops L (mask.testBit (i + k)) o oj r rj = true
  | [], _, i, _, k, o, r, h, _ => by simp at h
  | _ :: _, [], i, _, k, o, r, _, h => by simp at h
  | p :: l, q :: rs, i, h, k, o, r, h1, h2 => by
    simp only [rowOk, Bool.and_eq_true] at h
    cases k with
    | zero =>
      simp only [List.getElem?_cons_zero, Option.some.injEq] at h1 h2
      subst h1; subst h2
      exact h.1
    | succ k =>
      have := rowOk_spec h.2 k o r (by simpa using h1) (by simpa using h2)
      rw [show i + (k + 1) = i + 1 + k by omega]
      exact this
theorem allOk_spec {ops : Array Oper} {n0 L : Nat} {M : List Nat} {l : List Oper} {rs : List Rec} : ∀ {l' : List Oper} {rs' : List Rec} {j : Nat}, allOk ops n0 L M l rs j l' rs' = true → ∀ (k : Nat) (o : Oper) (r : Rec), l'[k]? = some o → rs'[k]? = some r →
    oneOk n0 L r = true ∧ ∀ (i : Nat) (oi : Oper) (ri : Rec), i < j + k → l[i]? = some oi → rs[i]? = some ri → pairOk ops L ((M.getD (j + k) 0).testBit i) oi o ri r = true
  | [], _, j, _, k, o, r, h, _ => by simp at h
  | _ :: _, [], j, _, k, o, r, _, h => by simp at h
  | p :: l', q :: rs', j, h, k, o, r, h1, h2 => by
    simp only [allOk, Bool.and_eq_true] at h
    cases k with
    | zero =>
      simp only [List.getElem?_cons_zero, Option.some.injEq] at h1 h2
      subst h1; subst h2
      refine ⟨h.2.1, fun i oi ri hi hoi hri => ?_⟩
      rw [Nat.add_zero] at hi
      have := rowOk_spec h.1 i oi ri (by rw [List.getElem?_take, if_pos hi]; exact hoi) (by rw [List.getElem?_take, if_pos hi]; exact hri)
      simpa using this
    | succ k =>
      have := allOk_spec h.2.2 k o r (by simpa using h1) (by simpa using h2)
      rw [show j + (k + 1) = j + 1 + k by omega]
      exact this

structure Apart (ops : Array Oper) (L : Nat) (oi oj : Oper) (ri rj : Rec) : Prop where
  look : ∀ d, oj.dst = some d → d ∉ oi.looksAt ops
  dst : ∀ d, oi.dst = some d → oj.dst ≠ some d
  chain : ri.chain = true → rj.chain = false
  bar : ri.bar = true → rj.wr = [] ∧ rj.app = []
  rd : ∀ g ∈ ri.rd, g ∉ rj.keys
  keys : ∀ g ∈ ri.keys, g ∉ rj.keys
  low : rj.app = [] ∨ ∀ g ∈ ri.rd, g < L
  av : avoid rj ri = true

theorem disj_spec {xs ys : List Nat} (h : disj xs ys = true) : ∀ g ∈ xs, g ∉ ys := fun g hg hm => by
  have := List.all_eq_true.1 h g hg
  simp [hm] at this
theorem quiet_spec {r : Rec} (h : r.quiet = true) : r.wr = [] ∧ r.app = [] := by
  simpa [Rec.quiet] using h
theorem half_spec {ops : Array Oper} {L : Nat} {oi oj : Oper} {ri rj : Rec} (h : half L ri rj = true) (h1 : ∀ d, oj.dst = some d → d ∉ oi.looksAt ops) (h2 : ∀ d, oi.dst = some d → oj.dst ≠ some d) (hc : ri.chain = true → rj.chain = false) (hav : avoid rj ri = true) : Apart ops L oi oj ri rj := by
  simp only [half, Bool.and_eq_true, Bool.or_eq_true, Bool.not_eq_true'] at h
  obtain ⟨k1, k2, k3, k4⟩ := h
  refine ⟨h1, h2, hc, fun hb => quiet_spec (k1.resolve_left (by simp [hb])), disj_spec k2, disj_spec k3, ?_, hav⟩
  rcases k4 with k4 | k4
  · left; simpa using k4
  · right
    intro g hg
    have := List.all_eq_true.1 k4 g hg
    simpa using this
theorem pairOk_spec {ops : Array Oper} {L : Nat} {oi oj : Oper} {ri rj : Rec} (h : pairOk ops L false oi oj ri rj = true) : Apart ops L oi oj ri rj ∧ Apart ops L oj oi rj ri := by
  simp only [pairOk, Bool.and_eq_true, Bool.false_or, Bool.not_eq_true', Bool.and_eq_false_iff] at h
  obtain ⟨a1, a2, a3, a4, a5, a6⟩ := h
  obtain ⟨s1, s2, s3⟩ := Oper.apart_spec a2
  refine ⟨half_spec a5 s3 s2 (fun hc => by simpa [hc] using a3) a4, half_spec a6 s1 (fun d hd he => s2 d he hd) (fun hc => by simpa [hc] using a3) a1⟩
theorem pairOk_avoid {ops : Array Oper} {L : Nat} {b : Bool} {oi oj : Oper} {ri rj : Rec} (h : pairOk ops L b oi oj ri rj = true) : avoid ri rj = true := by
  simp only [pairOk, Bool.and_eq_true] at h
  exact h.1
theorem avoid_spec {r r' : Rec} {s : Nat} (h : avoid r r' = true) (hs : r'.slot = some s) : s ∉ r.keys ∧ s ∉ r.v.refs ∧ (∀ x ∈ r.wr, s ∉ x.2.refs) ∧ ∀ o ∈ r.app, s ∉ o.refs := by
  simp only [avoid, hs, Bool.and_eq_true, Bool.not_eq_true', List.contains_eq_mem, decide_eq_false_iff_not] at h
  obtain ⟨h1, h2⟩ := h
  simp only [Rec.refs, List.mem_append, List.mem_flatMap, not_or] at h1
  obtain ⟨k1, k2, k3⟩ := h1
  exact ⟨h2, k1, fun x hx hm => k2 ⟨x, hx, hm⟩, fun o ho hm => k3 ⟨o, ho, hm⟩⟩
theorem oneOk_spec {n0 L : Nat} {r : Rec} (h : oneOk n0 L r = true) : (r.chain = false → r.app = [] ∧ ∀ g ∈ r.keys, g < L) ∧ ∀ s, r.slot = some s → n0 ≤ s ∧ s < L := by
  simp only [oneOk, Bool.and_eq_true, Bool.or_eq_true] at h
  refine ⟨fun hc => ?_, fun s hs => ?_⟩
  · obtain ⟨h1, h2⟩ := h.1.resolve_left (by simp [hc])
    refine ⟨by simpa using h1, fun g hg => ?_⟩
    have := List.all_eq_true.1 h2 g hg
    simpa using this
  · have := h.2
    rw [hs] at this
    simpa using this

/-! ### The lexical run -/
theorem gfold_shift {S : Nat → Bool} : ∀ (rs : List Rec) (i : Nat) (G : List GObj), gfold S (i + 1) rs G = gfold (fun j => S (j + 1)) i rs G
  | [], _, _ => rfl
  | r :: rs, i, G => by simp only [gfold]; exact gfold_shift rs _ _
theorem tfold_shift {S : Nat → Bool} : ∀ (rs : List Rec) (i : Nat) (T : List AV), tfold S (i + 1) rs T = tfold (fun j => S (j + 1)) i rs T
  | [], _, _ => rfl
  | r :: rs, i, T => by simp only [tfold]; exact tfold_shift rs _ _
theorem gfold_none {S : Nat → Bool} (h : ∀ j, S j = false) : ∀ (rs : List Rec) (i : Nat) (G : List GObj), gfold S i rs G = G
  | [], _, _ => rfl
  | r :: rs, i, G => by simp only [gfold, h i, Bool.false_eq_true, if_false]; exact gfold_none h rs _ _
theorem tfold_none {S : Nat → Bool} (h : ∀ j, S j = false) : ∀ (rs : List Rec) (i : Nat) (T : List AV), tfold S i rs T = T
  | [], _, _ => rfl
  | r :: rs, i, T => by simp only [tfold, h i, Bool.false_eq_true, if_false]; exact tfold_none h rs _ _
theorem dstep_dst {P : Program} {H : Handler} {E : Ext1} {ops : Array Oper} {slot : Nat} {T : List AV} {G : List GObj} {o : Oper} {r : Rec} (h : dstep P H E ops slot T G o = some r) : r.dst = o.dst := by
  unfold dstep at h
  split at h
  · split at h
    all_goals try (simp only [Option.map_eq_some_iff] at h; obtain ⟨_, _, rfl⟩ := h; rfl)
    · split at h
      · split at h
        · cases h; rfl
        · simp at h
      · simp at h
    · split at h
      · unfold dcall at h
        split at h
        · split at h
          · split at h
            · split at h
              · simp only [Option.map_eq_some_iff] at h; obtain ⟨_, _, rfl⟩ := h; rfl
              · simp at h
            · simp at h
          · split at h
            · simp only [Option.map_eq_some_iff] at h; obtain ⟨_, _, rfl⟩ := h; rfl
            · simp at h
        · simp at h
      · simp at h
    · simp at h
  · cases h; rfl

theorem drun_spec {P : Program} {H : Handler} {E : Ext1} {ops : Array Oper} : ∀ {l : List Oper} {slot : Nat} {T : List AV} {G : List GObj} {rs : List Rec}, drun P H E ops slot l T G = some rs →
    rs.length = l.length ∧ ∀ (i : Nat) (o : Oper), l[i]? = some o → ∃ r slot', rs[i]? = some r ∧ dstep P H E ops slot' (tfold (fun j => decide (j < i)) 0 rs T) (gfold (fun j => decide (j < i)) 0 rs G) o = some r
  | [], slot, T, G, rs, h => by
    cases h
    exact ⟨rfl, fun i o hi => by simp at hi⟩
  | p :: l, slot, T, G, rs, h => by
    simp only [drun] at h
    split at h
    · rename_i r hr
      simp only [Option.map_eq_some_iff] at h
      obtain ⟨qs, hqs, rfl⟩ := h
      obtain ⟨h1, h2⟩ := drun_spec hqs
      refine ⟨by simp [h1], fun i o hi => ?_⟩
      cases i with
      | zero =>
        simp only [List.getElem?_cons_zero, Option.some.injEq] at hi
        subst hi
        refine ⟨r, slot, by simp, ?_⟩
        rw [tfold_none (by simp), gfold_none (by simp)]
        exact hr
      | succ i =>
        obtain ⟨q, slot', k1, k2⟩ := h2 i o (by simpa using hi)
        refine ⟨q, slot', by simpa using k1, ?_⟩
        simp only [tfold, gfold, show decide (0 < i + 1) = true by simp, if_true]
        rw [tfold_shift, gfold_shift]
        simpa using k2
    · simp at h

/-! ### The checks, in two: what hangs on the text alone; what hangs on the run -/
def hot (r : Rec) : Bool := r.chain || (r.bar || (!r.wr.isEmpty || (!r.app.isEmpty || r.slot.isSome)))
def statRow (ops : Array Oper) (mask : Nat) (oj : Oper) : Nat → List Oper → Bool
  | _, [] => true
  | i, oi :: os => (mask.testBit i || oi.apart ops oj) && statRow ops mask oj (i + 1) os
def statOk (ops : Array Oper) (M : List Nat) (l : List Oper) : Nat → List Oper → Bool
  | _, [] => true
  | j, oj :: os => statRow ops (M.getD j 0) oj 0 (l.take j) && statOk ops M l (j + 1) os
def statAll (ops : Array Oper) : Bool := edgesOk (masks ops.toList []) 0 ops.toList && statOk ops (masks ops.toList []) ops.toList 0 ops.toList
def dpair (L : Nat) (ordered : Bool) (ri rj : Rec) : Bool := avoid ri rj && (ordered || (!(ri.chain && rj.chain) && (avoid rj ri && (half L ri rj && half L rj ri))))
def dynRow (L mask : Nat) (rj : Rec) (hj : Bool) : Nat → List Rec → Bool
  | _, [] => true
  | i, ri :: rs => (if (hj || hot ri) = true then dpair L (mask.testBit i) ri rj else true) && dynRow L mask rj hj (i + 1) rs
def dynOk (n0 L : Nat) (M : List Nat) (rs : List Rec) : Nat → List Rec → Bool
  | _, [] => true
  | j, rj :: qs => dynRow L (M.getD j 0) rj (hot rj) 0 (rs.take j) && (oneOk n0 L rj && dynOk n0 L M rs (j + 1) qs)

theorem cold {r : Rec} (h : hot r = false) : r.chain = false ∧ r.bar = false ∧ r.wr = [] ∧ r.app = [] ∧ r.slot = none := by
  simp only [hot, Bool.or_eq_false_iff, Bool.not_eq_false', List.isEmpty_iff, Option.isSome_eq_false_iff, Option.isNone_iff_eq_none] at h
  exact ⟨h.1, h.2.1, h.2.2.1, h.2.2.2.1, h.2.2.2.2⟩
theorem pair_of {ops : Array Oper} {L : Nat} {b : Bool} {oi oj : Oper} {ri rj : Rec} (h1 : (b || oi.apart ops oj) = true) (h2 : (if (hot rj || hot ri) = true then dpair L b ri rj else true) = true) : pairOk ops L b oi oj ri rj = true := by
  unfold pairOk
  split at h2
  · unfold dpair at h2
    cases b with
    | true => simpa using h2
    | false =>
      simp only [Bool.false_or, Bool.and_eq_true] at h1 h2 ⊢
      exact ⟨h2.1, h1, h2.2⟩
  · rename_i hh
    simp only [Bool.or_eq_true, not_or, Bool.not_eq_true] at hh
    obtain ⟨c1, b1, w1, a1, s1⟩ := cold hh.1
    obtain ⟨c2, b2, w2, a2, s2⟩ := cold hh.2
    cases b with
    | true => simp [avoid, s1]
    | false =>
      simp only [Bool.false_or] at h1
      simp [avoid, s1, s2, c1, h1, half, b1, b2, Rec.keys, w1, w2, a1, a2, disj]
theorem row_of {ops : Array Oper} {L mask : Nat} {oj : Oper} {rj : Rec} : ∀ {l : List Oper} {rs : List Rec} {i : Nat}, statRow ops mask oj i l = true → dynRow L mask rj (hot rj) i rs = true → rowOk ops L mask oj rj i l rs = true
  | [], _, _, _, _ => by simp [rowOk]
  | _ :: _, [], _, _, _ => by simp [rowOk]
  | o :: l, r :: rs, i, h1, h2 => by
    simp only [statRow, dynRow, Bool.and_eq_true] at h1 h2
    simp only [rowOk, Bool.and_eq_true]
    exact ⟨pair_of h1.1 h2.1, row_of h1.2 h2.2⟩
theorem all_of {ops : Array Oper} {n0 L : Nat} {M : List Nat} {l : List Oper} {rs : List Rec} : ∀ {l' : List Oper} {rs' : List Rec} {j : Nat}, statOk ops M l j l' = true → dynOk n0 L M rs j rs' = true → allOk ops n0 L M l rs j l' rs' = true
  | [], _, _, _, _ => by simp [allOk]
  | _ :: _, [], _, _, _ => by simp [allOk]
  | o :: l', r :: rs', j, h1, h2 => by
    simp only [statOk, dynOk, Bool.and_eq_true] at h1 h2
    simp only [allOk, Bool.and_eq_true]
    exact ⟨row_of h1.1 h2.1, h2.2.1, all_of h1.2 h2.2.2⟩

def dregion (P : Program) (H : Handler) (E : Ext1) (ops : Array Oper) (T : List AV) (G : List GObj) : Option (List AV × List GObj) :=
  match drun P H E ops G.length ops.toList T (G ++ List.replicate (countA ops.toList) .dead) with
  | some rs => if (statAll ops && dynOk G.length (G.length + countA ops.toList) (masks ops.toList []) rs 0 rs) = true then
      some (tfold (fun _ => true) 0 rs T, gfold (fun _ => true) 0 rs (G ++ List.replicate (countA ops.toList) .dead))
    else none
  | none => none
end
end Go.Ks
