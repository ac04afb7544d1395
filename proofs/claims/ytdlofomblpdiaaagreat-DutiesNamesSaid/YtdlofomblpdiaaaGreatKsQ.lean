/- An abstract evaluator for the model's code, part Q: what a set of a region's operations has done, whatever their order. -/
import Derived.Test.YtdlofomblpdiaaaGreatKsP
namespace Go.Ks
noncomputable section

/-- What one operation of a region does. -/
structure Rec where
  v : AV
  dst : Option Tmp := none
  rd : List Nat := []
  wr : List (Nat × GObj) := []
  app : List GObj := []
  chain : Bool := false
  bar : Bool := false
  slot : Option Nat := none
  deriving Inhabited

def setAll : List (Nat × GObj) → List GObj → List GObj
  | [], G => G
  | (g, o) :: r, G => setAll r (G.set g o)
def Rec.keys (r : Rec) : List Nat := r.wr.map (·.1)
def Rec.apply (r : Rec) (G : List GObj) : List GObj := setAll r.wr G ++ r.app

theorem setAll_length : ∀ (w : List (Nat × GObj)) (G : List GObj), (setAll w G).length = G.length
  | [], _ => rfl
  | (g, o) :: r, G => by rw [setAll, setAll_length r]; simp
theorem setAll_out : ∀ (w : List (Nat × GObj)) (G : List GObj) (g : Nat), g ∉ w.map (·.1) → (setAll w G)[g]? = G[g]?
  | [], _, _, _ => rfl
  | (k, o) :: r, G, g, h => by
    simp only [List.map_cons, List.mem_cons, not_or] at h
    rw [setAll, setAll_out r _ g h.2, List.getElem?_set_ne (Ne.symm h.1)]
theorem set_get_congr {G1 G2 : List GObj} {g k : Nat} {o : GObj} (h : G1[g]? = G2[g]?) : (G1.set k o)[g]? = (G2.set k o)[g]? := by
  by_cases e : k = g
  · subst e
    have hl : (k < G1.length) ↔ (k < G2.length) := by
      rw [← Nat.not_le, ← Nat.not_le, ← List.getElem?_eq_none_iff, ← List.getElem?_eq_none_iff, h]
    simp only [List.getElem?_set, if_true]
    simp only [hl]
  · rw [List.getElem?_set_ne e, List.getElem?_set_ne e, h]
theorem setAll_congr : ∀ (w : List (Nat × GObj)) {G1 G2 : List GObj} {g : Nat}, G1[g]? = G2[g]? → (setAll w G1)[g]? = (setAll w G2)[g]?
  | [], _, _, _, h => h
  | (k, o) :: r, _, _, _, h => by
    rw [setAll, setAll]
    exact setAll_congr r (set_get_congr h)
theorem setAll_append : ∀ (w : List (Nat × GObj)) (G a : List GObj), (∀ g ∈ w.map (·.1), g < G.length) → setAll w (G ++ a) = setAll w G ++ a
  | [], _, _, _ => rfl
  | (k, o) :: r, G, a, h => by
    simp only [List.map_cons, List.mem_cons, forall_eq_or_imp] at h
    rw [setAll, setAll, List.set_append_left _ _ h.1]
    exact setAll_append r _ a (by simpa using h.2)
theorem setAll_set : ∀ (w : List (Nat × GObj)) (G : List GObj) (k : Nat) (o : GObj), k ∉ w.map (·.1) → setAll w (G.set k o) = (setAll w G).set k o
  | [], _, _, _, _ => rfl
  | (j, p) :: r, G, k, o, h => by
    simp only [List.map_cons, List.mem_cons, not_or] at h
    rw [setAll, setAll, List.set_comm _ _ h.1, setAll_set r _ k o h.2]
theorem setAll_comm : ∀ (w u : List (Nat × GObj)) (G : List GObj), (∀ g ∈ w.map (·.1), g ∉ u.map (·.1)) → setAll w (setAll u G) = setAll u (setAll w G)
  | [], _, _, _ => rfl
  | (k, o) :: r, u, G, h => by
    simp only [List.map_cons, List.mem_cons, forall_eq_or_imp] at h
    rw [setAll, setAll, ← setAll_set u G k o h.1]
    exact setAll_comm r u _ h.2

/-- Two operations' doings do not meet. -/
structure Comm (L : Nat) (r r' : Rec) : Prop where
  dis : ∀ g ∈ r.keys, g ∉ r'.keys
  one : (r.app = [] ∧ ∀ g ∈ r.keys, g < L) ∨ (r'.app = [] ∧ ∀ g ∈ r'.keys, g < L)
theorem apply_comm {L : Nat} {r r' : Rec} (h : Comm L r r') {G : List GObj} (hl : L ≤ G.length) : r.apply (r'.apply G) = r'.apply (r.apply G) := by
  have hd := h.dis
  unfold Rec.apply
  rcases h.one with ⟨e, hk⟩ | ⟨e, hk⟩
  · rw [e, List.append_nil, List.append_nil, setAll_append _ _ _ (fun g hg => by rw [setAll_length]; exact Nat.lt_of_lt_of_le (hk g hg) hl), setAll_comm _ _ _ hd]
  · rw [e, List.append_nil, List.append_nil, setAll_append _ _ _ (fun g hg => by rw [setAll_length]; exact Nat.lt_of_lt_of_le (hk g hg) hl), setAll_comm _ _ _ hd]
theorem apply_length (r : Rec) (G : List GObj) : (r.apply G).length = G.length + r.app.length := by simp [Rec.apply, setAll_length]

def gfold (S : Nat → Bool) : Nat → List Rec → List GObj → List GObj
  | _, [], G => G
  | i, r :: rs, G => gfold S (i + 1) rs (if S i = true then r.apply G else G)
def tfold (S : Nat → Bool) : Nat → List Rec → List AV → List AV
  | _, [], T => T
  | i, r :: rs, T => tfold S (i + 1) rs (if S i = true then aput T r.dst r.v else T)

theorem gfold_congr {S S' : Nat → Bool} : ∀ (rs : List Rec) (i : Nat) (G : List GObj), (∀ j, i ≤ j → j < i + rs.length → S j = S' j) → gfold S i rs G = gfold S' i rs G
  | [], _, _, _ => rfl
  | r :: rs, i, G, h => by
    simp only [gfold]
    rw [h i (Nat.le_refl _) (by simp)]
    exact gfold_congr rs _ _ fun j h1 h2 => h j (by omega) (by simp at h2 ⊢; omega)
theorem tfold_congr {S S' : Nat → Bool} : ∀ (rs : List Rec) (i : Nat) (T : List AV), (∀ j, i ≤ j → j < i + rs.length → S j = S' j) → tfold S i rs T = tfold S' i rs T
  | [], _, _, _ => rfl
  | r :: rs, i, T, h => by
    simp only [tfold]
    rw [h i (Nat.le_refl _) (by simp)]
    exact tfold_congr rs _ _ fun j h1 h2 => h j (by omega) (by simp at h2 ⊢; omega)
theorem gfold_le {S : Nat → Bool} : ∀ (rs : List Rec) (i : Nat) (G : List GObj), G.length ≤ (gfold S i rs G).length
  | [], _, _ => Nat.le_refl _
  | r :: rs, i, G => by
    simp only [gfold]
    refine Nat.le_trans ?_ (gfold_le rs _ _)
    split
    · rw [apply_length]; omega
    · exact Nat.le_refl _

theorem gfold_ins {S : Nat → Bool} {L : Nat} {r : Rec} : ∀ (rs : List Rec) (i : Nat) (G : List GObj), L ≤ G.length → (∀ j r', rs[j]? = some r' → S (i + j) = true → Comm L r r') → gfold S i rs (r.apply G) = r.apply (gfold S i rs G)
  | [], _, _, _, _ => rfl
  | q :: rs, i, G, hl, h => by
    simp only [gfold]
    have ih := fun G' (hl' : L ≤ G'.length) => gfold_ins (S := S) (r := r) rs (i + 1) G' hl' (fun j r' hj hs => h (j + 1) r' (by simpa using hj) (by rw [show i + (j + 1) = i + 1 + j by omega]; exact hs))
    by_cases hs : S i = true
    · rw [if_pos hs, if_pos hs]
      have hc := h 0 q (by simp) (by simpa using hs)
      rw [← apply_comm hc hl]
      exact ih _ (by rw [apply_length]; omega)
    · rw [if_neg hs, if_neg hs]
      exact ih _ hl
theorem gfold_insert {S S' : Nat → Bool} {L : Nat} {r : Rec} : ∀ (rs : List Rec) (i k : Nat) (G : List GObj), L ≤ G.length → rs[k]? = some r → S (i + k) = false → S' (i + k) = true → (∀ j, j ≠ i + k → S' j = S j) →
    (∀ j r', k < j → rs[j]? = some r' → S (i + j) = true → Comm L r r') → gfold S' i rs G = r.apply (gfold S i rs G)
  | [], _, _, _, _, h, _, _, _, _ => by simp at h
  | q :: rs, i, 0, G, hl, h, h0, h1, hsame, hc => by
    simp only [List.getElem?_cons_zero, Option.some.injEq] at h
    subst h
    rw [Nat.add_zero] at h0 h1 hsame
    simp only [gfold, h1, h0, if_true, Bool.false_eq_true, if_false]
    rw [gfold_congr (S := S') (S' := S) rs (i + 1) _ (fun j h1 _ => hsame j (by omega))]
    exact gfold_ins rs (i + 1) G hl fun j r' hj hs => hc (j + 1) r' (by omega) (by simpa using hj) (by rw [show i + (j + 1) = i + 1 + j by omega]; exact hs)
  | q :: rs, i, k + 1, G, hl, h, h0, h1, hsame, hc => by
    simp only [gfold]
    rw [hsame i (by omega)]
    refine gfold_insert rs (i + 1) k _ ?_ (by simpa using h) (by rw [show i + 1 + k = i + (k + 1) by omega]; exact h0) (by rw [show i + 1 + k = i + (k + 1) by omega]; exact h1)
      (fun j hj => hsame j (by omega)) (fun j r' hk hj hs => hc (j + 1) r' (by omega) (by simpa using hj) (by rw [show i + (j + 1) = i + 1 + j by omega]; exact hs))
    split
    · rw [apply_length]; omega
    · exact hl

theorem aput_comm {T : List AV} {d d' : Option Tmp} {v v' : AV} (h : ∀ t, d = some t → d' ≠ some t) : aput (aput T d v) d' v' = aput (aput T d' v') d v := by
  cases d with
  | none => rfl
  | some t => cases d' with
    | none => rfl
    | some u =>
      simp only [aput, rset_eq]
      rw [List.set_comm _ _ (fun e => h t rfl (by rw [e]))]
theorem tfold_ins {S : Nat → Bool} {d : Option Tmp} {v : AV} : ∀ (rs : List Rec) (i : Nat) (T : List AV), (∀ j r', rs[j]? = some r' → S (i + j) = true → ∀ t, d = some t → r'.dst ≠ some t) → tfold S i rs (aput T d v) = aput (tfold S i rs T) d v
  | [], _, _, _ => rfl
  | q :: rs, i, T, h => by
    simp only [tfold]
    have ih := fun T' => tfold_ins (S := S) (d := d) (v := v) rs (i + 1) T' (fun j r' hj hs => h (j + 1) r' (by simpa using hj) (by rw [show i + (j + 1) = i + 1 + j by omega]; exact hs))
    by_cases hs : S i = true
    · rw [if_pos hs, if_pos hs]
      rw [aput_comm (h 0 q (by simp) (by simpa using hs))]
      exact ih _
    · rw [if_neg hs, if_neg hs]
      exact ih _
theorem tfold_insert {S S' : Nat → Bool} {r : Rec} : ∀ (rs : List Rec) (i k : Nat) (T : List AV), rs[k]? = some r → S (i + k) = false → S' (i + k) = true → (∀ j, j ≠ i + k → S' j = S j) →
    (∀ j r', k < j → rs[j]? = some r' → S (i + j) = true → ∀ t, r.dst = some t → r'.dst ≠ some t) → tfold S' i rs T = aput (tfold S i rs T) r.dst r.v
  | [], _, _, _, h, _, _, _, _ => by simp at h
  | q :: rs, i, 0, T, h, h0, h1, hsame, hc => by
    simp only [List.getElem?_cons_zero, Option.some.injEq] at h
    subst h
    rw [Nat.add_zero] at h0 h1 hsame
    simp only [tfold, h1, h0, if_true, Bool.false_eq_true, if_false]
    rw [tfold_congr (S := S') (S' := S) rs (i + 1) _ (fun j h1 _ => hsame j (by omega))]
    exact tfold_ins rs (i + 1) T fun j r' hj hs => hc (j + 1) r' (by omega) (by simpa using hj) (by rw [show i + (j + 1) = i + 1 + j by omega]; exact hs)
  | q :: rs, i, k + 1, T, h, h0, h1, hsame, hc => by
    simp only [tfold]
    rw [hsame i (by omega)]
    exact tfold_insert rs (i + 1) k _ (by simpa using h) (by rw [show i + 1 + k = i + (k + 1) by omega]; exact h0) (by rw [show i + 1 + k = i + (k + 1) by omega]; exact h1)
      (fun j hj => hsame j (by omega)) (fun j r' hk hj hs => hc (j + 1) r' (by omega) (by simpa using hj) (by rw [show i + (j + 1) = i + 1 + j by omega]; exact hs))

/-- Sets that differ in what does not turn g have left the same at g. -/
theorem gfold_get {S S' : Nat → Bool} {L g : Nat} : ∀ (rs : List Rec) (i : Nat) (G1 G2 : List GObj), L ≤ G1.length → L ≤ G2.length → G1[g]? = G2[g]? → (g < L ∨ G1.length = G2.length) →
    (∀ j r', rs[j]? = some r' → S (i + j) ≠ S' (i + j) → g ∉ r'.keys ∧ (r'.app = [] ∨ g < L)) → (gfold S i rs G1)[g]? = (gfold S' i rs G2)[g]?
  | [], _, _, _, _, _, h, _, _ => h
  | q :: rs, i, G1, G2, l1, l2, h, hg, hd => by
    simp only [gfold]
    have hrest : ∀ j r', rs[j]? = some r' → S (i + 1 + j) ≠ S' (i + 1 + j) → g ∉ r'.keys ∧ (r'.app = [] ∨ g < L) := fun j r' hj hs => hd (j + 1) r' (by simpa using hj) (by rw [show i + (j + 1) = i + 1 + j by omega]; exact hs)
    have hq := hd 0 q (by simp)
    rw [Nat.add_zero] at hq
    have one : ∀ {G : List GObj}, L ≤ G.length → g ∉ q.keys → (q.app = [] ∨ g < L) → (q.apply G)[g]? = G[g]? := by
      intro G hl hk ha
      unfold Rec.apply
      rcases ha with e | e
      · rw [e, List.append_nil, setAll_out _ _ _ hk]
      · rw [List.getElem?_append_left (by rw [setAll_length]; omega), setAll_out _ _ _ hk]
    by_cases h1 : S i = true <;> by_cases h2 : S' i = true
    · rw [if_pos h1, if_pos h2]
      refine gfold_get rs (i + 1) _ _ (by rw [apply_length]; omega) (by rw [apply_length]; omega) ?_ ?_ hrest
      · unfold Rec.apply
        rcases hg with hg | hg
        · rw [List.getElem?_append_left (by rw [setAll_length]; omega), List.getElem?_append_left (by rw [setAll_length]; omega)]
          exact setAll_congr _ h
        · rw [List.getElem?_append, List.getElem?_append, setAll_length, setAll_length, hg, setAll_congr _ h]
      · rcases hg with hg | hg
        · exact .inl hg
        · right; rw [apply_length, apply_length, hg]
    · rw [if_pos h1, if_neg h2]
      obtain ⟨k1, k2⟩ := hq (by simp [h1, h2])
      refine gfold_get rs (i + 1) _ _ (by rw [apply_length]; omega) l2 (by rw [one l1 k1 k2]; exact h) ?_ hrest
      rcases k2 with e | e
      · rcases hg with hg | hg
        · exact .inl hg
        · right; rw [apply_length, e, hg]; rfl
      · exact .inl e
    · rw [if_neg h1, if_pos h2]
      obtain ⟨k1, k2⟩ := hq (by simp [h1, h2])
      refine gfold_get rs (i + 1) _ _ l1 (by rw [apply_length]; omega) (by rw [one l2 k1 k2]; exact h) ?_ hrest
      rcases k2 with e | e
      · rcases hg with hg | hg
        · exact .inl hg
        · right; rw [apply_length, e, hg]; rfl
      · exact .inl e
    · rw [if_neg h1, if_neg h2]
      exact gfold_get rs (i + 1) _ _ l1 l2 h hg hrest
theorem gfold_length {S S' : Nat → Bool} : ∀ (rs : List Rec) (i : Nat) (G1 G2 : List GObj), G1.length = G2.length → (∀ j r', rs[j]? = some r' → S (i + j) ≠ S' (i + j) → r'.app = []) → (gfold S i rs G1).length = (gfold S' i rs G2).length
  | [], _, _, _, h, _ => h
  | q :: rs, i, G1, G2, h, hd => by
    simp only [gfold]
    have hq := hd 0 q (by simp)
    rw [Nat.add_zero] at hq
    refine gfold_length rs (i + 1) _ _ ?_ fun j r' hj hs => hd (j + 1) r' (by simpa using hj) (by rw [show i + (j + 1) = i + 1 + j by omega]; exact hs)
    by_cases h1 : S i = true <;> by_cases h2 : S' i = true
    · simp only [h1, h2, if_true, apply_length, h]
    · simp only [h1, h2, if_true, apply_length, hq (by simp [h1, h2])]
      simpa using h
    · simp only [h1, h2, if_true, apply_length, hq (by simp [h1, h2])]
      simpa using h
    · simp only [h1, h2]
      simpa using h
theorem gfold_same {S S' : Nat → Bool} : ∀ (rs : List Rec) (i : Nat) (G : List GObj), (∀ j r', rs[j]? = some r' → S (i + j) ≠ S' (i + j) → r'.wr = [] ∧ r'.app = []) → gfold S i rs G = gfold S' i rs G
  | [], _, _, _ => rfl
  | q :: rs, i, G, hd => by
    simp only [gfold]
    have hq := hd 0 q (by simp)
    rw [Nat.add_zero] at hq
    have he : (if S i = true then q.apply G else G) = (if S' i = true then q.apply G else G) := by
      by_cases h : S i = S' i
      · rw [h]
      · obtain ⟨e1, e2⟩ := hq h
        have : q.apply G = G := by simp [Rec.apply, e1, e2, setAll]
        simp only [this, ite_self]
    rw [he]
    exact gfold_same rs (i + 1) _ fun j r' hj hs => hd (j + 1) r' (by simpa using hj) (by rw [show i + (j + 1) = i + 1 + j by omega]; exact hs)
theorem aput_ne {T : List AV} {d : Option Tmp} {v : AV} {t : Tmp} (h : d ≠ some t) : (aput T d v)[t]? = T[t]? := by
  cases d with
  | none => rfl
  | some u =>
    simp only [aput, rset_eq]
    rw [List.getElem?_set_ne (fun e => h (by rw [e]))]
theorem aput_get_congr {T1 T2 : List AV} {d : Option Tmp} {v : AV} {t : Tmp} (h : T1[t]? = T2[t]?) : (aput T1 d v)[t]? = (aput T2 d v)[t]? := by
  cases d with
  | none => exact h
  | some u =>
    simp only [aput, rset_eq]
    by_cases e : u = t
    · subst e
      have hl : (u < T1.length) ↔ (u < T2.length) := by
        rw [← Nat.not_le, ← Nat.not_le, ← List.getElem?_eq_none_iff, ← List.getElem?_eq_none_iff, h]
      simp only [List.getElem?_set, if_true]
      simp only [hl]
    · rw [List.getElem?_set_ne e, List.getElem?_set_ne e, h]
theorem tfold_get {S S' : Nat → Bool} {t : Tmp} : ∀ (rs : List Rec) (i : Nat) (T1 T2 : List AV), T1[t]? = T2[t]? → (∀ j r', rs[j]? = some r' → S (i + j) ≠ S' (i + j) → r'.dst ≠ some t) → (tfold S i rs T1)[t]? = (tfold S' i rs T2)[t]?
  | [], _, _, _, h, _ => h
  | q :: rs, i, T1, T2, h, hd => by
    simp only [tfold]
    have hq := hd 0 q (by simp)
    rw [Nat.add_zero] at hq
    refine tfold_get rs (i + 1) _ _ ?_ fun j r' hj hs => hd (j + 1) r' (by simpa using hj) (by rw [show i + (j + 1) = i + 1 + j by omega]; exact hs)
    by_cases h1 : S i = true <;> by_cases h2 : S' i = true
    · simp only [h1, h2, if_true]; exact aput_get_congr h
    · simp only [h1, h2, if_true]
      have := hq (by simp [h1, h2])
      simpa [aput_ne this] using h
    · simp only [h1, h2, if_true]
      have := hq (by simp [h1, h2])
      simpa [aput_ne this] using h
    · simp only [h1, h2]
      simpa using h

/-- Where nothing has been done, all is as it was; and what is referred to, some operation, or the beginning, did. -/
theorem gfold_refs {S : Nat → Bool} {bad : Nat} : ∀ (rs : List Rec) (i : Nat) (G : List GObj), (∀ o ∈ G, bad ∉ o.refs) → (∀ j r', rs[j]? = some r' → S (i + j) = true → (∀ x ∈ r'.wr, bad ∉ x.2.refs) ∧ ∀ o ∈ r'.app, bad ∉ o.refs) → ∀ o ∈ gfold S i rs G, bad ∉ o.refs
  | [], _, _, h, _ => h
  | q :: rs, i, G, h, hd => by
    simp only [gfold]
    refine gfold_refs rs (i + 1) _ ?_ fun j r' hj hs => hd (j + 1) r' (by simpa using hj) (by rw [show i + (j + 1) = i + 1 + j by omega]; exact hs)
    by_cases h1 : S i = true
    · rw [if_pos h1]
      obtain ⟨k1, k2⟩ := hd 0 q (by simp) (by simpa using h1)
      have hset : ∀ (w : List (Nat × GObj)) (G : List GObj), (∀ x ∈ w, bad ∉ x.2.refs) → (∀ o ∈ G, bad ∉ o.refs) → ∀ o ∈ setAll w G, bad ∉ o.refs := by
        intro w
        induction w with
        | nil => exact fun G _ h => h
        | cons x w ih =>
          intro G hw hG
          refine ih _ (fun y hy => hw y (by simp [hy])) fun o ho => ?_
          rcases List.mem_or_eq_of_mem_set ho with ho | rfl
          · exact hG o ho
          · exact hw x (by simp)
      intro o ho
      simp only [Rec.apply, List.mem_append] at ho
      rcases ho with ho | ho
      · exact hset q.wr G k1 h o ho
      · exact k2 o ho
    · rw [if_neg h1]; exact h
theorem tfold_refs {S : Nat → Bool} {bad : Nat} : ∀ (rs : List Rec) (i : Nat) (T : List AV), (∀ x ∈ T, bad ∉ x.refs) → (∀ j r', rs[j]? = some r' → S (i + j) = true → bad ∉ r'.v.refs) → ∀ x ∈ tfold S i rs T, bad ∉ x.refs
  | [], _, _, h, _ => h
  | q :: rs, i, T, h, hd => by
    simp only [tfold]
    refine tfold_refs rs (i + 1) _ ?_ fun j r' hj hs => hd (j + 1) r' (by simpa using hj) (by rw [show i + (j + 1) = i + 1 + j by omega]; exact hs)
    by_cases h1 : S i = true
    · rw [if_pos h1]
      have k1 := hd 0 q (by simp) (by simpa using h1)
      intro x hx
      cases hq : q.dst with
      | none => rw [hq] at hx; exact h x hx
      | some d =>
        rw [hq] at hx
        simp only [aput, rset_eq] at hx
        rcases List.mem_or_eq_of_mem_set hx with hx | rfl
        · exact h x hx
        · exact k1
    · rw [if_neg h1]; exact h
end
end Go.Ks
