/- An abstract evaluator for the model's code, part U: regions whose order is open: sound. -/
import Derived.Test.YtdlofomblpdiaaaGreatKsT
namespace Go.Ks
noncomputable section

def Emb.pad (φ : Emb) (k : Nat) : Emb := { φ with n := φ.n + k }
theorem Ctx.pad {w0 : World} {O : Nat → Prop} {I0 : Imm} {φ : Emb} {G : List GObj} {w : World} (h : Ctx w0 O I0 φ G w) (k : Nat) : Ext φ (φ.pad k) ∧ Ctx w0 O I0 (φ.pad k) (G ++ List.replicate k .dead) w := by
  have hx : Ext φ (φ.pad k) := ⟨Nat.le_add_right _ _, fun _ _ e => e, fun _ _ => rfl, fun _ _ => rfl, fun _ _ => rfl, fun _ _ => rfl⟩
  have hget : ∀ {g : Nat} {o : GObj}, (G ++ List.replicate k .dead)[g]? = some o → o ≠ .dead → G[g]? = some o := by
    intro g o hg hl
    by_cases hlt : g < G.length
    · rwa [List.getElem?_append_left hlt] at hg
    · rw [List.getElem?_append_right (by omega), List.getElem?_replicate] at hg
      split at hg
      · cases hg; exact absurd rfl hl
      · simp at hg
  refine ⟨hx, ⟨by simp [Emb.pad, h.rel.n], ?_, ?_, h.rel.imm, ?_⟩, ⟨h.fr.size, h.fr.os, h.fr.tape, h.fr.output, h.fr.same, ?_⟩, h.immn⟩
  · intro g o hg
    by_cases hl : o = .dead
    · subst hl; trivial
    · exact GObj.rel_ext hx (h.rel.lt (hget hg hl)) (fun _ => rfl) (h.rel.obj g o (hget hg hl))
  · intro g g' o o' h1 h2 l1 l2 e
    exact h.rel.inj g g' o o' (hget h1 (fun e => by subst e; simp [GObj.live] at l1)) (hget h2 (fun e => by subst e; simp [GObj.live] at l2)) l1 l2 e
  · intro g o hg hl
    exact h.rel.apart g o (hget hg (fun e => by subst e; simp [GObj.live] at hl)) hl
  · intro g o hg hl
    exact h.fr.own g o (hget hg (fun e => by subst e; simp [GObj.live] at hl)) hl

section
variable {P : Program} {H : Handler} {E : Ext1} {F : Fence} {m : Nat} {w0 : World} {O : Nat → Prop} {I0 : Imm}

theorem dany_sound (hH : HOK P H) (hE : EOK P E) (hN : NoCount P) (hF : Wide F) (D : List Deferred) {ops : Array Oper} {φ0 : Emb} {n0 L : Nat} {T0 : List AV} {G0 : List GObj} {M : List Nat} {rs : List Rec} {Q : Exit → Act → World → Prop}
    (hM : edgesOk M 0 ops.toList = true) (hall : allOk ops n0 L M ops.toList rs 0 ops.toList rs = true) (hrun : ∃ slot, drun P H E ops slot ops.toList T0 G0 = some rs)
    (hn0 : φ0.n = n0) (hL : G0.length = L) (hdead : ∀ s, n0 ≤ s → s < L → G0[s]? = some .dead) (hG0 : ∀ o ∈ G0, ∀ g ∈ o.refs, g < n0) (hT0 : ∀ x ∈ T0, ∀ g ∈ x.refs, g < n0)
    (hQ : ∀ (φ : Emb) (a : Act) (w : World), Ext φ0 φ → Ctx w0 O I0 φ (gfold (fun _ => true) 0 rs G0) w → AV.relL φ (tfold (fun _ => true) 0 rs T0) a.tmps.toList → a.defers = D → Q .normal a w) :
    ∀ (fuel : Nat) (listed : Array Bool) (φ : Emb) (a : Act) (w : World), listed.size = ops.size → listed.toList.count false = fuel →
      (∀ j oj, listed.getD j false = true → ops[j]? = some oj → ∀ e ∈ oj.after, Region.binds .any e = true → listed.getD e.on false = true) →
      Ext φ0 φ → Ctx w0 O I0 φ (gfold (fun j => listed.getD j false) 0 rs G0) w → AV.relL φ (tfold (fun j => listed.getD j false) 0 rs T0) a.tmps.toList → a.defers = D →
      wpAnyIn F m P .any ops Q fuel listed a w := by
  obtain ⟨slot0, hrun⟩ := hrun
  obtain ⟨hlen, hspec⟩ := drun_spec hrun
  have hlen' : rs.length = ops.size := by simpa using hlen
  have hops : ∀ {j : Nat} {o : Oper}, ops[j]? = some o → ops.toList[j]? = some o := fun h => by rw [Array.getElem?_toList]; exact h
  have hedge := fun (j : Nat) (o : Oper) (h : ops[j]? = some o) => edgesOk_spec hM j o (hops h)
  simp only [Nat.zero_add] at hedge
  have hone := fun (j : Nat) (o : Oper) (r : Rec) (h : ops[j]? = some o) (hr : rs[j]? = some r) => (allOk_spec hall j o r (hops h) hr).1
  have hpair := fun (j : Nat) (o : Oper) (r : Rec) (h : ops[j]? = some o) (hr : rs[j]? = some r) (i : Nat) (oi : Oper) (ri : Rec) (hij : i < j) (hi : ops[i]? = some oi) (hri : rs[i]? = some ri) => (allOk_spec hall j o r (hops h) hr).2 i oi ri (by omega) (hops hi) hri
  simp only [Nat.zero_add] at hpair
  have hrec : ∀ {j : Nat} {r : Rec}, rs[j]? = some r → ∃ o, ops[j]? = some o := fun {j r} h => by
    have := (List.getElem?_eq_some_iff.1 h).1
    exact ⟨ops[j]'(by omega), by rw [Array.getElem?_eq_getElem]⟩
  have hdst : ∀ {j : Nat} {o : Oper} {r : Rec}, ops[j]? = some o → rs[j]? = some r → r.dst = o.dst := by
    intro j o r ho hr
    obtain ⟨r', s', k1, k2⟩ := hspec j o (hops ho)
    rw [hr] at k1
    cases k1
    exact dstep_dst k2
  -- what comes before a listed operation is listed
  have hclo : ∀ {listed : Array Bool}, (∀ j oj, listed.getD j false = true → ops[j]? = some oj → ∀ e ∈ oj.after, Region.binds .any e = true → listed.getD e.on false = true) →
      ∀ (i : Nat) (o : Oper), ops[i]? = some o → (∀ e ∈ o.after, Region.binds .any e = true → listed.getD e.on false = true) → ∀ j, (M.getD i 0).testBit j = true → listed.getD j false = true := by
    intro listed hcl i
    induction i using Nat.strongRecOn with
    | ind i ih =>
      intro o ho he j hj
      obtain ⟨h1, h2⟩ := hedge i o ho
      rw [h2] at hj
      obtain ⟨e, hem, hb, hc⟩ := maskOf_bit hj
      have hem' : e ∈ o.after := by simpa using hem
      have hon := he e hem' hb
      rcases hc with rfl | hc
      · exact hon
      · have hlt := h1 e hem' hb
        have hsz := (Array.getElem?_eq_some_iff.1 ho).1
        have hoe : ops[e.on]? = some (ops[e.on]'(by omega)) := by rw [Array.getElem?_eq_getElem]
        exact ih e.on hlt _ hoe (hcl e.on _ hon hoe) j hc
  intro fuel
  induction fuel with
  | zero =>
    intro listed φ a w hsz hcount hcl hx hc hT hD
    have hfull : ∀ j, j < ops.size → listed.getD j false = true := by
      intro j hj
      have hlt : j < listed.size := by omega
      have hnot : false ∉ listed.toList := List.count_eq_zero.1 hcount
      rw [Array.getD_eq_getD_getElem?, Array.getElem?_eq_getElem hlt]
      cases hv : listed[j] with
      | true => rfl
      | false => exact absurd (by rw [← hv]; simp) hnot
    refine ⟨?_, ?_⟩
    · cases hr : Region.ready .any ops listed with
      | nil => rfl
      | cons x xs =>
        have hx' : x ∈ Region.ready .any ops listed := by rw [hr]; simp
        obtain ⟨h0, o, ho, _⟩ := mem_ready.1 hx'
        have h1 := hfull x (Array.getElem?_eq_some_iff.1 ho).1
        have hlt : x < listed.size := by rw [hsz]; exact (Array.getElem?_eq_some_iff.1 ho).1
        rw [Array.getD_eq_getD_getElem?, Array.getElem?_eq_getElem hlt] at h0 h1
        simp only [Option.getD_some] at h0 h1
        rw [h0] at h1
        cases h1
    · rw [gfold_congr (S' := fun _ => true) rs 0 G0 (fun j _ h => hfull j (by omega))] at hc
      rw [tfold_congr (S' := fun _ => true) rs 0 T0 (fun j _ h => hfull j (by omega))] at hT
      exact hQ φ a w hx hc hT hD
  | succ fuel ih =>
    intro listed φ a w hsz hcount hcl hx hc hT hD
    refine ⟨fun hnil => ?_, fun i hi => ?_⟩
    · exfalso
      have hno : ∀ i, i < ops.size → listed.getD i true = false → False := by
        intro i
        induction i using Nat.strongRecOn with
        | ind i ih =>
          intro hi h0
          have hoi : ops[i]? = some ops[i] := by rw [Array.getElem?_eq_getElem]
          by_cases he : ∀ e ∈ ops[i].after, Region.binds .any e = true → listed.getD e.on false = true
          · have := mem_ready.2 ⟨h0, _, hoi, he⟩
            rw [hnil] at this
            cases this
          · simp only [Classical.not_forall] at he
            obtain ⟨e, hem, hb, hne⟩ := he
            have hlt := (hedge i _ hoi).1 e hem hb
            refine ih e.on hlt (by omega) ?_
            have hlt' : e.on < listed.size := by omega
            rw [Array.getD_eq_getD_getElem?, Array.getElem?_eq_getElem hlt'] at hne ⊢
            simpa using hne
      have hpos : false ∈ listed.toList := List.count_pos_iff.1 (by omega)
      obtain ⟨j, hj, hv⟩ := List.mem_iff_getElem.1 hpos
      have hj' : j < listed.size := by simpa using hj
      refine hno j (by omega) ?_
      rw [Array.getD_eq_getD_getElem?, Array.getElem?_eq_getElem hj']
      simpa using hv
    · obtain ⟨h0, o, ho, he⟩ := mem_ready.1 hi
      have hisz : i < ops.size := (Array.getElem?_eq_some_iff.1 ho).1
      have hil : i < listed.size := by omega
      have hSi : listed.getD i false = false := by
        rw [Array.getD_eq_getD_getElem?, Array.getElem?_eq_getElem hil] at h0 ⊢
        simpa using h0
      obtain ⟨r, slot', hri, hd⟩ := hspec i o (hops ho)
      have hrd := hdst ho hri
      have hbi := hclo hcl i o ho he
      -- who differs is apart
      have hun : ∀ (j : Nat) (rj : Rec), rs[j]? = some rj → listed.getD (0 + j) false ≠ decide (0 + j < i) → ∃ oj, ops[j]? = some oj ∧ Apart ops L o oj r rj ∧ Apart ops L oj o rj r := by
        intro j rj hrj hne
        rw [Nat.zero_add] at hne
        obtain ⟨oj, hoj⟩ := hrec hrj
        refine ⟨oj, hoj, ?_⟩
        rcases Nat.lt_trichotomy j i with hlt | rfl | hlt
        · have hp := hpair i o r ho hri j oj rj hlt hoj hrj
          have hb : (M.getD i 0).testBit j = false := by
            cases hb : (M.getD i 0).testBit j with
            | false => rfl
            | true => exact absurd (hbi j hb) (by simpa [hlt] using hne)
          rw [hb] at hp
          exact (pairOk_spec hp).symm
        · simp [hSi] at hne
        · have hp := hpair j oj rj hoj hrj i o r hlt ho hri
          have hSj : listed.getD j false = true := by
            have : decide (j < i) = false := by simp; omega
            rw [this] at hne
            simpa using hne
          have hb : (M.getD j 0).testBit i = false := by
            cases hb : (M.getD j 0).testBit i with
            | false => rfl
            | true =>
              have := hclo hcl j oj hoj (hcl j oj hSj hoj) i hb
              rw [hSi] at this
              cases this
          rw [hb] at hp
          exact pairOk_spec hp
      have hafter : ∀ (j : Nat) (rj : Rec), i < j → rs[j]? = some rj → listed.getD (0 + j) false = true → ∃ oj, ops[j]? = some oj ∧ Apart ops L o oj r rj ∧ Apart ops L oj o rj r := by
        intro j rj hij hrj hs
        refine hun j rj hrj ?_
        rw [hs, Nat.zero_add]
        simp
        omega
      -- temporaries
      have htmp : ∀ t, t ∈ o.looksAt ops → (tfold (fun j => decide (j < i)) 0 rs T0)[t]? = (tfold (fun j => listed.getD j false) 0 rs T0)[t]? := by
        intro t ht
        refine tfold_get rs 0 T0 T0 rfl fun j rj hrj hne => ?_
        obtain ⟨oj, hoj, h1, _⟩ := hun j rj hrj (Ne.symm hne)
        rw [hdst hoj hrj]
        exact fun e => h1.look t e ht
      have hopd : ∀ x ∈ o.op.operands.toList, aeval (tfold (fun j => decide (j < i)) 0 rs T0) x = aeval (tfold (fun j => listed.getD j false) 0 rs T0) x := by
        intro x hx
        cases x with
        | tmp t =>
          simp only [aeval, rget_eq]
          exact htmp t (List.mem_append_left _ (List.mem_filterMap.2 ⟨.tmp t, hx, rfl⟩))
        | _ => rfl
      have hwant : wantedA ops (tfold (fun j => listed.getD j false) 0 rs T0) o = wantedA ops (tfold (fun j => decide (j < i)) 0 rs T0) o := by
        unfold wantedA
        cases hg : o.guard with
        | none => rfl
        | some gw =>
          obtain ⟨g, want⟩ := gw
          simp only
          cases hdd : (ops[g]?).bind (·.dst) with
          | none => rfl
          | some d =>
            simp only
            rw [htmp d (by simp [Oper.looksAt, hg, hdd])]
      have hch1 := (oneOk_spec (hone i o r ho hri)).1
      have hsl1 := (oneOk_spec (hone i o r ho hri)).2
      have happ : ∀ (j : Nat) (rj : Rec), rs[j]? = some rj → listed.getD (0 + j) false ≠ decide (0 + j < i) → r.chain = true → rj.app = [] := by
        intro j rj hrj hne hc
        obtain ⟨oj, hoj, h1, _⟩ := hun j rj hrj hne
        exact ((oneOk_spec (hone j oj rj hoj hrj)).1 (h1.chain hc)).1
      have key := dstep_sound (F := F) (m := m) (Q := Q) (next := wpAnyIn F m P .any ops Q fuel (listed.setIfInBounds i true)) hH hE hN hF (φ0 := φ0) hd hwant hopd
        (G2 := gfold (fun j => listed.getD j false) 0 rs G0)
        (fun g hg => gfold_get (L := L) rs 0 G0 G0 (by omega) (by omega) rfl (.inr rfl) fun j rj hrj hne => by
          obtain ⟨oj, hoj, h1, _⟩ := hun j rj hrj (Ne.symm hne)
          exact ⟨h1.rd g hg, h1.low.imp id fun h => h g hg⟩)
        (fun hb => gfold_same rs 0 G0 fun j rj hrj hne => by
          obtain ⟨oj, hoj, h1, _⟩ := hun j rj hrj (Ne.symm hne)
          exact h1.bar hb)
        (fun hc => gfold_length rs 0 G0 G0 rfl fun j rj hrj hne => happ j rj hrj (Ne.symm hne) hc)
        (fun s hs => by
          obtain ⟨s1, s2⟩ := hsl1 s hs
          have hav : ∀ (j : Nat) (rj : Rec), rs[j]? = some rj → listed.getD (0 + j) false = true → avoid rj r = true := by
            intro j rj hrj hSj
            obtain ⟨oj, hoj⟩ := hrec hrj
            rcases Nat.lt_trichotomy j i with hlt | rfl | hlt
            · exact pairOk_avoid (hpair i o r ho hri j oj rj hlt hoj hrj)
            · rw [Nat.zero_add, hSi] at hSj; cases hSj
            · obtain ⟨oj', _, h1, _⟩ := hafter j rj hlt hrj hSj
              exact h1.av
          refine ⟨?_, ?_, ?_, by omega⟩
          · rw [← hdead s s1 s2]
            have := gfold_get (S := fun j => listed.getD j false) (S' := fun _ => false) (L := L) (g := s) rs 0 G0 G0 (by omega) (by omega) rfl (.inr rfl) fun j rj hrj hne =>
              ⟨(avoid_spec (hav j rj hrj (by simpa using hne)) hs).1, .inr s2⟩
            rw [this, gfold_none (fun _ => rfl)]
          · refine gfold_refs rs 0 G0 (fun o ho hm => by have := hG0 o ho s hm; omega) fun j rj hrj hSj => ?_
            have := avoid_spec (hav j rj hrj hSj) hs
            exact this.2.2
          · refine tfold_refs rs 0 T0 (fun x hx hm => by have := hT0 x hx s hm; omega) fun j rj hrj hSj => ?_
            have := avoid_spec (hav j rj hrj hSj) hs
            exact this.2.1)
        hx hc hT
        (fun φ' v w' x1 x2 x3 x4 => by
          have hset : ∀ j, j ≠ 0 + i → (listed.setIfInBounds i true).getD j false = listed.getD j false := fun j hj => getD_set_ne false (by omega)
          have hsi : (listed.setIfInBounds i true).getD (0 + i) false = true := by
            rw [Nat.zero_add]
            simp [hil]
          refine ih (listed.setIfInBounds i true) φ' _ w' (by simpa using hsz) ?_ ?_ x1 ?_ ?_ (by rw [put_defers]; exact hD)
          · rw [Array.toList_setIfInBounds, List.count_set (by simpa using hil)]
            have hv : listed.toList[i]'(by simpa using hil) = false := by
              rw [Array.getD_eq_getD_getElem?, Array.getElem?_eq_getElem hil] at h0
              simpa using h0
            rw [hv, hcount]
            simp
          · intro j oj hj hoj e hem hb
            by_cases hji : j = i
            · subst hji
              rw [ho] at hoj
              cases hoj
              exact getD_set_true (he e hem hb)
            · rw [getD_set_ne false (Ne.symm hji)] at hj
              exact getD_set_true (hcl j oj hj hoj e hem hb)
          · rw [gfold_insert (S := fun j => listed.getD j false) (L := L) (r := r) rs 0 i G0 (by omega) hri (by rw [Nat.zero_add]; exact hSi) hsi hset (fun j rj hij hrj hs => by
              obtain ⟨oj, hoj, h1, _⟩ := hafter j rj hij hrj hs
              refine ⟨h1.keys, ?_⟩
              cases hcr : r.chain with
              | false => exact .inl (hch1 hcr)
              | true => exact .inr ((oneOk_spec (hone j oj rj hoj hrj)).1 (h1.chain hcr)))]
            exact x2
          · rw [tfold_insert (S := fun j => listed.getD j false) (r := r) rs 0 i T0 hri (by rw [Nat.zero_add]; exact hSi) hsi hset (fun j rj hij hrj hs t ht => by
              obtain ⟨oj, hoj, h1, _⟩ := hafter j rj hij hrj hs
              rw [hdst hoj hrj]
              exact h1.dst t (by rw [← hrd]; exact ht))]
            rw [hrd]
            exact aput_rel x3 o.dst x4)
      unfold wpOpIn
      simp only [ho]
      exact key

theorem dregion_sound (hH : HOK P H) (hE : EOK P E) (hN : NoCount P) (hF : Wide F) (hm : P.follows .mixedOrders = true) (D : List Deferred) {id : Nat} {ops : Array Oper} {φ : Emb} {T : List AV} {G : List GObj} {a : Act} {w : World} {Q : Exit → Act → World → Prop}
    (h : Ctx w0 O I0 φ G w) (hT : AV.relL φ T a.tmps.toList) (hD : a.defers = D) {r : List AV × List GObj} (hr : dregion P H E ops T G = some r) (hq : ∀ a' w', Good w0 O I0 φ D (· = r) a' w' → Q .normal a' w') : (Code.region id ops true).wpIn F m P Q a w := by
  unfold dregion at hr
  split at hr
  · rename_i rs hrs
    split at hr
    · rename_i hok
      cases hr
      simp only [statAll, Bool.and_eq_true] at hok
      replace hok := And.intro hok.1.1 (all_of hok.1.2 hok.2)
      obtain ⟨hx, hc⟩ := h.pad (countA ops.toList)
      have hrep : ∀ j, (Array.replicate ops.size false).getD j false = false := fun j => by
        by_cases hj : j < ops.size <;> simp [hj]
      refine wpIn_region_any hm ?_
      refine dany_sound (w0 := w0) (O := O) (I0 := I0) hH hE hN hF D (φ0 := φ) (n0 := G.length) (L := G.length + countA ops.toList) (T0 := T) hok.1 hok.2 ⟨_, hrs⟩ h.rel.n (by simp) ?_ ?_ ?_ ?_ ops.size _ (φ.pad (countA ops.toList)) a _ (by simp) (by simp) ?_ hx ?_ ?_ hD
      · intro s h1 h2
        rw [List.getElem?_append_right h1, List.getElem?_replicate, if_pos (by omega)]
      · intro o ho g hg
        rcases List.mem_append.1 ho with ho | ho
        · rw [← h.rel.n]; exact h.rel.refs_lt ho g hg
        · have := List.eq_of_mem_replicate ho
          rw [this] at hg
          simp [GObj.refs] at hg
      · intro x hx g hg
        rw [← h.rel.n]
        exact AV.refsL_lt T _ hT g (refsL_mem.2 ⟨x, hx, hg⟩)
      · intro φ' a' w' x1 x2 x3 x4
        exact hq a' w' ⟨φ', _, rfl, x1, x2, x3, x4⟩
      · intro j oj hj
        rw [hrep j] at hj
        cases hj
      · rw [gfold_none hrep]
        exact hc.drew
      · rw [tfold_none hrep]
        exact AV.relL_ext hx _ _ hT
    · simp at hr
  · simp at hr
end
end
end Go.Ks
