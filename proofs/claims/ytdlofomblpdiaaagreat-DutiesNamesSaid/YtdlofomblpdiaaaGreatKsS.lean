/- An abstract evaluator for the model's code, part S: one operation of a region whose order is open: sound wherever it comes. -/
import Derived.Test.YtdlofomblpdiaaaGreatKsR
namespace Go.Ks

mutual
theorem AV.ren_ren {f g : Nat → Nat} : ∀ (x : AV), (x.ren f).ren g = x.ren fun k => g (f k)
  | .p x => rfl
  | .ref _ _ => rfl
  | .aref _ _ _ => rfl
  | .sl _ _ _ => rfl
  | .mp _ => rfl
  | .clo c cs => by simp only [AV.ren]; rw [AV.renL_renL cs]
  | .agg xs => by simp only [AV.ren]; rw [AV.renL_renL xs]
  | .tup xs => by simp only [AV.ren]; rw [AV.renL_renL xs]
  | .iface t x => by simp only [AV.ren]; rw [AV.ren_ren x]
  | .yld _ => rfl
theorem AV.renL_renL {f g : Nat → Nat} : ∀ (xs : List AV), AV.renL g (AV.renL f xs) = AV.renL (fun k => g (f k)) xs
  | [] => rfl
  | x :: xs => by simp only [AV.renL]; rw [AV.ren_ren x, AV.renL_renL xs]
end
mutual
theorem AV.refs_ren {f : Nat → Nat} {g : Nat} : ∀ (x : AV), g ∈ (x.ren f).refs → ∃ k ∈ x.refs, g = f k
  | .p x, h => by simp [AV.ren, AV.refs] at h
  | .ref _ _, h => by simpa [AV.ren, AV.refs] using h
  | .aref _ _ _, h => by simpa [AV.ren, AV.refs] using h
  | .sl _ _ _, h => by simpa [AV.ren, AV.refs] using h
  | .mp _, h => by simpa [AV.ren, AV.refs] using h
  | .clo c cs, h => by simp only [AV.ren, AV.refs] at h ⊢; exact AV.refsL_ren cs h
  | .agg xs, h => by simp only [AV.ren, AV.refs] at h ⊢; exact AV.refsL_ren xs h
  | .tup xs, h => by simp only [AV.ren, AV.refs] at h ⊢; exact AV.refsL_ren xs h
  | .iface t x, h => by simp only [AV.ren, AV.refs] at h ⊢; exact AV.refs_ren x h
  | .yld _, h => by simpa [AV.ren, AV.refs] using h
theorem AV.refsL_ren {f : Nat → Nat} {g : Nat} : ∀ (xs : List AV), g ∈ AV.refsL (AV.renL f xs) → ∃ k ∈ AV.refsL xs, g = f k
  | [], h => by simp [AV.renL, AV.refsL] at h
  | x :: xs, h => by
    simp only [AV.renL, AV.refsL, List.mem_append] at h ⊢
    rcases h with h | h
    · obtain ⟨k, h1, h2⟩ := AV.refs_ren x h; exact ⟨k, .inl h1, h2⟩
    · obtain ⟨k, h1, h2⟩ := AV.refsL_ren xs h; exact ⟨k, .inr h1, h2⟩
end

section
variable {P : Program} {H : Handler} {E : Ext1} {F : Fence} {m : Nat} {w0 : World} {O : Nat → Prop} {I0 : Imm}

theorem apply_nil {r : Rec} (h1 : r.wr = []) (h2 : r.app = []) (G : List GObj) : r.apply G = G := by simp [Rec.apply, h1, h2, setAll]

theorem dcall_sound (hH : HOK P H) (hE : EOK P E) (hN : NoCount P) (hF : Wide F) {φ0 φ : Emb} {T T2 : List AV} {G G2 : List GObj} {a : Act} {w : World} {o : Oper} {c : Call} {r : Rec}
    (ho : o.op = .call c) (hk : kindOf o.op = .C) (hd : dcall P H E T G o.dst c = some r) (hop : ∀ x ∈ o.op.operands.toList, aeval T x = aeval T2 x)
    (hrd : ∀ g ∈ r.rd, G[g]? = G2[g]?) (hch : r.chain = true → G.length = G2.length) (hx : Ext φ0 φ) (h : Ctx w0 O I0 φ G2 w) (hT : AV.relL φ T2 a.tmps.toList) {next : Act → World → Prop} {Q : Exit → Act → World → Prop}
    (hn : ∀ (φ' : Emb) (v : Value) (w' : World), Ext φ0 φ' → Ctx w0 O I0 φ' (r.apply G2) w' → AV.relL φ' T2 a.tmps.toList → AV.rel φ' r.v v → next (a.put o.dst v) w') : o.wpIn F m P a w next Q := by
  have hnd : ∀ d, o.op ≠ .defer d := fun d e => by rw [ho] at e; cases e
  have hnb : ∀ b, c.callee ≠ .builtin b := fun b e => by
    rw [ho] at hk
    obtain ⟨cal, args, ats⟩ := c
    simp only at e
    subst e
    cases b <;> simp [kindOf] at hk
  have hex : execOp a.eval o = (do let d ← resolve a.eval c o.type; invoke d.target d.args) := by simp [execOp, ho]
  unfold dcall at hd
  split at hd
  · rename_i g args ht
    have ht2 : target P T2 c = some (g, args) := by rw [← target_congr (T := T) (T2 := T2) (fun x hx => hop x (by rw [ho]; exact hx))]; exact ht
    obtain ⟨vs, hvs, hrun⟩ := target_sound hT ht2 o.type w
    refine ⟨fun f _ => hF.fn f, ?_⟩
    rw [Oper.semAt_eq _ _ _ hnd, hex, hrun]
    split at hd
    · rename_i hb
      rw [run_callFunc hN hb]
      refine ⟨fun hd => by simp [hF.depth] at hd, ?_⟩
      split at hd
      · rename_i ρ argsc Gc hl
        split at hd
        · rename_i q hq
          simp only [Option.map_eq_some_iff] at hd
          obtain ⟨r', hr', rfl⟩ := hd
          have hL := localize_sound (φ := φ) hl
          have hlen := hch rfl
          have hL2 := hL.other hrd
          obtain ⟨r2, hr2, he, hdr⟩ := mergeBack_other hr' hL.nd hL.lt hlen
          have hap : (turned o.dst ρ ρ false G r').apply G2 = r2 := turned_apply (mergeBack_turns hr') (mergeBack_turns hr2) hlen hrd he hdr
          have hc := hH g argsc Gc (· = q) (by rw [hq]; exact rfl) (φ.down ρ) w vs (down_rel h.rel hL2) (by rw [hL2.ea]; exact AV.renL_rel (down_same hL2) _ _ hL2.sub hvs) (m - 1)
          refine CallsIn.mono (hF.calls hc) ?_
          rintro e w' ⟨v, r1, φ', rfl, rfl, k2, k3, k4⟩
          obtain ⟨φ2, x1, x2, x3⟩ := call_back h hL2 k2 k3 k4 hr2
          exact hn φ2 v w' (hx.trans x1) (by rw [hap]; exact x2) (AV.relL_ext x1 _ _ hT) x3
        · simp at hd
      · simp at hd
    · split at hd
      · rename_i v hv
        simp only [Option.bind_eq_some_iff] at hv
        obtain ⟨us, hus, hv⟩ := hv
        obtain rfl := concL_rel hus hvs
        simp only [Option.map_eq_some_iff] at hd
        obtain ⟨z, hz, rfl⟩ := hd
        rw [hE g _ v hv w]
        exact hn φ v w hx (by rw [apply_nil rfl rfl]; exact h) hT (show AV.rel φ (.p z) v from absV_rel hz)
      · simp at hd
  · simp at hd

theorem dstep_sound (hH : HOK P H) (hE : EOK P E) (hN : NoCount P) (hF : Wide F) {φ0 φ : Emb} {ops : Array Oper} {slot : Nat} {T T2 : List AV} {G G2 : List GObj} {a : Act} {w : World} {o : Oper} {r : Rec}
    (hd : dstep P H E ops slot T G o = some r) (hw : wantedA ops T2 o = wantedA ops T o) (hop : ∀ x ∈ o.op.operands.toList, aeval T x = aeval T2 x)
    (hrd : ∀ g ∈ r.rd, G[g]? = G2[g]?) (hbar : r.bar = true → G = G2) (hch : r.chain = true → G.length = G2.length)
    (hslot : ∀ s, r.slot = some s → G2[s]? = some .dead ∧ (∀ o ∈ G2, s ∉ o.refs) ∧ (∀ x ∈ T2, s ∉ x.refs) ∧ φ0.n ≤ s)
    (hx : Ext φ0 φ) (h : Ctx w0 O I0 φ G2 w) (hT : AV.relL φ T2 a.tmps.toList) {next : Act → World → Prop} {Q : Exit → Act → World → Prop}
    (hn : ∀ (φ' : Emb) (v : Value) (w' : World), Ext φ0 φ' → Ctx w0 O I0 φ' (r.apply G2) w' → AV.relL φ' T2 a.tmps.toList → AV.rel φ' r.v v → next (a.put o.dst v) w') :
    if Region.wanted o (yielded ops a.tmps) then o.wpIn F m P a w next Q else (∀ f, o.about P w a.eval = some f → F.fn f) ∧ next (a.put o.dst undef) w := by
  rw [wanted_sound hT ops o, hw]
  unfold dstep at hd
  cases hwa : wantedA ops T o with
  | false =>
    simp only [hwa, Bool.false_eq_true, if_false] at hd ⊢
    cases hd
    exact ⟨fun f _ => hF.fn f, hn φ undef w hx (by rw [apply_nil rfl rfl]; exact h) hT aundef_rel⟩
  | true =>
    simp only [hwa, if_true] at hd ⊢
    have plain : ∀ {r' : AV × List GObj}, kindOf o.op ≠ .C → kindOf o.op ≠ .X → aop P T2 G2 o = some r' → (∀ (φ' : Emb) (v : Value) (w' : World), Ext φ φ' → Ctx w0 O I0 φ' r'.2 w' → AV.rel φ' r'.1 v → next (a.put o.dst v) w') → o.wpIn F m P a w next Q := by
      intro r' h1 h2 hr hk
      refine astep_sound (K := (· = r')) hH hE hN hF h hT (by rw [astep_plain h1 h2, hr]; exact rfl) ?_
      rintro φ' q v w' x1 x2 x3 rfl
      exact hk φ' v w' x1 x2 x3
    have same : ∀ {r' : AV × List GObj}, kindOf o.op ≠ .C → kindOf o.op ≠ .X → aop P T2 G2 o = some r' → r'.1 = r.v → r'.2 = r.apply G2 → o.wpIn F m P a w next Q := by
      intro r' h1 h2 hr e1 e2
      refine plain h1 h2 hr fun φ' v w' x1 x2 x3 => hn φ' v w' (hx.trans x1) (by rw [← e2]; exact x2) (AV.relL_ext x1 _ _ hT) (by rw [← e1]; exact x3)
    have cg : ∀ {G : List GObj}, aop P T2 G o = aop P T G o := fun {G} => (aop_congr hop).symm
    cases hk : kindOf o.op with
    | S =>
      simp only [hk, Option.map_eq_some_iff] at hd
      obtain ⟨⟨v, G1⟩, hr, rfl⟩ := hd
      exact same (by simp [hk]) (by simp [hk]) (by rw [cg]; exact aop_S hk hr G2) rfl (apply_nil rfl rfl G2).symm
    | R =>
      simp only [hk, Option.map_eq_some_iff] at hd
      obtain ⟨⟨v, G1⟩, hr, rfl⟩ := hd
      exact same (by simp [hk]) (by simp [hk]) (by rw [cg]; exact (aop_R hk hr).2 G2 hrd) rfl (apply_nil rfl rfl G2).symm
    | I =>
      simp only [hk, Option.map_eq_some_iff] at hd
      obtain ⟨⟨v, G1⟩, hr, rfl⟩ := hd
      exact same (by simp [hk]) (by simp [hk]) (by rw [cg]; exact (aop_I hk hr).2 G2 (fun g hg => shapeOf_of (hrd g hg))) rfl (apply_nil rfl rfl G2).symm
    | B =>
      simp only [hk, Option.map_eq_some_iff] at hd
      obtain ⟨⟨v, G1⟩, hr, rfl⟩ := hd
      have e := hbar rfl
      subst e
      refine same (r' := (v, G1)) (by simp [hk]) (by simp [hk]) (by rw [cg]; exact hr) rfl ?_
      have ht := aop_B hk hr
      exact (turned_apply (r := (v, G1)) ht ht rfl (fun _ _ => rfl) (fun _ _ => rfl) rfl).symm
    | C =>
      simp only [hk] at hd
      split at hd
      · rename_i c ho
        exact dcall_sound hH hE hN hF ho hk hd hop hrd hch hx h hT hn
      · simp at hd
    | X => simp only [hk] at hd; cases hd
    | A =>
      simp only [hk] at hd
      split at hd
      · rename_i v ob hr
        split at hd
        · rename_i hob
          cases hd
          have hr2 := aop_A hk hr G2
          obtain ⟨s1, s2, s3, s4⟩ := hslot slot rfl
          refine plain (by simp [hk]) (by simp [hk]) (by rw [cg]; exact hr2) fun φ' u w' x1 x2 x3 => ?_
          simp only at x2 x3
          have hlen := h.rel.n
          obtain ⟨φ2, hsame, hc2⟩ := x2.fill s1 (fun o ho => ⟨s2 o ho, fun hm => by
            have := h.rel.refs_lt ho _ hm
            omega⟩) hob
          have hslt : slot < G2.length := (List.getElem?_eq_some_iff.1 s1).1
          have hf : ∀ g, g < φ.n → (if g = G2.length then slot else g) = g := fun g hg => by rw [if_neg (by omega)]
          refine hn φ2 u w' ⟨?_, fun b c e => hsame.I b c (x1.I b c (hx.I b c e)), ?_, ?_, ?_, ?_⟩ (by simpa [Rec.apply, setAll] using hc2) ?_ ?_
          · have h2 := hc2.rel.n
            have := hx.n
            simp at h2
            omega
          · intro g hg
            have h1 : g < φ.n := Nat.lt_of_lt_of_le hg hx.n
            have := hsame.blk g (by omega) (Nat.lt_of_lt_of_le h1 x1.n)
            rw [hf g h1] at this
            rw [this, x1.blk g h1, hx.blk g hg]
          · intro g hg
            have h1 : g < φ.n := Nat.lt_of_lt_of_le hg hx.n
            have := hsame.bas g (by omega) (Nat.lt_of_lt_of_le h1 x1.n)
            rw [hf g h1] at this
            rw [this, x1.bas g h1, hx.bas g hg]
          · intro g hg
            have h1 : g < φ.n := Nat.lt_of_lt_of_le hg hx.n
            have := hsame.siz g (by omega) (Nat.lt_of_lt_of_le h1 x1.n)
            rw [hf g h1] at this
            rw [this, x1.siz g h1, hx.siz g hg]
          · intro g hg
            have h1 : g < φ.n := Nat.lt_of_lt_of_le hg hx.n
            have := hsame.esz g (by omega) (Nat.lt_of_lt_of_le h1 x1.n)
            rw [hf g h1] at this
            rw [this, x1.esz g h1, hx.esz g hg]
          · have h1 := AV.renL_rel hsame T2 _ (fun g hg => by
              obtain ⟨x, hx', hg'⟩ := refsL_mem.1 hg
              exact fun e => s3 x hx' (e ▸ hg')) (AV.relL_ext x1 _ _ hT)
            rw [AV.renL_id T2 (fun g hg => hf g (AV.refsL_lt T2 _ hT g hg))] at h1
            exact h1
          · have h1 := AV.ren_rel hsame _ _ (fun g hg => by
              obtain ⟨k, _, e⟩ := AV.refs_ren v hg
              subst e
              omega) x3
            rw [AV.ren_ren] at h1
            simpa using h1
        · simp at hd
      · simp at hd
end
end Go.Ks
