/- An abstract evaluator for the model's code, part J: maps; interface values; scalars. -/
import Derived.Test.YtdlofomblpdiaaaGreatKsI
namespace Go.Ks
noncomputable section
section
variable {P : Program} {w0 : World} {O : Nat → Prop} {I0 : Imm} {φ : Emb} {G : List GObj} {w : World}

theorem pureIn_bind {α β : Type} (P : Program) (x : Sem α) (f : α → Sem β) : pureIn P (x.bind f) = (pureIn P x).bind fun a => pureIn P (f a) := by
  induction x with
  | pure a => rfl
  | program k ih => exact ih P
  | _ => rfl

/-- The keys of entries, as the model has them, with numbers in the elements' place. -/
def keyRows : List (PV × PV) → Nat → Option (List MapEntry)
  | [], _ => some []
  | e :: es, i => match e.1.conc, keyRows es (i + 1) with
    | some k, some r => some ({ key := k, val := .int .i64 i, born := 0 } :: r)
    | _, _ => none
/-- Which entry has a key. -/
def keyAt (P : Program) (kt : TypeId) (k : Value) (es : List (PV × PV)) : Option (Option Nat) :=
  match keyRows es 0 with
  | some rows => (pureIn P (Instr.findKey kt k rows)).map fun r => r.map (·.1)
  | none => none

def SameKeys : List MapEntry → List MapEntry → Prop
  | [], ms => ms = []
  | e :: es, ms => ∃ m r, ms = m :: r ∧ e.key = m.key ∧ SameKeys es r
theorem keyRows_same {I : Imm} : ∀ {es : List (PV × PV)} {ms rows : List MapEntry} {i : Nat}, relM I es ms → keyRows es i = some rows → SameKeys rows ms
  | [], ms, rows, i, h, hr => by
    cases hr
    exact h
  | e :: es, ms, rows, i, h, hr => by
    obtain ⟨m, r, rfl, h1, h2, h3⟩ := h
    simp only [keyRows] at hr
    split at hr
    · rename_i k r' hk hr'
      cases hr
      exact ⟨m, r, rfl, ((PV.conc_rel hk).1 h1).symm, keyRows_same h3 hr'⟩
    · simp at hr

theorem findNow_same (kd : TypeDesc) (k : Value) : ∀ {es ms : List MapEntry} (i : Nat), SameKeys es ms → (Instr.findNow kd k es i).map (fun r => r.map (·.1)) = (Instr.findNow kd k ms i).map (fun r => r.map (·.1)) ∧
    ∀ j v, Instr.findNow kd k ms i = some (some (j, v)) → i ≤ j ∧ (ms[j - i]?).map (·.val) = some v
  | [], ms, i, h => by
    simp only [SameKeys] at h
    subst h
    simp [Instr.findNow]
  | e :: es, ms, i, h => by
    obtain ⟨m, r, rfl, hk, hs⟩ := h
    simp only [Instr.findNow, hk]
    cases Instr.sameNow kd k m.key with
    | none => simp
    | some b =>
      cases b with
      | true => simp
      | false =>
        obtain ⟨h1, h2⟩ := findNow_same kd k (i + 1) hs
        refine ⟨h1, fun j v hj => ?_⟩
        obtain ⟨h3, h4⟩ := h2 j v hj
        refine ⟨by omega, ?_⟩
        rw [show j - i = (j - (i + 1)) + 1 by omega]
        simpa using h4

theorem findAsking_same (kt : TypeId) (k : Value) : ∀ {es ms : List MapEntry} (i : Nat), SameKeys es ms → (pureIn P (Instr.findAsking kt k es i)).map (fun r => r.map (·.1)) = (pureIn P (Instr.findAsking kt k ms i)).map (fun r => r.map (·.1)) ∧
    ∀ j v, pureIn P (Instr.findAsking kt k ms i) = some (some (j, v)) → i ≤ j ∧ (ms[j - i]?).map (·.val) = some v
  | [], ms, i, h => by
    simp only [SameKeys] at h
    subst h
    refine ⟨rfl, fun j v hj => ?_⟩
    simp [Instr.findAsking, pureIn, Pure.pure] at hj
  | e :: es, ms, i, h => by
    obtain ⟨m, r, rfl, hk, hs⟩ := h
    have hb : ∀ (e' : MapEntry) (es' : List MapEntry), e'.key = m.key → pureIn P (Instr.findAsking kt k (e' :: es') i) = (pureIn P (Op.equal kt k m.key)).bind fun b => if b = true then some (some (i, e'.val)) else pureIn P (Instr.findAsking kt k es' (i + 1)) := by
      intro e' es' he
      simp only [Instr.findAsking, he]
      show pureIn P ((Op.equal kt k m.key).bind _) = _
      rw [pureIn_bind]
      congr 1
      funext b
      cases b <;> simp [pureIn, Pure.pure]
    rw [hb e es hk, hb m r rfl]
    cases pureIn P (Op.equal kt k m.key) with
    | none => simp
    | some b =>
      cases b with
      | true => simp
      | false =>
        obtain ⟨h1, h2⟩ := findAsking_same kt k (i + 1) hs
        simp only [Option.bind_some, Bool.false_eq_true, if_false]
        refine ⟨h1, fun j v hj => ?_⟩
        obtain ⟨h3, h4⟩ := h2 j v hj
        refine ⟨by omega, ?_⟩
        rw [show j - i = (j - (i + 1)) + 1 by omega]
        simpa using h4

theorem pureIn_under {t : TypeId} {d : TypeDesc} (h : P.underlying t = some d) : pureIn P (underlying t) = some d := by
  simp only [underlying, program, Bind.bind, Sem.bind, pureIn, h]
  rfl
theorem pureIn_findKey {kt : TypeId} {k : Value} {es : List MapEntry} : pureIn P (Instr.findKey kt k es) = (P.underlying kt).bind fun d => match Instr.findNow d k es 0 with
    | some r => some r
    | none => pureIn P (Instr.findAsking kt k es 0) := by
  simp only [Instr.findKey]
  show pureIn P ((underlying kt).bind _) = _
  rw [pureIn_bind]
  cases hu : P.underlying kt with
  | none => simp [underlying, program, Bind.bind, Sem.bind, pureIn, hu, stuck]
  | some d =>
    rw [pureIn_under hu]
    simp only [Option.bind_some]
    split <;> rename_i h <;> simp [h, pureIn, Pure.pure]

theorem keyAt_sound {kt : TypeId} {k : Value} {es : List (PV × PV)} {ms : List MapEntry} {r : Option Nat} (hm : relM φ.I es ms) (hk : keyAt P kt k es = some r) :
    ∃ r' : Option (Nat × Value), (Instr.findKey kt k ms).run P w = .ok r' w ∧ r'.map (·.1) = r ∧ ∀ j v, r' = some (j, v) → (ms[j]?).map (·.val) = some v := by
  unfold keyAt at hk
  split at hk
  · rename_i rows hrows
    have hs := keyRows_same hm hrows
    rw [pureIn_findKey] at hk
    cases hu : P.underlying kt with
    | none => simp [hu] at hk
    | some d =>
      simp only [hu, Option.bind_some] at hk
      obtain ⟨f1, f2⟩ := findNow_same d k 0 hs
      obtain ⟨g1, g2⟩ := findAsking_same (P := P) kt k 0 hs
      have hp : ∃ r', pureIn P (Instr.findKey kt k ms) = some r' ∧ r'.map (·.1) = r ∧ ∀ j v, r' = some (j, v) → (ms[j]?).map (·.val) = some v := by
        rw [pureIn_findKey, hu]
        simp only [Option.bind_some]
        cases hn : Instr.findNow d k rows 0 with
        | some x =>
          rw [hn] at f1 hk
          cases hn' : Instr.findNow d k ms 0 with
          | none => rw [hn'] at f1; simp at f1
          | some y =>
            rw [hn'] at f1
            simp only [Option.map_some, Option.some.injEq] at f1 hk
            refine ⟨y, rfl, by rw [← f1]; exact hk, fun j v e => ?_⟩
            have := f2 j v (by rw [hn', e])
            simpa using this.2
        | none =>
          rw [hn] at f1 hk
          cases hn' : Instr.findNow d k ms 0 with
          | some y => rw [hn'] at f1; simp at f1
          | none =>
            simp only at hk ⊢
            rw [g1] at hk
            simp only [Option.map_eq_some_iff] at hk
            obtain ⟨y, hy, he⟩ := hk
            refine ⟨y, hy, he, fun j v e => ?_⟩
            have := g2 j v (by rw [hy, e])
            simpa using this.2
      obtain ⟨r', h1, h2, h3⟩ := hp
      exact ⟨r', run_pureIn h1 w, h2, h3⟩
  · simp at hk

theorem relM_get {I : Imm} : ∀ {es : List (PV × PV)} {ms : List MapEntry}, relM I es ms → ∀ (i : Nat) (e : PV × PV), es[i]? = some e → ∃ m, ms[i]? = some m ∧ e.1.rel I m.key ∧ e.2.rel I m.val
  | [], _, _, i, e, he => by simp at he
  | x :: xs, _, h, i, e, he => by
    obtain ⟨m, r, rfl, h1, h2, h3⟩ := h
    cases i with
    | zero => simp only [List.getElem?_cons_zero, Option.some.injEq] at he; subst he; exact ⟨m, by simp, h1, h2⟩
    | succ i =>
      simp only [List.getElem?_cons_succ] at he ⊢
      exact relM_get h3 i e he
theorem relM_set {I : Imm} : ∀ {es : List (PV × PV)} {ms : List MapEntry}, relM I es ms → ∀ (i : Nat) (e : PV × PV) (m : MapEntry), e.1.rel I m.key → e.2.rel I m.val → relM I (es.set i e) (ms.set i m)
  | [], ms, h, i, e, m, _, _ => by simp only [relM] at h; subst h; simp [relM]
  | x :: xs, _, h, i, e, m, h1, h2 => by
    obtain ⟨m', r, rfl, k1, k2, k3⟩ := h
    cases i with
    | zero => exact ⟨m, r, by simp, h1, h2, k3⟩
    | succ i => exact ⟨m', _, by simp, k1, k2, relM_set k3 i e m h1 h2⟩
theorem relM_append {I : Imm} : ∀ {es : List (PV × PV)} {ms : List MapEntry}, relM I es ms → ∀ (e : PV × PV) (m : MapEntry), e.1.rel I m.key → e.2.rel I m.val → relM I (es ++ [e]) (ms ++ [m])
  | [], ms, h, e, m, h1, h2 => by simp only [relM] at h; subst h; exact ⟨m, [], rfl, h1, h2, rfl⟩
  | x :: xs, _, h, e, m, h1, h2 => by
    obtain ⟨m', r, rfl, k1, k2, k3⟩ := h
    exact ⟨m', _, rfl, k1, k2, relM_append k3 e m h1 h2⟩
theorem relM_erase {I : Imm} : ∀ {es : List (PV × PV)} {ms : List MapEntry}, relM I es ms → ∀ (i : Nat), relM I (es.eraseIdx i) (ms.eraseIdx i)
  | [], ms, h, i => by simp only [relM] at h; subst h; simp [relM]
  | x :: xs, _, h, i => by
    obtain ⟨m', r, rfl, k1, k2, k3⟩ := h
    cases i with
    | zero => exact k3
    | succ i => exact ⟨m', _, by simp, k1, k2, relM_erase k3 i⟩

/-- May the key be asked for? -/
def keyFine (P : Program) (empty : Bool) (kt : TypeId) (k : Value) : Bool := (pureIn P (Instr.checkKey empty 10000 kt k)).isSome
theorem keyFine_run {empty : Bool} {kt : TypeId} {k : Value} (h : keyFine P empty kt k = true) : (Instr.checkKey empty 10000 kt k).run P w = .ok () w := by
  unfold keyFine at h
  rw [Option.isSome_iff_exists] at h
  obtain ⟨a, ha⟩ := h
  exact run_pureIn ha w

def AV.conc : AV → Option Value
  | .p x => x.conc
  | _ => none
theorem AV.conc_rel {x : AV} {u v : Value} (hc : x.conc = some u) (hx : AV.rel φ x v) : v = u := by
  cases x with
  | p y => exact (PV.conc_rel hc).1 hx
  | _ => simp [AV.conc] at hc

def aLookup (P : Program) (G : List GObj) (t : TypeId) (x k : AV) (ok : Bool) : Option AV :=
  match P.underlying t, k.conc with
  | some (.map kt et), some kv => match P.info? et with
    | some ie => match ie.zero.bind absV with
      | some z => match (match x with
          | .mp g => match G[g]? with
            | some (.map es _ _) => some es
            | _ => none
          | .p .nilmap => some []
          | _ => none) with
        | some es => if keyFine P es.isEmpty kt kv = true then match keyAt P kt kv es with
          | some (some i) => match es[i]? with
            | some e => some (if ok then .p (.tup [e.2, .bool true]) else .p e.2)
            | none => none
          | some none => some (if ok then .p (.tup [z, .bool false]) else .p z)
          | none => none
          else none
        | none => none
      | none => none
    | none => none
  | _, _ => none
theorem aLookup_sound (h : Ctx w0 O I0 φ G w) {t : TypeId} {x k y : AV} {vx vk : Value} {ok : Bool} (hx : AV.rel φ x vx) (hk : AV.rel φ k vk) (hy : aLookup P G t x k ok = some y) :
    ∃ u, (Instr.lookup t vx vk ok).run P w = .ok u w ∧ AV.rel φ y u := by
  unfold aLookup at hy
  split at hy
  · rename_i kt et kv hu hkc
    obtain rfl := AV.conc_rel hkc hk
    split at hy
    · rename_i ie hie
      split at hy
      · rename_i z hz
        simp only [Option.bind_eq_some_iff] at hz
        obtain ⟨zv, hz1, hz2⟩ := hz
        have hzr : PV.rel φ.I z zv := absV_rel hz2
        split at hy
        · rename_i es hes
          split at hy
          · rename_i hf
            have hms : ∃ ms : List MapEntry, relM φ.I es ms ∧ ((vx = .map none ∧ ms = []) ∨ ∃ b clk, vx = .map (some b) ∧ (getObj b).run P w = .ok (.map ms.toArray clk) w) := by
              cases x with
              | mp g =>
                simp only at hes
                split at hes
                · rename_i es' bs' clk' hg
                  cases hes
                  obtain ⟨hlt, rfl⟩ := hx
                  obtain ⟨ms, h1, h2, _⟩ := h.rel.obj g _ hg
                  exact ⟨ms, h2, .inr ⟨_, clk', rfl, by simp [getObj, Sem.run, h1]⟩⟩
                · simp at hes
              | p q =>
                cases q with
                | nilmap =>
                  cases hes
                  have : vx = .map none := by have : PV.rel φ.I .nilmap vx := hx; simpa [PV.rel] using this
                  exact ⟨[], rfl, .inl ⟨this, rfl⟩⟩
                | _ => simp at hes
              | _ => simp at hes
            obtain ⟨ms, hm, hrun⟩ := hms
            clear hes hx
            have hemp : ms.toArray.isEmpty = es.isEmpty := by
              have := relM_length hm
              cases es <;> cases ms <;> simp_all
            have hcf := keyFine_run (P := P) (w := w) hf
            rw [← hemp] at hcf
            split at hy
            · rename_i i hka
              obtain ⟨r', h1, h2, h3⟩ := keyAt_sound (w := w) hm hka
              split at hy
              · rename_i e he
                obtain ⟨m, hm1, hm2, hm3⟩ := relM_get hm i e he
                cases r' with
                | none => simp at h2
                | some jv =>
                  obtain ⟨j, v⟩ := jv
                  simp only [Option.map_some, Option.some.injEq] at h2
                  subst h2
                  have hv := h3 j v rfl
                  rw [hm1] at hv
                  simp only [Option.map_some, Option.some.injEq] at hv
                  subst hv
                  cases hy
                  refine ⟨if ok then .tuple #[m.val, .bool true] else m.val, ?_, ?_⟩
                  · rcases hrun with ⟨rfl, rfl⟩ | ⟨b, clk, rfl, hgo⟩
                    · simp at hm1
                    · simp only [Instr.lookup, Sem.run_bind, run_under hu, Result.andThen, hgo, hcf, h1, Sem.run_pure]
                  · cases ok with
                    | true =>
                      show PV.rel φ.I _ _
                      simp only [PV.rel, if_true]
                      exact ⟨[m.val, .bool true], rfl, rfl, by simp only [PV.relT]; exact ⟨_, _, rfl, hm3, _, _, rfl, by simp [PV.rel], trivial⟩⟩
                    | false => exact hm3
              · simp at hy
            · rename_i hka
              obtain ⟨r', h1, h2, h3⟩ := keyAt_sound (w := w) hm hka
              cases r' with
              | some jv => simp at h2
              | none =>
                cases hy
                refine ⟨if ok then .tuple #[zv, .bool false] else zv, ?_, ?_⟩
                · rcases hrun with ⟨rfl, rfl⟩ | ⟨b, clk, rfl, hgo⟩
                  · simp only [Instr.lookup, Sem.run_bind, run_under hu, Result.andThen, hcf, h1, run_zero hie hz1, Sem.run_pure]
                  · simp only [Instr.lookup, Sem.run_bind, run_under hu, Result.andThen, hgo, hcf, h1, run_zero hie hz1, Sem.run_pure]
                · cases ok with
                  | true =>
                    show PV.rel φ.I _ _
                    simp only [PV.rel, if_true]
                    exact ⟨[zv, .bool false], rfl, rfl, by simp only [PV.relT]; exact ⟨_, _, rfl, hzr, _, _, rfl, by simp [PV.rel], trivial⟩⟩
                  | false => exact hzr
            · simp at hy
          · simp at hy
        · simp at hy
      · simp at hy
    · simp at hy
  · simp at hy

theorem set_same {α : Type} {l : List α} {i : Nat} {x : α} (h : l[i]? = some x) : l.set i x = l := by
  apply List.ext_getElem?
  intro j
  rw [List.getElem?_set]
  split
  · rename_i e
    subst e
    split
    · exact h.symm
    · rename_i hlt; exact absurd (List.getElem?_eq_some_iff.1 h).1 hlt
  · rfl
theorem map_eraseIdx {α β : Type} (f : α → β) : ∀ (l : List α) (i : Nat), (l.eraseIdx i).map f = (l.map f).eraseIdx i
  | [], _ => by simp
  | x :: xs, 0 => by simp
  | x :: xs, i + 1 => by simp [map_eraseIdx f xs i]
theorem modify_set {α : Type} {l : List α} {i : Nat} {x : α} (h : l[i]? = some x) (f : α → α) : l.modify i f = l.set i (f x) := by
  apply List.ext_getElem?
  intro j
  rw [List.getElem?_modify, List.getElem?_set]
  have hi := (List.getElem?_eq_some_iff.1 h).1
  by_cases e : i = j
  · subst e
    have he : l[i] = x := (List.getElem?_eq_some_iff.1 h).2
    simp [hi, he]
  · simp [e]
def aMapUpdate (P : Program) (G : List GObj) (t : TypeId) (m k v : AV) : Option (List GObj) :=
  match P.underlying t, k with
  | some (.map kt _), .p kp => match kp.conc, plainOf G v with
    | some kv, some (y, G1) => match m with
      | .mp g => match G1[g]? with
        | some (.map es bs clk) => if keyFine P false kt kv = true ∧ Instr.sameBits 10000 kv kv = true then match keyAt P kt kv es with
          | some (some i) => match es[i]? with
            | some e => if (e.1.conc).elim false (fun old => Instr.sameBits 10000 old kv) = true then some (G1.set g (.map (es.set i (kp, y)) bs clk)) else none
            | none => none
          | some none => some (G1.set g (.map (es ++ [(kp, y)]) (bs ++ [clk]) (clk + 1)))
          | none => none
          else none
        | _ => none
      | _ => none
    | _, _ => none
  | _, _ => none
theorem aMapUpdate_sound (h : Ctx w0 O I0 φ G w) {t : TypeId} {m k v : AV} {vm vk vv : Value} (hm : AV.rel φ m vm) (hk : AV.rel φ k vk) (hv : AV.rel φ v vv) {G' : List GObj} (hr : aMapUpdate P G t m k v = some G') :
    ∃ w' φ', (Instr.mapUpdate t vm vk vv).run P w = .ok () w' ∧ Ext φ φ' ∧ Ctx w0 O I0 φ' G' w' := by
  unfold aMapUpdate at hr
  split at hr
  · rename_i kt et kp hu
    split at hr
    · rename_i kv y G1 hkc hp
      have hk' : PV.rel φ.I kp vk := hk
      obtain rfl := (PV.conc_rel hkc).1 hk'
      obtain ⟨φ1, x1, c1, r1⟩ := plainOf_sound h hv hp
      have hk1 := PV.rel_mono x1.I _ _ hk'
      cases m with
      | mp g =>
        simp only at hr
        split at hr
        · rename_i es bs clk hg
          split at hr
          · rename_i hc
            obtain ⟨hf, hsb⟩ := hc
            obtain ⟨hlt, rfl⟩ := AV.rel_ext x1 _ _ hm
            obtain ⟨ms, h1, h2, hbs⟩ := c1.rel.obj g _ hg
            have hcf := keyFine_run (P := P) (w := w) hf
            have hgo : (getObj (φ1.blk g)).run P w = .ok (.map ms.toArray clk) w := by simp [getObj, Sem.run, h1]
            have hset : ∀ o : Obj, (setObj (φ1.blk g) o).run P w = .ok () { w with heap := w.heap.setIfInBounds (φ1.blk g) o } := fun o => by simp [setObj, Sem.run, h1]
            have hblk := (Array.getElem?_eq_some_iff.1 h1).1
            have wr : ∀ o : Obj, Wrote w { w with heap := w.heap.setIfInBounds (φ1.blk g) o } (φ1.blk g) := fun o => ⟨by simp, fun j hj => by simp [Array.getElem?_setIfInBounds, Ne.symm hj], rfl, rfl, rfl⟩
            have hat : ∀ o : Obj, (w.heap.setIfInBounds (φ1.blk g) o)[φ1.blk g]? = some o := fun o => by simp [hblk]
            split at hr
            · rename_i i hka
              obtain ⟨r', k1, k2, k3⟩ := keyAt_sound (w := w) h2 hka
              split at hr
              · rename_i e he
                split at hr
                · rename_i hso
                  cases hr
                  obtain ⟨m', hm1, hm2, hm3⟩ := relM_get h2 i e he
                  cases r' with
                  | none => simp at k2
                  | some jv =>
                    obtain ⟨j, u⟩ := jv
                    simp only [Option.map_some, Option.some.injEq] at k2
                    subst k2
                    have hold : Instr.sameBits 10000 m'.key vk = true := by
                      cases hcc : e.1.conc with
                      | none => simp [hcc] at hso
                      | some old =>
                        simp only [hcc, Option.elim] at hso
                        rw [(PV.conc_rel hcc).1 hm2]
                        exact hso
                    refine ⟨_, φ1, ?_, x1, c1.upd hg rfl _ _ (wr (.map (ms.set j { m' with key := vk, val := vv }).toArray clk)).size (wr _).same rfl rfl rfl fun _ => ⟨_, hat _, relM_set h2 j (kp, y) _ hk1 r1, by rw [List.map_set, hbs]; exact set_same (by rw [← hbs, List.getElem?_map, hm1]; rfl)⟩⟩
                    have hkey : (((ms.toArray)[j]?).map (·.key)).getD vk = m'.key := by simp [hm1]
                    simp only [Instr.mapUpdate, Sem.run_bind, run_under hu, Result.andThen, hgo, hcf, k1, hkey, Instr.keyThatStays]
                    rw [if_pos hold]
                    simp only [Sem.run_pure, hset]
                    congr 3
                    congr 1
                    apply Array.ext'
                    simp only [Array.toList_modify]
                    exact modify_set hm1 _
                · simp at hr
              · simp at hr
            · rename_i hka
              obtain ⟨r', k1, k2, k3⟩ := keyAt_sound (w := w) h2 hka
              cases r' with
              | some jv => simp at k2
              | none =>
                cases hr
                refine ⟨_, φ1, ?_, x1, c1.upd hg rfl _ _ (wr (.map (ms ++ [({ key := vk, val := vv, born := clk } : MapEntry)]).toArray (clk + 1))).size (wr _).same rfl rfl rfl fun _ => ⟨_, hat _, relM_append h2 (kp, y) _ hk1 r1, by simp [hbs]⟩⟩
                simp only [Instr.mapUpdate, Sem.run_bind, run_under hu, Result.andThen, hgo, hcf, k1, hset]
                congr 3
                rw [List.push_toArray]
            · simp at hr
          · simp at hr
        · simp at hr
      | _ => simp at hr
    · simp at hr
  · simp at hr

def aMakeMap (G : List GObj) : AV × List GObj := (.mp G.length, G ++ [.map [] [] 0])
theorem aMakeMap_sound (h : Ctx w0 O I0 φ G w) (t : TypeId) :
    ∃ u w' φ', (Instr.makeMap t none).run P w = .ok u w' ∧ Ext φ φ' ∧ Ctx w0 O I0 φ' (aMakeMap G).2 w' ∧ AV.rel φ' (aMakeMap G).1 u := by
  have hx := Emb.push_ext φ w.heap.size 0 0 0
  refine ⟨.map (some w.heap.size), _, _, ?_, hx, h.new (.map [] [] 0) (.map #[] 0) 0 0 ⟨[], by rw [Emb.push_blk]; exact heap_push_new _, rfl, rfl⟩, ?_⟩
  · simp [Instr.makeMap, newObj, Sem.run]
  · refine ⟨by simp [Emb.push, h.rel.n], ?_⟩
    rw [← h.rel.n, Emb.push_blk]

def aDelete (P : Program) (G : List GObj) (t : TypeId) (m k : AV) : Option (List GObj) :=
  match P.underlying t, k.conc, m with
  | some (.map kt _), some kv, .mp g => match G[g]? with
    | some (.map es bs clk) => if keyFine P es.isEmpty kt kv = true then match keyAt P kt kv es with
      | some (some i) => some (G.set g (.map (es.eraseIdx i) (bs.eraseIdx i) clk))
      | some none => some (G.set g (.map es bs clk))
      | none => none
      else none
    | _ => none
  | _, _, _ => none
theorem aDelete_sound (h : Ctx w0 O I0 φ G w) {ats : Array TypeId} {t ty : TypeId} {m k : AV} {vm vk : Value} (ht : ats[0]? = some t) (hm : AV.rel φ m vm) (hk : AV.rel φ k vk) {G' : List GObj} (hr : aDelete P G t m k = some G') :
    ∃ w', (Builtin.delete_ ats ty #[vm, vk]).run P w = .ok (.tuple #[]) w' ∧ Ctx w0 O I0 φ G' w' := by
  unfold aDelete at hr
  split at hr
  · rename_i kt et kv g hu hkc
    obtain rfl := AV.conc_rel hkc hk
    obtain ⟨hlt, rfl⟩ := hm
    split at hr
    · rename_i es bs clk hg
      split at hr
      · rename_i hf
        obtain ⟨ms, h1, h2, hbs⟩ := h.rel.obj g _ hg
        have hemp : ms.toArray.isEmpty = es.isEmpty := by
          have := relM_length h2
          cases es <;> cases ms <;> simp_all
        have hcf := keyFine_run (P := P) (w := w) hf
        rw [← hemp] at hcf
        have hgo : (getObj (φ.blk g)).run P w = .ok (.map ms.toArray clk) w := by simp [getObj, Sem.run, h1]
        have hset : ∀ o : Obj, (setObj (φ.blk g) o).run P w = .ok () { w with heap := w.heap.setIfInBounds (φ.blk g) o } := fun o => by simp [setObj, Sem.run, h1]
        have hblk := (Array.getElem?_eq_some_iff.1 h1).1
        have wr : ∀ o : Obj, Wrote w { w with heap := w.heap.setIfInBounds (φ.blk g) o } (φ.blk g) := fun o => ⟨by simp, fun j hj => by simp [Array.getElem?_setIfInBounds, Ne.symm hj], rfl, rfl, rfl⟩
        have hat : ∀ o : Obj, (w.heap.setIfInBounds (φ.blk g) o)[φ.blk g]? = some o := fun o => by simp [hblk]
        have e0 : (#[Value.map (some (φ.blk g)), vk] : Array Value)[0]? = some (.map (some (φ.blk g))) := rfl
        have e1 : (#[Value.map (some (φ.blk g)), vk] : Array Value)[1]? = some vk := rfl
        split at hr
        · rename_i i hka
          obtain ⟨r', k1, k2, k3⟩ := keyAt_sound (w := w) h2 hka
          cases r' with
          | none => simp at k2
          | some jv =>
            obtain ⟨j, u⟩ := jv
            simp only [Option.map_some, Option.some.injEq] at k2
            subst k2
            cases hr
            refine ⟨_, ?_, h.upd hg rfl _ _ (wr (.map (ms.eraseIdx j).toArray clk)).size (wr _).same rfl rfl rfl fun _ => ⟨_, hat _, relM_erase h2 j, by rw [← hbs]; exact map_eraseIdx _ _ _⟩⟩
            simp only [Builtin.delete_, ht, e0, e1, Sem.run_bind, run_under hu, Result.andThen, hgo, hcf, k1, hset, Sem.run_pure]
            congr 3
            congr 1
            apply Array.ext'
            unfold Array.eraseIdxIfInBounds
            split
            · simp
            · rename_i hge
              simp at hge
              simp [List.eraseIdx_of_length_le hge]
        · rename_i hka
          obtain ⟨r', k1, k2, k3⟩ := keyAt_sound (w := w) h2 hka
          cases r' with
          | some jv => simp at k2
          | none =>
            cases hr
            refine ⟨_, ?_, h.upd hg rfl _ _ (wr (.map ms.toArray clk)).size (wr _).same rfl rfl rfl fun _ => ⟨_, hat _, h2, hbs⟩⟩
            simp only [Builtin.delete_, ht, e0, e1, Sem.run_bind, run_under hu, Result.andThen, hgo, hcf, k1, hset, Sem.run_pure]
        · simp at hr
      · simp at hr
    · simp at hr
  · simp at hr
end
end
end Go.Ks
