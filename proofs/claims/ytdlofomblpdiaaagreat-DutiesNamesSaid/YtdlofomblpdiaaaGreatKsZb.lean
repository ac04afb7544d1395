/- An abstract evaluator for the model's code, part Zb: a table of proved answers ahead of a handler. -/
import Derived.Test.YtdlofomblpdiaaaGreatKsZa
namespace Go.Ks
noncomputable section

structure Entry where
  f : FuncId
  args : List AV
  G : List GObj
  r : AV × List GObj

def Entry.fits (e : Entry) (f : FuncId) (args : List AV) (G : List GObj) : Bool := Nat.beq e.f f && (AV.sameL e.args args && sameG e.G G)
def look (tab : List Entry) (f : FuncId) (args : List AV) (G : List GObj) : Option (AV × List GObj) := match tab with
  | [] => none
  | e :: tab => if e.fits f args G = true then some e.r else look tab f args G
def EntryOK (P : Program) (e : Entry) : Prop := ACalls P e.f e.args e.G (· = e.r)
def TabOK (P : Program) (tab : List Entry) : Prop := ∀ e ∈ tab, EntryOK P e
theorem TabOK.nil {P : Program} : TabOK P [] := fun e h => by simp at h
theorem TabOK.cons {P : Program} {e : Entry} {tab : List Entry} (h : EntryOK P e) (k : TabOK P tab) : TabOK P (e :: tab) := fun x hx => by
  rcases List.mem_cons.1 hx with rfl | hx
  · exact h
  · exact k x hx
theorem look_sound {P : Program} {f : FuncId} {args : List AV} {G : List GObj} {r : AV × List GObj} : ∀ {tab : List Entry}, TabOK P tab → look tab f args G = some r → ACalls P f args G (· = r)
  | [], _, h => by simp [look] at h
  | e :: tab, hk, h => by
    simp only [look] at h
    split at h
    · rename_i hf
      cases h
      simp only [Entry.fits, Bool.and_eq_true] at hf
      have h1 := Nat.eq_of_beq_eq_true hf.1
      have h2 := AV.sameL_sound _ _ hf.2.1
      have h3 := sameG_sound _ _ hf.2.2
      have := hk e (by simp)
      unfold EntryOK at this
      rw [h1, h2, h3] at this
      exact this
    · exact look_sound (fun x hx => hk x (by simp [hx])) h
def withTab (tab : List Entry) (H : Handler) : Handler := fun f args G => match look tab f args G with
  | some r => .ret r
  | none => H f args G
theorem withTab_ok {P : Program} {tab : List Entry} {H : Handler} (ht : TabOK P tab) (hH : HOK P H) : HOK P (withTab tab H) := by
  intro f args G K hk
  unfold withTab at hk
  split at hk
  · rename_i r hr
    exact (look_sound ht hr).mono fun r' e => by subst e; exact hk
  · exact hH f args G K hk
/-- The functions of a program, each run by its text, over a table of others; answers that are known are not looked for again. -/
def callT (P : Program) (E : Ext1) (H0 : Handler) (tab : List Entry) (fuel : Nat) : Nat → Handler
  | 0 => H0
  | n + 1 => withTab tab (runFn3 P (callT P E H0 tab fuel n) E fuel)
theorem callT_sound {P : Program} {E : Ext1} {H0 : Handler} (h0 : HOK P H0) (hE : EOK P E) (hN : NoCount P) (hmix : P.follows .mixedOrders = true) {tab : List Entry} (ht : TabOK P tab) (fuel : Nat) : ∀ n, HOK P (callT P E H0 tab fuel n)
  | 0 => h0
  | n + 1 => by
    refine withTab_ok ht ?_
    rw [runFn3_eq]
    exact runFn2_sound (callT_sound h0 hE hN hmix ht fuel n) hE hN hmix fuel

/-- Is it this answer? -/
def gives (m : M (AV × List GObj)) (r : AV × List GObj) : Bool := match m with
  | .ret x => AV.same x.1 r.1 && sameG x.2 r.2
  | _ => false
theorem gives_all {m : M (AV × List GObj)} {r : AV × List GObj} (h : gives m r = true) : m.all (· = r) := by
  unfold gives at h
  split at h
  · simp only [Bool.and_eq_true] at h
    exact Prod.ext (AV.same_sound _ _ h.1) (sameG_sound _ _ h.2)
  · simp at h
theorem entry_of {P : Program} {H : Handler} (hH : HOK P H) {e : Entry} (h : gives (H e.f e.args e.G) e.r = true) : EntryOK P e := hH _ _ _ _ (gives_all h)
end
end Go.Ks
