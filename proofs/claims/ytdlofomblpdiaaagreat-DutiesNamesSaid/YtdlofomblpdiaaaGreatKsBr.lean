/- From what the abstract evaluator answers to a call's contract: nothing is written that was there. -/
import Derived.Test.YtdlofomblpdiaaaGreatKsZb
import Derived.Below
namespace Go.Ks
noncomputable section
open Go.RowKit

/-- All rows that a world holds stand still. -/
def immOf (w : World) : Imm := fun b => match w.heap[b]? with
  | some (.cells c _ _) => some c.toList
  | _ => none
def emb0 (w : World) : Emb := { n := 0, I := immOf w, blk := fun _ => 0, bas := fun _ => 0, siz := fun _ => 0, esz := fun _ => 0 }
theorem wrel0 (w : World) : WRel (emb0 w) [] w := by
  refine ⟨rfl, fun g o h => by simp at h, fun g g' o o' h => by simp at h, ?_, fun g o h => by simp at h⟩
  intro b c hb
  simp only [emb0, immOf] at hb
  split at hb
  · rename_i c' e fr h
    cases hb
    exact ⟨e, fr, by simpa using h⟩
  · cases hb

theorem calls_of {P : Program} {f : FuncId} {args : List AV} {K : AV × List GObj → Prop} (h : ACalls P f args [] K) (w : World) {vs : List Value} (hv : AV.relL (emb0 w) args vs) :
    Calls P f vs.toArray w fun e w' => ∃ (v : Value) (r : AV × List GObj) (φ' : Emb), e = .returned v ∧ K r ∧ AV.rel φ' r.1 v ∧ Below w.heap.size w w' := by
  have h1 := h (emb0 w) w vs (wrel0 w) hv 0
  rw [callsIn_wide] at h1
  refine h1.mono ?_
  rintro e w' ⟨v, r, φ', rfl, k, hx, c, hr⟩
  refine ⟨v, r, φ', rfl, k, hr, ⟨c.fr.os, c.fr.tape, c.fr.output, c.fr.size, fun b hb => c.fr.same b hb ?_⟩⟩
  rintro ⟨g, o, hg, _⟩
  simp at hg

/-- A law: it answers true. -/
theorem calls_true {P : Program} {f : FuncId} {args : List AV} (h : ACalls P f args [] fun r => r.1 = .p (.bool true)) (w : World) {vs : List Value} (hv : AV.relL (emb0 w) args vs) :
    Calls P f vs.toArray w fun e w' => e = .returned (.bool true) ∧ Below w.heap.size w w' := by
  refine (calls_of h w hv).mono ?_
  rintro e w' ⟨v, r, φ', rfl, k, hr, hb⟩
  rw [k] at hr
  have : v = .bool true := by
    have h2 : PV.rel φ'.I (.bool true) v := hr
    simpa [PV.rel] using h2
  rw [this]
  exact ⟨rfl, hb⟩
end
end Go.Ks
