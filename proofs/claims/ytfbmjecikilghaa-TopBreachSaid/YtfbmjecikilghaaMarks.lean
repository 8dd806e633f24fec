/- A function that ranges over functions many times leaves with many marks. -/
import Derived.Test.YtfbmjecikilghaaMem
import Derived.RangeFuncLeaves
import Derived.RangeFuncRecord
namespace Go.Proofs.Ytfbmjecikilghaa
open Go.RowKit

def markOf (D : Nat) : Deferred := { target := .collected D, args := #[] }

/-- The blocks of the marks are shut; nothing else is turned. -/
structure MarksOff (Ds : List Nat) (w w' : World) : Prop where
  os : w'.os = w.os
  tape : w'.tape = w.tape
  output : w'.output = w.output
  size : w'.heap.size = w.heap.size
  block : ∀ k, ¬ k ∈ Ds → w'.heap[k]? = w.heap[k]?

theorem leaves_marks {P : Program} {F : Fence} {n : Nat} {fn : Func} {tmps : Array Value} {R : Ending → World → Prop} : ∀ (Ds : List Nat) (w : World), Ds.Nodup → (∀ D ∈ Ds, w.heap[D]? = some (.deferred (some []))) →
    (∀ w', MarksOff Ds w w' → ∃ v, (results fn tmps).run P w' = .ok v w' ∧ R (.returned v) w') → LeavesInM F n P fn tmps R (Ds.map markOf) .returning w
  | [], w, _, _, h => h w ⟨rfl, rfl, rfl, rfl, fun _ _ => rfl⟩
  | D :: Ds, w, hn, hd, h => by
    have hD := hd D (by simp)
    obtain ⟨h1, h2⟩ := List.nodup_cons.1 hn
    refine ⟨by simp, .inl ⟨D, w.putObj D (.deferred none), rfl, run_takeDeferred hD, ?_⟩⟩
    refine leaves_marks Ds _ h2 (fun E hE => ?_) (fun w' hw' => h w' ?_)
    · exact (World.putObj_heap_other (by intro e; subst e; exact h1 hE)).trans (hd E (List.mem_cons_of_mem _ hE))
    · refine ⟨hw'.os.trans rfl, hw'.tape.trans rfl, hw'.output.trans rfl, hw'.size.trans (by simp), fun k hk => ?_⟩
      refine (hw'.block k (fun hm => hk (List.mem_cons_of_mem _ hm))).trans ?_
      exact World.putObj_heap_other (by intro e; subst e; exact hk (by simp))
end Go.Proofs.Ytfbmjecikilghaa
