/- drill: the search for the next ride of a vehicle. -/
import Derived.Test.YtjoihijlcpnhoaaDrW
import Derived.Test.YtjoihijlcpnhoaaDrU
namespace Go.Proofs.Ytjoihijlcpnhoaa
open Go.RowKit

theorem nextRide_lt {r : RunS} {k : Nat} (h : 0 ≤ nextRide r k) : k + 1 + (nextRide r k).toNat < r.parties.length := by
  have hj := findI_lt h
  unfold nextRide at hj ⊢
  simp only [List.length_drop] at hj
  omega

theorem enters_enter1 : ∀ (args : Array Value) (w : World), (callFunc 105 args).run Try.prog w = .ok (.enter 105 args) w := by
  intro args w
  go_simp
theorem next_any {T : Town} {a1 a2 a3 a4 : Option Addr} {c1 c2 c3 c4 : Nat} {p : Plan} {p1 p2 : Option Addr} {d1 d2 B : Nat} {A : RA} {w : World} {r : RunS} {s : Int} {um : Option Nat} (h : RunM T a1 a2 a3 a4 c1 c2 c3 c4 p p1 p2 d1 d2 B A w r s um)
    {g np vc : Nat} (hvp : A.vp = .slice (some ⟨g, 0, none⟩) np vc) (hl : r.parties.length = np) (hnp : np ≤ 4352) {k qx : Nat} (hk : k < np) (hbx : w.heap[qx]? = some (.cells #[.pointer (some ⟨A.pb k, 0, none⟩)] 162 (0, 0))) (a : Option Addr) (cap : Nat)
    (ha : ∀ j (_ : j < np - (k + 1)), a = some ⟨g, k + 1, none⟩) :
    Calls Try.prog 104 #[.slice a (np - (k + 1)) cap, .func (.func 105) #[] #[.pointer (some ⟨qx, 0, none⟩)]] w
      fun e w' => e = .returned (.int .i64 (nextRide r k)) ∧ Below w.heap.size w w' := by
  have hgl := (h.ptr (i := k) (by omega) hvp).2
  have hdl : (r.parties.drop (k + 1)).length = np - (k + 1) := by rw [List.length_drop, hl]
  have h1 := indexPtr_any (r.parties.drop (k + 1)) (fun j => A.pb (k + 1 + j)) a cap 105 #[] #[.pointer (some ⟨qx, 0, none⟩)] (fun y => (r.pt k).ride && y.vehicle == (r.pt k).vehicle) w (by omega)
    (fun j hj => ⟨g, k + 1, ha j (by omega), hgl, (h.ptr (i := k + 1 + j) (by omega) hvp).1⟩) enters_enter1 (fun j hj W hW => by
      obtain ⟨hax, hcx, hpbx, _⟩ := h.pt k (by omega)
      obtain ⟨hay, hcy, hpby, _⟩ := h.pt (k + 1 + j) (by omega)
      have e1 := enter1_any W qx (A.pb k) (A.pb (k + 1 + j)) (r.pt k) (r.pt (k + 1 + j)) hax hay hcx hcy (cells_of (heap_below hW hbx) 0) (lt_of_heap (heap_below hW hbx)) (heap_below hW hpbx) (heap_below hW hpby)
      have hlt : k + 1 + j < r.parties.length := by omega
      have hg2 : (r.parties.drop (k + 1))[j] = r.pt (k + 1 + j) := by
        rw [List.getElem_drop]
        unfold RunS.pt
        rw [List.getD_eq_getElem?_getD, List.getElem?_eq_getElem hlt]
        rfl
      rw [hg2]
      exact e1)
  rw [hdl] at h1
  exact h1

theorem row_cap {w : World} {base n size g m cap : Nat} {e : TypeId} {v : Value} {xs : List Value} (h : w.ownsRow base e size v n xs) (hv : v = .slice (some ⟨g, 0, none⟩) m cap) : m ≤ cap ∧ n = m := by
  rcases h.2 with ⟨h1, _⟩ | ⟨g', cap', cur, h1, _, _, h2, _⟩
  · rw [hv] at h1; cases h1
  · rw [hv] at h1
    simp only [Value.slice.injEq] at h1
    omega

end Go.Proofs.Ytjoihijlcpnhoaa
