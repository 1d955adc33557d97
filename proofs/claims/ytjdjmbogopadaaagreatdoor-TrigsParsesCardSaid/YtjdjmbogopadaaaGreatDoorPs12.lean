
import Derived.Test.YtjdjmbogopadaaaGreatDoorLib12
import Derived.Test.YtjdjmbogopadaaaGreatDoorAbs28
import Derived.WalkKit
namespace Go.Proofs
open Go.RowKit Go.Shelf Go.Sort
open Go.Cellar (sortS compS SPost holds_of sortS_len spost_of)

set_option maxHeartbeats 4000000 in
theorem Tryz.pathSorted_none (a : Option Addr) (c : Nat) (w : World) : Calls Tryz.prog 63 #[.slice a 0 c] w (SPost [] w) := by
  cases a with
  | none =>
    go_enter Tryz.func63, Tryz.ntmps63
    go_wp2_with (first | (go_at_call 49; refine (Tryz.slices_Clone_string_nil 0 c _).mono ?_; rintro e w1 ⟨rfl, rfl⟩) | (go_at_call 81; refine (Tryz.slices_Sort_string_none none 0 _).mono ?_; rintro e w1 ⟨rfl, rfl⟩) | (go_at_call 82; refine (Tryz.slices_Compact_string_empty none 0 _).mono ?_; rintro e w1 ⟨rfl, rfl⟩))
    go_ret
    exact ⟨_, rfl, Nat.le_refl _, fun _ _ => rfl, rfl, rfl, rfl, .inl ⟨rfl, rfl⟩⟩
  | some a =>
    go_enter Tryz.func63, Tryz.ntmps63
    go_wp2_with (first | (go_at_call 49; refine (Tryz.slices_Clone_string_zero a c _).mono ?_; rintro e w1 ⟨v1, rfl, ⟨_, ⟨hv, _⟩ | ⟨g, cap, cur, hv, hg, hh, hn, _, hcs, _⟩⟩, hnn, hbel⟩; (first | exact absurd hv hnn | subst hv)) | (go_at_call 81; refine (Tryz.slices_Sort_string_none _ _ _).mono ?_; rintro e w2 ⟨rfl, rfl⟩) | (go_at_call 82; refine (Tryz.slices_Compact_string_empty _ _ _).mono ?_; rintro e w3 ⟨rfl, rfl⟩))
    go_ret
    exact ⟨_, rfl, hbel.size, fun k hk => hbel.block k hk, hbel.os, hbel.tape, hbel.output, .inr ⟨g, cap, cur, 9, rfl, hg, hh, hn, by rw [hcs]; simp, by simp⟩⟩

theorem fixTake {cur : Array Value} {l : List (List UInt8)} (h : cur.toList.take (l.length * 1) = (List.take l.length (l.map fun x => (⟨x.toArray⟩ : ByteArray))).map Value.string) : cur.toList.take l.length = l.map encStr := by
  have e : (l.map fun x => (⟨x.toArray⟩ : ByteArray)).take l.length = l.map fun x => (⟨x.toArray⟩ : ByteArray) := List.take_of_length_le (by simp)
  rw [Nat.mul_one, e, List.map_map] at h
  exact h

set_option maxHeartbeats 4000000 in
theorem Tryz.pathSorted_at (b off c : Nat) (l : List (List UInt8)) (w : World) (hl : l.length * 16 ≤ 140737488355328)
    (hc : ∀ j, j < l.length → w.cell? ⟨b, off + j, none⟩ = some (.string ⟨(l.getD j []).toArray⟩)) :
    Calls Tryz.prog 63 #[.slice (some ⟨b, off, none⟩) l.length c] w (SPost (compS l) w) := by
  have hzs : ∀ j, j < (l.map fun x => (⟨x.toArray⟩ : ByteArray)).length → w.cell? ⟨b, off + j, none⟩ = some (.string ((l.map fun x => (⟨x.toArray⟩ : ByteArray)).getD j ByteArray.empty)) := by
    intro j hj
    rw [List.length_map] at hj
    rw [hc j hj]
    simp [List.getD_eq_getElem?_getD, hj]
  have hlt : l.length < 4611686018427387904 := by omega
  have hsl := sortS_len l
  have hS : ∀ (g cap : Nat) (cur : Array Value) (w1 : World), w1.heap[g]? = some (.cells cur 9 (0, 0)) → cur.toList.take l.length = l.map encStr → Calls Tryz.prog 81 #[.slice (some ⟨g, 0, none⟩) l.length cap] w1 fun e w' => e = .returned (.tuple #[]) ∧ ∃ n os, w' = grow (putRow encStr (Sort.ahead w1 n) g 0 (sortS l).toArray) os :=
    fun g cap cur w1 hh ht => Tryz.slices_Sort_string g 0 cap l w1 (holds_of hh ht) (Array.getElem?_eq_some_iff.mp hh).1 hlt
  have hK : ∀ (g cap : Nat) (cur : Array Value) (w1 : World) (n : Nat) (os : Array Obj), w1.heap[g]? = some (.cells cur 9 (0, 0)) → cur.toList.take l.length = l.map encStr → l.length ≤ cap →
      Calls Tryz.prog 82 #[.slice (some ⟨g, 0, none⟩) l.length cap] (grow (putRow encStr (Sort.ahead w1 n) g 0 (sortS l).toArray) os) fun e w' => e = .returned (.slice (some ⟨g, 0, none⟩) (Lib.compact (sortS l)).length cap) ∧ ∃ q, w' = putRow encStr (Sort.ahead (grow (putRow encStr (Sort.ahead w1 n) g 0 (sortS l).toArray) os) q) g 0 (Lib.compact (sortS l) ++ List.replicate (l.length - (Lib.compact (sortS l)).length) []).toArray :=
    fun g cap cur w1 n os hh ht hcap => by
      have hlt' : g < w1.heap.size := (Array.getElem?_eq_some_iff.mp hh).1
      have hH2 : Holds encStr (grow (putRow encStr (Sort.ahead w1 n) g 0 (sortS l).toArray) os) g 0 (sortS l).toArray :=
        holds_grow _ _ _ _ _ _ (by simpa using hlt') (holds_putRow encStr (Sort.ahead w1 n) g 0 l.toArray (sortS l).toArray (holds_ahead _ _ _ _ _ _ (holds_of hh ht)) (by simp [hsl]))
      have := Tryz.slices_Compact_string g 0 cap (sortS l) _ hH2 (by omega) (by omega)
      rwa [hsl] at this
  clear hsl
  go_enter Tryz.func63, Tryz.ntmps63
  go_wp2_with (first | (go_at_call 49; refine (Tryz.slices_Clone_string b off l.length c (l.map fun x => ⟨x.toArray⟩) _ (by simp) hl hzs).mono ?_; rintro e w1 ⟨v1, rfl, ⟨_, ⟨hv, _⟩ | ⟨g, cap, cur, hv, hg, hh, hn, _, hcs, htk⟩⟩, hnn, hbel⟩; (exact absurd hv hnn)) | (go_at_call 81; refine (hS g cap cur _ hh (fixTake htk)).mono ?_; rintro e w2 ⟨rfl, q1, os, rfl⟩) | (go_at_call 82; refine (hK g cap cur _ q1 os hh (fixTake htk) hn).mono ?_; rintro e w3 ⟨rfl, q2, rfl⟩))
  go_ret
  exact spost_of hbel hg hh hn (by rw [hcs]; simp)

end Go.Proofs
namespace Go.Cellar
open Go
theorem path_Sorted_con {l r : List (List UInt8)} (h : path_Sorted l = some r) : Con Go.Proofs.Tryz.prog 63 [.list .str l false] [] (path_Sorted_res r) (path_Sorted_out r) :=
  pathSorted_con Go.Proofs.Tryz.pathSorted_none Go.Proofs.Tryz.pathSorted_at h
end Go.Cellar
