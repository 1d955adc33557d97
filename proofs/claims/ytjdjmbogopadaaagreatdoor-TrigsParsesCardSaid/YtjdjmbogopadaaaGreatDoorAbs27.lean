/- slices.Sort of texts, by the library's own law. No condition. -/
import Derived.Test.YtjdjmbogopadaaaGreatDoorAbs26
import Derived.Sort.Grow
import Derived.Sort.EncStr
set_option linter.unusedVariables false
set_option linter.unusedSimpArgs false
namespace Go.Cellar
open Go Go.RowKit

def sortS (l : List (List UInt8)) : List (List UInt8) := l.mergeSort fun x y => decide (x ≤ y)

def slices_Sort (l : List (List UInt8)) : Option (List (List UInt8)) := if l.length < 4611686018427387904 then some (sortS l) else none
def slices_Sort_res (r : List (List UInt8)) : AV := .tup []
def slices_Sort_out (r : List (List UInt8)) : List AO := [.row .str r]

theorem sortS_len (l : List (List UInt8)) : (sortS l).length = l.length := List.length_mergeSort l

/-- Other blocks of the world, after the sort. -/
theorem sorted_other {w : World} {n blk : Nat} {d : Array (List UInt8)} {os : Array Obj} {k : Nat} (hk : k < w.heap.size) (h : k ≠ blk) :
    (Go.Sort.grow (Go.Sort.putRow Go.Proofs.encStr (Go.Sort.ahead w n) blk 0 d) os).heap[k]? = w.heap[k]? := by
  rw [Go.Sort.heap_grow_old _ _ (by simpa using hk)]
  simp only [Go.Sort.putRow, Go.Sort.mapBlock, Array.getElem?_modify, Go.Sort.heap_ahead]
  rw [if_neg (Ne.symm h)]

theorem sorted_own {w : World} {n blk : Nat} {d : Array (List UInt8)} {os : Array Obj} {vs : Array Value} {e : TypeId} {fz : Nat × Nat} (hk : w.heap[blk]? = some (.cells vs e fz)) :
    (Go.Sort.grow (Go.Sort.putRow Go.Proofs.encStr (Go.Sort.ahead w n) blk 0 d) os).heap[blk]? = some (.cells (Go.Sort.putCells Go.Proofs.encStr 0 d vs) e fz) := by
  have hlt : blk < w.heap.size := (Array.getElem?_eq_some_iff.mp hk).1
  rw [Go.Sort.heap_grow_old _ _ (by simpa using hlt)]
  simp only [Go.Sort.putRow, Go.Sort.mapBlock, Array.getElem?_modify, Go.Sort.heap_ahead, hk]
  simp [Go.Sort.onCells]

theorem sort_con {P : Program} {g : Nat}
    (h0 : ∀ (p : Option Addr) (cap : Nat) (w : World), Calls P g #[.slice p 0 cap] w fun e w' => e = .returned (.tuple #[]) ∧ w' = w)
    (h1 : ∀ (blk off cap : Nat) (ss : List (List UInt8)) (w : World), Go.Sort.Holds Go.Proofs.encStr w blk off ss.toArray → blk < w.heap.size → ss.length < 4611686018427387904 →
      Calls P g #[.slice (some ⟨blk, off, none⟩) ss.length cap] w fun e w' => e = .returned (.tuple #[]) ∧ ∃ n os, w' = Go.Sort.grow (Go.Sort.putRow Go.Proofs.encStr (Go.Sort.ahead w n) blk off (ss.mergeSort fun x y => decide (x ≤ y)).toArray) os)
    {l r : List (List UInt8)} (h : slices_Sort l = some r) : Con P g [.view 0 0 none] [.row .str l] (slices_Sort_res r) (slices_Sort_out r) := by
  unfold slices_Sort at h
  split at h
  · rename_i hb
    simp only [Option.some.injEq] at h
    subst h
    intro J vals hin hsim hrep hG
    simp only [RepL, Rep] at hrep
    obtain ⟨v1, vs1, hv, ⟨sz, n, hsh, _, _, ad, cap, rfl, hcap, hcase⟩, rfl⟩ := hrep
    have hsh' : rowShape [AO.row .str l] 0 = some (sz, n) := hsh
    simp only [rowShape, List.getElem?_cons_zero, Option.some.injEq, Prod.mk.injEq] at hsh'
    obtain ⟨rfl, rfl⟩ := hsh'
    simp only [Option.getD_none, Nat.sub_zero] at hv hcap
    obtain ⟨b0, hbl⟩ : ∃ b0, J.bl0 = [b0] := by
      have := hsim.len
      match hq : J.bl0 with
      | [] => rw [hq] at this; simp at this
      | [x] => exact ⟨x, rfl⟩
      | _ :: _ :: _ => rw [hq] at this; simp at this
    have hvals : vals = #[.slice ad l.length cap] := by apply Array.ext'; simpa using hv
    rw [hvals]
    have hobj := hsim.obj 0 (.row .str l) rfl
    rw [hbl] at hobj
    simp only [List.getElem?_cons_zero, Option.join_some, ORep] at hobj
    rcases hcase with rfl | ⟨b, hb1, rfl, hbs⟩
    · have hl : l = [] := List.eq_nil_of_length_eq_zero (by omega)
      subst hl
      have hnil : sortS [] = [] := by simp [sortS]
      refine (h0 ad 0 J.w0).mono ?_
      rintro e w' ⟨rfl, rfl⟩
      refine ⟨_, rfl, J.bl0, ?_, by simp [slices_Sort_res, Rep, RepL]⟩
      rw [slices_Sort_out, hnil]
      exact hsim
    · have hb1' : J.bl0[0]? = some (some b) := hb1
      rw [hbl] at hb1'
      simp only [List.getElem?_cons_zero, Option.some.injEq] at hb1'
      subst hb1'
      simp only [Nat.zero_mul] at hvals ⊢
      rcases hobj with ⟨hn, _⟩ | ⟨k, vs, e, hk, hkh, hrow⟩
      · cases hn
      · simp only [Option.some.injEq] at hk
        subst hk
        have hkh' : J.w0.heap[b]? = some (.cells vs e (0, 0)) := hkh
        have hblt : b < J.w0.heap.size := (Array.getElem?_eq_some_iff.mp hkh').1
        obtain ⟨hrl, hri⟩ := hrow
        have hsz1 : (Ty.str).size = 1 := rfl
        rw [hsz1] at hrl
        have hcell : ∀ j (hj : j < l.length), vs[j]? = some (.string ⟨l[j].toArray⟩) := by
          intro j hj
          have := hri j hj
          rw [hsz1] at this
          simp only [RepT] at this
          have h2 : (vs.toList.drop (j * 1)).take 1 = [Value.string ⟨l[j].toArray⟩] := by simpa using this
          rw [Nat.mul_one] at h2
          have h3 := congrArg (·[0]?) h2
          simpa using h3
        have hH : Go.Sort.Holds Go.Proofs.encStr J.w0 b 0 l.toArray := by
          intro j hj
          have hj' : j < l.length := by simpa using hj
          refine ⟨?_, ?_⟩
          · simp only [World.cell?, hkh', Nat.zero_add, hcell j hj']
            simp [hj']
          · simp [World.frozen?, hkh']
        refine (h1 b 0 cap l J.w0 hH hblt hb).mono ?_
        rintro ex w' ⟨rfl, m, os, rfl⟩
        refine ⟨_, rfl, J.bl0, ?_, ?_⟩
        · have hown := sorted_own (n := m) (d := (l.mergeSort fun x y => decide (x ≤ y)).toArray) (os := os) hkh'
          have hoth : ∀ k, k < J.w0.heap.size → k ≠ b → _ := fun k hk hne => sorted_other (w := J.w0) (n := m) (blk := b) (d := (l.mergeSort fun x y => decide (x ≤ y)).toArray) (os := os) hk hne
          refine ⟨hsim.len, hsim.many, hsim.inj, fun r b' hr => ⟨Nat.lt_of_lt_of_le (hsim.at_ r b' hr).1 (by simp), (hsim.at_ r b' hr).2⟩, ?_, by simp, fun k hk hnb => hoth k hk (fun e => hnb (by rw [hbl, e]; simp)), rfl, rfl, rfl, ?_⟩
          · intro r o ho
            match r with
            | 0 =>
              simp only [slices_Sort_out, List.getElem?_cons_zero, Option.some.injEq] at ho
              subst ho
              rw [hbl]
              simp only [List.getElem?_cons_zero, Option.join_some, ORep]
              refine .inr ⟨b, _, e, rfl, hown, ?_, ?_⟩
              · rw [hsz1, sortS_len]
                simpa [Go.Sort.putCells] using hrl
              · intro i hi
                rw [hsz1, Nat.mul_one]
                simp only [RepT]
                have hi' : i < l.length := by rw [sortS_len] at hi; exact hi
                have hiv : i < vs.size := by
                  have : vs.toList.length = vs.size := by simp
                  omega
                have h2 : ((Go.Sort.putCells Go.Proofs.encStr 0 (l.mergeSort fun x y => decide (x ≤ y)).toArray vs).toList)[i]? = some (Value.string ⟨(sortS l)[i].toArray⟩) := by
                  simp only [Go.Sort.putCells, Array.getElem?_toList, Array.getElem?_mapIdx, Array.getElem?_eq_getElem hiv, Option.map_some, Nat.sub_zero, Nat.zero_add]
                  rw [if_pos ⟨Nat.zero_le _, by simpa using hi'⟩]
                  simp only [Option.some.injEq, Go.Proofs.encStr]
                  rw [getElem!_pos _ i (by simpa using hi')]
                  simp [sortS]
                rw [List.getElem?_eq_some_iff] at h2
                obtain ⟨h3, h4⟩ := h2
                rw [List.drop_eq_getElem_cons h3, List.take_succ_cons, List.take_zero, h4]
            | n + 1 => simp [slices_Sort_out] at ho
          · intro j o hj ho
            rw [hin] at hj
            match j with
            | 0 =>
              simp only [List.getElem?_cons_zero, Option.some.injEq] at hj
              subst hj
              exact ⟨rfl, _, rfl, ho⟩
            | n + 1 => simp at hj
        · simp [slices_Sort_res, Rep, RepL]
  · cases h

end Go.Cellar
