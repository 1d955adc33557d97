/- A list of texts cloned, sorted, each once: by the library's own laws. No condition. -/
import Derived.Test.YtjdjmbogopadaaaGreatDoorAbs27
import Derived.Lib.SlicesCompact
import Derived.Laws.AppendOwn
set_option linter.unusedVariables false
set_option linter.unusedSimpArgs false
namespace Go.Cellar
open Go Go.RowKit

def compS (l : List (List UInt8)) : List (List UInt8) := Lib.compact (sortS l)

/-- Where such a list lies behind the call. -/
def SPost (l' : List (List UInt8)) (w : World) (e : Ending) (w' : World) : Prop :=
  ∃ v, e = .returned v ∧ w.heap.size ≤ w'.heap.size ∧ (∀ k, k < w.heap.size → w'.heap[k]? = w.heap[k]?) ∧ w'.os = w.os ∧ w'.tape = w.tape ∧ w'.output = w.output ∧
    ((l' = [] ∧ v = .slice none 0 0) ∨ ∃ g cap cur e0, v = .slice (some ⟨g, 0, none⟩) l'.length cap ∧ w.heap.size ≤ g ∧ w'.heap[g]? = some (.cells cur e0 (0, 0)) ∧ l'.length ≤ cap ∧ cap ≤ cur.size ∧ cur.toList.take l'.length = l'.map Go.Proofs.encStr)

theorem holds_of {w : World} {g : Nat} {cur : Array Value} {e : TypeId} {l : List (List UInt8)} (hh : w.heap[g]? = some (.cells cur e (0, 0))) (ht : cur.toList.take l.length = l.map Go.Proofs.encStr) : Go.Sort.Holds Go.Proofs.encStr w g 0 l.toArray := by
  intro j hj
  have hj' : j < l.length := by simpa using hj
  have h2 := congrArg (·[j]?) ht
  simp only [List.getElem?_take, hj', if_true, List.getElem?_map, List.getElem?_eq_getElem hj', Option.map_some, Array.getElem?_toList] at h2
  refine ⟨?_, ?_⟩
  · simp only [World.cell?, hh, Nat.zero_add, h2]
    simp [hj']
  · simp [World.frozen?, hh]

theorem take_put {w : World} {g : Nat} {cur : Array Value} {e : TypeId} {d : List (List UInt8)} (hd : d.length ≤ cur.size) : ((Go.Sort.putCells Go.Proofs.encStr 0 d.toArray cur).toList).take d.length = d.map Go.Proofs.encStr := by
  apply List.ext_getElem?
  intro i
  rw [List.getElem?_take]
  by_cases hi : i < d.length
  · rw [if_pos hi, List.getElem?_map, List.getElem?_eq_getElem hi]
    simp only [Go.Sort.putCells, Array.getElem?_toList, Array.getElem?_mapIdx, Array.getElem?_eq_getElem (show i < cur.size by omega), Option.map_some, Nat.sub_zero, Nat.zero_add]
    rw [if_pos ⟨Nat.zero_le _, by simpa using hi⟩, getElem!_pos _ i (by simpa using hi)]
    simp
  · rw [if_neg hi, List.getElem?_eq_none (by simpa using hi)]

theorem compact_len (zs : List (List UInt8)) : (Lib.compact zs).length ≤ zs.length := by
  unfold Lib.compact Lib.compactUpTo
  rw [List.length_map]
  refine Nat.le_trans (List.length_filter_le _ _) ?_
  simp

/-- A row put into a block of the world: that block, and the others. -/
theorem put_own {w : World} {n blk : Nat} {d : List (List UInt8)} {cur : Array Value} {e : TypeId} (hk : w.heap[blk]? = some (.cells cur e (0, 0))) :
    (Go.Sort.putRow Go.Proofs.encStr (Go.Sort.ahead w n) blk 0 d.toArray).heap[blk]? = some (.cells (Go.Sort.putCells Go.Proofs.encStr 0 d.toArray cur) e (0, 0)) := by
  simp only [Go.Sort.putRow, Go.Sort.mapBlock, Array.getElem?_modify, Go.Sort.heap_ahead, hk]
  simp [Go.Sort.onCells]

theorem put_other {w : World} {n blk k : Nat} {d : List (List UInt8)} (h : k ≠ blk) : (Go.Sort.putRow Go.Proofs.encStr (Go.Sort.ahead w n) blk 0 d.toArray).heap[k]? = w.heap[k]? := by
  simp only [Go.Sort.putRow, Go.Sort.mapBlock, Array.getElem?_modify, Go.Sort.heap_ahead]
  rw [if_neg (Ne.symm h)]

/-- Out of the three laws. -/
theorem spost_of {w w1 : World} {l : List (List UInt8)} {g cap : Nat} {cur : Array Value} {e0 : TypeId} {q1 q2 : Nat} {os : Array Obj}
    (hb : Below w.heap.size w w1) (hg : w.heap.size ≤ g) (hh : w1.heap[g]? = some (.cells cur e0 (0, 0))) (hn : l.length ≤ cap) (hcs : cap ≤ cur.size) :
    SPost (compS l) w (.returned (.slice (some ⟨g, 0, none⟩) (Lib.compact (sortS l)).length cap))
      (Go.Sort.putRow Go.Proofs.encStr (Go.Sort.ahead (Go.Sort.grow (Go.Sort.putRow Go.Proofs.encStr (Go.Sort.ahead w1 q1) g 0 (sortS l).toArray) os) q2) g 0
        (Lib.compact (sortS l) ++ List.replicate (l.length - (Lib.compact (sortS l)).length) []).toArray) := by
  have h1 := sorted_own (n := q1) (d := (sortS l).toArray) (os := os) hh
  have hcl := compact_len (sortS l)
  have hsl := sortS_len l
  rw [← hsl]
  refine ⟨_, rfl, ?_, fun k hk => ?_, hb.os, hb.tape, hb.output, .inr ⟨g, cap, _, e0, rfl, hg, put_own h1, ?_, ?_, ?_⟩⟩
  · have := hb.size; simp; omega
  · have := hb.size
    rw [put_other (by omega), sorted_other (by omega) (by omega)]
    exact hb.block k hk
  · unfold compS; omega
  · simpa [Go.Sort.putCells] using hcs
  · have := take_put (w := w) (g := g) (e := e0) (cur := Go.Sort.putCells Go.Proofs.encStr 0 (sortS l).toArray cur) (d := Lib.compact (sortS l) ++ List.replicate ((sortS l).length - (Lib.compact (sortS l)).length) []) (by simp [Go.Sort.putCells]; omega)
    have h2 := congrArg (List.take (Lib.compact (sortS l)).length) this
    rw [List.take_take, Nat.min_eq_left (by simp), List.map_append, List.take_append_of_le_length (by simp)] at h2
    exact h2.trans (List.take_of_length_le (by simp))

def path_Sorted (l : List (List UInt8)) : Option (List (List UInt8)) := if l.length * 16 ≤ 140737488355328 then some (compS l) else none
def path_Sorted_res (r : List (List UInt8)) : AV := .view 0 0 none
def path_Sorted_out (r : List (List UInt8)) : List AO := [.row .str r]

theorem pathSorted_con {P : Program} {g : Nat}
    (h0 : ∀ (a : Option Addr) (c : Nat) (w : World), Calls P g #[.slice a 0 c] w (SPost [] w))
    (h1 : ∀ (b off c : Nat) (l : List (List UInt8)) (w : World), l.length * 16 ≤ 140737488355328 → (∀ j, j < l.length → w.cell? ⟨b, off + j, none⟩ = some (.string ⟨(l.getD j []).toArray⟩)) →
      Calls P g #[.slice (some ⟨b, off, none⟩) l.length c] w (SPost (compS l) w))
    {l r : List (List UInt8)} (h : path_Sorted l = some r) : Con P g [.list .str l false] [] (path_Sorted_res r) (path_Sorted_out r) := by
  unfold path_Sorted at h
  split at h
  · rename_i hb
    simp only [Option.some.injEq] at h
    subst h
    intro J vals hin hsim hrep hG
    simp only [RepL, Rep] at hrep
    obtain ⟨v1, vs, hv, ⟨hl, _⟩, rfl⟩ := hrep
    simp only [RepT] at hl
    obtain ⟨ad, cap, hv1, hcap, hi⟩ := hl
    simp only [List.cons.injEq, and_true] at hv1
    subst hv1
    have hvals : vals = #[.slice ad l.length cap] := by apply Array.ext'; simpa using hv
    rw [hvals]
    have hbl : J.bl0 = [] := List.eq_nil_of_length_eq_zero (by simpa using hsim.len)
    have fin : ∀ (e : Ending) (w' : World), SPost (compS l) J.w0 e w' → ∃ v, e = .returned v ∧ ∃ bl2, HSim J w' bl2 (path_Sorted_out (compS l)) ∧ Rep (J.env w' bl2 (path_Sorted_out (compS l))) (path_Sorted_res (compS l)) v := by
      rintro e w' ⟨v, rfl, hsz, hold, hos, ht, ho, hcase⟩
      refine ⟨v, rfl, ?_⟩
      rcases hcase with ⟨hnil, rfl⟩ | ⟨q, cp, cur, e0, rfl, hq, hh, hn, hcs, htk⟩
      · refine ⟨[none], ⟨rfl, by rw [hin]; simp [path_Sorted_out], ?_, ?_, ?_, hsz, fun b hb _ => hold b hb, hos, ht, ho, by rw [hin]; simp⟩, ?_⟩
        · intro r r' b h1 h2
          match r with
          | 0 => simp at h1
          | n + 1 => simp at h1
        · intro r b h1
          match r with
          | 0 => simp at h1
          | n + 1 => simp at h1
        · intro r o ho
          match r with
          | 0 =>
            simp only [path_Sorted_out, List.getElem?_cons_zero, Option.some.injEq] at ho
            subst ho
            exact .inl ⟨rfl, hnil⟩
          | n + 1 => simp [path_Sorted_out] at ho
        · simp only [path_Sorted_res, Rep]
          exact ⟨1, 0, by show rowShape [AO.row .str (compS l)] 0 = _; simp [rowShape, hnil]; rfl, by simp, by simp, none, 0, rfl, by simp, .inl rfl⟩
      · have hqlt : q < w'.heap.size := (Array.getElem?_eq_some_iff.mp hh).1
        refine ⟨[some q], ⟨rfl, by rw [hin]; simp [path_Sorted_out], ?_, ?_, ?_, hsz, fun b hb _ => hold b hb, hos, ht, ho, by rw [hin]; simp⟩, ?_⟩
        · intro r r' b h1 h2
          match r, r' with
          | 0, 0 => rfl
          | n + 1, _ => simp at h1
          | 0, n + 1 => simp at h2
        · intro r b h1
          match r with
          | 0 =>
            simp only [List.getElem?_cons_zero, Option.some.injEq] at h1
            subst h1
            exact ⟨hqlt, .inr hq⟩
          | n + 1 => simp at h1
        · intro r o ho
          match r with
          | 0 =>
            simp only [path_Sorted_out, List.getElem?_cons_zero, Option.some.injEq] at ho
            subst ho
            refine .inr ⟨q, cur, e0, rfl, hh, ?_, fun i hi => ?_⟩
            · show (compS l).length * 1 ≤ _
              have : cur.toList.length = cur.size := by simp
              omega
            · show RepT _ _ .str (compS l)[i] ((cur.toList.drop (i * 1)).take 1)
              rw [Nat.mul_one]
              have h2 := congrArg (·[i]?) htk
              simp only [List.getElem?_take, hi, if_true, List.getElem?_map, List.getElem?_eq_getElem hi, Option.map_some] at h2
              rw [List.getElem?_eq_some_iff] at h2
              obtain ⟨h3, h4⟩ := h2
              rw [List.drop_eq_getElem_cons h3, List.take_succ_cons, List.take_zero, h4]
              simp [RepT]
          | n + 1 => simp [path_Sorted_out] at ho
        · simp only [path_Sorted_res, Rep]
          refine ⟨1, (compS l).length, by show rowShape [AO.row .str (compS l)] 0 = _; simp [rowShape]; rfl, by simp, by simp, some ⟨q, 0, none⟩, cp, by simp, by simpa using hn, .inr ⟨q, rfl, by simp, ?_⟩⟩
          show (0 + cp) * 1 ≤ blockSize w' q
          rw [blockSize_of hh]
          omega
    by_cases he : l = []
    · subst he
      refine (h0 ad cap J.w0).mono fun e w' hp => fin e w' ?_
      have : compS [] = [] := by simp [compS, sortS, Lib.compact, Lib.compactUpTo]
      rw [this]; exact hp
    · have hpos : 0 < l.length := List.length_pos_iff.mpr he
      obtain ⟨a, cs0, had, hspot, _, hlen0, hcell0, _⟩ := hi 0 hpos
      obtain ⟨bk, o, spot⟩ := a
      simp only at hspot
      subst hspot
      subst had
      refine (h1 bk o cap l J.w0 hb fun j hj => ?_).mono fun e w' hp => fin e w' hp
      obtain ⟨a', cs, ha', _, _, hlen, hcell, hr⟩ := hi j hj
      simp only [Option.some.injEq] at ha'
      subst ha'
      have hr0 : cs = [Value.string ⟨l[j].toArray⟩] := by simpa [RepT] using hr
      subst hr0
      have := hcell 0 (by simp)
      have this2 : J.w0.cell? ⟨bk, o + j * 1 + 0, none⟩ = some (Value.string ⟨l[j].toArray⟩) := this
      simpa [List.getD_eq_getElem?_getD, hj] using this2
  · cases h

end Go.Cellar
