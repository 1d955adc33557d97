/- Who owns a path: the range over the iterator, walked. No condition. -/
import Derived.RangeFuncNested
import Derived.RangeFuncBound
import Derived.RangeFuncCalls
import Derived.RangeFuncLeaves
import Derived.RangeFuncBox
import Derived.Shelf.Abstract
import Derived.Shelf.RegionOpen
import Derived.WalkKit
import Derived.OwnWalkIn
import Derived.TacticsInMore
import Derived.LoopNIn
import Derived.LoopIn
import Derived.Maps.AppendAt
import Derived.Test.YtaopgboniaeeaaaDoorAbs30
import Derived.Test.YtaopgboniaeeaaaDoorLib13
namespace Go.Proofs
open Go.RowKit Go.Shelf
open Go.Cellar (TextsAt ListsAt SPost contains_calls lists_of spost_con)

attribute [local go_sem] Oper.semAt_some

abbrev Tryd.NL := List UInt8 × List (List UInt8)
def Tryd.ownersV (zs : List Tryd.NL) (p : List UInt8) : List (List UInt8) := (zs.filter fun x => decide (p ∈ x.2)).map (·.1)

/-- What a round keeps: all that lay below n₀, and the box of the path. -/
def Tryd.KpO (n₀ Bp : Nat) (A B : World) : Prop := Below n₀ A B ∧ ∀ v, A.cell? ⟨Bp, 0, none⟩ = some v → B.cell? ⟨Bp, 0, none⟩ = some v

theorem Tryd.KpO.refl (n₀ Bp : Nat) (A : World) : Tryd.KpO n₀ Bp A A := ⟨Below.refl _ _, fun _ h => h⟩
theorem Tryd.KpO.trans {n₀ Bp : Nat} {A B C : World} (h : Tryd.KpO n₀ Bp A B) (h' : Tryd.KpO n₀ Bp B C) : Tryd.KpO n₀ Bp A C := ⟨h.1.trans h'.1, fun v hv => h'.2 v (h.2 v hv)⟩

theorem Tryd.ownersV_snoc (zs : List Tryd.NL) (p : List UInt8) {k : Nat} (hk : k < zs.length) :
    Tryd.ownersV (zs.take (k + 1)) p = Tryd.ownersV (zs.take k) p ++ if p ∈ (zs.getD k ([], [])).2 then [(zs.getD k ([], [])).1] else [] := by
  have hz : zs[k]? = some (zs.getD k ([], [])) := by rw [List.getD_eq_getElem?_getD, List.getElem?_eq_getElem hk]; rfl
  unfold Tryd.ownersV
  rw [List.take_add_one, hz, List.filter_append, List.map_append]
  congr 1
  by_cases h : p ∈ (zs.getD k ([], [])).2
  · rw [if_pos h]
    simp only [Option.toList_some, List.filter_cons, List.filter_nil, decide_eq_true h, if_true, List.map_cons, List.map_nil]
  · rw [if_neg h]
    simp only [Option.toList_some, List.filter_cons, List.filter_nil, decide_eq_false h, Bool.false_eq_true, if_false, List.map_nil]

theorem Tryd.ownersV_len (zs : List Tryd.NL) (p : List UInt8) (k : Nat) : (Tryd.ownersV (zs.take k) p).length ≤ k := by
  unfold Tryd.ownersV
  rw [List.length_map]
  refine Nat.le_trans (List.length_filter_le _ _) ?_
  simp; omega

set_option maxRecDepth 100000 in
set_option maxHeartbeats 4000000 in
theorem Tryd.owners1_in (n : Nat) (hn : 1 ≤ n) (l Bl Bp n₀ : Nat) (a : Option Addr) (c : Nat) (zs : List Tryd.NL) (p : List UInt8) (hreach : zs.length * 40 ≤ 140737488351232) (hps : ∀ x ∈ zs, x.2.length ≤ 9223372036854775807) (J Jx : List (List UInt8) → World → Prop) (W : World) (hJ : AbidesFrom W.heap.size J) (hn₀ : n₀ ≤ W.heap.size) (hBpl : Bp < W.heap.size)
    (hY : ∀ pre x W, J pre W → pre.length < zs.length → YieldAt Fence.wide (n - 1) Tryd.prog l #[.string ⟨x.toArray⟩] W fun e W' =>
      (e = .returned (.bool true) ∧ J (pre ++ [x]) W' ∧ Tryd.KpO n₀ Bp W W') ∨ (e = .returned (.bool false) ∧ Jx (pre ++ [x]) W'))
    (hBl : W.cell? ⟨Bl, 0, none⟩ = some (.slice a zs.length c)) (hBp : W.cell? ⟨Bp, 0, none⟩ = some (.string ⟨p.toArray⟩)) (hL : ListsAt n₀ W a zs) (h0 : J [] W) :
    CallsIn Fence.wide n Tryd.prog 61 #[.func (.yield l) #[] #[], .pointer (some ⟨Bl, 0, none⟩), .pointer (some ⟨Bp, 0, none⟩)] W fun e W' => (∃ v, e = .returned v) ∧
      ((∃ ys, ys = Tryd.ownersV zs p ∧ J ys W') ∨ (∃ pre, (∃ k, k ≤ zs.length ∧ pre = Tryd.ownersV (zs.take k) p) ∧ Jx pre W')) := by
  refine callsIn_of_wp Tryd.func61 rfl trivial ?_ rfl
  simp only [Tryd.ntmps61, List.size_toArray, List.length_cons, List.length_nil, Nat.reduceAdd, Nat.reduceSub, Array.replicate_succ, Array.replicate_zero, List.push_toArray, List.append_toArray, List.nil_append, List.cons_append]
  gi_wp2
  gi_loopw [8] (fun i wr => ∃ k : Nat, k ≤ zs.length ∧ i = .int .i64 k ∧ J (Tryd.ownersV (zs.take k) p) wr ∧ Tryd.KpO n₀ Bp W wr) (fun i _ => zs.length - (intOf i).toNat)
  case atStart => exact ⟨0, Nat.zero_le _, rfl, by simpa [Tryd.ownersV] using h0, Tryd.KpO.refl _ _ _⟩
  case round =>
    obtain ⟨k, hk, rfl, hJs, hnx⟩ := hrel
    by_cases hlt : k < zs.length
    · have hL' := hL.below hnx.1
      rcases hL' with h | ⟨b, o, rfl, hb, hc⟩
      · subst h; simp at hlt
      obtain ⟨hn1, pa, pc, hn2, ht⟩ := hc k hlt
      have hBp' := hnx.2 _ hBp
      have hsz := hnx.1.size
      have hgm : (zs.getD k ([], [])).2.length ≤ 9223372036854775807 := by
        rw [List.getD_eq_getElem?_getD, List.getElem?_eq_getElem hlt]
        exact hps _ (List.getElem_mem hlt)
      have hsn := Tryd.ownersV_snoc zs p hlt
      have hlen := Tryd.ownersV_len zs p k
      obtain ⟨nm, ps, hz⟩ : ∃ nm ps, zs.getD k ([], []) = (nm, ps) := ⟨_, _, rfl⟩
      rw [hz] at hn1 hn2 ht hgm hsn
      dsimp only at hn1 hn2 ht hgm hsn
      clear hc hL hz hps
      have hnw : n₀ ≤ wr.heap.size := Nat.le_trans hn₀ hsz
      have hBw : Bp < wr.heap.size := Nat.lt_of_lt_of_le hBpl hsz
      obtain ⟨X, hX⟩ : ∃ X : Obj, X = .cells #[Value.string { data := nm.toArray }, Value.slice pa ps.length pc] 25 := ⟨_, rfl⟩
      have hXb : Tryd.KpO n₀ Bp wr (wr.alloc X) := ⟨(Below.refl n₀ wr).alloc hnw _, fun v hv => by rw [World.cell?_alloc_past (w := wr) _ Bp 0 hBw]; exact hv⟩
      have hBpA := hXb.2 _ hBp'
      have hJ1 : J (Tryd.ownersV (zs.take k) p) (wr.alloc X) := hJ _ wr (wr.alloc X) none hJs (World.grownBy_alloc wr X none) (fun r e => by cases e)
      have hcon := contains_calls (P := Tryd.prog) (g := 44) Tryd.slices_Contains_string_empty (fun b off n c zs x w h1 h2 h3 => Tryd.slices_Contains_string b off n c zs x w h1 h2 h3) pc p (ht.below hXb.1) hgm
      by_cases hm : p ∈ ps
      · rw [decide_eq_true hm] at hcon
        rw [if_pos hm] at hsn
        obtain ⟨fn, tmps, assign, body, hy, hR⟩ := hY _ nm (wr.alloc X) hJ1 (by omega)
        subst hX
        gi_wp2_with (refine ⟨trivial, ?_⟩; gi_at_call 44; refine (callsIn_wide.2 hcon).mono ?_; rintro e w' ⟨rfl, rfl⟩)
        refine hR.mono ?_
        rintro e W3 (⟨rfl, hJ3, hk3⟩ | ⟨rfl, hJx3⟩)
        · gi_wp2
          go_roundw
          case rel => exact ⟨k + 1, by omega, by simp, by rw [hsn]; exact hJ3, (hnx.trans hXb).trans hk3⟩
          case measure => simp [intOf]; omega
        · gi_wp2
          refine bodyPost_ret (results_none rfl _ _ _) rfl ?_
          exact ⟨⟨_, rfl⟩, .inr ⟨_, ⟨k + 1, by omega, hsn.symm⟩, hJx3⟩⟩
      · rw [decide_eq_false hm] at hcon
        rw [if_neg hm, List.append_nil] at hsn
        subst hX
        gi_wp2_with (refine ⟨trivial, ?_⟩; gi_at_call 44; refine (callsIn_wide.2 hcon).mono ?_; rintro e w' ⟨rfl, rfl⟩)
        refine ⟨fun _ h => (by cases h), ?_⟩
        gi_wp2
        go_roundw
        case rel => exact ⟨k + 1, by omega, by simp, by rw [hsn]; exact hJ1, hnx.trans hXb⟩
        case measure => simp [intOf]; omega
    · obtain rfl : k = zs.length := by omega
      gi_wp2
      go_end0
      exact ⟨⟨_, rfl⟩, .inl ⟨_, by rw [List.take_length], hJs⟩⟩

set_option maxHeartbeats 4000000 in
theorem Tryd.owners_in (n : Nat) (a : Option Addr) (len c : Nat) (p : ByteArray) (w : World) :
    CallsIn Fence.wide n Tryd.prog 45 #[.slice a len c, .string p] w fun e w' => e = .returned (.func (.func 61) #[] #[.pointer (some ⟨w.heap.size, 0, none⟩), .pointer (some ⟨w.heap.size + 1, 0, none⟩)]) ∧ w' = (w.alloc (.cells #[.slice a len c] 32)).alloc (.cells #[.string p] 9) := by
  refine callsIn_of_wp Tryd.func45 rfl trivial ?_ rfl
  simp only [Tryd.ntmps45, List.size_toArray, List.length_cons, List.length_nil, Nat.reduceAdd, Nat.reduceSub, Array.replicate_succ, Array.replicate_zero, List.push_toArray, List.append_toArray, List.nil_append, List.cons_append]
  gi_wp2
  go_ret
  exact ⟨rfl, rfl⟩

theorem Tryd.owners_stops (n : Nat) (hn : 1 ≤ n) (Bl Bp n₀ : Nat) (a : Option Addr) (c : Nat) (zs : List Tryd.NL) (p : List UInt8) (hreach : zs.length * 40 ≤ 140737488351232) (hps : ∀ x ∈ zs, x.2.length ≤ 9223372036854775807) (w : World) (hB1 : Bl < w.heap.size) (hB2 : Bp < w.heap.size) (hn₀ : n₀ ≤ w.heap.size)
    (hBl : w.cell? ⟨Bl, 0, none⟩ = some (.slice a zs.length c)) (hBp : w.cell? ⟨Bp, 0, none⟩ = some (.string ⟨p.toArray⟩)) (hL : ListsAt n₀ w a zs) :
    SeqStopsK Fence.wide n Tryd.prog 61 #[.pointer (some ⟨Bl, 0, none⟩), .pointer (some ⟨Bp, 0, none⟩)] (fun x : List UInt8 => #[Value.string ⟨x.toArray⟩]) (Tryd.KpO n₀ Bp) (fun ys => ys = Tryd.ownersV zs p) (fun pre => ∃ k, k ≤ zs.length ∧ pre = Tryd.ownersV (zs.take k) p) zs.length w := fun l J Jx W hW hJ _ hY h0 =>
  Tryd.owners1_in n hn l Bl Bp n₀ a c zs p hreach hps J Jx W hJ (Nat.le_trans hn₀ hW.size) (Nat.lt_of_lt_of_le hB2 hW.size) hY ((hW.cell (p := ⟨Bl, 0, none⟩) hB1).trans hBl) ((hW.cell (p := ⟨Bp, 0, none⟩) hB2).trans hBp) (hL.below (hW.mono hn₀)) h0

theorem Tryd.info9 : (Tryd.prog.info? 9).map (fun i => (i.zero, i.size, i.bytes)) = some (some (.string ⟨#[]⟩), 1, 16) := by kernel_rfl

theorem Tryd.KpO_b {n₀ Bp : Nat} {w : World} (hn : n₀ ≤ w.heap.size) (hB : Bp < w.heap.size) (W : World) (l : Nat) (o o' : Obj) (hl : w.heap.size ≤ l) (h : W.heap[l]? = some o) (h1 : o.isCells = false) (h2 : o.isWalk = false) : Tryd.KpO n₀ Bp W (W.putObj l o') :=
  ⟨belowK_b hn W l o o' hl h h1 h2, fun v hv => cell_kept hv (grownBy_putObj' W l o') (fun r e => by cases e; exact ⟨o, h, h1⟩)⟩

theorem Tryd.owns_weak {W : World} {b b' : Nat} {e : TypeId} {size n : Nat} {v : Value} {xs : List Value} (hb : b' ≤ b) (h : W.ownsRow b e size v n xs) : W.ownsRow b' e size v n xs := by
  refine ⟨h.1, ?_⟩
  rcases h.2 with h2 | ⟨g, cap, cur, h1, h2, h3⟩
  · exact .inl h2
  · exact .inr ⟨g, cap, cur, h1, Nat.le_trans hb h2, h3⟩

theorem Tryd.owns_ne {W : World} {b : Nat} {e : TypeId} {size n : Nat} {v : Value} {xs : List Value} (h : W.ownsRow b e size v n xs) {B : Nat} (hB : B < b) : some B ≠ v.ownBlock := by
  rcases h.2 with ⟨rfl, _⟩ | ⟨g, cap, cur, rfl, h2, _⟩
  · simp [Value.ownBlock]
  · intro e'
    have : B = g := by simpa [Value.ownBlock] using e'
    omega

theorem Tryd.spost_owns {w W' : World} {v : Value} {l' : List (List UInt8)} {base : Nat} (hb : Below w.heap.size w W') (hr : W'.ownsRow base 9 1 v l'.length (l'.map encStr)) (hbase : w.heap.size ≤ base) : SPost l' w (.returned v) W' := by
  refine ⟨v, rfl, hb.size, fun k hk => hb.block k hk, hb.os, hb.tape, hb.output, ?_⟩
  rcases hr.2 with ⟨rfl, h0⟩ | ⟨g, cap, cur, rfl, h2, h3, h4, _, h6, h7⟩
  · exact .inl ⟨List.eq_nil_of_length_eq_zero h0, rfl⟩
  · refine .inr ⟨g, cap, cur, 9, rfl, by omega, h3, h4, by omega, ?_⟩
    rw [Nat.mul_one] at h7
    exact h7

set_option maxRecDepth 100000 in
set_option maxHeartbeats 4000000 in
theorem Tryd.Owners_calls (a : Option Addr) (c : Nat) (zs : List Tryd.NL) (p : List UInt8) (hreach : zs.length * 40 ≤ 140737488351232) (hps : ∀ x ∈ zs, x.2.length ≤ 9223372036854775807) (w : World) (hL : ListsAt w.heap.size w a zs) :
    Calls Tryd.prog 20 #[.slice a zs.length c, .string ⟨p.toArray⟩] w (SPost (Tryd.ownersV zs p) w) := by
  refine (callsIn_wide (n := 3)).1 ?_
  have h1 : 1 ≤ 3 := by omega
  obtain ⟨i0, hi, hz0, hz1, hz2⟩ := info_parts Tryd.info9
  refine callsIn_of_wp_marks Tryd.func20 rfl trivial ?_ rfl
  simp only [Tryd.ntmps20, List.size_toArray, List.length_cons, List.length_nil, Nat.reduceAdd, Nat.reduceSub, Array.replicate_succ, Array.replicate_zero, List.push_toArray, List.append_toArray, List.nil_append, List.cons_append]
  gi_wp2_with (refine ⟨trivial, ?_⟩; gi_at_call 45; refine (Tryd.owners_in (3 - 1) _ _ _ _ _).mono ?_; rintro e w' ⟨rfl, rfl⟩)
  obtain ⟨W0, hW0⟩ : ∃ W0, W0 = ((w.alloc (.cells #[.slice none 0 0] 23)).alloc (.cells #[.slice a zs.length c] 32)).alloc (.cells #[.string ⟨p.toArray⟩] 9) := ⟨_, rfl⟩
  have bO : Boxed W0 w.heap.size 23 (.slice none 0 0) := by rw [hW0]; exact ((Boxed.new w 23 (.slice none 0 0)).alloc _).alloc _
  have hs0 : W0.heap.size = w.heap.size + 3 := by rw [hW0]; simp
  have bL : Boxed W0 (w.heap.size + 1) 32 (.slice a zs.length c) := by
    have := (Boxed.new (w.alloc (.cells #[.slice none 0 0] 23)) 32 (.slice a zs.length c)).alloc (.cells #[.string ⟨p.toArray⟩] 9)
    rw [World.size_alloc] at this
    rw [hW0]; exact this
  have bP : Boxed W0 (w.heap.size + 2) 9 (.string ⟨p.toArray⟩) := by
    have := Boxed.new ((w.alloc (.cells #[.slice none 0 0] 23)).alloc (.cells #[.slice a zs.length c] 32)) 9 (.string ⟨p.toArray⟩)
    rw [World.size_alloc, World.size_alloc] at this
    rw [hW0]; exact this
  have hB0 : Below w.heap.size w W0 := by
    rw [hW0]
    exact (((Below.refl _ w).alloc (Nat.le_refl _) _).alloc (by simp) _).alloc (by simp; omega) _
  try rw [← hW0]
  refine wpIn_rangeFunc_ownG rfl h1 (gf := 61) (lb := #[.pointer (some ⟨w.heap.size + 1, 0, none⟩), .pointer (some ⟨w.heap.size + 2, 0, none⟩)]) rfl trivial (enters_of Tryd.func61 (by kernel_rfl) rfl)
    (Tryd.owners_stops (3 - 1) (by omega) (w.heap.size + 1) (w.heap.size + 2) w.heap.size a c zs p hreach hps W0 (by omega) (by omega) (by omega) bL.cell bP.cell (hL.below hB0)) Tryd.KpO.trans (Tryd.KpO_b (by omega) (by omega)) (Below.refl _ _) (fun _ => rfl)
    (fun pre W => ((∃ v, Boxed W w.heap.size 23 v ∧ W.ownsRow (w.heap.size + 3) 9 1 v pre.length (pre.map encStr) ∧ True) ∧ Boxed W (w.heap.size + 2) 9 (.string ⟨p.toArray⟩)) ∧ Below w.heap.size w W)
    (fun _ _ _ => False)
    (OwnFrom.and (OwnFrom.and (Own.from (holdsRow_own (w.heap.size + 3) w.heap.size 23 9 1 (fun pre : List (List UInt8) => pre.length) (fun pre => pre.map encStr) (fun _ _ => True)) _) (Own.from (boxed_own (w.heap.size + 2) 9 (fun _ => .string ⟨p.toArray⟩)) _)) (ownFrom_below (Nat.le_refl _) (by omega)))
    (fun _ _ _ _ _ hs _ _ => hs)
    ⟨⟨⟨_, bO, World.ownsRow_nil _ _ _ _, trivial⟩, bP⟩, hB0⟩
    (fun x => { tmps := #[.slice a zs.length c, .string ⟨p.toArray⟩, undef, undef, .slice none 0 0, .pointer (some ⟨w.heap.size, 0, none⟩), .string ⟨x.toArray⟩, .slice a zs.length c, .string ⟨p.toArray⟩, .func (.func 61) #[] #[.pointer (some ⟨w.heap.size + 1, 0, none⟩), .pointer (some ⟨w.heap.size + 2, 0, none⟩)], .string ⟨x.toArray⟩, undef, undef, undef, undef, undef], defers := [] }) ?assign ?body ?done ?stop
  case assign =>
    intro l x W K hK
    gi_wp2
    exact hK
  case body =>
    rintro l pre x W ⟨⟨⟨v, hv, hrow, _⟩, hP⟩, hB⟩ hlt
    have hc := hv.cell
    have hWs : w.heap.size + 3 ≤ W.heap.size := by
      have := hP.lt
      omega
    gi_wp2_with (gi_at_builtin; refine wpListIn_append_own _ rfl _ _ 23 rfl (w.heap.size + 3) 9 i0 (.string ⟨#[]⟩) 1 16 Tryd.underlying23 hi hz0 hz1 hz2 rfl (by decide) _ _ _ rfl (hrow.alloc _) ⟨W.heap.size, 0, none⟩ 1 1 [.string ⟨x.toArray⟩] rfl rfl (cell_one_new _ _ _) (by simp [Value.oneCell']) (by unfold maxLen; omega) (by omega) (by simp; omega) ?_; intro v' w1 hown' hgrow _; obtain ⟨g', cap', rfl⟩ := ownsRow_succ hown'; obtain ⟨hv1, hv2, hr2, hk2, hb2⟩ := hv.appended (by decide) (Tryd.owns_weak (by omega) hrow) hB.size (Nat.le_refl _) (Tryd.owns_weak (by omega) hown') hgrow; have hc1 := hv1.cell; have hf1 := hv1.frozen; have hP' := (((hP.alloc _).kept hgrow (Tryd.owns_ne hrow (by omega))).other (B' := w.heap.size) (by omega) (.slice (some ⟨g', 0, none⟩) (pre.length + 1) cap')); have hS := hown'.kept (grownBy_setCell' w1 w.heap.size (.slice (some ⟨g', 0, none⟩) (pre.length + 1) cap')) (.inr (hv1.not_row (by decide) hown').symm))
    refine ⟨hk2.from _, ⟨hb2, fun u hu => ?_⟩, ⟨⟨⟨_, hv2, ?_, trivial⟩, hP'⟩, hB.trans hb2⟩⟩
    · rw [hP.cell] at hu
      rw [← hu]
      exact hP'.cell
    · simpa [encStr] using hS
  case done =>
    rintro D ys W hD rfl ⟨⟨⟨v, hv, hrow, _⟩, hP⟩, hB⟩ hK
    have hc := hv.cell
    gi_wp2
    refine ⟨by simp, .inl ⟨_, _, rfl, run_takeDeferred hK, ?_⟩⟩
    refine ⟨_, results_tmp rfl _ _ _, ?_⟩
    exact Tryd.spost_owns (hB.trans (belowK_b (w := w) (Nat.le_refl _) W D _ _ (by omega) hK rfl rfl)) (ownsRow_putObj hrow _ hK rfl) (by omega)
  case stop =>
    rintro D c pre W _ _ h _
    exact h.elim

end Go.Proofs
namespace Go.Cellar
open Go
def lists_Owners (l : List (List UInt8 × List (List UInt8))) (p : List UInt8) : Option (List (List UInt8)) :=
  if l.length * 40 ≤ 140737488351232 ∧ (l.all fun x => decide (x.2.length ≤ 9223372036854775807)) = true then some ((l.filter fun x => decide (p ∈ x.2)).map (·.1)) else none
def lists_Owners_res (r : List (List UInt8)) : AV := .view 0 0 none
def lists_Owners_out (r : List (List UInt8)) : List AO := [.row .str r]
theorem lists_Owners_con {l : List (List UInt8 × List (List UInt8))} {p : List UInt8} {r : List (List UInt8)} (h : lists_Owners l p = some r) :
    Con Go.Proofs.Tryd.prog 20 [.list (.prod .str (.list .str)) l false, .str p] [] (lists_Owners_res r) (lists_Owners_out r) := by
  unfold lists_Owners at h
  split at h
  · rename_i hb
    simp only [Option.some.injEq] at h
    subst h
    refine spost_con fun J vals hrep => ?_
    simp only [RepL, Rep] at hrep
    obtain ⟨v1, vs, hv, ⟨hl, _⟩, v2, vs2, rfl, rfl, rfl⟩ := hrep
    obtain ⟨a, c, rfl, hat⟩ := lists_of hl
    have hvals : vals = #[.slice a l.length c, .string ⟨p.toArray⟩] := by apply Array.ext'; simpa using hv
    rw [hvals]
    refine Go.Proofs.Tryd.Owners_calls a c l p hb.1 (fun x hx => ?_) J.w0 hat
    have := List.all_eq_true.mp hb.2 x hx
    simpa using this
  · cases h
end Go.Cellar
