/- slices.Insert of one thing: the library's own text walked where there is room and where there is none. No condition. -/
import Derived.Test.YtjdjmbogopadaaaGreatDoorAbs29
import Derived.Test.YtjdjmbogopadaaaGreatDoorPs12
import Derived.WalkKit
import Derived.Shelf.Spec.SlicesInsert
set_option linter.unusedVariables false
set_option linter.unusedSimpArgs false
namespace Go.Proofs
open Go.Shelf Go.RowKit Go.Lib Go.Cellar

set_option maxHeartbeats 4000000 in
set_option maxRecDepth 100000 in
/-- slices.Insert: THERE IS ROOM, i < len(s): in place. -/
theorem Tryz.ins79_shift (b off n c i vb voff m vc : Nat) (cs vs : List Value) (w : World) (hi : i < n) (hm : 0 < m) (hroom : n + m ≤ c) (hnm : n + m ≤ 9223372036854775807) (hvb : vb ≠ b)
    (hcl : cs.length = n * 3) (hvl : vs.length = m * 3)
    (hcs : ∀ j v, cs[j]? = some v → w.cell? ⟨b, off + j, none⟩ = some v) (hsp : ∀ j, j < (n + m) * 3 → (w.cell? ⟨b, off + j, none⟩).isSome = true) (hfz : ∀ j, j < (n + m) * 3 → w.frozen? ⟨b, off + j, none⟩ = false)
    (hvs : ∀ j v, vs[j]? = some v → w.cell? ⟨vb, voff + j, none⟩ = some v) (h1c : ∀ v ∈ cs, v.oneCell' = true) (h1v : ∀ v ∈ vs, v.oneCell' = true)
    {cA cB : Array Value} {eA eB : TypeId} {fA : Nat × Nat} (hA : w.heap[vb]? = some (.cells cA eA fA)) (hB : w.heap[b]? = some (.cells cB eB (0, 0))) (hkA : cA.size ≠ 0) (hkB : cB.size ≠ 0) :
    Calls Tryz.prog 79 #[.slice (some ⟨b, off, none⟩) n c, .int .i64 i, .slice (some ⟨vb, voff, none⟩) m vc] w fun e w' =>
      e = .returned (.slice (some ⟨b, off, none⟩) (n + m) c) ∧ w' = (w.drew.setCells b (off + (i + m) * 3) (cs.drop (i * 3))).setCells b (off + i * 3) vs := by
  have uS : Tryz.prog.underlying 22 = some (.slice 53) := by kernel_rfl
  have zE : ∀ w, (Go.sizeOf 53).run Tryz.prog w = .ok 3 w := Tryz.sizeOf53
  have hz1 : ¬ ((m : Int) = 0) := by omega
  have hz2 : ¬ ((i : Int) = (n : Int)) := by omega
  have hsz : (Tryz.prog.info? 53).map (·.size) = some 3 := by kernel_rfl
  have hov : ∀ lb cb, (callFunc 96 #[.slice (some ⟨vb, voff, none⟩) m vc, .slice (some ⟨b, off + (i + m) * 3, none⟩) lb cb]).run Tryz.prog w = .ok (.value (.bool false)) w := fun lb cb => by
    rw [run_callFunc_extern Tryz.func96 (by kernel_rfl) (by kernel_rfl) (by kernel_rfl) (e := Extern.SlicesOverlaps.overlaps #[22, 22] #[4]) (by kernel_rfl),
      run_overlaps_own w 22 4 53 uS 3 zE ⟨vb, voff, none⟩ ⟨b, off + (i + m) * 3, none⟩ m vc lb cb hvb hA hB hkA hkB]
    rfl
  have hdl : (cs.drop (i * 3)).length = (n - i) * 3 := by rw [List.length_drop, hcl, Nat.sub_mul]
  have mixed : Tryz.prog.follows .mixedOrders = true := by kernel_rfl
  have hw1 : IntKind.i64.wrap ((i : Int) + (m : Int)) = (i : Int) + (m : Int) := by rw [IntKind.wrap_i64]; omega
  have hb1 : (0 : Int) ≤ (i : Int) + (m : Int) := by omega
  have hin : i ≤ n := by omega
  have htn : ((i : Int) + (m : Int)).toNat = i + m := by omega
  have hb2 : ¬ (c = i + m) := by omega
  have hb3 : (i : Int) ≤ (n : Int) + (m : Int) := by omega
  have hb4 : ¬ (c = i) := by omega
  have hcp1 : ∀ ty dc sc, (Builtin.copy_ #[22, 22] ty #[.slice (some ⟨b, off + (i + m) * 3, none⟩) (n + m - (i + m)) dc, .slice (some ⟨b, off + i * 3, none⟩) (n + m - i) sc]).run Tryz.prog w.drew = .ok (goInt (Nat.min (n + m - i) (n + m - (i + m)))) (w.drew.setCells b (off + (i + m) * 3) (cs.drop (i * 3))) := fun ty dc sc =>
    run_copy_cellsK w.drew _ _ ty 53 3 b (off + (i + m) * 3) (n + m - (i + m)) dc ⟨b, off + i * 3, none⟩ (n + m - i) sc (cs.drop (i * 3)) uS hsz (by rw [hdl]; simp only [Nat.min_def]; split <;> omega)
      (fun j v hj => by rw [Addr.add_lit, Nat.add_assoc]; exact hcs (i * 3 + j) v (by rwa [List.getElem?_drop] at hj))
      (fun j hj => by rw [Nat.add_assoc]; exact hsp _ (by omega)) (fun j hj => by rw [Nat.add_assoc]; exact hfz _ (by omega)) (fun v hv => h1c v (List.mem_of_mem_drop hv))
  obtain ⟨W1, hW1⟩ : ∃ W1, W1 = w.drew.setCells b (off + (i + m) * 3) (cs.drop (i * 3)) := ⟨_, rfl⟩
  have hsp1 : ∀ k, k < (n + m) * 3 → (W1.cell? ⟨b, off + k, none⟩).isSome = true := fun k hk => by
    rw [hW1]
    exact isSome_setCells b _ _ _ (fun j hj => by rw [Nat.add_assoc]; exact hsp _ (by omega)) _ (hsp k hk)
  have hcp2 : ∀ (W : World), (∀ x, W.cell? x = W1.cell? x) → (∀ x, W.frozen? x = W1.frozen? x) → ∀ ty dc, (Builtin.copy_ #[22, 22] ty #[.slice (some ⟨b, off + i * 3, none⟩) (n + m - i) dc, .slice (some ⟨vb, voff, none⟩) m vc]).run Tryz.prog W = .ok (goInt (Nat.min m (n + m - i))) (W.setCells b (off + i * 3) vs) := fun W hWc hWf ty dc =>
    run_copy_cellsK W _ _ ty 53 3 b (off + i * 3) (n + m - i) dc ⟨vb, voff, none⟩ m vc vs uS hsz (by rw [hvl]; simp only [Nat.min_def]; split <;> omega)
      (fun j v hj => by
        rw [Addr.add_lit, hWc, hW1, World.cell?_setCells_out b _ _ _ _ (fun h _ => absurd h hvb)]
        exact hvs j v hj)
      (fun j hj => by rw [hWc, Nat.add_assoc]; exact hsp1 _ (by omega)) (fun j hj => by rw [hWf, hW1, World.frozen?_setCells, Nat.add_assoc]; exact hfz _ (by omega)) h1v
  rw [← hW1] at hcp1
  go_enter Tryz.func79, Tryz.ntmps79
  go_wp2_with (simp only [hov])
  try go_region_law_o (refine step_copy_runI rfl _ _ 22 22 rfl _ _ (by simp [Act.eval, Act.put]) (by simp [Act.eval, Act.put]) (hcp1 _ _ _) ?_)
  go_wp2_with (at_builtin; refine wpList_copy_runI _ rfl _ _ 22 22 rfl _ _ rfl rfl (hcp2 _ (fun _ => rfl) (fun _ => rfl) _ _) ?_)
  go_ret
  first | exact ⟨rfl, rfl⟩ | exact ⟨rfl, by rw [hW1]⟩

theorem Tryz.ins79_room : InsRoom Tryz.prog 79 3 40 := by
  intro b i n c vb voff vc cs vs w cur ucur e ue ufz hi hroom hck hB hvb hb hu hcs hcl hvl hvs h1c h1v
  have hn : (n + 1) * 3 ≤ cur.size := Nat.le_trans (Nat.mul_le_mul_right _ hroom) hck
  refine (Tryz.ins79_shift b 0 n c i vb voff 1 vc cs vs w hi (by omega) hroom (by omega) hvb hcl (by omega) ?_ ?_ ?_ hvs h1c h1v hu hb ?_ (by omega)).mono ?_
  · intro j v hj
    rw [Nat.zero_add, insCellAt hb]
    rw [hcs, List.getElem?_take] at hj
    split at hj
    · simpa using hj
    · cases hj
  · intro j hj
    rw [Nat.zero_add, insCellAt hb, Array.getElem?_eq_getElem (by omega)]; rfl
  · intro j hj
    exact insFrozenAt hb _
  · have h0 := hvs 0 (vs[0]'(by omega)) (by simp)
    rw [insCellAt hu] at h0
    have := (Array.getElem?_eq_some_iff.mp h0).1
    omega
  · rintro ex w' ⟨rfl, rfl⟩
    refine ⟨rfl, w.drew, ⟨rfl, rfl, rfl, rfl⟩, ?_⟩
    rw [Nat.zero_add, Nat.zero_add]

set_option maxHeartbeats 4000000 in
set_option maxRecDepth 100000 in
/-- slices.Insert: i < len(s), NO ROOM: a new row. -/
theorem Tryz.ins79_grow0 (b off n c i vb voff m vc : Nat) (cs vs : List Value) (w : World) (hi : i < n) (hm : 0 < m) (hnc : n ≤ c) (hroom : c < n + m) (hbig : (n + m) * 40 ≤ 140737488355328)
    (hcl : cs.length = n * 3) (hvl : vs.length = m * 3)
    (hcs : ∀ j v, cs[j]? = some v → w.cell? ⟨b, off + j, none⟩ = some v)
    (hvs : ∀ j v, vs[j]? = some v → w.cell? ⟨vb, voff + j, none⟩ = some v) (h1c : ∀ v ∈ cs, v.oneCell' = true) (h1v : ∀ v ∈ vs, v.oneCell' = true) :
    Calls Tryz.prog 79 #[.slice (some ⟨b, off, none⟩) n c, .int .i64 i, .slice (some ⟨vb, voff, none⟩) m vc] w fun e w' =>
      e = .returned (.slice (some ⟨w.heap.size, 0, none⟩) (n + m) (grownCap w (n + m) c 53)) ∧
      w' = (((w.alloc (.cells ((cs.take (i * 3)).toArray ++ Builtin.zeroCells ((Value.agg #[.string ⟨#[]⟩, .string ⟨#[]⟩, .bool false])).cells (n + m - i) ++ Builtin.zeroCells ((Value.agg #[.string ⟨#[]⟩, .string ⟨#[]⟩, .bool false])).cells (grownCap w (n + m) c 53 - (n + m))) 53)).drew.setCells w.heap.size (i * 3) vs).drew).setCells w.heap.size ((i + m) * 3) (cs.drop (i * 3)) := by
  have mixed : Tryz.prog.follows .mixedOrders = true := by kernel_rfl
  have uS : Tryz.prog.underlying 22 = some (.slice 53) := by kernel_rfl
  have uI : Tryz.prog.underlying 3 = some (.int .i64) := by kernel_rfl
  have infoE : (Tryz.prog.info? 53).map (fun i => (i.zero, i.size, i.bytes)) = some (some (Value.agg #[.string ⟨#[]⟩, .string ⟨#[]⟩, .bool false]), 3, 40) := by kernel_rfl
  obtain ⟨i0, hi0, hz0, hzs, hzb⟩ := info_parts infoE
  have hz1 : ¬ ((m : Int) = 0) := by omega
  have hz2 : ¬ ((i : Int) = (n : Int)) := by omega
  have hz3 : (c : Int) < (n : Int) + (m : Int) := by omega
  have hsz : (Tryz.prog.info? 53).map (·.size) = some 3 := by rw [hi0]; simp [hzs]
  have hbw : b < w.heap.size := block_lt_of_cell (hcs 0 _ (List.getElem?_eq_getElem (by omega)))
  have hvw : vb < w.heap.size := block_lt_of_cell (hvs 0 _ (List.getElem?_eq_getElem (by omega)))
  have hkk : (n : Int) + (m : Int) - (i : Int) = ((n + m - i : Nat) : Int) := by omega
  have hik : i + (n + m - i) = n + m := by omega
  have hold : (Builtin.firstCells i0.size i (.slice (some ⟨b, off, none⟩) i c)).run Tryz.prog w.drew = .ok (cs.take (i * 3)).toArray w.drew := by
    rw [hzs]
    exact run_firstCells_some w.drew 3 i ⟨b, off, none⟩ i c (cs.take (i * 3)) (by rw [List.length_take]; omega) (fun j v hj => by
      rw [Addr.add_lit]
      rw [List.getElem?_take] at hj
      split at hj
      · exact hcs j v hj
      · cases hj)
  have hrz : ∀ ty, (Builtin.append_ #[22, 3] ty #[.slice (some ⟨b, off, none⟩) i c, .int .i64 ((n : Int) + (m : Int) - (i : Int))]).run Tryz.prog w =
      .ok (.slice (some ⟨w.heap.size, 0, none⟩) (n + m) (grownCap w (n + m) c 53)) (w.drew.alloc (.cells ((cs.take (i * 3)).toArray ++ Builtin.zeroCells ((Value.agg #[.string ⟨#[]⟩, .string ⟨#[]⟩, .bool false])).cells (n + m - i) ++ Builtin.zeroCells ((Value.agg #[.string ⟨#[]⟩, .string ⟨#[]⟩, .bool false])).cells (grownCap w (n + m) c 53 - (n + m))) 53)) := fun ty => by
    have h := Lib.run_append_grow_zeros w 22 3 ty 53 i0 _ .i64 .i64 uS uI hi0 hz0 (some ⟨b, off, none⟩) i c (cs.take (i * 3)) hold (n + m - i) (by omega) (by omega) (by omega) (by omega) (by rw [hzb]; omega) (by rw [hzb, hik]; exact growslice_fits hroom hbig)
    rw [hik] at h
    rw [hkk]
    exact h
  obtain ⟨G, hG⟩ : ∃ G, G = grownCap w (n + m) c 53 := ⟨_, rfl⟩
  obtain ⟨ROW, hROW⟩ : ∃ ROW : Array Value, ROW = (cs.take (i * 3)).toArray ++ Builtin.zeroCells ((Value.agg #[.string ⟨#[]⟩, .string ⟨#[]⟩, .bool false])).cells (n + m - i) ++ Builtin.zeroCells ((Value.agg #[.string ⟨#[]⟩, .string ⟨#[]⟩, .bool false])).cells (G - (n + m)) := ⟨_, rfl⟩
  rw [← hG] at hrz ⊢
  rw [← hROW] at hrz ⊢
  have hRl : (n + m) * 3 ≤ ROW.size := by
    rw [hROW]
    simp [Builtin.zeroCells, Value.cells]
    omega
  obtain ⟨W1, hW1⟩ : ∃ W1, W1 = w.drew.alloc (.cells ROW 53) := ⟨_, rfl⟩
  rw [← hW1] at hrz
  have hN : ∀ j, j < (n + m) * 3 → (W1.cell? ⟨w.heap.size, j, none⟩).isSome = true := fun j hj => by
    rw [hW1, World.cell?_alloc_at (w := w.drew) ROW _ w.heap.size j rfl, Array.getElem?_eq_getElem (by omega)]; rfl
  have hNf : ∀ j, W1.frozen? ⟨w.heap.size, j, none⟩ = false := fun j => by rw [hW1]; exact World.frozen?_alloc_at (w := w.drew) ROW _ w.heap.size j rfl
  have hOb : ∀ j v, w.cell? ⟨b, j, none⟩ = some v → W1.cell? ⟨b, j, none⟩ = some v := fun j v h => by rw [hW1, World.cell?_alloc_past (w := w.drew) _ b j hbw]; exact h
  have hOv : ∀ j v, w.cell? ⟨vb, j, none⟩ = some v → W1.cell? ⟨vb, j, none⟩ = some v := fun j v h => by rw [hW1, World.cell?_alloc_past (w := w.drew) _ vb j hvw]; exact h
  have hcpA : ∀ (W : World), (∀ x, W.cell? x = W1.cell? x) → (∀ x, W.frozen? x = W1.frozen? x) → ∀ ty dc, (Builtin.copy_ #[22, 22] ty #[.slice (some ⟨w.heap.size, i * 3, none⟩) (n + m - i) dc, .slice (some ⟨vb, voff, none⟩) m vc]).run Tryz.prog W = .ok (goInt (Nat.min m (n + m - i))) (W.setCells w.heap.size (i * 3) vs) := fun W hWc hWf ty dc =>
    run_copy_cellsK W _ _ ty 53 3 w.heap.size (i * 3) (n + m - i) dc ⟨vb, voff, none⟩ m vc vs uS hsz (by rw [hvl]; simp only [Nat.min_def]; split <;> omega)
      (fun j v hj => by rw [Addr.add_lit, hWc]; exact hOv _ v (hvs j v hj))
      (fun j hj => by rw [hWc]; exact hN _ (by omega)) (fun j hj => by rw [hWf]; exact hNf _) h1v
  have hGn : n + m ≤ G := by rw [hG]; exact grownCap_ge w _ _ _
  have hG63 : G ≤ 9223372036854775807 := by
    have := grownCap_le_maxLen w (n + m) c 53 (by unfold maxLen; omega)
    rw [← hG] at this
    unfold maxLen at this
    omega
  have hGi : ¬ (G = i) := by omega
  have hGim : ¬ (G = i + m) := by omega
  have hci : ¬ (c = i) := by omega
  have hbN : b ≠ w.heap.size := by omega
  have hdl : (cs.drop (i * 3)).length = (n - i) * 3 := by rw [List.length_drop, hcl, Nat.sub_mul]
  have hcpB : ∀ (W : World), (∀ x, W.cell? x = (W1.setCells w.heap.size (i * 3) vs).cell? x) → (∀ x, W.frozen? x = (W1.setCells w.heap.size (i * 3) vs).frozen? x) → ∀ ty dc sc, (Builtin.copy_ #[22, 22] ty #[.slice (some ⟨w.heap.size, (i + m) * 3, none⟩) (n + m - (i + m)) dc, .slice (some ⟨b, off + i * 3, none⟩) (n - i) sc]).run Tryz.prog W = .ok (goInt (Nat.min (n - i) (n + m - (i + m)))) (W.setCells w.heap.size ((i + m) * 3) (cs.drop (i * 3))) := fun W hWc hWf ty dc sc =>
    run_copy_cellsK W _ _ ty 53 3 w.heap.size ((i + m) * 3) (n + m - (i + m)) dc ⟨b, off + i * 3, none⟩ (n - i) sc (cs.drop (i * 3)) uS hsz (by rw [hdl]; simp only [Nat.min_def]; split <;> omega)
      (fun j v hj => by
        rw [Addr.add_lit, hWc, World.cell?_setCells_out _ _ _ _ _ (fun h _ => absurd h hbN), Nat.add_assoc]
        exact hOb _ v (hcs (i * 3 + j) v (by rwa [List.getElem?_drop] at hj)))
      (fun j hj => by rw [hWc]; exact isSome_setCells _ _ _ _ (fun t ht => hN _ (by omega)) _ (hN _ (by omega)))
      (fun j hj => by rw [hWf, World.frozen?_setCells]; exact hNf _) (fun v hv => h1c v (List.mem_of_mem_drop hv))
  subst hW1
  have hE1 : ∀ x, ((w.alloc (.cells ROW 53)).drew).cell? x = (w.drew.alloc (.cells ROW 53)).cell? x := fun x => rfl
  have hE2 : ∀ x, ((w.alloc (.cells ROW 53)).drew).frozen? x = (w.drew.alloc (.cells ROW 53)).frozen? x := fun x => rfl
  have hF1 : ∀ x, (((w.alloc (.cells ROW 53)).drew.setCells w.heap.size (i * 3) vs).drew).cell? x = ((w.drew.alloc (.cells ROW 53)).setCells w.heap.size (i * 3) vs).cell? x := fun x => rfl
  have hF2 : ∀ x, (((w.alloc (.cells ROW 53)).drew.setCells w.heap.size (i * 3) vs).drew).frozen? x = ((w.drew.alloc (.cells ROW 53)).setCells w.heap.size (i * 3) vs).frozen? x := fun x => rfl
  have hw1 : IntKind.i64.wrap ((i : Int) + (m : Int)) = (i : Int) + (m : Int) := by rw [IntKind.wrap_i64]; omega
  have hb1 : (0 : Int) ≤ (i : Int) + (m : Int) := by omega
  have hin : i ≤ n := by omega
  have htn : ((i : Int) + (m : Int)).toNat = i + m := by omega
  have hb3 : (i : Int) ≤ (n : Int) := by omega
  clear hkk hik hold hROW hG hRl
  go_enter Tryz.func79, Tryz.ntmps79
  go_wp2_with (first
    | (at_builtin; refine Lib.wpList_append_run _ rfl _ _ _ _ rfl _ _ rfl rfl _ _ (hrz _) ?_)
    | (at_builtin; refine wpList_copy_runI _ rfl _ _ 22 22 rfl _ _ rfl rfl (hcpA _ hE1 hE2 _ _) ?_)
    | (at_builtin; refine wpList_copy_runI _ rfl _ _ 22 22 rfl _ _ rfl rfl (hcpB _ (fun _ => rfl) (fun _ => rfl) _ _ _) ?_))
  try go_region_law_o (refine step_copy_runI rfl _ _ 22 22 rfl (.slice (some ⟨w.heap.size, (i + m) * 3, none⟩) (n + m - (i + m)) (G - (i + m))) (.slice (some ⟨b, off + i * 3, none⟩) (n - i) (c - i)) (by simp [Act.eval, Act.put]) (by simp [Act.eval, Act.put]) (hcpB _ hF1 hF2 3 (G - (i + m)) (c - i)) ?_)
  go_wp2
  go_ret
  exact ⟨rfl, rfl⟩

theorem Tryz.ins79_grow : InsGrow Tryz.prog 79 3 40 := by
  intro b i n c vb voff vc cs vs w cur ucur e ue ufz hi hnc hroom hB hb hu hcs hcl hvl hvs h1c h1v
  have hcl2 : n * 3 ≤ cur.size := by
    have := hcl
    rw [hcs] at this
    simp at this
    omega
  refine (Tryz.ins79_grow0 b 0 n c i vb voff 1 vc cs vs w hi (by omega) hnc hroom hB hcl (by omega) ?_ hvs h1c h1v).mono ?_
  · intro j v hj
    rw [Nat.zero_add, insCellAt hb]
    rw [hcs, List.getElem?_take] at hj
    split at hj
    · simpa using hj
    · cases hj
  · rintro ex w' ⟨rfl, rfl⟩
    have hGn : n + 1 ≤ grownCap w (n + 1) c 53 := grownCap_ge w _ _ _
    have hs := setCells_rest w.heap.size vs (i * 3) (w.alloc (.cells ((cs.take (i * 3)).toArray ++ Builtin.zeroCells ((Value.agg #[.string ⟨#[]⟩, .string ⟨#[]⟩, .bool false])).cells (n + 1 - i) ++ Builtin.zeroCells ((Value.agg #[.string ⟨#[]⟩, .string ⟨#[]⟩, .bool false])).cells (grownCap w (n + 1) c 53 - (n + 1))) 53)).drew
    refine ⟨_, (cs.take (i * 3)).toArray ++ Builtin.zeroCells ((Value.agg #[.string ⟨#[]⟩, .string ⟨#[]⟩, .bool false])).cells (n + 1 - i) ++ Builtin.zeroCells ((Value.agg #[.string ⟨#[]⟩, .string ⟨#[]⟩, .bool false])).cells (grownCap w (n + 1) c 53 - (n + 1)), 53, rfl, hGn, ?_, ?_,
      (w.alloc (.cells ((cs.take (i * 3)).toArray ++ Builtin.zeroCells ((Value.agg #[.string ⟨#[]⟩, .string ⟨#[]⟩, .bool false])).cells (n + 1 - i) ++ Builtin.zeroCells ((Value.agg #[.string ⟨#[]⟩, .string ⟨#[]⟩, .bool false])).cells (grownCap w (n + 1) c 53 - (n + 1))) 53)).drew, ⟨rfl, rfl, rfl, rfl⟩,
      ((w.alloc (.cells ((cs.take (i * 3)).toArray ++ Builtin.zeroCells ((Value.agg #[.string ⟨#[]⟩, .string ⟨#[]⟩, .bool false])).cells (n + 1 - i) ++ Builtin.zeroCells ((Value.agg #[.string ⟨#[]⟩, .string ⟨#[]⟩, .bool false])).cells (grownCap w (n + 1) c 53 - (n + 1))) 53)).drew.setCells w.heap.size (i * 3) vs).drew, ⟨rfl, hs.1, hs.2.1, hs.2.2⟩, rfl⟩
    · simp [Builtin.zeroCells, Value.cells]
      omega
    · rw [Array.append_assoc, Array.toList_append]
      rw [List.take_append_of_le_length (by simp; omega)]
      exact List.take_of_length_le (by simp; omega)

end Go.Proofs
namespace Go.Cellar
open Go
def insEapi_Interest__79_res (r : List (List UInt8 × List UInt8 × Bool)) : AV := (fun (r_174 : List (List UInt8 × List UInt8 × Bool)) => AV.view (0 : Nat) (0 : Nat) Option.none) r

def insEapi_Interest__79_out (r : List (List UInt8 × List UInt8 × Bool)) : List AO := (fun (r_174 : List (List UInt8 × List UInt8 × Bool)) => [AO.row (Ty.prod Ty.str (Ty.prod Ty.str Ty.bool)) r_174]) r

noncomputable def insEapi_Interest__79 (i_170 : Int) (v_171 : List (List UInt8 × List UInt8 × Bool)) (o0_172 : List (List UInt8 × List UInt8 × Bool)) : Option (List (List UInt8 × List UInt8 × Bool)) :=
  if (0 : Int) ≤ i_170 ∧ (↑(0 : Nat) : Int) + i_170 ≤ (↑(List.length o0_172) : Int) then
    bif Decidable.decide ((↑(List.length v_171) : Int) = (0 : Int)) then
      some (o0_172)
    else
      bif Decidable.decide (i_170 = (↑(List.length o0_172) : Int) - (↑(0 : Nat) : Int)) then
        if (List.length o0_172 + List.length v_171) * (40 : Nat) ≤ (17592186044416 : Nat) then
          some (o0_172 ++ v_171)
        else none
      else
        none
  else none

theorem insEapi_Interest__79_con {i_170 : Int} {v_171 : List (List UInt8 × List UInt8 × Bool)} {o0_172 : List (List UInt8 × List UInt8 × Bool)} {r : List (List UInt8 × List UInt8 × Bool)} (h : insEapi_Interest__79 i_170 v_171 o0_172 = some r) : Con Go.Proofs.Tryz.prog 79 [AV.view (0 : Nat) (0 : Nat) Option.none, AV.int IntKind.i64 i_170, AV.list (Ty.prod Ty.str (Ty.prod Ty.str Ty.bool)) v_171 Bool.false] [AO.row (Ty.prod Ty.str (Ty.prod Ty.str Ty.bool)) o0_172] (insEapi_Interest__79_res r) (insEapi_Interest__79_out r) := by
  refine W.con (by kernel_rfl) ?_
  unfold insEapi_Interest__79 at h
  refine W.needT 0 100000 h (by kernel_rfl) (fun h => ?_)
  refine W.cond 0 100000 h (by kernel_rfl) (fun h => ?_) (fun h => ?_)
  ·
    exact W.retT 0 100000 h (by kernel_rfl)
  ·
    refine W.cond 0 100000 h (by kernel_rfl) (fun h => ?_) (fun h => ?_)
    ·
      refine W.needT 0 100000 h (by kernel_rfl) (fun h => ?_)
      exact W.retT 0 100000 h (by kernel_rfl)
    ·
      exact nomatch h


noncomputable def api_Interest__79 (at_ : Int) (v l : List (Ty.T (Ty.prod Ty.str (Ty.prod Ty.str Ty.bool)))) : Option (List (Ty.T (Ty.prod Ty.str (Ty.prod Ty.str Ty.bool)))) :=
  match v with
  | [x] => if 0 ≤ at_ ∧ at_ ≤ (l.length : Int) ∧ (l.length + 1) * 40 ≤ 17592186044416 then some (insOne l at_.toNat x) else none
  | _ => none
def api_Interest__79_res (r : List (Ty.T (Ty.prod Ty.str (Ty.prod Ty.str Ty.bool)))) : AV := .view 0 0 none
def api_Interest__79_out (r : List (Ty.T (Ty.prod Ty.str (Ty.prod Ty.str Ty.bool)))) : List AO := [.row (Ty.prod Ty.str (Ty.prod Ty.str Ty.bool)) r]
theorem api_Interest__79_con {at_ : Int} {v l r : List (Ty.T (Ty.prod Ty.str (Ty.prod Ty.str Ty.bool)))} (h : api_Interest__79 at_ v l = some r) : Con Go.Proofs.Tryz.prog 79 [.view 0 0 none, .int .i64 at_, .list (Ty.prod Ty.str (Ty.prod Ty.str Ty.bool)) v false] [.row (Ty.prod Ty.str (Ty.prod Ty.str Ty.bool)) l] (api_Interest__79_res r) (api_Interest__79_out r) := by
  unfold api_Interest__79 at h
  split at h
  · rename_i x
    split at h
    · rename_i hc
      simp only [Option.some.injEq] at h
      subst h
      obtain ⟨n, rfl⟩ := Int.eq_ofNat_of_zero_le hc.1
      refine insert_con (B := 40) (fun l x hb => ?_) Go.Proofs.Tryz.ins79_room Go.Proofs.Tryz.ins79_grow (by have := hc.2.1; omega) hc.2.2
      refine insEapi_Interest__79_con ?_
      unfold insEapi_Interest__79
      simp
      omega
    · cases h
  · cases h

end Go.Cellar
