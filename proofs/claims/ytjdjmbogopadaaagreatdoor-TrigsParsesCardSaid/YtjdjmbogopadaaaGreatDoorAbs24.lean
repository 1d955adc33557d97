/- strings.Builder: what its methods do to the memory, exactly; and their contracts. No condition. -/
import Derived.Test.YtjdjmbogopadaaaGreatDoorAbs22
import Derived.Shelf.Strings.BuilderK
set_option linter.unusedVariables false
set_option linter.unusedSimpArgs false
namespace Go.Cellar
open Go Go.Proofs Go.Shelf Go.RowKit

/-- What a builder's second cell holds. -/
def BufIs (w : World) (e : Nat) (x : Value) (l : List UInt8) : Prop :=
  (x = .slice none 0 0 ∧ l = []) ∨ ∃ g cap cur fz, x = .slice (some ⟨g, 0, none⟩) l.length cap ∧ 0 < cap ∧ w.heap[g]? = some (.cells cur e fz) ∧ fz.2 ≤ l.length ∧ l.length ≤ cap ∧ cap ≤ cur.size ∧ cur.toList.take l.length = Lib.byteCells l

/-- .. the buffer is the old one, or new. -/
def BufAt (w : World) (x x' : Value) : Prop := x'.ownBlock = none ∨ x'.ownBlock = x.ownBlock ∨ ∃ g, x'.ownBlock = some g ∧ w.heap.size ≤ g

theorem BufIs.cells {w : World} {e : Nat} {g cap : Nat} {l : List UInt8} {cur : Array Value} {fz : Nat × Nat} (hg : w.heap[g]? = some (.cells cur e fz)) (ht : cur.toList.take l.length = Lib.byteCells l) :
    ∀ j u, (Lib.byteCells l)[j]? = some u → w.cell? ((⟨g, 0, none⟩ : Addr).add j) = some u := by
  intro j u hu
  have hadd : (⟨g, 0, none⟩ : Addr).add j = ⟨g, j, none⟩ := by unfold Addr.add; split <;> simp_all
  rw [hadd, cell_of_row w g j cur e fz hg]
  rw [← ht, List.getElem?_take] at hu
  split at hu
  · simpa using hu
  · cases hu

theorem byteCells_append (a b : List UInt8) : Lib.byteCells (a ++ b) = Lib.byteCells a ++ Lib.byteCells b := by simp [Lib.byteCells]

/-- Cells put behind a buffer's bytes. -/
theorem run_buf_cells {P : Program} (w : World) (t ty e : TypeId) (i : TypeInfo) (ht : P.underlying t = some (.slice e)) (hi : P.info? e = some i) (hz : i.zero = some (.int .u8 0)) (hsize : i.size = 1) (hby : i.bytes = 1)
    (x : Value) (l : List UInt8) (hx : BufIs w e x l) (a : Addr) (c : UInt8) (cap' : Nat) (hnews : ∀ (j : Nat) u, [Value.int .u8 c.toNat][j]? = some u → w.cell? (a.add j) = some u) (hbytes : l.length + 1 ≤ 140737488355328) :
    ∃ v' w', (Builtin.append_ #[t, t] ty #[x, .slice (some a) 1 cap']).run P w = .ok v' w' ∧ BufIs w' e v' (l ++ [c]) ∧ w.grownBy w' x.ownBlock ∧ BufAt w x v' := by
  rcases hx with ⟨rfl, rfl⟩ | ⟨g, cap, cur, fz, rfl, hc0, hg, hfz, hlc, hcc, htake⟩
  · obtain ⟨v', w', r1, r2, r3, r4⟩ := run_append_own (P := P) w w.heap.size t ty e i (.int .u8 0) 1 1 ht hi hz hsize hby rfl (by decide) (.slice none 0 0) 0 [] ⟨rfl, .inl ⟨rfl, rfl⟩⟩ a 1 cap' [.int .u8 c.toNat] rfl hnews (fun u hu => by simp at hu; subst hu; rfl) (by unfold maxLen; omega) (by omega) (Nat.le_refl _)
    refine ⟨v', w', r1, ?_, r3, ?_⟩
    · rcases r2.2 with ⟨_, h0⟩ | ⟨g, cap, cur, hv, hb, hg, hnc, hcm, hcs, hta⟩
      · omega
      · exact .inr ⟨g, cap, cur, (0, 0), hv, by omega, hg, Nat.zero_le _, hnc, by omega, hta⟩
    · rcases r2.2 with ⟨_, h0⟩ | ⟨g, cap, cur, hv, hb, _⟩
      · omega
      · exact .inr (.inr ⟨g, by rw [hv]; rfl, hb⟩)
  · have hnl : ([Value.int .u8 c.toNat] : List Value).length = 1 * i.size := by rw [hsize]; rfl
    have hone : ∀ u ∈ [Value.int .u8 c.toNat], u.oneCell' = true := fun u hu => by simp at hu; subst hu; rfl
    by_cases hroom : l.length + 1 ≤ cap
    · have hr := run_append_roomF (P := P) w t ty e i ht hi g l.length cap cur fz hg (by rw [hsize]; omega) a 1 cap' [.int .u8 c.toNat] hnl hnews hone hroom (by rw [hsize]; simp; omega)
      refine ⟨_, _, hr, .inr ⟨g, cap, _, fz, by simp, hc0, setRow_heap w g cur _ e _ hg, by simp; omega, by simpa using hroom, ?_, ?_⟩, ⟨rfl, rfl, rfl, by simp, fun k _ hk => setRow_other w g k _ (fun e => hk (by simp [Value.ownBlock, e]))⟩, .inr (.inl rfl)⟩
      · simp only [List.size_toArray, List.length_append, List.length_take, List.length_drop, Array.length_toList, List.length_cons, List.length_nil, hsize]
        omega
      · rw [hsize, Nat.mul_one, htake, byteCells_append]
        have : (l ++ [c]).length = (Lib.byteCells l ++ [Value.int .u8 c.toNat]).length := by simp [Lib.byteCells_length]
        rw [this]
        exact List.take_left
    · have hr := run_append_grow (P := P) w t ty e i (.int .u8 0) ht hi hz ⟨g, 0, none⟩ l.length cap (Lib.byteCells l) (by rw [hsize, Lib.byteCells_length, Nat.mul_one]) (BufIs.cells (cap := cap) hg htake) a 1 cap' [.int .u8 c.toNat] hnl hnews (by omega) (by omega) (by rw [hby]; exact growslice_fits (by omega) (by omega))
      have hge := grownCap_ge w (l.length + 1) cap e
      refine ⟨_, _, hr, .inr ⟨w.heap.size, grownCap w (l.length + 1) cap e, _, (0, 0), by simp, by omega, heap_alloc_new (w := w.drew), Nat.zero_le _, by simpa using hge, ?_, ?_⟩, ⟨rfl, rfl, rfl, by simp, fun k hk _ => Lib.alloc_old w.drew _ k hk⟩, .inr (.inr ⟨_, rfl, Nat.le_refl _⟩)⟩
      · have hz1 : (Value.int IntKind.u8 0).cells.size = 1 := rfl
        simp only [Array.size_append, List.size_toArray, size_zeroCells, hz1, Lib.byteCells_length, List.length_cons, List.length_nil]
        omega
      · simp only [Array.toList_append, List.append_assoc]
        rw [← List.append_assoc]
        have : (l ++ [c]).length = (Lib.byteCells l ++ [Value.int .u8 c.toNat]).length := by simp [Lib.byteCells_length]
        rw [byteCells_append, this]
        exact List.take_left

theorem strCells_bytes (s : ByteArray) : Lib.strCells s = Lib.byteCells s.data.toList := rfl
theorem size_list (s : ByteArray) : s.size = s.data.toList.length := rfl

/-- A text put behind a buffer's bytes. -/
theorem run_buf_string {P : Program} (w : World) (t u ty e : TypeId) (i : TypeInfo) (ht : P.underlying t = some (.slice e)) (hu : P.underlying u = some .string) (hi : P.info? e = some i) (hz : i.zero = some (.int .u8 0)) (hsize : i.size = 1) (hby : i.bytes = 1)
    (x : Value) (l : List UInt8) (hx : BufIs w e x l) (s : ByteArray) (hbytes : l.length + s.size ≤ 140737488355328) :
    ∃ v' w', (Builtin.append_ #[t, u] ty #[x, .string s]).run P w = .ok v' w' ∧ BufIs w' e v' (l ++ s.data.toList) ∧ w.grownBy w' x.ownBlock ∧ BufAt w x v' := by
  rcases hx with ⟨rfl, rfl⟩ | ⟨g, cap, cur, fz, rfl, hc0, hg, hfz, hlc, hcc, htake⟩
  · obtain ⟨v', w', r1, r2, r3, r4⟩ := Lib.run_append_own_string (P := P) w w.heap.size t u ty e i ht hu hi hz hsize hby (.slice none 0 0) 0 [] ⟨rfl, .inl ⟨rfl, rfl⟩⟩ s (by simp at hbytes; unfold maxLen; omega) (by simpa using hbytes) (Nat.le_refl _)
    have hs0 : s.size = 0 → s.data.toList = [] := fun h => List.eq_nil_of_length_eq_zero (by rw [← size_list]; exact h)
    refine ⟨v', w', r1, ?_, r3, ?_⟩
    · rcases r2.2 with ⟨hv, h0⟩ | ⟨g, cap, cur, hv, hb, hg, hnc, hcm, hcs, hta⟩
      · exact .inl ⟨hv, by rw [hs0 (by omega)]; rfl⟩
      · by_cases hc : cap = 0
        · have h0 : s.size = 0 := by omega
          exact .inl ⟨r4.mpr ⟨rfl, h0⟩, by rw [hs0 h0]; rfl⟩
        · refine .inr ⟨g, cap, cur, (0, 0), ?_, by omega, hg, Nat.zero_le _, ?_, by omega, ?_⟩
          · rw [hv, List.nil_append, ← size_list, Nat.zero_add]
          · rw [List.nil_append, ← size_list]; omega
          · have h2 : cur.toList.take s.size = Lib.strCells s := by simpa using hta
            rw [List.nil_append, ← size_list]
            exact h2
    · rcases r2.2 with ⟨hv, h0⟩ | ⟨g, cap, cur, hv, hb, _⟩
      · exact .inl (by rw [hv]; rfl)
      · exact .inr (.inr ⟨g, by rw [hv]; rfl, hb⟩)
  · by_cases hroom : l.length + s.size ≤ cap
    · have hr := Lib.run_append_room_stringF (P := P) w t u ty e i ht hu hi hsize g l.length cap cur fz hg hfz s hroom (by omega)
      refine ⟨_, _, hr, .inr ⟨g, cap, _, fz, by rw [List.length_append, ← size_list], hc0, setRow_heap w g cur _ e _ hg, by simp; omega, by rw [List.length_append, ← size_list]; exact hroom, ?_, ?_⟩, ⟨rfl, rfl, rfl, by simp, fun k _ hk => setRow_other w g k _ (fun e => hk (by simp [Value.ownBlock, e]))⟩, .inr (.inl rfl)⟩
      · simp only [List.size_toArray, List.length_append, List.length_take, List.length_drop, Array.length_toList, Lib.strCells_length]
        omega
      · rw [htake, byteCells_append, ← strCells_bytes]
        have : (l ++ s.data.toList).length = (Lib.byteCells l ++ Lib.strCells s).length := by simp [Lib.byteCells_length, strCells_bytes]
        rw [this]
        exact List.take_left
    · have hr := Lib.run_append_grow_string (P := P) w t u ty e i (.int .u8 0) ht hu hi hz ⟨g, 0, none⟩ l.length cap (Lib.byteCells l) (by rw [hsize, Lib.byteCells_length, Nat.mul_one]) (BufIs.cells (cap := cap) hg htake) s (by omega) (by omega) (by rw [hby]; exact growslice_fits (by omega) (by omega))
      have hge := grownCap_ge w (l.length + s.size) cap e
      refine ⟨_, _, hr, .inr ⟨w.heap.size, grownCap w (l.length + s.size) cap e, _, (0, 0), by rw [List.length_append, ← size_list], by omega, heap_alloc_new (w := w.drew), Nat.zero_le _, by rw [List.length_append, ← size_list]; exact hge, ?_, ?_⟩, ⟨rfl, rfl, rfl, by simp, fun k hk _ => Lib.alloc_old w.drew _ k hk⟩, .inr (.inr ⟨_, rfl, Nat.le_refl _⟩)⟩
      · have hz1 : (Value.int IntKind.u8 0).cells.size = 1 := rfl
        simp only [Array.size_append, List.size_toArray, size_zeroCells, hz1, Lib.byteCells_length, Lib.strCells_length]
        omega
      · simp only [Array.toList_append, List.append_assoc]
        rw [← List.append_assoc]
        have : (l ++ s.data.toList).length = (Lib.byteCells l ++ Lib.strCells s).length := by simp [Lib.byteCells_length, strCells_bytes]
        rw [byteCells_append, ← strCells_bytes, this]
        exact List.take_left

section
variable {P : Program} {w : World}
theorem wpList_buf_string {ops : Array Oper} {rest : List Oper} {o : Oper} {a : Act} {Q : Exit → Act → World → Prop} (hgd : o.guard = none) (sl x : Operand) (t u : TypeId)
    (ho : o.op = .call { callee := .builtin .append, args := #[sl, x], argTypes := #[t, u] })
    (e : TypeId) (i : TypeInfo) (ht : P.underlying t = some (.slice e)) (hu : P.underlying u = some .string) (hi : P.info? e = some i) (hz : i.zero = some (.int .u8 0)) (hsize : i.size = 1) (hby : i.bytes = 1)
    (v : Value) (l : List UInt8) (hs : a.eval sl = v) (hown : BufIs w e v l) (s : ByteArray) (hx : a.eval x = .string s) (hbytes : l.length + s.size ≤ 140737488355328)
    (h : ∀ v' w', BufIs w' e v' (l ++ s.data.toList) → w.grownBy w' v.ownBlock → BufAt w v v' → wpList P ops Q rest (a.put o.dst v') w') : wpList P ops Q (o :: rest) a w := by
  refine wpList_plain hgd fun K hK => ?_
  obtain ⟨v', w', hr, h2, h3, h4⟩ := run_buf_string (P := P) w t u o.type e i ht hu hi hz hsize hby v l hown s hbytes
  unfold Oper.wp execOp
  simp only [ho, resolve, invoke, builtin, Sem.run_bind, Sem.run_pure, Result.andThen_ok, List.map_toArray, List.map_cons, List.map_nil, hs, hx, hr]
  exact hK _ _ (h v' w' h2 h3 h4)

theorem wpList_buf_cells {ops : Array Oper} {rest : List Oper} {o : Oper} {a : Act} {Q : Exit → Act → World → Prop} (hgd : o.guard = none) (sl x : Operand) (t : TypeId)
    (ho : o.op = .call { callee := .builtin .append, args := #[sl, x], argTypes := #[t, t] })
    (e : TypeId) (i : TypeInfo) (ht : P.underlying t = some (.slice e)) (hi : P.info? e = some i) (hz : i.zero = some (.int .u8 0)) (hsize : i.size = 1) (hby : i.bytes = 1)
    (v : Value) (l : List UInt8) (hs : a.eval sl = v) (hown : BufIs w e v l) (ad : Addr) (c : UInt8) (cap' : Nat) (hx : a.eval x = .slice (some ad) 1 cap') (hnews : ∀ (j : Nat) u, [Value.int .u8 c.toNat][j]? = some u → w.cell? (ad.add j) = some u) (hbytes : l.length + 1 ≤ 140737488355328)
    (h : ∀ v' w', BufIs w' e v' (l ++ [c]) → w.grownBy w' v.ownBlock → BufAt w v v' → wpList P ops Q rest (a.put o.dst v') w') : wpList P ops Q (o :: rest) a w := by
  refine wpList_plain hgd fun K hK => ?_
  obtain ⟨v', w', hr, h2, h3, h4⟩ := run_buf_cells (P := P) w t o.type e i ht hi hz hsize hby v l hown ad c cap' hnews hbytes
  unfold Oper.wp execOp
  simp only [ho, resolve, invoke, builtin, Sem.run_bind, Sem.run_pure, Result.andThen_ok, List.map_toArray, List.map_cons, List.map_nil, hs, hx, hr]
  exact hK _ _ (h v' w' h2 h3 h4)
end

/-! ### the methods, exactly -/

/-- A builder in a world. -/
structure BldIs (w : World) (T e b : Nat) (p x : Value) (l : List UInt8) : Prop where
  hb : w.heap[b]? = some (.cells #[p, x] T (0, 0))
  hp : p = .pointer none ∨ p = .pointer (some ⟨b, 0, none⟩)
  hx : BufIs w e x l
  ne : x.ownBlock ≠ some b

/-- What else stands. -/
structure Kept (w w' : World) (b : Nat) (x : Value) : Prop where
  size : w.heap.size ≤ w'.heap.size
  old : ∀ k, k < w.heap.size → k ≠ b → some k ≠ x.ownBlock → w'.heap[k]? = w.heap[k]?
  os : w'.os = w.os
  tape : w'.tape = w.tape
  output : w'.output = w.output

theorem setCell_other (w : World) (b o : Nat) (v : Value) (k : Nat) (h : k ≠ b) : (w.setCell ⟨b, o, none⟩ v).heap[k]? = w.heap[k]? := Below.heap_setCell _ _ _ _ (fun e => h (by simp at e; exact e))

theorem BufIs.keep {w w' : World} {e : Nat} {x : Value} {l : List UInt8} (h : BufIs w e x l) (hk : ∀ g, x.ownBlock = some g → w'.heap[g]? = w.heap[g]?) : BufIs w' e x l := by
  rcases h with h | ⟨g, cap, cur, fz, rfl, h0, hg, r⟩
  · exact .inl h
  · exact .inr ⟨g, cap, cur, fz, rfl, h0, by rw [hk g rfl]; exact hg, r⟩

variable {P : Program} {ρ : Ren}

theorem copyCheck_exact (L : Lays.n240 P ρ) (X : Builder.X72 P ρ) {b : Nat} {p x : Value} {l : List UInt8} {e : Nat} {w : World} (h : BldIs w (ρ.t 72) e b p x l) :
    Calls P (ρ.f 240) #[.pointer (some ⟨b, 0, none⟩)] w fun r w' => r = .returned (.tuple #[]) ∧ BldIs w' (ρ.t 72) e b (.pointer (some ⟨b, 0, none⟩)) x l ∧ w'.heap.size = w.heap.size ∧ (∀ k, k ≠ b → w'.heap[k]? = w.heap[k]?) ∧ w'.os = w.os ∧ w'.tape = w.tape ∧ w'.output = w.output := by
  obtain ⟨hb, hp, hx, hne⟩ := h
  rcases hp with rfl | rfl
  · refine (Any.Builder_copyCheck_fresh L X b w (by rw [Lib.cell_of_heap hb]; rfl) (by simp [World.shape?, hb]) (Lib.frozen_of_heap hb 0)).mono ?_
    rintro r w' ⟨rfl, rfl⟩
    refine ⟨rfl, ⟨?_, .inr rfl, hx.keep fun g hg => setCell_other w b 0 _ g fun e => hne (by rw [← e]; exact hg), hne⟩, by simp [World.setCell], fun k hk => setCell_other w b 0 _ k hk, rfl, rfl, rfl⟩
    simp [World.setCell, Array.getElem?_modify, hb]
  · refine (Any.Builder_copyCheck_used L X b w (by rw [Lib.cell_of_heap hb]; rfl)).mono ?_
    rintro r w' ⟨rfl, rfl⟩
    exact ⟨rfl, ⟨hb, .inr rfl, hx, hne⟩, rfl, fun _ _ => rfl, rfl, rfl, rfl⟩

theorem ownBlock_le {w w' : World} {e : Nat} {x v' : Value} {l : List UInt8} {b : Nat} (hne : x.ownBlock ≠ some b) (hb : b < w.heap.size) (h : BufAt w x v') : v'.ownBlock ≠ some b := by
  rcases h with h | h | ⟨g, h, hg⟩
  · rw [h]; simp
  · rw [h]; exact hne
  · rw [h]; simp; omega

set_option maxHeartbeats 2000000 in
set_option maxRecDepth 100000 in
theorem writeString_exact (L : Lays.n166 P ρ) (X : Builder.Extra P ρ) {b : Nat} {p x : Value} {l : List UInt8} {w : World} (s : ByteArray) (h : BldIs w (ρ.t 72) (ρ.t 5) b p x l) (hlen : l.length + s.size ≤ 140737488355328) :
    Calls P (ρ.f 166) #[.pointer (some ⟨b, 0, none⟩), .string s] w fun r w' => r = .returned (.tuple #[.int .i64 s.size, .nilIface]) ∧ ∃ v', BldIs w' (ρ.t 72) (ρ.t 5) b (.pointer (some ⟨b, 0, none⟩)) v' (l ++ s.data.toList) ∧ BufAt w x v' ∧ Kept w w' b x := by
  obtain ⟨i0, hi, hz0, hz1, hz2⟩ := info_parts X.infoByte
  have mixed := L.mixed
  have t72 := L.t72; have a72 := L.a72; have z72 := L.z72; have v72 := L.v72; have u72 := run_underlying L.t72
  have t70 := L.t70; have a70 := L.a70; have z70 := L.z70; have v70 := L.v70; have u70 := run_underlying L.t70
  have t37 := L.t37; have a37 := L.a37; have z37 := L.z37; have v37 := L.v37; have u37 := run_underlying L.t37
  have t3 := L.t3; have a3 := L.a3; have z3 := L.z3; have v3 := L.v3; have u3 := run_underlying L.t3
  have t9 := L.t9; have a9 := L.a9; have z9 := L.z9; have v9 := L.v9; have u9 := run_underlying L.t9
  have t4 := L.t4; have a4 := L.a4; have z4 := L.z4; have v4 := L.v4; have u4 := run_underlying L.t4
  have t164 := L.t164; have a164 := L.a164; have z164 := L.z164; have v164 := L.v164; have u164 := run_underlying L.t164
  have t5 := X.t5; have a5 := X.a5; have z5 := X.z5; have v5 := X.v5; have u5 := run_underlying X.t5
  have e240 : ∀ args w, (callFunc (ρ.f 240) args).run P w = .ok (.enter (ρ.f 240) args) w := enters_of L.f240 (by kernel_rfl) rfl
  go_enter L.f166, Body.n166_ntmps ρ
  go_wp2_with (go_at_fn (ρ.f 240); refine (copyCheck_exact { L with } X.toX72 h).mono ?_)
  rintro r w1 ⟨rfl, h1, hs1, ho1, hos, htp, hou⟩
  obtain ⟨hbk, _, hx, hne⟩ := h1
  have c0 : w1.cell? ⟨b, 0, none⟩ = some (.pointer (some ⟨b, 0, none⟩)) := by rw [Lib.cell_of_heap hbk]; rfl
  have c1 : w1.cell? ⟨b, 1, none⟩ = some x := by rw [Lib.cell_of_heap hbk]; rfl
  go_wp2_with (at_builtin; refine wpList_buf_string rfl _ _ (ρ.t 37) (ρ.t 9) rfl (ρ.t 5) i0 L.t37 L.t9 hi hz0 hz1 hz2 x l rfl hx s rfl hlen ?_)
  intro v' w2 hx' hgrow hat
  have hlt : b < w1.heap.size := (Array.getElem?_eq_some_iff.1 hbk).1
  have hb2 : w2.heap[b]? = some (.cells #[.pointer (some ⟨b, 0, none⟩), x] (ρ.t 72) (0, 0)) := by
    rw [hgrow.block b hlt (fun e => hne e.symm)]
    exact hbk
  have d0 : w2.cell? ⟨b, 0, none⟩ = some (.pointer (some ⟨b, 0, none⟩)) := by rw [Lib.cell_of_heap hb2]; rfl
  have d1 : w2.cell? ⟨b, 1, none⟩ = some x := by rw [Lib.cell_of_heap hb2]; rfl
  have f1 : w2.frozen? ⟨b, 1, none⟩ = false := Lib.frozen_of_heap hb2 1
  have hne' : v'.ownBlock ≠ some b := ownBlock_le (w' := w2) (e := ρ.t 5) (l := l) hne hlt hat
  obtain ⟨ao, n', cap, rfl⟩ : ∃ ao n' cap, v' = .slice ao n' cap := by
    rcases hx' with ⟨hv, _⟩ | ⟨g, cap, cur, fz, hv, _⟩
    · exact ⟨_, _, _, hv⟩
    · exact ⟨_, _, _, hv⟩
  go_wp2
  go_ret2
  refine ⟨rfl, _, ⟨?_, .inr rfl, hx'.keep fun g hg => setCell_other w2 b 1 _ g fun e => hne' (by rw [← e]; exact hg), hne'⟩, ?_, ?_⟩
  · simp [World.setCell, Array.getElem?_modify, hb2]
  · rcases hat with h | h | ⟨g, h, hg⟩
    · exact .inl h
    · exact .inr (.inl h)
    · exact .inr (.inr ⟨g, h, by omega⟩)
  · have := hgrow.size
    refine ⟨by simp [World.setCell]; omega, fun k hk hkb hkx => ?_, hgrow.os.trans hos, hgrow.tape.trans htp, hgrow.output.trans hou⟩
    rw [setCell_other w2 b 1 _ k hkb, hgrow.block k (by omega) hkx, ho1 k hkb]

set_option maxHeartbeats 2000000 in
set_option maxRecDepth 100000 in
theorem writeByte_exact (L : Lays.n167 P ρ) (X : Builder.Extra P ρ) {b : Nat} {p x : Value} {l : List UInt8} {w : World} (c : UInt8) (h : BldIs w (ρ.t 72) (ρ.t 5) b p x l) (hlen : l.length + 1 ≤ 140737488355328) :
    Calls P (ρ.f 167) #[.pointer (some ⟨b, 0, none⟩), .int .u8 c.toNat] w fun r w' => r = .returned .nilIface ∧ ∃ v', BldIs w' (ρ.t 72) (ρ.t 5) b (.pointer (some ⟨b, 0, none⟩)) v' (l ++ [c]) ∧ BufAt w x v' ∧ Kept w w' b x := by
  obtain ⟨i0, hi, hz0, hz1, hz2⟩ := info_parts X.infoByte
  have mixed := L.mixed
  have t72 := L.t72; have a72 := L.a72; have z72 := L.z72; have v72 := L.v72; have u72 := run_underlying L.t72
  have t70 := L.t70; have a70 := L.a70; have z70 := L.z70; have v70 := L.v70; have u70 := run_underlying L.t70
  have t5 := L.t5; have a5 := L.a5; have z5 := L.z5; have v5 := L.v5; have u5 := run_underlying L.t5
  have t37 := L.t37; have a37 := L.a37; have z37 := L.z37; have v37 := L.v37; have u37 := run_underlying L.t37
  have t9 := L.t9; have a9 := L.a9; have z9 := L.z9; have v9 := L.v9; have u9 := run_underlying L.t9
  have t4 := L.t4; have a4 := L.a4; have z4 := L.z4; have v4 := L.v4; have u4 := run_underlying L.t4
  have t164 := L.t164; have a164 := L.a164; have z164 := L.z164; have v164 := L.v164; have u164 := run_underlying L.t164
  have e240 : ∀ args w, (callFunc (ρ.f 240) args).run P w = .ok (.enter (ρ.f 240) args) w := enters_of L.f240 (by kernel_rfl) rfl
  go_enter L.f167, Body.n167_ntmps ρ
  go_wp2_with (go_at_fn (ρ.f 240); refine (copyCheck_exact { L with } X.toX72 h).mono ?_)
  rintro r w1 ⟨rfl, h1, hs1, ho1, hos, htp, hou⟩
  have hsA : w.heap.size ≤ w1.heap.size := Nat.le_of_eq hs1.symm
  have hsB : w1.heap.size ≤ w.heap.size := Nat.le_of_eq hs1
  clear hs1
  obtain ⟨hbk, _, hx, hne⟩ := h1
  have c0 : w1.cell? ⟨b, 0, none⟩ = some (.pointer (some ⟨b, 0, none⟩)) := by rw [Lib.cell_of_heap hbk]; rfl
  have c1 : w1.cell? ⟨b, 1, none⟩ = some x := by rw [Lib.cell_of_heap hbk]; rfl
  have hlt : b < w1.heap.size := (Array.getElem?_eq_some_iff.1 hbk).1
  have hxa : ∀ o : Obj, BufIs (w1.alloc o) (ρ.t 5) x l := fun o => hx.keep fun g hg => Lib.alloc_old w1 o g (by
    rcases hx with ⟨rfl, _⟩ | ⟨g', cap, cur, fz, rfl, _, hg', _⟩
    · cases hg
    · simp [Value.ownBlock] at hg; subst hg; exact (Array.getElem?_eq_some_iff.1 hg').1)
  go_wp2_with (at_builtin; refine wpList_buf_cells rfl _ _ (ρ.t 37) rfl (ρ.t 5) i0 L.t37 hi hz0 hz1 hz2 x l rfl (hxa _) ⟨w1.heap.size, 0, none⟩ c 1 rfl ?c1 hlen ?_)
  case c1 =>
    intro j u hj
    match j, hj with
    | 0, hj => simp at hj; subst hj; simp [Addr.add]
  intro v' w2 hx' hgrow hat
  have hsz := hgrow.size
  have hb2 : w2.heap[b]? = some (.cells #[.pointer (some ⟨b, 0, none⟩), x] (ρ.t 72) (0, 0)) := by
    rw [hgrow.block b (by simp; omega) (fun e => hne e.symm), Lib.alloc_old w1 _ b hlt]
    exact hbk
  have d0 : w2.cell? ⟨b, 0, none⟩ = some (.pointer (some ⟨b, 0, none⟩)) := by rw [Lib.cell_of_heap hb2]; rfl
  have d1 : w2.cell? ⟨b, 1, none⟩ = some x := by rw [Lib.cell_of_heap hb2]; rfl
  have f1 : w2.frozen? ⟨b, 1, none⟩ = false := Lib.frozen_of_heap hb2 1
  have hne' : v'.ownBlock ≠ some b := ownBlock_le (w' := w2) (e := ρ.t 5) (l := l) hne (by simp; omega) hat
  obtain ⟨ao, n', cap, rfl⟩ : ∃ ao n' cap, v' = .slice ao n' cap := by
    rcases hx' with ⟨hv, _⟩ | ⟨g, cap, cur, fz, hv, _⟩
    · exact ⟨_, _, _, hv⟩
    · exact ⟨_, _, _, hv⟩
  go_wp2
  go_ret
  refine ⟨rfl, _, ⟨?_, .inr rfl, hx'.keep fun g hg => setCell_other w2 b 1 _ g fun e => hne' (by rw [← e]; exact hg), hne'⟩, ?_, ?_⟩
  · simp [World.setCell, Array.getElem?_modify, hb2]
  · rcases hat with h | h | ⟨g, h, hg⟩
    · exact .inl h
    · exact .inr (.inl h)
    · exact .inr (.inr ⟨g, h, by simp at hg; omega⟩)
  · simp at hsz
    refine ⟨by simp [World.setCell]; omega, fun k hk hkb hkx => ?_, hgrow.os.trans hos, hgrow.tape.trans htp, hgrow.output.trans hou⟩
    rw [setCell_other w2 b 1 _ k hkb, hgrow.block k (by simp; omega) hkx, Lib.alloc_old w1 _ k (by omega), ho1 k hkb]

set_option maxHeartbeats 2000000 in
set_option maxRecDepth 100000 in
theorem string_nil (L : Lays.n169 P ρ) (X : Builder.Extra P ρ) (b : Nat) (p : Value) (w : World) (hbk : w.heap[b]? = some (.cells #[p, .slice none 0 0] (ρ.t 72) (0, 0))) :
    Calls P (ρ.f 169) #[.pointer (some ⟨b, 0, none⟩)] w fun e w' => e = .returned (.string ⟨#[]⟩) ∧ w' = w.drew := by
  have hUS := Any.unsafeString_none L X
  have c1 : w.drew.cell? ⟨b, 1, none⟩ = some (.slice none 0 0) := by
    have : w.drew.heap[b]? = some (.cells #[p, .slice none 0 0] (ρ.t 72) (0, 0)) := hbk
    rw [Lib.cell_of_heap this]; rfl
  have hSD : (Builtin.unsafeSliceData_ #[(ρ.t 37)] (ρ.t 127) #[.slice none 0 0]).run P w.drew = .ok (.pointer none) w.drew := rfl
  have mixed := L.mixed
  have t72 := L.t72; have a72 := L.a72; have z72 := L.z72; have v72 := L.v72; have u72 := run_underlying L.t72
  have t70 := L.t70; have a70 := L.a70; have z70 := L.z70; have v70 := L.v70; have u70 := run_underlying L.t70
  have t37 := L.t37; have a37 := L.a37; have z37 := L.z37; have v37 := L.v37; have u37 := run_underlying L.t37
  have t127 := L.t127; have a127 := L.a127; have z127 := L.z127; have v127 := L.v127; have u127 := run_underlying L.t127
  have t3 := L.t3; have a3 := L.a3; have z3 := L.z3; have v3 := L.v3; have u3 := run_underlying L.t3
  have t9 := L.t9; have a9 := L.a9; have z9 := L.z9; have v9 := L.v9; have u9 := run_underlying L.t9
  have t5 := X.t5; have a5 := X.a5; have z5 := X.z5; have v5 := X.v5; have u5 := run_underlying X.t5
  go_enter L.f169, Body.n169_ntmps ρ
  go_wp2
  go_region_o
  all_goals (go_wp2; go_ret; exact ⟨rfl, rfl⟩)

set_option maxHeartbeats 2000000 in
set_option maxRecDepth 100000 in
theorem string_room (L : Lays.n169 P ρ) (X : Builder.Extra P ρ) (b g cap : Nat) (p : Value) (w : World) (hc0 : cap ≠ 0) (hbk : w.heap[b]? = some (.cells #[p, .slice (some ⟨g, 0, none⟩) 0 cap] (ρ.t 72) (0, 0))) :
    Calls P (ρ.f 169) #[.pointer (some ⟨b, 0, none⟩)] w fun e w' => e = .returned (.string ⟨#[]⟩) ∧ w' = w.drew := by
  have hUS := Any.unsafeString_none L X
  have c1 : w.drew.cell? ⟨b, 1, none⟩ = some (.slice (some ⟨g, 0, none⟩) 0 cap) := by
    have : w.drew.heap[b]? = some (.cells #[p, .slice (some ⟨g, 0, none⟩) 0 cap] (ρ.t 72) (0, 0)) := hbk
    rw [Lib.cell_of_heap this]; rfl
  have hSD : (Builtin.unsafeSliceData_ #[(ρ.t 37)] (ρ.t 127) #[.slice (some ⟨g, 0, none⟩) 0 cap]).run P w.drew = .ok (.pointer (some ⟨g, 0, none⟩)) w.drew :=
    Lib.run_unsafeSliceData_row _ _ _ _ _ _ hc0
  clear hc0
  have mixed := L.mixed
  have t72 := L.t72; have a72 := L.a72; have z72 := L.z72; have v72 := L.v72; have u72 := run_underlying L.t72
  have t70 := L.t70; have a70 := L.a70; have z70 := L.z70; have v70 := L.v70; have u70 := run_underlying L.t70
  have t37 := L.t37; have a37 := L.a37; have z37 := L.z37; have v37 := L.v37; have u37 := run_underlying L.t37
  have t127 := L.t127; have a127 := L.a127; have z127 := L.z127; have v127 := L.v127; have u127 := run_underlying L.t127
  have t3 := L.t3; have a3 := L.a3; have z3 := L.z3; have v3 := L.v3; have u3 := run_underlying L.t3
  have t9 := L.t9; have a9 := L.a9; have z9 := L.z9; have v9 := L.v9; have u9 := run_underlying L.t9
  have t5 := X.t5; have a5 := X.a5; have z5 := X.z5; have v5 := X.v5; have u5 := run_underlying X.t5
  go_enter L.f169, Body.n169_ntmps ρ
  go_wp2
  go_region_o
  all_goals (go_wp2; go_ret; exact ⟨rfl, rfl⟩)

set_option maxHeartbeats 2000000 in
set_option maxRecDepth 100000 in
theorem string_some (L : Lays.n169 P ρ) (X : Builder.Extra P ρ) (b g cap : Nat) (p : Value) (l : List UInt8) (w : World) (cur : Array Value) (fz : Nat × Nat) (h0 : l ≠ []) (hbk : w.heap[b]? = some (.cells #[p, .slice (some ⟨g, 0, none⟩) l.length cap] (ρ.t 72) (0, 0)))
    (hg : w.heap[g]? = some (.cells cur (ρ.t 5) fz)) (hlc : l.length ≤ cap) (hcc : cap ≤ cur.size) (htake : cur.toList.take l.length = Lib.byteCells l) (hlen : l.length ≤ 140737488355328) :
    Calls P (ρ.f 169) #[.pointer (some ⟨b, 0, none⟩)] w fun e w' => e = .returned (.string ⟨l.toArray⟩) ∧ w' = w.drew.freeze ⟨g, 0, none⟩ l.length := by
  have hl0 : l.length ≠ 0 := by simpa using h0
  have c1 : w.drew.cell? ⟨b, 1, none⟩ = some (.slice (some ⟨g, 0, none⟩) l.length cap) := by
    have : w.drew.heap[b]? = some (.cells #[p, .slice (some ⟨g, 0, none⟩) l.length cap] (ρ.t 72) (0, 0)) := hbk
    rw [Lib.cell_of_heap this]; rfl
  have hSD : (Builtin.unsafeSliceData_ #[(ρ.t 37)] (ρ.t 127) #[.slice (some ⟨g, 0, none⟩) l.length cap]).run P w.drew = .ok (.pointer (some ⟨g, 0, none⟩)) w.drew :=
    Lib.run_unsafeSliceData_row _ _ _ _ _ _ (by omega)
  have hUS : (Builtin.unsafeString_ #[(ρ.t 127), (ρ.t 3)] (ρ.t 9) #[.pointer (some ⟨g, 0, none⟩), .int .i64 l.length]).run P w.drew = .ok (.string ⟨l.toArray⟩) (w.drew.freeze ⟨g, 0, none⟩ l.length) := by
    refine Lib.run_unsafeString_row w.drew (ρ.t 127) (ρ.t 3) (ρ.t 9) (ρ.t 5) L.t127 X.cellsByte g cur.size (by have hg' : w.drew.heap[g]? = some (.cells cur (ρ.t 5) fz) := hg; simp [World.shape?, hg']) l h0 (by omega) (by omega) ?_
    intro j x hx
    exact BufIs.cells (w := w) (cap := cap) hg htake j (.int .u8 x.toNat) (by simp [Lib.byteCells, hx])
  have mixed := L.mixed
  have t72 := L.t72; have a72 := L.a72; have z72 := L.z72; have v72 := L.v72; have u72 := run_underlying L.t72
  have t70 := L.t70; have a70 := L.a70; have z70 := L.z70; have v70 := L.v70; have u70 := run_underlying L.t70
  have t37 := L.t37; have a37 := L.a37; have z37 := L.z37; have v37 := L.v37; have u37 := run_underlying L.t37
  have t127 := L.t127; have a127 := L.a127; have z127 := L.z127; have v127 := L.v127; have u127 := run_underlying L.t127
  have t3 := L.t3; have a3 := L.a3; have z3 := L.z3; have v3 := L.v3; have u3 := run_underlying L.t3
  have t9 := L.t9; have a9 := L.a9; have z9 := L.z9; have v9 := L.v9; have u9 := run_underlying L.t9
  have t5 := X.t5; have a5 := X.a5; have z5 := X.z5; have v5 := X.v5; have u5 := run_underlying X.t5
  go_enter L.f169, Body.n169_ntmps ρ
  go_wp2
  go_region_o
  all_goals (go_wp2; go_ret; exact ⟨rfl, rfl⟩)

theorem freeze_other (w : World) (g n k : Nat) (h : k ≠ g) : (w.freeze ⟨g, 0, none⟩ n).heap[k]? = w.heap[k]? := by
  unfold World.freeze
  split
  · rfl
  · simp only [Array.getElem?_modify]
    rw [if_neg (fun e => h e.symm)]

theorem freeze_size (w : World) (g n : Nat) : (w.freeze ⟨g, 0, none⟩ n).heap.size = w.heap.size := by
  unfold World.freeze; split <;> simp

theorem string_exact (L : Lays.n169 P ρ) (X : Builder.Extra P ρ) {b : Nat} {p x : Value} {l : List UInt8} {w : World} (h : BldIs w (ρ.t 72) (ρ.t 5) b p x l) (hlen : l.length ≤ 140737488355328) :
    Calls P (ρ.f 169) #[.pointer (some ⟨b, 0, none⟩)] w fun r w' => r = .returned (.string ⟨l.toArray⟩) ∧ BldIs w' (ρ.t 72) (ρ.t 5) b p x l ∧ Kept w w' b x := by
  obtain ⟨hb, hp, hx, hne⟩ := h
  rcases hx with ⟨rfl, rfl⟩ | ⟨g, cap, cur, fz, rfl, hc0, hg, hfz, hlc, hcc, htake⟩
  · refine (string_nil L X b p w hb).mono ?_
    rintro r w' ⟨rfl, rfl⟩
    exact ⟨rfl, ⟨hb, hp, .inl ⟨rfl, rfl⟩, hne⟩, Nat.le_refl _, fun _ _ _ _ => rfl, rfl, rfl, rfl⟩
  · by_cases h0 : l = []
    · subst h0
      refine (string_room L X b g cap p w (by omega) hb).mono ?_
      rintro r w' ⟨rfl, rfl⟩
      exact ⟨rfl, ⟨hb, hp, .inr ⟨g, cap, cur, fz, rfl, hc0, hg, hfz, hlc, hcc, htake⟩, hne⟩, Nat.le_refl _, fun _ _ _ _ => rfl, rfl, rfl, rfl⟩
    · refine (string_some L X b g cap p l w cur fz h0 hb hg hlc hcc htake hlen).mono ?_
      rintro r w' ⟨rfl, rfl⟩
      have hgb : g ≠ b := fun e => hne (by simp [Value.ownBlock, e])
      refine ⟨rfl, ⟨?_, hp, ?_, hne⟩, ?_, fun k hk hkb hkx => ?_, ?_, ?_, ?_⟩
      · rw [freeze_other w.drew g l.length b (Ne.symm hgb)]; exact hb
      · have hl0 : l.length ≠ 0 := by simpa using h0
        obtain ⟨lo, hi⟩ := fz
        simp only at hfz
        refine .inr ⟨g, cap, cur, (if lo == hi then (0, 0 + l.length) else (min lo 0, max hi (0 + l.length))), rfl, hc0, ?_, ?_, hlc, hcc, htake⟩
        · unfold World.freeze
          rw [if_neg hl0]
          have hg' : w.drew.heap[g]? = some (.cells cur (ρ.t 5) (lo, hi)) := hg
          simp only [Array.getElem?_modify, if_true, hg', Option.map_some]
        · split
          · simp
          · simp only; omega
      · rw [freeze_size]; exact Nat.le_refl _
      · exact freeze_other w.drew g l.length k fun e => hkx (by simp [Value.ownBlock, e])
      · unfold World.freeze; split <;> rfl
      · unfold World.freeze; split <;> rfl
      · unfold World.freeze; split <;> rfl

/-! ### the contracts -/

theorem bldIs_of {J : Inp} {T e : Nat} {l : List UInt8} (h : HSim J J.w0 J.bl0 [.bld T (.view 1 0 none), .buf e l]) :
    ∃ b p x, J.bl0[0]? = some (some b) ∧ BldIs J.w0 T e b p x l ∧ ∀ g, x.ownBlock = some g → J.bl0[1]? = some (some g) := by
  have h0 := h.obj 0 _ rfl
  obtain ⟨b, p, x, hb, hbk, hp, hx, hz⟩ := h0
  rw [Option.join_eq_some_iff] at hb
  have h1 := h.obj 1 _ rfl
  simp only [Rep] at hx
  obtain ⟨sz, n, hs, _, _, ad, cap, hxe, hnc, hcap⟩ := hx
  have hs' : rowShape [AO.bld T (.view 1 0 none), .buf e l] 1 = some (sz, n) := hs
  simp only [rowShape, List.getElem?_cons_succ, List.getElem?_cons_zero, Option.some.injEq, Prod.mk.injEq] at hs'
  obtain ⟨rfl, rfl⟩ := hs'
  simp only [Option.getD_none, Nat.sub_zero] at hxe hnc
  refine ⟨b, p, x, hb, ⟨hbk, hp, ?_, ?_⟩, ?_⟩
  · rcases hcap with hc | ⟨g, hg, ha, hsz⟩
    · subst hc
      have hxn := hz ad l.length hxe
      exact .inl ⟨hxn, List.eq_nil_of_length_eq_zero (by omega)⟩
    · by_cases hc0 : cap = 0
      · subst hc0
        exact .inl ⟨hz ad l.length hxe, List.eq_nil_of_length_eq_zero (by omega)⟩
      · have hg' : J.bl0[1]? = some (some g) := hg
        rw [hg'] at h1
        rcases h1 with ⟨h1, _⟩ | ⟨k, cur, fz, h1, hgk, hfz, hlc, ht⟩
        · cases h1
        · simp only [Option.join_some, Option.some.injEq] at h1
          subst h1
          refine .inr ⟨g, cap, cur, fz, by rw [hxe, ha, Nat.zero_mul], by omega, hgk, hfz, hnc, ?_, ht⟩
          have : blockSize J.w0 g = cur.size := by
            have hgk' : J.w0.heap[g]? = some (.cells cur e fz) := hgk
            unfold blockSize; rw [hgk']
          have hsz' : (0 + cap) * 1 ≤ blockSize J.w0 g := hsz
          omega
  · intro hne
    rcases hcap with hc | ⟨g, hg, ha, hsz⟩
    · subst hc
      rw [hz ad l.length hxe] at hne
      simp [Value.ownBlock] at hne
    · rw [hxe, ha] at hne
      simp only [Value.ownBlock, Option.some.injEq] at hne
      subst hne
      have := h.inj 0 1 g hb hg
      omega
  · intro g' hg'
    rcases hcap with hc | ⟨g, hg, ha, hsz⟩
    · subst hc
      rw [hz ad l.length hxe] at hg'
      simp [Value.ownBlock] at hg'
    · rw [hxe, ha] at hg'
      simp only [Value.ownBlock, Option.some.injEq] at hg'
      subst hg'
      exact hg

theorem bld_back {J : Inp} {T e : Nat} {l l' : List UInt8} (hin : J.hin = [.bld T (.view 1 0 none), .buf e l]) (h : HSim J J.w0 J.bl0 [.bld T (.view 1 0 none), .buf e l]) {b : Nat} {p x p' x' : Value} {w' : World}
    (hb0 : J.bl0[0]? = some (some b)) (h0 : BldIs J.w0 T e b p x l) (hg0 : ∀ g, x.ownBlock = some g → J.bl0[1]? = some (some g)) (h1 : BldIs w' T e b p' x' l') (hat : BufAt J.w0 x x') (hk : Kept J.w0 w' b x) :
    HSim J w' [some b, x'.ownBlock] [.bld T (.view 1 0 none), .buf e l'] where
  len := rfl
  many := by rw [hin]; exact Nat.le_refl _
  inj := by
    intro r r' c hr hr'
    match r, r', hr, hr' with
    | 0, 0, _, _ => rfl
    | 1, 1, _, _ => rfl
    | 0, 1, hr, hr' =>
      simp only [List.getElem?_cons_zero, Option.some.injEq, List.getElem?_cons_succ] at hr hr'
      subst hr
      exact absurd hr' h1.ne
    | 1, 0, hr, hr' =>
      simp only [List.getElem?_cons_zero, Option.some.injEq, List.getElem?_cons_succ] at hr hr'
      subst hr'
      exact absurd hr h1.ne
  at_ := by
    intro r c hr
    match r, hr with
    | 0, hr =>
      simp only [List.getElem?_cons_zero, Option.some.injEq] at hr
      subst hr
      exact ⟨(Array.getElem?_eq_some_iff.1 h1.hb).1, .inl (List.mem_of_getElem? hb0)⟩
    | 1, hr =>
      simp only [List.getElem?_cons_zero, Option.some.injEq, List.getElem?_cons_succ] at hr
      refine ⟨?_, ?_⟩
      · rcases h1.hx with ⟨rfl, _⟩ | ⟨g, cap, cur, fz, rfl, _, hg, _⟩
        · cases hr
        · simp only [Value.ownBlock, Option.some.injEq] at hr
          subst hr
          exact (Array.getElem?_eq_some_iff.1 hg).1
      · rcases hat with h | h | ⟨g, h, hgs⟩
        · rw [h] at hr; cases hr
        · rw [h] at hr
          exact .inl (List.mem_of_getElem? (hg0 c hr))
        · rw [h] at hr
          simp only [Option.some.injEq] at hr
          subst hr
          exact .inr hgs
  obj := by
    intro r o hr
    match r, hr with
    | 0, hr =>
      simp only [List.getElem?_cons_zero, Option.some.injEq] at hr
      subst hr
      refine ⟨b, p', x', rfl, h1.hb, h1.hp, ?_, ?_⟩
      · simp only [Rep]
        rcases h1.hx with ⟨hxn, hl⟩ | ⟨g, cap, cur, fz, hxe, hc0, hg, hfz, hlc, hcc, ht⟩
        · subst hl
          exact ⟨1, 0, rfl, Nat.le_refl _, Nat.le_refl _, none, 0, by rw [hxn]; rfl, Nat.le_refl _, .inl rfl⟩
        · refine ⟨1, l'.length, rfl, Nat.zero_le _, Nat.le_refl _, some ⟨g, 0, none⟩, cap, by rw [hxe]; rfl, by simpa using hlc, .inr ⟨g, ?_, rfl, ?_⟩⟩
          · show ([some b, x'.ownBlock] : List (Option Nat))[1]? = some (some g)
            rw [hxe]; rfl
          · show (0 + cap) * 1 ≤ blockSize w' g
            have : blockSize w' g = cur.size := by unfold blockSize; rw [hg]
            omega
      · intro a n hx
        rcases h1.hx with ⟨hxn, hl⟩ | ⟨g, cap, cur, fz, hxe, hc0, _⟩
        · exact hxn
        · rw [hxe] at hx
          simp only [Value.slice.injEq] at hx
          omega
    | 1, hr =>
      simp only [List.getElem?_cons_zero, Option.some.injEq, List.getElem?_cons_succ] at hr
      subst hr
      show ORep _ (x'.ownBlock) _
      rcases h1.hx with ⟨hxn, hl⟩ | ⟨g, cap, cur, fz, hxe, hc0, hg, hfz, hlc, hcc, ht⟩
      · exact .inl ⟨by rw [hxn]; rfl, hl⟩
      · exact .inr ⟨g, cur, fz, by rw [hxe]; rfl, hg, hfz, by omega, ht⟩
  le := hk.size
  old := by
    intro k hlt hn
    refine hk.old k hlt (fun e => hn (by rw [e]; exact List.mem_of_getElem? hb0)) (fun e => hn ?_)
    exact List.mem_of_getElem? (hg0 k e.symm)
  os := hk.os
  tape := hk.tape
  output := hk.output
  pin := by
    intro j o hj hf
    rw [hin] at hj
    match j, hj with
    | 0, hj =>
      refine ⟨?_, _, rfl, rfl⟩
      rw [hb0]; rfl
    | 1, hj =>
      simp only [List.getElem?_cons_zero, Option.some.injEq, List.getElem?_cons_succ] at hj
      subst hj
      simp [AO.fixed] at hf

theorem BufAt.same (w : World) (x : Value) : BufAt w x x := .inr (.inl rfl)

theorem writeString_con (L : Lays.n166 P ρ) (X : Builder.Extra P ρ) {s l : List UInt8} (hlen : l.length + s.length ≤ 140737488355328) :
    Con P (ρ.f 166) [.ptr 0 0, .str s] [.bld (ρ.t 72) (.view 1 0 none), .buf (ρ.t 5) l] (.tup [.int .i64 (s.length : Int), .nili]) [.bld (ρ.t 72) (.view 1 0 none), .buf (ρ.t 5) (l ++ s)] := by
  intro J vals hin hsim hrep hG
  obtain ⟨b, p, x, hb0, h0, hg0⟩ := bldIs_of hsim
  simp only [RepL, Rep] at hrep
  obtain ⟨v1, vs, hv, ⟨b', hb', rfl⟩, v2, vs2, hv2, rfl, rfl⟩ := hrep
  subst hv2
  have hbb : b' = b := by
    have : J.bl0[0]? = some (some b') := hb'
    rw [hb0] at this
    simp only [Option.some.injEq] at this
    exact this.symm
  subst hbb
  have hvals : vals = #[.pointer (some ⟨b', 0, none⟩), .string ⟨s.toArray⟩] := by apply Array.ext'; simpa using hv
  rw [hvals]
  refine (writeString_exact L X ⟨s.toArray⟩ h0 (by simpa [ByteArray.size] using hlen)).mono ?_
  rintro r w' ⟨rfl, x', h1, hat, hk⟩
  refine ⟨_, rfl, _, bld_back hin hsim hb0 h0 hg0 (l' := l ++ s) (by simpa using h1) hat hk, ?_⟩
  simp only [Rep, RepL]
  exact ⟨_, rfl, _, _, rfl, by simp [ByteArray.size], _, _, rfl, rfl, rfl⟩

theorem writeByte_con (L : Lays.n167 P ρ) (X : Builder.Extra P ρ) {c : Int} {l : List UInt8} (h0c : 0 ≤ c) (h1c : c < 256) (hlen : l.length + 1 ≤ 140737488355328) :
    Con P (ρ.f 167) [.ptr 0 0, .int .u8 c] [.bld (ρ.t 72) (.view 1 0 none), .buf (ρ.t 5) l] .nili [.bld (ρ.t 72) (.view 1 0 none), .buf (ρ.t 5) (l ++ [UInt8.ofNat c.toNat])] := by
  intro J vals hin hsim hrep hG
  obtain ⟨b, p, x, hb0, h0, hg0⟩ := bldIs_of hsim
  simp only [RepL, Rep] at hrep
  obtain ⟨v1, vs, hv, ⟨b', hb', rfl⟩, v2, vs2, hv2, rfl, rfl⟩ := hrep
  subst hv2
  have hbb : b' = b := by
    have : J.bl0[0]? = some (some b') := hb'
    rw [hb0] at this
    simp only [Option.some.injEq] at this
    exact this.symm
  subst hbb
  have hc : c = ((UInt8.ofNat c.toNat).toNat : Int) := by
    rw [UInt8.toNat_ofNat']
    omega
  have hvals : vals = #[.pointer (some ⟨b', 0, none⟩), .int .u8 ((UInt8.ofNat c.toNat).toNat : Int)] := by apply Array.ext'; rw [← hc]; simpa using hv
  rw [hvals]
  refine (writeByte_exact L X (UInt8.ofNat c.toNat) h0 hlen).mono ?_
  rintro r w' ⟨rfl, x', h1, hat, hk⟩
  exact ⟨_, rfl, _, bld_back hin hsim hb0 h0 hg0 h1 hat hk, by simp only [Rep]⟩

theorem builderString_con (L : Lays.n169 P ρ) (X : Builder.Extra P ρ) {l : List UInt8} (hlen : l.length ≤ 140737488355328) :
    Con P (ρ.f 169) [.ptr 0 0] [.bld (ρ.t 72) (.view 1 0 none), .buf (ρ.t 5) l] (.str l) [.bld (ρ.t 72) (.view 1 0 none), .buf (ρ.t 5) l] := by
  intro J vals hin hsim hrep hG
  obtain ⟨b, p, x, hb0, h0, hg0⟩ := bldIs_of hsim
  simp only [RepL, Rep] at hrep
  obtain ⟨v1, vs, hv, ⟨b', hb', rfl⟩, rfl⟩ := hrep
  have hbb : b' = b := by
    have : J.bl0[0]? = some (some b') := hb'
    rw [hb0] at this
    simp only [Option.some.injEq] at this
    exact this.symm
  subst hbb
  have hvals : vals = #[.pointer (some ⟨b', 0, none⟩)] := by apply Array.ext'; simpa using hv
  rw [hvals]
  refine (string_exact L X h0 hlen).mono ?_
  rintro r w' ⟨rfl, h1, hk⟩
  exact ⟨_, rfl, _, bld_back hin hsim hb0 h0 hg0 h1 (BufAt.same _ _) hk, by simp only [Rep]⟩

end Go.Cellar
