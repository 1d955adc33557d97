/- Literals and appends, over the invariant. No condition. -/
import Derived.Test.YtjdjmbogopadaaaGreatDoorAbs9

set_option linter.unusedVariables false
set_option linter.unusedSimpArgs false
namespace Go.Cellar
open Go

section
variable {P : Program} {I : Inp} {w : World} {bl : List (Option Nat)} {s : St} {tmps : List Value}

theorem fold_set (off : Nat) : ∀ (us : List Value) (j : Nat) (a : Array Value), off + j + us.length ≤ a.size →
    ((us.zipIdx j).foldl (fun (cs : Array Value) (x : Value × Nat) => cs.setIfInBounds (off + x.2) x.1) a).toList = a.toList.take (off + j) ++ us ++ a.toList.drop (off + j + us.length)
  | [], j, a, _ => by simp
  | u :: us, j, a, h => by
    simp only [List.zipIdx_cons, List.foldl_cons]
    rw [fold_set off us (j + 1) _ (by simp at h ⊢; omega)]
    simp only [Array.toList_setIfInBounds]
    have := list_seg_step a.toList (off + j) u us (by simp at h ⊢; omega)
    simpa [Nat.add_assoc, Nat.add_comm 1] using this

theorem fill_ok {E : Env} (place : Nat → Option (Nat × Nat)) : ∀ (parts : List (Nat × AV)) (pv : List (Nat × Value)) (cs cs' : List AV) (vs : Array Value),
    fillCells place cs parts = some cs' → parts.map (·.1) = pv.map (·.1) → RepL E (parts.map (·.2)) (pv.map (·.2)) → RepL E cs vs.toList →
    ∃ vs', Instr.fill place vs pv = some vs' ∧ RepL E cs' vs'.toList
  | [], pv, cs, cs', vs, h, h1, h2, h3 => by
    cases pv with
    | nil =>
      simp only [fillCells, Option.some.injEq] at h
      subst h
      exact ⟨vs, rfl, h3⟩
    | cons _ _ => simp at h1
  | (i, a) :: parts, pv, cs, cs', vs, h, h1, h2, h3 => by
    cases pv with
    | nil => simp at h1
    | cons p pv =>
      obtain ⟨i', v⟩ := p
      simp only [List.map_cons, List.cons.injEq] at h1
      obtain ⟨rfl, h1⟩ := h1
      simp only [List.map_cons, RepL] at h2
      obtain ⟨v0, vs0, h4, h5, h6⟩ := h2
      simp only [List.cons.injEq] at h4
      obtain ⟨rfl, rfl⟩ := h4
      simp only [fillCells] at h
      split at h
      · cases h
      · rename_i off size hp
        split at h
        · cases h
        · rename_i hc
          have hs : a.solid = true := by
            cases hq : a.solid
            · exact absurd (.inl hq) hc
            · rfl
          have hsz : a.cells.length = size := by
            by_cases hq : a.cells.length = size
            · exact hq
            · exact absurd (.inr (.inl hq)) hc
          have hfit : off + a.cells.length ≤ cs.length := by
            by_cases hq : off + a.cells.length > cs.length
            · exact absurd (.inr (.inr hq)) hc
            · omega
          have hcv := Rep.cells hs h5
          have hl := hcv.length
          have hlv := h3.length
          have hl' : v.cells.size = a.cells.length := by simpa using hl
          have hfit' : off + 0 + v.cells.toList.length ≤ vs.size := by simp at hlv ⊢; omega
          have hset := fold_set off v.cells.toList 0 vs hfit'
          obtain ⟨vs', h7, h8⟩ := fill_ok place parts pv _ cs' ((v.cells.toList.zipIdx 0).foldl (fun (cs : Array Value) (x : Value × Nat) => cs.setIfInBounds (off + x.2) x.1) vs) h h1 h6 (by
            rw [hset]
            have := h3.put hcv off
            simpa using this)
          refine ⟨vs', ?_, h8⟩
          simp only [Instr.fill, hp]
          have hc1 : ¬ (v.cells.size ≠ size || decide (off + v.cells.size > vs.size)) = true := by
            simp at hlv ⊢; omega
          rw [if_neg hc1, ← h7]
          congr 1
          rw [← Array.foldl_toList, Array.toList_zipIdx]

theorem placesOf_mapM : ∀ (fs : List Field) (r : List (Nat × Nat)), placesOf P fs = some r → fs.mapM (fun f => (P.info? f.type).map fun i => (f.offset, i.size)) = some r
  | [], r, h => by simp [placesOf] at h; simp [h]
  | f :: fs, r, h => by
    simp only [placesOf] at h
    split at h
    · rename_i i q h1 h2
      simp only [Option.some.injEq] at h
      subst h
      simp [List.mapM_cons, h1, placesOf_mapM fs q h2]
    · cases h

theorem zeroCells1_rep {E : Env} {t : TypeId} {i : TypeInfo} {cs : List AV} (hi : P.info? t = some i) (h : zeroCells1 P t = some cs) : ∃ z, i.zero = some z ∧ RepL E cs z.cells.toList := by
  unfold zeroCells1 at h
  rw [hi] at h
  simp only at h
  split at h
  · rename_i z hz
    simp only [Option.some.injEq] at h
    subst h
    refine ⟨z, hz, ?_⟩
    have := RepL.map (E := E) ofConst1 (fun v => v) (fun v => ofConst1_rep v) z.cells.toList
    simpa using this
  · cases h

theorem aBuild_ok {t : TypeId} {parts : List (Nat × AV)} {pv : Array (Nat × Value)} (h : Sim I w bl s tmps) (h1 : parts.map (·.1) = pv.toList.map (·.1)) (h2 : RepL (I.env w bl s.hp) (parts.map (·.2)) (pv.toList.map (·.2))) :
    EffOk I w bl tmps (runV P (Instr.build t pv) w) (aBuild P t parts s) := by
  unfold aBuild
  split
  · rename_i i fs z hi hu hz
    split
    · rename_i places hp
      split
      · rename_i cs hf
        obtain ⟨zv, hzv, hzr⟩ := zeroCells1_rep (E := I.env w bl s.hp) hi hz
        obtain ⟨vs', h3, h4⟩ := fill_ok _ parts pv.toList z cs zv.cells hf h1 h2 hzr
        refine EffOk.same h (runV_ok (v := .agg vs') (run_build w t pv vs' ?_)) ⟨vs', rfl, h4⟩
        unfold Program.built
        rw [hi, hu]
        simp only [hzv, placesOf_mapM _ _ hp]
        simpa using h3
      · exact EffOk.fail
    · exact EffOk.fail
  · exact EffOk.fail

theorem elemsOf_row {E : Env} {ty : Ty} : ∀ (vs : List AV) (xs : List ty.T) (us : List Value), elemsOf ty vs = some xs → RepL E vs us → RowIs E.w E.ok ty xs (us.flatMap fun u => u.cells.toList) ∧ (us.flatMap fun u => u.cells.toList).length = xs.length * ty.size ∧ xs.length = vs.length
  | [], xs, us, h, hr => by
    simp only [elemsOf, Option.some.injEq] at h
    subst h
    simp only [RepL] at hr
    subst hr
    exact ⟨RowIs.nil _ _ _ _, by simp, rfl⟩
  | v :: vs, xs, us, h, hr => by
    simp only [elemsOf] at h
    split at h
    · rename_i x ys h1 h2
      simp only [Option.some.injEq] at h
      subst h
      simp only [RepL] at hr
      obtain ⟨u, us', rfl, h3, h4⟩ := hr
      obtain ⟨h5, h6, h7⟩ := elemsOf_row vs ys us' h2 h4
      have h8 := Rep.of h1 h3
      have h9 : RowIs E.w E.ok ty [x] u.cells.toList := RowIs.single h8
      refine ⟨?_, ?_, by simp [h7]⟩
      · have := h9.append h5 (by simp [h8.length])
        simpa using this
      · simp only [List.flatMap_cons, List.length_append, h6, h8.length, List.length_cons, Nat.add_mul]
        omega
    · cases h

/-- Parts in order fill a row from its beginning. -/
theorem fill_inOrder (size : Nat) : ∀ (n : Nat) (parts : List (Nat × AV)) (vs : List AV) (pv : List (Nat × Value)) (cur : Array Value), partsInOrder n parts = some vs → parts.map (·.1) = pv.map (·.1) →
    (∀ p ∈ pv, p.2.cells.size = size) → cur.size = (n + parts.length) * size →
    Instr.fill (fun i => some (i * size, size)) cur pv = some (cur.toList.take (n * size) ++ pv.flatMap fun p => p.2.cells.toList).toArray
  | n, [], vs, pv, cur, _, h1, _, hsz => by
    cases pv with
    | nil =>
      simp only [Instr.fill]
      congr 1
      apply Array.ext'
      simp at hsz ⊢
      rw [List.take_of_length_le (by simp [hsz])]
    | cons _ _ => simp at h1
  | n, (i, a) :: parts, vs, pv, cur, h, h1, h2, hsz => by
    cases pv with
    | nil => simp at h1
    | cons p pv =>
      obtain ⟨i', v⟩ := p
      simp only [List.map_cons, List.cons.injEq] at h1
      obtain ⟨rfl, h1⟩ := h1
      simp only [partsInOrder] at h
      split at h
      · rename_i hi
        subst hi
        cases hq : partsInOrder (i + 1) parts with
        | none => simp [hq] at h
        | some vs' =>
          have hv : v.cells.size = size := h2 (i, v) (by simp)
          have hfit : i * size + 0 + v.cells.toList.length ≤ cur.size := by
            simp only [Array.length_toList, hv, hsz, List.length_cons]
            have := mul_le_of_lt (s := size) (show i < i + (parts.length + 1) by omega)
            omega
          have hset := fold_set (i * size) v.cells.toList 0 cur hfit
          have hsz2 : ((v.cells.toList.zipIdx 0).foldl (fun (cs : Array Value) (x : Value × Nat) => cs.setIfInBounds (i * size + x.2) x.1) cur).size = (i + 1 + parts.length) * size := by
            rw [← Array.length_toList, hset]
            simp only [List.length_append, List.length_take, List.length_drop, Array.length_toList, hsz, List.length_cons, Nat.add_zero, hv] at hfit ⊢
            have e : (i + (parts.length + 1)) * size = (i + 1 + parts.length) * size := by congr 1; omega
            rw [e] at hfit ⊢
            omega
          have ih := fill_inOrder size (i + 1) parts vs' pv _ hq h1 (fun p hp => h2 p (by simp [hp])) hsz2
          simp only [Instr.fill]
          have hc1 : ¬ (v.cells.size ≠ size || decide (i * size + v.cells.size > cur.size)) = true := by
            simp at hfit ⊢; omega
          rw [if_neg hc1]
          rw [← Array.foldl_toList, Array.toList_zipIdx, ih, hset]
          congr 2
          have e2 : (i + 1) * size = i * size + v.cells.toList.length := by simp only [Array.length_toList, hv, Nat.add_mul, Nat.one_mul]
          rw [e2, List.take_append, List.take_append]
          have e3 : (cur.toList.take (i * size + 0)).length = i * size := by simp at hfit ⊢; omega
          rw [e3]
          simp only [Nat.add_zero, List.take_take]
          have e4 : min (i * size + v.cells.toList.length) (i * size) = i * size := by omega
          have e5 : i * size + v.cells.toList.length - i * size = v.cells.toList.length := by omega
          rw [e4, e5, List.take_length]
          simp
          left
          simp at hfit
          omega
      · cases h

/-- A value's views become lists for good. -/
theorem Sim.frozen (h : Sim I w bl s tmps) (rs : List Nat) {as : List AV} {vs : List Value} (hr : RepL (I.env w bl s.hp) as vs) :
    ∃ bl', Sim I w bl' (s.freeze rs) tmps ∧ RepL (I.env w bl' (s.freeze rs).hp) (AV.subL (gFreeze s.hp rs) as) vs := by
  obtain ⟨bl', h1, h2⟩ := h.freeze rs
  exact ⟨bl', h1, RepL.sub h2 _ _ hr⟩

/-- A new block that no object names. -/
theorem Sim.quietAlloc (h : Sim I w bl s tmps) (c : Obj) : Sim I (w.alloc c) bl s tmps ∧ EnvLe (I.env w bl s.hp) (I.env (w.alloc c) bl s.hp) := by
  have hle : EnvLe (I.env w bl s.hp) (I.env (w.alloc c) bl s.hp) :=
    ⟨fun b hb hlt => ⟨hb, heap_alloc_lt hlt⟩, fun r b hr => hr, fun r x hx => hx, fun r b hr => by
      have := (h.h.at_ r b hr).1
      show blockSize w b ≤ blockSize (w.alloc c) b
      unfold blockSize
      rw [heap_alloc_lt this]
      exact Nat.le_refl _⟩
  refine ⟨⟨h.h.ext hle.subOk h.h.len (Nat.le_refl _) h.h.inj (fun r b hr => ?_) (fun r o hr => .inr ⟨r, o, hr, ?_, rfl, fun k hk => heap_alloc_lt ?_⟩) (by simp) (fun b hb _ => heap_alloc_lt (Nat.lt_of_lt_of_le hb h.h.le)) rfl rfl rfl (fun j o o1 _ _ h1 h2 => ⟨rfl, o1, h1, h2⟩), RepL.mono hle h.tm, h.m⟩, hle⟩
  · have := h.h.at_ r b hr
    exact ⟨by simp; omega, this.2⟩
  · cases o <;> simp [AO.sub, AV.subL_id, AV.sub_id]
  · rw [Option.join_eq_some_iff] at hk
    exact (h.h.at_ r k hk).1

theorem aBuildSlice_ok {t : TypeId} {len : Nat} {parts : List (Nat × AV)} {pv : Array (Nat × Value)} (h : Sim I w bl s tmps) (h1 : parts.map (·.1) = pv.toList.map (·.1)) (h2 : RepL (I.env w bl s.hp) (parts.map (·.2)) (pv.toList.map (·.2))) :
    EffOk I w bl tmps (runV P (Instr.buildSlice t len pv) w) (aBuildSlice P t len parts s) := by
  unfold aBuildSlice
  split
  · rename_i e hu
    split
    · rename_i ty vs hty hpo
      have hvs : vs = parts.map (·.2) := by
        have : ∀ (n : Nat) (parts : List (Nat × AV)) (vs : List AV), partsInOrder n parts = some vs → vs = parts.map (·.2) := by
          intro n parts
          induction parts generalizing n with
          | nil => intro vs hq; simp [partsInOrder] at hq; simp [hq]
          | cons p parts ih =>
            intro vs hq
            obtain ⟨i, v⟩ := p
            simp only [partsInOrder] at hq
            split at hq
            · cases hq2 : partsInOrder (n + 1) parts with
              | none => simp [hq2] at hq
              | some vs' =>
                simp only [hq2, Option.map_some, Option.some.injEq] at hq
                subst hq
                simp [ih (n + 1) vs' hq2]
            · cases hq
        exact this 0 parts vs hpo
      obtain ⟨bl1, hS, hR⟩ := h.frozen (AV.refsL vs) (hvs ▸ h2)
      dsimp only
      split
      · rename_i hc
        obtain ⟨hc1, hc2, hc3, hc4⟩ := hc
        split
        · rename_i xs hx
          intro v s' hgv
          obtain ⟨ti, hti, hsz⟩ := sizeT_info (P := P) (t := e) (by have := Ty.size_pos ty; omega)
          obtain ⟨h3, h4, h5⟩ := elemsOf_row _ _ _ hx hR
          have hparts : pv.toList.map (·.2) = pv.toList.map (·.2) := rfl
          have hlen : parts.length = len := by
            have := congrArg List.length hvs
            rw [List.length_map] at this
            have h6 : (AV.subL (gFreeze s.hp (AV.refsL vs)) vs).length = vs.length := by
              have : ∀ (g : AV → AV) (l : List AV), (AV.subL g l).length = l.length := fun g l => by
                induction l with
                | nil => rfl
                | cons a l ih => simp [AV.subL, ih]
              exact this _ _
            omega
          have hsizes : ∀ p ∈ pv.toList, p.2.cells.size = ty.size := by
            have : ∀ (as : List AV) (us : List Value) (xs : List ty.T), elemsOf ty as = some xs → RepL (I.env w bl1 (s.freeze (AV.refsL vs)).hp) as us → ∀ u ∈ us, u.cells.size = ty.size := by
              intro as
              induction as with
              | nil => intro us xs _ hr u hu; simp only [RepL] at hr; subst hr; simp at hu
              | cons a as ih =>
                intro us xs hq hr u hu
                simp only [elemsOf] at hq
                split at hq
                · rename_i x ys h6 h7
                  simp only [RepL] at hr
                  obtain ⟨u', us', rfl, h8, h9⟩ := hr
                  rcases List.mem_cons.mp hu with rfl | hu
                  · have := (Rep.of h6 h8).length
                    simpa using this
                  · exact ih us' ys h7 h9 u hu
                · cases hq
            intro p hp
            exact this _ _ _ hx hR p.2 (List.mem_map.mpr ⟨p, hp, rfl⟩)
          obtain ⟨z, hz⟩ : ∃ z, ti.zero = some z := by
            obtain ⟨cs, hcs⟩ := Option.isSome_iff_exists.mp hc3
            obtain ⟨z, hz, _⟩ := zeroCells1_rep (E := I.env w bl s.hp) hti hcs
            exact ⟨z, hz⟩
          have hne : ¬ (2 ^ 24 < len * ti.size) := by rw [hsz, ← hc2]; omega
          have hszt : ti.size = ty.size := by omega
          have hfill : ∀ z0 : Array Value, Instr.fill (fun i => some (i * ty.size, ty.size)) ((Array.range (len * ty.size)).map (z0[· % z0.size]!)) pv.toList = some (pv.toList.flatMap fun p => p.2.cells.toList).toArray := fun z0 => by
            have := fill_inOrder ty.size 0 parts vs pv.toList ((Array.range (len * ty.size)).map (z0[· % z0.size]!)) hpo h1 hsizes (by simp [hlen])
            simpa using this
          have hflat : (pv.toList.map (·.2)).flatMap (fun u => u.cells.toList) = pv.toList.flatMap fun p => p.2.cells.toList := by simp [List.flatMap_map]
          have hrun : (Instr.buildSlice t len pv).run P w = .ok (.slice (some ⟨w.heap.size, 0, none⟩) len len) (w.alloc (.cells (pv.toList.flatMap fun p => p.2.cells.toList).toArray e)) := by
            by_cases hz0 : len * ti.size = 0
            · have hf := hfill #[]
              simp only [Instr.buildSlice, Sem.run_bind, run_underlying hu, Result.andThen_ok, run_sizeOf' hti, ← hsz, Sem.run_ite, if_neg hne, if_pos hz0, Sem.run_pure]
              rw [hszt] at hz0 ⊢
              rw [hz0] at hf
              simp only [hz0]
              rw [hf]
              simp [newRow]
            · have hf := hfill z.cells
              simp only [Instr.buildSlice, Sem.run_bind, run_underlying hu, Result.andThen_ok, run_sizeOf' hti, ← hsz, Sem.run_ite, if_neg hne, if_neg hz0, Sem.run_pure, run_zeroValue hti hz]
              rw [hszt]
              rw [hf]
              simp [newRow]
          have hxl : xs.length = len := by omega
          cases hemp : (AV.refsL vs).isEmpty with
          | true =>
            rw [hemp] at hgv
            obtain ⟨rfl, rfl⟩ := hgv
            obtain ⟨h7, h8⟩ := hS.quietAlloc (.cells (pv.toList.flatMap fun p => p.2.cells.toList).toArray e)
            refine ⟨_, _, _, .inl (runV_ok hrun), h7, ?_⟩
            simp only [Rep]
            refine ⟨?_, fun _ => ⟨some ⟨w.heap.size, 0, none⟩, by rw [hxl]⟩⟩
            have hl := list_of_row (E := I.env (w.alloc (.cells (pv.toList.flatMap fun p => p.2.cells.toList).toArray e)) bl1 (s.freeze (AV.refsL vs)).hp) (t := ty) (l := xs) (b := w.heap.size) (lo := 0) (len := len) (cap := len) ⟨.inr (.inr hS.h.le), fun hm => by
              obtain ⟨r, hr⟩ := mem_bl hm
              exact absurd (hS.h.at_ r _ hr).1 (Nat.lt_irrefl _)⟩ heap_alloc_new (by
              have := h3.mono h8.ok
              rw [hflat] at this
              simpa [Inp.env] using this) (by omega) (Nat.le_refl _) xs (by rw [Nat.zero_add, ← hxl, List.take_length, List.drop_zero])
            simpa using hl
          | false =>
          rw [hemp] at hgv
          obtain ⟨rfl, rfl⟩ := hgv
          obtain ⟨h7, h8⟩ := hS.alloc (.cells (pv.toList.flatMap fun p => p.2.cells.toList).toArray e) (.row ty xs) fun hle => .inr ⟨_, _, e, rfl, heap_alloc_new, by
            have := h3.mono hle.ok
            rw [hflat] at this
            simpa [Inp.env] using this⟩
          refine ⟨_, _, _, .inl (runV_ok hrun), h7, ?_⟩
          simp only [Rep]
          refine ⟨ty.size, xs.length, ?_, by simp, by simp, some ⟨w.heap.size, 0, none⟩, len, ?_, by simp [hxl], .inr ⟨w.heap.size, ?_, by simp, ?_⟩⟩
          · show rowShape ((s.freeze (AV.refsL vs)).hp ++ [_]) (s.freeze (AV.refsL vs)).hp.length = _
            simp [rowShape]
          · simp [hxl]
          · show (bl1 ++ [some w.heap.size])[(s.freeze (AV.refsL vs)).hp.length]? = _
            rw [← hS.len]; simp
          · show _ ≤ blockSize (w.alloc _) w.heap.size
            rw [blockSize_of heap_alloc_new, ← hflat]
            simp only [List.size_toArray, h4, hxl]
            simp
        · exact EffOk.fail
      · exact EffOk.fail
    · exact EffOk.fail
  · exact EffOk.fail

end
end Go.Cellar

/- Appends, over the invariant. No condition. -/
set_option linter.unusedVariables false
set_option linter.unusedSimpArgs false
namespace Go.Cellar
open Go

section
variable {P : Program} {I : Inp} {w : World} {bl : List (Option Nat)} {s : St} {tmps : List Value}

theorem CellsAt.append {b off : Nat} {xs ys : List Value} (h : CellsAt w b off xs) (h' : CellsAt w b (off + xs.length) ys) : CellsAt w b off (xs ++ ys) := by
  intro j hj
  by_cases hlt : j < xs.length
  · rw [List.getElem_append_left hlt]; exact h j hlt
  · rw [List.getElem_append_right (by omega)]
    have := h' (j - xs.length) (by simp at hj; omega)
    have e : off + xs.length + (j - xs.length) = off + j := by omega
    rwa [e] at this

theorem gather {ok : Nat → Prop} {t : Ty} {b : Nat} : ∀ (l : List t.T) (off : Nat), (∀ (i : Nat) (h : i < l.length), ∃ cs : List Value, cs.length = t.size ∧ CellsAt w b (off + i * t.size) cs ∧ RepT w ok t l[i] cs) →
    ∃ all : List Value, all.length = l.length * t.size ∧ CellsAt w b off all ∧ RowIs w ok t l all
  | [], off, _ => ⟨[], by simp, fun j hj => by simp at hj, RowIs.nil _ _ _ _⟩
  | x :: l, off, h => by
    obtain ⟨cs, h1, h2, h3⟩ := h 0 (by simp)
    obtain ⟨all, h4, h5, h6⟩ := gather l (off + t.size) fun i hi => by
      obtain ⟨cs, h1, h2, h3⟩ := h (i + 1) (by simp; omega)
      refine ⟨cs, h1, ?_, h3⟩
      have e : off + t.size + i * t.size = off + (i + 1) * t.size := by rw [Nat.add_mul]; omega
      rw [e]; exact h2
    refine ⟨cs ++ all, by simp [h1, h4, Nat.add_mul]; omega, CellsAt.append (by simpa using h2) (by rw [h1]; exact h5), ?_⟩
    have := (RowIs.single (t := t) h3).append h6 (by simp [h1])
    simpa using this

/-- What is appended: its length, its cells, their meaning. -/
structure Src (P : Program) (w : World) (ok : Nat → Prop) (ty : Ty) (size : Nat) (ys : List ty.T) (v : Value) (news : List Value) : Prop where
  len : (Builtin.lenOf v).run P w = .ok ys.length w
  cells : ∀ w', w'.heap = w.heap → (Builtin.firstCells size ys.length v).run P w' = .ok news.toArray w'
  size : news.length = ys.length * ty.size
  row : RowIs w ok ty ys news

theorem loadCells_any {b off : Nat} {vs : List Value} (h : CellsAt w b off vs) {w' : World} (hw : w'.heap = w.heap) {n : Nat} (hn : n = vs.length) : (loadCells ⟨b, off, none⟩ n).run P w' = .ok vs.toArray w' := by
  subst hn
  have : CellsAt w' b off vs := fun j hj => by
    have := h j hj
    unfold World.cell? at this ⊢
    rw [hw]; exact this
  exact run_loadCells_at this

theorem src_list {ok : Nat → Prop} {ty : Ty} {ys : List ty.T} {v : Value} (h : RepT w ok (.list ty) ys [v]) : ∃ news, Src P w ok ty ty.size ys v news := by
  simp only [RepT] at h
  obtain ⟨ad, cap, hv, hcap, hel⟩ := h
  simp only [List.cons.injEq, and_true] at hv
  subst hv
  have hlen : ∀ l : Nat, (Builtin.lenOf (.slice ad l cap)).run P w = .ok l w := fun l => by simp [Builtin.lenOf]
  cases ad with
  | none =>
    have : ys = [] := by
      cases ys with
      | nil => rfl
      | cons x l => obtain ⟨a, _, h1, _⟩ := hel 0 (by simp); cases h1
    subst this
    exact ⟨[], hlen _, fun w' _ => by simp [Builtin.firstCells], by simp, RowIs.nil _ _ _ _⟩
  | some a =>
    obtain ⟨all, h1, h2, h3⟩ := gather (w := w) (ok := ok) (b := a.block) ys a.off fun i hi => by
      obtain ⟨q, cs, h1, hs, hok, hl, hcs, hr⟩ := hel i hi
      simp only [Option.some.injEq] at h1
      subst h1
      exact ⟨cs, hl, hcs, hr⟩
    refine ⟨all, hlen _, fun w' hw => ?_, h1, h3⟩
    simp only [Builtin.firstCells]
    by_cases hy : ys = []
    · subst hy
      have : all = [] := by simpa using h1
      subst this
      simp [loadCells, loadCellsFrom]
    · obtain ⟨q, cs, h5, hs, _⟩ := hel 0 (List.length_pos_iff.mpr hy)
      simp only [Option.some.injEq] at h5
      subst h5
      rw [addr_eta hs]
      exact loadCells_any h2 hw h1.symm

theorem src_view {r lo : Nat} {hi : Option Nat} {v : Value} {ty : Ty} {l : List ty.T} (h : Sim I w bl s tmps) (hv : Rep (I.env w bl s.hp) (.view r lo hi) v) (hr : s.hp[r]? = some (.row ty l) ∨ s.hp[r]? = some (.arr ty l)) :
    ∃ news, Src P w (I.ok bl) ty ty.size (part l lo hi) v news := by
  have hl := view_list (E := ⟨w, fun _ => True, bl, s.hp⟩) ⟨rfl, fun _ => trivial⟩ h hv hr
  obtain ⟨news, h1⟩ := src_list (P := P) hl
  refine ⟨news, h1.len, h1.cells, h1.size, ?_⟩
  -- the elements themselves are read in the row
  simp only [Rep] at hv
  obtain ⟨sz, n, hsh, hlo, hn, ad, cap, rfl, hcap, hb⟩ := hv
  have hsh' : rowShape s.hp r = some (sz, n) := hsh
  have : sz = ty.size ∧ n = l.length := by rcases hr with hr | hr <;> (simp only [rowShape, hr, Option.some.injEq, Prod.mk.injEq] at hsh'; exact ⟨hsh'.1.symm, hsh'.2.symm⟩)
  obtain ⟨rfl, rfl⟩ := this
  have el : part l lo hi = (l.take (lo + (hi.getD l.length - lo))).drop lo := by
    cases hi with
    | none => simp only [Option.getD_none, part] at hlo ⊢; rw [show lo + (l.length - lo) = l.length by omega, List.take_length]
    | some q => simp only [Option.getD_some, part] at hlo ⊢; rw [show lo + (q - lo) = q by omega]
  have hpl : (part l lo hi).length = hi.getD l.length - lo := by rw [el]; simp; omega
  rcases hb with hb | ⟨b, hb, ha, hs⟩
  · have : (part l lo hi) = [] := by apply List.eq_nil_of_length_eq_zero; omega
    rw [this]; exact RowIs.nil _ _ _ _
  · have hb' : bl[r]? = some (some b) := hb
    have hrow : ∃ vs e, w.heap[b]? = some (.cells vs e (0, 0)) ∧ RowIs w (I.ok bl) ty l vs.toList := by
      rcases hr with hr | hr
      · have hobj := h.h.obj r _ hr
        rw [hb'] at hobj
        rcases hobj with ⟨h8, _⟩ | ⟨k, vs, e, h8, h9, h10⟩
        · cases h8
        · simp only [Option.join_some, Option.some.injEq] at h8
          subst h8
          exact ⟨vs, e, h9, h10⟩
      · have hobj := h.h.obj r _ hr
        rw [hb'] at hobj
        obtain ⟨k, vs, e, h8, h9, h10⟩ := hobj
        simp only [Option.join_some, Option.some.injEq] at h8
        subst h8
        exact ⟨vs, e, h9, h10⟩
    obtain ⟨vs, e, h9, h10⟩ := hrow
    -- news are the row's cells from lo on
    have hc := h1.cells w rfl
    rw [ha] at hc
    simp only [Builtin.firstCells, hpl] at hc
    have hle : (lo + (hi.getD l.length - lo)) * ty.size ≤ vs.toList.length := Nat.le_trans (Nat.mul_le_mul_right _ (by omega)) h10.1
    rw [Nat.add_mul] at hle
    have hcells : CellsAt w b (lo * ty.size) ((vs.toList.drop (lo * ty.size)).take ((hi.getD l.length - lo) * ty.size)) := by
      have := (cellsAt_block h9).sub (lo * ty.size) ((hi.getD l.length - lo) * ty.size)
      simpa using this
    have hnl : ((vs.toList.drop (lo * ty.size)).take ((hi.getD l.length - lo) * ty.size)).length = (hi.getD l.length - lo) * ty.size := by simp at hle ⊢; omega
    have hc2 := loadCells_any (P := P) hcells rfl hnl.symm
    rw [hc2] at hc
    simp only [Result.ok.injEq, and_true] at hc
    have hnews : news = (vs.toList.drop (lo * ty.size)).take ((hi.getD l.length - lo) * ty.size) := by
      have := congrArg Array.toList hc
      simpa using this.symm
    rw [hnews]
    refine ⟨by rw [hnl, hpl]; exact Nat.le_refl _, fun i hi' => ?_⟩
    have hi2 : lo + i < l.length := by omega
    have h2 := h10.2 (lo + i) hi2
    have h3 := mul_le_of_lt (s := ty.size) (show i < hi.getD l.length - lo by omega)
    have e3 : (part l lo hi)[i] = l[lo + i] := by
      have : (part l lo hi)[i]? = l[lo + i]? := by
        rw [el, List.getElem?_drop, List.getElem?_take]
        rw [if_pos (by omega)]
      rw [List.getElem?_eq_getElem hi', List.getElem?_eq_getElem hi2] at this
      simpa using this
    rw [e3]
    have e4 : (((vs.toList.drop (lo * ty.size)).take ((hi.getD l.length - lo) * ty.size)).drop (i * ty.size)).take ty.size = (vs.toList.drop ((lo + i) * ty.size)).take ty.size := by
      rw [List.drop_take, List.drop_drop, List.take_take, Nat.add_mul]
      congr 1
      omega
    rw [e4]; exact h2

theorem appended_src {y : AV} {yv : Value} {ty : Ty} {ys : List ty.T} (h : Sim I w bl s tmps) (hy : Rep (I.env w bl s.hp) y yv) (ha : appended s ty y = some ys) : ∃ news, Src P w (I.ok bl) ty ty.size ys yv news := by
  unfold appended at ha
  split at ha
  · rename_i ty' l full
    split at ha
    · rename_i he
      subst he
      simp only [Option.some.injEq] at ha
      subst ha
      simp only [Rep] at hy
      exact src_list hy.1
    · cases ha
  · simp only [Option.some.injEq] at ha
    subst ha
    simp only [Rep] at hy
    subst hy
    exact ⟨[], by simp [Builtin.lenOf], fun w' _ => by simp [Builtin.firstCells], by simp, RowIs.nil _ _ _ _⟩
  · rename_i r lo hi
    split at ha
    · rename_i ty' l full hl
      split at ha
      · rename_i he
        subst he
        simp only [Option.some.injEq] at ha
        subst ha
        obtain ⟨l0, hr, rfl⟩ := viewList_eq hl
        exact src_view h hy hr
      · cases ha
    · cases ha
  · rename_i b
    split at ha
    · simp only [Option.some.injEq] at ha
      subst ha
      simp only [Rep] at hy
      subst hy
      refine ⟨b.map fun c => Value.int .u8 (c.toNat : Int), by simp [Builtin.lenOf, ba_size], fun w' _ => ?_, by simp [Ty.size], by simp [Ty.size], fun i hi => ?_⟩
      · simp only [Builtin.firstCells, List.length_map, Sem.run_pure]
        congr 1
        apply Array.ext'
        simp [ByteArray.extract_mk]
      · simp only [List.length_map] at hi
        simp [RepT, Ty.size, List.take_one, List.head?_drop, hi]
    · cases ha
  · cases ha

end
end Go.Cellar
