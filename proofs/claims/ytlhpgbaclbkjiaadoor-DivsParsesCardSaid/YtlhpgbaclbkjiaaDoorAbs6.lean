/- The operations on memory, over the invariant. No condition. -/
import Derived.Test.YtlhpgbaclbkjiaaDoorAbs5
set_option linter.unusedVariables false
set_option linter.unusedSimpArgs false
namespace Go.Cellar
open Go

section
variable {P : Program} {I : Inp} {w : World} {bl : List (Option Nat)} {s : St} {tmps : List Value}

theorem sizeT_info {t : TypeId} (h : sizeT P t ≠ 0) : ∃ i, P.info? t = some i ∧ i.size = sizeT P t := by
  unfold sizeT at h ⊢
  cases hi : P.info? t with
  | none => simp [hi] at h
  | some i => exact ⟨i, rfl, by simp⟩

theorem addr_add (b o n : Nat) : (⟨b, o, none⟩ : Addr).add n = ⟨b, o + n, none⟩ := by
  unfold Addr.add
  split <;> simp_all

theorem addr_eta {a : Addr} (h : a.spot = none) : a = ⟨a.block, a.off, none⟩ := by
  cases a; simp_all

theorem run_loadCells_at {w : World} {b off : Nat} {vs : List Value} (h : CellsAt w b off vs) : (loadCells ⟨b, off, none⟩ vs.length).run P w = .ok vs.toArray w :=
  run_loadCells_list (P := P) w ⟨b, off, none⟩ vs fun j v hv => by
    obtain ⟨hj, rfl⟩ := List.getElem?_eq_some_iff.mp hv
    rw [addr_add]; exact h j hj

theorem run_loadVar' {t : TypeId} (hf : fitsT P t = true) {b off : Nat} {vs : List Value} (h : CellsAt w b off vs) (hl : vs.length = sizeT P t) :
    (loadVar t ⟨b, off, none⟩).run P w = .ok (valOf P t vs) w := by
  obtain ⟨d, i, h1, h2, h3⟩ := info_of_fits hf
  simp only [loadVar, Sem.run_bind, run_isAgg h1, Result.andThen_ok]
  rcases h3 with h3 | ⟨h3, h4⟩
  · simp only [h3, if_true, Sem.run_bind, run_sizeOf' h2, Result.andThen_ok, valOf]
    rw [← hl, run_loadCells_at h]
    simp
  · rw [h4] at hl
    match vs, hl with
    | [v], _ =>
      have := h 0 (by simp)
      simp only [Nat.add_zero, List.getElem_cons_zero] at this
      simp [h3, valOf, this]

theorem CellsAt.sub {w : World} {b off : Nat} {vs : List Value} (h : CellsAt w b off vs) (k n : Nat) : CellsAt w b (off + k) ((vs.drop k).take n) := by
  intro j hj
  have hj' : k + j < vs.length := by simp at hj; omega
  have := h (k + j) hj'
  rw [Nat.add_assoc, this]
  simp

theorem cellsAt_block {w : World} {b : Nat} {vs : Array Value} {e : TypeId} {fz : Nat × Nat} (h : w.heap[b]? = some (.cells vs e fz)) : CellsAt w b 0 vs.toList := by
  intro j hj
  rw [Nat.zero_add]
  simp only [World.cell?, h, Option.isSome_none, Bool.false_eq_true, if_false]
  simp at hj
  simp [hj]

theorem ofConst1_rep {E : Env} (v : Value) : Rep E (ofConst1 v) v := by
  unfold ofConst1
  split <;> simp [Rep]

theorem dfltOk_ok {w : World} {ok : Nat → Prop} : ∀ (t : Ty) (vs r : List Value), dfltOk t vs = some r → ∃ a, vs = a ++ r ∧ RepT w ok t t.dflt a
  | .int k, vs, r, h => by
    unfold dfltOk dfltInt at h
    split at h
    · split at h
      · rename_i hc
        obtain ⟨rfl, rfl⟩ := hc
        simp only [Option.some.injEq] at h
        subst h
        exact ⟨[_], rfl, by simp [RepT, Ty.dflt]⟩
      · cases h
    · cases h
  | .bool, vs, r, h => by
    unfold dfltOk dfltBool at h
    split at h
    · split at h
      · cases h
      · simp only [Option.some.injEq] at h
        subst h
        exact ⟨[_], rfl, by simp [RepT, Ty.dflt]⟩
    · cases h
  | .str, vs, r, h => by
    unfold dfltOk dfltStr at h
    split at h
    · split at h
      · rename_i x r' hb
        simp only [Option.some.injEq] at h
        subst h
        refine ⟨[_], rfl, ?_⟩
        have : x.data = #[] := by
          rw [List.isEmpty_iff] at hb
          apply Array.ext'
          simpa using hb
        simp only [RepT, Ty.dflt, List.cons.injEq, Value.string.injEq, and_true]
        apply ByteArray.ext
        simpa using this
      · cases h
    · cases h
  | .list t, vs, r, h => by
    unfold dfltOk dfltList at h
    split at h
    · simp only [Option.some.injEq] at h
      subst h
      refine ⟨[_], rfl, ?_⟩
      simp only [RepT, Ty.dflt]
      exact ⟨none, 0, by simp, Nat.le_refl _, fun i hi => by simp at hi⟩
    · cases h
  | .prod a b, vs, r, h => by
    unfold dfltOk at h
    split at h
    · rename_i r1 h1
      obtain ⟨va, rfl, ha⟩ := dfltOk_ok a vs r1 h1
      obtain ⟨vb, rfl, hb⟩ := dfltOk_ok b r1 r h
      exact ⟨va ++ vb, by simp, by simp only [RepT, Ty.dflt]; exact ⟨va, vb, rfl, ha, hb⟩⟩
    · cases h
  | .one a, vs, r, h => by
    unfold dfltOk at h
    obtain ⟨va, rfl, ha⟩ := dfltOk_ok a vs r h
    exact ⟨va, rfl, by simp only [RepT, Ty.dflt]; exact ha⟩

theorem dfltsOk_ok {w : World} {ok : Nat → Prop} (t : Ty) : ∀ (n : Nat) (vs : List Value), dfltsOk t n vs = true → RowIs w ok t (List.replicate n t.dflt) vs
  | 0, vs, h => by simpa using RowIs.nil w ok t vs
  | n + 1, vs, h => by
    unfold dfltsOk at h
    split at h
    · rename_i r hr
      obtain ⟨a, rfl, ha⟩ := dfltOk_ok (w := w) (ok := ok) t vs r hr
      have h1 := dfltsOk_ok (w := w) (ok := ok) t n r h
      have h2 : RowIs w ok t [t.dflt] a := ⟨by simp [ha.length], fun i hi => by
        have : i = 0 := by simp at hi; omega
        subst this
        simpa [← ha.length] using ha⟩
      have := h2.append h1 (by simp [ha.length])
      simpa [List.replicate_succ] using this
    · cases h

theorem run_newVar (t : TypeId) (v : Value) : (newVar t v).run P w = .ok ⟨w.heap.size, 0, none⟩ (w.alloc (.cells v.cells t)) := by
  simp [newVar, newRow]

theorem Sim.alloc (h : Sim I w bl s tmps) (c : Obj) (o : AO)
    (ho : EnvLe (I.env w bl s.hp) (I.env (w.alloc c) (bl ++ [some w.heap.size]) (s.hp ++ [o])) → ORep (I.env (w.alloc c) (bl ++ [some w.heap.size]) (s.hp ++ [o])) (some w.heap.size) o) :
    Sim I (w.alloc c) (bl ++ [some w.heap.size]) ⟨s.tm, s.hp ++ [o], s.m⟩ tmps ∧ EnvLe (I.env w bl s.hp) (I.env (w.alloc c) (bl ++ [some w.heap.size]) (s.hp ++ [o])) := by
  obtain ⟨h1, h2⟩ := h.h.alloc c o ho
  exact ⟨⟨h1, RepL.mono h2 h.tm, h.m⟩, h2⟩

theorem Sim.len (h : Sim I w bl s tmps) : bl.length = s.hp.length := h.h.len

theorem aAlloc_ok {t : TypeId} (h : Sim I w bl s tmps) : EffOk I w bl tmps (runV P (Instr.alloc t true (.tuple #[])) w) (aAlloc P t s) := by
  have hrun : ∀ z i, P.info? t = some i → i.zero = some z → runV P (Instr.alloc t true (.tuple #[])) w = .ok (.value (.pointer (some ⟨w.heap.size, 0, none⟩))) (w.alloc (.cells z.cells t)) := fun z i hi hz => by
    apply runV_ok
    simp [Instr.alloc, run_zeroValue hi hz, run_newVar]
  have hptr : bl.length = s.hp.length → (bl ++ [some w.heap.size])[s.hp.length]? = some (some w.heap.size) := fun hl => by rw [← hl]; simp
  unfold aAlloc
  split
  · rename_i n e hu
    split
    · rename_i ty hty
      split
      · rename_i hc
        obtain ⟨hc1, hc2, hc3⟩ := hc
        unfold zeroArr at hc3
        split at hc3
        · rename_i i hi
          split at hc3
          · rename_i z hz
            rintro v s' ⟨rfl, rfl⟩
            obtain ⟨h1, h2⟩ := h.alloc (.cells z.cells t) (.arr ty (List.replicate n ty.dflt)) fun _ => ⟨_, z.cells, t, rfl, heap_alloc_new, dfltsOk_ok ty n _ hc3⟩
            exact ⟨_, _, _, .inl (hrun z i hi hz), h1, w.heap.size, hptr h.len, rfl⟩
          · cases hc3
        · cases hc3
      · exact EffOk.fail
    · exact EffOk.fail
  · split
    · rename_i cs hcs
      unfold zeroCells1 at hcs
      split at hcs
      · rename_i i hi
        split at hcs
        · rename_i z hz
          simp only [Option.some.injEq] at hcs
          subst hcs
          rintro v s' ⟨rfl, rfl⟩
          obtain ⟨h1, h2⟩ := h.alloc (.cells z.cells t) (.box (z.cells.toList.map ofConst1)) fun _ => ⟨_, z.cells, t, rfl, heap_alloc_new, by
            have := RepL.map (E := I.env (w.alloc (.cells z.cells t)) (bl ++ [some w.heap.size]) (s.hp ++ [.box (z.cells.toList.map ofConst1)])) ofConst1 (fun v => v) (fun v => ofConst1_rep v) z.cells.toList
            simpa using this⟩
          exact ⟨_, _, _, .inl (hrun z i hi hz), h1, w.heap.size, hptr h.len, rfl⟩
        · cases hcs
      · cases hcs
    · exact EffOk.fail

theorem aBox_ok {t : TypeId} {x : AV} {xv : Value} (h : Sim I w bl s tmps) (hx : Rep (I.env w bl s.hp) x xv) : EffOk I w bl tmps (runV P (Instr.box t xv) w) (aBox x s) := by
  unfold aBox
  split
  · exact EffOk.fail
  · rename_i hs
    rintro v s' ⟨rfl, rfl⟩
    have hs' : x.solid = true := by simpa using hs
    obtain ⟨h1, h2⟩ := h.alloc (.cells xv.cells t) (.box x.cells) fun hle => ⟨_, xv.cells, t, rfl, heap_alloc_new, RepL.mono hle (Rep.cells hs' hx)⟩
    refine ⟨_, _, _, .inl (runV_ok (by simp [Instr.box, run_newVar])), h1, w.heap.size, ?_, rfl⟩
    show (bl ++ [some w.heap.size])[s.hp.length]? = _
    rw [← h.len]; simp

theorem ok_ptr {r : Nat} {off : Nat} {av : Value} {cs : List AV} (h : Sim I w bl s tmps) (ha : Rep (I.env w bl s.hp) (.ptr r off) av) (hr : s.hp[r]? = some (.box cs)) :
    ∃ k vs e, bl[r]? = some (some k) ∧ av = .pointer (some ⟨k, off, none⟩) ∧ w.heap[k]? = some (.cells vs e (0, 0)) ∧ RepL (I.env w bl s.hp) cs vs.toList := by
  simp only [Rep] at ha
  obtain ⟨b, hb, rfl⟩ := ha
  have hb' : bl[r]? = some (some b) := hb
  have ho := h.h.obj r _ hr
  rw [hb'] at ho
  obtain ⟨k, vs, e, h1, h2, h3⟩ := ho
  simp only [Option.join_some, Option.some.injEq] at h1
  subst h1
  exact ⟨b, vs, e, hb', rfl, h2, h3⟩

theorem ok_rptr {r i off : Nat} {av : Value} {t : Ty} {l : List t.T} (h : Sim I w bl s tmps) (ha : Rep (I.env w bl s.hp) (.rptr r i off) av) (hr : s.hp[r]? = some (.row t l) ∨ s.hp[r]? = some (.arr t l)) :
    ∃ k vs e, bl[r]? = some (some k) ∧ av = .pointer (some ⟨k, i * t.size + off, none⟩) ∧ w.heap[k]? = some (.cells vs e (0, 0)) ∧ RowIs w (I.ok bl) t l vs.toList := by
  simp only [Rep] at ha
  obtain ⟨b, sz, n, hb, hs, rfl⟩ := ha
  have hb' : bl[r]? = some (some b) := hb
  have hs' : rowShape s.hp r = some (sz, n) := hs
  rcases hr with hr | hr
  · simp only [rowShape, hr, Option.some.injEq, Prod.mk.injEq] at hs'
    obtain ⟨rfl, rfl⟩ := hs'
    have ho := h.h.obj r _ hr
    rw [hb'] at ho
    rcases ho with ⟨h1, _⟩ | ⟨k, vs, e, h1, h2, h3⟩
    · cases h1
    · simp only [Option.join_some, Option.some.injEq] at h1
      subst h1
      exact ⟨b, vs, e, hb', rfl, h2, h3⟩
  · simp only [rowShape, hr, Option.some.injEq, Prod.mk.injEq] at hs'
    obtain ⟨rfl, rfl⟩ := hs'
    have ho := h.h.obj r _ hr
    rw [hb'] at ho
    obtain ⟨k, vs, e, h1, h2, h3⟩ := ho
    simp only [Option.join_some, Option.some.injEq] at h1
    subst h1
    exact ⟨b, vs, e, hb', rfl, h2, h3⟩

/-- A row's element, as cells in memory. -/
theorem row_cells {k : Nat} {vs : Array Value} {e : TypeId} {t : Ty} {l : List t.T} {ok : Nat → Prop} (hk : w.heap[k]? = some (.cells vs e (0, 0))) (hrow : RowIs w ok t l vs.toList) {i : Nat} (hi : i < l.length) :
    ∃ cs : List Value, cs.length = t.size ∧ CellsAt w k (i * t.size) cs ∧ RepT w ok t l[i] cs ∧ cs = (vs.toList.drop (i * t.size)).take t.size := by
  refine ⟨_, (hrow.2 i hi).length, ?_, hrow.2 i hi, rfl⟩
  have := (cellsAt_block hk).sub (i * t.size) t.size
  simpa using this

theorem aLoad_row {t : TypeId} {r i off : Nat} {av : Value} {ty : Ty} {l : List ty.T} (h : Sim I w bl s tmps) (ha : Rep (I.env w bl s.hp) (.rptr r i off) av) (hr : s.hp[r]? = some (.row ty l) ∨ s.hp[r]? = some (.arr ty l))
    (hc : off + sizeT P t ≤ ty.size) (hf : fitsT P t = true) :
    EffOk I w bl tmps (runV P (Instr.loadAt t av) w) (.need (i < l.length) (mkVal P t (((ty.cells (l.getD i ty.dflt)).drop off).take (sizeT P t))) s) := by
  refine EffOk.need fun hi => ?_
  obtain ⟨k, vs, e, hb, rfl, hk, hrow⟩ := ok_rptr h ha hr
  obtain ⟨cs, hl, hcs, hrep, _⟩ := row_cells hk hrow hi
  have hd : l.getD i ty.dflt = l[i] := by simp [List.getD_eq_getElem?_getD, hi]
  rw [hd]
  have hl2 : ((cs.drop off).take (sizeT P t)).length = sizeT P t := by simp; omega
  refine EffOk.same h (runV_ok (v := valOf P t ((cs.drop off).take (sizeT P t))) ?_) (mkVal_rep hf (((RepT.toL (E := I.env w bl s.hp) ty _ _ hrep).drop off).take _) hl2)
  simp only [Instr.loadAt, Instr.sureAddr, Sem.run_bind, Sem.run_pure, Result.andThen_ok]
  exact run_loadVar' hf (hcs.sub off _) hl2

theorem aLoad_ok {t : TypeId} {a : AV} {av : Value} (h : Sim I w bl s tmps) (ha : Rep (I.env w bl s.hp) a av) : EffOk I w bl tmps (runV P (Instr.loadAt t av) w) (aLoad P t a s) := by
  unfold aLoad
  split
  · rename_i r off
    split
    · rename_i cs hr
      split
      · rename_i hc
        obtain ⟨k, vs, e, hb, rfl, hk, hrep⟩ := ok_ptr h ha hr
        have hl := hrep.length
        have hl2 : ((vs.toList.drop off).take (sizeT P t)).length = sizeT P t := by simp at hl ⊢; omega
        refine EffOk.same h (runV_ok (v := valOf P t ((vs.toList.drop off).take (sizeT P t))) ?_) (mkVal_rep hc.2 ((hrep.drop off).take _) hl2)
        simp only [Instr.loadAt, Instr.sureAddr, Sem.run_bind, Sem.run_pure, Result.andThen_ok]
        refine run_loadVar' hc.2 ?_ hl2
        have := (cellsAt_block hk).sub off (sizeT P t)
        simpa using this
      · exact EffOk.fail
    · exact EffOk.fail
  · rename_i cs
    split
    · rename_i hc
      simp only [Rep] at ha
      obtain ⟨a, vs, rfl, h1, h2, h3, h4, h5⟩ := ha
      have hl := h5.length
      have hl2 : (vs.take (sizeT P t)).length = sizeT P t := by simp; omega
      refine EffOk.same h (runV_ok (v := valOf P t (vs.take (sizeT P t))) ?_) (mkVal_rep hc.2 (h5.take _) hl2)
      simp only [Instr.loadAt, Instr.sureAddr, Sem.run_bind, Sem.run_pure, Result.andThen_ok]
      rw [addr_eta h1]
      refine run_loadVar' hc.2 ?_ hl2
      have h6 : CellsAt w a.block (a.off + 0) ((vs.drop 0).take (sizeT P t)) := CellsAt.sub h3 0 (sizeT P t)
      simpa using h6
    · exact EffOk.fail
  · split
    · rename_i hr
      split
      · rename_i hc; exact aLoad_row h ha (.inl hr) hc.1 hc.2
      · exact EffOk.fail
    · rename_i hr
      split
      · rename_i hc; exact aLoad_row h ha (.inr hr) hc.1 hc.2
      · exact EffOk.fail
    · exact EffOk.fail
  · exact EffOk.fail

end
end Go.Cellar
