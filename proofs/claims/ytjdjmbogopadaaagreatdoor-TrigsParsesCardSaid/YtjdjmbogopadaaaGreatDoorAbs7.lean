/- Stores, fields, indexes, slices, over the invariant. No condition. -/
import Derived.Test.YtjdjmbogopadaaaGreatDoorAbs4
import Derived.Laws.Strings2
import Derived.Laws.BytesString

set_option linter.unusedVariables false
set_option linter.unusedSimpArgs false
namespace Go.Cellar
open Go

section
variable {P : Program} {I : Inp} {w : World} {bl : List (Option Nat)} {s : St} {tmps : List Value}

theorem one_oneCell {E : Env} {a : AV} {v : Value} (h : a.one = true) (hr : Rep E a v) : v.oneCell' = true := by
  cases a <;> simp only [AV.one, Bool.false_eq_true] at h <;> simp only [Rep] at hr
  case list => obtain ⟨h1, _⟩ := hr; simp only [RepT, List.cons.injEq, and_true] at h1; obtain ⟨_, _, rfl, _⟩ := h1; rfl
  case view => obtain ⟨_, _, _, _, _, _, _, rfl, _⟩ := hr; rfl
  case ptr => obtain ⟨_, _, rfl⟩ := hr; rfl
  case rptr => obtain ⟨_, _, _, _, _, rfl⟩ := hr; rfl
  case iptr => obtain ⟨_, _, rfl, _⟩ := hr; rfl
  case func => obtain ⟨_, _, rfl, _⟩ := hr; rfl
  case maybe => obtain ⟨_, rfl, _⟩ := hr; rfl
  all_goals (subst hr; rfl)

theorem ones_oneCell {E : Env} : ∀ {as : List AV} {vs : List Value}, as.all AV.one = true → RepL E as vs → ∀ v ∈ vs, v.oneCell' = true
  | [], vs, _, h, v, hv => by simp only [RepL] at h; subst h; simp at hv
  | a :: as, vs, h1, h, v, hv => by
    simp only [RepL] at h
    obtain ⟨u, us, rfl, h2, h3⟩ := h
    simp only [List.all_cons, Bool.and_eq_true] at h1
    rcases List.mem_cons.mp hv with rfl | hv
    · exact one_oneCell h1.1 h2
    · exact ones_oneCell h1.2 h3 v hv

theorem RepT.oneCell {w : World} {ok : Nat → Prop} : ∀ (t : Ty) (x : t.T) (vs : List Value), RepT w ok t x vs → ∀ v ∈ vs, v.oneCell' = true
  | .int _, _, _, h, v, hv => by simp only [RepT] at h; subst h; simp at hv; subst hv; rfl
  | .bool, _, _, h, v, hv => by simp only [RepT] at h; subst h; simp at hv; subst hv; rfl
  | .str, _, _, h, v, hv => by simp only [RepT] at h; subst h; simp at hv; subst hv; rfl
  | .list _, _, _, h, v, hv => by simp only [RepT] at h; obtain ⟨_, _, rfl, _⟩ := h; simp at hv; subst hv; rfl
  | .prod a b, x, vs, h, v, hv => by
    simp only [RepT] at h
    obtain ⟨va, vb, rfl, ha, hb⟩ := h
    rcases List.mem_append.mp hv with hv | hv
    · exact RepT.oneCell a _ _ ha v hv
    · exact RepT.oneCell b _ _ hb v hv
  | .one a, x, vs, h, v, hv => by simp only [RepT] at h; exact RepT.oneCell a _ _ h v hv

theorem run_storeVar {t : TypeId} {k off : Nat} {vs : Array Value} {e : TypeId} {v : Value} (hs : sizeT P t = v.cells.size) (h0 : sizeT P t ≠ 0) (hk : w.heap[k]? = some (.cells vs e (0, 0))) (hl : off + v.cells.size ≤ vs.size)
    (h1 : ∀ u ∈ v.cells.toList, u.oneCell' = true) :
    (storeVar t ⟨k, off, none⟩ v).run P w = .ok () (w.setRow k (vs.toList.take off ++ v.cells.toList ++ vs.toList.drop (off + v.cells.size)).toArray) := by
  obtain ⟨i, hi, _⟩ := sizeT_info h0
  have := run_storeCells_at P k off e v.cells.toList 0 vs w hk (by simpa using hl) h1
  simp only [Nat.add_zero, Array.length_toList] at this
  simp [storeVar, run_sizeOf' hi, hs, this]

theorem setRow_ne {k b : Nat} {cs : Array Value} (h : b ≠ k) : (w.setRow k cs).heap[b]? = w.heap[b]? := setRow_other w k b cs h

theorem putCells_eq (cs : List AV) (off : Nat) (vs : List AV) : putCells cs off vs = cs.take off ++ vs ++ cs.drop (off + vs.length) := rfl

theorem RepL.put {E : Env} {cs : List AV} {vs : List Value} (h : RepL E cs vs) {us : List AV} {xs : List Value} (hu : RepL E us xs) (off : Nat) :
    RepL E (putCells cs off us) (vs.take off ++ xs ++ vs.drop (off + xs.length)) := by
  rw [putCells_eq, ← hu.length]
  exact ((h.take off).append hu).append (h.drop _)

theorem blockSize_of {k : Nat} {vs : Array Value} {e : TypeId} {fz : Nat × Nat} (hk : w.heap[k]? = some (.cells vs e fz)) : blockSize w k = vs.size := by simp [blockSize, hk]

/-- A store into a box. -/
theorem aStore_box {t : TypeId} {r off : Nat} {av xv : Value} {x : AV} {cs : List AV} (h : Sim I w bl s tmps) (ha : Rep (I.env w bl s.hp) (.ptr r off) av) (hx : Rep (I.env w bl s.hp) x xv) (hr : s.hp[r]? = some (.box cs))
    (hs : x.solid = true) (hone : x.cells.all AV.one = true) (hlen : x.cells.length = sizeT P t) (hfit : off + sizeT P t ≤ cs.length) (h0 : sizeT P t ≠ 0) :
    ∃ w' bl', Sem.run P (Instr.storeAt t av xv) w = .ok () w' ∧ Sim I w' bl' ⟨s.tm, s.hp.set r (.box (putCells cs off x.cells)), s.m⟩ tmps := by
  obtain ⟨k, vs, e, hb, rfl, hk, hrep⟩ := ok_ptr h ha hr
  have hxc := Rep.cells hs hx
  have hl := hrep.length
  have hl2 := hxc.length
  have hsz : sizeT P t = xv.cells.size := by simp at hl2; omega
  have hrun := run_storeVar (P := P) (t := t) (off := off) (v := xv) hsz h0 hk (by simp at hl; omega) (ones_oneCell hone hxc)
  have hlen' : (vs.toList.take off ++ xv.cells.toList ++ vs.toList.drop (off + xv.cells.size)).length = vs.size := by simp at hl ⊢; omega
  obtain ⟨h1, h2⟩ := h.h.same (w' := w.setRow k (vs.toList.take off ++ xv.cells.toList ++ vs.toList.drop (off + xv.cells.size)).toArray) r k (.box (putCells cs off x.cells)) hb (fun b hne => setRow_ne hne) (by simp)
    (by rw [blockSize_of hk, blockSize_of (setRow_heap w k vs _ e (0, 0) hk)]; simp only [List.size_toArray, hlen']; exact Nat.le_refl _) rfl rfl rfl
    (fun y hy => by simp [rowShape, hr] at hy) (fun _ _ _ => rfl)
    (fun hle => ⟨k, _, e, rfl, setRow_heap w k vs _ e (0, 0) hk, by
      have := RepL.mono hle (hrep.put hxc off)
      simpa using this⟩)
  refine ⟨_, bl, ?_, ⟨h1, RepL.mono h2 h.tm, h.m⟩⟩
  simp only [Instr.storeAt, Instr.sureAddr, Sem.run_bind, Sem.run_pure, Result.andThen_ok]
  exact hrun

theorem list_put {α : Type} (L : List α) (A n off : Nat) (X : List α) (h1 : off + X.length ≤ n) (h2 : A + n ≤ L.length) :
    L.take A ++ (((L.drop A).take n).take off ++ X ++ ((L.drop A).take n).drop (off + X.length)) ++ L.drop (A + n) = L.take (A + off) ++ X ++ L.drop (A + off + X.length) := by
  have e1 : ((L.drop A).take n).take off = (L.drop A).take off := by rw [List.take_take]; congr 1; omega
  have e2 : ((L.drop A).take n).drop (off + X.length) ++ L.drop (A + n) = L.drop (A + off + X.length) := by
    rw [List.drop_take, List.drop_drop]
    have : L.drop (A + n) = (L.drop (A + (off + X.length))).drop (n - (off + X.length)) := by rw [List.drop_drop]; congr 1; omega
    rw [this, List.take_append_drop, Nat.add_assoc]
  rw [e1, List.take_add, ← e2]
  simp

/-- A store into an own list's element. -/
theorem aStore_row {t : TypeId} {r i off : Nat} {av xv : Value} {x : AV} {ty : Ty} {l : List ty.T} {y : ty.T} (h : Sim I w bl s tmps) (ha : Rep (I.env w bl s.hp) (.rptr r i off) av) (hx : Rep (I.env w bl s.hp) x xv) (o' : AO)
    (hr : (s.hp[r]? = some (.row ty l) ∧ o' = .row ty (l.set i y)) ∨ (s.hp[r]? = some (.arr ty l) ∧ o' = .arr ty (l.set i y)))
    (hs : x.solid = true) (hlen : x.cells.length = sizeT P t) (hfit : off + sizeT P t ≤ ty.size) (hi : i < l.length) (h0 : sizeT P t ≠ 0)
    (hy : ty.take (putCells (ty.cells (l.getD i ty.dflt)) off x.cells) = some (y, [])) :
    ∃ w' bl', Sem.run P (Instr.storeAt t av xv) w = .ok () w' ∧ Sim I w' bl' ⟨s.tm, s.hp.set r o', s.m⟩ tmps := by
  obtain ⟨k, vs, e, hb, rfl, hk, hrow⟩ := ok_rptr h ha (hr.imp (fun h => h.1) fun h => h.1)
  obtain ⟨cs, hcl, hcs, hrep, hce⟩ := row_cells hk hrow hi
  have hxc := Rep.cells hs hx
  have hl2 := hxc.length
  have hsz : sizeT P t = xv.cells.size := by simp at hl2; omega
  have hd : l.getD i ty.dflt = l[i] := by simp [List.getD_eq_getElem?_getD, hi]
  rw [hd] at hy
  have hput := (RepT.toL (E := I.env w bl s.hp) ty _ _ hrep).put hxc off
  obtain ⟨va, vb, hv, hva, hvb⟩ := RepL.take_of ty _ _ y [] hy hput
  simp only [RepL] at hvb
  subst hvb
  rw [List.append_nil] at hv
  have hva' : RepT w (I.ok bl) ty y (cs.take off ++ xv.cells.toList ++ cs.drop (off + xv.cells.toList.length)) := by rw [hv]; exact hva
  have hle := mul_le_of_lt (s := ty.size) hi
  have hrl := hrow.1
  have hfits : i * ty.size + off + xv.cells.size ≤ vs.size := by simp at hrl; omega
  have hone : ∀ u ∈ xv.cells.toList, u.oneCell' = true := fun u hu => RepT.oneCell ty y _ hva' u (by simp [hu])
  have hrun := run_storeVar (P := P) (t := t) (off := i * ty.size + off) (v := xv) hsz h0 hk hfits hone
  have hlen' : (vs.toList.take (i * ty.size + off) ++ xv.cells.toList ++ vs.toList.drop (i * ty.size + off + xv.cells.size)).length = vs.size := by simp; omega
  have hset := RowIs.set hrow hi hva'
  have heq : vs.toList.take (i * ty.size) ++ (cs.take off ++ xv.cells.toList ++ cs.drop (off + xv.cells.toList.length)) ++ vs.toList.drop (i * ty.size + ty.size) =
      vs.toList.take (i * ty.size + off) ++ xv.cells.toList ++ vs.toList.drop (i * ty.size + off + xv.cells.size) := by
    rw [hce]
    have := list_put vs.toList (i * ty.size) ty.size off xv.cells.toList (by simp; omega) (by omega)
    simpa using this
  rw [heq] at hset
  have hshape : ∀ z, rowShape s.hp r = some z → rowShape (s.hp.set r o') r = some z := by
    intro z hz
    have hlt : r < s.hp.length := by rw [← h.len]; exact (List.getElem?_eq_some_iff.mp hb).1
    rcases hr with ⟨hr, rfl⟩ | ⟨hr, rfl⟩
    · simp only [rowShape, hr, Option.some.injEq] at hz
      simp [rowShape, hlt, hz]
    · simp only [rowShape, hr, Option.some.injEq] at hz
      simp [rowShape, hlt, hz]
  obtain ⟨h1, h2⟩ := h.h.same (w' := w.setRow k (vs.toList.take (i * ty.size + off) ++ xv.cells.toList ++ vs.toList.drop (i * ty.size + off + xv.cells.size)).toArray) r k o' hb (fun b hne => setRow_ne hne) (by simp)
    (by rw [blockSize_of hk, blockSize_of (setRow_heap w k vs _ e (0, 0) hk)]; simp only [List.size_toArray, hlen']; exact Nat.le_refl _) rfl rfl rfl
    hshape (fun o ho hf => by
      rcases hr with ⟨hr, rfl⟩ | ⟨hr, rfl⟩
      · rw [hr] at ho; simp only [Option.some.injEq] at ho; subst ho; cases hf
      · rfl)
    (fun hle => by
      have hset' : RowIs (w.setRow k (vs.toList.take (i * ty.size + off) ++ xv.cells.toList ++ vs.toList.drop (i * ty.size + off + xv.cells.size)).toArray) (I.ok bl) ty (l.set i y) (vs.toList.take (i * ty.size + off) ++ xv.cells.toList ++ vs.toList.drop (i * ty.size + off + xv.cells.size)) := hset.mono hle.ok
      rcases hr with ⟨hr, rfl⟩ | ⟨hr, rfl⟩
      · exact .inr ⟨k, _, e, rfl, setRow_heap w k vs _ e (0, 0) hk, by simpa [Inp.env] using hset'⟩
      · exact ⟨k, _, e, rfl, setRow_heap w k vs _ e (0, 0) hk, by simpa [Inp.env] using hset'⟩)
  refine ⟨_, bl, ?_, ⟨h1, RepL.mono h2 h.tm, h.m⟩⟩
  simp only [Instr.storeAt, Instr.sureAddr, Sem.run_bind, Sem.run_pure, Result.andThen_ok]
  exact hrun

def runU (P : Program) (x : Sem Unit) (w : World) : Result Next := Sem.run P (do x; pure Next.skip) w
theorem runU_ok {x : Sem Unit} {w w' : World} (h : x.run P w = .ok () w') : runU P x w = .ok .skip w' := by
  simp [runU, h]


theorem aStore_ok {t : TypeId} {a x : AV} {av xv : Value} (h : Sim I w bl s tmps) (ha : Rep (I.env w bl s.hp) a av) (hx : Rep (I.env w bl s.hp) x xv) : EffOk I w bl tmps (runU P (Instr.storeAt t av xv) w) (aStore P t a x s) := by
  unfold aStore
  split
  · split
    · rename_i cs hr
      split
      · rename_i hc
        obtain ⟨hs, hone, hlen, hfit, h0⟩ := hc
        rintro v s' ⟨rfl, rfl⟩
        obtain ⟨w', bl', h1, h2⟩ := aStore_box (t := t) h ha hx hr hs hone hlen hfit h0
        exact ⟨undef, w', bl', .inr ⟨runU_ok h1, rfl⟩, h2, by simp [Rep]⟩
      · exact EffOk.fail
    · exact EffOk.fail
  · rename_i r i off
    split
    · exact EffOk.fail
    · rename_i hs0
      obtain ⟨bl1, hS, hsub⟩ := h.freeze x.refs
      have hx1 := Rep.sub hsub _ _ hx
      have ha1 := Rep.sub hsub _ _ ha
      simp only [AV.sub, gFreeze] at ha1
      dsimp only
      have key : ∀ (ty : Ty) (l : List ty.T), ((s.freeze x.refs).hp[r]? = some (.row ty l) ∨ (s.freeze x.refs).hp[r]? = some (.arr ty l)) → Rep (I.env w bl1 (s.freeze x.refs).hp) (.rptr r i off) av := by
        intro ty l hr
        split at ha1
        · rename_i hc
          exfalso
          simp only [Bool.and_eq_true] at hc
          have e := killObjs_get x.refs (s.hp.map (AO.sub (gFreeze s.hp x.refs))) 0 r
          have e2 : (s.freeze x.refs).hp[r]? = (killObjs x.refs 0 (s.hp.map (AO.sub (gFreeze s.hp x.refs))))[r]? := rfl
          rw [← e2, List.getElem?_map] at e
          have hrow := hc.2
          unfold isRow at hrow
          split at hrow
          · rename_i t0 l0 h0
            rw [h0] at e
            simp only [Option.map_some, AO.sub, Nat.zero_add, hc.1, if_true] at e
            rw [e] at hr
            rcases hr with hr | hr <;> simp at hr
          · cases hrow
        · exact ha1
      split
      · rename_i ty l hr
        split
        · rename_i hc
          obtain ⟨hs, hlen, hfit, h0⟩ := hc
          split
          · rename_i y hy
            refine EffOk.need fun hi => ?_
            rintro v s' ⟨rfl, rfl⟩
            obtain ⟨w', bl', h1, h2⟩ := aStore_row (t := t) hS (key ty l (.inl hr)) hx1 _ (.inl ⟨hr, rfl⟩) hs hlen hfit hi h0 hy
            exact ⟨undef, w', bl', .inr ⟨runU_ok h1, rfl⟩, h2, by simp [Rep]⟩
          · exact EffOk.fail
        · exact EffOk.fail
      · rename_i ty l hr
        split
        · rename_i hc
          obtain ⟨hs, hlen, hfit, h0⟩ := hc
          split
          · rename_i y hy
            refine EffOk.need fun hi => ?_
            rintro v s' ⟨rfl, rfl⟩
            obtain ⟨w', bl', h1, h2⟩ := aStore_row (t := t) hS (key ty l (.inr hr)) hx1 _ (.inr ⟨hr, rfl⟩) hs hlen hfit hi h0 hy
            exact ⟨undef, w', bl', .inr ⟨runU_ok h1, rfl⟩, h2, by simp [Rep]⟩
          · exact EffOk.fail
        · exact EffOk.fail
      · exact EffOk.fail
  · exact EffOk.fail

end
end Go.Cellar

/- Fields, indexes, slices, literals, over the invariant. No condition. -/
set_option linter.unusedVariables false
set_option linter.unusedSimpArgs false
namespace Go.Cellar
open Go

section
variable {P : Program} {I : Inp} {w : World} {bl : List (Option Nat)} {s : St} {tmps : List Value}

theorem fieldOf_some {t : TypeId} {f : Nat} {fd : Field} (h : fieldOf P t f = some fd) : ∃ fs : Array Field, P.underlying t = some (.struct fs) ∧ fs[f]? = some fd := by
  unfold fieldOf at h
  split at h
  · exact ⟨_, by assumption, h⟩
  · cases h

theorem aFieldAddr_ok {t : TypeId} {f : Nat} {x : AV} {xv : Value} (h : Sim I w bl s tmps) (hx : Rep (I.env w bl s.hp) x xv) : EffOk I w bl tmps (runV P (Instr.fieldAt t xv f) w) (aFieldAddr P t x f s) := by
  unfold aFieldAddr
  split
  · exact EffOk.fail
  · rename_i fd hfd
    obtain ⟨fs, hu, hf⟩ := fieldOf_some hfd
    split
    · exact EffOk.fail
    · rename_i h0
      obtain ⟨i, hi, hsz⟩ := sizeT_info h0
      have hi0 : ¬ i.size = 0 := by omega
      have hrun : ∀ a : Addr, xv = .pointer (some a) → (Instr.fieldAt t xv f).run P w = .ok (.pointer (some (a.add fd.offset))) w := by
        rintro a rfl
        simp [Instr.fieldAt, run_underlying hu, hf, Instr.sureAddr, fieldPlace, sizeOf, typeInfo, hi, hi0]
      split
      · simp only [Rep] at hx
        obtain ⟨b, hb, rfl⟩ := hx
        refine EffOk.same h (runV_ok (hrun _ rfl)) ?_
        simp only [Rep]
        exact ⟨b, hb, by rw [addr_add]⟩
      · simp only [Rep] at hx
        obtain ⟨a, vs, rfl, h1, h2, h3, h4, h5⟩ := hx
        refine EffOk.same h (runV_ok (hrun _ rfl)) ?_
        simp only [Rep]
        have hea := addr_eta h1
        refine ⟨a.add fd.offset, vs.drop fd.offset, rfl, ?_, fun hne => ?_, ?_, AV.refsL_drop _ _ h4, h5.drop _⟩
        · rw [hea, addr_add]
        · have : (a.add fd.offset).block = a.block := by rw [hea, addr_add]
          rw [this]
          exact h2 (fun e => hne (by rw [e]; simp))
        · have e1 : (a.add fd.offset).block = a.block := by rw [hea, addr_add]
          have e2 : (a.add fd.offset).off = a.off + fd.offset := by rw [hea, addr_add]
          rw [e1, e2]
          have := CellsAt.sub h3 fd.offset vs.length
          rwa [List.take_of_length_le (by simp)] at this
      · simp only [Rep] at hx
        obtain ⟨b, sz, n, hb, hs, rfl⟩ := hx
        refine EffOk.same h (runV_ok (hrun _ rfl)) ?_
        simp only [Rep]
        exact ⟨b, sz, n, hb, hs, by rw [addr_add, Nat.add_assoc]⟩
      · exact EffOk.fail

theorem aField_ok {t : TypeId} {f : Nat} {x : AV} {xv : Value} (h : Sim I w bl s tmps) (hx : Rep (I.env w bl s.hp) x xv) : EffOk I w bl tmps (runV P (Instr.field t xv f) w) (aField P t x f s) := by
  unfold aField
  split
  · rename_i fd cs hfd
    obtain ⟨fs, hu, hf⟩ := fieldOf_some hfd
    split
    · rename_i hc
      simp only [Rep] at hx
      obtain ⟨vs, rfl, hr⟩ := hx
      have hl := hr.length
      have hl2 : ((vs.toList.drop fd.offset).take (sizeT P fd.type)).length = sizeT P fd.type := by simp at hl ⊢; omega
      have hp := run_part (P := P) hc.2 vs fd.offset (by simp at hl; omega) w
      refine EffOk.same h (runV_ok (v := valOf P fd.type ((vs.toList.drop fd.offset).take (sizeT P fd.type))) ?_) (mkVal_rep hc.2 ((hr.drop _).take _) hl2)
      simp only [Instr.field, Sem.run_bind, run_underlying hu, Result.andThen_ok, hf, asAgg, Sem.run_pure]
      exact hp
    · exact EffOk.fail
  · exact EffOk.fail

theorem takeAll_ok {E : Env} {ty : Ty} : ∀ (n : Nat) (cs : List AV) (xs : List ty.T), takeAll ty n cs = some xs → ∀ vs : List Value, RepL E cs vs →
    xs.length = n ∧ vs.length = n * ty.size ∧ ∀ (i : Nat) (h : i < xs.length), RepT E.w E.ok ty xs[i] ((vs.drop (i * ty.size)).take ty.size)
  | 0, [], xs, h, vs, hr => by
    simp only [takeAll, Option.some.injEq] at h
    subst h
    simp only [RepL] at hr
    subst hr
    exact ⟨rfl, by simp, fun i hi => by simp at hi⟩
  | 0, _ :: _, xs, h, vs, hr => by simp [takeAll] at h
  | n + 1, cs, xs, h, vs, hr => by
    unfold takeAll at h
    split at h
    · rename_i x r hx
      split at h
      · rename_i ys hy
        simp only [Option.some.injEq] at h
        subst h
        obtain ⟨va, vb, rfl, h1, h2⟩ := RepL.take_of ty cs vs x r hx hr
        obtain ⟨h3, h4, h5⟩ := takeAll_ok n r ys hy vb h2
        have hl := h1.length
        refine ⟨by simp [h3], by simp [h4, hl, Nat.add_mul]; omega, fun i hi => ?_⟩
        cases i with
        | zero => simpa [← hl] using h1
        | succ i =>
          have := h5 i (by simpa using hi)
          simp only [List.getElem_cons_succ]
          rw [show (i + 1) * ty.size = va.length + i * ty.size by rw [hl, Nat.add_mul, Nat.one_mul, Nat.add_comm], List.drop_append, List.drop_eq_nil_of_le (by omega), List.nil_append, Nat.add_sub_cancel_left]
          exact this
      · cases h
    · cases h

theorem aIndex_ok {t : TypeId} {x ix : AV} {xv iv : Value} (h : Sim I w bl s tmps) (hx : Rep (I.env w bl s.hp) x xv) (hi : Rep (I.env w bl s.hp) ix iv) : EffOk I w bl tmps (runV P (Instr.index t xv iv) w) (aIndex P t x ix s) := by
  unfold aIndex
  split
  · rename_i b k i hu
    simp only [Rep] at hx hi
    subst hx hi
    refine EffOk.needs h fun hb => ⟨runV_ok ?_, rfl⟩
    obtain ⟨h0, h1⟩ := hb
    have hn : i.toNat < b.length := by omega
    have e : (⟨b.toArray⟩ : ByteArray)[i.toNat]? = some b[i.toNat] := by
      rw [getElem?_pos _ _ (by rw [ba_size]; exact hn)]
      rfl
    simp [Instr.index, asIntOf, run_underlying hu, h0, e, List.getD_eq_getElem?_getD, hn]
  · rename_i n e cs k i hu
    split
    · rename_i ty hty
      split
      · rename_i xs hxs
        split
        · rename_i hc
          obtain ⟨hc1, hc2⟩ := hc
          simp only [Rep] at hx hi
          subst hi
          obtain ⟨vs, rfl, hr⟩ := hx
          obtain ⟨g1, g2, g3⟩ := takeAll_ok n cs xs hxs _ hr
          refine EffOk.need fun hb => ?_
          obtain ⟨h0, h1⟩ := hb
          have hn : i.toNat < xs.length := by omega
          have hd : xs.getD i.toNat ty.dflt = xs[i.toNat] := by simp [List.getD_eq_getElem?_getD, hn]
          obtain ⟨ti, hti, hsz⟩ := sizeT_info (P := P) (t := e) (by have := Ty.size_pos ty; omega)
          have hle := mul_le_of_lt (s := ty.size) (show i.toNat < n by omega)
          have hfit : i.toNat * ti.size + sizeT P e ≤ vs.size := by
            have : vs.toList.length = vs.size := by simp
            rw [hsz, ← hc1]; omega
          have hp := run_part (P := P) hc2 vs (i.toNat * ti.size) hfit w
          have hg := g3 i.toNat hn
          rw [hd]
          refine EffOk.same h (runV_ok (v := valOf P e ((vs.toList.drop (i.toNat * ti.size)).take (sizeT P e))) ?_) ?_
          · have hin : 0 ≤ i ∧ i < (n : Int) := by omega
            simp [Instr.index, asIntOf, run_underlying hu, hin, sizeOf, typeInfo, hti, hp]
          · rw [hsz, ← hc1]
            refine mkVal_rep hc2 (RepT.toL ty _ _ hg) ?_
            rw [← hc1]; exact hg.length
        · exact EffOk.fail
      · exact EffOk.fail
    · exact EffOk.fail
  · exact EffOk.fail

theorem aIndexAddr_ok {t : TypeId} {x ix : AV} {xv iv : Value} (h : Sim I w bl s tmps) (hx : Rep (I.env w bl s.hp) x xv) (hi : Rep (I.env w bl s.hp) ix iv) : EffOk I w bl tmps (runV P (Instr.indexAt t xv iv) w) (aIndexAddr P t x ix s) := by
  unfold aIndexAddr
  split
  · rename_i e ty l full k i hu
    split
    · rename_i hc
      obtain ⟨hc1, hc2⟩ := hc
      obtain ⟨ti, hti, hsz⟩ := sizeT_info (P := P) (t := e) (by have := Ty.size_pos ty; omega)
      simp only [Rep] at hi
      subst hi
      refine EffOk.need fun hb => ?_
      obtain ⟨h0, h1⟩ := hb
      have hn : i.toNat < l.length := by omega
      have hx' := hx
      simp only [Rep, RepT] at hx
      obtain ⟨⟨ad, cap, hv, hcap, hel⟩, hfull⟩ := hx
      simp only [List.cons.injEq, and_true] at hv
      subst hv
      obtain ⟨a, cs, rfl, hs, hok, hlen, hcs, hrep⟩ := hel i.toNat hn
      have hd : l.getD i.toNat ty.dflt = l[i.toNat] := by simp [List.getD_eq_getElem?_getD, hn]
      refine EffOk.same h (runV_ok (v := .pointer (some (a.add (i.toNat * ti.size)))) ?_) ?_
      · simp [Instr.indexAt, asIntOf, run_underlying hu, h0, h1, sizeOf, typeInfo, hti]
      · rw [hd]
        simp only [Rep]
        have hea := addr_eta hs
        have e1 : (a.add (i.toNat * ti.size)) = ⟨a.block, a.off + i.toNat * ty.size, none⟩ := by rw [hea, addr_add, hsz, hc1]
        rw [e1]
        exact ⟨_, cs, rfl, rfl, fun _ => hok, hcs, Ty.refs_cells_aux ty _, RepT.toL (E := I.env w bl s.hp) ty _ _ hrep⟩
    · exact EffOk.fail
  · rename_i e r lo hi0 k i hu
    simp only [Rep] at hi
    subst hi
    have go : ∀ (ty : Ty) (l : List ty.T), (s.hp[r]? = some (.row ty l) ∨ s.hp[r]? = some (.arr ty l)) → ty.size = sizeT P e → 0 ≤ i → i + lo < ((hi0.getD l.length : Nat) : Int) →
        ∃ val, (Instr.indexAt t xv (.int k i)).run P w = .ok val w ∧ Rep (I.env w bl s.hp) (.rptr r (lo + i.toNat) 0) val := by
      intro ty l hr hc1 h0 h1
      obtain ⟨ti, hti, hsz⟩ := sizeT_info (P := P) (t := e) (by have := Ty.size_pos ty; omega)
      simp only [Rep] at hx
      obtain ⟨sz, n, hsh, hlo, hn, ad, cap, rfl, hcap, hb⟩ := hx
      have hsh' : rowShape s.hp r = some (sz, n) := hsh
      have : sz = ty.size ∧ n = l.length := by rcases hr with hr | hr <;> (simp only [rowShape, hr, Option.some.injEq, Prod.mk.injEq] at hsh'; exact ⟨hsh'.1.symm, hsh'.2.symm⟩)
      obtain ⟨rfl, rfl⟩ := this
      rcases hb with hb | ⟨b, hb, rfl, hs⟩
      · omega
      · refine ⟨.pointer (some ((⟨b, lo * ty.size, none⟩ : Addr).add (i.toNat * ti.size))), ?_, ?_⟩
        · have h2 : i < ((hi0.getD l.length - lo : Nat) : Int) := by omega
          simp [Instr.indexAt, asIntOf, run_underlying hu, h0, sizeOf, typeInfo, hti]
          omega
        · simp only [Rep]
          refine ⟨b, ty.size, l.length, hb, hsh, ?_⟩
          rw [addr_add, hsz, ← hc1, Nat.add_mul]
          simp
    split
    · rename_i ty l hr
      split
      · rename_i hc
        split
        · refine EffOk.need fun hb => ?_
          obtain ⟨val, h1, h2⟩ := go ty l (.inl hr) hc.1 hb.1 (by simpa using hb.2)
          exact EffOk.same h (runV_ok h1) h2
        · refine EffOk.need fun hb => ?_
          obtain ⟨val, h1, h2⟩ := go ty l (.inl hr) hc.1 hb.1 (by simpa using hb.2.1)
          exact EffOk.same h (runV_ok h1) h2
      · exact EffOk.fail
    · rename_i ty l hr
      split
      · rename_i hc
        split
        · refine EffOk.need fun hb => ?_
          obtain ⟨val, h1, h2⟩ := go ty l (.inr hr) hc.1 hb.1 (by simpa using hb.2)
          exact EffOk.same h (runV_ok h1) h2
        · refine EffOk.need fun hb => ?_
          obtain ⟨val, h1, h2⟩ := go ty l (.inr hr) hc.1 hb.1 (by simpa using hb.2.1)
          exact EffOk.same h (runV_ok h1) h2
      · exact EffOk.fail
    · exact EffOk.fail
  · rename_i n e r off k i hu
    simp only [Rep] at hi
    subst hi
    split
    · rename_i ty l hr
      split
      · rename_i hc
        obtain ⟨hc1, hc2, rfl⟩ := hc
        obtain ⟨ti, hti, hsz⟩ := sizeT_info (P := P) (t := e) (by have := Ty.size_pos ty; omega)
        refine EffOk.need fun hb => ?_
        obtain ⟨h0, h1, h2⟩ := hb
        simp only [Rep] at hx
        obtain ⟨b, hb, rfl⟩ := hx
        refine EffOk.same h (runV_ok (v := .pointer (some ((⟨b, 0, none⟩ : Addr).add (i.toNat * ti.size)))) ?_) ?_
        · simp [Instr.indexAt, asIntOf, run_underlying hu, h0, h1, sizeOf, typeInfo, hti, Instr.sureAddr]
        · simp only [Rep]
          refine ⟨b, ty.size, l.length, hb, ?_, ?_⟩
          · show rowShape s.hp r = _
            simp [rowShape, hr]
          · rw [addr_add, hsz, ← hc1]; simp
      · exact EffOk.fail
    · split
      · exact EffOk.fail
      · rename_i h0
        obtain ⟨ti, hti, hsz⟩ := sizeT_info h0
        refine EffOk.need fun hb => ?_
        obtain ⟨h0, h1⟩ := hb
        simp only [Rep] at hx
        obtain ⟨b, hb, rfl⟩ := hx
        refine EffOk.same h (runV_ok (v := .pointer (some ((⟨b, off, none⟩ : Addr).add (i.toNat * ti.size)))) ?_) ?_
        · simp [Instr.indexAt, asIntOf, run_underlying hu, h0, h1, sizeOf, typeInfo, hti, Instr.sureAddr]
        · simp only [Rep]
          exact ⟨b, hb, by rw [addr_add, hsz]⟩
    · exact EffOk.fail
  · exact EffOk.fail

theorem aExtract_ok {x : AV} {xv : Value} {i : Nat} (h : Sim I w bl s tmps) (hx : Rep (I.env w bl s.hp) x xv) : EffOk I w bl tmps (runV P (Instr.extract xv i) w) (aExtract x i s) := by
  unfold aExtract
  split
  · rename_i vs
    split
    · rename_i v hv
      simp only [Rep] at hx
      obtain ⟨us, rfl, hr⟩ := hx
      obtain ⟨hi, rfl⟩ := List.getElem?_eq_some_iff.mp hv
      have hl := hr.length
      have hi' : i < us.toList.length := by omega
      have hg := hr.get i hi hi'
      have hi2 : i < us.size := by simpa using hi'
      refine EffOk.same h (runV_ok (v := us[i]) ?_) (by simpa using hg)
      simp [Instr.extract, hi2]
    · exact EffOk.fail
  · exact EffOk.fail

theorem aLen_ok {t : TypeId} {ts : Array TypeId} {ty : TypeId} {x : AV} {xv : Value} {args : Array Value} (h : Sim I w bl s tmps) (hx : Rep (I.env w bl s.hp) x xv) (ht : ts[0]? = some t) (ha : args[0]? = some xv) :
    EffOk I w bl tmps (runV P (Builtin.len_ ts ty args) w) (aLen P t x s) := by
  unfold aLen
  split
  · rename_i b hu
    simp only [Rep] at hx
    subst hx
    refine EffOk.same h (runV_ok ?_) rfl
    simp [Builtin.len_, ht, ha, run_underlying hu, goInt, ba_size]
  · rename_i n e hu
    refine EffOk.same h (runV_ok ?_) rfl
    simp [Builtin.len_, ht, ha, run_underlying hu, goInt]
  · rename_i e ty l full hu
    simp only [Rep, RepT] at hx
    obtain ⟨⟨ad, cap, hv, _⟩, _⟩ := hx
    simp only [List.cons.injEq, and_true] at hv
    subst hv
    refine EffOk.same h (runV_ok ?_) rfl
    simp [Builtin.len_, ht, ha, run_underlying hu, goInt]
  · rename_i e hu
    simp only [Rep] at hx
    subst hx
    refine EffOk.same h (runV_ok ?_) rfl
    simp [Builtin.len_, ht, ha, run_underlying hu, goInt]
  · rename_i e r lo hi hu
    simp only [Rep] at hx
    obtain ⟨sz, n, hsh, hlo, hn, ad, cap, rfl, _⟩ := hx
    have hsh' : rowShape s.hp r = some (sz, n) := hsh
    have hrun : ∀ q : Int, q = ((hi.getD n - lo : Nat) : Int) → runV P (Builtin.len_ ts ty args) w = .ok (.value (.int .i64 q)) w := by
      rintro q rfl
      apply runV_ok
      simp [Builtin.len_, ht, ha, run_underlying hu, goInt]
    split
    · rename_i ty' l hr
      simp only [rowShape, hr, Option.some.injEq, Prod.mk.injEq] at hsh'
      obtain ⟨rfl, rfl⟩ := hsh'
      refine EffOk.same h (hrun _ ?_) rfl
      cases hi <;> simp at hlo hn ⊢ <;> omega
    · rename_i ty' l hr
      simp only [rowShape, hr, Option.some.injEq, Prod.mk.injEq] at hsh'
      obtain ⟨rfl, rfl⟩ := hsh'
      refine EffOk.same h (hrun _ ?_) rfl
      cases hi <;> simp at hlo hn ⊢ <;> omega
    · exact EffOk.fail
  · exact EffOk.fail

end
end Go.Cellar
