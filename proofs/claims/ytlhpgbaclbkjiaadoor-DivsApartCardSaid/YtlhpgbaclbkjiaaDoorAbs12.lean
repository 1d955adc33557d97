/- Appends, over the invariant. No condition. -/
import Derived.Test.YtlhpgbaclbkjiaaDoorAbs11
set_option linter.unusedVariables false
set_option linter.unusedSimpArgs false
namespace Go.Cellar
open Go

section
variable {P : Program} {I : Inp} {w : World} {bl : List (Option Nat)} {s : St} {tmps : List Value}

theorem CellsAt.append {b off : Nat} {xs ys : List Value} (h : CellsAt w b off xs) (h' : CellsAt w b (off + xs.length) ys) : CellsAt w b off (xs ++ ys) := by
  intro j hj
  by_cases hlt : j < xs.length
  · rw [List.getElem_append_left hlt]; exact h j hlt
  · rw [List.getElem_append_right (by omega)]
    have := h' (j - xs.length) (by simp at hj; omega)
    have e : off + xs.length + (j - xs.length) = off + j := by omega
    rwa [e] at this

theorem gather {ok : Nat → Prop} {t : Ty} {b : Nat} : ∀ (l : List t.T) (off : Nat), (∀ (i : Nat) (h : i < l.length), ∃ cs : List Value, cs.length = t.size ∧ CellsAt w b (off + i * t.size) cs ∧ RepT w ok t l[i] cs) →
    ∃ all : List Value, all.length = l.length * t.size ∧ CellsAt w b off all ∧ RowIs w ok t l all
  | [], off, _ => ⟨[], by simp, fun j hj => by simp at hj, RowIs.nil _ _ _ _⟩
  | x :: l, off, h => by
    obtain ⟨cs, h1, h2, h3⟩ := h 0 (by simp)
    obtain ⟨all, h4, h5, h6⟩ := gather l (off + t.size) fun i hi => by
      obtain ⟨cs, h1, h2, h3⟩ := h (i + 1) (by simp; omega)
      refine ⟨cs, h1, ?_, h3⟩
      have e : off + t.size + i * t.size = off + (i + 1) * t.size := by rw [Nat.add_mul]; omega
      rw [e]; exact h2
    refine ⟨cs ++ all, by simp [h1, h4, Nat.add_mul]; omega, CellsAt.append (by simpa using h2) (by rw [h1]; exact h5), ?_⟩
    have := (RowIs.single (t := t) h3).append h6 (by simp [h1])
    simpa using this

/-- What is appended: its length, its cells, their meaning. -/
structure Src (P : Program) (w : World) (ok : Nat → Prop) (ty : Ty) (size : Nat) (ys : List ty.T) (v : Value) (news : List Value) : Prop where
  len : (Builtin.lenOf v).run P w = .ok ys.length w
  cells : ∀ w', w'.heap = w.heap → (Builtin.firstCells size ys.length v).run P w' = .ok news.toArray w'
  size : news.length = ys.length * ty.size
  row : RowIs w ok ty ys news

theorem loadCells_any {b off : Nat} {vs : List Value} (h : CellsAt w b off vs) {w' : World} (hw : w'.heap = w.heap) {n : Nat} (hn : n = vs.length) : (loadCells ⟨b, off, none⟩ n).run P w' = .ok vs.toArray w' := by
  subst hn
  have : CellsAt w' b off vs := fun j hj => by
    have := h j hj
    unfold World.cell? at this ⊢
    rw [hw]; exact this
  exact run_loadCells_at this

theorem src_list {ok : Nat → Prop} {ty : Ty} {ys : List ty.T} {v : Value} (h : RepT w ok (.list ty) ys [v]) : ∃ news, Src P w ok ty ty.size ys v news := by
  simp only [RepT] at h
  obtain ⟨ad, cap, hv, hcap, hel⟩ := h
  simp only [List.cons.injEq, and_true] at hv
  subst hv
  have hlen : ∀ l : Nat, (Builtin.lenOf (.slice ad l cap)).run P w = .ok l w := fun l => by simp [Builtin.lenOf]
  cases ad with
  | none =>
    have : ys = [] := by
      cases ys with
      | nil => rfl
      | cons x l => obtain ⟨a, _, h1, _⟩ := hel 0 (by simp); cases h1
    subst this
    exact ⟨[], hlen _, fun w' _ => by simp [Builtin.firstCells], by simp, RowIs.nil _ _ _ _⟩
  | some a =>
    obtain ⟨all, h1, h2, h3⟩ := gather (w := w) (ok := ok) (b := a.block) ys a.off fun i hi => by
      obtain ⟨q, cs, h1, hs, hok, hl, hcs, hr⟩ := hel i hi
      simp only [Option.some.injEq] at h1
      subst h1
      exact ⟨cs, hl, hcs, hr⟩
    refine ⟨all, hlen _, fun w' hw => ?_, h1, h3⟩
    simp only [Builtin.firstCells]
    by_cases hy : ys = []
    · subst hy
      have : all = [] := by simpa using h1
      subst this
      simp [loadCells, loadCellsFrom]
    · obtain ⟨q, cs, h5, hs, _⟩ := hel 0 (List.length_pos_iff.mpr hy)
      simp only [Option.some.injEq] at h5
      subst h5
      rw [addr_eta hs]
      exact loadCells_any h2 hw h1.symm

theorem src_view {r lo : Nat} {hi : Option Nat} {v : Value} {ty : Ty} {l : List ty.T} (h : Sim I w bl s tmps) (hv : Rep (I.env w bl s.hp) (.view r lo hi) v) (hr : s.hp[r]? = some (.row ty l) ∨ s.hp[r]? = some (.arr ty l)) :
    ∃ news, Src P w (I.ok bl) ty ty.size (part l lo hi) v news := by
  have hl := view_list (E := ⟨w, fun _ => True, bl, s.hp⟩) ⟨rfl, fun _ => trivial⟩ h hv hr
  obtain ⟨news, h1⟩ := src_list (P := P) hl
  refine ⟨news, h1.len, h1.cells, h1.size, ?_⟩
  -- the elements themselves are read in the row
  simp only [Rep] at hv
  obtain ⟨sz, n, hsh, hlo, hn, ad, cap, rfl, hcap, hb⟩ := hv
  have hsh' : rowShape s.hp r = some (sz, n) := hsh
  have : sz = ty.size ∧ n = l.length := by rcases hr with hr | hr <;> (simp only [rowShape, hr, Option.some.injEq, Prod.mk.injEq] at hsh'; exact ⟨hsh'.1.symm, hsh'.2.symm⟩)
  obtain ⟨rfl, rfl⟩ := this
  have el : part l lo hi = (l.take (lo + (hi.getD l.length - lo))).drop lo := by
    cases hi with
    | none => simp only [Option.getD_none, part] at hlo ⊢; rw [show lo + (l.length - lo) = l.length by omega, List.take_length]
    | some q => simp only [Option.getD_some, part] at hlo ⊢; rw [show lo + (q - lo) = q by omega]
  have hpl : (part l lo hi).length = hi.getD l.length - lo := by rw [el]; simp; omega
  rcases hb with hb | ⟨b, hb, ha, hs⟩
  · have : (part l lo hi) = [] := by apply List.eq_nil_of_length_eq_zero; omega
    rw [this]; exact RowIs.nil _ _ _ _
  · have hb' : bl[r]? = some (some b) := hb
    have hrow : ∃ vs e, w.heap[b]? = some (.cells vs e (0, 0)) ∧ RowIs w (I.ok bl) ty l vs.toList := by
      rcases hr with hr | hr
      · have hobj := h.h.obj r _ hr
        rw [hb'] at hobj
        rcases hobj with ⟨h8, _⟩ | ⟨k, vs, e, h8, h9, h10⟩
        · cases h8
        · simp only [Option.join_some, Option.some.injEq] at h8
          subst h8
          exact ⟨vs, e, h9, h10⟩
      · have hobj := h.h.obj r _ hr
        rw [hb'] at hobj
        obtain ⟨k, vs, e, h8, h9, h10⟩ := hobj
        simp only [Option.join_some, Option.some.injEq] at h8
        subst h8
        exact ⟨vs, e, h9, h10⟩
    obtain ⟨vs, e, h9, h10⟩ := hrow
    -- news are the row's cells from lo on
    have hc := h1.cells w rfl
    rw [ha] at hc
    simp only [Builtin.firstCells, hpl] at hc
    have hle : (lo + (hi.getD l.length - lo)) * ty.size ≤ vs.toList.length := Nat.le_trans (Nat.mul_le_mul_right _ (by omega)) h10.1
    rw [Nat.add_mul] at hle
    have hcells : CellsAt w b (lo * ty.size) ((vs.toList.drop (lo * ty.size)).take ((hi.getD l.length - lo) * ty.size)) := by
      have := (cellsAt_block h9).sub (lo * ty.size) ((hi.getD l.length - lo) * ty.size)
      simpa using this
    have hnl : ((vs.toList.drop (lo * ty.size)).take ((hi.getD l.length - lo) * ty.size)).length = (hi.getD l.length - lo) * ty.size := by simp at hle ⊢; omega
    have hc2 := loadCells_any (P := P) hcells rfl hnl.symm
    rw [hc2] at hc
    simp only [Result.ok.injEq, and_true] at hc
    have hnews : news = (vs.toList.drop (lo * ty.size)).take ((hi.getD l.length - lo) * ty.size) := by
      have := congrArg Array.toList hc
      simpa using this.symm
    rw [hnews]
    refine ⟨by rw [hnl, hpl]; exact Nat.le_refl _, fun i hi' => ?_⟩
    have hi2 : lo + i < l.length := by omega
    have h2 := h10.2 (lo + i) hi2
    have h3 := mul_le_of_lt (s := ty.size) (show i < hi.getD l.length - lo by omega)
    have e3 : (part l lo hi)[i] = l[lo + i] := by
      have : (part l lo hi)[i]? = l[lo + i]? := by
        rw [el, List.getElem?_drop, List.getElem?_take]
        rw [if_pos (by omega)]
      rw [List.getElem?_eq_getElem hi', List.getElem?_eq_getElem hi2] at this
      simpa using this
    rw [e3]
    have e4 : (((vs.toList.drop (lo * ty.size)).take ((hi.getD l.length - lo) * ty.size)).drop (i * ty.size)).take ty.size = (vs.toList.drop ((lo + i) * ty.size)).take ty.size := by
      rw [List.drop_take, List.drop_drop, List.take_take, Nat.add_mul]
      congr 1
      omega
    rw [e4]; exact h2

theorem appended_src {y : AV} {yv : Value} {ty : Ty} {ys : List ty.T} (h : Sim I w bl s tmps) (hy : Rep (I.env w bl s.hp) y yv) (ha : appended s ty y = some ys) : ∃ news, Src P w (I.ok bl) ty ty.size ys yv news := by
  unfold appended at ha
  split at ha
  · rename_i ty' l full
    split at ha
    · rename_i he
      subst he
      simp only [Option.some.injEq] at ha
      subst ha
      simp only [Rep] at hy
      exact src_list hy.1
    · cases ha
  · simp only [Option.some.injEq] at ha
    subst ha
    simp only [Rep] at hy
    subst hy
    exact ⟨[], by simp [Builtin.lenOf], fun w' _ => by simp [Builtin.firstCells], by simp, RowIs.nil _ _ _ _⟩
  · rename_i r lo hi
    split at ha
    · rename_i ty' l full hl
      split at ha
      · rename_i he
        subst he
        simp only [Option.some.injEq] at ha
        subst ha
        obtain ⟨l0, hr, rfl⟩ := viewList_eq hl
        exact src_view h hy hr
      · cases ha
    · cases ha
  · rename_i b
    split at ha
    · simp only [Option.some.injEq] at ha
      subst ha
      simp only [Rep] at hy
      subst hy
      refine ⟨b.map fun c => Value.int .u8 (c.toNat : Int), by simp [Builtin.lenOf, ba_size], fun w' _ => ?_, by simp [Ty.size], by simp [Ty.size], fun i hi => ?_⟩
      · simp only [Builtin.firstCells, List.length_map, Sem.run_pure]
        congr 1
        apply Array.ext'
        simp [ByteArray.extract_mk]
      · simp only [List.length_map] at hi
        simp [RepT, Ty.size, List.take_one, List.head?_drop, hi]
    · cases ha
  · cases ha

end
end Go.Cellar
