/- A row's arguments, opened as plain data. No condition. -/
import Derived.Test.YtjdjmbogopadaaaGreatDoorAbs19e
import Derived.ChangeSlices
import Derived.ChangeShapes
import Derived.Below
import Derived.Carry
import Derived.ChangeOld
import Derived.OpenShut
import Derived.Lib.Join

set_option linter.unusedVariables false
namespace Go.Cellar
open Go Go.WideShapes Go.ChangeShapes Go.RowKit

/-- What data from outside fits: numbers in their kinds, texts and lists no longer than may be. -/
def Ty.fit : (t : Ty) → t.T → Prop
  | .int k, n => (Lit.int k n).wf = true
  | .bool, _ => True
  | .str, s => s.length ≤ maxLen
  | .list t, l => l.length ≤ maxLen ∧ ∀ x ∈ l, t.fit x
  | .prod a b, x => a.fit x.1 ∧ b.fit x.2
  | .one a, x => a.fit x

/-- An array's elements, as fields. -/
def arrFields (e : TypeId) (sz : Nat) : Nat → Nat → List Field
  | 0, _ => []
  | n + 1, off => ⟨"", e, off, false, "", "", 0⟩ :: arrFields e sz n (off + sz)

theorem arrFields_mem {e : TypeId} {sz : Nat} : ∀ (n off : Nat) (f : Field), f ∈ arrFields e sz n off → ∃ i, i < n ∧ f.type = e ∧ f.offset = off + i * sz
  | 0, off, f, h => by simp [arrFields] at h
  | n + 1, off, f, h => by
    simp only [arrFields, List.mem_cons] at h
    rcases h with rfl | h
    · exact ⟨0, by omega, rfl, by simp⟩
    · obtain ⟨i, h1, h2, h3⟩ := arrFields_mem n (off + sz) f h
      exact ⟨i + 1, by omega, h2, by rw [h3, Nat.add_mul]; omega⟩

mutual
/-- Does a code stand for a Go type, cell by cell? -/
def layB (P : Program) : Nat → TypeId → Ty → Bool
  | 0, _, _ => false
  | n + 1, t, ty => decide (P.cellsOf t = ty.size) && match P.underlying t, ty with
    | some (.int k), .int k' => decide (k = k')
    | some .bool, .bool => true
    | some .string, .str => true
    | some (.slice e), .list ty' => layB P n e ty'
    | some (.struct fs), .one a => chainB P n fs.toList 0 a
    | some (.struct fs), .prod a b => chainB P n fs.toList 0 (.prod a b)
    | some (.array k e), .one a => chainB P n (arrFields e (P.cellsOf e) k 0) 0 a
    | some (.array k e), .prod a b => chainB P n (arrFields e (P.cellsOf e) k 0) 0 (.prod a b)
    | _, _ => false
def chainB (P : Program) : Nat → List Field → Nat → Ty → Bool
  | 0, _, _, _ => false
  | _, [], _, _ => false
  | n + 1, [f], off, ty => decide (f.offset = off) && layB P n f.type ty
  | n + 1, f :: g :: fs, off, .prod a b => decide (f.offset = off) && layB P n f.type a && chainB P n (g :: fs) (off + a.size) b
  | _, _, _, _ => false
end

theorem listOfEach {α : Type} {Q : Nat → α → Prop} : ∀ (n : Nat), (∀ i, i < n → ∃ y, Q i y) → ∃ l : List α, l.length = n ∧ ∀ (i : Nat) (h : i < l.length), Q i l[i] := by
  intro n h
  refine ⟨List.ofFn fun i : Fin n => Classical.choose (h i.1 i.2), by simp, fun i hi => ?_⟩
  simp only [List.getElem_ofFn]
  exact Classical.choose_spec (h i (by simpa using hi))

section
variable {H : Type} {enc : TypeId × Value → H} {P : Program} {w : World} {base : Nat} {spare : Nat → Bool} {held : Bool}

theorem layB_size {n : Nat} {t : TypeId} {ty : Ty} (h : layB P n t ty = true) : P.cellsOf t = ty.size := by
  cases n with
  | zero => simp [layB] at h
  | succ n =>
    unfold layB at h
    simp only [Bool.and_eq_true, decide_eq_true_eq] at h
    exact h.1

theorem open_both (n : Nat) : (∀ (t : TypeId) (ty : Ty), layB P n t ty = true → ∀ (fuel : Nat) (cs : List Value) (x : DataW H × List MemPlace), DataW.trod enc P w base spare held fuel t cs = some x →
      ∃ y : ty.T, RepT w (fun _ => True) ty y cs ∧ ty.fit y) ∧
    (∀ (fs : List Field) (off : Nat) (ty : Ty), chainB P n fs off ty = true → ∀ (cs : List Value), (∀ f ∈ fs, ∃ fuel x, DataW.trod enc P w base spare held fuel f.type ((cs.drop f.offset).take (P.cellsOf f.type)) = some x) →
      ∃ y : ty.T, RepT w (fun _ => True) ty y ((cs.drop off).take ty.size) ∧ ty.fit y) := by
  induction n with
  | zero => exact ⟨fun t ty h => by simp [layB] at h, fun fs off ty h => by simp [chainB] at h⟩
  | succ n ih =>
    obtain ⟨ih1, ih2⟩ := ih
    constructor
    · intro t ty h fuel cs x hd
      have hsz := layB_size h
      unfold layB at h
      simp only [Bool.and_eq_true] at h
      replace h := h.2
      split at h
      · rename_i k k' hu
        have hk : k = k' := by simpa using h
        subst hk
        obtain ⟨m, rfl, _, hw⟩ := DataW.trod_int hu hd
        exact ⟨m, by simp [RepT], hw⟩
      · rename_i hu
        obtain ⟨b, rfl, _⟩ := DataW.trod_bool hu hd
        exact ⟨b, by simp [RepT], trivial⟩
      · rename_i hu
        obtain ⟨s, rfl, _, hw⟩ := DataW.trod_string hu hd
        exact ⟨s.data.toList, by simp [RepT], by simpa [Ty.fit] using hw⟩
      · rename_i e ty' hu
        rcases DataW.trod_slice hu hd with ⟨rfl, _⟩ | ⟨a, len, cap, elems, rest, m, _, rfl, _, hb, hl, hm, hlen, hel, _, _⟩
        · exact ⟨[], by simp only [RepT]; exact ⟨none, 0, rfl, by simp, fun i hi => by simp at hi⟩, by simp [Ty.fit]⟩
        · have hsz' := layB_size h
          have cellsOf : ∀ i, i < len → ∃ (cs' : List Value) (y : DataW H × List MemPlace), w.cells? base (a.add (i * P.cellsOf e)) (P.cellsOf e) = some cs' ∧ DataW.trod enc P w base spare held m e cs' = some y := by
            intro i hi
            have he := hel i hi
            rw [List.getElem?_eq_getElem (by omega), Option.bind_eq_some_iff] at he
            obtain ⟨cs', hcs, hy⟩ := he
            exact ⟨cs', _, hcs, hy⟩
          have hspot : 0 < len → a.spot = none := by
            intro h0
            obtain ⟨cs', y, hcs, _⟩ := cellsOf 0 h0
            obtain ⟨_, hlen', hcell⟩ := World.cells?_some hcs
            have h0 := hcell 0 (by rw [hsz']; exact Ty.size_pos ty')
            rw [List.getElem?_eq_getElem (by have := Ty.size_pos ty'; omega)] at h0
            simpa [Addr.add] using World.cell?_spot h0
          have each : ∀ i, i < len → ∃ y : ty'.T, (a.spot = none ∧ ∃ cs : List Value, cs.length = ty'.size ∧ CellsAt w a.block (a.off + i * ty'.size) cs ∧ RepT w (fun _ => True) ty' y cs) ∧ ty'.fit y := by
            intro i hi
            obtain ⟨cs', y0, hcs, hy⟩ := cellsOf i hi
            obtain ⟨y, hy1, hy2⟩ := ih1 e ty' h _ _ _ hy
            obtain ⟨_, hlen', hcell⟩ := World.cells?_some hcs
            rw [hsz'] at hlen' hcell
            have hs := hspot (by omega)
            refine ⟨y, ⟨hs, cs', hlen', fun j hj => ?_, hy1⟩, hy2⟩
            have := hcell j (by omega)
            rw [List.getElem?_eq_getElem hj] at this
            rw [← this]
            obtain ⟨b, off, spot⟩ := a
            simp only at hs
            subst hs
            simp only [Addr.add]
            split <;> split <;> simp_all [Nat.add_assoc]
          obtain ⟨l, hll, hl'⟩ := listOfEach len each
          refine ⟨l, ?_, ?_⟩
          · simp only [RepT]
            refine ⟨some a, cap, by rw [hll], by omega, fun i hi => ?_⟩
            obtain ⟨⟨hs, cs, h1, h2, h3⟩, _⟩ := hl' i hi
            exact ⟨a, cs, rfl, hs, trivial, h1, h2, h3⟩
          · simp only [Ty.fit]
            refine ⟨by omega, fun y hy => ?_⟩
            obtain ⟨i, hi, rfl⟩ := List.getElem_of_mem hy
            exact (hl' i hi).2
      · rename_i fs a hu
        obtain ⟨xs, m, _, _, hlen, hxs, hf⟩ := DataW.trod_struct hu hd
        obtain ⟨y, hy1, hy2⟩ := ih2 fs.toList 0 a h cs (fun f hf' => by
          obtain ⟨i, hi, rfl⟩ := List.getElem_of_mem hf'
          have hi' : i < fs.size := by simpa using hi
          have := hf i fs[i] (by simp [hi'])
          rw [List.getElem?_eq_getElem (by omega)] at this
          exact ⟨m, _, by simpa using this⟩)
        refine ⟨y, ?_, hy2⟩
        have e : (cs.drop 0).take a.size = cs := by
          rw [List.drop_zero, List.take_of_length_le]
          rw [hlen, hsz]; simp [Ty.size]
        rw [e] at hy1
        simpa only [RepT] using hy1
      · rename_i fs a b hu
        obtain ⟨xs, m, _, _, hlen, hxs, hf⟩ := DataW.trod_struct hu hd
        obtain ⟨y, hy1, hy2⟩ := ih2 fs.toList 0 (.prod a b) h cs (fun f hf' => by
          obtain ⟨i, hi, rfl⟩ := List.getElem_of_mem hf'
          have hi' : i < fs.size := by simpa using hi
          have := hf i fs[i] (by simp [hi'])
          rw [List.getElem?_eq_getElem (by omega)] at this
          exact ⟨m, _, by simpa using this⟩)
        refine ⟨y, ?_, hy2⟩
        have e : (cs.drop 0).take (Ty.prod a b).size = cs := by
          rw [List.drop_zero, List.take_of_length_le]
          rw [hlen, hsz]; exact Nat.le_refl _
        rw [e] at hy1
        exact hy1
      · rename_i k e a hu
        obtain ⟨xs, m, _, _, hlen, hxs, hf⟩ := DataW.trod_array hu hd
        obtain ⟨y, hy1, hy2⟩ := ih2 (arrFields e (P.cellsOf e) k 0) 0 a h cs (fun f hf' => by
          obtain ⟨i, hi, h1, h2⟩ := arrFields_mem _ _ _ hf'
          have := hf i hi
          rw [List.getElem?_eq_getElem (by omega)] at this
          rw [h1, h2, Nat.zero_add]
          exact ⟨m, _, this⟩)
        refine ⟨y, ?_, hy2⟩
        have e : (cs.drop 0).take a.size = cs := by
          rw [List.drop_zero, List.take_of_length_le]
          rw [hlen, hsz]; simp [Ty.size]
        rw [e] at hy1
        simpa only [RepT] using hy1
      · rename_i k e a b hu
        obtain ⟨xs, m, _, _, hlen, hxs, hf⟩ := DataW.trod_array hu hd
        obtain ⟨y, hy1, hy2⟩ := ih2 (arrFields e (P.cellsOf e) k 0) 0 (.prod a b) h cs (fun f hf' => by
          obtain ⟨i, hi, h1, h2⟩ := arrFields_mem _ _ _ hf'
          have := hf i hi
          rw [List.getElem?_eq_getElem (by omega)] at this
          rw [h1, h2, Nat.zero_add]
          exact ⟨m, _, this⟩)
        refine ⟨y, ?_, hy2⟩
        have e : (cs.drop 0).take (Ty.prod a b).size = cs := by
          rw [List.drop_zero, List.take_of_length_le]
          rw [hlen, hsz]; exact Nat.le_refl _
        rw [e] at hy1
        exact hy1
      · cases h
    · intro fs off ty h cs hf
      cases fs with
      | nil => simp [chainB] at h
      | cons f fs =>
        cases fs with
        | nil =>
          simp only [chainB, Bool.and_eq_true, decide_eq_true_eq] at h
          obtain ⟨fuel, x, hd⟩ := hf f (by simp)
          obtain ⟨y, h1, h2⟩ := ih1 _ _ h.2 _ _ _ hd
          rw [h.1, layB_size h.2] at h1
          exact ⟨y, h1, h2⟩
        | cons g fs =>
          cases ty with
          | prod a b =>
            simp only [chainB, Bool.and_eq_true, decide_eq_true_eq] at h
            obtain ⟨⟨h0, h1⟩, h2⟩ := h
            obtain ⟨fuel, x, hd⟩ := hf f (by simp)
            obtain ⟨y1, r1, f1⟩ := ih1 _ _ h1 _ _ _ hd
            obtain ⟨y2, r2, f2⟩ := ih2 _ _ _ h2 cs (fun f' hf' => hf f' (List.mem_cons_of_mem _ hf'))
            rw [h0, layB_size h1] at r1
            refine ⟨(y1, y2), ?_, f1, f2⟩
            simp only [RepT]
            refine ⟨_, _, ?_, r1, r2⟩
            rw [show (Ty.prod a b).size = a.size + b.size from rfl, List.take_add, List.drop_drop]
          | _ => simp [chainB] at h



theorem okWide_arrc {P : Program} {w : World} {r : Reach} {base : Nat} {t e : TypeId} {n : Nat} {v : Value} (ht : P.underlying t = some (.array n e)) (h : Value.okWide P w r base t v) : ∃ cs, v = .agg cs ∧ cs.size = P.cellsOf t := by
  simp only [Value.okWide, ht] at h
  obtain ⟨cs, h1, h2, _⟩ := h
  exact ⟨cs, h1, h2⟩

theorem rep_av {E : Env} : ∀ (ty : Ty) (x : ty.T) (v : Value), RepT E.w E.ok ty x v.cells.toList → (ty.isAgg = true → ∃ vs, v = .agg vs) → (ty.isAgg = false → v.cells = #[v]) → Rep E (ty.av x) v
  | .int k, n, v, h, _, h2 => by
    have e := h2 rfl
    rw [e] at h
    simp only [RepT, List.cons.injEq, and_true] at h
    simp only [Ty.av, Ty.isAgg, Ty.cells, Rep]
    exact h
  | .bool, n, v, h, _, h2 => by
    have e := h2 rfl
    rw [e] at h
    simp only [RepT, List.cons.injEq, and_true] at h
    simp only [Ty.av, Ty.isAgg, Ty.cells, Rep]
    exact h
  | .str, n, v, h, _, h2 => by
    have e := h2 rfl
    rw [e] at h
    simp only [RepT, List.cons.injEq, and_true] at h
    simp only [Ty.av, Ty.isAgg, Ty.cells, Rep]
    exact h
  | .list t, n, v, h, _, h2 => by
    have e := h2 rfl
    rw [e] at h
    simp only [Ty.av, Ty.isAgg, Ty.cells, Rep]
    exact ⟨h, fun h => by cases h⟩
  | .prod a b, x, v, h, h1, _ => by
    obtain ⟨vs, rfl⟩ := h1 rfl
    simp only [Ty.av, Ty.isAgg, Rep]
    exact ⟨vs, rfl, RepT.toL _ _ _ h⟩
  | .one a, x, v, h, h1, _ => by
    obtain ⟨vs, rfl⟩ := h1 rfl
    simp only [Ty.av, Ty.isAgg, Rep]
    exact ⟨vs, rfl, RepT.toL _ _ _ h⟩

theorem open_arg {E : Env} (hw : E.w = w) (hok : ∀ b, E.ok b) {n : Nat} {t : TypeId} {ty : Ty} {v : Value} {d : DataW H} {ps : List MemPlace} {b0 : Nat} (hl : layB P n t ty = true) (hv : Value.okWide P w .any b0 t v) (h : DataW.Trod enc P w base spare held t v d ps) :
    ∃ y : ty.T, Rep E (ty.av y) v ∧ ty.fit y := by
  obtain ⟨fuel, hd⟩ := h
  obtain ⟨y, h1, h2⟩ := (open_both n).1 t ty hl _ _ _ hd
  refine ⟨y, rep_av ty y v (RepT.mono (fun b _ _ => ⟨hok b, by rw [hw]⟩) _ _ _ h1) ?_ ?_, h2⟩
  all_goals
    cases n with
    | zero => simp [layB] at hl
    | succ n =>
      unfold layB at hl
      simp only [Bool.and_eq_true] at hl
      replace hl := hl.2
      intro ha
      split at hl <;> first
        | (cases hl; done)
        | (cases ha; done)
        | (rename_i hu; obtain ⟨cs, rfl, _⟩ := okWide_struct hu hv; exact ⟨cs, rfl⟩)
        | (rename_i hu; obtain ⟨cs, rfl, _⟩ := okWide_arrc hu hv; exact ⟨cs, rfl⟩)
        | (rename_i hu; obtain ⟨m, rfl⟩ := okWide_int hu hv; rfl)
        | (rename_i hu; obtain ⟨m, rfl⟩ := okWide_bool hu hv; rfl)
        | (rename_i hu; obtain ⟨m, rfl⟩ := okWide_string hu hv; rfl)
        | (rename_i hu; obtain ⟨a, len, cap, rfl⟩ := okWide_slice hu hv; rfl)

end

/-- Arguments, as data. -/
def Args : List Ty → Type
  | [] => Unit
  | t :: ts => t.T × Args ts

def argAVs : (ts : List Ty) → Args ts → List AV
  | [], _ => []
  | t :: ts, x => t.av x.1 :: argAVs ts x.2

def argsFit : (ts : List Ty) → Args ts → Prop
  | [], _ => True
  | t :: ts, x => t.fit x.1 ∧ argsFit ts x.2

def argsLay (P : Program) : List TypeId → List Ty → Bool
  | [], [] => true
  | t :: ts, ty :: tys => layB P 40 t ty && argsLay P ts tys
  | _, _ => false

def recAll (P : Program) (ts : List TypeId) : Bool := ts.all fun t => P.readableRec t && decide (t < P.types.size)

section
variable {H : Type} {enc : TypeId × Value → H} {P : Program} {w : World}

theorem open_args {E : Env} (hw : E.w = w) (hok : ∀ b, E.ok b) {b0 : Nat} : ∀ (ts : List TypeId) (tys : List Ty) (vs : List Value) (ds : List (DataW H)) (ps : List MemPlace), argsLay P ts tys = true →
    (∀ (j : Nat) t v, ts[j]? = some t → vs[j]? = some v → Value.okWide P w .any b0 t v) → DataW.TrodAll enc P w 0 (fun _ => true) true ts vs ds ps →
    ∃ xs : Args tys, RepL E (argAVs tys xs) vs ∧ argsFit tys xs ∧ ds.length = tys.length
  | [], [], [], [], _, _, _, _ => ⟨(), by simp [argAVs, RepL], trivial, rfl⟩
  | t :: ts, ty :: tys, v :: vs, d :: ds, ps, hl, hv, h => by
    obtain ⟨p, q, h1, h2, rfl⟩ := h
    simp only [argsLay, Bool.and_eq_true] at hl
    obtain ⟨y, h3, h4⟩ := open_arg hw hok hl.1 (hv 0 t v rfl rfl) h1
    obtain ⟨xs, h5, h6, h7⟩ := open_args hw hok ts tys vs ds q hl.2 (fun j t' v' ht hv' => hv (j + 1) t' v' ht hv') h2
    exact ⟨(y, xs), by simp only [argAVs, RepL]; exact ⟨v, vs, rfl, h3, h5⟩, ⟨h4, h6⟩, by simp [h7]⟩
  | [], _ :: _, _, _, _, hl, _, _ => by simp [argsLay] at hl
  | _ :: _, [], _, _, _, hl, _, _ => by simp [argsLay] at hl
  | [], [], _ :: _, _, _, _, _, h => by simp [DataW.TrodAll] at h
  | [], [], [], _ :: _, _, _, _, h => by simp [DataW.TrodAll] at h
  | _ :: _, _ :: _, [], _, _, _, _, h => by simp [DataW.TrodAll] at h
  | _ :: _, _ :: _, _ :: _, [], _, _, _, h => by simp [DataW.TrodAll] at h

/-- The arguments read behind the call as they did. -/
theorem back_args (hl : laidOutB P = true) {w' : World} (hb : Below w.heap.size w w') : ∀ (ts : List TypeId) (vs : List Value) (ds : List (DataW H)) (ps : List MemPlace), recAll P ts = true →
    DataW.TrodAll enc P w 0 (fun _ => true) true ts vs ds ps → DataW.TrodAll enc P w' 0 (fun b => decide (b < w.heap.size)) true ts vs ds ps
  | [], [], [], _, _, h => h
  | t :: ts, v :: vs, d :: ds, ps, hr, h => by
    obtain ⟨p, q, h1, h2, rfl⟩ := h
    simp only [recAll, List.all_cons, Bool.and_eq_true, decide_eq_true_eq] at hr
    refine ⟨p, q, Below.trod hl hr.1.1 hr.1.2 h1 hb ?_, back_args hl hb ts vs ds q (by simpa [recAll] using hr.2) h2, rfl⟩
    obtain ⟨m, hm⟩ := h1
    exact DataW.trod_lt m _ _ _ hm
  | [], _ :: _, _, _, _, h => by simp [DataW.TrodAll] at h
  | [], [], _ :: _, _, _, h => by simp [DataW.TrodAll] at h
  | _ :: _, [], _, _, _, h => by simp [DataW.TrodAll] at h
  | _ :: _, _ :: _, [], _, _, h => by simp [DataW.TrodAll] at h

/-- A LAW'S CONTRACT, in the row's own words. -/
theorem law_post {C : Checked} {f : FuncId} {fn : Func} {s : ChangeSpec} (tys : List Ty) (hlay : argsLay C.prog fn.params.toList tys = true) (hrec : recAll C.prog fn.params.toList = true) (hlo : laidOutB C.prog = true)
    (hres : ∃ t, fn.resultTypes = #[t] ∧ C.prog.underlying t = some .bool) (hvars : s.vars = []) (hspec : ∀ ds : List (DataW H), ds.length = tys.length → s.fn H ds = { results := [.lit (.bool true)], args := ds })
    (law : ∀ xs : Args tys, argsFit tys xs → Con C.prog f (argAVs tys xs) [] (.bool true) [])
    (W : World) (base : Nat) (args : Array Value) (ds gs : List (DataW H)) (before : List MemPlace)
    (hval : ∀ (j : Nat) t v, fn.params[j]? = some t → args[j]? = some v → Value.okWide C.prog W .any base t v) (hG : GlobOk C.prog ⟨W, fun _ => True, [], []⟩)
    (hW : DataW.Whole enc C.prog fn.params.toList s.vars false W args.toList ds gs before) :
    Calls C.prog f args W fun e W' => ∃ v, e = .returned v ∧ s.post enc C.prog fn false true false false W args v W' := by
  have hW' := hW
  obtain ⟨p, q, hA, hV, rfl, hfz, hnd⟩ := hW
  rw [hvars] at hV
  obtain ⟨rfl, rfl⟩ := trodVars_none hV
  let I : Inp := ⟨W, fun _ => True, [], []⟩
  obtain ⟨xs, hrep, hfit, hlen⟩ := open_args (E := I.env W [] []) rfl (fun b => ⟨.inl trivial, by simp⟩) fn.params.toList tys args.toList ds p hlay (fun j t v ht hv => hval j t v (by simpa using ht) (by simpa using hv)) hA
  have hsim : HSim I W [] [] := ⟨rfl, Nat.le_refl _, by simp, by simp, by simp, Nat.le_refl _, fun _ _ _ => rfl, rfl, rfl, rfl, by intro j o h; simp [I] at h⟩
  refine (law xs hfit I args rfl hsim hrep hG).mono ?_
  rintro e W' ⟨v, rfl, bl2, h2, hv⟩
  simp only [Rep] at hv
  subst hv
  have hb : Below W.heap.size W W' := ⟨h2.os, h2.tape, h2.output, h2.le, fun k hk => h2.old k hk (by simp [I])⟩
  obtain ⟨t, ht, hu⟩ := hres
  refine ⟨_, rfl, ds, [], p ++ [], [], p, [], hW', ?_, ?_, ?_, hb.frame _, fun h => by cases h⟩
  · rw [List.append_nil, hspec ds hlen, ht]
    exact trodAll_mk1 (shut_bool hu _)
  · rw [List.append_nil, hspec ds hlen]
    exact back_args hlo hb _ _ _ _ hrec hA
  · rw [List.append_nil, hspec ds hlen, hvars]
    rfl

end
end Go.Cellar

/- Library functions, told by the library's own laws: how such a law becomes a contract. No condition. -/
set_option linter.unusedVariables false
namespace Go.Cellar
open Go Go.RowKit

/-- A call that was handed nothing, that lays new blocks at most. -/
theorem HSim.below {J : Inp} (h : HSim J J.w0 J.bl0 []) {w' : World} (hb : Below J.w0.heap.size J.w0 w') : HSim J w' [] [] where
  len := rfl
  many := h.many
  inj := by simp
  at_ := by simp
  obj := by simp
  le := hb.size
  old := fun b hlt _ => hb.block b hlt
  os := hb.os
  tape := hb.tape
  output := hb.output
  pin := fun j o hj => by
    have := h.many
    have h0 : J.hin = [] := List.eq_nil_of_length_eq_zero (by simpa using this)
    rw [h0] at hj
    simp at hj

/-! ### strings.Join -/

def strings_Join (l : List (List UInt8)) (sep : List UInt8) : Option (List UInt8) :=
  if l.length ≤ 140737488355328 ∧ (Lib.join l sep).length ≤ 140737488355328 then some (Lib.join l sep) else none
def strings_Join_res (r : List UInt8) : AV := .str r
def strings_Join_out (r : List UInt8) : List AO := []

theorem join_con {P : Program} {g : Nat}
    (h0 : ∀ (a : Option Addr) (c : Nat) (sep : ByteArray) (w : World), Calls P g #[.slice a 0 c, .string sep] w fun e w' => e = .returned (.string ⟨#[]⟩) ∧ w' = w)
    (h1 : ∀ (bk o c : Nat) (xs : List ByteArray) (sep : ByteArray) (w : World), (∀ (j : Nat) x, xs[j]? = some x → w.cell? ⟨bk, o + j, none⟩ = some (.string x)) → bk < w.heap.size → xs.length ≤ 140737488355328 → xs.length ≤ c →
      (Lib.join (xs.map (·.data.toList)) sep.data.toList).length ≤ 140737488355328 →
      Calls P g #[.slice (some ⟨bk, o, none⟩) xs.length c, .string sep] w fun e w' => e = .returned (.string ⟨(Lib.join (xs.map (·.data.toList)) sep.data.toList).toArray⟩) ∧ Below w.heap.size w w')
    {l : List (List UInt8)} {sep r : List UInt8} (h : strings_Join l sep = some r) : Con P g [.list .str l false, .str sep] [] (strings_Join_res r) (strings_Join_out r) := by
  unfold strings_Join at h
  split at h
  · rename_i hb
    simp only [Option.some.injEq] at h
    subst h
    intro J vals hin hsim hrep hG
    simp only [RepL, Rep] at hrep
    obtain ⟨v1, vs, hv, ⟨hl, _⟩, v2, vs2, hv2, rfl, rfl⟩ := hrep
    subst hv2
    simp only [RepT] at hl
    obtain ⟨ad, cap, hv1, hcap, hi⟩ := hl
    simp only [List.cons.injEq, and_true] at hv1
    subst hv1
    have hvals : vals = #[.slice ad l.length cap, .string ⟨sep.toArray⟩] := by apply Array.ext'; simpa using hv
    rw [hvals]
    by_cases he : l = []
    · subst he
      refine (h0 ad cap ⟨sep.toArray⟩ J.w0).mono ?_
      rintro e w' ⟨rfl, rfl⟩
      refine ⟨_, rfl, [], hsim.below (Below.refl _ _), ?_⟩
      simp [strings_Join_res, Rep, Lib.join]
    · have hpos : 0 < l.length := List.length_pos_iff.mpr he
      obtain ⟨a, cs0, had, hspot, _, hlen0, hcell0, _⟩ := hi 0 hpos
      obtain ⟨bk, o, spot⟩ := a
      simp only at hspot
      subst hspot
      subst had
      have key := h1 bk o cap (l.map fun x => ⟨x.toArray⟩) ⟨sep.toArray⟩ J.w0 (fun j x hx => by
          rw [List.getElem?_map, Option.map_eq_some_iff] at hx
          obtain ⟨y, hy, rfl⟩ := hx
          obtain ⟨hj, rfl⟩ := List.getElem?_eq_some_iff.mp hy
          obtain ⟨a', cs, ha', _, _, hlen, hcell, hr⟩ := hi j hj
          simp only [Option.some.injEq] at ha'
          subst ha'
          have hr0 : cs = [Value.string ⟨l[j].toArray⟩] := by simpa [RepT] using hr
          subst hr0
          have := hcell 0 (by simp)
          have this2 : J.w0.cell? ⟨bk, o + j * 1 + 0, none⟩ = some (Value.string ⟨l[j].toArray⟩) := this
          simpa using this2)
        (hcell0.lt (by rw [hlen0]; exact Ty.size_pos _)) (by simpa using hb.1) (by simpa using hcap)
        (by simpa [List.map_map, Function.comp_def] using hb.2)
      rw [List.length_map] at key
      refine key.mono ?_
      rintro e w' ⟨rfl, hw⟩
      refine ⟨_, rfl, [], hsim.below hw, ?_⟩
      simp [strings_Join_res, Rep, List.map_map, Function.comp_def]
  · cases h

end Go.Cellar
