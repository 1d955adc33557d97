/- Made and built values, conversions, appends, over the invariant. No condition. -/
import Derived.Test.YtlhpgbaclbkjiaaDoorAbs9
set_option linter.unusedVariables false
set_option linter.unusedSimpArgs false
namespace Go.Cellar
open Go

section
variable {P : Program} {I : Inp} {w : World} {bl : List (Option Nat)} {s : St} {tmps : List Value}

theorem made_flatten (z : Array Value) (c n : Nat) (hn : n ≤ c) {ok : Nat → Prop} {t : Ty} (hz : z.size = t.size) (hr : RepT w ok t t.dflt z.toList) : RowIs w ok t (List.replicate n t.dflt) (madeCells z (c * t.size)).toList := by
  refine ⟨?_, fun i hi => ?_⟩
  · simp [madeCells]; exact Nat.mul_le_mul_right _ hn
  · simp only [List.length_replicate] at hi
    have e : ((madeCells z (c * t.size)).toList.drop (i * t.size)).take t.size = z.toList := by
      apply List.ext_getElem?
      intro j
      simp only [List.getElem?_take, List.getElem?_drop]
      by_cases hj : j < t.size
      · have h1 := mul_le_of_lt (s := t.size) (show i < c by omega)
        have h2 : i * t.size + j < c * t.size := by omega
        have h3 : (i * t.size + j) % z.size = j := by
          rw [hz, Nat.mul_comm, Nat.mul_add_mod]; exact Nat.mod_eq_of_lt hj
        have h4 : j < z.size := by omega
        simp only [hj, if_true]
        simp [madeCells, h2, h3, h4]
      · have : z.toList.length ≤ j := by simp; omega
        simp [hj, List.getElem?_eq_none this]
    rw [e]
    simpa using hr

theorem zeroIs_ok {e : TypeId} {ty : Ty} (h : zeroIs P e ty = true) {w : World} {ok : Nat → Prop} : ∃ i z, P.info? e = some i ∧ i.zero = some z ∧ RepT w ok ty ty.dflt z.cells.toList := by
  unfold zeroIs at h
  split at h
  · rename_i i hi
    split at h
    · rename_i z hz
      split at h
      · rename_i hd
        obtain ⟨a, ha, hr⟩ := dfltOk_ok (w := w) (ok := ok) ty _ _ hd
        rw [List.append_nil] at ha
        exact ⟨i, z, hi, hz, by rw [ha]; exact hr⟩
      · cases h
    · cases h
  · cases h

theorem aMakeSlice_ok {t : TypeId} {x y : AV} {xv yv : Value} (h : Sim I w bl s tmps) (hx : Rep (I.env w bl s.hp) x xv) (hy : Rep (I.env w bl s.hp) y yv) : EffOk I w bl tmps (runV P (Instr.makeSlice t xv yv) w) (aMakeSlice P t x y s) := by
  unfold aMakeSlice
  split
  · rename_i e kn n kc c hu
    split
    · rename_i ty hty
      split
      · rename_i hc
        obtain ⟨hc1, hc2, hc3⟩ := hc
        simp only [Rep] at hx hy
        subst hx hy
        refine EffOk.need fun hb => ?_
        obtain ⟨h0, h1, h2, h3⟩ := hb
        obtain ⟨i, z, hi, hz, _⟩ := zeroIs_ok hc3 (w := w) (ok := I.ok bl)
        have hb : bytesT P e = i.bytes := by simp [bytesT, hi]
        have hsz : i.size = ty.size := by rw [hc1]; simp [sizeT, hi]
        have hrun := run_make (P := P) w t e i z hu hi hz kn kc n c h0 h1 (by rw [hb] at h3; omega) (by omega)
        rintro v s' ⟨rfl, rfl⟩
        obtain ⟨h4, h5⟩ := h.alloc (.cells (madeCells z.cells (c.toNat * i.size)) e) (.row ty (List.replicate n.toNat ty.dflt)) fun _ => .inr ⟨_, _, e, rfl, heap_alloc_new, by
          obtain ⟨i', z', hi', hz', hr⟩ := zeroIs_ok hc3 (w := w.alloc (.cells (madeCells z.cells (c.toNat * i.size)) e)) (ok := I.ok (bl ++ [some w.heap.size]))
          rw [hi] at hi'; simp only [Option.some.injEq] at hi'; subst hi'
          rw [hz] at hz'; simp only [Option.some.injEq] at hz'; subst hz'
          have hm := made_flatten z.cells c.toNat n.toNat (by omega) (by have := hr.length; simpa using this) hr
          rw [← hsz] at hm
          exact hm⟩
        refine ⟨_, _, _, .inl (runV_ok hrun), h4, ?_⟩
        simp only [Rep]
        refine ⟨ty.size, n.toNat, ?_, by simp, by simp, _, _, rfl, by simp; omega, .inr ⟨w.heap.size, ?_, by simp, ?_⟩⟩
        · show rowShape (s.hp ++ [_]) s.hp.length = _
          simp [rowShape]
        · show (bl ++ [some w.heap.size])[s.hp.length]? = _
          rw [← h.len]; simp
        · show _ ≤ blockSize (w.alloc _) w.heap.size
          rw [blockSize_of heap_alloc_new]
          simp [size_madeCells, hsz]
      · exact EffOk.fail
    · exact EffOk.fail
  · exact EffOk.fail

/-! ### conversions -/

theorem u8row_values {ok : Nat → Prop} : ∀ (l : List Int) (vs : List Value), RowIs w ok (.int .u8) l vs → vs.take l.length = l.map (Value.int .u8) := by
  intro l vs h
  apply List.ext_getElem?
  intro i
  simp only [List.getElem?_take, List.getElem?_map]
  by_cases hi : i < l.length
  · have h1 := h.2 i hi
    have h0 := h.1
    simp only [RepT, Ty.size, Nat.mul_one] at h1 h0
    have : vs[i]? = some (.int .u8 l[i]) := by
      have := congrArg (·[0]?) h1
      simpa using this
    simp [hi, this]
  · simp [hi]

theorem ba_pushes (l : List Int) : ∀ (a : List UInt8), l.foldl (fun (r : ByteArray) n => r.push (UInt8.ofNat n.toNat)) ⟨a.toArray⟩ = ⟨(a ++ l.map fun n => UInt8.ofNat n.toNat).toArray⟩ := by
  induction l with
  | nil => intro a; simp
  | cons n l ih =>
    intro a
    have e : (⟨a.toArray⟩ : ByteArray).push (UInt8.ofNat n.toNat) = ⟨(a ++ [UInt8.ofNat n.toNat]).toArray⟩ := by
      apply ByteArray.ext
      simp [ByteArray.push]
    rw [List.foldl_cons, e, ih]
    simp

theorem run_bytes_list {E : Env} {l : List Int} {ad : Option Addr} {len cap : Nat} (h : RepT E.w E.ok (.list (.int .u8)) l [.slice ad len cap]) (hn : l = [] → ad ≠ none ∨ ad = none) :
    (Conv.bytesToString (.slice ad len cap)).run P E.w = .ok (.string ⟨(l.map fun n => UInt8.ofNat n.toNat).toArray⟩) E.w := by
  simp only [RepT] at h
  obtain ⟨ad', cap', hv, hcap, hel⟩ := h
  simp only [List.cons.injEq, Value.slice.injEq, and_true] at hv
  obtain ⟨rfl, rfl, rfl⟩ := hv
  cases ad with
  | none =>
    have : l = [] := by
      cases l with
      | nil => rfl
      | cons x l => obtain ⟨a, _, h1, _⟩ := hel 0 (by simp); cases h1
    subst this
    simp only [Conv.bytesToString, Sem.run_pure, List.map_nil]
    rfl
  | some a =>
    have hl : (loadCells a l.length).run P E.w = .ok (l.map (Value.int .u8)).toArray E.w := by
      have := run_loadCells_list (P := P) E.w a (l.map (Value.int .u8)) fun j v hv => by
        rw [List.getElem?_map] at hv
        cases hj : l[j]? with
        | none => simp [hj] at hv
        | some n =>
          obtain ⟨hj1, hj2⟩ := List.getElem?_eq_some_iff.mp hj
          rw [hj] at hv
          simp only [Option.map_some, Option.some.injEq] at hv
          subst hv
          obtain ⟨q, cs, h1, hs, hok, hlen, hcs, hrep⟩ := hel j hj1
          simp only [Option.some.injEq] at h1
          subst h1
          rw [addr_eta hs, addr_add]
          simp only [hrep] at hcs
          have := hcs 0 (by simp)
          simpa [Ty.size, hj2] using this
      simpa using this
    rw [run_bytesToString E.w a l.length cap l hl]
    have := ba_pushes l []
    rw [List.nil_append] at this
    rw [← this]
    rfl

theorem convert_bytes {src dst e : TypeId} {v : Value} (hs : P.underlying src = some (.slice e)) (he : P.underlying e = some (.int .u8)) (hd : P.underlying dst = some .string) (hv : ∃ a l c, v = .slice a l c) :
    (convert src dst v).run P w = (Conv.bytesToString v).run P w := by
  obtain ⟨a, l, c, rfl⟩ := hv
  exact run_convert_bytes_string w src dst e a l c hs he hd

/-- A view, seen as a list while nothing turns. -/
theorem view_list {r lo : Nat} {hi : Option Nat} {v : Value} {t : Ty} {l : List t.T} {E : Env} (hE : E.w = w ∧ (∀ b, E.ok b)) (h : Sim I w bl s tmps) (hv : Rep (I.env w bl s.hp) (.view r lo hi) v) (hr : s.hp[r]? = some (.row t l) ∨ s.hp[r]? = some (.arr t l)) :
    RepT E.w E.ok (.list t) (part l lo hi) [v] := by
  obtain ⟨rfl, hok⟩ := hE
  simp only [Rep] at hv
  obtain ⟨sz, n, h1, h2, h3, ad, cap, h4, h5, h6⟩ := hv
  have h1' : rowShape s.hp r = some (sz, n) := h1
  have : sz = t.size ∧ n = l.length := by rcases hr with hr | hr <;> (simp only [rowShape, hr, Option.some.injEq, Prod.mk.injEq] at h1'; exact ⟨h1'.1.symm, h1'.2.symm⟩)
  obtain ⟨rfl, rfl⟩ := this
  have el : part l lo hi = (l.take (lo + (hi.getD l.length - lo))).drop lo := by
    cases hi with
    | none => simp only [Option.getD_none, part] at h2 ⊢; rw [show lo + (l.length - lo) = l.length by omega, List.take_length]
    | some q => simp only [Option.getD_some, part] at h2 ⊢; rw [show lo + (q - lo) = q by omega]
  rw [el]
  rcases h6 with h6 | ⟨b, hb, ha, hs⟩
  · subst h6
    have h7 : hi.getD l.length - lo = 0 := by omega
    rw [h4, h7]
    have : (l.take (lo + 0)).drop lo = [] := by apply List.drop_eq_nil_of_le; simp; omega
    rw [this]
    exact nil_of_row (E := E) t ad
  · have hb' : bl[r]? = some (some b) := hb
    have hlt : OkLe E.w (I.ok bl) E.w E.ok := fun b _ _ => ⟨hok b, rfl⟩
    have hrow : ∃ vs e, E.w.heap[b]? = some (.cells vs e (0, 0)) ∧ RowIs E.w (I.ok bl) t l vs.toList := by
      rcases hr with hr | hr
      · have hobj := h.h.obj r _ hr
        rw [hb'] at hobj
        rcases hobj with ⟨h8, _⟩ | ⟨k, vs, e, h8, h9, h10⟩
        · cases h8
        · simp only [Option.join_some, Option.some.injEq] at h8
          subst h8
          exact ⟨vs, e, h9, h10⟩
      · have hobj := h.h.obj r _ hr
        rw [hb'] at hobj
        obtain ⟨k, vs, e, h8, h9, h10⟩ := hobj
        simp only [Option.join_some, Option.some.injEq] at h8
        subst h8
        exact ⟨vs, e, h9, h10⟩
    obtain ⟨vs, e, h9, h10⟩ := hrow
    rw [h4, ha]
    exact list_of_row (vs := vs) (e := e) (l := l) (E := E) (hok b) h9 (h10.mono hlt) (by omega) h5 _ rfl

theorem viewList_eq {r lo : Nat} {hi : Option Nat} {hp : List AO} {t : Ty} {l : List t.T} {f : Bool} (h : viewList hp r lo hi = .list t l f) : ∃ l0, (hp[r]? = some (.row t l0) ∨ hp[r]? = some (.arr t l0)) ∧ l = part l0 lo hi := by
  unfold viewList at h
  split at h
  · rename_i t0 l0 hr
    simp only [AV.list.injEq] at h
    obtain ⟨rfl, h1, _⟩ := h
    exact ⟨l0, .inl hr, (eq_of_heq h1).symm⟩
  · rename_i t0 l0 hr
    simp only [AV.list.injEq] at h
    obtain ⟨rfl, h1, _⟩ := h
    exact ⟨l0, .inr hr, (eq_of_heq h1).symm⟩
  · cases h

theorem aConvert_ok {src dst : TypeId} {x : AV} {xv : Value} (h : Sim I w bl s tmps) (hx : Rep (I.env w bl s.hp) x xv) : EffOk I w bl tmps (runV P (convert src dst xv) w) (aConvert P src dst x s) := by
  unfold aConvert
  split
  · rename_i d k k' n hu1 hu2
    simp only [Rep] at hx
    subst hx
    refine EffOk.same h (runV_ok (v := .int k (k.wrap n)) ?_) rfl
    simp [convert, run_underlying hu1, run_underlying hu2, Conv.intToInt]
  · rename_i d k' n hu1 hu2
    simp only [Rep] at hx
    subst hx
    refine EffOk.same h (runV_ok (v := .string (Utf8.encode n)) ?_) rfl
    simp [convert, run_underlying hu1, run_underlying hu2, Conv.intToString]
  · rename_i d b hu1 hu2
    simp only [Rep] at hx
    subst hx
    refine EffOk.same h (runV_ok (v := .string ⟨b.toArray⟩) ?_) rfl
    cases d <;> simp [convert, run_underlying hu1, run_underlying hu2]
  · rename_i e r lo hi hu1 hu2
    split
    · rename_i l full he hl
      obtain ⟨l0, hr, rfl⟩ := viewList_eq hl
      have hx2 := hx
      simp only [Rep] at hx2
      obtain ⟨_, _, _, _, _, ad, cap, hv, _⟩ := hx2
      have hlist := view_list (E := ⟨w, fun _ => True, bl, s.hp⟩) ⟨rfl, fun _ => trivial⟩ h hx hr
      subst hv
      refine EffOk.same h (runV_ok (v := .string ⟨((part l0 lo hi).map fun (n : Int) => UInt8.ofNat n.toNat).toArray⟩) ?_) rfl
      rw [convert_bytes hu1 he hu2 ⟨_, _, _, rfl⟩]
      exact run_bytes_list (E := ⟨w, fun _ => True, bl, s.hp⟩) hlist (fun _ => (Classical.em _).symm)
    · exact EffOk.fail
  · rename_i e l full hu1 hu2
    split
    · rename_i he
      simp only [Rep] at hx
      obtain ⟨hlist, _⟩ := hx
      have hl2 := hlist
      simp only [RepT] at hl2
      obtain ⟨ad, cap, hv, _⟩ := hl2
      simp only [List.cons.injEq, and_true] at hv
      subst hv
      refine EffOk.same h (runV_ok (v := .string ⟨(l.map fun (n : Int) => UInt8.ofNat n.toNat).toArray⟩) ?_) rfl
      rw [convert_bytes hu1 he hu2 ⟨_, _, _, rfl⟩]
      exact run_bytes_list (E := I.env w bl s.hp) hlist (fun _ => (Classical.em _).symm)
    · exact EffOk.fail
  · rename_i e hu1 hu2
    split
    · rename_i he
      simp only [Rep] at hx
      subst hx
      refine EffOk.same h (runV_ok (v := .string ⟨([] : List UInt8).toArray⟩) ?_) rfl
      rw [convert_bytes hu1 he hu2 ⟨_, _, _, rfl⟩]
      simp only [Conv.bytesToString, Sem.run_pure]
      rfl
    · exact EffOk.fail
  · exact EffOk.fail

end
end Go.Cellar
