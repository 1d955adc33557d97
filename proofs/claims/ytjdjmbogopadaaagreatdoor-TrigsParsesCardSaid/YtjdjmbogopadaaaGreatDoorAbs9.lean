/- Slicing, over the invariant. No condition. -/
import Derived.Test.YtjdjmbogopadaaaGreatDoorAbs7

set_option linter.unusedVariables false
set_option linter.unusedSimpArgs false
namespace Go.Cellar
open Go

section
variable {P : Program} {I : Inp} {w : World} {bl : List (Option Nat)} {s : St} {tmps : List Value}

theorem optInt_rep {E : Env} {o : Option AV} {ov : Option Value} {q : Option Int} (h : optInt o = some q) (ho : ∀ a, o = some a → ∃ v, ov = some v ∧ Rep E a v) (hn : o = none → ov = none) :
    (q = none ∧ ov = none) ∨ ∃ k i, q = some i ∧ ov = some (.int k i) := by
  unfold optInt at h
  split at h
  · simp only [Option.some.injEq] at h
    exact .inl ⟨h.symm, hn rfl⟩
  · rename_i k i
    simp only [Option.some.injEq] at h
    obtain ⟨v, hv, hr⟩ := ho _ rfl
    simp only [Rep] at hr
    subst hr
    exact .inr ⟨k, i, h.symm, hv⟩
  · cases h

theorem run_sliceBound {k : IntKind} {i : Int} {y : Nat} {c : BoundsCode} (h0 : 0 ≤ i) (h1 : i ≤ y) : (Instr.sliceBound (.int k i) y c).run P w = .ok i.toNat w := by
  simp [Instr.sliceBound, asIntOf, h0, h1]

/-- Two bounds, either of which may lack. -/
theorem run_sliceBounds2 {isS : Bool} {len cap : Nat} {ql qh : Option Int} {lo hi : Option Value} (hl : (ql = none ∧ lo = none) ∨ ∃ k i, ql = some i ∧ lo = some (.int k i)) (hh : (qh = none ∧ hi = none) ∨ ∃ k i, qh = some i ∧ hi = some (.int k i))
    (h0 : 0 ≤ ql.getD 0) (h1 : ql.getD 0 ≤ qh.getD len) (h2 : qh.getD len ≤ cap) :
    (Instr.sliceBounds isS len cap lo hi none).run P w = .ok ((ql.getD 0).toNat, (qh.getD len).toNat, cap) w := by
  rcases hl with ⟨rfl, rfl⟩ | ⟨k, i, rfl, rfl⟩ <;> rcases hh with ⟨rfl, rfl⟩ | ⟨k', j, rfl, rfl⟩ <;> simp only [Option.getD_none, Option.getD_some] at h0 h1 h2
  · simp [Instr.sliceBounds]
  · simp [Instr.sliceBounds, run_sliceBound (P := P) (w := w) (k := k') (i := j) h1 h2]
  · simp [Instr.sliceBounds, run_sliceBound (P := P) (w := w) (k := k) (i := i) (y := len) h0 h1]
  · have e : i ≤ ((j.toNat : Nat) : Int) := by omega
    simp [Instr.sliceBounds, run_sliceBound (P := P) (w := w) (k := k') (i := j) (by omega) h2, run_sliceBound (P := P) (w := w) (k := k) (i := i) (y := j.toNat) h0 e]

/-- Three bounds. -/
theorem run_sliceBounds3 {isS : Bool} {len cap : Nat} {ql : Option Int} {qh qm : Int} {lo : Option Value} {kh km : IntKind} (hl : (ql = none ∧ lo = none) ∨ ∃ k i, ql = some i ∧ lo = some (.int k i))
    (h0 : 0 ≤ ql.getD 0) (h1 : ql.getD 0 ≤ qh) (h2 : qh ≤ qm) (h3 : qm ≤ cap) :
    (Instr.sliceBounds isS len cap lo (some (.int kh qh)) (some (.int km qm))).run P w = .ok ((ql.getD 0).toNat, qh.toNat, qm.toNat) w := by
  have e1 : qh ≤ ((qm.toNat : Nat) : Int) := by omega
  rcases hl with ⟨rfl, rfl⟩ | ⟨k, i, rfl, rfl⟩ <;> simp only [Option.getD_none, Option.getD_some] at h0 h1
  · simp [Instr.sliceBounds, run_sliceBound (P := P) (w := w) (k := km) (i := qm) (by omega) h3, run_sliceBound (P := P) (w := w) (k := kh) (i := qh) (y := qm.toNat) (by omega) e1]
  · have e : i ≤ ((qh.toNat : Nat) : Int) := by omega
    simp [Instr.sliceBounds, run_sliceBound (P := P) (w := w) (k := km) (i := qm) (by omega) h3, run_sliceBound (P := P) (w := w) (k := kh) (i := qh) (y := qm.toNat) (by omega) e1, run_sliceBound (P := P) (w := w) (k := k) (i := i) (y := qh.toNat) h0 e]

/-- A slice of a list that is there for good. -/
theorem RepT.slice {E : Env} {t : Ty} {l : List t.T} {ad : Option Addr} {len cap : Nat} (h : RepT E.w E.ok (.list t) l [.slice ad len cap]) (a b m : Nat) (h1 : a ≤ b) (h2 : b ≤ l.length) (h3 : b ≤ m) (h4 : m ≤ cap) :
    RepT E.w E.ok (.list t) ((l.take b).drop a) [.slice (if m = a then ad else ad.map (·.add (a * t.size))) (b - a) (m - a)] := by
  simp only [RepT] at h ⊢
  obtain ⟨ad', cap', hv, hcap, hel⟩ := h
  simp only [List.cons.injEq, Value.slice.injEq, and_true] at hv
  obtain ⟨rfl, rfl, rfl⟩ := hv
  have hll : ((l.take b).drop a).length = b - a := by simp; omega
  refine ⟨_, _, by rw [hll], by omega, fun i hi => ?_⟩
  obtain ⟨q, cs, h5, hs, hok, hlen, hcs, hrep⟩ := hel (a + i) (by omega)
  have hma : ¬ m = a := by omega
  have hea := addr_eta hs
  subst h5
  refine ⟨q.add (a * t.size), cs, by simp [hma], ?_, ?_, hlen, ?_, ?_⟩
  · rw [hea, addr_add]
  · rw [hea, addr_add]; exact hok
  · have e1 : (q.add (a * t.size)).block = q.block := by rw [hea, addr_add]
    have e2 : (q.add (a * t.size)).off = q.off + a * t.size := by rw [hea, addr_add]
    rw [e1, e2, Nat.add_assoc, ← Nat.add_mul]
    exact hcs
  · have : ((l.take b).drop a)[i] = l[a + i] := by simp
    rw [this]; exact hrep

theorem aSlice_ok {t : TypeId} {x : AV} {xv : Value} {lo hi mx : Option AV} {lov hiv mxv : Option Value} (h : Sim I w bl s tmps) (hx : Rep (I.env w bl s.hp) x xv)
    (hlo : ∀ a, lo = some a → ∃ v, lov = some v ∧ Rep (I.env w bl s.hp) a v) (hlo' : lo = none → lov = none)
    (hhi : ∀ a, hi = some a → ∃ v, hiv = some v ∧ Rep (I.env w bl s.hp) a v) (hhi' : hi = none → hiv = none)
    (hmx : ∀ a, mx = some a → ∃ v, mxv = some v ∧ Rep (I.env w bl s.hp) a v) (hmx' : mx = none → mxv = none) :
    EffOk I w bl tmps (runV P (Instr.sliceAt t xv lov hiv mxv) w) (aSlice P t x lo hi mx s) := by
  unfold aSlice
  split
  · -- two indexes
    rename_i ql qh e1 e2 e3
    have hl := optInt_rep e1 hlo hlo'
    have hh := optInt_rep e2 hhi hhi'
    have hm : mxv = none := by
      rcases optInt_rep e3 hmx hmx' with ⟨_, h⟩ | ⟨_, _, h, _⟩
      · exact h
      · cases h
    subst hm
    split
    · rename_i b hu
      simp only [Rep] at hx
      subst hx
      refine EffOk.need fun hb => ?_
      obtain ⟨h0, h1, h2⟩ := hb
      refine EffOk.same h (runV_ok (v := .string ⟨((b.take (qh.getD b.length).toNat).drop (ql.getD 0).toNat).toArray⟩) ?_) (by simp [Rep])
      have hb := run_sliceBounds2 (P := P) (w := w) (isS := false) (len := b.length) (cap := b.length) hl hh h0 h1 h2
      simp only [Instr.sliceAt, Sem.run_bind, run_underlying hu, Result.andThen_ok, Instr.slice]
      simp only [Option.isSome_none, Bool.false_eq_true, if_false, ba_size, Sem.run_bind, hb, Result.andThen_ok, Sem.run_pure, ByteArray.extract_mk]
      congr 4
      simp [List.drop_take]
    · rename_i e ty xs full hu
      split
      · rename_i hc
        obtain ⟨ti, hti, hsz⟩ := sizeT_info (P := P) (t := e) (by have := Ty.size_pos ty; omega)
        refine EffOk.need fun hb => ?_
        obtain ⟨h0, h1, h2⟩ := hb
        have hx' := hx
        simp only [Rep] at hx
        obtain ⟨hx, hfull⟩ := hx
        have hx2 := hx
        simp only [RepT] at hx2
        obtain ⟨ad, cap, hv, hcap, _⟩ := hx2
        simp only [List.cons.injEq, and_true] at hv
        subst hv
        have hb := run_sliceBounds2 (P := P) (w := w) (isS := true) (len := xs.length) (cap := cap) hl hh h0 h1 (by omega)
        have hb1 : (ql.getD 0).toNat ≤ (qh.getD xs.length).toNat := by omega
        refine EffOk.same h (runV_ok (v := .slice (if cap = (ql.getD 0).toNat then ad else ad.map (·.add ((ql.getD 0).toNat * ty.size))) ((qh.getD xs.length).toNat - (ql.getD 0).toNat) (cap - (ql.getD 0).toNat)) ?_) ?_
        · simp only [Instr.sliceAt, Sem.run_bind, run_underlying hu, Result.andThen_ok, Instr.slice, hb, run_sizeOf' hti, Sem.run_pure, hc]
        · simp only [Rep]
          refine ⟨RepT.slice (E := I.env w bl s.hp) hx _ _ _ hb1 (by omega) (by omega) (Nat.le_refl _), fun hf => ?_⟩
          simp only [Bool.and_eq_true] at hf
          obtain ⟨hf1, hf2⟩ := hf
          obtain ⟨ad', hf3⟩ := hfull hf1
          simp only [Value.slice.injEq] at hf3
          have hqn : qh = none := by simpa using hf2
          subst hqn
          simp only [Option.getD_none, Int.toNat_natCast]
          refine ⟨if cap = (ql.getD 0).toNat then ad else ad.map (·.add ((ql.getD 0).toNat * ty.size)), ?_⟩
          congr 1
          · simp
          · simp; omega
      · exact EffOk.fail
    · rename_i e hu
      split
      · rename_i hti0
        obtain ⟨ti, hti⟩ := Option.isSome_iff_exists.mp hti0
        refine EffOk.need fun hb => ?_
        obtain ⟨h0, h1⟩ := hb
        simp only [Rep] at hx
        subst hx
        have hb := run_sliceBounds2 (P := P) (w := w) (isS := true) (len := 0) (cap := 0) hl hh (by omega) (by simp; omega) (by simp; omega)
        refine EffOk.same h (runV_ok (v := .slice none 0 0) ?_) rfl
        simp only [Instr.sliceAt, Sem.run_bind, run_underlying hu, Result.andThen_ok, Instr.slice, hb, run_sizeOf' hti, Sem.run_pure, h0, h1]
        simp [h1]
      · exact EffOk.fail
    · rename_i e r lo0 hi0 hu
      split
      · rename_i ty xs hr
        split
        · rename_i hc
          obtain ⟨ti, hti, hsz⟩ := sizeT_info (P := P) (t := e) (by have := Ty.size_pos ty; omega)
          simp only [Rep] at hx
          obtain ⟨sz, n, hsh, hlo0, hn, ad, cap, rfl, hcap, hbk⟩ := hx
          have hsh' : rowShape s.hp r = some (sz, n) := hsh
          have hsh2 := hsh'
          simp only [rowShape, hr, Option.some.injEq, Prod.mk.injEq] at hsh2
          obtain ⟨rfl, rfl⟩ := hsh2
          have common : ∀ (b' : Nat) (hi1 : Option Nat), hi1.getD xs.length = lo0 + b' → 0 ≤ ql.getD 0 → (ql.getD 0).toNat ≤ b' → lo0 + b' ≤ hi0.getD xs.length → b' ≤ cap →
              (Instr.sliceBounds true (hi0.getD xs.length - lo0) cap lov hiv none).run P w = .ok ((ql.getD 0).toNat, b', cap) w →
              EffOk I w bl tmps (runV P (Instr.sliceAt t (.slice ad (hi0.getD xs.length - lo0) cap) lov hiv none) w) (.val (.view r (lo0 + (ql.getD 0).toNat) hi1) s) := by
            intro b' hi1 he h0 h1 h2 h3 hb
            refine EffOk.same h (runV_ok (v := .slice (if cap = (ql.getD 0).toNat then ad else ad.map (·.add ((ql.getD 0).toNat * ty.size))) (b' - (ql.getD 0).toNat) (cap - (ql.getD 0).toNat)) ?_) ?_
            · simp only [Instr.sliceAt, Sem.run_bind, run_underlying hu, Result.andThen_ok, Instr.slice, hb, run_sizeOf' hti, Sem.run_pure, hc]
            · simp only [Rep]
              refine ⟨ty.size, xs.length, hsh, by omega, by omega, _, _, by rw [he]; congr 1; omega, by omega, ?_⟩
              by_cases hz : cap = (ql.getD 0).toNat
              · left; omega
              · right
                rcases hbk with hbk | ⟨b, hb1, rfl, hb2⟩
                · omega
                · refine ⟨b, hb1, ?_, ?_⟩
                  · rw [if_neg hz, Option.map_some, addr_add, Nat.add_mul]
                  · have e : lo0 + (ql.getD 0).toNat + (cap - (ql.getD 0).toNat) = lo0 + cap := by omega
                    rw [e]; exact hb2
          split
          · -- no upper bound
            refine EffOk.need fun hb => ?_
            obtain ⟨h0, h1⟩ := hb
            have hq := run_sliceBounds2 (P := P) (w := w) (isS := true) (len := hi0.getD xs.length - lo0) (cap := cap) hl hh h0 (by simp; omega) (by simp; omega)
            refine common (hi0.getD xs.length - lo0) hi0 (by omega) h0 (by omega) (by omega) hcap ?_
            rw [hq]; simp
          · rename_i hq0
            refine EffOk.need fun hb => ?_
            obtain ⟨h0, h1, h2⟩ := hb
            have hq := run_sliceBounds2 (P := P) (w := w) (isS := true) (len := hi0.getD xs.length - lo0) (cap := cap) hl hh h0 (by simp; omega) (by simp; omega)
            refine common hq0.toNat (some (lo0 + hq0.toNat)) (by simp) h0 (by omega) (by omega) (by omega) ?_
            rw [hq]; simp
        · exact EffOk.fail
      · exact EffOk.fail
    · rename_i n e r hu
      split
      · rename_i ty xs hr
        split
        · rename_i hc
          obtain ⟨ti, hti, hsz⟩ := sizeT_info (P := P) (t := e) (by have := Ty.size_pos ty; omega)
          refine EffOk.need fun hb => ?_
          obtain ⟨hn, h0, h1, h2⟩ := hb
          have hx' := hx
          simp only [Rep] at hx
          obtain ⟨b, hb, rfl⟩ := hx
          have hb' : bl[r]? = some (some b) := hb
          have ho := h.h.obj r _ hr
          rw [hb'] at ho
          obtain ⟨k, vs, e', h5, h6, h7⟩ := ho
          simp only [Option.join_some, Option.some.injEq] at h5
          subst h5
          have hq := run_sliceBounds2 (P := P) (w := w) (isS := false) (len := n) (cap := n) hl hh h0 h1 h2
          refine EffOk.same h (runV_ok (v := .slice (some (if n = (ql.getD 0).toNat then ⟨b, 0, none⟩ else (⟨b, 0, none⟩ : Addr).add ((ql.getD 0).toNat * ti.size))) ((qh.getD n).toNat - (ql.getD 0).toNat) (n - (ql.getD 0).toNat)) ?_) ?_
          · simp only [Instr.sliceAt, Sem.run_bind, run_underlying hu, Result.andThen_ok, Instr.sureAddr, Sem.run_pure, hq, run_sizeOf' hti, hsz]
          · simp only [Rep]
            refine ⟨ty.size, xs.length, by show rowShape s.hp r = _; simp [rowShape, hr], by simp; omega, by simp; omega, _, _, rfl, by simp; omega, ?_⟩
            by_cases hz : n = (ql.getD 0).toNat
            · left; omega
            · right
              refine ⟨b, hb, ?_, ?_⟩
              · rw [if_neg hz, addr_add, hsz, ← hc]; simp
              · have h8 := h7.1
                show _ ≤ blockSize w b
                have h6' : w.heap[b]? = some (.cells vs e' (0, 0)) := h6
                rw [blockSize_of h6']
                have e : (ql.getD 0).toNat + (n - (ql.getD 0).toNat) = xs.length := by omega
                rw [e]; simpa using h8
        · exact EffOk.fail
      · exact EffOk.fail
    · exact EffOk.fail
  · -- three indexes
    rename_i ql qh qm e1 e2 e3
    have hl := optInt_rep e1 hlo hlo'
    obtain ⟨kh, hh⟩ : ∃ k, hiv = some (.int k qh) := by
      rcases optInt_rep e2 hhi hhi' with ⟨h, _⟩ | ⟨k, i, h, h'⟩
      · cases h
      · simp only [Option.some.injEq] at h; subst h; exact ⟨k, h'⟩
    obtain ⟨km, hm⟩ : ∃ k, mxv = some (.int k qm) := by
      rcases optInt_rep e3 hmx hmx' with ⟨h, _⟩ | ⟨k, i, h, h'⟩
      · cases h
      · simp only [Option.some.injEq] at h; subst h; exact ⟨k, h'⟩
    subst hh hm
    split
    · rename_i e ty xs full hu
      split
      · rename_i hc
        obtain ⟨ti, hti, hsz⟩ := sizeT_info (P := P) (t := e) (by have := Ty.size_pos ty; omega)
        refine EffOk.need fun hb => ?_
        obtain ⟨h0, h1, h2, h3⟩ := hb
        simp only [Rep] at hx
        obtain ⟨hx, hfull⟩ := hx
        have hx2 := hx
        simp only [RepT] at hx2
        obtain ⟨ad, cap, hv, hcap, _⟩ := hx2
        simp only [List.cons.injEq, and_true] at hv
        subst hv
        have hb := run_sliceBounds3 (P := P) (w := w) (isS := true) (len := xs.length) (cap := cap) (kh := kh) (km := km) (qh := qh) (qm := qm) hl h0 h1 (by omega) (by omega)
        refine EffOk.same h (runV_ok (v := .slice (if qm.toNat = (ql.getD 0).toNat then ad else ad.map (·.add ((ql.getD 0).toNat * ty.size))) (qh.toNat - (ql.getD 0).toNat) (qm.toNat - (ql.getD 0).toNat)) ?_) ?_
        · simp only [Instr.sliceAt, Sem.run_bind, run_underlying hu, Result.andThen_ok, Instr.slice, hb, run_sizeOf' hti, Sem.run_pure, hc]
        · simp only [Rep]
          refine ⟨RepT.slice (E := I.env w bl s.hp) hx _ _ _ (by omega) (by omega) (by omega) (by omega), fun _ => ?_⟩
          refine ⟨if qm.toNat = (ql.getD 0).toNat then ad else ad.map (·.add ((ql.getD 0).toNat * ty.size)), ?_⟩
          congr 1
          · simp; omega
          · simp; omega
      · exact EffOk.fail
    · rename_i e hu
      split
      · rename_i hti0
        obtain ⟨ti, hti⟩ := Option.isSome_iff_exists.mp hti0
        refine EffOk.need fun hb => ?_
        obtain ⟨h0, h1, h2⟩ := hb
        subst h1; subst h2
        simp only [Rep] at hx
        subst hx
        have hb := run_sliceBounds3 (P := P) (w := w) (isS := true) (len := 0) (cap := 0) (kh := kh) (km := km) (qh := 0) (qm := 0) hl (by omega) (by omega) (by omega) (by omega)
        refine EffOk.same h (runV_ok (v := .slice none 0 0) ?_) rfl
        simp only [Instr.sliceAt, Sem.run_bind, run_underlying hu, Result.andThen_ok, Instr.slice, hb, run_sizeOf' hti, Sem.run_pure, h0]
        simp
      · exact EffOk.fail
    · exact EffOk.fail
  · exact EffOk.fail

end
end Go.Cellar

/- Made and built values, conversions, appends, over the invariant. No condition. -/
set_option linter.unusedVariables false
set_option linter.unusedSimpArgs false
namespace Go.Cellar
open Go

section
variable {P : Program} {I : Inp} {w : World} {bl : List (Option Nat)} {s : St} {tmps : List Value}

theorem made_flatten (z : Array Value) (c n : Nat) (hn : n ≤ c) {ok : Nat → Prop} {t : Ty} (hz : z.size = t.size) (hr : RepT w ok t t.dflt z.toList) : RowIs w ok t (List.replicate n t.dflt) (madeCells z (c * t.size)).toList := by
  refine ⟨?_, fun i hi => ?_⟩
  · simp [madeCells]; exact Nat.mul_le_mul_right _ hn
  · simp only [List.length_replicate] at hi
    have e : ((madeCells z (c * t.size)).toList.drop (i * t.size)).take t.size = z.toList := by
      apply List.ext_getElem?
      intro j
      simp only [List.getElem?_take, List.getElem?_drop]
      by_cases hj : j < t.size
      · have h1 := mul_le_of_lt (s := t.size) (show i < c by omega)
        have h2 : i * t.size + j < c * t.size := by omega
        have h3 : (i * t.size + j) % z.size = j := by
          rw [hz, Nat.mul_comm, Nat.mul_add_mod]; exact Nat.mod_eq_of_lt hj
        have h4 : j < z.size := by omega
        simp only [hj, if_true]
        simp [madeCells, h2, h3, h4]
      · have : z.toList.length ≤ j := by simp; omega
        simp [hj, List.getElem?_eq_none this]
    rw [e]
    simpa using hr

theorem zeroIs_ok {e : TypeId} {ty : Ty} (h : zeroIs P e ty = true) {w : World} {ok : Nat → Prop} : ∃ i z, P.info? e = some i ∧ i.zero = some z ∧ RepT w ok ty ty.dflt z.cells.toList := by
  unfold zeroIs at h
  split at h
  · rename_i i hi
    split at h
    · rename_i z hz
      split at h
      · rename_i hd
        obtain ⟨a, ha, hr⟩ := dfltOk_ok (w := w) (ok := ok) ty _ _ hd
        rw [List.append_nil] at ha
        exact ⟨i, z, hi, hz, by rw [ha]; exact hr⟩
      · cases h
    · cases h
  · cases h

theorem aMakeSlice_ok {t : TypeId} {x y : AV} {xv yv : Value} (h : Sim I w bl s tmps) (hx : Rep (I.env w bl s.hp) x xv) (hy : Rep (I.env w bl s.hp) y yv) : EffOk I w bl tmps (runV P (Instr.makeSlice t xv yv) w) (aMakeSlice P t x y s) := by
  unfold aMakeSlice
  split
  · rename_i e kn n kc c hu
    split
    · rename_i ty hty
      split
      · rename_i hc
        obtain ⟨hc1, hc2, hc3⟩ := hc
        simp only [Rep] at hx hy
        subst hx hy
        refine EffOk.need fun hb => ?_
        obtain ⟨h0, h1, h2, h3⟩ := hb
        obtain ⟨i, z, hi, hz, _⟩ := zeroIs_ok hc3 (w := w) (ok := I.ok bl)
        have hb : bytesT P e = i.bytes := by simp [bytesT, hi]
        have hsz : i.size = ty.size := by rw [hc1]; simp [sizeT, hi]
        have hrun := run_make (P := P) w t e i z hu hi hz kn kc n c h0 h1 (by rw [hb] at h3; omega) (by omega)
        rintro v s' ⟨rfl, rfl⟩
        obtain ⟨h4, h5⟩ := h.alloc (.cells (madeCells z.cells (c.toNat * i.size)) e) (.row ty (List.replicate n.toNat ty.dflt)) fun _ => .inr ⟨_, _, e, rfl, heap_alloc_new, by
          obtain ⟨i', z', hi', hz', hr⟩ := zeroIs_ok hc3 (w := w.alloc (.cells (madeCells z.cells (c.toNat * i.size)) e)) (ok := I.ok (bl ++ [some w.heap.size]))
          rw [hi] at hi'; simp only [Option.some.injEq] at hi'; subst hi'
          rw [hz] at hz'; simp only [Option.some.injEq] at hz'; subst hz'
          have hm := made_flatten z.cells c.toNat n.toNat (by omega) (by have := hr.length; simpa using this) hr
          rw [← hsz] at hm
          exact hm⟩
        refine ⟨_, _, _, .inl (runV_ok hrun), h4, ?_⟩
        simp only [Rep]
        refine ⟨ty.size, n.toNat, ?_, by simp, by simp, _, _, rfl, by simp; omega, .inr ⟨w.heap.size, ?_, by simp, ?_⟩⟩
        · show rowShape (s.hp ++ [_]) s.hp.length = _
          simp [rowShape]
        · show (bl ++ [some w.heap.size])[s.hp.length]? = _
          rw [← h.len]; simp
        · show _ ≤ blockSize (w.alloc _) w.heap.size
          rw [blockSize_of heap_alloc_new]
          simp [size_madeCells, hsz]
      · exact EffOk.fail
    · exact EffOk.fail
  · exact EffOk.fail

/-! ### conversions -/

theorem u8row_values {ok : Nat → Prop} : ∀ (l : List Int) (vs : List Value), RowIs w ok (.int .u8) l vs → vs.take l.length = l.map (Value.int .u8) := by
  intro l vs h
  apply List.ext_getElem?
  intro i
  simp only [List.getElem?_take, List.getElem?_map]
  by_cases hi : i < l.length
  · have h1 := h.2 i hi
    have h0 := h.1
    simp only [RepT, Ty.size, Nat.mul_one] at h1 h0
    have : vs[i]? = some (.int .u8 l[i]) := by
      have := congrArg (·[0]?) h1
      simpa using this
    simp [hi, this]
  · simp [hi]

theorem ba_pushes (l : List Int) : ∀ (a : List UInt8), l.foldl (fun (r : ByteArray) n => r.push (UInt8.ofNat n.toNat)) ⟨a.toArray⟩ = ⟨(a ++ l.map fun n => UInt8.ofNat n.toNat).toArray⟩ := by
  induction l with
  | nil => intro a; simp
  | cons n l ih =>
    intro a
    have e : (⟨a.toArray⟩ : ByteArray).push (UInt8.ofNat n.toNat) = ⟨(a ++ [UInt8.ofNat n.toNat]).toArray⟩ := by
      apply ByteArray.ext
      simp [ByteArray.push]
    rw [List.foldl_cons, e, ih]
    simp

theorem run_bytes_list {E : Env} {l : List Int} {ad : Option Addr} {len cap : Nat} (h : RepT E.w E.ok (.list (.int .u8)) l [.slice ad len cap]) (hn : l = [] → ad ≠ none ∨ ad = none) :
    (Conv.bytesToString (.slice ad len cap)).run P E.w = .ok (.string ⟨(l.map fun n => UInt8.ofNat n.toNat).toArray⟩) E.w := by
  simp only [RepT] at h
  obtain ⟨ad', cap', hv, hcap, hel⟩ := h
  simp only [List.cons.injEq, Value.slice.injEq, and_true] at hv
  obtain ⟨rfl, rfl, rfl⟩ := hv
  cases ad with
  | none =>
    have : l = [] := by
      cases l with
      | nil => rfl
      | cons x l => obtain ⟨a, _, h1, _⟩ := hel 0 (by simp); cases h1
    subst this
    simp only [Conv.bytesToString, Sem.run_pure, List.map_nil]
    rfl
  | some a =>
    have hl : (loadCells a l.length).run P E.w = .ok (l.map (Value.int .u8)).toArray E.w := by
      have := run_loadCells_list (P := P) E.w a (l.map (Value.int .u8)) fun j v hv => by
        rw [List.getElem?_map] at hv
        cases hj : l[j]? with
        | none => simp [hj] at hv
        | some n =>
          obtain ⟨hj1, hj2⟩ := List.getElem?_eq_some_iff.mp hj
          rw [hj] at hv
          simp only [Option.map_some, Option.some.injEq] at hv
          subst hv
          obtain ⟨q, cs, h1, hs, hok, hlen, hcs, hrep⟩ := hel j hj1
          simp only [Option.some.injEq] at h1
          subst h1
          rw [addr_eta hs, addr_add]
          simp only [hrep] at hcs
          have := hcs 0 (by simp)
          simpa [Ty.size, hj2] using this
      simpa using this
    rw [run_bytesToString E.w a l.length cap l hl]
    have := ba_pushes l []
    rw [List.nil_append] at this
    rw [← this]
    rfl

theorem convert_bytes {src dst e : TypeId} {v : Value} (hs : P.underlying src = some (.slice e)) (he : P.underlying e = some (.int .u8)) (hd : P.underlying dst = some .string) (hv : ∃ a l c, v = .slice a l c) :
    (convert src dst v).run P w = (Conv.bytesToString v).run P w := by
  obtain ⟨a, l, c, rfl⟩ := hv
  exact run_convert_bytes_string w src dst e a l c hs he hd

/-- A view, seen as a list while nothing turns. -/
theorem view_list {r lo : Nat} {hi : Option Nat} {v : Value} {t : Ty} {l : List t.T} {E : Env} (hE : E.w = w ∧ (∀ b, E.ok b)) (h : Sim I w bl s tmps) (hv : Rep (I.env w bl s.hp) (.view r lo hi) v) (hr : s.hp[r]? = some (.row t l) ∨ s.hp[r]? = some (.arr t l)) :
    RepT E.w E.ok (.list t) (part l lo hi) [v] := by
  obtain ⟨rfl, hok⟩ := hE
  simp only [Rep] at hv
  obtain ⟨sz, n, h1, h2, h3, ad, cap, h4, h5, h6⟩ := hv
  have h1' : rowShape s.hp r = some (sz, n) := h1
  have : sz = t.size ∧ n = l.length := by rcases hr with hr | hr <;> (simp only [rowShape, hr, Option.some.injEq, Prod.mk.injEq] at h1'; exact ⟨h1'.1.symm, h1'.2.symm⟩)
  obtain ⟨rfl, rfl⟩ := this
  have el : part l lo hi = (l.take (lo + (hi.getD l.length - lo))).drop lo := by
    cases hi with
    | none => simp only [Option.getD_none, part] at h2 ⊢; rw [show lo + (l.length - lo) = l.length by omega, List.take_length]
    | some q => simp only [Option.getD_some, part] at h2 ⊢; rw [show lo + (q - lo) = q by omega]
  rw [el]
  rcases h6 with h6 | ⟨b, hb, ha, hs⟩
  · subst h6
    have h7 : hi.getD l.length - lo = 0 := by omega
    rw [h4, h7]
    have : (l.take (lo + 0)).drop lo = [] := by apply List.drop_eq_nil_of_le; simp; omega
    rw [this]
    exact nil_of_row (E := E) t ad
  · have hb' : bl[r]? = some (some b) := hb
    have hlt : OkLe E.w (I.ok bl) E.w E.ok := fun b _ _ => ⟨hok b, rfl⟩
    have hrow : ∃ vs e, E.w.heap[b]? = some (.cells vs e (0, 0)) ∧ RowIs E.w (I.ok bl) t l vs.toList := by
      rcases hr with hr | hr
      · have hobj := h.h.obj r _ hr
        rw [hb'] at hobj
        rcases hobj with ⟨h8, _⟩ | ⟨k, vs, e, h8, h9, h10⟩
        · cases h8
        · simp only [Option.join_some, Option.some.injEq] at h8
          subst h8
          exact ⟨vs, e, h9, h10⟩
      · have hobj := h.h.obj r _ hr
        rw [hb'] at hobj
        obtain ⟨k, vs, e, h8, h9, h10⟩ := hobj
        simp only [Option.join_some, Option.some.injEq] at h8
        subst h8
        exact ⟨vs, e, h9, h10⟩
    obtain ⟨vs, e, h9, h10⟩ := hrow
    rw [h4, ha]
    exact list_of_row (vs := vs) (e := e) (l := l) (E := E) (hok b) h9 (h10.mono hlt) (by omega) h5 _ rfl

theorem viewList_eq {r lo : Nat} {hi : Option Nat} {hp : List AO} {t : Ty} {l : List t.T} {f : Bool} (h : viewList hp r lo hi = .list t l f) : ∃ l0, (hp[r]? = some (.row t l0) ∨ hp[r]? = some (.arr t l0)) ∧ l = part l0 lo hi := by
  unfold viewList at h
  split at h
  · rename_i t0 l0 hr
    simp only [AV.list.injEq] at h
    obtain ⟨rfl, h1, _⟩ := h
    exact ⟨l0, .inl hr, (eq_of_heq h1).symm⟩
  · rename_i t0 l0 hr
    simp only [AV.list.injEq] at h
    obtain ⟨rfl, h1, _⟩ := h
    exact ⟨l0, .inr hr, (eq_of_heq h1).symm⟩
  · cases h

theorem aConvert_ok {src dst : TypeId} {x : AV} {xv : Value} (h : Sim I w bl s tmps) (hx : Rep (I.env w bl s.hp) x xv) : EffOk I w bl tmps (runV P (convert src dst xv) w) (aConvert P src dst x s) := by
  unfold aConvert
  split
  · rename_i d k k' n hu1 hu2
    simp only [Rep] at hx
    subst hx
    refine EffOk.same h (runV_ok (v := .int k (k.wrap n)) ?_) rfl
    simp [convert, run_underlying hu1, run_underlying hu2, Conv.intToInt]
  · rename_i d k' n hu1 hu2
    simp only [Rep] at hx
    subst hx
    refine EffOk.same h (runV_ok (v := .string (Utf8.encode n)) ?_) rfl
    simp [convert, run_underlying hu1, run_underlying hu2, Conv.intToString]
  · rename_i d b hu1 hu2
    simp only [Rep] at hx
    subst hx
    refine EffOk.same h (runV_ok (v := .string ⟨b.toArray⟩) ?_) rfl
    cases d <;> simp [convert, run_underlying hu1, run_underlying hu2]
  · rename_i e r lo hi hu1 hu2
    split
    · rename_i l full he hl
      obtain ⟨l0, hr, rfl⟩ := viewList_eq hl
      have hx2 := hx
      simp only [Rep] at hx2
      obtain ⟨_, _, _, _, _, ad, cap, hv, _⟩ := hx2
      have hlist := view_list (E := ⟨w, fun _ => True, bl, s.hp⟩) ⟨rfl, fun _ => trivial⟩ h hx hr
      subst hv
      refine EffOk.same h (runV_ok (v := .string ⟨((part l0 lo hi).map fun (n : Int) => UInt8.ofNat n.toNat).toArray⟩) ?_) rfl
      rw [convert_bytes hu1 he hu2 ⟨_, _, _, rfl⟩]
      exact run_bytes_list (E := ⟨w, fun _ => True, bl, s.hp⟩) hlist (fun _ => (Classical.em _).symm)
    · exact EffOk.fail
  · rename_i e l full hu1 hu2
    split
    · rename_i he
      simp only [Rep] at hx
      obtain ⟨hlist, _⟩ := hx
      have hl2 := hlist
      simp only [RepT] at hl2
      obtain ⟨ad, cap, hv, _⟩ := hl2
      simp only [List.cons.injEq, and_true] at hv
      subst hv
      refine EffOk.same h (runV_ok (v := .string ⟨(l.map fun (n : Int) => UInt8.ofNat n.toNat).toArray⟩) ?_) rfl
      rw [convert_bytes hu1 he hu2 ⟨_, _, _, rfl⟩]
      exact run_bytes_list (E := I.env w bl s.hp) hlist (fun _ => (Classical.em _).symm)
    · exact EffOk.fail
  · rename_i e hu1 hu2
    split
    · rename_i he
      simp only [Rep] at hx
      subst hx
      refine EffOk.same h (runV_ok (v := .string ⟨([] : List UInt8).toArray⟩) ?_) rfl
      rw [convert_bytes hu1 he hu2 ⟨_, _, _, rfl⟩]
      simp only [Conv.bytesToString, Sem.run_pure]
      rfl
    · exact EffOk.fail
  · exact EffOk.fail

end
end Go.Cellar
