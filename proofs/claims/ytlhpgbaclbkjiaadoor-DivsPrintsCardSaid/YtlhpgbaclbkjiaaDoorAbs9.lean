/- Slicing, over the invariant. No condition. -/
import Derived.Test.YtlhpgbaclbkjiaaDoorAbs8
set_option linter.unusedVariables false
set_option linter.unusedSimpArgs false
namespace Go.Cellar
open Go

section
variable {P : Program} {I : Inp} {w : World} {bl : List (Option Nat)} {s : St} {tmps : List Value}

theorem optInt_rep {E : Env} {o : Option AV} {ov : Option Value} {q : Option Int} (h : optInt o = some q) (ho : ∀ a, o = some a → ∃ v, ov = some v ∧ Rep E a v) (hn : o = none → ov = none) :
    (q = none ∧ ov = none) ∨ ∃ k i, q = some i ∧ ov = some (.int k i) := by
  unfold optInt at h
  split at h
  · simp only [Option.some.injEq] at h
    exact .inl ⟨h.symm, hn rfl⟩
  · rename_i k i
    simp only [Option.some.injEq] at h
    obtain ⟨v, hv, hr⟩ := ho _ rfl
    simp only [Rep] at hr
    subst hr
    exact .inr ⟨k, i, h.symm, hv⟩
  · cases h

theorem run_sliceBound {k : IntKind} {i : Int} {y : Nat} {c : BoundsCode} (h0 : 0 ≤ i) (h1 : i ≤ y) : (Instr.sliceBound (.int k i) y c).run P w = .ok i.toNat w := by
  simp [Instr.sliceBound, asIntOf, h0, h1]

/-- Two bounds, either of which may lack. -/
theorem run_sliceBounds2 {isS : Bool} {len cap : Nat} {ql qh : Option Int} {lo hi : Option Value} (hl : (ql = none ∧ lo = none) ∨ ∃ k i, ql = some i ∧ lo = some (.int k i)) (hh : (qh = none ∧ hi = none) ∨ ∃ k i, qh = some i ∧ hi = some (.int k i))
    (h0 : 0 ≤ ql.getD 0) (h1 : ql.getD 0 ≤ qh.getD len) (h2 : qh.getD len ≤ cap) :
    (Instr.sliceBounds isS len cap lo hi none).run P w = .ok ((ql.getD 0).toNat, (qh.getD len).toNat, cap) w := by
  rcases hl with ⟨rfl, rfl⟩ | ⟨k, i, rfl, rfl⟩ <;> rcases hh with ⟨rfl, rfl⟩ | ⟨k', j, rfl, rfl⟩ <;> simp only [Option.getD_none, Option.getD_some] at h0 h1 h2
  · simp [Instr.sliceBounds]
  · simp [Instr.sliceBounds, run_sliceBound (P := P) (w := w) (k := k') (i := j) h1 h2]
  · simp [Instr.sliceBounds, run_sliceBound (P := P) (w := w) (k := k) (i := i) (y := len) h0 h1]
  · have e : i ≤ ((j.toNat : Nat) : Int) := by omega
    simp [Instr.sliceBounds, run_sliceBound (P := P) (w := w) (k := k') (i := j) (by omega) h2, run_sliceBound (P := P) (w := w) (k := k) (i := i) (y := j.toNat) h0 e]

/-- Three bounds. -/
theorem run_sliceBounds3 {isS : Bool} {len cap : Nat} {ql : Option Int} {qh qm : Int} {lo : Option Value} {kh km : IntKind} (hl : (ql = none ∧ lo = none) ∨ ∃ k i, ql = some i ∧ lo = some (.int k i))
    (h0 : 0 ≤ ql.getD 0) (h1 : ql.getD 0 ≤ qh) (h2 : qh ≤ qm) (h3 : qm ≤ cap) :
    (Instr.sliceBounds isS len cap lo (some (.int kh qh)) (some (.int km qm))).run P w = .ok ((ql.getD 0).toNat, qh.toNat, qm.toNat) w := by
  have e1 : qh ≤ ((qm.toNat : Nat) : Int) := by omega
  rcases hl with ⟨rfl, rfl⟩ | ⟨k, i, rfl, rfl⟩ <;> simp only [Option.getD_none, Option.getD_some] at h0 h1
  · simp [Instr.sliceBounds, run_sliceBound (P := P) (w := w) (k := km) (i := qm) (by omega) h3, run_sliceBound (P := P) (w := w) (k := kh) (i := qh) (y := qm.toNat) (by omega) e1]
  · have e : i ≤ ((qh.toNat : Nat) : Int) := by omega
    simp [Instr.sliceBounds, run_sliceBound (P := P) (w := w) (k := km) (i := qm) (by omega) h3, run_sliceBound (P := P) (w := w) (k := kh) (i := qh) (y := qm.toNat) (by omega) e1, run_sliceBound (P := P) (w := w) (k := k) (i := i) (y := qh.toNat) h0 e]

/-- A slice of a list that is there for good. -/
theorem RepT.slice {E : Env} {t : Ty} {l : List t.T} {ad : Option Addr} {len cap : Nat} (h : RepT E.w E.ok (.list t) l [.slice ad len cap]) (a b m : Nat) (h1 : a ≤ b) (h2 : b ≤ l.length) (h3 : b ≤ m) (h4 : m ≤ cap) :
    RepT E.w E.ok (.list t) ((l.take b).drop a) [.slice (if m = a then ad else ad.map (·.add (a * t.size))) (b - a) (m - a)] := by
  simp only [RepT] at h ⊢
  obtain ⟨ad', cap', hv, hcap, hel⟩ := h
  simp only [List.cons.injEq, Value.slice.injEq, and_true] at hv
  obtain ⟨rfl, rfl, rfl⟩ := hv
  have hll : ((l.take b).drop a).length = b - a := by simp; omega
  refine ⟨_, _, by rw [hll], by omega, fun i hi => ?_⟩
  obtain ⟨q, cs, h5, hs, hok, hlen, hcs, hrep⟩ := hel (a + i) (by omega)
  have hma : ¬ m = a := by omega
  have hea := addr_eta hs
  subst h5
  refine ⟨q.add (a * t.size), cs, by simp [hma], ?_, ?_, hlen, ?_, ?_⟩
  · rw [hea, addr_add]
  · rw [hea, addr_add]; exact hok
  · have e1 : (q.add (a * t.size)).block = q.block := by rw [hea, addr_add]
    have e2 : (q.add (a * t.size)).off = q.off + a * t.size := by rw [hea, addr_add]
    rw [e1, e2, Nat.add_assoc, ← Nat.add_mul]
    exact hcs
  · have : ((l.take b).drop a)[i] = l[a + i] := by simp
    rw [this]; exact hrep

theorem aSlice_ok {t : TypeId} {x : AV} {xv : Value} {lo hi mx : Option AV} {lov hiv mxv : Option Value} (h : Sim I w bl s tmps) (hx : Rep (I.env w bl s.hp) x xv)
    (hlo : ∀ a, lo = some a → ∃ v, lov = some v ∧ Rep (I.env w bl s.hp) a v) (hlo' : lo = none → lov = none)
    (hhi : ∀ a, hi = some a → ∃ v, hiv = some v ∧ Rep (I.env w bl s.hp) a v) (hhi' : hi = none → hiv = none)
    (hmx : ∀ a, mx = some a → ∃ v, mxv = some v ∧ Rep (I.env w bl s.hp) a v) (hmx' : mx = none → mxv = none) :
    EffOk I w bl tmps (runV P (Instr.sliceAt t xv lov hiv mxv) w) (aSlice P t x lo hi mx s) := by
  unfold aSlice
  split
  · -- two indexes
    rename_i ql qh e1 e2 e3
    have hl := optInt_rep e1 hlo hlo'
    have hh := optInt_rep e2 hhi hhi'
    have hm : mxv = none := by
      rcases optInt_rep e3 hmx hmx' with ⟨_, h⟩ | ⟨_, _, h, _⟩
      · exact h
      · cases h
    subst hm
    split
    · rename_i b hu
      simp only [Rep] at hx
      subst hx
      refine EffOk.need fun hb => ?_
      obtain ⟨h0, h1, h2⟩ := hb
      refine EffOk.same h (runV_ok (v := .string ⟨((b.take (qh.getD b.length).toNat).drop (ql.getD 0).toNat).toArray⟩) ?_) (by simp [Rep])
      have hb := run_sliceBounds2 (P := P) (w := w) (isS := false) (len := b.length) (cap := b.length) hl hh h0 h1 h2
      simp only [Instr.sliceAt, Sem.run_bind, run_underlying hu, Result.andThen_ok, Instr.slice]
      simp only [Option.isSome_none, Bool.false_eq_true, if_false, ba_size, Sem.run_bind, hb, Result.andThen_ok, Sem.run_pure, ByteArray.extract_mk]
      congr 4
      simp [List.drop_take]
    · rename_i e ty xs full hu
      split
      · rename_i hc
        obtain ⟨ti, hti, hsz⟩ := sizeT_info (P := P) (t := e) (by have := Ty.size_pos ty; omega)
        refine EffOk.need fun hb => ?_
        obtain ⟨h0, h1, h2⟩ := hb
        have hx' := hx
        simp only [Rep] at hx
        obtain ⟨hx, hfull⟩ := hx
        have hx2 := hx
        simp only [RepT] at hx2
        obtain ⟨ad, cap, hv, hcap, _⟩ := hx2
        simp only [List.cons.injEq, and_true] at hv
        subst hv
        have hb := run_sliceBounds2 (P := P) (w := w) (isS := true) (len := xs.length) (cap := cap) hl hh h0 h1 (by omega)
        have hb1 : (ql.getD 0).toNat ≤ (qh.getD xs.length).toNat := by omega
        refine EffOk.same h (runV_ok (v := .slice (if cap = (ql.getD 0).toNat then ad else ad.map (·.add ((ql.getD 0).toNat * ty.size))) ((qh.getD xs.length).toNat - (ql.getD 0).toNat) (cap - (ql.getD 0).toNat)) ?_) ?_
        · simp only [Instr.sliceAt, Sem.run_bind, run_underlying hu, Result.andThen_ok, Instr.slice, hb, run_sizeOf' hti, Sem.run_pure, hc]
        · simp only [Rep]
          refine ⟨RepT.slice (E := I.env w bl s.hp) hx _ _ _ hb1 (by omega) (by omega) (Nat.le_refl _), fun hf => ?_⟩
          simp only [Bool.and_eq_true] at hf
          obtain ⟨hf1, hf2⟩ := hf
          obtain ⟨ad', hf3⟩ := hfull hf1
          simp only [Value.slice.injEq] at hf3
          have hqn : qh = none := by simpa using hf2
          subst hqn
          simp only [Option.getD_none, Int.toNat_natCast]
          refine ⟨if cap = (ql.getD 0).toNat then ad else ad.map (·.add ((ql.getD 0).toNat * ty.size)), ?_⟩
          congr 1
          · simp
          · simp; omega
      · exact EffOk.fail
    · rename_i e hu
      split
      · rename_i hti0
        obtain ⟨ti, hti⟩ := Option.isSome_iff_exists.mp hti0
        refine EffOk.need fun hb => ?_
        obtain ⟨h0, h1⟩ := hb
        simp only [Rep] at hx
        subst hx
        have hb := run_sliceBounds2 (P := P) (w := w) (isS := true) (len := 0) (cap := 0) hl hh (by omega) (by simp; omega) (by simp; omega)
        refine EffOk.same h (runV_ok (v := .slice none 0 0) ?_) rfl
        simp only [Instr.sliceAt, Sem.run_bind, run_underlying hu, Result.andThen_ok, Instr.slice, hb, run_sizeOf' hti, Sem.run_pure, h0, h1]
        simp [h1]
      · exact EffOk.fail
    · rename_i e r lo0 hi0 hu
      split
      · rename_i ty xs hr
        split
        · rename_i hc
          obtain ⟨ti, hti, hsz⟩ := sizeT_info (P := P) (t := e) (by have := Ty.size_pos ty; omega)
          simp only [Rep] at hx
          obtain ⟨sz, n, hsh, hlo0, hn, ad, cap, rfl, hcap, hbk⟩ := hx
          have hsh' : rowShape s.hp r = some (sz, n) := hsh
          have hsh2 := hsh'
          simp only [rowShape, hr, Option.some.injEq, Prod.mk.injEq] at hsh2
          obtain ⟨rfl, rfl⟩ := hsh2
          have common : ∀ (b' : Nat) (hi1 : Option Nat), hi1.getD xs.length = lo0 + b' → 0 ≤ ql.getD 0 → (ql.getD 0).toNat ≤ b' → lo0 + b' ≤ hi0.getD xs.length → b' ≤ cap →
              (Instr.sliceBounds true (hi0.getD xs.length - lo0) cap lov hiv none).run P w = .ok ((ql.getD 0).toNat, b', cap) w →
              EffOk I w bl tmps (runV P (Instr.sliceAt t (.slice ad (hi0.getD xs.length - lo0) cap) lov hiv none) w) (.val (.view r (lo0 + (ql.getD 0).toNat) hi1) s) := by
            intro b' hi1 he h0 h1 h2 h3 hb
            refine EffOk.same h (runV_ok (v := .slice (if cap = (ql.getD 0).toNat then ad else ad.map (·.add ((ql.getD 0).toNat * ty.size))) (b' - (ql.getD 0).toNat) (cap - (ql.getD 0).toNat)) ?_) ?_
            · simp only [Instr.sliceAt, Sem.run_bind, run_underlying hu, Result.andThen_ok, Instr.slice, hb, run_sizeOf' hti, Sem.run_pure, hc]
            · simp only [Rep]
              refine ⟨ty.size, xs.length, hsh, by omega, by omega, _, _, by rw [he]; congr 1; omega, by omega, ?_⟩
              by_cases hz : cap = (ql.getD 0).toNat
              · left; omega
              · right
                rcases hbk with hbk | ⟨b, hb1, rfl, hb2⟩
                · omega
                · refine ⟨b, hb1, ?_, ?_⟩
                  · rw [if_neg hz, Option.map_some, addr_add, Nat.add_mul]
                  · have e : lo0 + (ql.getD 0).toNat + (cap - (ql.getD 0).toNat) = lo0 + cap := by omega
                    rw [e]; exact hb2
          split
          · -- no upper bound
            refine EffOk.need fun hb => ?_
            obtain ⟨h0, h1⟩ := hb
            have hq := run_sliceBounds2 (P := P) (w := w) (isS := true) (len := hi0.getD xs.length - lo0) (cap := cap) hl hh h0 (by simp; omega) (by simp; omega)
            refine common (hi0.getD xs.length - lo0) hi0 (by omega) h0 (by omega) (by omega) hcap ?_
            rw [hq]; simp
          · rename_i hq0
            refine EffOk.need fun hb => ?_
            obtain ⟨h0, h1, h2⟩ := hb
            have hq := run_sliceBounds2 (P := P) (w := w) (isS := true) (len := hi0.getD xs.length - lo0) (cap := cap) hl hh h0 (by simp; omega) (by simp; omega)
            refine common hq0.toNat (some (lo0 + hq0.toNat)) (by simp) h0 (by omega) (by omega) (by omega) ?_
            rw [hq]; simp
        · exact EffOk.fail
      · exact EffOk.fail
    · rename_i n e r hu
      split
      · rename_i ty xs hr
        split
        · rename_i hc
          obtain ⟨ti, hti, hsz⟩ := sizeT_info (P := P) (t := e) (by have := Ty.size_pos ty; omega)
          refine EffOk.need fun hb => ?_
          obtain ⟨hn, h0, h1, h2⟩ := hb
          have hx' := hx
          simp only [Rep] at hx
          obtain ⟨b, hb, rfl⟩ := hx
          have hb' : bl[r]? = some (some b) := hb
          have ho := h.h.obj r _ hr
          rw [hb'] at ho
          obtain ⟨k, vs, e', h5, h6, h7⟩ := ho
          simp only [Option.join_some, Option.some.injEq] at h5
          subst h5
          have hq := run_sliceBounds2 (P := P) (w := w) (isS := false) (len := n) (cap := n) hl hh h0 h1 h2
          refine EffOk.same h (runV_ok (v := .slice (some (if n = (ql.getD 0).toNat then ⟨b, 0, none⟩ else (⟨b, 0, none⟩ : Addr).add ((ql.getD 0).toNat * ti.size))) ((qh.getD n).toNat - (ql.getD 0).toNat) (n - (ql.getD 0).toNat)) ?_) ?_
          · simp only [Instr.sliceAt, Sem.run_bind, run_underlying hu, Result.andThen_ok, Instr.sureAddr, Sem.run_pure, hq, run_sizeOf' hti, hsz]
          · simp only [Rep]
            refine ⟨ty.size, xs.length, by show rowShape s.hp r = _; simp [rowShape, hr], by simp; omega, by simp; omega, _, _, rfl, by simp; omega, ?_⟩
            by_cases hz : n = (ql.getD 0).toNat
            · left; omega
            · right
              refine ⟨b, hb, ?_, ?_⟩
              · rw [if_neg hz, addr_add, hsz, ← hc]; simp
              · have h8 := h7.1
                show _ ≤ blockSize w b
                have h6' : w.heap[b]? = some (.cells vs e' (0, 0)) := h6
                rw [blockSize_of h6']
                have e : (ql.getD 0).toNat + (n - (ql.getD 0).toNat) = xs.length := by omega
                rw [e]; simpa using h8
        · exact EffOk.fail
      · exact EffOk.fail
    · exact EffOk.fail
  · -- three indexes
    rename_i ql qh qm e1 e2 e3
    have hl := optInt_rep e1 hlo hlo'
    obtain ⟨kh, hh⟩ : ∃ k, hiv = some (.int k qh) := by
      rcases optInt_rep e2 hhi hhi' with ⟨h, _⟩ | ⟨k, i, h, h'⟩
      · cases h
      · simp only [Option.some.injEq] at h; subst h; exact ⟨k, h'⟩
    obtain ⟨km, hm⟩ : ∃ k, mxv = some (.int k qm) := by
      rcases optInt_rep e3 hmx hmx' with ⟨h, _⟩ | ⟨k, i, h, h'⟩
      · cases h
      · simp only [Option.some.injEq] at h; subst h; exact ⟨k, h'⟩
    subst hh hm
    split
    · rename_i e ty xs full hu
      split
      · rename_i hc
        obtain ⟨ti, hti, hsz⟩ := sizeT_info (P := P) (t := e) (by have := Ty.size_pos ty; omega)
        refine EffOk.need fun hb => ?_
        obtain ⟨h0, h1, h2, h3⟩ := hb
        simp only [Rep] at hx
        obtain ⟨hx, hfull⟩ := hx
        have hx2 := hx
        simp only [RepT] at hx2
        obtain ⟨ad, cap, hv, hcap, _⟩ := hx2
        simp only [List.cons.injEq, and_true] at hv
        subst hv
        have hb := run_sliceBounds3 (P := P) (w := w) (isS := true) (len := xs.length) (cap := cap) (kh := kh) (km := km) (qh := qh) (qm := qm) hl h0 h1 (by omega) (by omega)
        refine EffOk.same h (runV_ok (v := .slice (if qm.toNat = (ql.getD 0).toNat then ad else ad.map (·.add ((ql.getD 0).toNat * ty.size))) (qh.toNat - (ql.getD 0).toNat) (qm.toNat - (ql.getD 0).toNat)) ?_) ?_
        · simp only [Instr.sliceAt, Sem.run_bind, run_underlying hu, Result.andThen_ok, Instr.slice, hb, run_sizeOf' hti, Sem.run_pure, hc]
        · simp only [Rep]
          refine ⟨RepT.slice (E := I.env w bl s.hp) hx _ _ _ (by omega) (by omega) (by omega) (by omega), fun _ => ?_⟩
          refine ⟨if qm.toNat = (ql.getD 0).toNat then ad else ad.map (·.add ((ql.getD 0).toNat * ty.size)), ?_⟩
          congr 1
          · simp; omega
          · simp; omega
      · exact EffOk.fail
    · rename_i e hu
      split
      · rename_i hti0
        obtain ⟨ti, hti⟩ := Option.isSome_iff_exists.mp hti0
        refine EffOk.need fun hb => ?_
        obtain ⟨h0, h1, h2⟩ := hb
        subst h1; subst h2
        simp only [Rep] at hx
        subst hx
        have hb := run_sliceBounds3 (P := P) (w := w) (isS := true) (len := 0) (cap := 0) (kh := kh) (km := km) (qh := 0) (qm := 0) hl (by omega) (by omega) (by omega) (by omega)
        refine EffOk.same h (runV_ok (v := .slice none 0 0) ?_) rfl
        simp only [Instr.sliceAt, Sem.run_bind, run_underlying hu, Result.andThen_ok, Instr.slice, hb, run_sizeOf' hti, Sem.run_pure, h0]
        simp
      · exact EffOk.fail
    · exact EffOk.fail
  · exact EffOk.fail

end
end Go.Cellar
