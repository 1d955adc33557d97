/- Fields, indexes, slices, literals, over the invariant. No condition. -/
import Derived.Test.YtlhpgbaclbkjiaaDoorAbs7
import Derived.Laws.Strings2
import Derived.Laws.BytesString
set_option linter.unusedVariables false
set_option linter.unusedSimpArgs false
namespace Go.Cellar
open Go

section
variable {P : Program} {I : Inp} {w : World} {bl : List (Option Nat)} {s : St} {tmps : List Value}

theorem fieldOf_some {t : TypeId} {f : Nat} {fd : Field} (h : fieldOf P t f = some fd) : ∃ fs : Array Field, P.underlying t = some (.struct fs) ∧ fs[f]? = some fd := by
  unfold fieldOf at h
  split at h
  · exact ⟨_, by assumption, h⟩
  · cases h

theorem aFieldAddr_ok {t : TypeId} {f : Nat} {x : AV} {xv : Value} (h : Sim I w bl s tmps) (hx : Rep (I.env w bl s.hp) x xv) : EffOk I w bl tmps (runV P (Instr.fieldAt t xv f) w) (aFieldAddr P t x f s) := by
  unfold aFieldAddr
  split
  · exact EffOk.fail
  · rename_i fd hfd
    obtain ⟨fs, hu, hf⟩ := fieldOf_some hfd
    split
    · exact EffOk.fail
    · rename_i h0
      obtain ⟨i, hi, hsz⟩ := sizeT_info h0
      have hi0 : ¬ i.size = 0 := by omega
      have hrun : ∀ a : Addr, xv = .pointer (some a) → (Instr.fieldAt t xv f).run P w = .ok (.pointer (some (a.add fd.offset))) w := by
        rintro a rfl
        simp [Instr.fieldAt, run_underlying hu, hf, Instr.sureAddr, fieldPlace, sizeOf, typeInfo, hi, hi0]
      split
      · simp only [Rep] at hx
        obtain ⟨b, hb, rfl⟩ := hx
        refine EffOk.same h (runV_ok (hrun _ rfl)) ?_
        simp only [Rep]
        exact ⟨b, hb, by rw [addr_add]⟩
      · simp only [Rep] at hx
        obtain ⟨a, vs, rfl, h1, h2, h3, h4, h5⟩ := hx
        refine EffOk.same h (runV_ok (hrun _ rfl)) ?_
        simp only [Rep]
        have hea := addr_eta h1
        refine ⟨a.add fd.offset, vs.drop fd.offset, rfl, ?_, fun hne => ?_, ?_, AV.refsL_drop _ _ h4, h5.drop _⟩
        · rw [hea, addr_add]
        · have : (a.add fd.offset).block = a.block := by rw [hea, addr_add]
          rw [this]
          exact h2 (fun e => hne (by rw [e]; simp))
        · have e1 : (a.add fd.offset).block = a.block := by rw [hea, addr_add]
          have e2 : (a.add fd.offset).off = a.off + fd.offset := by rw [hea, addr_add]
          rw [e1, e2]
          have := CellsAt.sub h3 fd.offset vs.length
          rwa [List.take_of_length_le (by simp)] at this
      · simp only [Rep] at hx
        obtain ⟨b, sz, n, hb, hs, rfl⟩ := hx
        refine EffOk.same h (runV_ok (hrun _ rfl)) ?_
        simp only [Rep]
        exact ⟨b, sz, n, hb, hs, by rw [addr_add, Nat.add_assoc]⟩
      · exact EffOk.fail

theorem aField_ok {t : TypeId} {f : Nat} {x : AV} {xv : Value} (h : Sim I w bl s tmps) (hx : Rep (I.env w bl s.hp) x xv) : EffOk I w bl tmps (runV P (Instr.field t xv f) w) (aField P t x f s) := by
  unfold aField
  split
  · rename_i fd cs hfd
    obtain ⟨fs, hu, hf⟩ := fieldOf_some hfd
    split
    · rename_i hc
      simp only [Rep] at hx
      obtain ⟨vs, rfl, hr⟩ := hx
      have hl := hr.length
      have hl2 : ((vs.toList.drop fd.offset).take (sizeT P fd.type)).length = sizeT P fd.type := by simp at hl ⊢; omega
      have hp := run_part (P := P) hc.2 vs fd.offset (by simp at hl; omega) w
      refine EffOk.same h (runV_ok (v := valOf P fd.type ((vs.toList.drop fd.offset).take (sizeT P fd.type))) ?_) (mkVal_rep hc.2 ((hr.drop _).take _) hl2)
      simp only [Instr.field, Sem.run_bind, run_underlying hu, Result.andThen_ok, hf, asAgg, Sem.run_pure]
      exact hp
    · exact EffOk.fail
  · exact EffOk.fail

theorem aIndex_ok {t : TypeId} {x ix : AV} {xv iv : Value} (h : Sim I w bl s tmps) (hx : Rep (I.env w bl s.hp) x xv) (hi : Rep (I.env w bl s.hp) ix iv) : EffOk I w bl tmps (runV P (Instr.index t xv iv) w) (aIndex P t x ix s) := by
  unfold aIndex
  split
  · rename_i b k i hu
    simp only [Rep] at hx hi
    subst hx hi
    refine EffOk.needs h fun hb => ⟨runV_ok ?_, rfl⟩
    obtain ⟨h0, h1⟩ := hb
    have hn : i.toNat < b.length := by omega
    have e : (⟨b.toArray⟩ : ByteArray)[i.toNat]? = some b[i.toNat] := by
      rw [getElem?_pos _ _ (by rw [ba_size]; exact hn)]
      rfl
    simp [Instr.index, asIntOf, run_underlying hu, h0, e, List.getD_eq_getElem?_getD, hn]
  · exact EffOk.fail

theorem aIndexAddr_ok {t : TypeId} {x ix : AV} {xv iv : Value} (h : Sim I w bl s tmps) (hx : Rep (I.env w bl s.hp) x xv) (hi : Rep (I.env w bl s.hp) ix iv) : EffOk I w bl tmps (runV P (Instr.indexAt t xv iv) w) (aIndexAddr P t x ix s) := by
  unfold aIndexAddr
  split
  · rename_i e ty l full k i hu
    split
    · rename_i hc
      obtain ⟨hc1, hc2⟩ := hc
      obtain ⟨ti, hti, hsz⟩ := sizeT_info (P := P) (t := e) (by have := Ty.size_pos ty; omega)
      simp only [Rep] at hi
      subst hi
      refine EffOk.need fun hb => ?_
      obtain ⟨h0, h1⟩ := hb
      have hn : i.toNat < l.length := by omega
      have hx' := hx
      simp only [Rep, RepT] at hx
      obtain ⟨⟨ad, cap, hv, hcap, hel⟩, hfull⟩ := hx
      simp only [List.cons.injEq, and_true] at hv
      subst hv
      obtain ⟨a, cs, rfl, hs, hok, hlen, hcs, hrep⟩ := hel i.toNat hn
      have hd : l.getD i.toNat ty.dflt = l[i.toNat] := by simp [List.getD_eq_getElem?_getD, hn]
      refine EffOk.same h (runV_ok (v := .pointer (some (a.add (i.toNat * ti.size)))) ?_) ?_
      · simp [Instr.indexAt, asIntOf, run_underlying hu, h0, h1, sizeOf, typeInfo, hti]
      · rw [hd]
        simp only [Rep]
        have hea := addr_eta hs
        have e1 : (a.add (i.toNat * ti.size)) = ⟨a.block, a.off + i.toNat * ty.size, none⟩ := by rw [hea, addr_add, hsz, hc1]
        rw [e1]
        exact ⟨_, cs, rfl, rfl, fun _ => hok, hcs, Ty.refs_cells_aux ty _, RepT.toL (E := I.env w bl s.hp) ty _ _ hrep⟩
    · exact EffOk.fail
  · rename_i e r lo hi0 k i hu
    simp only [Rep] at hi
    subst hi
    have go : ∀ (ty : Ty) (l : List ty.T), (s.hp[r]? = some (.row ty l) ∨ s.hp[r]? = some (.arr ty l)) → ty.size = sizeT P e → 0 ≤ i → i + lo < ((hi0.getD l.length : Nat) : Int) →
        ∃ val, (Instr.indexAt t xv (.int k i)).run P w = .ok val w ∧ Rep (I.env w bl s.hp) (.rptr r (lo + i.toNat) 0) val := by
      intro ty l hr hc1 h0 h1
      obtain ⟨ti, hti, hsz⟩ := sizeT_info (P := P) (t := e) (by have := Ty.size_pos ty; omega)
      simp only [Rep] at hx
      obtain ⟨sz, n, hsh, hlo, hn, ad, cap, rfl, hcap, hb⟩ := hx
      have hsh' : rowShape s.hp r = some (sz, n) := hsh
      have : sz = ty.size ∧ n = l.length := by rcases hr with hr | hr <;> (simp only [rowShape, hr, Option.some.injEq, Prod.mk.injEq] at hsh'; exact ⟨hsh'.1.symm, hsh'.2.symm⟩)
      obtain ⟨rfl, rfl⟩ := this
      rcases hb with hb | ⟨b, hb, rfl, hs⟩
      · omega
      · refine ⟨.pointer (some ((⟨b, lo * ty.size, none⟩ : Addr).add (i.toNat * ti.size))), ?_, ?_⟩
        · have h2 : i < ((hi0.getD l.length - lo : Nat) : Int) := by omega
          simp [Instr.indexAt, asIntOf, run_underlying hu, h0, sizeOf, typeInfo, hti]
          omega
        · simp only [Rep]
          refine ⟨b, ty.size, l.length, hb, hsh, ?_⟩
          rw [addr_add, hsz, ← hc1, Nat.add_mul]
          simp
    split
    · rename_i ty l hr
      split
      · rename_i hc
        split
        · refine EffOk.need fun hb => ?_
          obtain ⟨val, h1, h2⟩ := go ty l (.inl hr) hc.1 hb.1 (by simpa using hb.2)
          exact EffOk.same h (runV_ok h1) h2
        · refine EffOk.need fun hb => ?_
          obtain ⟨val, h1, h2⟩ := go ty l (.inl hr) hc.1 hb.1 (by simpa using hb.2.1)
          exact EffOk.same h (runV_ok h1) h2
      · exact EffOk.fail
    · rename_i ty l hr
      split
      · rename_i hc
        split
        · refine EffOk.need fun hb => ?_
          obtain ⟨val, h1, h2⟩ := go ty l (.inr hr) hc.1 hb.1 (by simpa using hb.2)
          exact EffOk.same h (runV_ok h1) h2
        · refine EffOk.need fun hb => ?_
          obtain ⟨val, h1, h2⟩ := go ty l (.inr hr) hc.1 hb.1 (by simpa using hb.2.1)
          exact EffOk.same h (runV_ok h1) h2
      · exact EffOk.fail
    · exact EffOk.fail
  · rename_i n e r k i hu
    simp only [Rep] at hi
    subst hi
    split
    · rename_i ty l hr
      split
      · rename_i hc
        obtain ⟨hc1, hc2⟩ := hc
        obtain ⟨ti, hti, hsz⟩ := sizeT_info (P := P) (t := e) (by have := Ty.size_pos ty; omega)
        refine EffOk.need fun hb => ?_
        obtain ⟨h0, h1, h2⟩ := hb
        simp only [Rep] at hx
        obtain ⟨b, hb, rfl⟩ := hx
        refine EffOk.same h (runV_ok (v := .pointer (some ((⟨b, 0, none⟩ : Addr).add (i.toNat * ti.size)))) ?_) ?_
        · simp [Instr.indexAt, asIntOf, run_underlying hu, h0, h1, sizeOf, typeInfo, hti, Instr.sureAddr]
        · simp only [Rep]
          refine ⟨b, ty.size, l.length, hb, ?_, ?_⟩
          · show rowShape s.hp r = _
            simp [rowShape, hr]
          · rw [addr_add, hsz, ← hc1]; simp
      · exact EffOk.fail
    · exact EffOk.fail
  · exact EffOk.fail

theorem aExtract_ok {x : AV} {xv : Value} {i : Nat} (h : Sim I w bl s tmps) (hx : Rep (I.env w bl s.hp) x xv) : EffOk I w bl tmps (runV P (Instr.extract xv i) w) (aExtract x i s) := by
  unfold aExtract
  split
  · rename_i vs
    split
    · rename_i v hv
      simp only [Rep] at hx
      obtain ⟨us, rfl, hr⟩ := hx
      obtain ⟨hi, rfl⟩ := List.getElem?_eq_some_iff.mp hv
      have hl := hr.length
      have hi' : i < us.toList.length := by omega
      have hg := hr.get i hi hi'
      have hi2 : i < us.size := by simpa using hi'
      refine EffOk.same h (runV_ok (v := us[i]) ?_) (by simpa using hg)
      simp [Instr.extract, hi2]
    · exact EffOk.fail
  · exact EffOk.fail

theorem aLen_ok {t : TypeId} {ts : Array TypeId} {ty : TypeId} {x : AV} {xv : Value} {args : Array Value} (h : Sim I w bl s tmps) (hx : Rep (I.env w bl s.hp) x xv) (ht : ts[0]? = some t) (ha : args[0]? = some xv) :
    EffOk I w bl tmps (runV P (Builtin.len_ ts ty args) w) (aLen P t x s) := by
  unfold aLen
  split
  · rename_i b hu
    simp only [Rep] at hx
    subst hx
    refine EffOk.same h (runV_ok ?_) rfl
    simp [Builtin.len_, ht, ha, run_underlying hu, goInt, ba_size]
  · rename_i n e hu
    refine EffOk.same h (runV_ok ?_) rfl
    simp [Builtin.len_, ht, ha, run_underlying hu, goInt]
  · rename_i e ty l full hu
    simp only [Rep, RepT] at hx
    obtain ⟨⟨ad, cap, hv, _⟩, _⟩ := hx
    simp only [List.cons.injEq, and_true] at hv
    subst hv
    refine EffOk.same h (runV_ok ?_) rfl
    simp [Builtin.len_, ht, ha, run_underlying hu, goInt]
  · rename_i e hu
    simp only [Rep] at hx
    subst hx
    refine EffOk.same h (runV_ok ?_) rfl
    simp [Builtin.len_, ht, ha, run_underlying hu, goInt]
  · rename_i e r lo hi hu
    simp only [Rep] at hx
    obtain ⟨sz, n, hsh, hlo, hn, ad, cap, rfl, _⟩ := hx
    have hsh' : rowShape s.hp r = some (sz, n) := hsh
    have hrun : ∀ q : Int, q = ((hi.getD n - lo : Nat) : Int) → runV P (Builtin.len_ ts ty args) w = .ok (.value (.int .i64 q)) w := by
      rintro q rfl
      apply runV_ok
      simp [Builtin.len_, ht, ha, run_underlying hu, goInt]
    split
    · rename_i ty' l hr
      simp only [rowShape, hr, Option.some.injEq, Prod.mk.injEq] at hsh'
      obtain ⟨rfl, rfl⟩ := hsh'
      refine EffOk.same h (hrun _ ?_) rfl
      cases hi <;> simp at hlo hn ⊢ <;> omega
    · rename_i ty' l hr
      simp only [rowShape, hr, Option.some.injEq, Prod.mk.injEq] at hsh'
      obtain ⟨rfl, rfl⟩ := hsh'
      refine EffOk.same h (hrun _ ?_) rfl
      cases hi <;> simp at hlo hn ⊢ <;> omega
    · exact EffOk.fail
  · exact EffOk.fail

end
end Go.Cellar
