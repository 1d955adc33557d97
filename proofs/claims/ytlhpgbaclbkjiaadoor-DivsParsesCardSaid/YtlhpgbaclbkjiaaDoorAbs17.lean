/- Cuts and results, whole. No condition. -/
import Derived.Test.YtlhpgbaclbkjiaaDoorAbs16
set_option linter.unusedVariables false
set_option linter.unusedSimpArgs false
namespace Go.Cellar
open Go

section
variable {P : Program} {I : Inp} {w : World} {bl : List (Option Nat)} {s : St} {tmps : List Value} {hp : List AO}

theorem canon_rep {E : Env} {t : TypeId} {v : AV} {u : Value} (h : Rep E v u) : Rep E (canon P t v) u := by
  unfold canon
  split
  · rename_i ty hty
    split
    · rename_i hag
      have hag' : v.isAgg = ty.isAgg := by simpa using hag
      split
      · rename_i x hx
        have hr := Rep.of hx h
        have hl := RepT.toL (E := E) ty x _ hr
        unfold Ty.av
        cases hty2 : ty.isAgg
        · -- one cell
          rw [hty2] at hag'
          have hone : u.cells.toList = [u] := by
            have hs : v.solid = true := by
              unfold Ty.of at hx
              split at hx
              · assumption
              · cases hx
            have h1 : v.one = true := by cases v <;> simp_all [AV.one, AV.solid, AV.isAgg]
            have := one_oneCell h1 h
            cases u <;> simp_all [Value.oneCell', Value.cells]
          rw [hone] at hl
          have hlen := hl.length
          simp only
          match hc : ty.cells x, hl, hlen with
          | [a], hl, _ => obtain ⟨u', h1, h2⟩ := hl.one_inv; simp only [List.cons.injEq, and_true] at h1; subst h1; exact h2
          | [], _, hlen => simp at hlen
          | _ :: _ :: _, _, hlen => simp at hlen
        · rw [hty2] at hag'
          have : ∃ cs, v = .agg cs := by cases v <;> simp_all [AV.isAgg]
          obtain ⟨cs, rfl⟩ := this
          simp only [Rep] at h
          obtain ⟨vs, rfl, _⟩ := h
          simp only [Rep]
          exact ⟨vs, rfl, by simpa [Value.cells] using hl⟩
      · exact h
    · exact h
  · exact h

theorem canonArgs_rep {E : Env} : ∀ (ts : List TypeId) (vs : List AV) (us : List Value), RepL E vs us → RepL E (canonArgs P ts vs) us
  | [], vs, us, h => by simpa [canonArgs] using h
  | t :: ts, [], us, h => by simpa [canonArgs] using h
  | t :: ts, v :: vs, us, h => by
    simp only [RepL] at h
    obtain ⟨u, us', rfl, h1, h2⟩ := h
    exact ⟨u, us', rfl, canon_rep h1, canonArgs_rep ts vs us' h2⟩

theorem unfull_rep {E : Env} {v : AV} {u : Value} (h : Rep E v u) : Rep E (unfull v) u := by
  unfold unfull
  split
  · simp only [Rep] at h ⊢; exact ⟨h.1, by simp⟩
  · exact h

theorem unfullL_rep {E : Env} : ∀ (vs : List AV) (us : List Value), RepL E vs us → RepL E (vs.map unfull) us
  | [], us, h => by simpa using h
  | v :: vs, us, h => by
    simp only [RepL] at h
    obtain ⟨u, us', rfl, h1, h2⟩ := h
    exact ⟨u, us', rfl, unfull_rep h1, unfullL_rep vs us' h2⟩

theorem ownNil_other {t : TypeId} {ts : List TypeId} {v : AV} {vs : List AV} {hp : List AO} (h1 : v ≠ .nils) (h2 : ∀ r lo hi, v ≠ .view r lo hi) :
    ownNil P (t :: ts) (v :: vs) hp = (canon P t v :: (ownNil P ts vs hp).1, (ownNil P ts vs hp).2) := by
  cases v <;> simp_all [ownNil]

theorem ownNil_ok : ∀ (ts : List TypeId) (vs as : List AV) (hp : List AO) (bl : List (Option Nat)) (us : List Value), HSim I w bl hp → RepL (I.env w bl hp) (as ++ vs) us →
    ∃ bl', HSim I w bl' (ownNil P ts vs hp).2 ∧ RepL (I.env w bl' (ownNil P ts vs hp).2) (as ++ (ownNil P ts vs hp).1) us
  | [], vs, as, hp, bl, us, h, hr => ⟨bl, by simpa [ownNil] using h, by simpa [ownNil] using hr⟩
  | t :: ts, [], as, hp, bl, us, h, hr => ⟨bl, by simpa [ownNil] using h, by simpa [ownNil] using hr⟩
  | t :: ts, v :: vs, as, hp, bl, us, h, hr => by
    have step : ∀ (v' : AV) (hp' : List AO) (bl' : List (Option Nat)), HSim I w bl' hp' → RepL (I.env w bl' hp') (as ++ v' :: vs) us →
        ∃ bl', HSim I w bl' (ownNil P ts vs hp').2 ∧ RepL (I.env w bl' (ownNil P ts vs hp').2) (as ++ v' :: (ownNil P ts vs hp').1) us := fun v' hp' bl' h1 h2 => by
      have e : ∀ l : List AV, as ++ v' :: l = (as ++ [v']) ++ l := fun l => by simp
      rw [e] at h2
      obtain ⟨bl2, h3, h4⟩ := ownNil_ok ts vs (as ++ [v']) hp' bl' us h1 h2
      exact ⟨bl2, h3, by rw [e]; exact h4⟩
    by_cases h1 : v = .nils
    · subst h1
      have plain := step .nils hp bl h hr
      simp only [ownNil]
      split
      · split
        · rename_i e _ ty _
          obtain ⟨h5, h6⟩ := h.ghost ty
          refine step (.view hp.length 0 none) _ _ h5 ?_
          obtain ⟨us1, us2, rfl, h7, h8⟩ := hr.append_inv
          simp only [RepL, Rep] at h8
          obtain ⟨v0, us3, rfl, rfl, h9⟩ := h8
          refine (RepL.mono h6 h7).append ⟨_, us3, rfl, ?_, RepL.mono h6 h9⟩
          simp only [Rep]
          refine ⟨ty.size, 0, ?_, by simp, by simp, none, 0, by simp, Nat.le_refl _, .inl rfl⟩
          show rowShape (hp ++ [_]) hp.length = _
          simp [rowShape]
        · exact plain
      · exact plain
    · by_cases h2 : ∃ r lo hi, v = .view r lo hi
      · obtain ⟨r, lo, hi, rfl⟩ := h2
        have plain := step (.view r lo hi) hp bl h hr
        simp only [ownNil]
        exact plain
      · rw [ownNil_other h1 (fun r lo hi e => h2 ⟨r, lo, hi, e⟩)]
        refine step (canon P t v) hp bl h ?_
        obtain ⟨us1, us2, rfl, h7, h8⟩ := hr.append_inv
        simp only [RepL] at h8
        obtain ⟨v0, us3, rfl, h9, h10⟩ := h8
        exact h7.append ⟨v0, us3, rfl, canon_rep h9, h10⟩

/-! ### cuts -/

theorem RepL.setJunk {E : Env} {as : List AV} {vs : List Value} (h : RepL E as vs) (t : Nat) {a : AV} (ha : ∀ v, vs[t]? = some v → Rep E a v) : RepL E (as.set t a) vs := by
  by_cases ht : t < vs.length
  · have := h.set t (ha _ (List.getElem?_eq_getElem ht))
    rwa [List.set_getElem_self] at this
  · have hl := h.length
    rw [List.set_eq_of_length_le (by omega)]
    exact h

theorem slot {E : Env} {as : List AV} {vs : List Value} (h : RepL E as vs) {t : Nat} {a : AV} (ha : as.getD t .junk = a) : ∀ v, vs[t]? = some v → Rep E a v := by
  intro v hv
  obtain ⟨h1, rfl⟩ := List.getElem?_eq_some_iff.mp hv
  have hl := h.length
  have h2 : t < as.length := by omega
  have := h.get t h2 h1
  rw [List.getD_eq_getElem?_getD, List.getElem?_eq_getElem h2] at ha
  simp only [Option.getD_some] at ha
  rw [← ha]; exact this

theorem coerce1_ok (h : Sim I w bl s tmps) (c : Co) : ∃ bl', Sim I w bl' (coerce1 s c) tmps := by
  cases c with
  | own t ty =>
    simp only [coerce1]
    split
    · rename_i hn
      obtain ⟨h1, h2⟩ := h.h.ghost ty
      refine ⟨_, h1, ?_, h.m⟩
      refine RepL.setJunk (RepL.mono h2 h.tm) t fun v hv => ?_
      have hs := slot h.tm hn v hv
      simp only [Rep] at hs ⊢
      subst hs
      refine ⟨ty.size, 0, ?_, by simp, by simp, none, 0, by simp, Nat.le_refl _, .inl rfl⟩
      show rowShape (s.hp ++ [_]) s.hp.length = _
      simp [rowShape]
    · exact ⟨bl, h⟩
  | list t ty =>
    simp only [coerce1]
    split
    · rename_i hn
      refine ⟨bl, h.h, RepL.setJunk h.tm t fun v hv => ?_, h.m⟩
      have hs := slot h.tm hn v hv
      simp only [Rep] at hs ⊢
      subst hs
      exact ⟨nil_of_row (E := I.env w bl s.hp) ty none, by simp⟩
    · rename_i ty' l f hn
      refine ⟨bl, h.h, RepL.setJunk h.tm t fun v hv => ?_, h.m⟩
      have hs := slot h.tm hn v hv
      simp only [Rep] at hs ⊢
      exact ⟨hs.1, by simp⟩
    · rename_i r lo hi hn
      obtain ⟨bl', h1, _⟩ := h.freeze [r]
      exact ⟨bl', h1⟩
    · exact ⟨bl, h⟩
  | free t =>
    simp only [coerce1]
    obtain ⟨bl', h1, _⟩ := h.freeze (AV.refs (s.tm.getD t .junk))
    exact ⟨bl', h1⟩

theorem coerces_ok : ∀ (co : List Co) (s : St) (bl : List (Option Nat)), Sim I w bl s tmps → ∃ bl', Sim I w bl' (co.foldl coerce1 s) tmps
  | [], s, bl, h => ⟨bl, h⟩
  | c :: co, s, bl, h => by
    obtain ⟨bl1, h1⟩ := coerce1_ok h c
    exact coerces_ok co _ bl1 h1

theorem killTm_ok {E : Env} (keep : List Nat) : ∀ (as : List AV) (i : Nat) (vs : List Value), RepL E as vs → RepL E (killTm keep i as) vs
  | [], i, vs, h => by simpa [killTm] using h
  | a :: as, i, vs, h => by
    simp only [RepL] at h
    obtain ⟨v, vs', rfl, h1, h2⟩ := h
    refine ⟨v, vs', rfl, ?_, killTm_ok keep as (i + 1) vs' h2⟩
    split
    · exact h1
    · simp [Rep]

theorem pack_ok {vs : List AV} {us : List Value} {m : Nat} (h : HSim I w bl hp) (hr : RepL (I.env w bl hp) vs us) (hm : m = I.hin.length) :
    ∃ bl', HSim I w bl' (pack m vs hp).2 ∧ RepL (I.env w bl' (pack m vs hp).2) (pack m vs hp).1 us := by
  subst hm
  obtain ⟨h3, h4⟩ := h.keep (keepOk_reach hp hp.length I.hin.length (AV.refsL vs))
  have h5 := RepL.sub h4 _ _ hr
  obtain ⟨h6, h7⟩ := trimAll_ok _ [] _ _ _ h3 (by simpa using h5) (fun r => Nat.le_refl _)
  exact ⟨_, h6, h7⟩

theorem cut_ok (h : Sim I w bl s tmps) (co : List Co) (keep : List Nat) : ∃ bl', Sim I w bl' (s.cut co keep) tmps := by
  obtain ⟨bl1, h1⟩ := coerces_ok co s bl h
  have h2 := killTm_ok (E := I.env w bl1 (co.foldl coerce1 s).hp) keep _ 0 _ h1.tm
  obtain ⟨bl2, h3, h4⟩ := pack_ok h1.h h2 h1.m
  exact ⟨bl2, h3, h4, h1.m⟩

/-! ### results -/

theorem aLoad_val {t : TypeId} {a : AV} {av : Value} {v : AV} {s' : St} (h : Sim I w bl s tmps) (ha : Rep (I.env w bl s.hp) a av) (hl : aLoad P t a s = .val v s') :
    ∃ ad val, av = .pointer (some ad) ∧ (loadVar t ad).run P w = .ok val w ∧ Rep (I.env w bl s.hp) v val := by
  unfold aLoad at hl
  split at hl
  · rename_i r off
    split at hl
    · rename_i cs hr
      split at hl
      · rename_i hc
        simp only [Eff.val.injEq] at hl
        obtain ⟨rfl, _⟩ := hl
        obtain ⟨k, vs, e, hb, rfl, hk, hrep⟩ := ok_ptr h ha hr
        have hl := hrep.length
        have hl2 : ((vs.toList.drop off).take (sizeT P t)).length = sizeT P t := by simp at hl ⊢; omega
        refine ⟨_, valOf P t ((vs.toList.drop off).take (sizeT P t)), rfl, run_loadVar' hc.2 ?_ hl2, mkVal_rep hc.2 ((hrep.drop off).take _) hl2⟩
        have := (cellsAt_block hk).sub off (sizeT P t)
        simpa using this
      · cases hl
    · cases hl
  · rename_i cs
    split at hl
    · rename_i hc
      simp only [Eff.val.injEq] at hl
      obtain ⟨rfl, _⟩ := hl
      simp only [Rep] at ha
      obtain ⟨a, vs, rfl, h1, h2, h3, h4, h5⟩ := ha
      have hl := h5.length
      have hl2 : (vs.take (sizeT P t)).length = sizeT P t := by simp; omega
      refine ⟨a, valOf P t (vs.take (sizeT P t)), rfl, ?_, mkVal_rep hc.2 (h5.take _) hl2⟩
      rw [addr_eta h1]
      refine run_loadVar' hc.2 ?_ hl2
      have h6 : CellsAt w a.block (a.off + 0) ((vs.drop 0).take (sizeT P t)) := CellsAt.sub h3 0 (sizeT P t)
      simpa using h6
    · cases hl
  · split at hl
    · split at hl <;> cases hl
    · split at hl <;> cases hl
    · cases hl
  · cases hl

def resVar (tv : Array Value) : ResultVar → Sem Value
  | .tmp t => pure (tv.getD t undef)
  | .cell a t => do loadVar t (← asAddr (tv.getD a undef))

theorem results_eq (fn : Func) (tv : Array Value) : results fn tv = (do let vs ← fn.results.mapM (resVar tv); pure (if h : vs.size = 1 then vs[0] else .tuple vs)) := by
  unfold results
  congr 1

theorem results_ok {tv : Array Value} (h : Sim I w bl s tv.toList) : ∀ (rs : List ResultVar) (vs : List AV), allSome (rs.map (resultVar P s)) = some vs →
    ∃ us : List Value, (rs.mapM (m := Sem) (resVar tv)).run P w = .ok us w ∧ RepL (I.env w bl s.hp) vs us
  | [], vs, hv => by
    simp only [List.map_nil, allSome, Option.some.injEq] at hv
    subst hv
    exact ⟨[], by simp, by simp [RepL]⟩
  | r :: rs, vs, hv => by
    simp only [List.map_cons] at hv
    cases hr : resultVar P s r with
    | none => rw [hr] at hv; simp [allSome] at hv
    | some v =>
      rw [hr] at hv
      simp only [allSome] at hv
      cases hq : allSome (rs.map (resultVar P s)) with
      | none => rw [hq] at hv; simp at hv
      | some vs' =>
        rw [hq] at hv
        simp only [Option.some.injEq] at hv
        subst hv
        obtain ⟨us, h1, h2⟩ := results_ok h rs vs' hq
        cases r with
        | tmp t =>
          simp only [resultVar, Option.some.injEq] at hr
          subst hr
          refine ⟨tv.getD t undef :: us, ?_, ⟨_, us, rfl, h.tm.getD t, h2⟩⟩
          rw [List.mapM_cons]
          simp only [resVar, Sem.run_bind, Sem.run_pure, Result.andThen_ok, h1]
        | cell a t =>
          simp only [resultVar] at hr
          split at hr
          · rename_i v' s' hl
            simp only [Option.some.injEq] at hr
            subst hr
            obtain ⟨ad, val, h3, h4, h5⟩ := aLoad_val h (h.tm.getD a) hl
            refine ⟨val :: us, ?_, ⟨val, us, rfl, h5, h2⟩⟩
            rw [List.mapM_cons]
            simp only [resVar, Sem.run_bind, h3, asAddr, Sem.run_pure, Result.andThen_ok, h4, h1]
          · cases hr

theorem finish_ok {f : Nat} {fn : Func} {tv : Array Value} {res : AV} {hout : List AO} (h : Sim I w bl s tv.toList) (hf : P.funcs[f]? = some fn) (hfin : finish P f s = some (res, hout)) :
    ∃ v bl', (results fn tv).run P w = .ok v w ∧ HSim I w bl' hout ∧ Rep (I.env w bl' hout) res v := by
  unfold finish at hfin
  rw [hf] at hfin
  simp only at hfin
  cases hq : allSome (fn.results.toList.map (resultVar P s)) with
  | none => rw [hq] at hfin; simp at hfin
  | some vs =>
    rw [hq] at hfin
    simp only [Option.some.injEq] at hfin
    obtain ⟨us, h1, h2⟩ := results_ok (P := P) h fn.results.toList vs hq
    obtain ⟨bl1, h3, h4⟩ := h.frozen (addNew [] (vs.flatMap loose)) h2
    obtain ⟨bl2, h5, h6⟩ := ownNil_ok (P := P) fn.resultTypes.toList _ [] _ bl1 us h3.h (by simpa using unfullL_rep _ _ h4)
    simp only [List.nil_append] at h6
    obtain ⟨bl3, h7, h8⟩ := pack_ok h5 h6 h.m
    have hres : (results fn tv).run P w = .ok (if h : us.toArray.size = 1 then us.toArray[0] else .tuple us.toArray) w := by
      rw [results_eq, Array.mapM_eq_mapM_toList]
      simp only [Sem.run_bind, Sem.run_map, h1, Result.andThen_ok, Sem.run_pure]
    simp only [Prod.mk.injEq] at hfin
    obtain ⟨e1, e2⟩ := hfin
    rw [e2] at h7 h8
    refine ⟨_, bl3, hres, h7, ?_⟩
    rw [← e1]
    revert h8
    generalize (pack _ _ _).1 = zs
    intro h8
    have hlen := h8.length
    unfold tupOf
    split
    · rename_i v
      obtain ⟨u, rfl, hu⟩ := h8.one_inv
      simpa using hu
    · rename_i hne
      have : ¬ us.toArray.size = 1 := by
        intro hs
        have : us.length = 1 := by simpa using hs
        rw [this] at hlen
        match zs, hlen, hne with
        | [z], _, hne => exact hne z rfl
      rw [dif_neg this]
      simp only [Rep]
      exact ⟨_, rfl, by simpa using h8⟩

end
end Go.Cellar
