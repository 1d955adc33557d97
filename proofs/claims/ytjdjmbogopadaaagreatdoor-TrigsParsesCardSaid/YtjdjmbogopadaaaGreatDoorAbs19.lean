/- The one theorem on steps: where a step of the abstract machine goes well, so does the machine. No condition. -/
import Derived.Test.YtjdjmbogopadaaaGreatDoorAbs18
set_option linter.unusedVariables false
set_option linter.unusedSimpArgs false
namespace Go.Cellar
open Go

/-- A call in a region that draws its order stands where it may. -/
def Site.calm (k : Site) (res : AV) (hout : List AO) : Prop :=
  match k.mode with
  | .dcall ops i m => callCls res hout = 0 ∨ allowed ops m i [] 0 (callCls res hout) = true
  | .dbor ops i m => borCls res hout = 2 ∨ allowed ops m i [] 0 4 = true
  | _ => True

/-- What is owed of a step. -/
def Step.goes (P : Program) (f : Nat) (res : AV) (hout : List AO) : Step → Prop
  | .next c => Goes P f c res hout
  | .cond b c1 c2 => Goes P f (match b with | true => c1 | false => c2) res hout
  | .both p c1 c2 => (p = true → Goes P f c1 res hout) ∧ Goes P f c2 res hout
  | .need p c => p ∧ Goes P f c res hout
  | .call g args hin k => ∃ r h, Con P g args hin r h ∧ k.calm r h ∧ Goes P f (k.resume r h) res hout
  | .loop c => Goes P f c res hout
  | .ret s => finish P f s = some (res, hout)
  | .fail _ => False

section
variable {P : Program} {f : Nat} {res : AV} {hout : List AO}

theorem said_id {s : St} {d : Nat} {b : Bool} (h : s.tm.getD d .junk = .bool b) : (⟨s.tm.set d (.bool b), s.hp, s.m⟩ : St) = s := by
  have : s.tm.set d (.bool b) = s.tm := by
    apply List.ext_getElem?
    intro i
    by_cases hi : i = d
    · subst hi
      by_cases hl : i < s.tm.length
      · rw [List.getElem?_set_self hl, List.getElem?_eq_getElem hl]
        rw [List.getD_eq_getElem?_getD, List.getElem?_eq_getElem hl] at h
        simp only [Option.getD_some] at h
        rw [h]
      · simp [List.getElem?_eq_none (Nat.le_of_not_lt hl), hl]
    · rw [List.getElem?_set_ne (Ne.symm hi)]
  rw [this]

theorem slot_val {I : Inp} {w : World} {bl : List (Option Nat)} {s : St} {tv : Array Value} (h : Sim I w bl s tv.toList) {d : Nat} {a : AV} (ha : s.tm.getD d .junk = a) (hne : a ≠ .junk) : ∃ v, tv[d]? = some v ∧ Rep (I.env w bl s.hp) a v := by
  have hl := h.tm.length
  by_cases hd : d < s.tm.length
  · have hd' : d < tv.size := by simp at hl; omega
    refine ⟨tv[d], by simp [hd'], ?_⟩
    exact slot h.tm (by
      rw [List.getD_eq_getElem?_getD, List.getElem?_eq_getElem hd] at ha ⊢
      simp only [Option.getD_some] at ha ⊢
      exact ha) _ (by simp [hd'])
  · rw [List.getD_eq_getElem?_getD, List.getElem?_eq_none (Nat.le_of_not_lt hd)] at ha
    exact absurd ha.symm hne

theorem guard_wanted {I : Inp} {w : World} {bl : List (Option Nat)} {s : St} {tv : Array Value} {ops : Array Oper} {o : Oper} (h : Sim I w bl s tv.toList) {b : Bool} (hg : GuardIs ops o s b) : Region.wanted o (yielded ops tv) = b := by
  cases b with
  | true =>
    rcases hg with hg | ⟨j, want, g, d, h1, h2, h3, h4⟩
    · simp [Region.wanted, hg]
    · obtain ⟨v, h5, h6⟩ := slot_val h h4 (by simp)
      simp only [Rep] at h6
      subst h6
      simp [Region.wanted, h1, yielded, h2, h3, h5]
  | false =>
    obtain ⟨j, want, g, d, h1, h2, h3, h4⟩ := hg
    rcases h4 with h4 | h4
    · obtain ⟨v, h5, h6⟩ := slot_val h h4 (by simp)
      simp only [Rep] at h6
      subst h6
      cases want <;> simp [Region.wanted, h1, yielded, h2, h3, h5]
    · obtain ⟨v, h5, h6⟩ := slot_val h h4 (by simp)
      simp only [Rep, RepL] at h6
      obtain ⟨vs, rfl, _⟩ := h6
      simp [Region.wanted, h1, yielded, h2, h3, h5]

/-- One operation, its guard met. -/
theorem op_ends {I : Inp} {w : World} {bl : List (Option Nat)} {s : St} {tv : Array Value} {b : Frame} {cs : List Frame} {ops : Array Oper} {i : Nat} {r : List Nat} {k : List Item} {o : Oper} (hf : b.fn = f) (hk : b.kind = .normal) (h : Sim I w bl s tv.toList) (hG : GlobOk P I)
    (ho : ops[i]? = some o) (hw : Region.wanted o (yielded ops tv) = true) (hg : (opStep P o .run (.inRegion ops r :: k) s).goes P f res hout) :
    Ends P f I (lone (b.at ⟨tv, []⟩ (.inRegion ops (i :: r) :: k)) cs w) cs res hout := by
  have key : ∀ (v : AV) (s' : St), (aOp P o s).gives v s' → Leads P f (.inRegion ops r :: k) (s'.put o.dst v) res hout → Ends P f I (lone (b.at ⟨tv, []⟩ (.inRegion ops (i :: r) :: k)) cs w) cs res hout := by
    intro v s' hgv hl
    obtain ⟨val, w', bl', hy, hS, hr⟩ := aOp_ok (P := P) (o := o) h v s' hgv
    have hstep := step_op_value (P := P) (b := b) (k := k) (cs := cs) (rest := r) (a := ⟨tv, []⟩) ho hw hy
    rw [act_put] at hstep
    exact Ends.head (.one hstep) (hl I w' bl' _ b cs hf hk (put_sim hS o.dst hr) hG)
  unfold opStep at hg
  cases he : aOp P o s with
  | val v s' => rw [he] at hg; exact key v s' (by rw [he]; exact ⟨rfl, rfl⟩) hg
  | need p v s' => rw [he] at hg; exact key v s' (by rw [he]; exact ⟨hg.1, rfl, rfl⟩) hg.2
  | ask t v1 v2 s' =>
    rw [he] at hg
    cases t with
    | true => exact key v1 s' (by rw [he]; exact ⟨rfl, rfl⟩) hg
    | false => exact key v2 s' (by rw [he]; exact ⟨rfl, rfl⟩) hg
  | enter g args =>
    rw [he] at hg
    simp only at hg
    obtain ⟨vals, h1, h2⟩ := aOp_enter h he
    cases hc : callStep P .run (.inRegion ops r :: k) s o.dst g args with
    | call g' args' hin st =>
      rw [hc] at hg
      obtain ⟨r1, h3, hcon, _, hgo⟩ := hg
      have hg' : g' = g ∧ st.mode = .run ∧ st.todo = .inRegion ops r :: k ∧ st.dst = o.dst := by
        unfold callStep at hc
        split at hc
        · cases hc
        · dsimp only at hc
          split at hc
          · cases hc
          · simp only [Step.call.injEq] at hc
            obtain ⟨e1, _, _, e2⟩ := hc
            exact ⟨e1.symm, by rw [← e2], by rw [← e2], by rw [← e2]⟩
      obtain ⟨rfl, hm, htd, hd⟩ := hg'
      have hcalls := call_ok (P := P) h h2 hc hcon hG
      obtain ⟨v, w2, ⟨bl', hS, hr⟩, hsteps⟩ := steps_call (P := P) (b := b) (a := ⟨tv, []⟩) (k := k) (cs := cs) (rest := r) ho hw h1 hcalls
      rw [act_put] at hsteps
      unfold Site.resume Goes at hgo
      rw [hm, htd, hd] at hgo
      exact Ends.head hsteps (hgo I w2 bl' _ b cs hf hk (put_sim hS o.dst hr) hG)
    | next c => unfold callStep at hc; split at hc <;> first | (cases hc; done) | (dsimp only at hc; split at hc <;> cases hc)
    | cond _ _ _ => unfold callStep at hc; split at hc <;> first | (cases hc; done) | (dsimp only at hc; split at hc <;> cases hc)
    | both _ _ _ => unfold callStep at hc; split at hc <;> first | (cases hc; done) | (dsimp only at hc; split at hc <;> cases hc)
    | need _ _ => unfold callStep at hc; split at hc <;> first | (cases hc; done) | (dsimp only at hc; split at hc <;> cases hc)
    | loop _ => unfold callStep at hc; split at hc <;> first | (cases hc; done) | (dsimp only at hc; split at hc <;> cases hc)
    | ret _ => unfold callStep at hc; split at hc <;> first | (cases hc; done) | (dsimp only at hc; split at hc <;> cases hc)
    | fail _ => rw [hc] at hg; exact hg.elim
  | fail => rw [he] at hg; exact hg.elim

theorem skip_ends {I : Inp} {w : World} {bl : List (Option Nat)} {s : St} {tv : Array Value} {b : Frame} {cs : List Frame} {ops : Array Oper} {i : Nat} {r : List Nat} {k : List Item} {o : Oper} (hf : b.fn = f) (hk : b.kind = .normal) (h : Sim I w bl s tv.toList) (hG : GlobOk P I)
    (ho : ops[i]? = some o) (hw : Region.wanted o (yielded ops tv) = false) (hl : Leads P f (.inRegion ops r :: k) (s.put o.dst (.tup [])) res hout) :
    Ends P f I (lone (b.at ⟨tv, []⟩ (.inRegion ops (i :: r) :: k)) cs w) cs res hout := by
  have hstep := step_op_skip (P := P) (b := b) (a := ⟨tv, []⟩) (k := k) (cs := cs) (w := w) (ops := ops) (i := i) (rest := r) (by simp [ho, hw])
  simp only [ho, Option.bind_some] at hstep
  rw [act_put] at hstep
  refine Ends.head (.one hstep) (hl I w bl _ b cs hf hk (put_sim h o.dst ?_) hG)
  simp only [Rep]
  exact ⟨#[], rfl, by simp [RepL]⟩

/-- What 'guarded' comes to. -/
theorem guarded_cases {ops : Array Oper} {o : Oper} {s : St} {perf skip : St → Cfg} {now : Step} (h : (guarded ops o s perf skip now).goes P f res hout) :
    (o.guard = none ∧ now.goes P f res hout) ∨ (GuardIs ops o s true ∧ Goes P f (perf s) res hout) ∨ (GuardIs ops o s false ∧ Goes P f (skip s) res hout) := by
  unfold guarded at h
  split at h
  · rename_i hg; exact .inl ⟨hg, h⟩
  · rename_i j want hg
    split at h
    · exact h.elim
    · rename_i g hj
      split at h
      · exact h.elim
      · rename_i d hd
        split at h
        · rename_i b hb
          split at h
          · cases b with
            | true => have h' : Goes P f (perf ⟨s.tm.set d (.bool true), s.hp, s.m⟩) res hout := h; rw [said_id hb] at h'; exact .inr (.inl ⟨.inr ⟨j, true, g, d, hg, hj, hd, hb⟩, h'⟩)
            | false => have h' : Goes P f (skip ⟨s.tm.set d (.bool false), s.hp, s.m⟩) res hout := h; rw [said_id hb] at h'; exact .inr (.inr ⟨⟨j, true, g, d, hg, hj, hd, .inl hb⟩, h'⟩)
          · cases b with
            | true => have h' : Goes P f (skip ⟨s.tm.set d (.bool true), s.hp, s.m⟩) res hout := h; rw [said_id hb] at h'; exact .inr (.inr ⟨⟨j, false, g, d, hg, hj, hd, .inl hb⟩, h'⟩)
            | false => have h' : Goes P f (perf ⟨s.tm.set d (.bool false), s.hp, s.m⟩) res hout := h; rw [said_id hb] at h'; exact .inr (.inl ⟨.inr ⟨j, false, g, d, hg, hj, hd, hb⟩, h'⟩)
        · rename_i hb
          exact .inr (.inr ⟨⟨j, want, g, d, hg, hj, hd, .inr hb⟩, h⟩)
        · exact h.elim

theorem callStep_parts {mode : Mode} {todo : List Item} {s : St} {dst : Option Nat} {g g' : Nat} {args args' : List AV} {hin : List AO} {st : Site} (hc : callStep P mode todo s dst g args = .call g' args' hin st) :
    g' = g ∧ st.mode = mode ∧ st.todo = todo ∧ st.dst = dst := by
  unfold callStep at hc
  split at hc
  · cases hc
  · dsimp only at hc
    split at hc
    · cases hc
    · simp only [Step.call.injEq] at hc
      obtain ⟨e1, _, _, e2⟩ := hc
      exact ⟨e1.symm, by rw [← e2], by rw [← e2], by rw [← e2]⟩

theorem callStep_goes {mode : Mode} {todo : List Item} {s : St} {dst : Option Nat} {g : Nat} {args : List AV} (h : (callStep P mode todo s dst g args).goes P f res hout) :
    ∃ args' hin st r1 h1, callStep P mode todo s dst g args = .call g args' hin st ∧ st.mode = mode ∧ st.todo = todo ∧ st.dst = dst ∧ Con P g args' hin r1 h1 ∧ st.calm r1 h1 ∧ Goes P f (st.resume r1 h1) res hout := by
  cases hc : callStep P mode todo s dst g args with
  | call g' args' hin st =>
    rw [hc] at h
    obtain ⟨r1, h3, hcon, hcalm, hgo⟩ := h
    obtain ⟨rfl, e1, e2, e3⟩ := callStep_parts hc
    exact ⟨args', hin, st, r1, h3, rfl, e1, e2, e3, hcon, hcalm, hgo⟩
  | next c => unfold callStep at hc; split at hc <;> first | (cases hc; done) | (dsimp only at hc; split at hc <;> cases hc)
  | cond _ _ _ => unfold callStep at hc; split at hc <;> first | (cases hc; done) | (dsimp only at hc; split at hc <;> cases hc)
  | both _ _ _ => unfold callStep at hc; split at hc <;> first | (cases hc; done) | (dsimp only at hc; split at hc <;> cases hc)
  | need _ _ => unfold callStep at hc; split at hc <;> first | (cases hc; done) | (dsimp only at hc; split at hc <;> cases hc)
  | loop _ => unfold callStep at hc; split at hc <;> first | (cases hc; done) | (dsimp only at hc; split at hc <;> cases hc)
  | ret _ => unfold callStep at hc; split at hc <;> first | (cases hc; done) | (dsimp only at hc; split at hc <;> cases hc)
  | fail _ => rw [hc] at h; exact h.elim

theorem allowed_zero {ops : Array Oper} {m : Mk} {i : Nat} {r : AV} {ho : List AO} {n n0 : Nat} {fp : List Nat} (h : allowed ops m i fp n 0 = true) (hc : callCls r ho = 0 ∨ allowed ops ⟨m.fl, n0, m.wr, m.rd⟩ i [] 0 (callCls r ho) = true) : allowed ops m i [] n (callCls r ho) = true := by
  rcases hc with h0 | hc
  · rw [h0]; exact h
  · unfold callCls at hc ⊢
    split at hc
    · exact h
    · exact hc

theorem add_al (m : Mk) (n0 i n c : Nat) (fp : List Nat) : Mk.add ⟨m.fl, n0, m.wr, m.rd⟩ i fp n c = Mk.add m i fp n c := by
  unfold Mk.add
  split <;> rfl

theorem callCls_or (res : AV) (hout : List AO) : ¬ (callCls res hout = 1 ∨ callCls res hout = 3) := by
  unfold callCls; split <;> omega

/-- An operation of a drawn region, in the order of the text. -/
theorem op_drun {ops : Array Oper} {i : Nat} {m : Mk} {todo : List Item} {s : St} {o : Oper} (ho : ops[i]? = some o) (hg : GuardIs ops o s true) (ha : allowed ops m i (fpOf s o.op (cls s o.op)) s.hp.length (cls s o.op) = true) (h : (opStepD P o ops i m (cls s o.op) (fpOf s o.op (cls s o.op)) todo s).goes P f res hout) :
    ∃ s', DRun P ops i m s s' ∧ Leads P f todo s' res hout := by
  unfold opStepD at h
  cases he : aOp P o s with
  | val v s1 => rw [he] at h; obtain ⟨s', h1, h2⟩ := h; exact ⟨s', .step ho ha rfl (.op hg rfl (by rw [he]; exact ⟨rfl, rfl⟩)) h1, h2⟩
  | need p v s1 => rw [he] at h; obtain ⟨hp, s', h1, h2⟩ := h; exact ⟨s', .step ho ha rfl (.op hg rfl (by rw [he]; exact ⟨hp, rfl, rfl⟩)) h1, h2⟩
  | ask t v1 v2 s1 =>
    rw [he] at h
    cases t with
    | true => obtain ⟨s', h1, h2⟩ := h; exact ⟨s', .step ho ha rfl (.op hg rfl (by rw [he]; exact ⟨rfl, rfl⟩)) h1, h2⟩
    | false => obtain ⟨s', h1, h2⟩ := h; exact ⟨s', .step ho ha rfl (.op hg rfl (by rw [he]; exact ⟨rfl, rfl⟩)) h1, h2⟩
  | enter g args =>
    rw [he] at h
    simp only at h
    split at h
    · rename_i hc0
      split at h
      · rename_i hrp
        simp only [Bool.and_eq_true, List.isEmpty_iff] at hrp
        obtain ⟨args', hin, st, r1, h1, hc, hm, htd, hd, hcon, hcalm, hgo⟩ := callStep_goes h
        unfold Site.calm at hcalm
        rw [hm] at hcalm
        unfold Site.resume at hgo
        rw [hm, htd, hd] at hgo
        simp only [Mode.after, Goes] at hgo
        obtain ⟨s', h4, h5⟩ := hgo
        rw [hc0] at ha
        rw [add_al] at h4
        exact ⟨s', .step ho (allowed_zero ha hcalm) rfl (.call hg hc0 he hrp.1 hrp.2 hc hcon rfl) h4, h5⟩
      · exact h.elim
    · rename_i hc2
      unfold callStepB at h
      split at h
      · rename_i g' a' h' k' hcs
        split at h
        · rename_i htr
          obtain ⟨args', hin, st, r1, h1, hc, hm, htd, hd, hcon, hcalm, hgo⟩ := callStep_goes (mode := .dbor ops i ⟨m.fl, s.hp.length, m.wr, m.rd⟩) (todo := todo) (s := s) (dst := o.dst) (g := g) (args := args) (P := P) (f := f) (res := res) (hout := hout) (by rw [hcs]; exact h)
          rw [hcs] at hc
          simp only [Step.call.injEq] at hc
          obtain ⟨rfl, rfl, rfl, rfl⟩ := hc
          unfold Site.calm at hcalm
          rw [hm] at hcalm
          unfold Site.resume at hgo
          rw [hm, htd, hd] at hgo
          simp only [Mode.after, Goes] at hgo
          obtain ⟨s', h4, h5⟩ := hgo
          rw [add_al] at h4
          rw [hc2] at ha
          cases hl : r1.lists || h1.any AO.lists with
          | false =>
            have hb : borCls r1 h1 = 2 := by unfold borCls; rw [hl]
            rw [hb] at h4
            exact ⟨s', .step ho ha rfl (.borrow hg hc2 he hcs htr hcon hl) h4, h5⟩
          | true =>
            have hb : borCls r1 h1 = 4 := by unfold borCls; rw [hl]
            rw [hb] at h4 hcalm
            have ha4 : allowed ops m i [] s.hp.length 4 = true := by
              rcases hcalm with hq | hq
              · omega
              · exact hq
            exact ⟨s', .step ho ha4 rfl (.full hg he hcs hcon) h4, h5⟩
        · split at h
          · rename_i ha4
            obtain ⟨args', hin, st, r1, h1, hc, hm, htd, hd, hcon, hcalm, hgo⟩ := callStep_goes h
            unfold Site.resume at hgo
            rw [hm, htd, hd] at hgo
            simp only [Mode.after, Goes] at hgo
            obtain ⟨s', h4, h5⟩ := hgo
            exact ⟨s', .step ho ha4 rfl (.full hg he hc hcon) h4, h5⟩
          · exact h.elim
      · exact h.elim
    · rename_i hc3
      unfold callStepW at h
      split at h
      · rename_i g' a' h' k' hcs
        split at h
        · rename_i hchk
          simp only [Bool.and_eq_true, decide_eq_true_eq] at hchk
          obtain ⟨hfp, hw⟩ := hchk
          obtain ⟨args', hin, st, r1, h1, hc, hm, htd, hd, hcon, hcalm, hgo⟩ := callStep_goes (mode := .draw ops (i + 1) (m.add i (fpOf s o.op (cls s o.op)) s.hp.length 3)) (todo := todo) (s := s) (dst := o.dst) (g := g) (args := args) (P := P) (f := f) (res := res) (hout := hout) (by rw [hcs]; exact h)
          rw [hcs] at hc
          simp only [Step.call.injEq] at hc
          obtain ⟨rfl, rfl, rfl, rfl⟩ := hc
          unfold Site.resume at hgo
          rw [hm, htd, hd] at hgo
          simp only [Mode.after, Goes] at hgo
          obtain ⟨s', h4, h5⟩ := hgo
          rw [hc3] at ha h4 hfp
          rw [← hfp] at ha h4
          exact ⟨s', .step ho ha rfl (.write hg hc3 he hcs hw hcon) h4, h5⟩
        · exact h.elim
      · exact h.elim
    · rename_i hc4
      obtain ⟨args', hin, st, r1, h1, hc, hm, htd, hd, hcon, hcalm, hgo⟩ := callStep_goes h
      unfold Site.resume at hgo
      rw [hm, htd, hd] at hgo
      simp only [Mode.after, Goes] at hgo
      obtain ⟨s', h4, h5⟩ := hgo
      rw [hc4] at ha h4
      exact ⟨s', .step ho ha rfl (.full hg he hc hcon) h4, h5⟩
    · exact h.elim
  | fail => rw [he] at h; exact h.elim

end
end Go.Cellar
