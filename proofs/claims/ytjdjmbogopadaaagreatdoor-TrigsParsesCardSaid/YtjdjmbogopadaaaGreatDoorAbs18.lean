/- What a function does, as the abstract machine tells it: the rules, one for each kind of step. No condition. -/
import Derived.Test.YtjdjmbogopadaaaGreatDoorAbs16
import Derived.Scope
set_option linter.unusedVariables false
set_option linter.unusedSimpArgs false
namespace Go.Cellar
open Go

/-- The one open number that Go's own library reads: no call owns its place, and some number stands there. -/
def GlobOk (P : Program) (J : Inp) : Prop :=
  ∀ (g : Nat) (gl : Global), P.globals[g]? = some gl → gl.name = "internal/bytealg.MaxLen" → some g ∉ J.bl0 ∧ ∃ n, J.w0.cell? ⟨g, 0, none⟩ = some (.int .i64 n)

/-- A CONTRACT: called with what reads as 'args' (and the objects 'hin' that these name), the function returns 'res', and the objects are 'hout'. -/
def Con (P : Program) (f : Nat) (args : List AV) (hin : List AO) (res : AV) (hout : List AO) : Prop :=
  ∀ (J : Inp) (vals : Array Value), J.hin = hin → HSim J J.w0 J.bl0 hin → RepL (J.env J.w0 J.bl0 hin) args vals.toList → GlobOk P J →
    Calls P f vals J.w0 fun e w' => ∃ v, e = .returned v ∧ ∃ bl2, HSim J w' bl2 hout ∧ Rep (J.env w' bl2 hout) res v

/-- The function's run, from here, ends so. -/
def Ends (P : Program) (f : Nat) (I : Inp) (m : Machine) (cs : List Frame) (res : AV) (hout : List AO) : Prop :=
  ∃ v w' fr, Steps P m (lone fr cs w') ∧ fr.fn = f ∧ fr.leaving P w' (.returned v) ∧ ∃ bl', HSim I w' bl' hout ∧ Rep (I.env w' bl' hout) res v

theorem Ends.head {P : Program} {f : Nat} {I : Inp} {m m1 : Machine} {cs : List Frame} {res : AV} {hout : List AO} (h : Steps P m m1) (h' : Ends P f I m1 cs res hout) : Ends P f I m cs res hout := by
  obtain ⟨v, w', fr, h1, h2⟩ := h'
  exact ⟨v, w', fr, h.trans h1, h2⟩

def Leads (P : Program) (f : Nat) (todo : List Item) (s : St) (res : AV) (hout : List AO) : Prop :=
  ∀ (I : Inp) (w : World) (bl : List (Option Nat)) (tv : Array Value) (b : Frame) (cs : List Frame), b.fn = f → b.kind = .normal → Sim I w bl s tv.toList → GlobOk P I →
    Ends P f I (lone (b.at ⟨tv, []⟩ todo) cs w) cs res hout

/-- The head operation's guard is met. -/
def HeadOk (todo : List Item) (tv : Array Value) : Prop :=
  ∀ ops i r k o, todo = .inRegion ops (i :: r) :: k → ops[i]? = some o → Region.wanted o (yielded ops tv) = true

def LeadsP (P : Program) (f : Nat) (todo : List Item) (s : St) (res : AV) (hout : List AO) : Prop :=
  ∀ (I : Inp) (w : World) (bl : List (Option Nat)) (tv : Array Value) (b : Frame) (cs : List Frame), b.fn = f → b.kind = .normal → Sim I w bl s tv.toList → GlobOk P I → HeadOk todo tv →
    Ends P f I (lone (b.at ⟨tv, []⟩ todo) cs w) cs res hout

/-- Is an operation's guard met (or not)? -/
def GuardIs (ops : Array Oper) (o : Oper) (s : St) : Bool → Prop
  | true => o.guard = none ∨ ∃ j want g d, o.guard = some (j, want) ∧ ops[j]? = some g ∧ g.dst = some d ∧ s.tm.getD d .junk = .bool want
  | false => ∃ j want g d, o.guard = some (j, want) ∧ ops[j]? = some g ∧ g.dst = some d ∧ (s.tm.getD d .junk = .bool (!want) ∨ s.tm.getD d .junk = .tup [])

/-- One operation of a region that draws its order, at its class. -/
inductive DStep (P : Program) (ops : Array Oper) (i : Nat) (o : Oper) (m : Mk) : Nat → List Nat → St → St → Prop where
  | skip {c : Nat} {fp : List Nat} {s : St} (hg : GuardIs ops o s false) : DStep P ops i o m c fp s (s.put o.dst (.tup []))
  | op {c : Nat} {s s1 : St} {v : AV} (hg : GuardIs ops o s true) (hc : cls s o.op = c) (he : (aOp P o s).gives v s1) : DStep P ops i o m c (fpOf s o.op c) s (s1.put o.dst v)
  | call {s : St} {c : Nat} {fp : List Nat} {mode : Mode} {todo : List Item} {f : Nat} {args args' : List AV} {hin : List AO} {k : Site} {res : AV} {hout : List AO} (hg : GuardIs ops o s true) (hc : cls s o.op = 0) (he : aOp P o s = .enter f args)
      (hr : AV.refsL args = []) (hp : AV.ptrsL args = []) (hcall : callStep P mode todo s o.dst f args = .call f args' hin k) (hcon : Con P f args' hin res hout) (hcc : callCls res hout = c) : DStep P ops i o m c fp s ((k.state res hout).1.put o.dst (k.state res hout).2)
  | write {s : St} {mode : Mode} {todo : List Item} {f : Nat} {args args' : List AV} {hin : List AO} {k : Site} {res : AV} {hout : List AO} (hg : GuardIs ops o s true) (hc : cls s o.op = 3) (he : aOp P o s = .enter f args)
      (hcall : callStep P mode todo s o.dst f args = .call f args' hin k) (hw : callW s k.tr k.bor = true) (hcon : Con P f args' hin res hout) : DStep P ops i o m 3 k.tr s ((k.state res hout).1.put o.dst (k.state res hout).2)
  | borrow {s : St} {mode : Mode} {todo : List Item} {f : Nat} {args args' : List AV} {hin : List AO} {k : Site} {res : AV} {hout : List AO} (hg : GuardIs ops o s true) (hc : cls s o.op = 2) (he : aOp P o s = .enter f args)
      (hcall : callStep P mode todo s o.dst f args = .call f args' hin k) (ht : k.tr = []) (hcon : Con P f args' hin res hout) (hl : (res.lists || hout.any AO.lists) = false) : DStep P ops i o m 2 [] s ((k.state res hout).1.put o.dst (k.state res hout).2)
  | full {s : St} {fp : List Nat} {mode : Mode} {todo : List Item} {f : Nat} {args args' : List AV} {hin : List AO} {k : Site} {res : AV} {hout : List AO} (hg : GuardIs ops o s true) (he : aOp P o s = .enter f args)
      (hcall : callStep P mode todo s o.dst f args = .call f args' hin k) (hcon : Con P f args' hin res hout) : DStep P ops i o m 4 fp s ((k.state res hout).1.put o.dst (k.state res hout).2)

/-- A region that draws its order, in the order of the text. -/
inductive DRun (P : Program) (ops : Array Oper) : Nat → Mk → St → St → Prop where
  | done {i : Nat} {m : Mk} {s : St} (h : ops[i]? = none) : DRun P ops i m s s
  | step {i : Nat} {m : Mk} {s s1 s' : St} {c : Nat} {fp : List Nat} {n : Nat} {o : Oper} (h : ops[i]? = some o) (ha : allowed ops m i fp n c = true) (hn0 : n = s.hp.length) (hs : DStep P ops i o m c fp s s1) (hn : DRun P ops (i + 1) (m.add i fp n c) s1 s') : DRun P ops i m s s'

/-- FROM THIS CONFIGURATION THE FUNCTION RETURNS 'res', its objects being 'hout'. -/
def Goes (P : Program) (f : Nat) (c : Cfg) (res : AV) (hout : List AO) : Prop :=
  match c.mode with
  | .run => Leads P f c.todo c.s res hout
  | .perf => LeadsP P f c.todo c.s res hout
  | .draw ops i m => ∃ s', DRun P ops i m c.s s' ∧ Leads P f c.todo s' res hout
  | .dperf ops i m => ∀ o, ops[i]? = some o → (allowed ops m i (fpOf c.s o.op (cls c.s o.op)) c.s.hp.length (cls c.s o.op) = true ∧ GuardIs ops o c.s true) → ∃ s', DRun P ops i m c.s s' ∧ Leads P f c.todo s' res hout
  | .dcall _ _ _ => False
  | .dbor _ _ _ => False

section
variable {P : Program} {f : Nat} {res : AV} {hout : List AO}

theorem put_sim {I : Inp} {w : World} {bl : List (Option Nat)} {s : St} {tv : Array Value} (h : Sim I w bl s tv.toList) (dst : Option Nat) {v : AV} {val : Value} (hv : Rep (I.env w bl s.hp) v val) :
    Sim I w bl (s.put dst v) ((Act.mk tv []).put dst val).tmps.toList := by
  cases dst with
  | none => exact h
  | some d =>
    refine ⟨h.h, ?_, h.m⟩
    have := RepL.set d h.tm hv
    simpa [Act.put, St.put] using this

theorem act_put (tv : Array Value) (dst : Option Nat) (val : Value) : (Act.mk tv []).put dst val = Act.mk ((Act.mk tv []).put dst val).tmps [] := by
  cases dst <;> rfl

theorem step_op_value {b : Frame} {a : Act} {k : List Item} {cs : List Frame} {w w' : World} {ops : Array Oper} {i : Nat} {rest : List Nat} {o : Oper} {v : Value} (ho : ops[i]? = some o) (hw : Region.wanted o (yielded ops a.tmps) = true)
    (hr : Yields' ((execOp a.eval o).run P w) v w') :
    step P (lone (b.at a (.inRegion ops (i :: rest) :: k)) cs w) = .next (lone (b.at (a.put o.dst v) (.inRegion ops rest :: k)) cs w') := by
  have hg := stepG_op (P := P) (b := b) (k := k) (cs := cs) (w := w) (rest := rest) ho hw
  have hfin : ∀ v, (b.at a (.inRegion ops (i :: rest) :: k)).finish v = b.at (a.put o.dst v) (.inRegion ops rest :: k) := by
    intro v; rw [Frame.finish_at, ho]; rfl
  refine step_lone_go ?_
  rw [hg, ← hfin]
  rcases hr with hr | ⟨hr, rfl⟩ <;> simp [stepG.apply, hr]

theorem step_op_enter {b : Frame} {a : Act} {k : List Item} {cs : List Frame} {w w' : World} {ops : Array Oper} {i : Nat} {rest : List Nat} {o : Oper} {g : FuncId} {args : Array Value} (ho : ops[i]? = some o) (hw : Region.wanted o (yielded ops a.tmps) = true)
    (hr : (execOp a.eval o).run P w = .ok (.enter g args) w') :
    step P (lone (b.at a (.inRegion ops (i :: rest) :: k)) cs w) = .next (lone (Frame.enter P g args .normal) (b.at a (.inRegion ops (i :: rest) :: k) :: cs) w') := by
  have hg := stepG_op (P := P) (b := b) (k := k) (cs := cs) (w := w) (rest := rest) ho hw
  refine step_lone_go ?_
  rw [hg]
  simp [stepG.apply, hr, Frame.at]

/-- A call, and its return. -/
theorem steps_call {b : Frame} {a : Act} {k : List Item} {cs : List Frame} {w w' : World} {ops : Array Oper} {i : Nat} {rest : List Nat} {o : Oper} {g : FuncId} {args : Array Value} {R : Value → World → Prop} (ho : ops[i]? = some o) (hw : Region.wanted o (yielded ops a.tmps) = true)
    (hr : (execOp a.eval o).run P w = .ok (.enter g args) w') (hc : Calls P g args w' fun e w'' => ∃ v, e = .returned v ∧ R v w'') :
    ∃ v w'', R v w'' ∧ Steps P (lone (b.at a (.inRegion ops (i :: rest) :: k)) cs w) (lone (b.at (a.put o.dst v) (.inRegion ops rest :: k)) cs w'') := by
  obtain ⟨e, w'', fr, ⟨v, rfl, hR⟩, hsteps, _, hleave⟩ := hc (b.at a (.inRegion ops (i :: rest) :: k) :: cs)
  refine ⟨v, w'', hR, .head (step_op_enter ho hw hr) (Steps.trans hsteps (.one ?_))⟩
  have := step_leave_returned (P := P) (c := b.at a (.inRegion ops (i :: rest) :: k)) (cs := cs) hleave
  rw [this, Frame.finish_at, ho]
  rfl

/-! ### entering a call -/

theorem aValCall_enter {I : Inp} {w : World} {bl : List (Option Nat)} {s : St} {tv : Array Value} {c : Call} {t : TypeId} {fo : Operand} {x : AV} {g : Nat} {args : List AV} (h : Sim I w bl s tv.toList) (hx : Rep (I.env w bl s.hp) x ((Act.mk tv []).eval fo)) (hf : c.callee = .value fo)
    (he : aValCall P x (c.args.toList.map s.ev) s = .enter g args) :
    ∃ vals, Sem.run P (do let d ← resolve (Act.mk tv []).eval c t; invoke d.target d.args) w = .ok (.enter g vals) w ∧ RepL (I.env w bl s.hp) args vals.toList := by
  unfold aValCall at he
  split at he
  · rename_i g' first caps
    simp only [Rep] at hx
    obtain ⟨fs, cs, hv, h1, h2⟩ := hx
    split at he
    · rename_i fn hfn
      split at he
      · rename_i body hb
        split at he
        · cases he
        · rename_i hname
          simp only [Eff.enter.injEq] at he
          obtain ⟨rfl, rfl⟩ := he
          refine ⟨fs ++ c.args.map (Act.mk tv []).eval ++ cs, ?_, ?_⟩
          · rw [resolve_func hf hv]
            have hn : (fn.name == "runtime.NumGoroutine") = false := by simpa using hname
            simp [callFunc, hfn, hb, hn]
            simpa using hname
          · rw [Array.toList_append, Array.toList_append]
            exact (h1.append (evs_rep h.tm c.args)).append h2
      · exfalso
        unfold aExtern at he
        repeat' (first | (cases he; done) | split at he)
    · cases he
  · cases he

theorem aOp_enter {I : Inp} {w : World} {bl : List (Option Nat)} {s : St} {tv : Array Value} {o : Oper} {g : Nat} {args : List AV} (h : Sim I w bl s tv.toList) (he : aOp P o s = .enter g args) :
    ∃ vals, (execOp (Act.mk tv []).eval o).run P w = .ok (.enter g vals) w ∧ RepL (I.env w bl s.hp) args vals.toList := by
  unfold aOp at he
  unfold execOp
  cases ho : o.op <;> rw [ho] at he <;> dsimp only at he ⊢
  case call c =>
    unfold aCall at he
    split at he
    · exfalso
      unfold aBuiltin aLen aAppend aClear at he
      repeat' (first | cases he | split at he)
    · cases he
    · rename_i fo hf
      exact aValCall_enter h (ev_rep h.tm fo) hf he
  all_goals exfalso
  case move => cases he
  case assign => cases he
  case pick => unfold aPick at he; repeat' (first | (cases he; done) | split at he)
  case alloc => unfold aAlloc at he; repeat' (first | (cases he; done) | split at he)
  case box => unfold aBox at he; repeat' (first | (cases he; done) | split at he)
  case build => unfold aBuild at he; repeat' (first | (cases he; done) | split at he)
  case buildSlice => unfold aBuildSlice at he; dsimp only at he; repeat' (first | (cases he; done) | split at he)
  case load => unfold aLoad at he; repeat' (first | (cases he; done) | split at he)
  case store => unfold aStore at he; dsimp only at he; repeat' (first | (cases he; done) | split at he)
  case nilCheck => unfold aNil at he; repeat' (first | (cases he; done) | split at he)
  case binOp => unfold aBin aBinInt aBinStr aBinBool aBinAgg aListNil aNilEq at he; repeat' (first | (cases he; done) | split at he)
  case unOp => unfold aUn at he; repeat' (first | (cases he; done) | split at he)
  case convert => unfold aConvert at he; repeat' (first | (cases he; done) | split at he)
  case makeFunc => cases he
  case makeSlice => unfold aMakeSlice at he; repeat' (first | (cases he; done) | split at he)
  case slice => unfold aSlice at he; repeat' (first | (cases he; done) | split at he)
  case fieldAddr => unfold aFieldAddr at he; repeat' (first | (cases he; done) | split at he)
  case field => unfold aField at he; repeat' (first | (cases he; done) | split at he)
  case indexAddr => unfold aIndexAddr at he; repeat' (first | (cases he; done) | split at he)
  case index => unfold aIndex at he; repeat' (first | (cases he; done) | split at he)
  case extract => unfold aExtract at he; repeat' (first | (cases he; done) | split at he)
  all_goals cases he

/-! ### the state behind a call -/

theorem blBor_nil (hp : List AO) (bl : List (Option Nat)) : blBor hp [] bl = bl := by
  unfold blBor
  apply List.ext_getElem?
  intro i
  simp [List.getElem?_mapIdx]

theorem isFixed_in {hp : List AO} {tr bor : List Nat} {r j : Nat} (hj : tr[j]? = some r) (hf : isFixed hp r = true) :
    ∃ o, (tr.map fun r => AO.sub (gInto hp tr bor) (hp.getD r .dead))[j]? = some o ∧ o.fixed = true := by
  refine ⟨_, by rw [List.getElem?_map, hj]; rfl, ?_⟩
  rw [fixed_sub]
  unfold isFixed at hf
  rw [List.getD_eq_getElem?_getD]
  split at hf
  · rename_i h; rw [h]; rfl
  · rename_i h; rw [h]; rfl
  · rename_i h; rw [h]; rfl
  · cases hf

theorem GlobOk.into {I : Inp} {w : World} {bl : List (Option Nat)} {hp : List AO} (hG : GlobOk P I) (h : HSim I w bl hp) {tr bor : List Nat} {hin : List AO} : GlobOk P (I.into w bl hp tr bor hin) := by
  intro g gl h1 h2
  obtain ⟨h3, n, h4⟩ := hG g gl h1 h2
  have hlt := lt_of_cell h4
  refine ⟨fun hm => ?_, n, ?_⟩
  · obtain ⟨r, _, hr⟩ := List.mem_map.mp hm
    rw [Option.join_eq_some_iff] at hr
    rcases (h.at_ r g hr).2 with h5 | h5
    · exact h3 h5
    · exact absurd hlt (Nat.not_lt.mpr h5)
  · have e : w.heap[g]? = I.w0.heap[g]? := h.old g hlt h3
    show w.cell? ⟨g, 0, none⟩ = _
    rw [World.cell?_of_block (w := I.w0) (a := ⟨g, 0, none⟩) e]
    exact h4

/-- What a call needs of its caller, and what it leaves. -/
theorem call_ok {I : Inp} {w : World} {bl : List (Option Nat)} {s : St} {tv : Array Value} {mode : Mode} {todo : List Item} {dst : Option Nat} {g : Nat} {args args' : List AV} {hin : List AO} {k : Site} {vals : Array Value}
    (h : Sim I w bl s tv.toList) (hr : RepL (I.env w bl s.hp) args vals.toList) (hc : callStep P mode todo s dst g args = .call g args' hin k) (hcon : Con P g args' hin res hout) (hG : GlobOk P I) :
    Calls P g vals w fun e w2 => ∃ v, e = .returned v ∧ ∃ bl', Sim I w2 bl' (k.state res hout).1 tv.toList ∧ Rep (I.env w2 bl' (k.state res hout).1.hp) (k.state res hout).2 v := by
  unfold callStep at hc
  split at hc
  · cases hc
  · rename_i fn hfn
    dsimp only at hc
    split at hc
    · cases hc
    · rename_i hall
      generalize htr : reach s.hp s.hp.length (addNew [] (AV.ptrsL args ++ handed fn.origin args)) = tr at hc hall
      generalize hbor : (addNew [] (AV.refsL args)).filter (fun r => !tr.contains r) = bor at hc
      simp only [Step.call.injEq, true_and] at hc
      obtain ⟨hargs, hhin, hk⟩ := hc
      have hnd : tr.Nodup := by rw [← htr]; exact reach_nodup _ _ _ (addNew_nodup _ _ List.nodup_nil)
      have hrange : ∀ r ∈ tr, r < s.hp.length := fun r hm => by
        have := List.all_eq_true.mp hall r hm
        simpa using this
      have hsub := into_subOk (bor := bor) h.h hin hhin.symm
      have hsim := into_hsim (bor := bor) h.h hnd hin hhin.symm
      have hrep : RepL ((I.into w bl s.hp tr bor hin).env w (tr.map fun r => (bl[r]?).join) hin) args' vals.toList := by
        rw [← hargs]
        exact canonArgs_rep _ _ _ (RepL.sub hsub _ _ hr)
      have hcall := hcon (I.into w bl s.hp tr bor hin) vals rfl hsim hrep (hG.into h.h)
      refine hcall.mono ?_
      rintro e w2 ⟨v, rfl, bl2, h2, hres⟩
      refine ⟨v, rfl, ?_⟩
      have hinl : hin.length = tr.length := by rw [← hhin]; simp
      -- with the caller's state as it is
      have plain : ((bor = []) ∨ (res.lists = false ∧ ∀ o ∈ hout, o.lists = false)) → k.base (res.lists || hout.any AO.lists) = s →
          ∃ bl', Sim I w2 bl' (k.state res hout).1 tv.toList ∧ Rep (I.env w2 bl' (k.state res hout).1.hp) (k.state res hout).2 v := by
        intro hcase hbase
        obtain ⟨h3, h4, h5⟩ := back_hsim (res := res) (v := v) (bor0 := bor) h.h hnd hrange (I.into w bl s.hp tr bor hin) rfl rfl rfl hinl
          (fun r j hj hf => by rw [← hhin]; exact isFixed_in hj hf)
          (hcase.imp (fun hb => by subst hb; exact fun b hb => ⟨hb.1, by have := hb.2; rwa [blBor_nil] at this⟩) (fun h => h)) h2 hres
        unfold Site.state
        rw [hbase]
        have hktr : k.tr = tr := by rw [← hk]
        rw [hktr]
        exact ⟨_, ⟨h3, RepL.sub h4 _ _ h.tm, h.m⟩, h5⟩
      have hkbor : k.bor = bor := by rw [← hk]
      have hks : k.s = s := by rw [← hk]
      cases hb : bor with
      | nil => exact plain (.inl hb) (by unfold Site.base; rw [hkbor, hb]; exact hks)
      | cons r0 bor' =>
        cases hl : (res.lists || hout.any AO.lists) with
        | false =>
          simp only [Bool.or_eq_false_iff] at hl
          refine plain (.inr ⟨hl.1, fun o ho => ?_⟩) (by unfold Site.base; rw [hl.1, hl.2, hkbor, hb]; exact hks)
          have := hl.2
          rw [List.any_eq_false] at this
          simpa using this o ho
        | true =>
          -- the rows that were lent are frozen
          have hbase : k.base (res.lists || hout.any AO.lists) = s.freeze bor := by
            unfold Site.base
            rw [hl, hkbor, hb, hks]
          obtain ⟨hfz, hfs⟩ := h.h.freeze' bor
          have hlenf : (s.freeze bor).hp.length = s.hp.length := by simp [St.freeze, St.mapv, killObjs_length]
          have hnotbor : ∀ r ∈ tr, bor.contains r = false := fun r hm => by
            rw [← hbor]
            simp [hm]
          have hblf : (tr.map fun r => (bl[r]?).join) = tr.map fun r => ((blBor s.hp bor bl)[r]?).join := by
            refine List.map_congr_left fun r hm => ?_
            unfold blBor
            rw [blFreeze_get]
            simp only [hnotbor r hm, Bool.false_and, Bool.false_eq_true, if_false]
            cases bl[r]? <;> rfl
          have hfixf : ∀ (r j : Nat), tr[j]? = some r → isFixed (s.freeze bor).hp r = true → ∃ o, hin[j]? = some o ∧ o.fixed = true := by
            intro r j hj hf
            rw [← hhin]
            refine isFixed_in hj ?_
            have e := killObjs_get bor (s.hp.map (AO.sub (gFreeze s.hp bor))) 0 r
            have e2 : (s.freeze bor).hp[r]? = (killObjs bor 0 (s.hp.map (AO.sub (gFreeze s.hp bor))))[r]? := rfl
            unfold isFixed at hf ⊢
            rw [e2, e, List.getElem?_map] at hf
            cases hq : s.hp[r]? with
            | none => rw [hq] at hf; simp at hf
            | some o =>
              rw [hq] at hf
              cases o with
              | row t l => simp only [Option.map_some, AO.sub] at hf; split at hf <;> first | (cases hf; done) | (rename_i hh; split at hh <;> simp at hh)
              | dead => simp [AO.sub] at hf
              | box cs => rfl
              | arr t l => rfl
              | bld T v => rfl
              | buf e l => simp [AO.sub] at hf
          obtain ⟨h3, h4, h5⟩ := back_hsim (hp := (s.freeze bor).hp) (bl := blBor s.hp bor bl) (res := res) (v := v) (bor0 := bor) hfz hnd (fun r hm => by rw [hlenf]; exact hrange r hm) (I.into w bl s.hp tr bor hin) rfl hblf rfl hinl
            hfixf (.inl fun b hb => hb) (by
              have e : (I.into w bl s.hp tr bor hin).env w2 bl2 hout = (I.into w bl s.hp tr bor hin).env w2 bl2 hout := rfl
              exact h2) hres
          unfold Site.state
          rw [hbase]
          have hktr : k.tr = tr := by rw [← hk]
          rw [hktr]
          exact ⟨_, ⟨h3, RepL.sub h4 _ _ (RepL.sub hfs _ _ h.tm), h.m⟩, h5⟩

end
end Go.Cellar
