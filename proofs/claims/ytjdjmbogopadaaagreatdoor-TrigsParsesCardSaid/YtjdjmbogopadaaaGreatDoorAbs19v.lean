/- Regions that draw their order may be taken in the order of the text. No condition. -/
import Derived.Test.YtjdjmbogopadaaaGreatDoorAbs19u
set_option linter.unusedVariables false
set_option linter.unusedSimpArgs false
namespace Go.Cellar
open Go

section
variable {P : Program} {f : Nat} {res : AV} {hout : List AO} {ops : Array Oper} {st : Nat → St} {cl : Nat → Nat} {fp : Nat → List Nat} {D : Nat → Prop} {S : St}

theorem ev_same {s1 s2 : St} (x : Operand) (h : ∀ t, x = .tmp t → s2.tm[t]? = s1.tm[t]?) : s2.ev x = s1.ev x := by
  cases x with
  | tmp t => simp only [St.ev, List.getD_eq_getElem?_getD, h t rfl]
  | _ => rfl

theorem guard_same {o : Oper} {s1 s2 : St} (h : ∀ t, t ∈ o.looksAt ops → s2.tm[t]? = s1.tm[t]?) {b : Bool} (hg : GuardIs ops o s1 b) : GuardIs ops o s2 b := by
  have key : ∀ (j : Nat) (want : Bool) (g : Oper) (d : Nat), o.guard = some (j, want) → ops[j]? = some g → g.dst = some d → s2.tm.getD d .junk = s1.tm.getD d .junk := by
    intro j want g d h1 h2 h3
    rw [List.getD_eq_getElem?_getD, List.getD_eq_getElem?_getD, h d (by
      unfold Oper.looksAt
      refine List.mem_append_right _ ?_
      rw [h1]
      simp [h2, h3])]
  cases b with
  | true =>
    rcases hg with hg | ⟨j, want, g, d, h1, h2, h3, h4⟩
    · exact .inl hg
    · exact .inr ⟨j, want, g, d, h1, h2, h3, by rw [key j want g d h1 h2 h3]; exact h4⟩
  | false =>
    obtain ⟨j, want, g, d, h1, h2, h3, h4⟩ := hg
    exact ⟨j, want, g, d, h1, h2, h3, by rw [key j want g d h1 h2 h3]; exact h4⟩

/-- An operation's effect, taken in. -/
theorem opStep_gives {o : Oper} {todo : List Item} {S S1 : St} {v : AV} (h : (aOp P o S).gives v S1) (hl : Leads P f todo (S1.put o.dst v) res hout) : (opStep P o .run todo S).goes P f res hout := by
  unfold opStep
  cases he : aOp P o S with
  | val v' s' => rw [he] at h; obtain ⟨rfl, rfl⟩ := h; exact hl
  | need p v' s' => rw [he] at h; obtain ⟨hp, rfl, rfl⟩ := h; exact ⟨hp, hl⟩
  | ask b v1 v2 s' =>
    rw [he] at h
    obtain ⟨rfl, rfl⟩ := h
    cases b <;> exact hl
  | enter g args => rw [he] at h; exact h.elim
  | fail => rw [he] at h; exact h.elim

/-- A call, taken in. -/
theorem opStep_call {o : Oper} {todo todo0 : List Item} {mode0 : Mode} {S s : St} {g : Nat} {args args' : List AV} {hin : List AO} {k : Site} {r : AV} {ho : List AO} (he : aOp P o S = .enter g args) (hr : AV.refsL args = []) (hp : AV.ptrsL args = [])
    (hcall : callStep P mode0 todo0 s o.dst g args = .call g args' hin k) (hcon : Con P g args' hin r ho)
    (hl : Leads P f todo ((⟨S.tm, S.hp ++ ho.map (AO.sub (gBack [] S.hp.length)), S.m⟩ : St).put o.dst (AV.sub (gBack [] S.hp.length) r)) res hout) : (opStep P o .run todo S).goes P f res hout := by
  unfold opStep
  rw [he]
  dsimp only
  obtain ⟨rfl, _, _, _, fn, hfn, rfl, _⟩ := dstep_free hr hp hcall
  rw [callStep_free hr hp, hfn]
  refine ⟨r, ho, hcon, trivial, ?_⟩
  unfold Site.resume
  rw [state_free rfl rfl]
  exact hl

theorem enter_same {o : Oper} {s S : St} {g : Nat} {args : List AV} (he : aOp P o s = .enter g args) (hev : ∀ x ∈ o.op.operands, S.ev x = s.ev x) : aOp P o S = .enter g args := by
  rw [aOp_at] at he ⊢
  rw [aOpAt_same P o S hev]
  have hc : ∃ c f, o.op = .call c ∧ c.callee = .value f := by
    cases hp : pureAt s o.op with
    | true =>
      rw [aOpAt_idle P o hp s s] at he
      have he0 := he
      rw [← aOpAt_idle P o hp s s, ← aOp_at] at he
      clear he0
      unfold aOp at he
      cases ho : o.op <;> rw [ho] at he hp <;> simp only [pureAt, Bool.false_eq_true] at hp <;> dsimp only at he
      case call c =>
        unfold aCall at he
        split at he
        · exfalso
          unfold aBuiltin aLen aAppend aClear at he
          repeat' (first | cases he | split at he)
        · cases he
        · rename_i f hf
          exact ⟨c, f, rfl, hf⟩
      all_goals exfalso
      case move => cases he
      case assign => cases he
      case pick => unfold aPick at he; repeat' (first | (cases he; done) | split at he)
      case build => unfold aBuild at he; repeat' (first | (cases he; done) | split at he)
      case buildSlice => unfold aBuildSlice at he; dsimp only at he; repeat' (first | (cases he; done) | split at he)
      case load => unfold aLoad at he; repeat' (first | (cases he; done) | split at he)
      case nilCheck => unfold aNil at he; repeat' (first | (cases he; done) | split at he)
      case binOp => unfold aBin aBinInt aBinStr aBinBool aBinAgg aListNil aNilEq at he; repeat' (first | (cases he; done) | split at he)
      case unOp => unfold aUn at he; repeat' (first | (cases he; done) | split at he)
      case convert => unfold aConvert at he; repeat' (first | (cases he; done) | split at he)
      case makeFunc => cases he
      case slice => unfold aSlice at he; repeat' (first | (cases he; done) | split at he)
      case fieldAddr => unfold aFieldAddr at he; repeat' (first | (cases he; done) | split at he)
      case field => unfold aField at he; repeat' (first | (cases he; done) | split at he)
      case indexAddr => unfold aIndexAddr at he; repeat' (first | (cases he; done) | split at he)
      case index => unfold aIndex at he; repeat' (first | (cases he; done) | split at he)
      case extract => unfold aExtract at he; repeat' (first | (cases he; done) | split at he)
    | false =>
      rw [← aOp_at] at he
      unfold aOp at he
      cases ho : o.op <;> rw [ho] at he <;> dsimp only at he
      case call c =>
        unfold aCall at he
        split at he
        · exfalso
          unfold aBuiltin aLen aAppend aClear at he
          repeat' (first | cases he | split at he)
        · cases he
        · rename_i f hf
          exact ⟨c, f, rfl, hf⟩
      all_goals exfalso
      case move => cases he
      case assign => cases he
      case pick => unfold aPick at he; repeat' (first | (cases he; done) | split at he)
      case alloc => unfold aAlloc at he; repeat' (first | (cases he; done) | split at he)
      case box => unfold aBox at he; repeat' (first | (cases he; done) | split at he)
      case build => unfold aBuild at he; repeat' (first | (cases he; done) | split at he)
      case buildSlice => unfold aBuildSlice at he; dsimp only at he; repeat' (first | (cases he; done) | split at he)
      case load => unfold aLoad at he; repeat' (first | (cases he; done) | split at he)
      case store => unfold aStore at he; dsimp only at he; repeat' (first | (cases he; done) | split at he)
      case nilCheck => unfold aNil at he; repeat' (first | (cases he; done) | split at he)
      case binOp => unfold aBin aBinInt aBinStr aBinBool aBinAgg aListNil aNilEq at he; repeat' (first | (cases he; done) | split at he)
      case unOp => unfold aUn at he; repeat' (first | (cases he; done) | split at he)
      case convert => unfold aConvert at he; repeat' (first | (cases he; done) | split at he)
      case makeFunc => cases he
      case makeSlice => unfold aMakeSlice at he; repeat' (first | (cases he; done) | split at he)
      case slice => unfold aSlice at he; repeat' (first | (cases he; done) | split at he)
      case fieldAddr => unfold aFieldAddr at he; repeat' (first | (cases he; done) | split at he)
      case field => unfold aField at he; repeat' (first | (cases he; done) | split at he)
      case indexAddr => unfold aIndexAddr at he; repeat' (first | (cases he; done) | split at he)
      case index => unfold aIndex at he; repeat' (first | (cases he; done) | split at he)
      case extract => unfold aExtract at he; repeat' (first | (cases he; done) | split at he)
      all_goals cases he
  obtain ⟨c, f, hoc, hcf⟩ := hc
  unfold aOpAt at he ⊢
  rw [hoc] at he ⊢
  simp only [hcf] at he ⊢
  have := aValCall_idle P (s.ev f) (c.args.toList.map s.ev) S s
  rw [this, he]
  rfl

/-- The same call, on other slots. -/
theorem callStep_on {mode mode' : Mode} {todo todo' : List Item} {s S : St} {dst : Option Nat} {g g' : Nat} {args args' : List AV} {hin : List AO} {k : Site} (hc : callStep P mode todo s dst g args = .call g' args' hin k) (e1 : S.hp = s.hp) (e2 : S.m = s.m) :
    ∃ k', callStep P mode' todo' S dst g args = .call g' args' hin k' ∧ k'.s = S ∧ k'.tr = k.tr ∧ k'.bor = k.bor := by
  unfold callStep at hc ⊢
  split at hc
  · cases hc
  · dsimp only at hc ⊢
    rw [e1]
    split at hc
    · cases hc
    · simp only [Step.call.injEq] at hc
      obtain ⟨rfl, rfl, rfl, rfl⟩ := hc
      exact ⟨_, rfl, rfl, rfl, rfl⟩

/-- One operation of any order. -/
theorem next_ends (H : ∀ j, j < ops.size → Fact P ops st cl fp j) (hs : slotsOk ops = true) {i : Nat} {o : Oper} (hn : Next ops D i o) (inv : InvD ops st cl D S) {rest : List Nat} {k : List Item}
    (hl : ∀ S', InvD ops st cl (Plus D i) S' → Leads P f (.inRegion ops rest :: k) S' res hout) : Leads P f (.inRegion ops (i :: rest) :: k) S res hout := by
  have hi := hn.lt
  obtain ⟨o', m, ho', hd, _, _⟩ := H i hi
  have ho := hn.ho
  rw [ho] at ho'
  simp only [Option.some.injEq] at ho'
  subst ho'
  intro I w bl tv b cs hf hk hS hG
  -- the full ones: the state is the text's own
  rcases Nat.lt_or_ge (cl i) 4 with hc | hc
  rotate_left
  · have hfull : ∀ k, k < ops.size → Ordered ops k i := fun k hk => full_ordered H hi hk hc
    obtain ⟨e1, e2⟩ := agree_hp H hn inv (fun k hk _ _ => hfull k hk)
    have hSt : S = st i := St.ext' (List.ext_getElem? fun t => agree_tm H hn inv (fun k hk _ _ => hfull k hk)) e1 e2
    have hl' := hl _ (inv_full H hn hc)
    subst hSt
    generalize st (i + 1) = s' at hd hl'
    generalize hci : cl i = c at hd
    generalize hfi : fp i = f0 at hd
    cases hd with
    | skip hg => exact skip_ends hf hk hS hG ho (guard_wanted hS hg) hl'
    | op hg hcl he => exact op_ends hf hk hS hG ho (guard_wanted hS hg) (opStep_gives he hl')
    | call hg hcl he hr hp hcall hcon hcc =>
      rename_i r0 ho0
      have := callCls_lt r0 ho0
      omega
    | borrow hg hcl he hcall htr hcon hlf => omega
    | write hg hcl he hcall hw hcon => omega
    | full hg he hcall hcon =>
      refine op_ends hf hk hS hG ho (guard_wanted hS hg) ?_
      unfold opStep
      rw [he]
      dsimp only
      rename_i mode0 todo0 g args args' hin kk r0 ho0
      unfold callStep at hcall ⊢
      split at hcall
      · cases hcall
      · rename_i fn hfn
        dsimp only at hcall ⊢
        split at hcall
        · cases hcall
        · rename_i hall
          simp only [Step.call.injEq] at hcall
          obtain ⟨_, h2, h3, h4⟩ := hcall
          refine ⟨r0, ho0, ?_, trivial, ?_⟩
          · rw [h2, h3]; exact hcon
          · unfold Site.resume
            subst h4
            exact hl'
  -- the others
  have hag : ∀ t, (t ∈ o.looksAt ops ∨ o.dst = some t) → S.tm[t]? = (st i).tm[t]? := fun t ht =>
    agree_tm H hn inv (fun k hk hne ha => aff_ordered H hs hi hk hne ho ht ha)
  have hev : ∀ x ∈ o.op.operands, S.ev x = (st i).ev x := fun x hx => ev_same x fun t ht => hag t (.inl (by
    unfold Oper.looksAt
    refine List.mem_append_left _ (List.mem_filterMap.mpr ⟨x, by simpa using hx, by rw [ht]⟩)))
  have hagh : 2 ≤ cl i → S.hp = (st i).hp ∧ S.m = (st i).m := fun h1 =>
    agree_hp H hn inv (fun k hk hne h2 => confl_ordered H hi hk (by unfold Confl; omega) (by unfold Confl; omega))
  -- what is put
  have hput : ∀ (S1 s1 : St) (v : AV), st (i + 1) = s1.put o.dst v → S1.tm = S.tm → s1.tm = (st i).tm → (cl i < 2 → S1.hp = S.hp ∧ S1.m = S.m) → (2 ≤ cl i → S1.hp = s1.hp ∧ S1.m = s1.m) → InvD ops st cl (Plus D i) (S1.put o.dst v) := by
    intro S1 s1 v e1 e2 e3 e4 e5
    refine inv_soft H hs hn inv hc (fun t ht => by rw [put_tm_ne ht, e2]) (fun t ht => ?_) (fun h => by rw [put_hp, put_m]; exact e4 h) (fun h => by rw [put_hp, put_m, e1, put_hp, put_m]; exact e5 h)
    rw [e1, ht, put_tm_eq, put_tm_eq, e2, e3, hag t (.inr ht)]
  generalize hs' : st (i + 1) = s' at hd
  generalize hci : cl i = c at hd
  generalize hfi : fp i = f0 at hd
  cases hd with
  | skip hg =>
    have hg' := guard_same (fun t ht => hag t (.inl ht)) hg
    have hinv := hput S (st i) (.tup []) hs' rfl rfl (fun _ => ⟨rfl, rfl⟩) (fun h2 => hagh (by omega))
    exact skip_ends hf hk hS hG ho (guard_wanted hS hg') (hl _ hinv)
  | op hg hcl he =>
    have hg' := guard_same (fun t ht => hag t (.inl ht)) hg
    rename_i s1 v
    have hcle : cls (st i) o.op = cl i := by rw [hcl, hci]
    obtain ⟨S1, h1, h2, h3, h4⟩ := op_moves he hev (by omega) (fun h r hr => agree_at H hn inv (by omega) r (by rw [hfi, ← hci, ← hcle, h]; exact hr)) (fun h => hagh (by omega))
    have hinv := hput S1 s1 v hs' h2 (op_leaves he (by omega)).1 (fun h => by rw [h3 (by omega)]; exact ⟨rfl, rfl⟩) (fun h => h4 (by omega))
    exact op_ends hf hk hS hG ho (guard_wanted hS hg') (opStep_gives h1 (hl _ hinv))
  | call hg hcl he hr hp hcall hcon hcc =>
    have hg' := guard_same (fun t ht => hag t (.inl ht)) hg
    rename_i mode0 todo0 g args args' hin kk r0 ho0
    obtain ⟨_, q1, q2, q3, _⟩ := dstep_free hr hp hcall
    have he' : aOp P o S = .enter g args := by
      have hpure : pureAt (st i) o.op = true := by
        unfold cls at hcl
        cases hx : pureAt (st i) o.op with
        | true => rfl
        | false =>
          rw [hx] at hcl
          cases hy : readOp o.op with
          | true => rw [hy] at hcl; simp at hcl
          | false => rw [hy] at hcl; cases hz : allocAt (st i) o.op <;> cases hz' : writeAt (st i) o.op <;> rw [hz] at hcl <;> try rw [hz'] at hcl
                     all_goals simp at hcl
      rw [aOp_at, aOpAt_same P o S hev, aOpAt_idle P o hpure S (st i), ← aOp_at, he]
      rfl
    refine op_ends hf hk hS hG ho (guard_wanted hS hg') (opStep_call he' hr hp hcall hcon (hl _ ?_))
    rw [state_free q1 q2, q3] at hs'
    rcases callCls_cases r0 ho0 with h0 | h2
    · obtain ⟨rfl, hrr⟩ := callCls_zero h0
      rw [AV.sub_free r0 hrr] at hs' ⊢
      simp only [List.map_nil, List.append_nil] at hs' ⊢
      exact hput _ (st i) r0 hs' rfl rfl (fun _ => ⟨rfl, rfl⟩) (fun h2 => by omega)
    · obtain ⟨e1, e2⟩ := hagh (by omega)
      rw [e1, e2]
      refine hput ⟨S.tm, (st i).hp ++ ho0.map (AO.sub (gBack [] (st i).hp.length)), (st i).m⟩ ⟨(st i).tm, (st i).hp ++ ho0.map (AO.sub (gBack [] (st i).hp.length)), (st i).m⟩ _ hs' rfl rfl (fun h => by omega) (fun _ => ⟨rfl, rfl⟩)
  | borrow hg hcl he hcall htr hcon hlf =>
    have hg' := guard_same (fun t ht => hag t (.inl ht)) hg
    rename_i mode0 todo0 g args args' hin kk r0 ho0
    obtain ⟨e1, e2⟩ := hagh (by omega)
    have he' : aOp P o S = .enter g args := enter_same he hev
    have hks := callStep_s hcall
    obtain ⟨k', hcall', hk1, hk2, hk3⟩ := callStep_on (mode' := .run) (todo' := .inRegion ops rest :: k) (S := S) hcall e1 e2
    rw [state_lent htr hlf, hks] at hs'
    refine op_ends hf hk hS hG ho (guard_wanted hS hg') ?_
    unfold opStep
    rw [he']
    dsimp only
    rw [hcall']
    refine ⟨r0, ho0, hcon, ?_, ?_⟩
    · unfold Site.calm
      obtain ⟨_, hm, _, _⟩ := callStep_parts hcall'
      rw [hm]
      trivial
    · unfold Site.resume
      obtain ⟨_, hm, htd, hdd⟩ := callStep_parts hcall'
      rw [state_lent (by rw [hk2]; exact htr) hlf, hm, htd, hdd, hk1, e1, e2]
      refine hl _ ?_
      exact hput ⟨S.tm, (st i).hp ++ ho0.map (AO.sub (gBack [] (st i).hp.length)), (st i).m⟩ ⟨(st i).tm, (st i).hp ++ ho0.map (AO.sub (gBack [] (st i).hp.length)), (st i).m⟩ _ hs' rfl rfl (fun h => by omega) (fun _ => ⟨rfl, rfl⟩)
  | write hg hcl he hcall hw hcon =>
    have hg' := guard_same (fun t ht => hag t (.inl ht)) hg
    rename_i mode0 todo0 g args args' hin kk r0 ho0
    obtain ⟨e1, e2⟩ := hagh (by omega)
    have he' : aOp P o S = .enter g args := enter_same he hev
    have hks := callStep_s hcall
    obtain ⟨k', hcall', hk1, hk2, hk3⟩ := callStep_on (mode' := .run) (todo' := .inRegion ops rest :: k) (S := S) hcall e1 e2
    have hw' : callW k'.s k'.tr k'.bor = true := by
      rw [hk1, hk2, hk3]
      unfold callW at hw ⊢
      simp only [Bool.and_eq_true] at hw ⊢
      rw [e1]
      refine ⟨⟨hw.1.1, ?_⟩, hw.2⟩
      refine repL_calm (E := I.env w bl S.hp) (fun r hr => ?_) _ _ hS.tm
      show isBox S.hp r = true
      rw [e1]
      have := hw.1.1.2
      rw [List.all_eq_true] at this
      exact this r hr
    rw [write_state (by rw [hks]; exact hw), hks] at hs'
    refine op_ends hf hk hS hG ho (guard_wanted hS hg') ?_
    unfold opStep
    rw [he']
    dsimp only
    rw [hcall']
    refine ⟨r0, ho0, hcon, ?_, ?_⟩
    · unfold Site.calm
      obtain ⟨_, hm, _, _⟩ := callStep_parts hcall'
      rw [hm]
      trivial
    · unfold Site.resume
      obtain ⟨_, hm, htd, hdd⟩ := callStep_parts hcall'
      rw [write_state hw', hm, htd, hdd, hk1, hk2, e1, e2]
      refine hl _ ?_
      exact hput ⟨S.tm, wroteTo (st i).hp kk.tr ho0, (st i).m⟩ ⟨(st i).tm, wroteTo (st i).hp kk.tr ho0, (st i).m⟩ _ hs' rfl rfl (fun h => by omega) (fun _ => ⟨rfl, rfl⟩)
  | full hg he hcall hcon => omega

/-! ### all orders -/

def On (listed : Array Bool) (i : Nat) : Prop := listed.getD i false = true

def left (listed : Array Bool) : Nat → Nat
  | 0 => 0
  | n + 1 => left listed n + (if listed.getD n false = true then 0 else 1)

theorem left_zero {listed : Array Bool} : ∀ n, left listed n = 0 → ∀ i, i < n → On listed i
  | 0, _, i, hi => by omega
  | n + 1, h, i, hi => by
    unfold left at h
    by_cases hin : i = n
    · subst hin
      unfold On
      split at h
      · assumption
      · omega
    · exact left_zero n (by omega) i (by omega)

theorem left_set_ge {listed : Array Bool} {i : Nat} : ∀ n, n ≤ i → left (listed.setIfInBounds i true) n = left listed n
  | 0, _ => rfl
  | n + 1, h => by
    unfold left
    rw [left_set_ge n (by omega), getD_set_ne false (by omega)]

theorem left_set {listed : Array Bool} {i : Nat} (hu : ¬ On listed i) (hl : i < listed.size) : ∀ n, i < n → left (listed.setIfInBounds i true) n + 1 = left listed n
  | 0, h => by omega
  | n + 1, h => by
    unfold left
    by_cases hin : i = n
    · subst hin
      rw [left_set_ge i (Nat.le_refl _)]
      have h1 : (listed.setIfInBounds i true).getD i false = true := by simp [hl]
      rw [if_pos h1, if_neg (show ¬ listed.getD i false = true from hu)]
    · rw [getD_set_ne false hin]
      have := left_set hu hl n (by omega)
      omega

theorem all_on {listed : Array Bool} (hsz : listed.size = ops.size) (ha : drawOk.afterOk ops = true) (h : Region.ready .any ops listed = []) : ∀ i, i < ops.size → On listed i := by
  intro i
  induction i using Nat.strongRecOn with
  | ind i ih =>
    intro hi
    cases hq : listed.getD i false with
    | true => exact hq
    | false =>
      exfalso
      have hmem : i ∈ Region.ready .any ops listed := by
        rw [mem_ready]
        refine ⟨?_, ops[i], by simp [hi], ?_⟩
        · have : i < listed.size := by omega
          simpa [this] using hq
        · intro e he hb
          refine ih e.on ?_ ?_
          · unfold drawOk.afterOk at ha
            rw [List.all_eq_true] at ha
            have := ha (ops[i], i) (by
              rw [List.mem_zipIdx_iff_getElem?]
              simp [hi])
            simp only [Bool.and_eq_true, Array.all_eq_true_iff_forall_mem, Bool.or_eq_true, decide_eq_true_eq, Bool.not_eq_true'] at this
            rcases this.1 e he with h' | h'
            · exact h'
            · rw [hb] at h'; cases h'
          · unfold drawOk.afterOk at ha
            rw [List.all_eq_true] at ha
            have := ha (ops[i], i) (by
              rw [List.mem_zipIdx_iff_getElem?]
              simp [hi])
            simp only [Bool.and_eq_true, Array.all_eq_true_iff_forall_mem, Bool.or_eq_true, decide_eq_true_eq, Bool.not_eq_true'] at this
            rcases this.1 e he with h' | h'
            · omega
            · rw [hb] at h'; cases h'
      rw [h] at hmem
      cases hmem

theorem inv_all (H : ∀ j, j < ops.size → Fact P ops st cl fp j) (inv : InvD ops st cl D S) (h : ∀ i, i < ops.size → D i) : S = st ops.size := by
  have h2 : S.hp = (st ops.size).hp ∧ S.m = (st ops.size).m := by
    obtain ⟨j, hj, hv, hno⟩ := lastver (fun k => 2 ≤ cl k) ops.size
    obtain ⟨e1, e2⟩ := chain_hp H ops.size hj (Nat.le_refl _) hno
    rw [e1, e2]
    refine inv.hp j hj (hv.imp id ?_) (fun k h1 h2 _ => by have := hno k h1 h2; omega)
    rintro ⟨k, rfl, hk⟩
    exact ⟨k, rfl, h k (by omega), hk⟩
  refine St.ext' (List.ext_getElem? fun t => ?_) h2.1 h2.2
  obtain ⟨j, hj, hv, hno⟩ := lastver (fun k => Aff ops cl k t) ops.size
  rw [chain_tm H ops.size hj (Nat.le_refl _) hno]
  refine inv.tm t j hj (hv.imp id ?_) (fun k h1 h2 _ => hno k h1 h2)
  rintro ⟨k, rfl, hk⟩
  exact ⟨k, rfl, h k (by omega), hk⟩

theorem end_leads {k : List Item} {s : St} (hl : Leads P f k s res hout) : Leads P f (.inRegion ops [] :: k) s res hout :=
  fun I w bl tv b cs hf hk hS hG => Ends.head (.one step_region_end) (hl I w bl tv b cs hf hk hS hG)

theorem inv_weak {D' : Nat → Prop} (h : ∀ k, D k ↔ D' k) (inv : InvD ops st cl D S) : InvD ops st cl D' S := by
  have : D = D' := funext fun k => propext (h k)
  subst this
  exact inv

theorem sched_leads (H : ∀ j, j < ops.size → Fact P ops st cl fp j) (hs : slotsOk ops = true) (ha : drawOk.afterOk ops = true) {k : List Item} (hl : Leads P f k (st ops.size) res hout) :
    ∀ (fuel t : Nat) (listed : Array Bool) (S : St), listed.size = ops.size → Closed ops (On listed) → left listed ops.size ≤ fuel → InvD ops st cl (On listed) S →
      Leads P f (.inRegion ops (Region.linearise.go .any ops fuel t listed []) :: k) S res hout := by
  intro fuel
  induction fuel with
  | zero =>
    intro t listed S hsz hcl hlf inv
    have hS := inv_all H inv (left_zero ops.size (by omega))
    simp only [Region.linearise.go, List.reverse_nil]
    rw [hS]
    exact end_leads hl
  | succ fuel ih =>
    intro t listed S hsz hcl hlf inv
    simp only [Region.linearise.go]
    change Leads P f (.inRegion ops (match (Region.ready .any ops listed)[t % (Region.ready .any ops listed).length]? with
      | some i => Region.linearise.go .any ops fuel (t / (Region.ready .any ops listed).length) (listed.setIfInBounds i true) [i]
      | none => [].reverse) :: k) S res hout
    cases hi : (Region.ready .any ops listed)[t % (Region.ready .any ops listed).length]? with
    | none =>
      have hnil : Region.ready .any ops listed = [] := by
        cases hr : Region.ready .any ops listed with
        | nil => rfl
        | cons x xs =>
          rw [hr] at hi
          have hlt : t % (x :: xs).length < (x :: xs).length := Nat.mod_lt _ (by simp)
          simp at hi
          simp at hlt
          omega
      have hS := inv_all H inv (all_on hsz ha hnil)
      simp only [List.reverse_nil]
      rw [hS]
      exact end_leads hl
    | some i =>
      simp only []
      rw [linearise_go_acc, List.reverse_singleton, List.singleton_append]
      have hmem := List.mem_of_getElem? hi
      rw [mem_ready] at hmem
      obtain ⟨h0, o, ho, hdeps⟩ := hmem
      have hlt : i < ops.size := (Array.getElem?_eq_some_iff.1 ho).1
      have hfresh : ¬ On listed i := by
        intro hon
        unfold On at hon
        have hl' : i < listed.size := by omega
        simp [hl'] at h0 hon
        rw [h0] at hon
        cases hon
      refine next_ends H hs ⟨ho, hcl, hfresh, hdeps⟩ inv fun S' hinv => ?_
      have hon : ∀ j, On (listed.setIfInBounds i true) j ↔ Plus (On listed) i j := by
        intro j
        unfold On Plus
        constructor
        · intro h
          by_cases hji : j = i
          · exact .inr hji
          · rw [getD_set_ne false (Ne.symm hji)] at h
            exact .inl h
        · rintro (h | rfl)
          · exact getD_set_true h
          · have hl' : j < listed.size := by omega
            simp [hl']
      refine ih _ _ S' (by simpa using hsz) ?_ ?_ (inv_weak (fun j => (hon j).symm) hinv)
      · intro j o' e hj ho' he hb
        rw [hon] at hj ⊢
        rcases hj with hj | rfl
        · exact .inl (hcl j o' e hj ho' he hb)
        · rw [ho] at ho'
          simp only [Option.some.injEq] at ho'
          subst ho'
          exact .inl (hdeps e he hb)
      · have := left_set hfresh (by omega) ops.size hlt
        omega

/-- A region that draws its order may be taken in the order of the text. -/
theorem draw_leads {id : Nat} {k : List Item} {s s' : St} (hd : drawOk P ops = true) (hrun : DRun P ops 0 Mk.none s s') (hl : Leads P f k s' res hout) : Leads P f (.code (.region id ops true) :: k) s res hout := by
  unfold drawOk at hd
  simp only [Bool.and_eq_true] at hd
  obtain ⟨⟨hm, hs⟩, ha⟩ := hd
  obtain ⟨st, cl, fp, h1, _, h3, h4⟩ := drun_trace hrun (fun _ => 0) (fun _ => []) (fun _ => 0) ⟨fun k hk => by omega, fun k hk => by omega, fun k hk => by omega, fun k hk => by omega⟩ (Nat.zero_le _)
  subst h1
  subst h3
  have H : ∀ j, j < ops.size → Fact P ops st cl fp j := fun j hj => by
    obtain ⟨o, m, g1, g2, g3, g4⟩ := h4 j (Nat.zero_le _) hj
    exact ⟨o, m, g1, g2, g3, fun k hk hc => g4 k hk (by rw [if_neg (by omega)]; exact hc)⟩
  intro I w bl tv b cs hf hk hS hG
  have hoff : ∀ i, ¬ On (Array.replicate ops.size false) i := by
    intro i h
    unfold On at h
    by_cases hi : i < ops.size <;> simp [hi] at h
  have hleft : ∀ n, left (Array.replicate ops.size false) n ≤ n := by
    intro n
    induction n with
    | zero => exact Nat.le_refl _
    | succ n ih => unfold left; split <;> omega
  have hgo := fun t => sched_leads (P := P) (f := f) (res := res) (hout := hout) H hs ha (k := k) hl ops.size t (Array.replicate ops.size false) (st 0) (by simp) (fun i o e hi => absurd hi (hoff i)) (hleft _)
    ⟨fun t j hj hv hno => by
      rcases hv with rfl | ⟨i, rfl, hi, _⟩
      · rfl
      · exact absurd hi (hoff i), fun j hj hv hno => by
      rcases hv with rfl | ⟨i, rfl, hi, _⟩
      · exact ⟨rfl, rfl⟩
      · exact absurd hi (hoff i)⟩
  refine Ends.head (.one step_region_draw) ?_
  simp only [Region.schedule, hm, Bool.true_or, if_true]
  exact hgo _ I { w with drawn := w.drawn + 1 } bl tv b cs hf hk hS.drew hG

end
end Go.Cellar
