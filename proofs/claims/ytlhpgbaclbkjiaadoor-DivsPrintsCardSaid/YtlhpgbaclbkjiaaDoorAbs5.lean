/- Each operation, over the invariant: what the abstract machine says of it, the machine does. No condition. -/
import Derived.Test.YtlhpgbaclbkjiaaDoorAbs4
import Derived.Laws.MakeOwn
import Derived.Laws.Append
import Derived.Laws.Strings
import Derived.Laws.Entries
import Derived.Laws.StructEq
import Derived.Laws.Cover3
set_option linter.unusedVariables false
set_option linter.unusedSimpArgs false
namespace Go.Cellar
open Go

/-- What an effect comes to. -/
def Eff.gives : Eff → AV → St → Prop
  | .val v s, v', s' => v = v' ∧ s = s'
  | .need p v s, v', s' => p ∧ v = v' ∧ s = s'
  | .ask b v1 v2 s, v', s' => v' = (match b with | true => v1 | false => v2) ∧ s = s'
  | _, _, _ => False

/-- The machine's operation yields a value (or is done with). -/
def Yields' (r : Result Next) (val : Value) (w' : World) : Prop := r = .ok (.value val) w' ∨ (r = .ok .skip w' ∧ val = undef)

def EffOk (I : Inp) (w : World) (bl : List (Option Nat)) (tmps : List Value) (r : Result Next) (e : Eff) : Prop :=
  ∀ v s', e.gives v s' → ∃ val w' bl', Yields' r val w' ∧ Sim I w' bl' s' tmps ∧ Rep (I.env w' bl' s'.hp) v val

section
variable {P : Program} {I : Inp} {w : World} {bl : List (Option Nat)} {s : St} {tmps : List Value}

theorem EffOk.fail {r : Result Next} : EffOk I w bl tmps r .fail := fun _ _ h => h.elim

theorem EffOk.same {r : Result Next} {v : AV} {val : Value} (h : Sim I w bl s tmps) (hr : r = .ok (.value val) w) (hv : Rep (I.env w bl s.hp) v val) : EffOk I w bl tmps r (.val v s) := by
  rintro v' s' ⟨rfl, rfl⟩
  exact ⟨val, w, bl, .inl hr, h, hv⟩

theorem EffOk.needs {r : Result Next} {p : Prop} {v : AV} {val : Value} (h : Sim I w bl s tmps) (hr : p → r = .ok (.value val) w ∧ Rep (I.env w bl s.hp) v val) : EffOk I w bl tmps r (.need p v s) := by
  rintro v' s' ⟨hp, rfl, rfl⟩
  exact ⟨val, w, bl, .inl (hr hp).1, h, (hr hp).2⟩

theorem EffOk.need {r : Result Next} {p : Prop} {v : AV} {s1 : St} (hr : p → EffOk I w bl tmps r (.val v s1)) : EffOk I w bl tmps r (.need p v s1) := by
  rintro v' s' ⟨hp, rfl, rfl⟩
  exact hr hp _ _ ⟨rfl, rfl⟩

def runV (P : Program) (x : Sem Value) (w : World) : Result Next := Sem.run P (do pure (Next.value (← x))) w
theorem runV_ok {x : Sem Value} {v : Value} {w w' : World} (h : x.run P w = .ok v w') : runV P x w = .ok (.value v) w' := by
  simp [runV, h]

theorem ba_toList (b : ByteArray) : b.toList = b.data.toList := ByteArray.toList_eq b

theorem ba_size (l : List UInt8) : (⟨l.toArray⟩ : ByteArray).size = l.length := by
  show l.toArray.size = _
  simp

theorem ba_append (a b : List UInt8) : (⟨a.toArray⟩ : ByteArray) ++ ⟨b.toArray⟩ = ⟨(a ++ b).toArray⟩ := by
  apply ByteArray.ext
  simp

theorem eqGuard_other (op : BinOp) (t : TypeId) (x y : Operand) (a b : Value) (w : World) (h : (op ≠ .eql ∧ op ≠ .neq) ∨ ((∀ cs, a ≠ .agg cs) ∧ a ≠ .nilIface)) : (eqGuard op t x y a b).run P w = .ok () w := by
  unfold eqGuard
  rcases h with ⟨h1, h2⟩ | ⟨h1, h2⟩
  · cases op <;> first | (exact absurd rfl h1) | (exact absurd rfl h2) | rfl
  · cases op <;> first | rfl | (cases a <;> first | rfl | (exact absurd rfl h2) | (exact absurd rfl (h1 _)))

theorem aBin_int {op : BinOp} {t : TypeId} {k k' : IntKind} {a b : Int} (h : Sim I w bl s tmps) (xo yo : Operand) :
    EffOk I w bl tmps (runV P (do eqGuard op t xo yo (.int k a) (.int k' b); binOp op t (.int k a) (.int k' b)) w) (aBinInt op k a k' b s) := by
  have hg : ∀ w, (eqGuard op t xo yo (.int k a) (.int k' b)).run P w = .ok () w := fun w => eqGuard_other op t xo yo _ _ w (.inr ⟨fun _ => by simp, by simp⟩)
  by_cases hs : op = .shl ∨ op = .shr
  · rcases hs with rfl | rfl
    · simp only [aBinInt]
      refine EffOk.needs h fun hb => ⟨runV_ok ?_, rfl⟩
      have : ¬ b < 0 := by omega
      simp [hg, binOp, Op.shift, this]
    · simp only [aBinInt]
      refine EffOk.needs h fun hb => ⟨runV_ok ?_, rfl⟩
      have : ¬ b < 0 := by omega
      simp [hg, binOp, Op.shift, this]
  · have h1 : op ≠ .shl := fun e => hs (.inl e)
    have h2 : op ≠ .shr := fun e => hs (.inr e)
    by_cases hk : k = k'
    · subst hk
      cases op <;> simp only [aBinInt, if_true, ne_eq] <;> first
        | exact absurd rfl h1
        | exact absurd rfl h2
        | (refine EffOk.needs h fun hb => ⟨runV_ok ?_, rfl⟩; simp [hg, binOp, Op.intDiv, hb])
        | (refine EffOk.same h (runV_ok ?_) rfl; simp [hg, binOp, Op.intArith, Op.intBits, Op.intCmp]; done)
        | (refine EffOk.same h (runV_ok ?_) rfl; simp [hg, binOp, Op.intArith, Op.intBits, Op.intCmp]; rfl)
        | exact EffOk.fail
    · cases op <;> simp only [aBinInt, if_neg hk] <;> first
        | exact absurd rfl h1
        | exact absurd rfl h2
        | exact EffOk.fail

theorem aBin_str {op : BinOp} {t : TypeId} {a b : List UInt8} (h : Sim I w bl s tmps) (xo yo : Operand) :
    EffOk I w bl tmps (runV P (do eqGuard op t xo yo (.string ⟨a.toArray⟩) (.string ⟨b.toArray⟩); binOp op t (.string ⟨a.toArray⟩) (.string ⟨b.toArray⟩)) w) (aBinStr op a b s) := by
  have hg : ∀ w, (eqGuard op t xo yo (.string ⟨a.toArray⟩) (.string ⟨b.toArray⟩)).run P w = .ok () w := fun w => eqGuard_other op t xo yo _ _ w (.inr ⟨fun _ => by simp, by simp⟩)
  have e : (a == b) = decide (a = b) := by rw [Bool.eq_iff_iff]; simp
  cases op <;> simp only [aBinStr] <;> first
    | exact EffOk.fail
    | (refine EffOk.same h (runV_ok ?_) rfl; simp [hg, binOp, Op.stringOp, e]; done)
    | skip
  refine EffOk.needs h fun hb => ⟨runV_ok (v := .string ⟨(a ++ b).toArray⟩) ?_, rfl⟩
  have : ¬ ((9223372036854775807 : Int) < (a.length : Int) + (b.length : Int)) := by omega
  simp [hg, binOp, Op.stringOp, ba_size, this, IntKind.max, ba_append, IntKind.signed, IntKind.bits]

theorem isBoolT_some {t : TypeId} (h : isBoolT P t = true) : P.underlying t = some .bool := by
  unfold isBoolT at h
  split at h
  · assumption
  · cases h

theorem aBin_bool {op : BinOp} {t : TypeId} {a b : Bool} (h : Sim I w bl s tmps) (xo yo : Operand) :
    EffOk I w bl tmps (runV P (do eqGuard op t xo yo (.bool a) (.bool b); binOp op t (.bool a) (.bool b)) w) (aBinBool P op t a b s) := by
  have hg : ∀ w, (eqGuard op t xo yo (.bool a) (.bool b)).run P w = .ok () w := fun w => eqGuard_other op t xo yo _ _ w (.inr ⟨fun _ => by simp, by simp⟩)
  cases op <;> simp only [aBinBool] <;> first
    | exact EffOk.fail
    | skip
  all_goals
    split
    · rename_i hb
      have hu := isBoolT_some hb
      refine EffOk.same h (runV_ok ?_) rfl
      have he := run_equalIn_bool' (P := P) w 9999 t a b hu
      simp only [Sem.run_bind, hg, Result.andThen_ok, binOp, Op.equal, Op.maxDepth, he, Sem.run_pure]
      cases a <;> cases b <;> rfl
    · exact EffOk.fail

theorem info_of_fits {t : TypeId} (h : fitsT P t = true) : ∃ d i, P.underlying t = some d ∧ P.info? t = some i ∧ (isAggT P t = true ∨ (isAggT P t = false ∧ sizeT P t = 1)) := by
  simp only [fitsT, Bool.and_eq_true, Option.isSome_iff_exists, Bool.or_eq_true, beq_iff_eq] at h
  obtain ⟨⟨⟨d, h1⟩, i, h2⟩, h3⟩ := h
  refine ⟨d, i, h1, h2, ?_⟩
  cases h4 : isAggT P t
  · simp only [h4, Bool.false_eq_true, false_or] at h3; exact .inr ⟨rfl, h3⟩
  · exact .inl rfl

theorem run_isAgg {t : TypeId} {d : TypeDesc} (h : P.underlying t = some d) (w : World) : (isAgg t).run P w = .ok (isAggT P t) w := by
  simp only [isAgg, Sem.run_bind, run_underlying h, Result.andThen_ok, isAggT, h]
  cases d <;> rfl

theorem run_sizeOf' {t : TypeId} {i : TypeInfo} (h : P.info? t = some i) (w : World) : (sizeOf t).run P w = .ok (sizeT P t) w := by
  simp [sizeOf, typeInfo, h, sizeT]

theorem run_zeroValue {t : TypeId} {i : TypeInfo} {z : Value} (h : P.info? t = some i) (hz : i.zero = some z) (w : World) : (zeroValue t).run P w = .ok z w := by
  simp [zeroValue, typeInfo, h, hz]

/-- The value that cells of a type make. -/
def valOf (P : Program) (t : TypeId) (vs : List Value) : Value := if isAggT P t = true then .agg vs.toArray else vs.headD undef

theorem run_part {t : TypeId} (h : fitsT P t = true) (cs : Array Value) (off : Nat) (hl : off + sizeT P t ≤ cs.size) (w : World) :
    (Go.part t cs off).run P w = .ok (valOf P t ((cs.toList.drop off).take (sizeT P t))) w := by
  obtain ⟨d, i, h1, h2, h3⟩ := info_of_fits h
  simp only [Go.part, Sem.run_bind, run_isAgg h1, Result.andThen_ok]
  rcases h3 with h3 | ⟨h3, h4⟩
  · simp only [h3, if_true, Sem.run_bind, run_sizeOf' h2, Result.andThen_ok, Sem.run_pure, valOf]
    congr 2
    apply Array.ext'
    simp [Array.toList_extract, List.extract, Nat.add_sub_cancel_left]
  · have hlt : off < cs.size := by omega
    have e : (cs.toList.drop off).take 1 = [cs[off]] := by
      rw [List.take_one, List.head?_drop]
      simp [hlt]
    simp only [h3, h4, valOf, e, Bool.false_eq_true, if_false, List.headD_cons]
    simp [hlt]

theorem mkVal_rep {E : Env} {t : TypeId} (h : fitsT P t = true) {cs : List AV} {vs : List Value} (hr : RepL E cs vs) (hl : vs.length = sizeT P t) : Rep E (mkVal P t cs) (valOf P t vs) := by
  obtain ⟨d, i, h1, h2, h3⟩ := info_of_fits h
  unfold mkVal valOf
  rcases h3 with h3 | ⟨h3, h4⟩
  · simp only [h3, if_true, Rep]
    exact ⟨_, rfl, by simpa using hr⟩
  · simp only [h3, Bool.false_eq_true, if_false]
    rw [h4] at hl
    match vs, cs, hl, hr with
    | [v], [c], _, hr => simp only [RepL] at hr; obtain ⟨u, us, h5, h6, h7⟩ := hr; simp only [List.cons.injEq] at h5; obtain ⟨rfl, _⟩ := h5; exact h6
    | [v], [], _, hr => simp [RepL] at hr
    | [v], c :: d :: cs, _, hr => simp only [RepL] at hr; obtain ⟨u, us, h5, h6, q, qs, h7, _⟩ := hr; simp only [List.cons.injEq] at h5; obtain ⟨rfl, rfl⟩ := h5; simp at h7

theorem RepL.nil_inv {E : Env} {vs : List Value} (h : RepL E [] vs) : vs = [] := by simpa only [RepL] using h
theorem RepL.one_inv {E : Env} {a : AV} {vs : List Value} (h : RepL E [a] vs) : ∃ v, vs = [v] ∧ Rep E a v := by
  simp only [RepL] at h
  obtain ⟨v, vs', rfl, h1, rfl⟩ := h
  exact ⟨v, rfl, h1⟩

theorem beq_dec {α : Type} [DecidableEq α] [BEq α] [LawfulBEq α] (a b : α) : (a == b) = decide (a = b) := by
  rw [Bool.eq_iff_iff]; simp

theorem eqT_both {E : Env} (w : World) : ∀ (n : Nat),
    (∀ (t : TypeId) (xs ys : List AV) (r : Bool), eqT P n t xs ys = some r → ∀ d, n ≤ d → ∀ xv yv : List Value, RepL E xs xv → RepL E ys yv →
      (Op.equalIn d t (valOf P t xv) (valOf P t yv)).run P w = .ok r w) ∧
    (∀ (fs : List Field) (xs ys : List AV) (r : Bool), eqT.go P n fs xs ys = some r → ∀ d, n ≤ d → ∀ xv yv : List Value, RepL E xs xv → RepL E ys yv →
      (Op.eqFields d xv.toArray yv.toArray fs).run P w = .ok r w) := by
  intro n
  induction n with
  | zero => exact ⟨fun t xs ys r h => by simp [eqT] at h, fun fs xs ys r h => by simp [eqT.go] at h⟩
  | succ n ih =>
    obtain ⟨ih1, ih2⟩ := ih
    constructor
    · intro t xs ys r h d hd xv yv hx hy
      obtain ⟨d, rfl⟩ : ∃ d', d = d' + 1 := ⟨d - 1, by omega⟩
      unfold eqT at h
      split at h
      · rename_i a b hu
        obtain ⟨va, rfl, ha⟩ := hx.one_inv
        obtain ⟨vb, rfl, hb⟩ := hy.one_inv
        simp only [Rep] at ha hb
        subst ha hb
        have hag : isAggT P t = false := by simp [isAggT, hu]
        simp only [valOf, hag, Bool.false_eq_true, if_false, List.headD_cons]
        rw [run_equalIn_bool' _ _ _ _ _ hu]
        simp only [Option.some.injEq] at h
        rw [← h, beq_dec]
      · rename_i k0 k a k' b hu
        obtain ⟨va, rfl, ha⟩ := hx.one_inv
        obtain ⟨vb, rfl, hb⟩ := hy.one_inv
        simp only [Rep] at ha hb
        subst ha hb
        split at h
        · rename_i hk; subst hk
          have hag : isAggT P t = false := by simp [isAggT, hu]
          simp only [valOf, hag, Bool.false_eq_true, if_false, List.headD_cons]
          rw [run_equalIn_int _ _ _ _ _ _ _ hu]
          simp only [Option.some.injEq] at h
          rw [← h, beq_dec]
        · cases h
      · rename_i a b hu
        obtain ⟨va, rfl, ha⟩ := hx.one_inv
        obtain ⟨vb, rfl, hb⟩ := hy.one_inv
        simp only [Rep] at ha hb
        subst ha hb
        have hag : isAggT P t = false := by simp [isAggT, hu]
        simp only [valOf, hag, Bool.false_eq_true, if_false, List.headD_cons]
        rw [run_equalIn_string _ _ _ _ _ hu]
        simp only [Option.some.injEq] at h
        rw [← h]
        simp only [ByteArray.toList_mk]
        rw [beq_dec]
      · rename_i fs hu
        split at h
        · cases h
        · rename_i hst
          have hag : isAggT P t = true := by simp [isAggT, hu]
          simp only [valOf, hag, if_true]
          have hf : P.fieldsOf t = fs := by simp [Program.fieldsOf, hu]
          rw [run_equalIn_agg _ _ _ _ _ (by rw [hf]; exact hu) (by simpa using hst), hf]
          exact ih2 fs.toList _ _ r h d (by omega) xv yv hx hy
      · cases h
    · intro fs xs ys r h d hd xv yv hx hy
      cases fs with
      | nil =>
        simp only [eqT.go, Option.some.injEq] at h
        subst h
        simp [Op.eqFields]
      | cons f fs =>
        simp only [eqT.go] at h
        split at h
        · rename_i hn
          simp only [Op.eqFields, hn, ne_eq, not_true, if_false]
          exact ih2 fs xs ys r h d (by omega) xv yv hx hy
        · rename_i hn
          split at h
          · rename_i hc
            obtain ⟨hc1, hc2, hc3⟩ := hc
            have hlx := hx.length
            have hly := hy.length
            have p1 := run_part (P := P) hc3 xv.toArray f.offset (by simp; omega) w
            have p2 := run_part (P := P) hc3 yv.toArray f.offset (by simp; omega) w
            simp only [] at p1 p2
            split at h
            · cases h
            · rename_i r1 he
              have h1 := ih1 f.type _ _ r1 he d (by omega) _ _ ((hx.drop f.offset).take (sizeT P f.type)) ((hy.drop f.offset).take (sizeT P f.type))
              simp only [Op.eqFields, ne_eq, hn, not_false_eq_true, if_true, Sem.run_bind, p1, p2, Result.andThen_ok, h1, Sem.run_ite, Sem.run_pure]
              split at h
              · simp only [Option.some.injEq] at h
                subst h
                cases r1 <;> simp [Op.eqFields]
              · cases hq : eqT.go P n fs xs ys with
                | none => simp [hq] at h
                | some q =>
                  simp only [hq, Option.map_some, Option.some.injEq] at h
                  subst h
                  have h2 := ih2 fs xs ys q hq d (by omega) xv yv hx hy
                  cases r1
                  · simp
                  · simp [h2]
          · cases h

theorem isStructT_some {t : TypeId} (h : isStructT P t = true) : ∃ fs, P.underlying t = some (.struct fs) := by
  unfold isStructT at h
  split at h
  · exact ⟨_, by assumption⟩
  · cases h

theorem aBin_agg {op : BinOp} {t : TypeId} {a b : List AV} {x y : Array Value} (h : Sim I w bl s tmps) (hx : RepL (I.env w bl s.hp) a x.toList) (hy : RepL (I.env w bl s.hp) b y.toList) (xo yo : Operand) :
    EffOk I w bl tmps (runV P (do eqGuard op t xo yo (.agg x) (.agg y); binOp op t (.agg x) (.agg y)) w) (aBinAgg P op t a b s) := by
  have hval : ∀ fs, P.underlying t = some (.struct fs) → ∀ z : Array Value, valOf P t z.toList = .agg z := fun fs hu z => by simp [valOf, isAggT, hu]
  cases op <;> simp only [aBinAgg] <;> first
    | exact EffOk.fail
    | skip
  all_goals
    split
    · rename_i hb
      obtain ⟨fs, hu⟩ := isStructT_some hb.1
      split
      · rename_i r hr
        have he := (eqT_both (P := P) w 40).1 t a b r hr 10000 (by omega) _ _ hx hy
        rw [hval fs hu, hval fs hu] at he
        refine EffOk.same h (runV_ok ?_) rfl
        simp only [Sem.run_bind, run_eqGuard_agg (hm := hb.2), Result.andThen_ok, run_eql_struct, run_neq_struct, he]
      · exact EffOk.fail
    · exact EffOk.fail

theorem isSliceT_some {t : TypeId} (h : isSliceT P t = true) : ∃ e, P.underlying t = some (.slice e) := by
  unfold isSliceT at h
  split at h
  · exact ⟨_, by assumption⟩
  · cases h
theorem isPtrT_some {t : TypeId} (h : isPtrT P t = true) : ∃ e, P.underlying t = some (.pointer e) := by
  unfold isPtrT at h
  split at h
  · exact ⟨_, by assumption⟩
  · cases h
theorem isFuncT_some {t : TypeId} (h : isFuncT P t = true) : ∃ a b c, P.underlying t = some (.func a b c) := by
  unfold isFuncT at h
  split at h
  · exact ⟨_, _, _, by assumption⟩
  · cases h

theorem aNilEq_ok {op : BinOp} {t : TypeId} {xv yv : Value} {ok b : Bool} (h : Sim I w bl s tmps) (xo yo : Operand) (hg : ∀ w, (eqGuard op t xo yo xv yv).run P w = .ok () w)
    (h1 : binOp .eql t xv yv = do pure (.bool (← Op.equal t xv yv))) (h2 : binOp .neq t xv yv = do pure (.bool (!(← Op.equal t xv yv)))) (he : ok = true → ∀ w, (Op.equal t xv yv).run P w = .ok b w) :
    EffOk I w bl tmps (runV P (do eqGuard op t xo yo xv yv; binOp op t xv yv) w) (aNilEq ok op b s) := by
  unfold aNilEq
  split
  · refine EffOk.same h (runV_ok ?_) rfl
    simp only [Sem.run_bind, hg, Result.andThen_ok, h1, he rfl, Sem.run_pure]
  · refine EffOk.same h (runV_ok ?_) rfl
    simp only [Sem.run_bind, hg, Result.andThen_ok, h2, he rfl, Sem.run_pure]
  · exact EffOk.fail

theorem equal_slice_nil (t : TypeId) (a : Option Addr) (l c : Nat) (hok : isSliceT P t = true) (w : World) : (Op.equal t (.slice a l c) (.slice none 0 0)).run P w = .ok a.isNone w := by
  obtain ⟨e, hu⟩ := isSliceT_some hok
  exact run_equal_slice_nil w t e a l c hu

theorem eqIn_ptr_nil (d : Nat) (t e : TypeId) (a : Option Addr) (hu : P.underlying t = some (.pointer e)) (w : World) : (Op.equalIn (d + 1) t (.pointer a) (.pointer none)).run P w = .ok a.isNone w := by
  cases a <;> simp [Op.equalIn, run_underlying hu]

theorem equal_ptr_nil (t : TypeId) (a : Option Addr) (hok : isPtrT P t = true) (w : World) : (Op.equal t (.pointer a) (.pointer none)).run P w = .ok a.isNone w := by
  obtain ⟨e, hu⟩ := isPtrT_some hok
  exact eqIn_ptr_nil 9999 t e a hu w

theorem eqIn_func_nil (d : Nat) (t : TypeId) (ps rs : Array TypeId) (vd : Bool) (hu : P.underlying t = some (.func ps rs vd)) (w : World) :
    (Op.equalIn (d + 1) t .nilFunc .nilFunc).run P w = .ok true w ∧ ∀ f a b, (Op.equalIn (d + 1) t (.func f a b) .nilFunc).run P w = .ok false w := by
  constructor
  · simp [Op.equalIn, run_underlying hu]
  · intro f a b; simp [Op.equalIn, run_underlying hu]

theorem equal_nil_nil (t : TypeId) (hok : isFuncT P t = true) (w : World) : (Op.equal t .nilFunc .nilFunc).run P w = .ok true w := by
  obtain ⟨a, b, c, hu⟩ := isFuncT_some hok
  exact (eqIn_func_nil 9999 t a b c hu w).1
theorem equal_func_nil (t : TypeId) (f : Fn) (fs cs : Array Value) (hok : isFuncT P t = true) (w : World) : (Op.equal t (.func f fs cs) .nilFunc).run P w = .ok false w := by
  obtain ⟨a, b, c, hu⟩ := isFuncT_some hok
  exact (eqIn_func_nil 9999 t a b c hu w).2 f fs cs

/-- '==', '+' and their like. -/
theorem aBin_ok {op : BinOp} {t : TypeId} {x y : AV} {xv yv : Value} (h : Sim I w bl s tmps) (hx : Rep (I.env w bl s.hp) x xv) (hy : Rep (I.env w bl s.hp) y yv) (xo yo : Operand) :
    EffOk I w bl tmps (runV P (do eqGuard op t xo yo xv yv; binOp op t xv yv) w) (aBin P op t x y s) := by
  unfold aBin
  split
  · simp only [Rep] at hx hy; subst hx hy; exact aBin_int h xo yo
  · simp only [Rep] at hx hy; subst hx hy; exact aBin_str h xo yo
  · simp only [Rep] at hx hy; subst hx hy; exact aBin_bool h xo yo
  · simp only [Rep] at hx hy; obtain ⟨xs, rfl, hx⟩ := hx; obtain ⟨ys, rfl, hy⟩ := hy; exact aBin_agg h hx hy xo yo
  · rename_i ty l f
    simp only [Rep] at hx hy
    subst hy
    obtain ⟨hl, _⟩ := hx
    simp only [RepT] at hl
    obtain ⟨ad, cap, hv, _, hi⟩ := hl
    simp only [List.cons.injEq, and_true] at hv
    subst hv
    unfold aListNil
    split
    · rename_i hok
      rintro v' s' ⟨rfl, rfl⟩
      refine ⟨.bool ad.isNone, w, bl, .inl (runV_ok ?_), h, ?_⟩
      · have hg : (eqGuard .eql t xo yo (.slice ad l.length cap) (.slice none 0 0)).run P w = .ok () w := eqGuard_other _ _ _ _ _ _ w (.inr ⟨fun _ => by simp, by simp⟩)
        simp only [Sem.run_bind, hg, Result.andThen_ok, binOp, equal_slice_nil t ad l.length cap hok, Sem.run_pure]
      · simp only [Rep]
        refine ⟨_, rfl, fun hn => ?_⟩
        cases l with
        | nil => rfl
        | cons x l =>
          obtain ⟨a, cs, ha, _⟩ := hi 0 (by simp)
          rw [ha] at hn
          simp at hn
    · exact EffOk.fail
  · simp only [Rep] at hx hy; subst hx hy
    exact aNilEq_ok h xo yo (fun w => eqGuard_other _ _ _ _ _ _ w (.inr ⟨fun _ => by simp, by simp⟩)) rfl rfl (fun hok w => equal_slice_nil t none 0 0 hok w)
  · simp only [Rep] at hx hy; subst hx hy
    exact aNilEq_ok h xo yo (fun w => eqGuard_other _ _ _ _ _ _ w (.inr ⟨fun _ => by simp, by simp⟩)) rfl rfl (fun hok w => equal_ptr_nil t none hok w)
  · simp only [Rep] at hx hy; subst hy; obtain ⟨b, _, rfl⟩ := hx
    exact aNilEq_ok h xo yo (fun w => eqGuard_other _ _ _ _ _ _ w (.inr ⟨fun _ => by simp, by simp⟩)) rfl rfl (fun hok w => equal_ptr_nil t _ hok w)
  · simp only [Rep] at hx hy; subst hy; obtain ⟨b, sz, n, _, _, rfl⟩ := hx
    exact aNilEq_ok h xo yo (fun w => eqGuard_other _ _ _ _ _ _ w (.inr ⟨fun _ => by simp, by simp⟩)) rfl rfl (fun hok w => equal_ptr_nil t _ hok w)
  · simp only [Rep] at hx hy; subst hx hy
    exact aNilEq_ok h xo yo (fun w => eqGuard_other _ _ _ _ _ _ w (.inr ⟨fun _ => by simp, by simp⟩)) rfl rfl (fun hok w => equal_nil_nil t hok w)
  · simp only [Rep] at hx hy; subst hy; obtain ⟨fs, cs, rfl, _, _⟩ := hx
    exact aNilEq_ok h xo yo (fun w => eqGuard_other _ _ _ _ _ _ w (.inr ⟨fun _ => by simp, by simp⟩)) rfl rfl (fun hok w => equal_func_nil t _ _ _ hok w)
  · exact EffOk.fail

theorem aUn_ok {op : UnOp} {x : AV} {xv : Value} (h : Sim I w bl s tmps) (hx : Rep (I.env w bl s.hp) x xv) : EffOk I w bl tmps (runV P (Op.unary op xv) w) (aUn op x s) := by
  unfold aUn
  split
  · simp only [Rep] at hx; subst hx; exact EffOk.same h (runV_ok rfl) rfl
  · simp only [Rep] at hx; subst hx; exact EffOk.same h (runV_ok rfl) rfl
  · simp only [Rep] at hx; subst hx; exact EffOk.same h (runV_ok rfl) rfl
  · exact EffOk.fail

end
end Go.Cellar
