/- Builtins, functions without a body, and one operation whole, over the invariant. No condition. -/
import Derived.Test.YtjdjmbogopadaaaGreatDoorAbs13
import Derived.Laws.Externs
import Derived.KernelRfl
import Derived.Lib.Bytealg
set_option linter.unusedVariables false
set_option linter.unusedSimpArgs false
namespace Go.Cellar
open Go

theorem ibs_generic : Extern.allGenericRows.lookup "internal/bytealg.IndexByteString" = none := by kernel_rfl
theorem ibs_typed : Extern.allTypedRows.lookup "internal/bytealg.IndexByteString" = none := by kernel_rfl
theorem ibs_rows : Extern.allRows.lookup "internal/bytealg.IndexByteString" = some Extern.BytealgIndexByte.indexByte := by kernel_rfl
theorem ibs_next : Extern.allNextRows.lookup "internal/bytealg.IndexByteString" = none := by kernel_rfl
theorem nameless_next : Extern.allNextRows.lookup "" = none := by kernel_rfl

theorem cs_generic : Extern.allGenericRows.lookup "internal/bytealg.CountString" = none := by kernel_rfl
theorem cs_typed : Extern.allTypedRows.lookup "internal/bytealg.CountString" = none := by kernel_rfl
theorem cs_rows : Extern.allRows.lookup "internal/bytealg.CountString" = some Extern.BytealgCount.count := by kernel_rfl
theorem cs_next : Extern.allNextRows.lookup "internal/bytealg.CountString" = none := by kernel_rfl
theorem cs_find {fn : Func} (h : fn.name = "internal/bytealg.CountString") : Extern.find fn = some Extern.BytealgCount.count := by
  unfold Extern.find
  simp only [h, cs_generic, cs_typed, cs_rows]
  rfl
theorem cs_findNext {fn : Func} (h : fn.name = "internal/bytealg.CountString") (h2 : fn.origin = "") : Extern.findNext fn = none := by
  unfold Extern.findNext
  simp only [h, h2, cs_next, nameless_next]
  rfl

theorem cmp_generic : Extern.allGenericRows.lookup "internal/bytealg.abigen_runtime_cmpstring" = none := by kernel_rfl
theorem cmp_typed : Extern.allTypedRows.lookup "internal/bytealg.abigen_runtime_cmpstring" = none := by kernel_rfl
theorem cmp_rows : Extern.allRows.lookup "internal/bytealg.abigen_runtime_cmpstring" = some Extern.BytealgCompare.compare := by kernel_rfl
theorem cmp_next : Extern.allNextRows.lookup "internal/bytealg.abigen_runtime_cmpstring" = none := by kernel_rfl
theorem cmp_find {fn : Func} (h : fn.name = "internal/bytealg.abigen_runtime_cmpstring") : Extern.find fn = some Extern.BytealgCompare.compare := by
  unfold Extern.find
  simp only [h, cmp_generic, cmp_typed, cmp_rows]
  rfl
theorem cmp_findNext {fn : Func} (h : fn.name = "internal/bytealg.abigen_runtime_cmpstring") (h2 : fn.origin = "") : Extern.findNext fn = none := by
  unfold Extern.findNext
  simp only [h, h2, cmp_next, nameless_next]
  rfl

theorem cmpB_eq : ∀ (a b : List UInt8), Lib.compareBytes a b = cmpB a b
  | [], [] => rfl
  | [], _ :: _ => rfl
  | _ :: _, [] => rfl
  | x :: a, y :: b => by
    unfold Lib.compareBytes cmpB
    rw [cmpB_eq a b]
    rfl

theorem ibs_find {fn : Func} (h : fn.name = "internal/bytealg.IndexByteString") : Extern.find fn = some Extern.BytealgIndexByte.indexByte := by
  unfold Extern.find
  simp only [h, ibs_generic, ibs_typed, ibs_rows]
  rfl
theorem ibs_findNext {fn : Func} (h : fn.name = "internal/bytealg.IndexByteString") (h2 : fn.origin = "") : Extern.findNext fn = none := by
  unfold Extern.findNext
  simp only [h, h2, ibs_next, nameless_next]
  rfl

theorem idxByte_find (c : Int) (u : UInt8) (hc : (u.toNat : Int) = c) : ∀ (l : List UInt8) (k : Nat), (match (List.range l.length).find? (fun i => l[i]! == u) with | some i => (((i + k : Nat)) : Int) | none => -1) = idxByte c l k
  | [], k => by simp [idxByte]
  | x :: l, k => by
    have ih := idxByte_find c u hc l (k + 1)
    rw [List.length_cons, List.range_succ_eq_map, List.find?_cons]
    simp only [idxByte]
    by_cases hx : x = u
    · subst hx
      simp [hc]
    · have h1 : ¬ ((x.toNat : Int) = c) := fun e => hx (UInt8.toNat_inj.mp (by omega))
      have h2 : ((x :: l)[0]! == u) = false := by simpa using hx
      simp only [h1, if_false, h2]
      rw [List.find?_map]
      have e : (fun i => l[i]! == u) = ((fun i => (x :: l)[i]! == u) ∘ Nat.succ) := by
        funext i
        simp [List.getElem!_cons_succ]
      rw [← e]
      have e2 : ((k : Int) + 1) = ((k + 1 : Nat) : Int) := by omega
      rw [e2, ← ih]
      cases (List.range l.length).find? (fun i => l[i]! == u) with
      | none => rfl
      | some i => simp only [Option.map_some, Nat.succ_eq_add_one]; congr 1; omega

theorem find_congr {α : Type} {p q : α → Bool} : ∀ (l : List α), (∀ i ∈ l, p i = q i) → l.find? p = l.find? q
  | [], _ => rfl
  | x :: l, h => by
    rw [List.find?_cons, List.find?_cons, h x (by simp), find_congr l fun i hi => h i (by simp [hi])]

theorem firstIdx_eq (b : List UInt8) (c : Int) (h0 : 0 ≤ c) (h1 : c < 256) : firstIdx ⟨b.toArray⟩ c.toNat.toUInt8 = idxByte c b 0 := by
  have hu : ((c.toNat.toUInt8).toNat : Int) = c := by
    show (((UInt8.ofNat c.toNat).toNat : Nat) : Int) = c
    rw [UInt8.toNat_ofNat']
    omega
  show _ = idxByte c b ((0 : Nat) : Int)
  rw [← idxByte_find c _ hu b 0]
  unfold firstIdx
  have e : (List.range (⟨b.toArray⟩ : ByteArray).size).find? (fun i => (⟨b.toArray⟩ : ByteArray)[i]! == c.toNat.toUInt8) = (List.range b.length).find? (fun i => b[i]! == c.toNat.toUInt8) := by
    rw [ba_size]
    refine find_congr _ fun i hi => ?_
    have hi' : i < b.length := by simpa using hi
    have e1 : (⟨b.toArray⟩ : ByteArray)[i]! = b[i] := by
      rw [getElem!_pos _ _ (by rw [ba_size]; exact hi')]
      rfl
    have e2 : b[i]! = b[i] := getElem!_pos b i hi'
    rw [e1, e2]
  rw [e]
  cases (List.range b.length).find? (fun i => b[i]! == c.toNat.toUInt8) <;> simp

section
variable {P : Program} {I : Inp} {w : World} {bl : List (Option Nat)} {s : St} {tmps : List Value}

theorem RepL.map2 {E : Env} {as : List AV} {vs : List Value} (h : RepL E as vs) : as.length = vs.length := h.length.symm

theorem aBuiltin_ok {b : Builtin} {ts : Array TypeId} {ty : TypeId} {consts : Array Bool} {args : List AV} {vs : Array Value} (h : Sim I w bl s tmps) (ha : RepL (I.env w bl s.hp) args vs.toList) :
    EffOk I w bl tmps ((builtin b ts ty consts vs).run P w) (aBuiltin P b ts.toList args s) := by
  unfold aBuiltin
  split
  · rename_i t tr x xr hts
    simp only [RepL] at ha
    obtain ⟨v, vs', hv, h1, h2⟩ := ha
    have ht : ts[0]? = some t := by rw [← Array.getElem?_toList, hts]; rfl
    have hx : vs[0]? = some v := by rw [← Array.getElem?_toList, hv]; rfl
    have := aLen_ok (P := P) (ty := ty) (args := vs) h h1 ht hx
    exact this
  · rename_i t t2 tr x y xr hts
    simp only [RepL] at ha
    obtain ⟨v, vs', hv, h1, u, us', hu, h2, h3⟩ := ha
    have ht : ts[0]? = some t := by rw [← Array.getElem?_toList, hts]; rfl
    have ht2 : ts[1]? = some t2 := by rw [← Array.getElem?_toList, hts]; rfl
    have e : (Builtin.append_ ts ty vs) = (Builtin.append_ ts ty #[v, u]) := by
      have e0 : vs[0]? = some v := by rw [← Array.getElem?_toList, hv]; rfl
      have e1 : vs[1]? = some u := by rw [← Array.getElem?_toList, hv, hu]; rfl
      unfold Builtin.append_
      simp only [e0, e1]
      rfl
    have e2 : (builtin .append ts ty consts vs).run P w = runV P (Builtin.append_ ts ty #[v, u]) w := by
      rw [← e]; rfl
    rw [e2]
    split
    · rename_i x0 hu2
      exact aAppend_ok (ty0 := ty) h h1 h2 ht ht2 hu2 (.inl ⟨_, rfl⟩)
    · rename_i hu2
      exact aAppend_ok (ty0 := ty) h h1 h2 ht ht2 hu2 (.inr rfl)
    · exact EffOk.fail
  · rename_i t tr x xr hts
    simp only [RepL] at ha
    obtain ⟨v, vs', hv, h1, h2⟩ := ha
    have ht : ts[0]? = some t := by rw [← Array.getElem?_toList, hts]; rfl
    have hx : vs[0]? = some v := by rw [← Array.getElem?_toList, hv]; rfl
    exact aClear_ok h h1 ht hx
  · rename_i k x k' y
    simp only [RepL, Rep] at ha
    obtain ⟨v, vs', hv, rfl, u, us', hu, rfl, rfl⟩ := ha
    subst hu
    refine EffOk.same h (val := .int k (max2A x y)) ?_ rfl
    show runV P (Builtin.max_ ts ty vs) w = _
    apply runV_ok
    simp [Builtin.max_, hv, Builtin.max2, max2A]
  · rename_i k x k' y
    simp only [RepL, Rep] at ha
    obtain ⟨v, vs', hv, rfl, u, us', hu, rfl, rfl⟩ := ha
    subst hu
    refine EffOk.same h (val := .int k (min2A x y)) ?_ rfl
    show runV P (Builtin.min_ ts ty vs) w = _
    apply runV_ok
    simp [Builtin.min_, hv, Builtin.min2, min2A]
  · exact EffOk.fail

theorem aExtern_ok {f : FuncId} {fn : Func} {args : List AV} {vs : Array Value} (h : Sim I w bl s tmps) (hf : P.funcs[f]? = some fn) (hb : fn.body = none) (ha : RepL (I.env w bl s.hp) args vs.toList) :
    EffOk I w bl tmps ((callFunc f vs).run P w) (aExtern fn.name fn.origin args s) := by
  unfold aExtern
  split
  · rename_i b c hn ho
    have hn' : fn.name = "internal/bytealg.IndexByteString" := by simpa using hn
    have ho' : fn.origin = "" := by simpa using ho
    simp only [RepL, Rep] at ha
    obtain ⟨v, vs', hv, rfl, u, us', hu, rfl, rfl⟩ := ha
    subst hu
    have hvs : vs = #[.string ⟨b.toArray⟩, .int .u8 c] := by apply Array.ext'; simpa using hv
    refine EffOk.needs h fun hc => ⟨?_, rfl⟩
    rw [run_callFunc_extern hf (by rw [hn']; rfl) (by simp [hb]) (ibs_findNext hn' ho') (ibs_find hn'), hvs, run_indexByte_string, firstIdx_eq b c hc.1 hc.2]
    rfl
  · rename_i b c hn ho
    have ho' : fn.origin = "" := by simpa using ho
    split
    · rename_i hn2
      have hn' : fn.name = "internal/bytealg.CountString" := by simpa using hn2
      simp only [RepL, Rep] at ha
      obtain ⟨v, vs', hv, rfl, u, us', hu, rfl, rfl⟩ := ha
      subst hu
      have hvs : vs = #[.string ⟨b.toArray⟩, .int .u8 c] := by apply Array.ext'; simpa using hv
      refine EffOk.same h (val := .int .i64 ((b.count c.toNat.toUInt8 : Nat) : Int)) ?_ rfl
      rw [run_callFunc_extern hf (by rw [hn']; rfl) (by simp [hb]) (cs_findNext hn' ho') (cs_find hn'), hvs, Lib.run_countString]
      rfl
    · exact EffOk.fail
  · rename_i a b hn ho
    have ho' : fn.origin = "" := by simpa using ho
    split
    · rename_i hn2
      have hn' : fn.name = "internal/bytealg.abigen_runtime_cmpstring" := by simpa using hn2
      simp only [RepL, Rep] at ha
      obtain ⟨v, vs', hv, rfl, u, us', hu, rfl, rfl⟩ := ha
      subst hu
      have hvs : vs = #[.string ⟨a.toArray⟩, .string ⟨b.toArray⟩] := by apply Array.ext'; simpa using hv
      refine EffOk.same h (val := .int .i64 (cmpB a b)) ?_ rfl
      rw [run_callFunc_extern hf (by rw [hn']; rfl) (by simp [hb]) (cmp_findNext hn' ho') (cmp_find hn'), hvs, Lib.run_compareString, cmpB_eq]
      rfl
    · exact EffOk.fail
  · exact EffOk.fail

theorem ofConst_rep {E : Env} (v : Value) : Rep E (ofConst v) v := by
  unfold ofConst
  split
  · rename_i cs
    simp only [Rep]
    refine ⟨cs, rfl, ?_⟩
    have := RepL.map (E := E) ofConst1 (fun v => v) (fun v => ofConst1_rep v) cs.toList
    simpa using this
  · split <;> simp [Rep]
  · exact ofConst1_rep v

theorem ev_rep {E : Env} {tv : Array Value} (h : RepL E s.tm tv.toList) (x : Operand) : Rep E (s.ev x) ((Act.mk tv []).eval x) := by
  cases x with
  | tmp t => exact h.getD t
  | const v => exact ofConst_rep v
  | global g => simp [St.ev, Rep]
  | func f => simp only [St.ev, Rep, Act.eval]; exact ⟨#[], #[], rfl, by simp [RepL], by simp [RepL]⟩

theorem evs_rep {E : Env} {tv : Array Value} (h : RepL E s.tm tv.toList) (xs : Array Operand) : RepL E (xs.toList.map s.ev) (xs.map (Act.mk tv []).eval).toList := by
  rw [Array.toList_map]
  exact RepL.map _ _ (fun x => ev_rep h x) xs.toList

theorem resolve_func {ρ : Operand → Value} {c : Call} {t : TypeId} {f : Operand} {g : FuncId} {first caps : Array Value} (hc : c.callee = .value f) (hf : ρ f = .func (.func g) first caps) :
    (do let d ← resolve ρ c t; invoke d.target d.args).run P w = (callFunc g (first ++ c.args.map ρ ++ caps)).run P w := by
  simp [resolve, hc, hf, Deferred.ofValue, invoke]

theorem optMap_rep {E : Env} {tv : Array Value} (h : RepL E s.tm tv.toList) (o : Option Operand) : (∀ a, o.map s.ev = some a → ∃ v, o.map (Act.mk tv []).eval = some v ∧ Rep E a v) ∧ (o.map s.ev = none → o.map (Act.mk tv []).eval = none) := by
  cases o with
  | none => exact ⟨fun a ha => (by simp at ha), fun _ => rfl⟩
  | some x => exact ⟨fun a ha => (by simp only [Option.map_some, Option.some.injEq] at ha; subst ha; exact ⟨_, rfl, ev_rep h x⟩), fun h => (by simp at h)⟩

theorem parts_rep {E : Env} {tv : Array Value} (h : RepL E s.tm tv.toList) (parts : Array (Nat × Operand)) :
    (parts.toList.map fun p => (p.1, s.ev p.2)).map (·.1) = (parts.map fun (i, x) => (i, (Act.mk tv []).eval x)).toList.map (·.1) ∧
    RepL E ((parts.toList.map fun p => (p.1, s.ev p.2)).map (·.2)) ((parts.map fun (i, x) => (i, (Act.mk tv []).eval x)).toList.map (·.2)) := by
  constructor
  · simp
  · have := RepL.map (E := E) (fun p : Nat × Operand => s.ev p.2) (fun p => (Act.mk tv []).eval p.2) (fun p => ev_rep h p.2) parts.toList
    simpa [Function.comp_def] using this

theorem aPick_ok {c a b : AV} {cv av bv : Value} (h : Sim I w bl s tmps) (hc : Rep (I.env w bl s.hp) c cv) (ha : Rep (I.env w bl s.hp) a av) (hb : Rep (I.env w bl s.hp) b bv) :
    EffOk I w bl tmps (Sem.run P (do pure (Next.value (if ← asBool cv then av else bv))) w) (aPick c a b s) := by
  unfold aPick
  split
  · rename_i t
    simp only [Rep] at hc
    subst hc
    rintro v' s' ⟨rfl, rfl⟩
    cases t
    · exact ⟨_, w, bl, .inl rfl, h, hb⟩
    · exact ⟨_, w, bl, .inl rfl, h, ha⟩
  · exact EffOk.fail

theorem aNil_ok {o : Oper} {x : Operand} {tv : Array Value} (h : Sim I w bl s tv.toList) (ho : o.op = .nilCheck x) (hx : Rep (I.env w bl s.hp) (s.ev x) ((Act.mk tv []).eval x)) :
    EffOk I w bl tv.toList ((execOp (Act.mk tv []).eval o).run P w) (aNil (s.ev x) s) := by
  generalize s.ev x = q at hx
  have hx' := hx
  have key : ∀ (v : Value), (Act.mk tv []).eval x = v → (∃ a, v = .pointer (some a)) ∨ (∃ f a b, v = .func (.func f) a b) → (execOp (Act.mk tv []).eval o).run P w = .ok (.value v) w := by
    intro v hv hk
    rcases hk with ⟨a, rfl⟩ | ⟨f, a, b, rfl⟩ <;> simp [execOp, ho, hv]
  cases q <;> unfold aNil <;> try exact EffOk.fail
  case ptr r off =>
    simp only [Rep] at hx
    obtain ⟨b, hb, hv⟩ := hx
    exact EffOk.same h (key _ rfl (.inl ⟨_, hv⟩)) hx'
  case rptr r i off =>
    simp only [Rep] at hx
    obtain ⟨b, sz, n, hb, hs, hv⟩ := hx
    exact EffOk.same h (key _ rfl (.inl ⟨_, hv⟩)) hx'
  case iptr cs =>
    simp only [Rep] at hx
    obtain ⟨a, vs, hv, _⟩ := hx
    exact EffOk.same h (key _ rfl (.inl ⟨_, hv⟩)) hx'
  case func fn f c =>
    cases fn <;> try exact EffOk.fail
    simp only [Rep] at hx
    obtain ⟨fs, cs, hv, _⟩ := hx
    exact EffOk.same h (key _ rfl (.inr ⟨_, _, _, hv⟩)) hx'

theorem resolve_builtin {ρ : Operand → Value} {c : Call} {t : TypeId} {b : Builtin} (hc : c.callee = .builtin b) :
    ∃ consts, (do let d ← resolve ρ c t; invoke d.target d.args).run P w = (builtin b c.argTypes t consts (c.args.map ρ)).run P w :=
  ⟨_, by simp only [resolve, hc]; rfl⟩

theorem aValCall_ok {c : Call} {t : TypeId} {f : Operand} {x : AV} {tv : Array Value} (h : Sim I w bl s tv.toList) (hx : Rep (I.env w bl s.hp) x ((Act.mk tv []).eval f)) (hf : c.callee = .value f) :
    EffOk I w bl tv.toList (Sem.run P (do let d ← resolve (Act.mk tv []).eval c t; invoke d.target d.args) w) (aValCall P x (c.args.toList.map s.ev) s) := by
  unfold aValCall
  split
  · rename_i g first caps
    simp only [Rep] at hx
    obtain ⟨fs, cs, hv, h1, h2⟩ := hx
    split
    · rename_i fn hfn
      split
      · split
        · exact EffOk.fail
        · intro v s' hh; exact hh.elim
      · rename_i hb
        rw [resolve_func hf hv]
        have h3 : RepL (I.env w bl s.hp) (first ++ c.args.toList.map s.ev ++ caps) (fs ++ c.args.map (Act.mk tv []).eval ++ cs).toList := by
          rw [Array.toList_append, Array.toList_append]
          exact (h1.append (evs_rep h.tm c.args)).append h2
        exact aExtern_ok h hfn hb h3
    · exact EffOk.fail
  · exact EffOk.fail

/-- One operation, all kinds but a call that enters. -/
theorem aOp_ok {o : Oper} {tv : Array Value} (h : Sim I w bl s tv.toList) : EffOk I w bl tv.toList ((execOp (Act.mk tv []).eval o).run P w) (aOp P o s) := by
  have hev := fun x => ev_rep h.tm x
  unfold aOp execOp
  cases ho : o.op <;> dsimp only
  case move x => exact EffOk.same h rfl (hev x)
  case assign x => exact EffOk.same h rfl (hev x)
  case pick c a b =>
    exact aPick_ok h (hev c) (hev a) (hev b)
  case alloc t => exact aAlloc_ok h
  case box t x => exact aBox_ok h (hev x)
  case build t parts => obtain ⟨h1, h2⟩ := parts_rep h.tm parts; exact aBuild_ok h h1 h2
  case buildSlice t n parts => obtain ⟨h1, h2⟩ := parts_rep h.tm parts; exact aBuildSlice_ok h h1 h2
  case load t a => exact aLoad_ok h (hev a)
  case store t a x => exact aStore_ok h (hev a) (hev x)
  case nilCheck x =>
    have := aNil_ok (P := P) h ho (hev x)
    simpa only [execOp, ho] using this
  case binOp op t x y t2 => exact aBin_ok h (hev x) (hev y) x y
  case unOp op t x => exact aUn_ok h (hev x)
  case convert a b x => exact aConvert_ok h (hev x)
  case makeFunc fn first caps =>
    refine EffOk.same h (runV_ok rfl) ?_
    simp only [Rep]
    exact ⟨_, _, rfl, evs_rep h.tm first, evs_rep h.tm caps⟩
  case makeSlice t l c => exact aMakeSlice_ok h (hev l) (hev c)
  case slice t x lo hi mx =>
    obtain ⟨h1, h2⟩ := optMap_rep h.tm lo
    obtain ⟨h3, h4⟩ := optMap_rep h.tm hi
    obtain ⟨h5, h6⟩ := optMap_rep h.tm mx
    exact aSlice_ok h (hev x) h1 h2 h3 h4 h5 h6
  case fieldAddr t x f => exact aFieldAddr_ok h (hev x)
  case field t x f => exact aField_ok h (hev x)
  case indexAddr t x i => exact aIndexAddr_ok h (hev x) (hev i)
  case index t x i => exact aIndex_ok h (hev x) (hev i)
  case extract x i => exact aExtract_ok h (hev x)
  case call c =>
    unfold aCall
    split
    · rename_i b hb
      obtain ⟨consts, hr⟩ := resolve_builtin (P := P) (w := w) (ρ := (Act.mk tv []).eval) (t := o.type) hb
      rw [hr]
      exact aBuiltin_ok (P := P) h (evs_rep h.tm c.args)
    · exact EffOk.fail
    · rename_i f hf
      have := aValCall_ok (P := P) (c := c) (t := o.type) (tv := tv) h (hev f) hf
      exact this
  all_goals exact EffOk.fail

end
end Go.Cellar
