/- Appends, over the invariant: the three ways. No condition. -/
import Derived.Test.YtjdjmbogopadaaaGreatDoorAbs11

set_option linter.unusedVariables false
set_option linter.unusedSimpArgs false
namespace Go.Cellar
open Go

section
variable {P : Program} {I : Inp} {w : World} {bl : List (Option Nat)} {s : St} {tmps : List Value}

theorem HSim.drew {hp : List AO} (h : HSim I w bl hp) : HSim I w.drew bl hp where
  len := h.len
  many := h.many
  inj := h.inj
  at_ := h.at_
  obj := fun r o hr => by
    have hle : EnvLe (I.env w bl hp) (I.env w.drew bl hp) := ⟨fun b hb hlt => ⟨hb, rfl⟩, fun r b h => h, fun r x h => h, fun r b h => Nat.le_refl _⟩
    have := (h.obj r o hr).sub hle.subOk (fun k hk => rfl)
    have e : o.sub (fun v => v) = o := by cases o <;> simp [AO.sub, AV.subL_id, AV.sub_id]
    rwa [e] at this
  le := h.le
  old := h.old
  os := h.os
  tape := h.tape
  output := h.output
  pin := h.pin

theorem EnvLe.drew (hp : List AO) : EnvLe (I.env w bl hp) (I.env w.drew bl hp) := ⟨fun b hb hlt => ⟨hb, rfl⟩, fun r b h => h, fun r x h => h, fun r b h => Nat.le_refl _⟩

theorem Sim.drew (h : Sim I w bl s tmps) : Sim I w.drew bl s tmps := ⟨h.h.drew, RepL.mono (EnvLe.drew s.hp) h.tm, h.m⟩

/-- An append within the capacity. -/
theorem run_append_in {ts : Array TypeId} {ty e : TypeId} {ti : TypeInfo} {d2 : TypeDesc} {t t2 : TypeId} (h0 : ts[0]? = some t) (h1 : ts[1]? = some t2) (hu : P.underlying t = some (.slice e)) (hu2 : P.underlying t2 = some d2) (hd2 : (∃ x, d2 = .slice x) ∨ d2 = .string)
    (hti : P.info? e = some ti) {g sLen sCap n : Nat} {cur : Array Value} {e' : TypeId} (hg : w.heap[g]? = some (.cells cur e' (0, 0))) {yv : Value} {news : List Value}
    (hlen : (Builtin.lenOf yv).run P w = .ok n w) (hcells : (Builtin.firstCells ti.size n yv).run P w = .ok news.toArray w) (hone : ∀ u ∈ news, u.oneCell' = true)
    (hroom : sLen + n ≤ sCap) (hfit : sLen * ti.size + news.length ≤ cur.size) :
    (Builtin.append_ ts ty #[.slice (some ⟨g, 0, none⟩) sLen sCap, yv]).run P w =
      .ok (.slice (some ⟨g, 0, none⟩) (sLen + n) sCap) (w.setRow g (cur.toList.take (sLen * ti.size) ++ news ++ cur.toList.drop (sLen * ti.size + news.length)).toArray) := by
  have hst := run_storeCells_at P g (sLen * ti.size) e' news 0 cur w hg (by simpa using hfit) hone
  simp only [Nat.add_zero] at hst
  simp only [Builtin.append_, h0, h1]
  rcases hd2 with ⟨x, rfl⟩ | rfl <;> simp [run_underlying hu, run_underlying hu2, sizeOf, typeInfo, hti, hlen, hroom, addr_add, hst, hcells]

/-- Nothing is appended, and there is nothing. -/
theorem run_append_none {ts : Array TypeId} {ty e : TypeId} {ti : TypeInfo} {d2 : TypeDesc} {t t2 : TypeId} (h0 : ts[0]? = some t) (h1 : ts[1]? = some t2) (hu : P.underlying t = some (.slice e)) (hu2 : P.underlying t2 = some d2) (hd2 : (∃ x, d2 = .slice x) ∨ d2 = .string)
    (hti : P.info? e = some ti) {ad : Option Addr} {sLen sCap : Nat} {yv : Value}
    (hlen : (Builtin.lenOf yv).run P w = .ok 0 w) (hcells : (Builtin.firstCells ti.size 0 yv).run P w = .ok #[] w) (hroom : sLen ≤ sCap) :
    (Builtin.append_ ts ty #[.slice ad sLen sCap, yv]).run P w = .ok (.slice ad sLen sCap) w := by
  simp only [Builtin.append_, h0, h1]
  rcases hd2 with ⟨x, rfl⟩ | rfl <;> cases ad <;> simp [run_underlying hu, run_underlying hu2, sizeOf, typeInfo, hti, hlen, hroom, hcells, storeCells]

/-- An append that needs more. -/
theorem run_append_out {ts : Array TypeId} {ty e : TypeId} {ti : TypeInfo} {z : Value} {d2 : TypeDesc} {t t2 : TypeId} (h0 : ts[0]? = some t) (h1 : ts[1]? = some t2) (hu : P.underlying t = some (.slice e)) (hu2 : P.underlying t2 = some d2) (hd2 : (∃ x, d2 = .slice x) ∨ d2 = .string)
    (hti : P.info? e = some ti) (hz : ti.zero = some z) (hb : ti.bytes ≠ 0) {ad : Option Addr} {sLen sCap n : Nat} {yv : Value} {olds news : List Value}
    (hlen : (Builtin.lenOf yv).run P w = .ok n w) (hcells : (Builtin.firstCells ti.size n yv).run P w.drew = .ok news.toArray w.drew)
    (holds : (Builtin.firstCells ti.size sLen (.slice ad sLen sCap)).run P w.drew = .ok olds.toArray w.drew)
    (hgt : sCap < sLen + n) (hmax : (sLen + n) * ti.bytes ≤ 17592186044416) :
    ∃ cap, sLen + n ≤ cap ∧ (Builtin.append_ ts ty #[.slice ad sLen sCap, yv]).run P w =
      .ok (.slice (some ⟨w.heap.size, 0, none⟩) (sLen + n) cap) (w.drew.alloc (.cells (olds ++ news ++ (Builtin.zeroCells z.cells (cap - (sLen + n))).toList).toArray e)) := by
  have h48 : ¬ (281474976710656 < Builtin.nextslicecap (sLen + n) sCap * ti.bytes) := by
    have := Nat.mul_le_mul_right ti.bytes (nextslicecap_le (need := sLen + n) (old := sCap) hgt)
    rw [Nat.mul_assoc] at this
    omega
  have hbound : sLen + n ≤ 17592186044416 := Nat.le_trans (Nat.le_mul_of_pos_right _ (by omega)) hmax
  have h63' : ¬ (9223372036854775807 < ((sLen : Int) + (n : Int))) := by omega
  have hn : ¬ (sLen + n ≤ sCap) := by omega
  refine ⟨(Question.appendCap (sLen + n) sCap e).cut (w.tape w.drawn (.appendCap (sLen + n) sCap e)), by simp [Question.cut], ?_⟩
  have hw : ({ w with drawn := w.drawn + 1 } : World) = w.drew := rfl
  simp only [Builtin.append_, h0, h1]
  have he : ∀ z0 : Array Value, w.drew.alloc (.cells (olds.toArray ++ (news.toArray ++ z0)) e) = w.drew.alloc (.cells (olds ++ (news ++ z0.toList)).toArray e) := fun z0 => by
    congr 2
    apply Array.ext'
    simp
  rcases hd2 with ⟨x, rfl⟩ | rfl <;> (simp [run_underlying hu, run_underlying hu2, sizeOf, typeInfo, hti, hz, zeroValue, hlen, hn, h63', h48, hb, Question.forced, hw, hcells, holds, newRow]; exact he _)

theorem OkLe.drewAlloc {bl' : List (Option Nat)} {c : Obj} (h : HSim I w bl s.hp) : OkLe w (I.ok bl) (w.drew.alloc c) (I.ok (bl ++ [some w.heap.size])) := fun b hb hlt =>
  ⟨⟨hb.1, fun hm => by
    rcases List.mem_append.mp hm with hm | hm
    · exact hb.2 hm
    · simp only [List.mem_singleton, Option.some.injEq] at hm
      subst hm
      exact absurd hlt (Nat.lt_irrefl _)⟩, heap_alloc_lt hlt⟩

/-- A row in fresh memory. -/
theorem row_grown {ok : Nat → Prop} {ty : Ty} {old ys : List ty.T} {olds news rest : List Value} (ho : RowIs w ok ty old olds) (hol : olds.length = old.length * ty.size) (hn : RowIs w ok ty ys news) (hnl : news.length = ys.length * ty.size) :
    RowIs w ok ty (old ++ ys) (olds ++ news ++ rest) := by
  refine RowIs.head (ho.append hn hol) ?_ ?_
  · have e : (old ++ ys).length * ty.size = (olds ++ news).length := by simp [hol, hnl, Nat.add_mul]
    rw [e, List.take_length, List.take_append_of_le_length (Nat.le_refl _), List.take_length]
  · simp only [List.length_append, Nat.add_mul, hol, hnl]; omega

theorem aAppend_ok {ts : Array TypeId} {t2 ty0 : TypeId} {d2 : TypeDesc} {sT : TypeId} {x y : AV} {xv yv : Value} (h : Sim I w bl s tmps) (hx : Rep (I.env w bl s.hp) x xv) (hy : Rep (I.env w bl s.hp) y yv)
    (h0 : ts[0]? = some sT) (h1 : ts[1]? = some t2) (hu2 : P.underlying t2 = some d2) (hd2 : (∃ x, d2 = .slice x) ∨ d2 = .string) :
    EffOk I w bl tmps (runV P (Builtin.append_ ts ty0 #[xv, yv]) w) (aAppend P sT x y s) := by
  unfold aAppend
  split
  · rename_i e hu
    split
    · exact EffOk.fail
    · rename_i ty hty
      split
      · rename_i hc
        obtain ⟨hc1, hc2, hc3⟩ := hc
        split
        · exact EffOk.fail
        · rename_i ys hys
          obtain ⟨news, hsrc⟩ := appended_src (P := P) h hy hys
          obtain ⟨ti, z, hti, hz, hzr⟩ := zeroIs_ok hc2 (w := w) (ok := I.ok bl)
          have hbt : bytesT P e = ti.bytes := by simp [bytesT, hti]
          have hsz : ti.size = ty.size := by rw [hc1]; simp [sizeT, hti]
          have hzs : z.cells.size = ty.size := by have := hzr.length; simpa using this
          have hb0 : ti.bytes ≠ 0 := by rw [← hbt]; exact hc3
          have hcw : (Builtin.firstCells ti.size ys.length yv).run P w = .ok news.toArray w := by rw [hsz]; exact hsrc.cells w rfl
          have hcd : (Builtin.firstCells ti.size ys.length yv).run P w.drew = .ok news.toArray w.drew := by rw [hsz]; exact hsrc.cells w.drew rfl
          have hone : ∀ u ∈ news, u.oneCell' = true := by
            intro u hu'
            obtain ⟨j, hj, rfl⟩ := List.getElem_of_mem hu'
            have hpos := Ty.size_pos ty
            have hjs : j / ty.size < ys.length := by
              rw [hsrc.size] at hj
              exact Nat.div_lt_of_lt_mul (by rwa [Nat.mul_comm] at hj)
            have h3 := hsrc.row.2 _ hjs
            refine RepT.oneCell ty _ _ h3 _ ?_
            have hm := Nat.mod_lt j hpos
            have e1 : j / ty.size * ty.size + j % ty.size = j := Nat.div_add_mod' j ty.size
            have : ((news.drop (j / ty.size * ty.size)).take ty.size)[j % ty.size]? = some news[j] := by
              rw [List.getElem?_take, if_pos hm, List.getElem?_drop, e1, List.getElem?_eq_getElem hj]
            exact List.mem_of_getElem? this
          -- a new object in fresh memory
          have fresh : ∀ (olds : List Value) (old : List ty.T) (ad : Option Addr) (sCap : Nat), RowIs w (I.ok bl) ty old olds → olds.length = old.length * ty.size →
              (Builtin.firstCells ti.size old.length (.slice ad old.length sCap)).run P w.drew = .ok olds.toArray w.drew → sCap < old.length + ys.length → (old.length + ys.length) * ti.bytes ≤ 17592186044416 → xv = .slice ad old.length sCap →
              EffOk I w bl tmps (runV P (Builtin.append_ ts ty0 #[xv, yv]) w) (.val (.view s.hp.length 0 none) ⟨s.tm, s.hp ++ [.row ty (old ++ ys)], s.m⟩) := by
            intro olds old ad sCap hro hol hfo hgt hmax hxv
            subst hxv
            obtain ⟨cap, hcap, hrun⟩ := run_append_out (P := P) (w := w) (ty := ty0) h0 h1 hu hu2 hd2 hti hz hb0 (ad := ad) (sCap := sCap) hsrc.len hcd hfo hgt hmax
            obtain ⟨h4, h5⟩ := h.drew.alloc (.cells (olds ++ news ++ (Builtin.zeroCells z.cells (cap - (old.length + ys.length))).toList).toArray e) (.row ty (old ++ ys)) fun hle => .inr ⟨_, _, e, rfl, heap_alloc_new, by
              have hrow := row_grown (rest := (Builtin.zeroCells z.cells (cap - (old.length + ys.length))).toList) hro hol hsrc.row hsrc.size
              have hrow1 : RowIs (I.env w.drew bl s.hp).w (I.env w.drew bl s.hp).ok ty (old ++ ys) (olds ++ news ++ (Builtin.zeroCells z.cells (cap - (old.length + ys.length))).toList) := RowIs.mono (w := w) (ok := I.ok bl) (w' := w.drew) (ok' := I.ok bl) (fun b hb _ => ⟨hb, rfl⟩) hrow
              have := hrow1.mono hle.ok
              simpa [Inp.env] using this⟩
            rintro v s' ⟨rfl, rfl⟩
            refine ⟨_, _, _, .inl (runV_ok hrun), h4, ?_⟩
            simp only [Rep]
            refine ⟨ty.size, (old ++ ys).length, ?_, by simp, by simp, some ⟨w.heap.size, 0, none⟩, cap, by simp, by simpa using hcap, .inr ⟨w.heap.size, ?_, by simp, ?_⟩⟩
            · show rowShape (s.hp ++ [_]) s.hp.length = _
              simp [rowShape]
            · show (bl ++ [some w.heap.size])[s.hp.length]? = _
              rw [← h.len]; simp
            · show _ ≤ blockSize (w.drew.alloc _) w.drew.heap.size
              rw [blockSize_of heap_alloc_new]
              simp only [List.size_toArray, List.length_append, Array.length_toList, size_zeroCells, hzs, hol, hsrc.size, Nat.zero_add]
              rw [← Nat.add_mul, ← Nat.add_mul]
              exact Nat.mul_le_mul_right _ (by omega)
          -- a new object without memory
          have ghost : ∀ (ad : Option Addr), ys = [] → xv = .slice ad 0 0 → EffOk I w bl tmps (runV P (Builtin.append_ ts ty0 #[xv, yv]) w) (.val (.view s.hp.length 0 none) ⟨s.tm, s.hp ++ [.row ty []], s.m⟩) := by
            intro ad hy0 hxv
            subst hxv
            subst hy0
            have hn0 : news = [] := by have := hsrc.size; simpa using this
            subst hn0
            have hrun := run_append_none (P := P) (w := w) (ty := ty0) (ad := ad) (sLen := 0) (sCap := 0) h0 h1 hu hu2 hd2 hti hsrc.len hcw (Nat.le_refl _)
            obtain ⟨h4, h5⟩ := h.h.ghost ty
            rintro v s' ⟨rfl, rfl⟩
            refine ⟨_, _, _, .inl (runV_ok hrun), ⟨h4, RepL.mono h5 h.tm, h.m⟩, ?_⟩
            simp only [Rep]
            refine ⟨ty.size, 0, ?_, by simp, by simp, ad, 0, by simp, Nat.le_refl _, .inl rfl⟩
            show rowShape (s.hp ++ [_]) s.hp.length = _
            simp [rowShape]
          split
          · -- onto nil
            simp only [Rep] at hx
            subst hx
            refine EffOk.need fun hmax => ?_
            by_cases hy0 : ys = []
            · have := ghost none hy0 rfl
              subst hy0
              exact this
            · have := fresh [] [] none 0 (RowIs.nil _ _ _ _) (by simp) (by simp [Builtin.firstCells]) (by have := List.length_pos_iff.mpr hy0; simpa using this) (by simpa [hbt] using hmax) rfl
              simpa using this
          · -- onto a list without room
            rename_i ty' l
            split
            · rename_i he
              subst he
              refine EffOk.need fun hmax => ?_
              obtain ⟨hmax, hpos⟩ := hmax
              simp only [Rep] at hx
              obtain ⟨hx, hfull⟩ := hx
              obtain ⟨ad, hxv⟩ := hfull trivial
              subst hxv
              by_cases hy0 : ys = []
              · subst hy0
                have hl0 : l = [] := by
                  rcases hpos with hpos | hpos
                  · simp at hpos
                  · exact List.eq_nil_of_length_eq_zero hpos
                subst hl0
                have := ghost ad rfl rfl
                simpa using this
              · have hpos' := List.length_pos_iff.mpr hy0
                obtain ⟨olds, ho⟩ := src_list (P := P) hx
                exact fresh olds l ad l.length ho.row ho.size (by rw [hsz]; exact ho.cells w.drew rfl) (by omega) (by rw [← hbt]; exact hmax) rfl
            · exact EffOk.fail
          · -- onto an own list
            rename_i r lo hi
            split
            · rename_i ty' l hr
              split
              · rename_i he
                have he' := he.symm
                subst he'
                dsimp only
                split
                · rename_i hlo
                  subst hlo
                  refine EffOk.need fun hmax => ?_
                  have hrl : r < bl.length := by rw [h.len]; exact (List.getElem?_eq_some_iff.mp hr).1
                  have hx0 := hx
                  simp only [Rep] at hx
                  obtain ⟨sz, n, hsh, hlo, hn, ad, cap, rfl, hcap, hbk⟩ := hx
                  have hsh' : rowShape s.hp r = some (sz, n) := hsh
                  simp only [rowShape, hr, Option.some.injEq, Prod.mk.injEq] at hsh'
                  obtain ⟨rfl, rfl⟩ := hsh'
                  simp only [Nat.sub_zero] at hcap
                  have hold : upTo l hi = l.take (hi.getD l.length) := by
                    cases hi with
                    | none => simp [upTo]
                    | some q => rfl
                  rw [hold] at hmax ⊢
                  have holen : (l.take (hi.getD l.length)).length = hi.getD l.length := by simp; omega
                  rw [holen, hbt] at hmax
                  -- whatever becomes of the memory, the object moves
                  have fin : ∀ (w' : World) (q : Option Nat) (val : Value) (cap' : Nat) (ad' : Option Addr), (Builtin.append_ ts ty0 #[.slice ad (hi.getD l.length - 0) cap, yv]).run P w = .ok val w' →
                      (∀ b, b < w.heap.size → bl[r]? ≠ some (some b) → w'.heap[b]? = w.heap[b]?) → w.heap.size ≤ w'.heap.size → w'.os = w.os → w'.tape = w.tape → w'.output = w.output →
                      (∀ k, q = some k → k < w'.heap.size ∧ (bl[r]? = some (some k) ∨ w.heap.size ≤ k)) →
                      (∀ ok', OkLe w (I.ok bl) w' ok' → (q = none ∧ (l.take (hi.getD l.length) ++ ys) = []) ∨ ∃ k vs e', q = some k ∧ w'.heap[k]? = some (.cells vs e' (0, 0)) ∧ RowIs w' ok' ty (l.take (hi.getD l.length) ++ ys) vs.toList) →
                      val = .slice ad' (hi.getD l.length + ys.length) cap' → hi.getD l.length + ys.length ≤ cap' → (cap' = 0 ∨ ∃ k, q = some k ∧ ad' = some ⟨k, 0, none⟩ ∧ cap' * ty.size ≤ blockSize w' k) →
                      EffOk I w bl tmps (runV P (Builtin.append_ ts ty0 #[.slice ad (hi.getD l.length - 0) cap, yv]) w) (.val (.view r 0 none) ⟨(s.mapv (gPurge r)).tm, (s.mapv (gPurge r)).hp.set r (.row ty (l.take (hi.getD l.length) ++ ys)), (s.mapv (gPurge r)).m⟩) := by
                    intro w' q val cap' ad' hrun hw hws hos htp hout hq hrow hval hcap' hwhere
                    obtain ⟨h4, h5⟩ := h.h.move r (.row ty l) (.row ty (l.take (hi.getD l.length) ++ ys)) hr q hw hws hos htp hout hq (fun hf => by cases hf) fun hsub => hrow _ hsub.ok
                    rintro v s' ⟨rfl, rfl⟩
                    refine ⟨val, w', _, .inl (runV_ok hrun), ⟨h4, RepL.sub h5 _ _ h.tm, h.m⟩, ?_⟩
                    subst hval
                    simp only [Rep]
                    have hlen2 : (l.take (hi.getD l.length) ++ ys).length = hi.getD l.length + ys.length := by rw [List.length_append, holen]
                    refine ⟨ty.size, (l.take (hi.getD l.length) ++ ys).length, ?_, by simp, by simp, ad', cap', by simp only [Option.getD_none, Nat.sub_zero]; rw [hlen2], by simp only [Option.getD_none, Nat.sub_zero]; rw [hlen2]; exact hcap', ?_⟩
                    · show rowShape (((s.hp.map _).set r _)) r = _
                      have hrl2 : r < s.hp.length := (List.getElem?_eq_some_iff.mp hr).1
                      simp [rowShape, hrl2]
                    · rcases hwhere with hwhere | ⟨k, rfl, rfl, hwhere⟩
                      · exact .inl hwhere
                      · refine .inr ⟨k, ?_, by simp, by show (0 + cap') * ty.size ≤ blockSize w' k; simpa using hwhere⟩
                        show (bl.set r (some k))[r]? = _
                        rw [List.getElem?_set_self hrl]
                  by_cases hroom : hi.getD l.length + ys.length ≤ cap
                  · rcases hbk with hcap0 | ⟨b, hb, had, hbs⟩
                    · -- nothing there, nothing appended
                      subst hcap0
                      have hy0 : ys = [] := List.eq_nil_of_length_eq_zero (by omega)
                      have hh0 : hi.getD l.length = 0 := by omega
                      have hn0 : news = [] := by have := hsrc.size; rw [hy0] at this; simpa using this
                      have hlen0 : (Builtin.lenOf yv).run P w = .ok 0 w := by have := hsrc.len; rw [hy0] at this; simpa using this
                      have hcell0 : (Builtin.firstCells ti.size 0 yv).run P w = .ok #[] w := by have := hcw; rw [hy0, hn0] at this; simpa using this
                      have hrun := run_append_none (P := P) (w := w) (ty := ty0) (ad := ad) (sLen := hi.getD l.length - 0) (sCap := 0) h0 h1 hu hu2 hd2 hti hlen0 hcell0 (by omega)
                      refine fin w (bl[r]?.join) _ 0 ad hrun (fun _ _ _ => rfl) (Nat.le_refl _) rfl rfl rfl (fun k hk => ?_) (fun ok' hok => ?_) (by rw [hh0, hy0]; rfl) (by rw [hh0, hy0]; simp) (.inl rfl)
                      · rw [Option.join_eq_some_iff] at hk
                        exact ⟨(h.h.at_ r k hk).1, .inl hk⟩
                      · have e0 : l.take (hi.getD l.length) ++ ys = [] := by rw [hh0, hy0]; simp
                        rcases h.h.obj r _ hr with ⟨h6, _⟩ | ⟨k, vs, e', h6, h7, h8⟩
                        · exact .inl ⟨h6, e0⟩
                        · exact .inr ⟨k, vs, e', h6, h7, by rw [e0]; exact RowIs.nil _ _ _ _⟩
                    · -- in place
                      have hb' : bl[r]? = some (some b) := hb
                      rcases h.h.obj r _ hr with ⟨h6, _⟩ | ⟨k, vs, e', h6, h7, h8⟩
                      · rw [hb'] at h6; cases h6
                      · rw [hb'] at h6
                        simp only [Option.join_some, Option.some.injEq] at h6
                        subst h6
                        have h7' : w.heap[b]? = some (.cells vs e' (0, 0)) := h7
                        have hbs' : cap * ty.size ≤ vs.size := by
                          have : (0 + cap) * ty.size ≤ blockSize w b := hbs
                          rw [blockSize_of h7', Nat.zero_add] at this; exact this
                        have hroom' : (hi.getD l.length + ys.length) * ty.size ≤ vs.size := Nat.le_trans (Nat.mul_le_mul_right _ hroom) hbs'
                        rw [Nat.add_mul] at hroom'
                        have had' : ad = some ⟨b, 0, none⟩ := by rw [had]; simp
                        have hfit : hi.getD l.length * ti.size + news.length ≤ vs.size := by rw [hsz, hsrc.size]; exact hroom'
                        have hrun := run_append_in (P := P) (w := w) (ty := ty0) (g := b) (sLen := hi.getD l.length) (sCap := cap) h0 h1 hu hu2 hd2 hti h7' hsrc.len hcw hone hroom hfit
                        have hvs' : (vs.toList.take (hi.getD l.length * ti.size) ++ news ++ vs.toList.drop (hi.getD l.length * ti.size + news.length)).length = vs.size := by simp; omega
                        refine fin _ (some b) _ cap (some ⟨b, 0, none⟩) (by rw [had', Nat.sub_zero]; exact hrun) (fun b2 _ hne => setRow_ne fun e => hne (by rw [e]; exact hb')) (by simp) rfl rfl rfl
                          (fun k hk => by simp only [Option.some.injEq] at hk; subst hk; exact ⟨by simpa using (h.h.at_ r b hb').1, .inl hb'⟩) (fun ok' hok => ?_) rfl hroom (.inr ⟨b, rfl, rfl, ?_⟩)
                        · refine .inr ⟨b, _, e', rfl, setRow_heap w b vs _ e' (0, 0) h7', ?_⟩
                          have h8' : RowIs w (I.ok bl) ty l vs.toList := h8
                          have h9 : RowIs w (I.ok bl) ty (l.take (hi.getD l.length)) (vs.toList.take (hi.getD l.length * ty.size)) := by
                            refine RowIs.head (h8'.take _) ?_ ?_
                            · rw [holen, List.take_take, Nat.min_self]
                            · rw [holen]; simp; omega
                          have h10 := row_grown (rest := vs.toList.drop (hi.getD l.length * ti.size + news.length)) h9 (by rw [holen]; simp; omega) hsrc.row hsrc.size
                          have := h10.mono hok
                          rw [hsz] at this ⊢
                          simpa using this
                        · rw [blockSize_of (setRow_heap w b vs _ e' (0, 0) h7')]
                          simp only [List.size_toArray, hvs']
                          exact hbs'
                  · -- it grows
                    have holds : ∃ olds : List Value, RowIs w (I.ok bl) ty (l.take (hi.getD l.length)) olds ∧ olds.length = (l.take (hi.getD l.length)).length * ty.size ∧ (Builtin.firstCells ti.size (hi.getD l.length - 0) (.slice ad (hi.getD l.length - 0) cap)).run P w.drew = .ok olds.toArray w.drew := by
                      obtain ⟨olds, ho⟩ := src_view (P := P) h hx0 (.inl hr)
                      have ep : part l 0 hi = l.take (hi.getD l.length) := by cases hi <;> simp [part]
                      rw [ep] at ho
                      refine ⟨olds, ho.row, ho.size, ?_⟩
                      have := ho.cells w.drew rfl
                      rw [holen] at this
                      rw [hsz]
                      simpa using this
                    obtain ⟨olds, ho1, ho2, ho3⟩ := holds
                    simp only [Nat.sub_zero] at ho3
                    obtain ⟨cap2, hcap2, hrun⟩ := run_append_out (P := P) (w := w) (ty := ty0) h0 h1 hu hu2 hd2 hti hz hb0 (ad := ad) (sCap := cap) hsrc.len hcd ho3 (by omega) hmax
                    refine fin _ (some w.heap.size) _ cap2 (some ⟨w.heap.size, 0, none⟩) (by rw [Nat.sub_zero]; exact hrun) (fun b hb _ => heap_alloc_lt (w := w.drew) hb) (by simp) rfl rfl rfl
                      (fun k hk => by simp only [Option.some.injEq] at hk; subst hk; exact ⟨by simp, .inr (Nat.le_refl _)⟩) (fun ok' hok => ?_) rfl hcap2 (.inr ⟨w.heap.size, rfl, rfl, ?_⟩)
                    · refine .inr ⟨w.heap.size, _, e, rfl, heap_alloc_new, ?_⟩
                      have hrow := row_grown (rest := (Builtin.zeroCells z.cells (cap2 - (hi.getD l.length + ys.length))).toList) ho1 ho2 hsrc.row hsrc.size
                      have := hrow.mono hok
                      simpa using this
                    · show _ ≤ blockSize (w.drew.alloc _) w.drew.heap.size
                      rw [blockSize_of heap_alloc_new]
                      simp only [List.size_toArray, List.length_append, Array.length_toList, size_zeroCells, hzs, ho2, hsrc.size, holen]
                      rw [← Nat.add_mul, ← Nat.add_mul]
                      exact Nat.mul_le_mul_right _ (by omega)
                · exact EffOk.fail
              · exact EffOk.fail
            · exact EffOk.fail
          · exact EffOk.fail
      · exact EffOk.fail
  · exact EffOk.fail

end
end Go.Cellar

/- 'clear' of an own list's end. No condition. -/
set_option linter.unusedVariables false
set_option linter.unusedSimpArgs false
namespace Go.Cellar
open Go

section
variable {P : Program} {I : Inp} {w : World} {bl : List (Option Nat)} {s : St} {tmps : List Value}

theorem zeros_flatten (z : Array Value) (n : Nat) {ok : Nat → Prop} {t : Ty} (hz : z.size = t.size) (hr : RepT w ok t t.dflt z.toList) : RowIs w ok t (List.replicate n t.dflt) (Builtin.zeroCells z n).toList := by
  have h := made_flatten z n n (Nat.le_refl _) hz hr
  have e : madeCells z (n * t.size) = Builtin.zeroCells z n := by rw [← hz]; rfl
  rw [e] at h
  exact h

theorem RepT.ones {w : World} {ok : Nat → Prop} {t : Ty} {x : t.T} {vs : List Value} (h : RepT w ok t x vs) : ∀ v ∈ vs, v.oneCell' = true := RepT.oneCell t x vs h

theorem zeros_ones {z : Array Value} {n : Nat} (h : ∀ v ∈ z.toList, v.oneCell' = true) : ∀ v ∈ (Builtin.zeroCells z n).toList, v.oneCell' = true := by
  intro v hv
  simp only [Builtin.zeroCells, Array.toList_map, List.mem_map, Array.mem_toList_iff, Array.mem_range] at hv
  obtain ⟨i, hi, rfl⟩ := hv
  have hz : 0 < z.size := by
    rcases Nat.eq_zero_or_pos z.size with h0 | h0
    · rw [h0] at hi; omega
    · exact h0
  have hlt := Nat.mod_lt i hz
  rw [getElem!_pos z (i % z.size) hlt]
  exact h _ (by simp)

theorem aClear_ok {t : TypeId} {ts : Array TypeId} {ty0 : TypeId} {consts : Array Bool} {x : AV} {xv : Value} {args : Array Value} (h : Sim I w bl s tmps) (hx : Rep (I.env w bl s.hp) x xv) (ht : ts[0]? = some t) (ha : args[0]? = some xv) :
    EffOk I w bl tmps ((builtin .clear ts ty0 consts args).run P w) (aClear P t x s) := by
  have e0 : (builtin .clear ts ty0 consts args).run P w = runV P (Builtin.clear_ ts ty0 args) w := rfl
  rw [e0]
  unfold aClear
  split
  · rename_i e r lo hu
    split
    · rename_i ty l hr
      split
      · rename_i hc
        obtain ⟨hc1, hc2⟩ := hc
        obtain ⟨i, z, hi, hz, hzr⟩ := zeroIs_ok hc2 (w := w) (ok := I.ok bl)
        have hzs : z.cells.size = ty.size := by have := hzr.length; simpa using this
        simp only [Rep] at hx
        obtain ⟨sz, n, hs, h1, h2, ad, cap, rfl, h3, h4⟩ := hx
        have hs' : rowShape s.hp r = some (sz, n) := hs
        simp only [rowShape, hr, Option.some.injEq, Prod.mk.injEq] at hs'
        obtain ⟨rfl, rfl⟩ := hs'
        simp only [Option.getD_none] at h1 h2 h3 h4 ha
        by_cases hm : l.length - lo = 0
        · have hll : l.take lo ++ List.replicate (l.length - lo) ty.dflt = l := by rw [hm, List.replicate_zero, List.append_nil]; exact List.take_of_length_le (by omega)
          rw [hll]
          have hset : s.hp.set r (.row ty l) = s.hp := by
            obtain ⟨hlt, hg⟩ := List.getElem?_eq_some_iff.mp hr
            rw [← hg]; exact List.set_getElem_self hlt
          rw [hset]
          refine EffOk.same h (runV_ok (v := .tuple #[]) ?_) (by simp [Rep])
          rw [hm] at ha
          cases ad <;> simp [Builtin.clear_, ht, ha, run_underlying hu]
        · rcases h4 with h4 | ⟨b, hb, rfl, hcap⟩
          · omega
          · have hb' : bl[r]? = some (some b) := hb
            have ho := h.h.obj r _ hr
            rw [hb'] at ho
            rcases ho with ⟨ho, _⟩ | ⟨k, vs, e1, ho, hk, hrow⟩
            · cases ho
            · simp only [Option.join_some, Option.some.injEq] at ho
              subst ho
              have hk' : w.heap[b]? = some (.cells vs e1 (0, 0)) := hk
              have hrl := hrow.1
              have hlo : lo * ty.size + (l.length - lo) * ty.size = l.length * ty.size := by rw [← Nat.add_mul]; congr 1; omega
              have hzl : (Builtin.zeroCells z.cells (l.length - lo)).toList.length = (l.length - lo) * ty.size := by simp [size_zeroCells, hzs]
              have hones : ∀ v ∈ (Builtin.zeroCells z.cells (l.length - lo)).toList, v.oneCell' = true := zeros_ones hzr.ones
              have hrun := run_storeCells_at P b (lo * ty.size) e1 (Builtin.zeroCells z.cells (l.length - lo)).toList 0 vs w hk' (by rw [hzl]; simp at hrl; omega) hones
              simp only [Nat.add_zero] at hrun
              obtain ⟨NEW, hNEW⟩ : ∃ NEW : List Value, NEW = vs.toList.take (lo * ty.size) ++ (Builtin.zeroCells z.cells (l.length - lo)).toList ++ vs.toList.drop (lo * ty.size + (Builtin.zeroCells z.cells (l.length - lo)).toList.length) := ⟨_, rfl⟩
              rw [← hNEW] at hrun
              have hnl : NEW.length = vs.size := by
                rw [hNEW]; simp only [List.length_append, List.length_take, List.length_drop, hzl, Array.length_toList]; simp at hrl; omega
              obtain ⟨g1, g2⟩ := h.h.same (w' := w.setRow b NEW.toArray) r b (.row ty (l.take lo ++ List.replicate (l.length - lo) ty.dflt)) hb' (fun c hne => setRow_ne hne) (by simp)
                (by rw [blockSize_of hk', blockSize_of (setRow_heap w b vs _ e1 (0, 0) hk')]; simp only [List.size_toArray, hnl]; exact Nat.le_refl _) rfl rfl rfl
                (fun q hq => by
                  have hlt : r < s.hp.length := (List.getElem?_eq_some_iff.mp hr).1
                  simp only [rowShape, hr, Option.some.injEq] at hq
                  have hll : lo ≤ l.length := h1
                  simp [rowShape, hlt, ← hq, Nat.min_eq_left hll]
                  omega)
                (fun o ho hf => by rw [hr] at ho; simp only [Option.some.injEq] at ho; subst ho; cases hf)
                (fun hle => .inr ⟨b, _, e1, rfl, setRow_heap w b vs _ e1 (0, 0) hk', by
                  have a1 : RowIs w (I.ok bl) ty (l.take lo) (vs.toList.take (lo * ty.size)) := by
                    refine (hrow.take lo).head ?_ ?_
                    · have : (l.take lo).length = lo := by rw [List.length_take]; exact Nat.min_eq_left h1
                      rw [this, List.take_take, Nat.min_self]
                    · have : (l.take lo).length = lo := by rw [List.length_take]; exact Nat.min_eq_left h1
                      rw [this]; simp at hrl ⊢; omega
                  have a2 := zeros_flatten (ok := I.ok bl) (w := w) z.cells (l.length - lo) hzs hzr
                  have a3 := a1.append a2 (by have : (l.take lo).length = lo := by rw [List.length_take]; exact Nat.min_eq_left h1
                                              rw [this]; simp at hrl ⊢; omega)
                  have a4 : RowIs w (I.ok bl) ty (l.take lo ++ List.replicate (l.length - lo) ty.dflt) NEW := by
                    have hlen3 : (l.take lo ++ List.replicate (l.length - lo) ty.dflt).length = l.length := by simp; omega
                    refine a3.head ?_ ?_
                    · rw [hlen3, hNEW]
                      rw [List.take_append_of_le_length (by simp only [List.length_append, List.length_take, hzl, Array.length_toList]; simp at hrl; omega)]
                    · rw [hlen3, hnl]; simpa using hrl
                  have := a4.mono hle.ok
                  simpa [Inp.env] using this⟩)
              rintro v s' ⟨rfl, rfl⟩
              refine ⟨.tuple #[], _, bl, .inl (runV_ok ?_), ⟨g1, RepL.mono g2 h.tm, h.m⟩, by simp [Rep]⟩
              obtain ⟨m, hmm⟩ : ∃ m, l.length - lo = m + 1 := ⟨l.length - lo - 1, by omega⟩
              have hzv : (zeroValue e).run P w = .ok z w := by
                simp [zeroValue, typeInfo, hi, hz]
              rw [hmm] at hrun ha
              simp [Builtin.clear_, ht, ha, run_underlying hu, hzv, hrun]
      · exact EffOk.fail
    · exact EffOk.fail
  · exact EffOk.fail

end
end Go.Cellar
