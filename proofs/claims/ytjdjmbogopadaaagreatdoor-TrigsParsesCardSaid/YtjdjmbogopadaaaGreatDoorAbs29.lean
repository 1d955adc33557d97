/- slices.Insert of one thing: out of the two walks (there is room; there is none) and a contract for the end. No condition. -/
import Derived.Test.YtjdjmbogopadaaaGreatDoorAbs22
import Derived.Laws.IdiomCopy
import Derived.Lib.AppendZerosOnto
set_option linter.unusedVariables false
set_option linter.unusedSimpArgs false
namespace Go.Cellar
open Go

theorem RowIs.drop {w : World} {ok : Nat → Prop} {t : Ty} {l : List t.T} {vs : List Value} (n : Nat) (h : RowIs w ok t l vs) : RowIs w ok t (l.drop n) (vs.drop (n * t.size)) := by
  refine ⟨?_, fun i hi => ?_⟩
  · have := h.1
    simp only [List.length_drop, Nat.sub_mul]; omega
  · have hi' : n + i < l.length := by simp at hi; omega
    have := h.2 (n + i) hi'
    rw [List.getElem_drop, List.drop_drop]
    rwa [show n * t.size + i * t.size = (n + i) * t.size by rw [Nat.add_mul]]

theorem RowIs.trunc {w : World} {ok : Nat → Prop} {t : Ty} {l : List t.T} {vs : List Value} (h : RowIs w ok t l vs) : RowIs w ok t l (vs.take (l.length * t.size)) :=
  h.head (by rw [List.take_take, Nat.min_self]) (by have := h.1; simp; omega)

theorem RowIs.untrunc {w : World} {ok : Nat → Prop} {t : Ty} {l : List t.T} {vs : List Value} (n : Nat) (hn : n = l.length * t.size) (h : RowIs w ok t l (vs.take n)) : RowIs w ok t l vs := by
  subst hn
  have h1 := h.1
  refine h.head (by rw [List.take_take, Nat.min_self]) ?_
  simp at h1; omega

theorem RowIs.ones {w : World} {ok : Nat → Prop} {t : Ty} {l : List t.T} {vs : List Value} (h : RowIs w ok t l vs) : ∀ v ∈ vs.take (l.length * t.size), v.oneCell' = true := by
  intro v hv
  obtain ⟨j, hj, rfl⟩ := List.getElem_of_mem hv
  have hp := t.size_pos
  have hj' : j < l.length * t.size := by simp at hj; omega
  have hq : j / t.size < l.length := by rw [Nat.div_lt_iff_lt_mul hp]; exact hj'
  have h2 := h.2 (j / t.size) hq
  refine RepT.oneCell t _ _ h2 _ ?_
  rw [List.getElem_take]
  have hm : j % t.size < t.size := Nat.mod_lt _ hp
  have hjl : j < vs.length := by simp at hj; omega
  have e : j / t.size * t.size + j % t.size = j := by rw [Nat.mul_comm]; exact Nat.div_add_mod j t.size
  refine List.mem_of_getElem? (i := j % t.size) ?_
  rw [List.getElem?_take, if_pos hm, List.getElem?_drop, e, List.getElem?_eq_getElem hjl]

theorem setCells_other {b k : Nat} (hk : k ≠ b) : ∀ (vs : List Value) (o : Nat) (w : World), (w.setCells b o vs).heap[k]? = w.heap[k]?
  | [], _, _ => rfl
  | v :: r, o, w => by
    rw [World.setCells, setCells_other hk r]
    simp only [World.setCell, Array.getElem?_modify]
    rw [if_neg (Ne.symm hk)]

theorem setCells_size (b : Nat) : ∀ (vs : List Value) (o : Nat) (w : World), (w.setCells b o vs).heap.size = w.heap.size
  | [], _, _ => rfl
  | v :: r, o, w => by rw [World.setCells, setCells_size b r]; simp [World.setCell]

theorem setCells_rest (b : Nat) : ∀ (vs : List Value) (o : Nat) (w : World), (w.setCells b o vs).os = w.os ∧ (w.setCells b o vs).tape = w.tape ∧ (w.setCells b o vs).output = w.output
  | [], _, _ => ⟨rfl, rfl, rfl⟩
  | v :: r, o, w => by rw [World.setCells]; exact setCells_rest b r (o + 1) _

theorem insSetTake (l : List Value) (o : Nat) (v : Value) (h : o < l.length) (k : Nat) : (l.set o v).take (o + 1) = l.take o ++ [v] ∧ (l.set o v).drop (o + 1 + k) = l.drop (o + 1 + k) := by
  constructor
  · apply List.ext_getElem?
    intro i
    rw [List.getElem?_take, List.getElem?_append, List.length_take, Nat.min_eq_left (by omega), List.getElem?_take, List.getElem?_set]
    by_cases h1 : i < o
    · simp only [h1, show i < o + 1 by omega, if_true, show ¬ o = i by omega, if_false]
    · by_cases h2 : i = o
      · subst h2; simp [h]
      · simp only [h1, if_false, show ¬ i < o + 1 by omega]
        rw [List.getElem?_eq_none (by simp; omega)]
  · rw [List.drop_set, if_pos (by omega)]

theorem setCells_own {b : Nat} {e : TypeId} {fz : Nat × Nat} : ∀ (vs : List Value) (o : Nat) (w : World) (cur : Array Value), w.heap[b]? = some (.cells cur e fz) → o + vs.length ≤ cur.size →
    ∃ cur' : Array Value, (w.setCells b o vs).heap[b]? = some (.cells cur' e fz) ∧ cur'.toList = cur.toList.take o ++ vs ++ cur.toList.drop (o + vs.length)
  | [], o, w, cur, h, _ => ⟨cur, h, by simp⟩
  | v :: r, o, w, cur, h, hl => by
    have h1 : (w.setCell ⟨b, o, none⟩ v).heap[b]? = some (.cells (cur.setIfInBounds o v) e fz) := by
      simp [World.setCell, Array.getElem?_modify, h]
    obtain ⟨cur', h2, h3⟩ := setCells_own r (o + 1) _ _ h1 (by simp at hl ⊢; omega)
    refine ⟨cur', h2, ?_⟩
    have hol : o < cur.toList.length := by simp at hl ⊢; omega
    obtain ⟨e1, e2⟩ := insSetTake cur.toList o v hol r.length
    rw [h3, Array.toList_setIfInBounds, e1, e2]
    simp [List.append_assoc, Nat.add_assoc, Nat.add_comm 1]

theorem insCellAt {w : World} {b : Nat} {cur : Array Value} {e : TypeId} {fz : Nat × Nat} (h : w.heap[b]? = some (.cells cur e fz)) (j : Nat) : w.cell? ⟨b, j, none⟩ = cur[j]? := by
  simp [World.cell?, h]

theorem insShapeAt {w : World} {b : Nat} {cur : Array Value} {e : TypeId} {fz : Nat × Nat} (h : w.heap[b]? = some (.cells cur e fz)) : w.shape? b = some (e, cur.size) := by
  simp [World.shape?, h]

theorem insFrozenAt {w : World} {b : Nat} {cur : Array Value} {e : TypeId} (h : w.heap[b]? = some (.cells cur e (0, 0))) (j : Nat) : w.frozen? ⟨b, j, none⟩ = false := by
  simp [World.frozen?, h]

theorem insBlockOf {w : World} {a : Addr} {v : Value} (h : w.cell? a = some v) : ∃ cur e fz, w.heap[a.block]? = some (.cells cur e fz) := by
  unfold World.cell? at h
  split at h <;> simp_all

/-- slices.overlaps: the first in any memory, the second in a row of one's own. -/
theorem run_overlaps_own {P : Program} (w : World) (tS tR e : TypeId) (ht : P.underlying tS = some (.slice e)) (size : Nat) (hz : ∀ w, (Go.sizeOf e).run P w = .ok size w)
    (a b : Addr) (la ca lb cb : Nat) (hne : a.block ≠ b.block) {cA cB : Array Value} {eA eB : TypeId} {fA : Nat × Nat}
    (hA : w.heap[a.block]? = some (.cells cA eA fA)) (hB : w.heap[b.block]? = some (.cells cB eB (0, 0))) (hkA : cA.size ≠ 0) (hk : cB.size ≠ 0) :
    (Extern.SlicesOverlaps.overlaps #[tS, tS] #[tR] #[.slice (some a) la ca, .slice (some b) lb cb]).run P w = .ok (.bool false) w := by
  have hnb : (a.block != b.block) = true := by simpa using hne
  have hnb' : (a.block == b.block) = false := by simpa using hne
  change Sem.run P (α := Value) (do
    let some t := (#[tS, tS] : Array TypeId)[0]? | stuck "slices.overlaps: no parameter types"
    let .slice elem ← underlying t | stuck "slices.overlaps: slice type expected"
    let size ← sizeOf elem
    match (some a : Option Addr), (some b : Option Addr) with
    | some a, some b =>
      if la = 0 ∨ lb = 0 ∨ size = 0 then pure (Value.bool false)
      else if a.block != b.block && (← frozen a) && (← frozen b) then unsupported .addressObserved
      else do
        if a.block != b.block then do
          noView a; noView b
          if ← mayBeOne a b then return Value.bool ((← choose (.extern "sameAddr.stringBytes" 2)) == 1)
        pure (Value.bool (a.block == b.block && a.off < b.off + lb * size && b.off < a.off + la * size))
    | _, _ => pure (Value.bool false)) w = _
  have hsa : w.shape? a.block = some (eA, cA.size) := insShapeAt hA
  have hsb : w.shape? b.block = some (eB, cB.size) := insShapeAt hB
  have hfb : w.frozen? b = false := by simp [World.frozen?, hB]
  have hfb2 : ∀ n, w.frozen? { block := b.block, off := n } = false := fun n => by simp [World.frozen?, hB]
  by_cases h0 : la = 0 ∨ lb = 0 ∨ size = 0
  · simp [run_underlying ht, hz, h0]
  · obtain ⟨kB, hkB⟩ : ∃ kB, cB.size = kB + 1 := ⟨cB.size - 1, by omega⟩
    rw [hkB] at hsb
    obtain ⟨kA, hkA'⟩ : ∃ kA, cA.size = kA + 1 := ⟨cA.size - 1, by omega⟩
    rw [hkA'] at hsa
    cases hfa : w.frozen? a <;> cases hfa2 : w.frozen? { block := a.block, off := kA + 1 } <;>
      simp [run_underlying ht, hz, h0, hnb, hnb', frozen, noView, viewAt, mayBeOne, stringish, shape, Sem.run, hsa, hsb, hfa, hfa2, hfb, hfb2]

/-- 'copy' of cells, at any size of an element: all is read before anything is written. -/
theorem run_copy_cellsK {P : Program} (w : World) (dT sT ty elem : TypeId) (k b o dLen dCap : Nat) (a : Addr) (sLen sCap : Nat) (cs : List Value)
    (hu : P.underlying dT = some (.slice elem)) (hs : (P.info? elem).map (·.size) = some k) (hn : cs.length = Nat.min sLen dLen * k)
    (hsrc : ∀ j v, cs[j]? = some v → w.cell? (a.add j) = some v) (hc : ∀ j, j < cs.length → (w.cell? ⟨b, o + j, none⟩).isSome = true) (hf : ∀ j, j < cs.length → w.frozen? ⟨b, o + j, none⟩ = false) (h1 : ∀ v ∈ cs, v.oneCell' = true) :
    (Builtin.copy_ #[dT, sT] ty #[.slice (some ⟨b, o, none⟩) dLen dCap, .slice (some a) sLen sCap]).run P w = .ok (goInt (Nat.min sLen dLen)) (w.setCells b o cs) := by
  have hl := run_loadCells_list (P := P) w a cs hsrc
  have hst := run_storeCells_cells (P := P) b o cs 0 w (by simpa using hc) (by simpa using hf) h1
  cases hq : P.info? elem with
  | none => simp [hq] at hs
  | some i =>
    have hi : i.size = k := by simpa [hq] using hs
    rw [hn] at hl
    simp [Builtin.copy_, run_underlying hu, Builtin.lenOf, Builtin.firstCells, sizeOf, typeInfo, hq, hi, hl, hst]

def insOne {α : Type} (l : List α) (i : Nat) (x : α) : List α := l.take i ++ x :: l.drop i

section
variable {P : Program} {g B : Nat} {ty : Ty}

/-- What a walk says where there is room. -/
def InsRoom (P : Program) (g k B : Nat) : Prop :=
  ∀ (b i n c vb voff vc : Nat) (cs vs : List Value) (w : World) (cur ucur : Array Value) (e ue : TypeId) (ufz : Nat × Nat), i < n → n + 1 ≤ c → c * k ≤ cur.size → (n + 1) * B ≤ 140737488355328 → vb ≠ b →
    w.heap[b]? = some (.cells cur e (0, 0)) → w.heap[vb]? = some (.cells ucur ue ufz) → cs = cur.toList.take (n * k) → cs.length = n * k → vs.length = k → (∀ j v, vs[j]? = some v → w.cell? ⟨vb, voff + j, none⟩ = some v) →
    (∀ v ∈ cs, v.oneCell' = true) → (∀ v ∈ vs, v.oneCell' = true) →
    Calls P g #[.slice (some ⟨b, 0, none⟩) n c, .int .i64 i, .slice (some ⟨vb, voff, none⟩) 1 vc] w fun ex w' =>
      ex = .returned (.slice (some ⟨b, 0, none⟩) (n + 1) c) ∧ ∃ w1 : World, (w1.heap = w.heap ∧ w1.os = w.os ∧ w1.tape = w.tape ∧ w1.output = w.output) ∧ w' = (w1.setCells b ((i + 1) * k) (cs.drop (i * k))).setCells b (i * k) vs

/-- .. and where there is none. -/
def InsGrow (P : Program) (g k B : Nat) : Prop :=
  ∀ (b i n c vb voff vc : Nat) (cs vs : List Value) (w : World) (cur ucur : Array Value) (e ue : TypeId) (ufz : Nat × Nat), i < n → n ≤ c → c < n + 1 → (n + 1) * B ≤ 140737488355328 →
    w.heap[b]? = some (.cells cur e (0, 0)) → w.heap[vb]? = some (.cells ucur ue ufz) → cs = cur.toList.take (n * k) → cs.length = n * k → vs.length = k → (∀ j v, vs[j]? = some v → w.cell? ⟨vb, voff + j, none⟩ = some v) →
    (∀ v ∈ cs, v.oneCell' = true) → (∀ v ∈ vs, v.oneCell' = true) →
    Calls P g #[.slice (some ⟨b, 0, none⟩) n c, .int .i64 i, .slice (some ⟨vb, voff, none⟩) 1 vc] w fun ex w' =>
      ∃ (G : Nat) (row : Array Value) (eT : TypeId), ex = .returned (.slice (some ⟨w.heap.size, 0, none⟩) (n + 1) G) ∧ n + 1 ≤ G ∧ G * k ≤ row.size ∧ row.toList.take (i * k) = cs.take (i * k) ∧
        ∃ w1 : World, (w1.heap = w.heap.push (.cells row eT) ∧ w1.os = w.os ∧ w1.tape = w.tape ∧ w1.output = w.output) ∧
          ∃ w2 : World, (w2.heap = (w1.setCells w.heap.size (i * k) vs).heap ∧ w2.os = w1.os ∧ w2.tape = w1.tape ∧ w2.output = w1.output) ∧ w' = w2.setCells w.heap.size ((i + 1) * k) (cs.drop (i * k))

theorem ins_row {w w' : World} {ok ok' : Nat → Prop} {l : List ty.T} {x : ty.T} {i : Nat} {cs vs : List Value} (hle : OkLe w ok w' ok') (hr : RowIs w ok ty l cs) (hcl : cs.length = l.length * ty.size) (hx : RepT w ok ty x vs) (hi : i < l.length) {us : List Value}
    (hu : us.take ((l.length + 1) * ty.size) = cs.take (i * ty.size) ++ vs ++ cs.drop (i * ty.size)) : RowIs w' ok' ty (insOne l i x) us := by
  have hvl := hx.length
  have hil : i * ty.size ≤ cs.length := by rw [hcl]; exact Nat.mul_le_mul_right _ (by omega)
  have h1 : RowIs w ok ty (l.take i) (cs.take (i * ty.size)) := by
    have := (hr.take i).trunc
    simpa [Nat.min_eq_left (by omega : i ≤ l.length)] using this
  have h2 := h1.append (RowIs.single hx) (by simp [Nat.min_eq_left (by omega : i ≤ l.length)]; omega)
  have h3 := h2.append (hr.drop i) (by simp only [List.length_append, List.length_take, List.length_singleton, Nat.add_mul, Nat.one_mul]; rw [hvl, Nat.min_eq_left hil, Nat.min_eq_left (by omega : i ≤ l.length)])
  rw [← hu] at h3
  have h4 : RowIs w' ok' ty (insOne l i x) (us.take ((l.length + 1) * ty.size)) := by
    have := h3.mono hle
    rwa [List.append_assoc] at this
  refine RowIs.untrunc _ ?_ h4
  simp only [insOne, List.length_append, List.length_take, List.length_cons, List.length_drop]
  congr 1; omega

theorem insert_con
    (hend : ∀ (l : List ty.T) (x : ty.T), (l.length + 1) * B ≤ 17592186044416 → Con P g [.view 0 0 none, .int .i64 l.length, .list ty [x] false] [.row ty l] (.view 0 0 none) [.row ty (l ++ [x])])
    (hroom : InsRoom P g ty.size B) (hgrow : InsGrow P g ty.size B)
    {l : List ty.T} {x : ty.T} {i : Nat} (hi : i ≤ l.length) (hB0 : (l.length + 1) * B ≤ 17592186044416) :
    Con P g [.view 0 0 none, .int .i64 i, .list ty [x] false] [.row ty l] (.view 0 0 none) [.row ty (insOne l i x)] := by
  by_cases hin : i = l.length
  · subst hin
    have := hend l x hB0
    simpa [insOne] using this
  have hi' : i < l.length := by omega
  have hB : (l.length + 1) * B ≤ 140737488355328 := Nat.le_trans hB0 (by decide)
  intro J vals hin hsim hrep hG
  simp only [RepL, Rep] at hrep
  obtain ⟨v1, vs1, hv, ⟨sz, n, hsh, _, _, ad, cap, rfl, hcap, hcase⟩, v2, vs2, rfl, rfl, v3, vs3, rfl, ⟨hvl, hvf⟩, rfl⟩ := hrep
  have hsh' : rowShape [AO.row ty l] 0 = some (sz, n) := hsh
  simp only [rowShape, List.getElem?_cons_zero, Option.some.injEq, Prod.mk.injEq] at hsh'
  obtain ⟨rfl, rfl⟩ := hsh'
  simp only [Option.getD_none, Nat.sub_zero] at hv hcap
  obtain ⟨b0, hbl⟩ : ∃ b0, J.bl0 = [b0] := by
    have := hsim.len
    match hq : J.bl0 with
    | [] => rw [hq] at this; simp at this
    | [x] => exact ⟨x, rfl⟩
    | _ :: _ :: _ => rw [hq] at this; simp at this
  simp only [RepT] at hvl
  obtain ⟨ud, uc, hu1, huc, hu2⟩ := hvl
  simp only [List.cons.injEq, and_true] at hu1
  subst hu1
  obtain ⟨ua, vs, rfl, hsp, hok, hvlen, hvcells, hvrep⟩ := hu2 0 (by simp)
  simp only [List.getElem_cons_zero] at hvrep
  simp only [Nat.zero_mul, Nat.add_zero] at hvcells
  obtain ⟨ub, uo, us⟩ := ua
  simp only at hsp
  subst hsp
  have hvals : vals = #[.slice ad l.length cap, .int .i64 i, .slice (some ⟨ub, uo, none⟩) 1 uc] := by apply Array.ext'; simpa using hv
  rw [hvals]
  have hobj := hsim.obj 0 (.row ty l) rfl
  rw [hbl] at hobj
  simp only [List.getElem?_cons_zero, Option.join_some, ORep] at hobj
  rcases hcase with rfl | ⟨b, hb1, rfl, hbs⟩
  · omega
  have hb1' : J.bl0[0]? = some (some b) := hb1
  rw [hbl] at hb1'
  simp only [List.getElem?_cons_zero, Option.some.injEq] at hb1'
  subst hb1'
  simp only [Nat.zero_mul] at hvals hbs ⊢
  rcases hobj with ⟨hn, _⟩ | ⟨k, cur, e, hk, hkh, hrow⟩
  · cases hn
  simp only [Option.some.injEq] at hk
  subst hk
  have hkh' : J.w0.heap[b]? = some (.cells cur e (0, 0)) := hkh
  have hblt : b < J.w0.heap.size := (Array.getElem?_eq_some_iff.mp hkh').1
  have hok' : J.ok J.bl0 ub := hok
  have hub : ub ≠ b := fun e => hok'.2 (by rw [hbl, e]; simp)
  have hp := ty.size_pos
  have hub0 : J.w0.cell? ⟨ub, uo + 0, none⟩ = some vs[0] := hvcells 0 (by omega)
  obtain ⟨ucur, ue, ufz, hukh⟩ := insBlockOf hub0
  have hults : ub < J.w0.heap.size := (Array.getElem?_eq_some_iff.mp hukh).1
  have hvcells' : ∀ j v, vs[j]? = some v → J.w0.cell? ⟨ub, uo + j, none⟩ = some v := fun j v hj => by
    obtain ⟨hj1, rfl⟩ := List.getElem?_eq_some_iff.mp hj
    exact hvcells j hj1
  have hrow' : RowIs J.w0 (J.ok J.bl0) ty l cur.toList := by rw [hbl]; exact hrow
  have hcurl : l.length * ty.size ≤ cur.toList.length := hrow'.1
  have hbs' : cap * ty.size ≤ cur.size := by
    have h0 : (0 + cap) * ty.size ≤ blockSize J.w0 b := hbs
    simpa [blockSize, hkh'] using h0
  obtain ⟨cs, hcs⟩ : ∃ cs, cs = cur.toList.take (l.length * ty.size) := ⟨_, rfl⟩
  have hcsl : cs.length = l.length * ty.size := by rw [hcs]; simp at hcurl ⊢; omega
  have hrcs : RowIs J.w0 (J.ok J.bl0) ty l cs := by rw [hcs]; exact hrow'.trunc
  have hone : ∀ v ∈ cs, v.oneCell' = true := by rw [hcs]; exact hrow'.ones
  have hvone : ∀ v ∈ vs, v.oneCell' = true := RepT.oneCell ty x vs hvrep
  have hils := mul_le_of_lt (s := ty.size) hi'
  have hdl : (cs.drop (i * ty.size)).length = (l.length - i) * ty.size := by rw [List.length_drop, hcsl, Nat.sub_mul]
  have hlk : (l.length + 1) * ty.size = l.length * ty.size + ty.size := by rw [Nat.add_mul, Nat.one_mul]
  have hik : (i + 1) * ty.size = i * ty.size + ty.size := by rw [Nat.add_mul, Nat.one_mul]
  have hsub : (l.length - i) * ty.size = l.length * ty.size - i * ty.size := Nat.sub_mul _ _ _
  have hil : i * ty.size ≤ l.length * ty.size := Nat.mul_le_mul_right _ (by omega)
  by_cases hcp : l.length + 1 ≤ cap
  · refine (hroom b i l.length cap ub uo uc cs vs J.w0 cur ucur e ue ufz hi' hcp hbs' hB hub hkh' hukh hcs hcsl hvlen hvcells' hone hvone).mono ?_
    rintro ex w' ⟨rfl, w1, ⟨hw1, hos, htp, hout⟩, rfl⟩
    have hroomc : (l.length + 1) * ty.size ≤ cur.size := Nat.le_trans (Nat.mul_le_mul_right _ hcp) hbs'
    have h1 : w1.heap[b]? = some (.cells cur e (0, 0)) := by rw [hw1]; exact hkh'
    obtain ⟨c1, hc1, hl1⟩ := setCells_own (cs.drop (i * ty.size)) ((i + 1) * ty.size) w1 cur h1 (by omega)
    have hc1s : c1.size = cur.size := by
      have := congrArg List.length hl1
      simp only [List.length_append, List.length_take, List.length_drop, Array.length_toList] at this
      omega
    obtain ⟨c2, hc2, hl2⟩ := setCells_own vs (i * ty.size) _ c1 hc1 (by omega)
    have hc2s : c2.size = cur.size := by
      have := congrArg List.length hl2
      simp only [List.length_append, List.length_take, List.length_drop, Array.length_toList] at this
      omega
    have hoth : ∀ q, q ≠ b → ((w1.setCells b ((i + 1) * ty.size) (cs.drop (i * ty.size))).setCells b (i * ty.size) vs).heap[q]? = J.w0.heap[q]? := fun q hq => by
      rw [setCells_other hq, setCells_other hq, hw1]
    have hflat : c2.toList.take ((l.length + 1) * ty.size) = cs.take (i * ty.size) ++ vs ++ cs.drop (i * ty.size) := by
      rw [hl2, hl1]
      have e1 : (cur.toList.take ((i + 1) * ty.size) ++ cs.drop (i * ty.size) ++ cur.toList.drop ((i + 1) * ty.size + (cs.drop (i * ty.size)).length)).take (i * ty.size) = cs.take (i * ty.size) := by
        rw [List.append_assoc, List.take_append_of_le_length (by simp at hcurl ⊢; omega), List.take_take, Nat.min_eq_left (by omega), hcs, List.take_take, Nat.min_eq_left (by omega)]
      have e2 : (cur.toList.take ((i + 1) * ty.size) ++ cs.drop (i * ty.size) ++ cur.toList.drop ((i + 1) * ty.size + (cs.drop (i * ty.size)).length)).drop (i * ty.size + vs.length) = cs.drop (i * ty.size) ++ cur.toList.drop ((i + 1) * ty.size + (cs.drop (i * ty.size)).length) := by
        rw [List.append_assoc]
        have : (cur.toList.take ((i + 1) * ty.size)).length = i * ty.size + vs.length := by simp at hcurl ⊢; omega
        rw [← this, List.drop_left]
      rw [e1, e2, ← List.append_assoc]
      rw [List.take_append_of_le_length (by simp only [List.length_append, List.length_take]; omega)]
      exact List.take_of_length_le (by simp only [List.length_append, List.length_take]; omega)
    have hle : OkLe J.w0 (J.ok J.bl0) ((w1.setCells b ((i + 1) * ty.size) (cs.drop (i * ty.size))).setCells b (i * ty.size) vs) (J.ok J.bl0) := fun q hq _ =>
      ⟨hq, hoth q fun e => hq.2 (by rw [hbl, e]; simp)⟩
    have hfin := ins_row (w' := (w1.setCells b ((i + 1) * ty.size) (cs.drop (i * ty.size))).setCells b (i * ty.size) vs) (i := i) hle hrcs hcsl hvrep hi' hflat
    have hr1 := setCells_rest b (cs.drop (i * ty.size)) ((i + 1) * ty.size) w1
    have hr2 := setCells_rest b vs (i * ty.size) (w1.setCells b ((i + 1) * ty.size) (cs.drop (i * ty.size)))
    have hsz : ((w1.setCells b ((i + 1) * ty.size) (cs.drop (i * ty.size))).setCells b (i * ty.size) vs).heap.size = J.w0.heap.size := by rw [setCells_size, setCells_size, hw1]
    refine ⟨_, rfl, J.bl0, ⟨hsim.len, hsim.many, hsim.inj, fun r b' hr => ⟨by rw [hsz]; exact (hsim.at_ r b' hr).1, (hsim.at_ r b' hr).2⟩, ?_, by rw [hsz]; exact Nat.le_refl _, fun q hq hnb => hoth q (fun e => hnb (by rw [hbl, e]; simp)), by rw [hr2.1, hr1.1, hos], by rw [hr2.2.1, hr1.2.1, htp], by rw [hr2.2.2, hr1.2.2, hout], ?_⟩, ?_⟩
    · intro r o ho
      match r with
      | 0 =>
        simp only [List.getElem?_cons_zero, Option.some.injEq] at ho
        subst ho
        rw [hbl]
        simp only [List.getElem?_cons_zero, Option.join_some, ORep]
        refine .inr ⟨b, c2, e, rfl, hc2, ?_⟩
        have := hfin
        rw [hbl] at this
        exact this
      | n + 1 => simp at ho
    · intro j o hj ho
      rw [hin] at hj
      match j with
      | 0 =>
        simp only [List.getElem?_cons_zero, Option.some.injEq] at hj
        subst hj
        cases ho
      | n + 1 => simp at hj
    · simp only [Rep]
      refine ⟨ty.size, l.length + 1, ?_, Nat.zero_le _, by simp, some ⟨b, 0, none⟩, cap, by simp, by simpa using hcp, .inr ⟨b, by rw [hbl]; rfl, by simp, ?_⟩⟩
      · show rowShape [AO.row ty (insOne l i x)] 0 = _
        simp only [rowShape, List.getElem?_cons_zero, insOne, List.length_append, List.length_take, List.length_cons, List.length_drop, Option.some.injEq, Prod.mk.injEq, true_and]
        omega
      · show (0 + cap) * ty.size ≤ blockSize _ b
        simp only [Inp.env, blockSize, hc2, hc2s, Nat.zero_add]
        exact hbs'
  · refine (hgrow b i l.length cap ub uo uc cs vs J.w0 cur ucur e ue ufz hi' hcap (by omega) hB hkh' hukh hcs hcsl hvlen hvcells' hone hvone).mono ?_
    rintro ex w' ⟨G, row, eT, rfl, hGn, hGr, htk, w1, ⟨hw1, hos1, htp1, hout1⟩, w2, ⟨hw2, hos2, htp2, hout2⟩, rfl⟩
    obtain ⟨N, hN⟩ : ∃ N, N = J.w0.heap.size := ⟨_, rfl⟩
    rw [← hN] at hw2 ⊢
    have h1 : w1.heap[N]? = some (.cells row eT (0, 0)) := by rw [hw1, hN]; simp
    have hrs : (l.length + 1) * ty.size ≤ row.size := Nat.le_trans (Nat.mul_le_mul_right _ hGn) hGr
    obtain ⟨c1, hc1, hl1⟩ := setCells_own vs (i * ty.size) w1 row h1 (by omega)
    have hc1s : c1.size = row.size := by
      have := congrArg List.length hl1
      simp only [List.length_append, List.length_take, List.length_drop, Array.length_toList] at this
      omega
    have h2 : w2.heap[N]? = some (.cells c1 eT (0, 0)) := by rw [hw2]; exact hc1
    obtain ⟨c2, hc2, hl2⟩ := setCells_own (cs.drop (i * ty.size)) ((i + 1) * ty.size) w2 c1 h2 (by omega)
    have hc2s : c2.size = row.size := by
      have := congrArg List.length hl2
      simp only [List.length_append, List.length_take, List.length_drop, Array.length_toList] at this
      omega
    have hoth : ∀ q, q < N → (w2.setCells N ((i + 1) * ty.size) (cs.drop (i * ty.size))).heap[q]? = J.w0.heap[q]? := fun q hq => by
      rw [setCells_other (by omega), hw2, setCells_other (by omega), hw1, Array.getElem?_push_lt (by omega), Array.getElem?_eq_getElem (by omega)]
    have hsz : (w2.setCells N ((i + 1) * ty.size) (cs.drop (i * ty.size))).heap.size = N + 1 := by rw [setCells_size, hw2, setCells_size, hw1]; simp [hN]
    have hflat : c2.toList.take ((l.length + 1) * ty.size) = cs.take (i * ty.size) ++ vs ++ cs.drop (i * ty.size) := by
      rw [hl2, hl1]
      have hrl : i * ty.size + vs.length ≤ row.toList.length := by simp; omega
      have e0 : (row.toList.take (i * ty.size) ++ vs ++ row.toList.drop (i * ty.size + vs.length)).take ((i + 1) * ty.size) = cs.take (i * ty.size) ++ vs := by
        rw [List.take_append_of_le_length (by simp only [List.length_append, List.length_take]; omega), htk]
        exact List.take_of_length_le (by simp only [List.length_append, List.length_take]; omega)
      rw [e0, List.take_append_of_le_length (by simp only [List.length_append, List.length_take]; omega)]
      exact List.take_of_length_le (by simp only [List.length_append, List.length_take]; omega)
    have hle : OkLe J.w0 (J.ok J.bl0) (w2.setCells N ((i + 1) * ty.size) (cs.drop (i * ty.size))) (J.ok [some N]) := fun q hq hlt =>
      ⟨⟨hq.1, fun hm => by simp at hm; omega⟩, hoth q (by omega)⟩
    have hfin := ins_row (w' := w2.setCells N ((i + 1) * ty.size) (cs.drop (i * ty.size))) (i := i) hle hrcs hcsl hvrep hi' hflat
    have hr1 := setCells_rest N (cs.drop (i * ty.size)) ((i + 1) * ty.size) w2
    refine ⟨_, rfl, [some N], ⟨rfl, by rw [hin]; simp, ?_, ?_, ?_, by rw [hsz]; omega, fun q hq hnb => hoth q (by omega), by rw [hr1.1, hos2, hos1], by rw [hr1.2.1, htp2, htp1], by rw [hr1.2.2, hout2, hout1], ?_⟩, ?_⟩
    · intro r r' b' hr hr'
      match r, r' with
      | 0, 0 => rfl
      | 0, n + 1 => simp at hr'
      | n + 1, _ => simp at hr
    · intro r b' hr
      match r with
      | 0 =>
        simp only [List.getElem?_cons_zero, Option.some.injEq] at hr
        subst hr
        exact ⟨by rw [hsz]; omega, .inr (by omega)⟩
      | n + 1 => simp at hr
    · intro r o ho
      match r with
      | 0 =>
        simp only [List.getElem?_cons_zero, Option.some.injEq] at ho
        subst ho
        simp only [List.getElem?_cons_zero, Option.join_some, ORep]
        exact .inr ⟨N, c2, eT, rfl, hc2, hfin⟩
      | n + 1 => simp at ho
    · intro j o hj ho
      rw [hin] at hj
      match j with
      | 0 =>
        simp only [List.getElem?_cons_zero, Option.some.injEq] at hj
        subst hj
        cases ho
      | n + 1 => simp at hj
    · simp only [Rep]
      refine ⟨ty.size, l.length + 1, ?_, Nat.zero_le _, by simp, some ⟨N, 0, none⟩, G, by simp, by simpa using hGn, .inr ⟨N, rfl, by simp, ?_⟩⟩
      · show rowShape [AO.row ty (insOne l i x)] 0 = _
        simp only [rowShape, List.getElem?_cons_zero, insOne, List.length_append, List.length_take, List.length_cons, List.length_drop, Option.some.injEq, Prod.mk.injEq, true_and]
        omega
      · show (0 + G) * ty.size ≤ blockSize _ N
        simp only [Inp.env, blockSize, hc2, hc2s, Nat.zero_add]
        exact hGr

end
end Go.Cellar
