/- Groups of relations, by plain lists: as a text, and read. No condition. -/
import Derived.Test.YtjjlkckemfdckaaDoorPl7r
set_option linter.unusedSimpArgs false
set_option linter.unusedVariables false
set_option maxRecDepth 4000
namespace Go.Cellar
open Go

def sepC : List UInt8 := [44, 32]
def sepB : List UInt8 := [32, 124, 32]
theorem e2' (n : Nat) : ((n : Int) - ((0 : Nat) : Int)) = (n : Int) := by omega

/-- Short enough for all that is done. -/
def ShR (n : Nat) (x : Rl) : Prop := x.1.length ≤ n ∧ x.2.1.length ≤ n ∧ x.2.2.length ≤ n

theorem textR_len {n : Nat} {x : Rl} (h : ShR n x) : (textR x).length ≤ 3 * n + 4 := by
  obtain ⟨h1, h2, h3⟩ := h
  unfold textR
  split
  · omega
  · simp; omega

theorem right7_eq (x : Rl) (h : ShR 100000 x) : relation_right x.1 x.2.1 x.2.2 = some (if rightR x = true then (textR x, 0) else ([], 1)) := by
  obtain ⟨h1, h2, h3⟩ := h
  unfold relation_right
  rw [relRight_eq _ _ _ (by omega), Option.bind_some]
  cases hr : rightR x
  · simp
  · rw [textR_eq _ _ _ (by omega)]
    simp

/-! ### lists -/

def fR (_ : Nat) (x : Rl) : Int ⊕ List UInt8 := if rightR x = true then .inr (textR x) else .inl 1

theorem mapE_fR (l : List Rl) (k : Nat) : mapE fR k l = if l.all rightR = true then .inr (l.map textR) else .inl 1 := by
  induction l generalizing k with
  | nil => rfl
  | cons x r ih =>
    unfold mapE
    rw [ih (k + 1)]
    unfold fR
    cases hx : rightR x
    · simp [hx]
    · cases hr : r.all rightR
      · simp [hx, hr]
      · simp [hx, hr]

def jV (sep : List UInt8) (l : List Rl) : List UInt8 × Int :=
  if 64 < l.length then ([], 22) else if l.all rightR = true then (Lib.join (l.map textR) sep, 0) else ([], 1)

theorem jV_eq (sep : List UInt8) (hsep : sep.length < 100) (l : List Rl) (hl : l.length ≤ 100000) (hs : ∀ x ∈ l, ShR 100000 x) : api_Rel_ l sep = some (jV sep l) := by
  unfold api_Rel_ jV
  by_cases h64 : 64 < l.length
  · simp [h64, show (64 : Int) < (l.length : Int) by omega]
  · have h := col_loop (api_Rel__b0 l (l.length : Int)) fR l (fun k out hk => by
        unfold api_Rel__b0
        simp [show ¬ k < l.length by omega]) (fun k x r out h ho => by
        obtain ⟨g1, g2, g3⟩ := drop_cons h ([], [], [])
        have hx := hs x (List.mem_of_mem_drop (by rw [h]; simp))
        unfold api_Rel__b0 fR
        simp only [natlt, g1, decide_true, cond_true, Int.natCast_nonneg, true_and, if_true, Int.toNat_natCast, g2, kplus g1 (by omega), right7_eq x hx, Option.bind_some]
        cases hr : rightR x
        · simp
        · simp only [if_true, decide_true, Bool.not_true, cond_false, List.drop_zero, List.length_cons, List.length_nil]
          rw [if_pos (by omega)]) l 0 [] rfl rfl
    have h' : iter (api_Rel__b0 l (l.length : Int)) ((0 : Int), []) = _ := h
    simp only [show ¬ (64 : Int) < (l.length : Int) by omega, decide_false, cond_false, h', mapE_fR, h64, if_false]
    cases ha : l.all rightR
    · simp
    · simp only [if_true, List.nil_append, Option.bind_some, Sum.elim_inr, List.drop_zero]
      have hb := join_bound sep 300004 (l.map textR) (fun y hy => by
        obtain ⟨x, hx, rfl⟩ := List.mem_map.mp hy
        exact textR_len (hs x hx))
      rw [List.length_map] at hb
      have hb2 : l.length * (300004 + sep.length) ≤ 100000 * 300104 := Nat.mul_le_mul hl (by omega)
      rw [sjoin _ _ (by simp; omega) (by omega)]
      rfl

def groupV (l : List Rl) : List UInt8 × Int := if l.length = 0 then ([], 1) else jV sepB l

theorem group_eq (l : List Rl) (hl : l.length ≤ 100000) (hs : ∀ x ∈ l, ShR 100000 x) : relation_group l = some (groupV l) := by
  unfold relation_group groupV
  by_cases h : l.length = 0
  · simp [h]
  · have := jV_eq sepB (by decide) l hl hs
    unfold sepB at this
    simp only [show ¬ ((l.length : Int) = 0) by omega, decide_false, cond_false, this, Option.bind_some, h, if_false]
    rfl

theorem list_eq (l : List Rl) (hl : l.length ≤ 100000) (hs : ∀ x ∈ l, ShR 100000 x) : relation_List l = some (jV sepC l) := by
  unfold relation_List
  have := jV_eq sepC (by decide) l hl hs
  unfold sepC at this
  rw [this]
  rfl

/-! ### groups -/

def okG (g : List Rl) : Bool := !decide (g.length = 0) && g.all rightR
def joinG (g : List Rl) : List UInt8 := Lib.join (g.map textR) sepB
def allV (l : List (List Rl)) : List UInt8 × Int :=
  if l.any (fun g => decide (64 < g.length)) = true then ([], 22) else if 64 < l.length then ([], 22) else if l.all okG = true then (Lib.join (l.map joinG) sepC, 0) else ([], 1)

def ShG (l : List (List Rl)) : Prop := l.length ≤ 10000 ∧ ∀ g ∈ l, g.length ≤ 10000 ∧ ∀ x ∈ g, ShR 100000 x

theorem big_loop (l : List (List Rl)) (hl : l.length ≤ 10000) (B : Int → Option (Int ⊕ (Unit ⊕ Unit))) (hB : ∀ s, B s = relation_All_b0 l (l.length : Int) s) :
    iter B (0 : Int) = some (if l.any (fun g => decide (64 < g.length)) = true then .inl () else .inr ()) := by
  have hBB : B = relation_All_b0 l (l.length : Int) := funext hB
  rw [hBB]
  have h : iter (relation_All_b0 l (l.length : Int)) (0 : Int) = _ := all_loop (relation_All_b0 l (l.length : Int)) (fun _ (g : List Rl) => !decide (64 < g.length)) l (fun k hk => by
      unfold relation_All_b0
      simp [show ¬ k < l.length by omega]) (fun k x r h => by
      obtain ⟨g1, g2, g3⟩ := drop_cons h []
      unfold relation_All_b0
      simp only [natlt, g1, decide_true, cond_true, Int.natCast_nonneg, true_and, if_true, Int.toNat_natCast, g2, kplus g1 (by omega)]
      by_cases hx : 64 < x.length
      · simp [hx, show (64 : Int) < (x.length : Int) by omega]
      · simp [hx, show ¬ (64 : Int) < (x.length : Int) by omega]) l 0 rfl
  rw [h]
  congr 1
  have key : ∀ (l : List (List Rl)) (k : Nat), allFrom (fun _ (g : List Rl) => !decide (64 < g.length)) k l = !l.any (fun g => decide (64 < g.length)) := by
    intro l
    induction l with
    | nil => intro k; rfl
    | cons x r ih => intro k; simp only [allFrom, List.any_cons, ih, Bool.not_or]
  rw [key]
  cases l.any (fun g => decide (64 < g.length)) <;> rfl

def fG (_ : Nat) (g : List Rl) : Int ⊕ List UInt8 := if okG g = true then .inr (joinG g) else .inl 1

theorem mapE_fG (l : List (List Rl)) (k : Nat) : mapE fG k l = if l.all okG = true then .inr (l.map joinG) else .inl 1 := by
  induction l generalizing k with
  | nil => rfl
  | cons x r ih =>
    unfold mapE
    rw [ih (k + 1)]
    unfold fG
    cases hx : okG x
    · simp [hx]
    · cases hr : r.all okG
      · simp [hx, hr]
      · simp [hx, hr]

theorem groupV_ok (g : List Rl) (h : ¬ 64 < g.length) : groupV g = if okG g = true then (joinG g, 0) else ([], 1) := by
  unfold groupV jV okG joinG
  by_cases h0 : g.length = 0
  · simp [h0]
  · rw [if_neg h0, if_neg h]
    cases g.all rightR <;> simp [h0]

theorem joinG_len {g : List Rl} (hg : g.length ≤ 10000) (hs : ∀ x ∈ g, ShR 100000 x) : (joinG g).length ≤ 3000100000 := by
  have hb := join_bound sepB 300004 (g.map textR) (fun y hy => by
    obtain ⟨x, hx, rfl⟩ := List.mem_map.mp hy
    exact textR_len (hs x hx))
  rw [List.length_map] at hb
  have : g.length * (300004 + sepB.length) ≤ 10000 * 300007 := Nat.mul_le_mul hg (by decide)
  unfold joinG
  omega

theorem all_eq (l : List (List Rl)) (hl : ShG l) : relation_All l = some (allV l) := by
  obtain ⟨hl1, hl2⟩ := hl
  unfold relation_All allV
  rw [big_loop l hl1 (relation_All_b0 l (l.length : Int)) (fun _ => rfl)]
  cases hb : l.any (fun g => decide (64 < g.length))
  · have hsm : ∀ g ∈ l, ¬ 64 < g.length := fun g hg => by simpa using List.any_eq_false.mp hb g hg
    simp only [Bool.false_eq_true, if_false, Option.bind_some, Sum.elim_inr]
    unfold api_Rel__38
    by_cases h64 : 64 < l.length
    · simp [h64, show (64 : Int) < (l.length : Int) by omega]
    · have h := col_loop (api_Rel__38_b0 l (l.length : Int)) fG l (fun k out hk => by
          unfold api_Rel__38_b0
          simp [show ¬ k < l.length by omega]) (fun k x r out h ho => by
          obtain ⟨g1, g2, g3⟩ := drop_cons h []
          have hm : x ∈ l := List.mem_of_mem_drop (by rw [h]; simp)
          obtain ⟨hx1, hx2⟩ := hl2 x hm
          unfold api_Rel__38_b0 fG
          simp only [natlt, g1, decide_true, cond_true, Int.natCast_nonneg, true_and, if_true, Int.toNat_natCast, g2, kplus g1 (by omega), group_eq x (by omega) hx2, Option.bind_some, groupV_ok x (hsm x hm)]
          cases hr : okG x
          · simp
          · simp only [if_true, decide_true, Bool.not_true, cond_false, List.drop_zero, List.length_cons, List.length_nil]
            rw [if_pos (by omega)]) l 0 [] rfl rfl
      have h' : iter (api_Rel__38_b0 l (l.length : Int)) ((0 : Int), []) = _ := h
      simp only [show ¬ (64 : Int) < (l.length : Int) by omega, decide_false, cond_false, h', mapE_fG, h64, if_false]
      cases ha : l.all okG
      · simp
      · simp only [if_true, List.nil_append, Option.bind_some, Sum.elim_inr, List.drop_zero]
        have hb := join_bound sepC 3000100000 (l.map joinG) (fun y hy => by
          obtain ⟨x, hx, rfl⟩ := List.mem_map.mp hy
          exact joinG_len (hl2 x hx).1 (hl2 x hx).2)
        rw [List.length_map] at hb
        have hb2 : l.length * (3000100000 + sepC.length) ≤ 64 * 3000100002 := Nat.mul_le_mul (by omega) (by decide)
        have hj := sjoin (l.map joinG) sepC (by simp; omega) (by omega)
        unfold sepC at hj
        rw [hj]
        rfl
  · simp

/-! ### the document's -/

theorem rgroup_loop (l : List (List Rl)) (i : Nat) (hi : i < l.length) (hl : l.length ≤ 10000) (hg : (l.getD i []).length ≤ 10000) (hs : ∀ x ∈ l.getD i [], ShR 100000 x) :
    iter (cellarerref07_All_b1 l (i : Int)) ((0 : Int), []) = some (if (l.getD i []).all rightR = true then .inr ((l.getD i []).map textR) else .inl ()) := by
  obtain ⟨g, hgg⟩ : ∃ g, g = l.getD i [] := ⟨_, rfl⟩
  rw [← hgg] at hg hs ⊢
  have h := col_loop (cellarerref07_All_b1 l (i : Int)) (fun _ x => if rightR x = true then (Sum.inr (textR x) : Unit ⊕ List UInt8) else .inl ()) g (fun k out hk => by
      unfold cellarerref07_All_b1
      simp only [natlt, hi, Int.natCast_nonneg, true_and, if_true, Int.toNat_natCast, ← hgg, show ¬ k < g.length by omega, decide_false, cond_false]) (fun k x r out h ho => by
      obtain ⟨g1, g2, g3⟩ := drop_cons h ([], [], [])
      have hx := hs x (List.mem_of_mem_drop (by rw [h]; simp))
      obtain ⟨x1, x2, x3⟩ := hx
      unfold cellarerref07_All_b1
      simp only [natlt, hi, g1, decide_true, cond_true, Int.natCast_nonneg, true_and, if_true, Int.toNat_natCast, ← hgg, g2, kplus g1 (by omega), refRelRight_eq x.1 x.2.1 x.2.2 (by omega) (by omega), Option.bind_some]
      cases hr : rightR x
      · simp
      · rw [refTextR_eq x.1 x.2.1 x.2.2 (by omega)]
        simp only [if_true, Bool.not_true, cond_false, Option.bind_some, List.drop_zero, List.length_cons, List.length_nil]
        rw [if_pos (by omega)]) g 0 [] rfl rfl
  have h' : iter (cellarerref07_All_b1 l (i : Int)) ((0 : Int), []) = _ := h
  rw [h']
  have key : ∀ (l : List Rl) (k : Nat), mapE (fun _ x => if rightR x = true then (Sum.inr (textR x) : Unit ⊕ List UInt8) else .inl ()) k l = if l.all rightR = true then .inr (l.map textR) else .inl () := by
    intro l
    induction l with
    | nil => intro k; rfl
    | cons x r ih =>
      intro k
      unfold mapE
      rw [ih (k + 1)]
      cases hx : rightR x
      · simp [hx]
      · cases hr : r.all rightR
        · simp [hx, hr]
        · simp [hx, hr]
  rw [key]
  cases g.all rightR <;> simp

theorem refAll_eq (l : List (List Rl)) (hl : ShG l) : cellarerref07_All l = some (allV l) := by
  obtain ⟨hl1, hl2⟩ := hl
  unfold cellarerref07_All allV
  rw [big_loop l hl1 (cellarerref07_All_b0 l) (fun _ => rfl)]
  cases hb : l.any (fun g => decide (64 < g.length))
  · have hsm : ∀ g ∈ l, ¬ 64 < g.length := fun g hg => by simpa using List.any_eq_false.mp hb g hg
    simp only [Bool.false_eq_true, if_false, Option.bind_some, Sum.elim_inr]
    by_cases h64 : 64 < l.length
    · simp [h64, show (64 : Int) < (l.length : Int) by omega]
    · have h := col_loop (cellarerref07_All_b2 l) (fun _ g => if okG g = true then (Sum.inr (joinG g) : Unit ⊕ List UInt8) else .inl ()) l (fun k out hk => by
          unfold cellarerref07_All_b2
          simp [show ¬ k < l.length by omega]) (fun k x r out h ho => by
          obtain ⟨g1, g2, g3⟩ := drop_cons h []
          have hm : x ∈ l := List.mem_of_mem_drop (by rw [h]; simp)
          obtain ⟨hx1, hx2⟩ := hl2 x hm
          have hrl := rgroup_loop l k g1 hl1 (by rw [g2]; exact hx1) (by rw [g2]; exact hx2)
          rw [g2] at hrl
          unfold cellarerref07_All_b2
          simp only [natlt, g1, decide_true, cond_true, kplus g1 (by omega), hrl, Option.bind_some]
          unfold okG
          cases hr : x.all rightR
          · simp
          · simp only [if_true, Sum.elim_inr, List.length_map, e2']
            by_cases h0 : x.length = 0
            · simp [h0]
            · have hj := refJoin (x.map textR) sepB 300004 (by simp; omega) (by rw [List.length_map]; exact Nat.le_trans (Nat.mul_le_mul hx1 (show 300004 + sepB.length ≤ 300007 by decide)) (by decide)) (by decide) (fun y hy => by
                obtain ⟨z, hz, rfl⟩ := List.mem_map.mp hy
                exact textR_len (hx2 z hz))
              unfold sepB at hj
              simp only [show ¬ ((x.length : Int) = 0) by omega, decide_false, cond_false, List.drop_zero, hj, Option.bind_some, List.length_cons, List.length_nil, h0, Bool.not_false, Bool.true_and, if_true]
              rw [if_pos (by omega)]
              rfl) l 0 [] rfl rfl
      have h' : iter (cellarerref07_All_b2 l) ((0 : Int), []) = _ := h
      have key : ∀ (l : List (List Rl)) (k : Nat), mapE (fun _ g => if okG g = true then (Sum.inr (joinG g) : Unit ⊕ List UInt8) else .inl ()) k l = if l.all okG = true then .inr (l.map joinG) else .inl () := by
        intro l
        induction l with
        | nil => intro k; rfl
        | cons x r ih =>
          intro k
          unfold mapE
          rw [ih (k + 1)]
          cases hx : okG x
          · simp [hx]
          · cases hr : r.all okG
            · simp [hx, hr]
            · simp [hx, hr]
      simp only [show ¬ (64 : Int) < (l.length : Int) by omega, decide_false, cond_false, h', key, h64, if_false]
      cases ha : l.all okG
      · simp
      · simp only [if_true, List.nil_append, Option.bind_some, Sum.elim_inr, List.drop_zero]
        have hj := refJoin (l.map joinG) sepC 3000100000 (by simp; omega) (by rw [List.length_map]; exact Nat.le_trans (Nat.mul_le_mul (show l.length ≤ 64 by omega) (show 3000100000 + sepC.length ≤ 3000100002 by decide)) (by decide)) (by decide) (fun y hy => by
          obtain ⟨x, hx, rfl⟩ := List.mem_map.mp hy
          exact joinG_len (hl2 x hx).1 (hl2 x hx).2)
        unfold sepC at hj
        rw [hj]
        rfl
  · simp

end Go.Cellar
