/- Numbers and modes, read and written, by plain lists. No condition. -/
import Derived.Test.YtblmgbbablmedaaDoorPl10t
set_option linter.unusedSimpArgs false
set_option linter.unusedVariables false
set_option maxRecDepth 4000
namespace Go.Cellar
open Go

/-! ### four octal digits -/

def octD (n : Nat) : UInt8 := UInt8.ofNat (48 + n % 8)
def octV (m : Nat) : List UInt8 := [octD (m / 512), octD (m / 64), octD (m / 8), octD m]

theorem and7 (x : Nat) (h : x < 9223372036854775808) : IntKind.wrap IntKind.i64 (((BitVec.ofInt (IntKind.bits IntKind.i64) (x : Int) &&& BitVec.ofInt (IntKind.bits IntKind.i64) (7 : Int)).toNat : Nat) : Int) = ((x % 8 : Nat) : Int) := by
  have e : (BitVec.ofInt (IntKind.bits IntKind.i64) (x : Int) &&& BitVec.ofInt (IntKind.bits IntKind.i64) (7 : Int)).toNat = x % 8 := by
    show (BitVec.ofInt 64 (x : Int) &&& BitVec.ofInt 64 (7 : Int)).toNat = x % 8
    rw [BitVec.toNat_and, BitVec.toNat_ofInt, BitVec.toNat_ofInt]
    have e1 : ((x : Int) % ((2 ^ 64 : Nat) : Int)).toNat = x := by
      rw [Int.emod_eq_of_lt (by omega) (by omega)]; omega
    have e2 : ((7 : Int) % ((2 ^ 64 : Nat) : Int)).toNat = 2 ^ 3 - 1 := by decide
    rw [e1, e2, Nat.and_two_pow_sub_one_eq_mod]
  rw [e, w64 (by omega) (by omega)]

theorem or8 (n d : Nat) (hn : n < 100000) (hd : d < 8) : IntKind.wrap IntKind.i64 (((BitVec.ofInt (IntKind.bits IntKind.i64) ((8 * n : Nat) : Int) ||| BitVec.ofInt (IntKind.bits IntKind.i64) (d : Int)).toNat : Nat) : Int) = ((8 * n + d : Nat) : Int) := by
  have e : (BitVec.ofInt (IntKind.bits IntKind.i64) ((8 * n : Nat) : Int) ||| BitVec.ofInt (IntKind.bits IntKind.i64) (d : Int)).toNat = 8 * n + d := by
    show (BitVec.ofInt 64 ((8 * n : Nat) : Int) ||| BitVec.ofInt 64 (d : Int)).toNat = _
    rw [BitVec.toNat_or, BitVec.toNat_ofInt, BitVec.toNat_ofInt]
    have e1 : (((8 * n : Nat) : Int) % ((2 ^ 64 : Nat) : Int)).toNat = 8 * n := by
      rw [Int.emod_eq_of_lt (by omega) (by omega)]; omega
    have e2 : ((d : Int) % ((2 ^ 64 : Nat) : Int)).toNat = d := by
      rw [Int.emod_eq_of_lt (by omega) (by omega)]; omega
    rw [e1, e2]
    have := Nat.two_pow_add_eq_or_of_lt (i := 3) (b := d) (by simpa using hd) n
    simpa using this.symm
  rw [e, w64 (by omega) (by omega)]

theorem fdivN (m k : Nat) (h : 0 < k) : Int.fdiv (m : Int) (k : Int) = ((m / k : Nat) : Int) := by
  rw [Int.fdiv_eq_ediv_of_nonneg _ (by omega)]; rfl

theorem octal_step (m : Nat) (hm : m < 4611686018427387904) (i : Nat) (hi : i < 4) (arr : List Int) (ha : arr.length = 4) :
    bits_Octal_b0 (m : Int) ((i : Int), arr) = some (.inl (((i + 1 : Nat) : Int), arr.set i ((48 + (m / 2 ^ (9 - 3 * i)) % 8 : Nat) : Int))) := by
  unfold bits_Octal_b0
  have h4 : decide ((i : Int) < 4) = true := by simp; omega
  have e0 : IntKind.wrap IntKind.i64 ((3 : Int) * (i : Int)) = ((3 * i : Nat) : Int) := by rw [w64 (by omega) (by omega)]; omega
  have e1 : IntKind.wrap IntKind.i64 ((9 : Int) - ((3 * i : Nat) : Int)) = ((9 - 3 * i : Nat) : Int) := by rw [w64 (by omega) (by omega)]; omega
  have e2 : IntKind.wrap IntKind.i64 ((i : Int) + 1) = ((i + 1 : Nat) : Int) := by rw [w64 (by omega) (by omega)]; omega
  have hmin : Min.min (9 - 3 * i) (IntKind.bits IntKind.i64) = 9 - 3 * i := by
    show min (9 - 3 * i) 64 = _
    exact Nat.min_eq_left (by omega)
  have e3 : Int.fdiv (m : Int) ((2 : Int) ^ (9 - 3 * i)) = ((m / 2 ^ (9 - 3 * i) : Nat) : Int) := by
    have := fdivN m (2 ^ (9 - 3 * i)) (Nat.two_pow_pos _)
    rw [← this]
    congr 1
  have hlt : m / 2 ^ (9 - 3 * i) < 9223372036854775808 := Nat.lt_of_le_of_lt (Nat.div_le_self _ _) (by omega)
  simp only [h4, cond_true, e0, e1, e2, Int.toNat_natCast, hmin, e3, and7 _ hlt]
  rw [if_pos (by omega), if_pos (by omega), if_pos (by omega)]
  rw [wu8 (n := ((m / 2 ^ (9 - 3 * i) % 8 : Nat) : Int)) (by omega) (by omega), wu8 (by omega) (by omega)]
  congr 4

theorem octal_eq (m : Nat) (hm : m < 4611686018427387904) : bits_Octal (m : Int) = some (octV m) := by
  unfold bits_Octal
  have h0 := octal_step m hm 0 (by omega) [0, 0, 0, 0] rfl
  have h1 := octal_step m hm 1 (by omega) _ (show (List.set [0, 0, 0, 0] 0 ((48 + (m / 2 ^ (9 - 3 * 0)) % 8 : Nat) : Int)).length = 4 from rfl)
  have h2 := octal_step m hm 2 (by omega) _ (show (List.set (List.set [0, 0, 0, 0] 0 ((48 + (m / 2 ^ (9 - 3 * 0)) % 8 : Nat) : Int)) 1 ((48 + (m / 2 ^ (9 - 3 * 1)) % 8 : Nat) : Int)).length = 4 from rfl)
  have h3 := octal_step m hm 3 (by omega) _ (show (List.set (List.set (List.set [0, 0, 0, 0] 0 ((48 + (m / 2 ^ (9 - 3 * 0)) % 8 : Nat) : Int)) 1 ((48 + (m / 2 ^ (9 - 3 * 1)) % 8 : Nat) : Int)) 2 ((48 + (m / 2 ^ (9 - 3 * 2)) % 8 : Nat) : Int)).length = 4 from rfl)
  have hr : List.replicate 4 (0 : Int) = [0, 0, 0, 0] := rfl
  have h0' : bits_Octal_b0 (m : Int) ((0 : Int), [0, 0, 0, 0]) = _ := h0
  rw [hr, iter_inl h0', iter_inl h1, iter_inl h2, iter_inl h3, iter_inr (t := (List.set (List.set (List.set (List.set [0, 0, 0, 0] 0 ((48 + (m / 2 ^ (9 - 3 * 0)) % 8 : Nat) : Int)) 1 ((48 + (m / 2 ^ (9 - 3 * 1)) % 8 : Nat) : Int)) 2 ((48 + (m / 2 ^ (9 - 3 * 2)) % 8 : Nat) : Int)) 3 ((48 + (m / 2 ^ (9 - 3 * 3)) % 8 : Nat) : Int))) (by unfold bits_Octal_b0; rfl)]
  simp only [Option.bind_some]
  rw [if_pos (by refine ⟨rfl, ?_⟩; omega)]
  have hd : ∀ n : Nat, UInt8.ofNat (Int.toNat ((48 + n % 8 : Nat) : Int)) = octD n := fun n => rfl
  simp only [List.set_cons_zero, List.set_cons_succ, List.drop_zero, List.map_cons, List.map_nil, List.take_succ_cons, List.take_nil, List.take_zero, hd]
  simp [octV]

theorem bit_eq (n i : Nat) (hn : n < 4611686018427387904) (hi : i < 64) : cellarerref01_Bit (n : Int) (i : Int) = some (decide (n / 2 ^ i % 2 = 1)) := by
  unfold cellarerref01_Bit
  rw [wu64 (n := (i : Int)) (by omega) (by omega), wu64 (n := (n : Int)) (by omega) (by omega)]
  have hmin : Min.min i (IntKind.bits IntKind.u64) = i := by show min i 64 = i; exact Nat.min_eq_left (by omega)
  have e3 : Int.fdiv (n : Int) ((2 : Int) ^ i) = ((n / 2 ^ i : Nat) : Int) := by
    have := fdivN n (2 ^ i) (Nat.two_pow_pos _)
    rw [← this]
    congr 1
  rw [if_pos (by omega), Int.toNat_natCast, hmin, e3, Int.tmod_eq_emod_of_nonneg (Int.natCast_nonneg _)]
  congr 1
  generalize n / 2 ^ i = q
  exact decide_eq_decide.mpr (by omega)

theorem low_loop (n b : Nat) (hn : n < 4611686018427387904) (hb : b ≤ 20) : ∀ (j i : Nat), i + j = b → iter (cellarerref01_Low_b0 (n : Int) (b : Int)) (((n % 2 ^ i : Nat) : Int), ((2 ^ i : Nat) : Int), (i : Int)) = some ((n % 2 ^ b : Nat) : Int) := by
  intro j
  induction j with
  | zero =>
    intro i h
    have : i = b := by omega
    subst this
    rw [iter_inr (t := ((n % 2 ^ i : Nat) : Int))]
    unfold cellarerref01_Low_b0
    simp
  | succ j ih =>
    intro i h
    have hp : 2 ^ i ≤ 2 ^ 20 := Nat.pow_le_pow_right (by omega) (by omega)
    have hlt : n % 2 ^ i < 2 ^ i := Nat.mod_lt _ (Nat.two_pow_pos _)
    have e1 : IntKind.wrap IntKind.i64 ((i : Int) + 1) = ((i + 1 : Nat) : Int) := by rw [w64 (by omega) (by omega)]; omega
    have e2 : IntKind.wrap IntKind.i64 ((2 : Int) * ((2 ^ i : Nat) : Int)) = ((2 ^ (i + 1) : Nat) : Int) := by rw [w64 (by omega) (by omega), Nat.pow_succ]; omega
    have hs := Nat.mod_pow_succ (b := 2) (k := i) (x := n)
    have hi : decide ((i : Int) < (b : Int)) = true := by simp; omega
    by_cases hbit : n / 2 ^ i % 2 = 1
    · have e3 : IntKind.wrap IntKind.i64 (((n % 2 ^ i : Nat) : Int) + ((2 ^ i : Nat) : Int)) = ((n % 2 ^ (i + 1) : Nat) : Int) := by
        rw [w64 (by omega) (by omega), hs, hbit]; omega
      rw [iter_inl (s' := (((n % 2 ^ (i + 1) : Nat) : Int), ((2 ^ (i + 1) : Nat) : Int), ((i + 1 : Nat) : Int))), ih (i + 1) (by omega)]
      unfold cellarerref01_Low_b0
      simp only [hi, cond_true, bit_eq n i hn (by omega), Option.bind_some, hbit, decide_true, e1, e2, e3]
    · have e3 : n % 2 ^ i = n % 2 ^ (i + 1) := by
        rw [hs, show n / 2 ^ i % 2 = 0 by omega]; omega
      rw [iter_inl (s' := (((n % 2 ^ (i + 1) : Nat) : Int), ((2 ^ (i + 1) : Nat) : Int), ((i + 1 : Nat) : Int))), ih (i + 1) (by omega)]
      unfold cellarerref01_Low_b0
      simp only [hi, cond_true, bit_eq n i hn (by omega), Option.bind_some, hbit, decide_false, cond_false, e1, e2, ← e3]

theorem low_eq (n : Nat) (hn : n < 4611686018427387904) : cellarerref01_Low (n : Int) 12 = some ((n % 4096 : Nat) : Int) := by
  unfold cellarerref01_Low
  have h := low_loop n 12 hn (by omega) 12 0 (by omega)
  have e : ((n % 2 ^ 0 : Nat) : Int) = 0 := by rw [Nat.pow_zero, Nat.mod_one]; rfl
  have e2 : ((2 ^ 0 : Nat) : Int) = 1 := rfl
  have h' : iter (cellarerref01_Low_b0 (n : Int) 12) ((0 : Int), (1 : Int), (0 : Int)) = some ((n % 4096 : Nat) : Int) := by
    rw [e, e2] at h
    exact h
  rw [h']
  rfl

theorem refOctal_step (n i : Nat) (t : List UInt8) (hi : i < 4) (hn : n < 1000000) (ht : t.length < 100) : cellarerref01_Octal_b0 ((n : Int), t, (i : Int)) = some (.inl (((n / 8 : Nat) : Int), octD n :: t, ((i + 1 : Nat) : Int))) := by
  unfold cellarerref01_Octal_b0
  have h4 : decide ((i : Int) < 4) = true := by simp; omega
  have e1 : IntKind.wrap IntKind.i64 ((i : Int) + 1) = ((i + 1 : Nat) : Int) := by rw [w64 (by omega) (by omega)]; omega
  have e2 : Int.tmod (n : Int) 8 = ((n % 8 : Nat) : Int) := by rw [Int.tmod_eq_emod_of_nonneg (by omega)]; omega
  have e3 : Int.tdiv (n : Int) 8 = ((n / 8 : Nat) : Int) := by rw [Int.tdiv_eq_ediv_of_nonneg (by omega)]; omega
  have e4 : IntKind.wrap IntKind.i64 ((48 : Int) + ((n % 8 : Nat) : Int)) = (48 : Int) + ((n % 8 : Nat) : Int) := w64 (by omega) (by omega)
  have e5 : IntKind.wrap IntKind.i32 ((48 : Int) + ((n % 8 : Nat) : Int)) = (48 : Int) + ((n % 8 : Nat) : Int) := w32 (by omega) (by omega)
  simp only [h4, cond_true, e2, e3, e4, e5, e1, enc_digit _ (show n % 8 < 10 by omega)]
  rw [if_pos (by simp; omega), w64 (n := ((n / 8 : Nat) : Int)) (by omega) (by omega)]
  rfl

theorem refOctal_eq (n : Nat) (hn : n < 4611686018427387904) : cellarerref01_Octal (n : Int) = some (octV n) := by
  unfold cellarerref01_Octal
  rw [low_eq n hn, Option.bind_some]
  have h0 := refOctal_step (n % 4096) 0 [] (by omega) (by omega) (by simp)
  have h1 := refOctal_step (n % 4096 / 8) 1 [octD (n % 4096)] (by omega) (by omega) (by simp)
  have h2 := refOctal_step (n % 4096 / 8 / 8) 2 [octD (n % 4096 / 8), octD (n % 4096)] (by omega) (by omega) (by simp)
  have h3 := refOctal_step (n % 4096 / 8 / 8 / 8) 3 [octD (n % 4096 / 8 / 8), octD (n % 4096 / 8), octD (n % 4096)] (by omega) (by omega) (by simp)
  have h0' : cellarerref01_Octal_b0 (((n % 4096 : Nat) : Int), [], (0 : Int)) = _ := h0
  rw [iter_inl h0', iter_inl h1, iter_inl h2, iter_inl h3, iter_inr (t := [octD (n % 4096 / 8 / 8 / 8), octD (n % 4096 / 8 / 8), octD (n % 4096 / 8), octD (n % 4096)]) (by unfold cellarerref01_Octal_b0; rfl)]
  simp only [Option.bind_some, octV, octD]
  have a0 : n % 4096 / 8 / 8 / 8 % 8 = n / 512 % 8 := by omega
  have a1 : n % 4096 / 8 / 8 % 8 = n / 64 % 8 := by omega
  have a2 : n % 4096 / 8 % 8 = n / 8 % 8 := by omega
  have a3 : n % 4096 % 8 = n % 8 := by omega
  rw [a0, a1, a2, a3]

/-! ### .. read -/

def isO (c : UInt8) : Bool := decide (48 ≤ c.toNat) && decide (c.toNat ≤ 55)

theorem octD_nat (n : Nat) : (octD n).toNat = 48 + n % 8 := by
  unfold octD
  rw [UInt8.toNat_ofNat']
  omega

theorem octD_of {c : UInt8} (h : isO c = true) (n : Nat) (hn : n % 8 = c.toNat - 48) : octD n = c := by
  apply UInt8.toNat_inj.mp
  rw [octD_nat]
  simp only [isO, Bool.and_eq_true, decide_eq_true_eq] at h
  omega

theorem pOct_step (s : List UInt8) (k n : Nat) (hk : k < s.length) (hs : s.length = 4) (hn : n < 100000) (ho : isO (s.getD k 0) = true) :
    bits_ParseOctal_b0 s (s.length : Int) ((n : Int), (k : Int)) = some (.inl (((8 * n + ((s.getD k 0).toNat - 48) : Nat) : Int), ((k + 1 : Nat) : Int))) := by
  unfold bits_ParseOctal_b0
  simp only [isO, Bool.and_eq_true, decide_eq_true_eq] at ho
  have hd : decide ((k : Int) < (s.length : Int)) = true := by simp; omega
  have e1 : IntKind.wrap IntKind.i64 ((k : Int) + 1) = ((k + 1 : Nat) : Int) := by rw [w64 (by omega) (by omega)]; omega
  have h8 : decide ((((s.getD k 0).toNat : Nat) : Int) < 48) = false := decide_eq_false (by omega)
  have h5 : decide ((55 : Int) < (((s.getD k 0).toNat : Nat) : Int)) = false := decide_eq_false (by omega)
  have e2 : IntKind.wrap IntKind.u8 ((((s.getD k 0).toNat : Nat) : Int) - 48) = (((s.getD k 0).toNat - 48 : Nat) : Int) := by rw [wu8 (by omega) (by omega)]; omega
  have e3 : IntKind.wrap IntKind.i64 (((s.getD k 0).toNat - 48 : Nat) : Int) = (((s.getD k 0).toNat - 48 : Nat) : Int) := w64 (by omega) (by omega)
  have e4 : IntKind.wrap IntKind.i64 ((n : Int) * (2 : Int) ^ Min.min (Int.toNat (3 : Int)) (IntKind.bits IntKind.i64)) = ((8 * n : Nat) : Int) := by
    have : (2 : Int) ^ Min.min (Int.toNat (3 : Int)) (IntKind.bits IntKind.i64) = 8 := by decide
    rw [this, w64 (by omega) (by omega)]; omega
  simp only [hd, cond_true, Int.toNat_natCast, h8, h5, cond_false, e2, e3, e4, e1, or8 n ((s.getD k 0).toNat - 48) hn (by omega)]
  rw [if_pos (by omega), if_pos (by omega), if_pos (by omega)]
  rfl

theorem pOct_stop (s : List UInt8) (k : Nat) (n : Int) (hk : k < s.length) (ho : isO (s.getD k 0) = false) :
    bits_ParseOctal_b0 s (s.length : Int) (n, (k : Int)) = some (.inr (.inl ())) := by
  unfold bits_ParseOctal_b0
  have hd : decide ((k : Int) < (s.length : Int)) = true := by simp; omega
  simp only [hd, cond_true, Int.toNat_natCast]
  rw [if_pos (by omega)]
  by_cases h8 : (s.getD k 0).toNat < 48
  · have : decide ((((s.getD k 0).toNat : Nat) : Int) < 48) = true := decide_eq_true (by omega)
    simp only [this, cond_true, Option.bind_some, Sum.elim_inl]
  · have h5 : decide ((55 : Int) < (((s.getD k 0).toNat : Nat) : Int)) = true := by
      simp only [isO, Bool.and_eq_false_iff, decide_eq_false_iff_not] at ho
      exact decide_eq_true (by omega)
    have : decide ((((s.getD k 0).toNat : Nat) : Int) < 48) = false := decide_eq_false (by omega)
    simp only [this, h5, cond_true, cond_false, Option.bind_some, Sum.elim_inl]
    rw [if_pos (by omega)]
    rfl

def octN (s : List UInt8) : Nat := 8 * (8 * (8 * ((s.getD 0 0).toNat - 48) + ((s.getD 1 0).toNat - 48)) + ((s.getD 2 0).toNat - 48)) + ((s.getD 3 0).toNat - 48)
def isOct (s : List UInt8) : Bool := decide (s.length = 4) && (isO (s.getD 0 0) && (isO (s.getD 1 0) && (isO (s.getD 2 0) && isO (s.getD 3 0))))

theorem parseOctal_eq (s : List UInt8) : bits_ParseOctal s = some (if isOct s = true then ((octN s : Nat) : Int) else 0, if isOct s = true then 0 else 2) := by
  unfold bits_ParseOctal
  by_cases h4 : s.length = 4
  · have hd : decide ((s.length : Int) = 4) = true := by simp; omega
    simp only [hd, Bool.not_true, cond_false]
    have k0 : iter (bits_ParseOctal_b0 s (s.length : Int)) ((0 : Int), (0 : Int)) = iter (bits_ParseOctal_b0 s (s.length : Int)) (((0 : Nat) : Int), ((0 : Nat) : Int)) := rfl
    have hb : ∀ k, isO (s.getD k 0) = true → (s.getD k 0).toNat - 48 < 8 := fun k h => by
      simp only [isO, Bool.and_eq_true, decide_eq_true_eq] at h; omega
    rw [k0]
    by_cases o0 : isO (s.getD 0 0) = true
    · have b0 := hb 0 o0
      rw [iter_inl (pOct_step s 0 0 (by omega) h4 (by omega) o0)]
      by_cases o1 : isO (s.getD 1 0) = true
      · have b1 := hb 1 o1
        rw [iter_inl (pOct_step s 1 _ (by omega) h4 (by omega) o1)]
        by_cases o2 : isO (s.getD 2 0) = true
        · have b2 := hb 2 o2
          rw [iter_inl (pOct_step s 2 _ (by omega) h4 (by omega) o2)]
          by_cases o3 : isO (s.getD 3 0) = true
          · have b3 := hb 3 o3
            rw [iter_inl (pOct_step s 3 _ (by omega) h4 (by omega) o3), iter_inr (t := .inr ((octN s : Nat) : Int))]
            · have hq : isOct s = true := by unfold isOct; rw [o0, o1, o2, o3, decide_eq_true h4]; rfl
              rw [hq]; rfl
            · unfold bits_ParseOctal_b0
              have : decide (((3 + 1 : Nat) : Int) < (s.length : Int)) = false := decide_eq_false (by omega)
              simp only [this, cond_false]
              congr 3
              unfold octN
              omega
          · rw [iter_inr (pOct_stop s 3 _ (by omega) (Bool.eq_false_iff.mpr o3))]
            have hq : isOct s = false := by unfold isOct; rw [Bool.eq_false_iff.mpr o3]; simp only [Bool.and_false]
            rw [hq]; rfl
        · rw [iter_inr (pOct_stop s 2 _ (by omega) (Bool.eq_false_iff.mpr o2))]
          have hq : isOct s = false := by unfold isOct; rw [Bool.eq_false_iff.mpr o2]; simp only [Bool.and_false, Bool.false_and]
          rw [hq]; rfl
      · rw [iter_inr (pOct_stop s 1 _ (by omega) (Bool.eq_false_iff.mpr o1))]
        have hq : isOct s = false := by unfold isOct; rw [Bool.eq_false_iff.mpr o1]; simp only [Bool.and_false, Bool.false_and]
        rw [hq]; rfl
    · rw [iter_inr (pOct_stop s 0 _ (by omega) (Bool.eq_false_iff.mpr o0))]
      have hq : isOct s = false := by unfold isOct; rw [Bool.eq_false_iff.mpr o0]; simp only [Bool.and_false, Bool.false_and]
      rw [hq]; rfl
  · have hd : decide ((s.length : Int) = 4) = false := by simp; omega
    simp [hd, isOct, h4]

theorem four {s : List UInt8} (h : s.length = 4) : s = [s.getD 0 0, s.getD 1 0, s.getD 2 0, s.getD 3 0] := by
  match s, h with
  | [a, b, c, d], _ => rfl

theorem octV_of {s : List UInt8} (h : isOct s = true) : octV (octN s) = s ∧ octN s < 4096 := by
  simp only [isOct, Bool.and_eq_true, decide_eq_true_eq] at h
  obtain ⟨h4, o0, o1, o2, o3⟩ := h
  have a0 := o0; have a1 := o1; have a2 := o2; have a3 := o3
  simp only [isO, Bool.and_eq_true, decide_eq_true_eq] at a0 a1 a2 a3
  refine ⟨?_, ?_⟩
  · conv => rhs; rw [four h4]
    unfold octV octN
    rw [octD_of o0 _ (by omega), octD_of o1 _ (by omega), octD_of o2 _ (by omega), octD_of o3 _ (by omega)]
  · unfold octN; omega

theorem octD_isO (n : Nat) : isO (octD n) = true := by
  simp only [isO, octD_nat, Bool.and_eq_true, decide_eq_true_eq]; omega

theorem isOct_octV (m : Nat) (hm : m < 4096) : isOct (octV m) = true ∧ octN (octV m) = m := by
  refine ⟨by simp [isOct, octV, octD_isO], ?_⟩
  simp only [octN, octV, List.getD_cons_zero, List.getD_cons_succ, octD_nat]
  omega

/-- The document's reading of four digits, in turn. -/
theorem rOct_step (s : List UInt8) (k : Nat) (n : Int) (hk : k < s.length) (h5 : k < 5) (hn : -1000000000000 ≤ n) (hn' : n < 1000000000000) :
    cellarerref01_ParseOctal_b0 s (n, (k : Int)) = some (.inl (8 * n + (((s.getD k 0).toNat : Nat) : Int) - 48, ((k + 1 : Nat) : Int))) := by
  unfold cellarerref01_ParseOctal_b0
  have hd : decide ((k : Int) < (s.length : Int)) = true := by simp; omega
  have hd5 : decide ((k : Int) < 5) = true := by simp; omega
  have hc := u8lt (s.getD k 0)
  have e1 : IntKind.wrap IntKind.i64 ((k : Int) + 1) = ((k + 1 : Nat) : Int) := by rw [w64 (by omega) (by omega)]; omega
  simp only [hd, hd5, cond_true, Option.bind_some, Sum.elim_inl, Int.toNat_natCast, e1]
  rw [if_pos (by omega), w64 (n := 8 * n) (by omega) (by omega), w64 (n := (((s.getD k 0).toNat : Nat) : Int)) (by omega) (by omega), w64 (n := 8 * n + (((s.getD k 0).toNat : Nat) : Int)) (by omega) (by omega), w64 (by omega) (by omega)]

theorem rOct_stop (s : List UInt8) (k : Nat) (n : Int) (hk : ¬ (k < s.length ∧ k < 5)) : cellarerref01_ParseOctal_b0 s (n, (k : Int)) = some (.inr n) := by
  unfold cellarerref01_ParseOctal_b0
  by_cases h1 : k < s.length
  · have hd : decide ((k : Int) < (s.length : Int)) = true := by simp; omega
    have hd5 : decide ((k : Int) < 5) = false := by simp; omega
    simp only [hd, hd5, cond_true, cond_false, Option.bind_some, Sum.elim_inr]
  · have hd : decide ((k : Int) < (s.length : Int)) = false := by simp; omega
    simp only [hd, cond_false, Option.bind_some, Sum.elim_inr]

theorem rOct_loop (s : List UInt8) : ∀ (j k : Nat) (n : Int), 5 - k = j → k ≤ 5 → -(((9 ^ k : Nat) : Int)) * 207 ≤ n → n ≤ ((9 ^ k : Nat) : Int) * 207 → ∃ m : Int, iter (cellarerref01_ParseOctal_b0 s) (n, (k : Int)) = some m ∧ -1000000000 ≤ m ∧ m ≤ 1000000000 := by
  intro j
  induction j with
  | zero =>
    intro k n hj hk h1 h2
    have h5 : k = 5 := by omega
    subst h5
    have e : ((9 ^ 5 : Nat) : Int) = 59049 := rfl
    rw [e] at h1 h2
    exact ⟨n, iter_inr (rOct_stop s 5 n (by omega)), by omega, by omega⟩
  | succ j ih =>
    intro k n hj hk h1 h2
    have hp : (9 ^ k : Nat) ≤ 9 ^ 5 := Nat.pow_le_pow_right (by omega) hk
    have hp1 : 1 ≤ (9 ^ k : Nat) := Nat.one_le_pow _ _ (by omega)
    have e5 : (9 ^ 5 : Nat) = 59049 := rfl
    have es : (9 ^ (k + 1) : Nat) = 9 * 9 ^ k := by rw [Nat.pow_succ]; omega
    have hc := u8lt (s.getD k 0)
    by_cases h : k < s.length
    · obtain ⟨m, g1, g2⟩ := ih (k + 1) (8 * n + (((s.getD k 0).toNat : Nat) : Int) - 48) (by omega) (by omega) (by omega) (by omega)
      exact ⟨m, by rw [iter_inl (rOct_step s k n h (by omega) (by omega) (by omega))]; exact g1, g2⟩
    · exact ⟨n, iter_inr (rOct_stop s k n (by omega)), by omega, by omega⟩

/-- The document's four digits: some answer; of right ones theirs. -/
theorem refParseOctal_some (s : List UInt8) : ∃ n ok, cellarerref01_ParseOctal s = some (n, ok) := by
  unfold cellarerref01_ParseOctal
  obtain ⟨m, h1, h2, h3⟩ := rOct_loop s 5 0 0 (by omega) (by omega) (by simp) (by simp)
  have h1' : iter (cellarerref01_ParseOctal_b0 s) ((0 : Int), (0 : Int)) = some m := h1
  rw [h1', Option.bind_some]
  by_cases h4 : s.length = 4
  · have hd : decide ((s.length : Int) = 4) = true := decide_eq_true (by omega)
    rw [hd]
    simp only [Bool.not_true, cond_false]
    by_cases hm : m < 0
    · rw [decide_eq_true hm]; exact ⟨_, _, rfl⟩
    · rw [decide_eq_false hm]
      obtain ⟨k, rfl⟩ : ∃ k : Nat, m = (k : Int) := ⟨m.toNat, by omega⟩
      simp only [cond_false]
      rw [refOctal_eq k (by omega), Option.bind_some]
      cases (!decide (octV k = s)) <;> exact ⟨_, _, rfl⟩
  · have hd : decide ((s.length : Int) = 4) = false := decide_eq_false (by omega)
    rw [hd]
    exact ⟨_, _, rfl⟩

theorem refParseOctal_eq (m : Nat) (hm : m < 4096) : cellarerref01_ParseOctal (octV m) = some ((m : Int), true) := by
  unfold cellarerref01_ParseOctal
  have hl : (octV m).length = 4 := rfl
  have g : ∀ n, (((octD n).toNat : Nat) : Int) = ((48 + n % 8 : Nat) : Int) := fun n => by rw [octD_nat]
  have g0 : (((octV m).getD 0 0).toNat : Int) = ((48 + m / 512 % 8 : Nat) : Int) := g _
  have g1 : (((octV m).getD 1 0).toNat : Int) = ((48 + m / 64 % 8 : Nat) : Int) := g _
  have g2 : (((octV m).getD 2 0).toNat : Int) = ((48 + m / 8 % 8 : Nat) : Int) := g _
  have g3 : (((octV m).getD 3 0).toNat : Int) = ((48 + m % 8 : Nat) : Int) := g _
  have s0 := rOct_step (octV m) 0 0 (by omega) (by omega) (by omega) (by omega)
  have s1 := rOct_step (octV m) 1 (8 * 0 + (((octV m).getD 0 0).toNat : Int) - 48) (by omega) (by omega) (by omega) (by omega)
  have s2 := rOct_step (octV m) 2 (8 * (8 * 0 + (((octV m).getD 0 0).toNat : Int) - 48) + (((octV m).getD 1 0).toNat : Int) - 48) (by omega) (by omega) (by omega) (by omega)
  have s3 := rOct_step (octV m) 3 (8 * (8 * (8 * 0 + (((octV m).getD 0 0).toNat : Int) - 48) + (((octV m).getD 1 0).toNat : Int) - 48) + (((octV m).getD 2 0).toNat : Int) - 48) (by omega) (by omega) (by omega) (by omega)
  have s0' : cellarerref01_ParseOctal_b0 (octV m) ((0 : Int), (0 : Int)) = _ := s0
  rw [iter_inl s0', iter_inl s1, iter_inl s2, iter_inl s3, iter_inr (rOct_stop (octV m) 4 _ (by omega)), Option.bind_some]
  have hd : decide (((octV m).length : Int) = 4) = true := decide_eq_true (by omega)
  have ev : 8 * (8 * (8 * (8 * 0 + (((octV m).getD 0 0).toNat : Int) - 48) + (((octV m).getD 1 0).toNat : Int) - 48) + (((octV m).getD 2 0).toNat : Int) - 48) + (((octV m).getD 3 0).toNat : Int) - 48 = (m : Int) := by
    rw [g0, g1, g2, g3]; omega
  rw [hd, ev, decide_eq_false (show ¬ ((m : Int) < 0) by omega)]
  simp only [Bool.not_true, cond_false]
  rw [refOctal_eq m (by omega), Option.bind_some]
  simp

end Go.Cellar
