/- The two's complement of integers, in plain Lean. -/
import Derived.Test.YthonjbaeadbhdaaDoorTagsToInt
namespace Go.Proofs.YthonjbaeadbhdaaDoor

/-- The value of bytes. -/
def Tg.val : List UInt8 → Int
  | [] => 0
  | x :: r => r.foldl Tg.stepI (Tg.startI x)
theorem val_snoc (l : List UInt8) (y : UInt8) (h : l ≠ []) : Tg.val (l ++ [y]) = Tg.val l * 256 + y.toNat := by
  cases l with
  | nil => exact absurd rfl h
  | cons x r => simp [Tg.val, List.foldl_append, Tg.stepI]
/-- An integer has at most k bytes. -/
def Tg.fits (n : Int) (k : Nat) : Prop := -((2 ^ (8 * k - 1) : Nat) : Int) ≤ n ∧ n < ((2 ^ (8 * k - 1) : Nat) : Int)
theorem val_fits (l : List UInt8) (h : l ≠ []) : Tg.fits (Tg.val l) l.length := by
  cases l with
  | nil => exact absurd rfl h
  | cons x r =>
    have := foldI_bound x r r.length (Nat.le_refl _)
    rw [List.take_length] at this
    unfold Tg.fits
    rw [show 8 * (x :: r).length - 1 = 8 * r.length + 7 by simp; omega]
    exact this
theorem fits_pow (k : Nat) (hk : 1 ≤ k) : (2 : Nat) ^ (8 * (k + 1) - 1) = 256 * 2 ^ (8 * k - 1) := by
  rw [show 8 * (k + 1) - 1 = 8 + (8 * k - 1) by omega, Nat.pow_add]
theorem fits_succ {n : Int} {k : Nat} (hk : 1 ≤ k) (h : Tg.fits n k) : Tg.fits n (k + 1) := by
  unfold Tg.fits at *
  rw [fits_pow k hk]
  generalize (2 : Nat) ^ (8 * k - 1) = B at *
  omega
theorem fits_mono {n : Int} {k : Nat} (hk : 1 ≤ k) (h : Tg.fits n k) : ∀ m, k ≤ m → Tg.fits n m := by
  intro m hm
  induction m with
  | zero => omega
  | succ m ih =>
    by_cases e : k = m + 1
    · exact e ▸ h
    · exact fits_succ (by omega) (ih (by omega))

def Tg.bytesOf (k : Nat) (n : Int) : List UInt8 := (List.range k).map fun i => UInt8.ofNat ((n / 2 ^ (8 * (k - 1 - i))) % 256).toNat
theorem bytesOf_succ (k : Nat) (n : Int) : Tg.bytesOf (k + 1) n = Tg.bytesOf k (n / 256) ++ [UInt8.ofNat (n % 256).toNat] := by
  unfold Tg.bytesOf
  rw [List.range_succ, List.map_append]
  congr 1
  · apply List.map_congr_left
    intro i hi
    have hi' : i < k := by simpa using hi
    rw [Int.ediv_ediv_of_nonneg (by omega : (0 : Int) ≤ 256), show (256 : Int) * 2 ^ (8 * (k - 1 - i)) = 2 ^ (8 * (k + 1 - 1 - i)) from by
      rw [show 8 * (k + 1 - 1 - i) = 8 + 8 * (k - 1 - i) by omega, Int.pow_add]
      rfl]
  · simp
theorem bytesOf_len (k : Nat) (n : Int) : (Tg.bytesOf k n).length = k := by simp [Tg.bytesOf]
theorem byte_nat (n : Int) : ((UInt8.ofNat (n % 256).toNat).toNat : Int) = n % 256 := by
  have : (n % 256).toNat < 256 := by omega
  rw [UInt8.toNat_ofNat', Nat.mod_eq_of_lt (by omega)]
  omega
theorem val_bytesOf : ∀ k, 1 ≤ k → ∀ n, Tg.fits n k → Tg.val (Tg.bytesOf k n) = n := by
  intro k
  induction k with
  | zero => intro h; omega
  | succ k ih =>
    intro _ n hf
    rw [bytesOf_succ]
    have hb := byte_nat n
    by_cases hk : k = 0
    · subst hk
      simp only [Tg.bytesOf, List.range_zero, List.map_nil, List.nil_append, Tg.val, List.foldl_nil, Tg.startI]
      unfold Tg.fits at hf
      have e : ((2 ^ (8 * (0 + 1) - 1) : Nat) : Int) = 128 := rfl
      rw [e] at hf
      split <;> omega
    · rw [val_snoc _ _ (by intro h; have := bytesOf_len k (n / 256); rw [h] at this; simp at this; omega), hb, ih (by omega)]
      · omega
      · unfold Tg.fits at *
        rw [fits_pow k (by omega)] at hf
        generalize (2 : Nat) ^ (8 * k - 1) = B at *
        omega
theorem bytesOf_val : ∀ (k : Nat) (l : List UInt8), l.length = k → l ≠ [] → Tg.bytesOf k (Tg.val l) = l := by
  intro k
  induction k with
  | zero => intro l h hn; exact absurd (List.eq_nil_of_length_eq_zero h) hn
  | succ k ih =>
    intro l hl hn
    rcases List.eq_nil_or_concat l with h | ⟨l', y, rfl⟩
    · exact absurd h hn
    have hy := y.toNat_lt
    have hl' : l'.length = k := by simp at hl; omega
    by_cases hn' : l' = []
    · subst hn'
      obtain rfl : 0 = k := by simpa using hl'
      simp only [List.concat_eq_append, List.nil_append, Tg.val, List.foldl_nil]
      have : Tg.startI y % 256 = y.toNat := by unfold Tg.startI; split <;> omega
      rw [bytesOf_succ, this]
      simp [Tg.bytesOf]
    · rw [List.concat_eq_append, val_snoc _ _ hn', bytesOf_succ, show (Tg.val l' * 256 + (y.toNat : Int)) / 256 = Tg.val l' by omega, show (Tg.val l' * 256 + (y.toNat : Int)) % 256 = y.toNat by omega, ih l' hl' hn']
      simp
theorem wide_fits (n : Int) (k : Nat) : Tg.wide n k = false ↔ Tg.fits n k := by
  unfold Tg.wide Tg.fits
  have e : (2 : Int) ^ (8 * k - 1) = ((2 ^ (8 * k - 1) : Nat) : Int) := by norm_cast
  have hB : 0 < (2 : Nat) ^ (8 * k - 1) := Nat.pow_pos (by decide)
  rw [e]
  generalize (2 : Nat) ^ (8 * k - 1) = B at *
  have hB' : (0 : Int) < (B : Int) := by omega
  have h1 : -1 ≤ n / (B : Int) ↔ -1 * (B : Int) ≤ n := Int.le_ediv_iff_mul_le hB'
  have h2 : n / (B : Int) < 1 ↔ n < 1 * (B : Int) := Int.ediv_lt_iff_lt_mul hB'
  rw [decide_eq_false_iff_not]
  constructor
  · intro h
    have h3 : n / (B : Int) = 0 ∨ n / (B : Int) = -1 := by
      by_cases ha : n / (B : Int) = 0
      · exact .inl ha
      · by_cases hb : n / (B : Int) = -1
        · exact .inr hb
        · exact absurd ⟨ha, hb⟩ h
    omega
  · rintro ⟨ha, hb⟩ ⟨hc, hd⟩
    omega
theorem intLen_spec (n : Int) : ∀ j k, 1 ≤ k → k ≤ 8 → 8 ≤ k + j → k ≤ Tg.intLen n j k ∧ Tg.intLen n j k ≤ 8 ∧ (Tg.intLen n j k = 8 ∨ Tg.fits n (Tg.intLen n j k)) ∧ ∀ m, k ≤ m → m < Tg.intLen n j k → ¬ Tg.fits n m := by
  intro j
  induction j with
  | zero =>
    intro k h1 h8 h
    simp only [Tg.intLen]
    exact ⟨by omega, h8, .inl (by omega), fun m _ _ => by omega⟩
  | succ j ih =>
    intro k h1 h8 h
    simp only [Tg.intLen]
    split
    · rename_i hc
      obtain ⟨a, b, c, d⟩ := ih (k + 1) (by omega) (by omega) (by omega)
      refine ⟨by omega, b, c, fun m hm hl => ?_⟩
      by_cases e : m = k
      · subst e
        intro hf
        have := (wide_fits n m).2 hf
        unfold Tg.wide at this
        simp only [decide_eq_false_iff_not] at this
        exact this hc.2
      · exact d m (by omega) hl
    · rename_i hc
      refine ⟨Nat.le_refl _, h8, ?_, fun m _ _ => by omega⟩
      by_cases h8' : k = 8
      · exact .inl h8'
      · right
        rw [← wide_fits]
        unfold Tg.wide
        simp only [decide_eq_false_iff_not]
        exact fun h => hc ⟨by omega, h⟩
theorem fits8 (n : Int) (h1 : -9223372036854775808 ≤ n) (h2 : n ≤ 9223372036854775807) : Tg.fits n 8 := by
  unfold Tg.fits
  have e : ((2 ^ (8 * 8 - 1) : Nat) : Int) = 9223372036854775808 := rfl
  rw [e]
  omega
theorem intBytes_of (n : Int) : Tg.intBytes n = Tg.bytesOf (Tg.intLen n 8 1) n := rfl
/-- What holds of the contents of an integer. -/
theorem intBytes_val (n : Int) (h1 : -9223372036854775808 ≤ n) (h2 : n ≤ 9223372036854775807) :
    1 ≤ (Tg.intBytes n).length ∧ (Tg.intBytes n).length ≤ 8 ∧ Tg.val (Tg.intBytes n) = n ∧ ∀ m, 1 ≤ m → m < (Tg.intBytes n).length → ¬ Tg.fits n m := by
  obtain ⟨a, b, c, d⟩ := intLen_spec n 8 1 (by omega) (by omega) (by omega)
  rw [intBytes_of, bytesOf_len]
  refine ⟨a, b, val_bytesOf _ a n ?_, d⟩
  rcases c with c | c
  · rw [c]
    exact fits8 n h1 h2
  · exact c
theorem val_drop {x y : UInt8} {r : List UInt8} (h : Tg.badInt (x :: y :: r) = true) : Tg.val (x :: y :: r) = Tg.val (y :: r) := by
  simp only [Tg.badInt, decide_eq_true_eq] at h
  simp only [Tg.val, List.foldl_cons]
  congr 1
  unfold Tg.stepI Tg.startI
  rcases h with ⟨h1, h2⟩ | ⟨h1, h2⟩
  · rw [if_pos (by omega), if_pos h2]
    omega
  · rw [if_neg (by omega), if_neg (by omega)]
    omega
theorem foldI_lin (d : Int) : ∀ (r : List UInt8) (s : Int), r.foldl Tg.stepI (s + d) = r.foldl Tg.stepI s + d * 256 ^ r.length
  | [], s => by simp
  | y :: r, s => by
    simp only [List.foldl_cons, List.length_cons]
    have : Tg.stepI (s + d) y = Tg.stepI s y + d * 256 := by unfold Tg.stepI; omega
    rw [this, foldI_lin (d * 256) r, Int.pow_succ, Int.mul_assoc, Int.mul_comm 256]
theorem foldI_zero' : ∀ (k : Nat) (r : List UInt8), r.length = k → 0 ≤ r.foldl Tg.stepI 0 ∧ r.foldl Tg.stepI 0 < ((256 ^ k : Nat) : Int) := by
  intro k
  induction k with
  | zero =>
    intro r h
    rw [List.eq_nil_of_length_eq_zero h]
    simp
  | succ k ih =>
    intro r h
    rcases List.eq_nil_or_concat r with h' | ⟨l', y, rfl⟩
    · subst h'
      simp at h
    · obtain ⟨i1, i2⟩ := ih l' (by simp at h; omega)
      have hy := y.toNat_lt
      rw [List.concat_eq_append, List.foldl_append, Nat.pow_succ]
      simp only [List.foldl_cons, List.foldl_nil, Tg.stepI]
      generalize 256 ^ k = B at *
      omega
theorem foldI_zero (r : List UInt8) : 0 ≤ r.foldl Tg.stepI 0 ∧ r.foldl Tg.stepI 0 < ((256 ^ r.length : Nat) : Int) := foldI_zero' _ r rfl
theorem pow256 (k : Nat) : (256 : Int) ^ k = ((256 ^ k : Nat) : Int) := by
  rw [Int.natCast_pow]
  rfl
theorem not_bad {x y : UInt8} {r : List UInt8} (h : Tg.badInt (x :: y :: r) = false) : ¬ Tg.fits (Tg.val (x :: y :: r)) (r.length + 1) := by
  simp only [Tg.badInt, decide_eq_false_iff_not] at h
  have hx := x.toNat_lt
  have hy := y.toNat_lt
  have h0 := foldI_zero r
  have hl := foldI_lin (Tg.stepI (Tg.startI x) y) r 0
  rw [Int.zero_add] at hl
  have hs : 128 ≤ Tg.stepI (Tg.startI x) y ∨ Tg.stepI (Tg.startI x) y < -128 := by
    unfold Tg.stepI Tg.startI
    split <;> omega
  have e : (2 : Nat) ^ (8 * (r.length + 1) - 1) = 128 * 256 ^ r.length := by
    rw [show 8 * (r.length + 1) - 1 = 7 + 8 * r.length by omega, Nat.pow_add, Nat.pow_mul]
  have e2 := pow256 r.length
  unfold Tg.fits
  simp only [Tg.val, List.foldl_cons]
  rw [hl, e, e2]
  generalize Tg.stepI (Tg.startI x) y = s at *
  have hB : 0 < 256 ^ r.length := Nat.pow_pos (by decide)
  generalize 256 ^ r.length = B at *
  generalize r.foldl Tg.stepI 0 = z at *
  rcases hs with hs | hs
  · have h3 : 128 * (B : Int) ≤ s * (B : Int) := Int.mul_le_mul_of_nonneg_right hs (by omega)
    rintro ⟨_, h5⟩
    have : ((128 * B : Nat) : Int) = 128 * (B : Int) := Int.natCast_mul 128 B
    omega
  · have h3 : s * (B : Int) ≤ (-129) * (B : Int) := Int.mul_le_mul_of_nonneg_right (by omega) (by omega)
    rintro ⟨h4, _⟩
    have : ((128 * B : Nat) : Int) = 128 * (B : Int) := Int.natCast_mul 128 B
    omega
theorem not_bad' : ∀ (l : List UInt8), Tg.badInt l = false → 2 ≤ l.length → ¬ Tg.fits (Tg.val l) (l.length - 1)
  | [], _, h => by simp at h
  | [x], _, h => by simp at h
  | x :: y :: r, h, _ => not_bad h
/-- The contents of an integer are not bad. -/
theorem intBytes_good (n : Int) (h1 : -9223372036854775808 ≤ n) (h2 : n ≤ 9223372036854775807) : Tg.badInt (Tg.intBytes n) = false := by
  obtain ⟨a, b, c, d⟩ := intBytes_val n h1 h2
  generalize Tg.intBytes n = l at *
  match l, a with
  | [x], _ => rfl
  | x :: y :: r, _ =>
    cases hb : Tg.badInt (x :: y :: r) with
    | false => rfl
    | true =>
      exfalso
      have := val_fits (y :: r) (by simp)
      rw [← val_drop hb, c] at this
      exact d (r.length + 1) (by omega) (by simp) this
theorem toInt_intBytes (n : Int) (h1 : -9223372036854775808 ≤ n) (h2 : n ≤ 9223372036854775807) : Tg.toInt (Tg.intBytes n) = (n, 0) := by
  obtain ⟨a, b, c, d⟩ := intBytes_val n h1 h2
  have e := intBytes_good n h1 h2
  generalize Tg.intBytes n = l at *
  match l, a with
  | x :: r, _ =>
    rw [toInt_cons, e, if_neg (by simp), if_neg (by simp at b; omega)]
    exact Prod.ext c rfl
/-- Good bytes are the contents of their value. -/
theorem intBytes_back (l : List UInt8) (hn : l ≠ []) (h8 : l.length ≤ 8) (hb : Tg.badInt l = false) : Tg.intBytes (Tg.val l) = l := by
  have hf := val_fits l hn
  have h1 : 1 ≤ l.length := List.length_pos_iff.2 hn
  obtain ⟨L, hLL⟩ : ∃ L, L = Tg.intLen (Tg.val l) 8 1 := ⟨_, rfl⟩
  have hsp := intLen_spec (Tg.val l) 8 1 (by omega) (by omega) (by omega)
  rw [← hLL] at hsp
  obtain ⟨a, b, c, d⟩ := hsp
  have hL : L = l.length := by
    clear hLL
    by_cases h2 : l.length < L
    · exact absurd hf (d _ h1 h2)
    · by_cases h3 : L < l.length
      · have hfL : Tg.fits (Tg.val l) L := by
          rcases c with c | c
          · omega
          · exact c
        exact absurd (fits_mono a hfL (l.length - 1) (by omega)) (not_bad' l hb (by omega))
      · omega
  rw [hLL] at hL
  rw [intBytes_of, hL, bytesOf_val _ _ rfl hn]
theorem toInt_back (l : List UInt8) (h : (Tg.toInt l).2 = 0) : Tg.intBytes (Tg.toInt l).1 = l := by
  cases l with
  | nil => simp [Tg.toInt] at h
  | cons x r =>
    rw [toInt_cons] at h ⊢
    split at h
    · simp at h
    · rename_i h1
      split at h
      · simp at h
      · rename_i h2
        rw [if_neg h1, if_neg h2]
        exact intBytes_back (x :: r) (by simp) (by simp; omega) (by simpa using h1)
theorem toInt_range (l : List UInt8) : -9223372036854775808 ≤ (Tg.toInt l).1 ∧ (Tg.toInt l).1 ≤ 9223372036854775807 := by
  cases l with
  | nil => simp [Tg.toInt]
  | cons x r =>
    rw [toInt_cons]
    split
    · simp
    · split
      · simp
      · rename_i h
        have h1 := fits_mono (by simp) (val_fits (x :: r) (by simp)) 8 (by simp; omega)
        unfold Tg.fits at h1
        have e : ((2 ^ (8 * 8 - 1) : Nat) : Int) = 9223372036854775808 := rfl
        rw [e] at h1
        have h2 : Tg.val (x :: r) = r.foldl Tg.stepI (Tg.startI x) := rfl
        rw [h2] at h1
        exact ⟨h1.1, by omega⟩
/-- The value out of the sum of the bytes. -/
theorem val_sum (x : UInt8) (r : List UInt8) : Tg.val (x :: r) = (x :: r).foldl Tg.stepI 0 - if 128 ≤ x.toNat then ((256 ^ (r.length + 1) : Nat) : Int) else 0 := by
  simp only [Tg.val, List.foldl_cons]
  have e : Tg.stepI 0 x = x.toNat := by unfold Tg.stepI; omega
  rw [e]
  split
  · rename_i h
    have : Tg.startI x = (x.toNat : Int) + (-256) := by unfold Tg.startI; rw [if_neg (by omega)]; omega
    rw [this, foldI_lin, Nat.pow_succ]
    have e2 := pow256 r.length
    rw [e2]
    generalize 256 ^ r.length = B at *
    omega
  · have : Tg.startI x = (x.toNat : Int) := by unfold Tg.startI; rw [if_pos (by omega)]
    rw [this]
    omega
end Go.Proofs.YthonjbaeadbhdaaDoor
