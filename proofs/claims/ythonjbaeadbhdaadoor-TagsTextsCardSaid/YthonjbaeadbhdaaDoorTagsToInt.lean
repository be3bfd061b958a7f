/- Contract of tags.ToInt. -/
import Derived.Test.YthonjbaeadbhdaaDoorTagsInput
import Derived.Test.YthonjbaeadbhdaaDoorTagsInt
namespace Go.Proofs.YthonjbaeadbhdaaDoor
open Go.RowKit

theorem i64_or8s (x y : Int) (hx : x % 256 = 0) (h0 : -9223372036854775808 ≤ x) (h1 : x < 9223372036854775808) (h2 : 0 ≤ y) (h3 : y < 256) : bits .or .i64 x y = x + y := by
  obtain ⟨b, rfl⟩ := Int.eq_ofNat_of_zero_le h2
  obtain ⟨X, hX⟩ : ∃ X : Nat, X = (x % 18446744073709551616).toNat := ⟨_, rfl⟩
  have hX1 : (X : Int) = x % 18446744073709551616 := by omega
  have hb : b < 2 ^ 8 := by omega
  have hq : X = 2 ^ 8 * (X / 2 ^ 8) := by omega
  have hor : X ||| b = X + b := by
    rw [hq, ← Nat.two_pow_add_eq_or_of_lt hb (X / 2 ^ 8)]
  have e1 : (BitVec.ofInt 64 x).toNat = X := by
    rw [BitVec.toNat_ofInt, hX]
    rfl
  have e2 : (BitVec.ofInt 64 (b : Int)).toNat = b := by
    rw [BitVec.toNat_ofInt]
    have : ((2 ^ 64 : Nat) : Int) = 18446744073709551616 := rfl
    omega
  have e3 : bits .or .i64 x b = IntKind.i64.wrap ((BitVec.ofInt 64 x ||| BitVec.ofInt 64 (b : Int)).toNat : Int) := rfl
  rw [e3, BitVec.toNat_or, e1, e2, hor, IntKind.wrap_i64]
  omega

def Tg.stepI (n : Int) (y : UInt8) : Int := n * 256 + y.toNat
def Tg.startI (x : UInt8) : Int := if x.toNat < 128 then (x.toNat : Int) else x.toNat - 256
theorem foldI_take {r : List UInt8} (s : Int) {j : Nat} (h : j < r.length) : (r.take (j + 1)).foldl Tg.stepI s = (r.take j).foldl Tg.stepI s * 256 + r[j].toNat := by
  rw [List.take_succ_eq_append_getElem h, List.foldl_append]
  rfl
theorem pow_step (j : Nat) : (2 : Nat) ^ (8 * (j + 1) + 7) = 256 * 2 ^ (8 * j + 7) := by
  rw [show 8 * (j + 1) + 7 = 8 + (8 * j + 7) by omega, Nat.pow_add]
theorem pow_le (j : Nat) (h : j ≤ 6) : (2 : Nat) ^ (8 * j + 7) ≤ 36028797018963968 := by
  have : (2 : Nat) ^ (8 * j + 7) ≤ 2 ^ 55 := Nat.pow_le_pow_right (by decide) (by omega)
  exact this
theorem foldI_bound (x : UInt8) (r : List UInt8) : ∀ j, j ≤ r.length → -((2 ^ (8 * j + 7) : Nat) : Int) ≤ (r.take j).foldl Tg.stepI (Tg.startI x) ∧ (r.take j).foldl Tg.stepI (Tg.startI x) < ((2 ^ (8 * j + 7) : Nat) : Int) := by
  intro j
  induction j with
  | zero =>
    intro _
    have := x.toNat_lt
    simp only [List.take_zero, List.foldl_nil, Tg.startI]
    have e : ((2 ^ (8 * 0 + 7) : Nat) : Int) = 128 := rfl
    rw [e]
    split <;> omega
  | succ j ih =>
    intro h
    obtain ⟨h1, h2⟩ := ih (by omega)
    rw [foldI_take _ (by omega), pow_step]
    generalize (2 : Nat) ^ (8 * j + 7) = B at *
    have := r[j].toNat_lt
    omega

/-- Whether bytes are no integer. -/
def Tg.badInt : List UInt8 → Bool
  | x :: y :: _ => decide ((x.toNat = 0 ∧ y.toNat < 128) ∨ (x.toNat = 255 ∧ 128 ≤ y.toNat))
  | _ => false

theorem toInt_cons (x : UInt8) (r : List UInt8) : Tg.toInt (x :: r) = if Tg.badInt (x :: r) = true then (0, 4) else if 8 < r.length + 1 then (0, 3) else (r.foldl Tg.stepI (Tg.startI x), 0) := by
  cases r with
  | nil => rfl
  | cons y r =>
    simp only [Tg.toInt, Tg.badInt, decide_eq_true_eq, List.length_cons]
    rfl

set_option maxRecDepth 100000 in
set_option maxHeartbeats 1000000 in
theorem toInt_any (v : Value) (l : List UInt8) (w : World) (h : BytesR AnyB w v l) :
    Calls Tryd.prog 9 #[v] w (fun e w' => w' = w ∧ e = .returned (.tuple #[.int .i64 (Tg.toInt l).1, .int .i64 (Tg.toInt l).2])) := by
  obtain ⟨a, c, rfl, hc, hl, hs⟩ := h
  unfold lim at hl
  cases l with
  | nil =>
    clear hs
    go_enter Tryd.func9, Tryd.ntmps9
    go_wp2_with fail
    go_ret2
    exact ⟨rfl, rfl⟩
  | cons x r =>
    simp only [List.length_cons] at hc hl
    obtain ⟨g, o, rfl, hg, hcell⟩ := hs.resolve_left (by simp [bvs])
    have c0 := hcell 0 _ rfl
    simp only [Nat.add_zero, bv] at c0
    go_enter Tryd.func9, Tryd.ntmps9
    go_upto_region 3 with (fail)
    go_cut [11] (fun b w' => w' = w ∧ b = .bool (Tg.badInt (x :: r)))
    case first =>
      cases r with
      | nil =>
        go_wp2_with fail
        go_meet
        case rel => exact ⟨rfl, rfl⟩
      | cons y r =>
        have c1 := hcell 1 _ rfl
        simp only [bv] at c1
        simp only [List.length_cons] at hc hl
        by_cases h0 : x.toNat = 0
        · by_cases h1 : y.toNat < 128
          · go_wp2_with fail
            go_meet
            case rel => exact ⟨rfl, by simp [Tg.badInt, h0, h1] <;> omega⟩
          · go_wp2_with fail
            go_meet
            case rel => exact ⟨rfl, by simp [Tg.badInt, h0, h1] <;> omega⟩
        · by_cases h1 : x.toNat = 255
          · by_cases h2 : y.toNat < 128
            · go_wp2_with fail
              go_meet
              case rel => exact ⟨rfl, by simp [Tg.badInt, h1, h2] <;> omega⟩
            · go_wp2_with fail
              go_meet
              case rel => exact ⟨rfl, by simp [Tg.badInt, h1, h2] <;> omega⟩
          · go_wp2_with fail
            go_meet
            case rel => exact ⟨rfl, by simp [Tg.badInt, h0, h1] <;> omega⟩
    case rest =>
      obtain ⟨hw, rfl⟩ := hcut
      have hw' := hw.symm
      subst hw'
      have HT := Lib.hid (toInt_cons x r)
      have HCELL := Lib.hid hcell
      have HFB := Lib.hid (foldI_bound x r)
      have hx := x.toNat_lt
      clear hcell hs
      cases hbad : Tg.badInt (x :: r)
      · rw [hbad] at HT
        have HB := Lib.hid hbad
        clear hbad
        by_cases h8 : 8 < r.length + 1
        · go_wp2_with fail
          go_ret2
          rw [HT.out, if_neg (by simp), if_pos h8]
          exact ⟨rfl, rfl⟩
        · have HE := Lib.hid (show Tg.toInt (x :: r) = (r.foldl Tg.stepI (Tg.startI x), 0) by rw [HT.out, if_neg (by simp), if_neg h8])
          have hrc := run_cut w (some ⟨g, o, none⟩) (r.length + 1) c 1 1 rfl (by omega)
          have hst : IntKind.i8.wrap (x.toNat : Int) = Tg.startI x := by
            unfold Tg.startI
            simp only [IntKind.wrap, IntKind.bits, IntKind.signed, Bool.true_and, decide_eq_true_eq, show (2 : Int) ^ 8 = 256 from rfl, show (2 : Int) ^ (8 - 1) = 128 from rfl]
            split <;> split <;> omega
          have hsb : -128 ≤ Tg.startI x ∧ Tg.startI x ≤ 127 := by
            unfold Tg.startI
            split <;> omega
          obtain ⟨hsb1, hsb2⟩ := hsb
          obtain ⟨S, hS⟩ : ∃ S, S = Tg.startI x := ⟨_, rfl⟩
          rw [← hS] at hst hsb1 hsb2 HE HFB
          clear hS
          go_wp2_with fail
          go_loopw [51, 4] (fun i n wr => ∃ j : Nat, ∃ m : Int, j ≤ r.length ∧ i = .int .i64 j ∧ n = .int .i64 m ∧ wr = w ∧ Hid (m = (r.take j).foldl Tg.stepI S)) (fun i _ _ => r.length - (intOf i).toNat)
          case atStart => exact ⟨0, S, by omega, rfl, rfl, rfl, rfl⟩
          case round =>
            obtain ⟨j, m, hj, rfl, rfl, hw, hm⟩ := hrel
            have hw' := hw.symm
            subst hw'
            by_cases hlt : j < r.length
            · have hca : cutA (some ⟨g, o, none⟩) c 1 = some ⟨g, o + 1, none⟩ := by
                unfold cutA
                rw [if_neg (by omega)]
                rfl
              have c1 := HCELL.out (1 + j) (.int .u8 (r[j].toNat : Int)) (by rw [Nat.add_comm]; simp [bvs, bv, hlt])
              rw [← Nat.add_assoc] at c1
              have HST := Lib.hid (foldI_take S hlt)
              obtain ⟨b1, b2⟩ := HFB.out j (by omega)
              rw [← hm.out] at b1 b2
              have hp := pow_le j (by omega)
              have hb1 : -36028797018963968 ≤ m := by omega
              have hb2 : m < 36028797018963968 := by omega
              clear b1 b2 hp
              have hy := r[j].toNat_lt
              generalize r[j].toNat = y at *
              have hor := i64_or8s (m * 256) y (by omega) (by omega) (by omega) (by omega) (by omega)
              go_wp2_with fail
              go_roundw
              case rel => exact ⟨j + 1, m * 256 + y, by omega, by go_num, rfl, trivial, by rw [HST.out, ← hm.out]; rfl⟩
              case measure => simp [intOf]; omega
            · have hjr : j = r.length := by omega
              have HM := Lib.hid (show m = r.foldl Tg.stepI S by rw [hm.out, hjr, List.take_length])
              subst hjr
              go_wp2_with fail
              go_ret2
              rw [HE.out, ← HM.out]
              exact ⟨rfl, rfl⟩
      · have HE := Lib.hid (show Tg.toInt (x :: r) = (0, 4) by rw [HT.out, if_pos hbad])
        go_wp2_with fail
        go_ret2
        rw [HE.out]
        exact ⟨rfl, rfl⟩
end Go.Proofs.YthonjbaeadbhdaaDoor
