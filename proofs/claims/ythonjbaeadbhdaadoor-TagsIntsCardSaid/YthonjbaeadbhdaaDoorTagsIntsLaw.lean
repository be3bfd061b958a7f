/- The law of integers: the walk. -/
import Derived.Test.YthonjbaeadbhdaaDoorTagsIntsPlain
import Derived.Test.YthonjbaeadbhdaaDoorTagsLives
namespace Go.Proofs.YthonjbaeadbhdaaDoor
open Go.RowKit

theorem wrap64_small {n : Int} (h : -9223372036854775808 ≤ n ∧ n ≤ 9223372036854775807) : wrap64 n = n := by unfold wrap64; omega
def Tg.noInt (b : List UInt8) : Bool := b.isEmpty || Tg.badInt b
theorem toInt_want (b : List UInt8) : (Tg.toInt b).2 = (if Tg.noInt b = true then 4 else if 8 < b.length then 3 else 0) ∧ ((Tg.toInt b).2 ≠ 0 → (Tg.toInt b).1 = 0) := by
  cases b with
  | nil => exact ⟨rfl, fun _ => rfl⟩
  | cons x r =>
    rw [toInt_cons]
    simp only [Tg.noInt, List.isEmpty_cons, Bool.false_or, List.length_cons]
    split
    · exact ⟨rfl, fun _ => rfl⟩
    · split
      · exact ⟨rfl, fun _ => rfl⟩
      · exact ⟨rfl, fun h => absurd rfl h⟩

theorem same_bytes (ok ok' : Nat → Prop) (v u : Value) (l m : List UInt8) (w : World) (h : BytesR ok w v l) (k : BytesR ok' w u m) : Calls Tryd.prog 10 #[v, u] w fun e w' => w' = w ∧ e = .returned (.bool (l == m)) := by
  have h1 := run_str h
  have h2 := run_str k
  have hb := bytes_toList
  clear h k
  go_enter Tryd.func10, Tryd.ntmps10
  go_wp2_with fail
  go_ret
  simp [hb]

set_option maxRecDepth 100000 in
set_option maxHeartbeats 2000000 in
theorem ints_law (n : Int) (v : Value) (b : List UInt8) (w : World) (h1 : -9223372036854775808 ≤ n) (h2 : n ≤ 9223372036854775807) (hb : BytesR AnyB w v b) (henv : Env w) :
    Calls Tryd.prog 3 #[.int .i64 n, v] w (BoolPost w true) := by
  have HE := Lib.hid henv
  have HB := Lib.hid hb
  obtain ⟨ba, bc, rfl, hbc, hbl, hbs⟩ := hb
  unfold lim at hbl
  clear henv hbs
  by_cases h12 : 12 < b.length
  · go_enter Tryd.func3, Tryd.ntmps3
    go_wp2_with fail
    refine (lives_any w HE.out).mono ?_
    rintro e w1 ⟨rfl, hb1⟩
    go_wp2_with fail
    go_ret
    exact ⟨rfl, hb1⟩
  obtain ⟨k1, k2, k3, -⟩ := intBytes_val n h1 h2
  have HTI := Lib.hid (toInt_intBytes n h1 h2)
  have HGD := Lib.hid (intBytes_good n h1 h2)
  go_enter Tryd.func3, Tryd.ntmps3
  go_wp2_with fail
  refine (int_any n w h1 h2).mono ?_
  obtain ⟨c, hc⟩ : ∃ c, c = Tg.intBytes n := ⟨_, rfl⟩
  rw [← hc] at k1 k2 k3 HTI HGD ⊢
  clear hc
  rintro e w1 ⟨a1, rfl, hb1, hr1⟩
  have HB1 := Lib.hid hb1
  have HBB := Lib.hid (HB.out.keep (Keeps.any hb1))
  have HE1 := Lib.hid (HE.out.below hb1)
  have HR := Lib.hid hr1.any
  obtain ⟨_, _, he, -, -, hs⟩ := hr1
  injection he with q1 q2 q3
  subst q1
  clear hb1 q2 q3
  cases c with
  | nil => simp at k1
  | cons x r =>
  obtain ⟨g, o, rfl, hg, hcell⟩ := hs.resolve_left (by simp [bvs])
  have HCELL := Lib.hid hcell
  have c0 := hcell 0 _ rfl
  simp only [Nat.add_zero, bv] at c0
  have HV := Lib.hid k3
  clear hs hcell k3
  simp only [List.length_cons] at k1 k2 ⊢
  go_wp2_with fail
  refine (toInt_any _ (x :: r) w1 HR.out).mono ?_
  rintro e w2 ⟨hw, rfl⟩
  subst hw
  rw [HTI.out]
  have hz : ((r.length : Int) + 1 == 0) = false := by simp; omega
  go_upto_region 7 with (fail)
  go_cut [74] (fun q w' => w' = w2 ∧ q = .bool (Tg.badInt (x :: r)))
  case first =>
    cases r with
    | nil =>
      go_wp2_with fail
      go_meet
      case rel => exact ⟨rfl, rfl⟩
    | cons y r =>
      have c1 := HCELL.out 1 _ rfl
      simp only [bv] at c1
      simp only [List.length_cons] at k2
      by_cases h0 : x.toNat = 0
      · by_cases h1 : y.toNat < 128
        · go_wp2_with fail
          go_meet
          case rel => exact ⟨rfl, by simp [Tg.badInt, h0, h1] <;> omega⟩
        · go_wp2_with fail
          go_meet
          case rel => exact ⟨rfl, by simp [Tg.badInt, h0, h1] <;> omega⟩
      · by_cases h1 : x.toNat = 255
        · by_cases h2 : y.toNat < 128
          · go_wp2_with fail
            go_meet
            case rel => exact ⟨rfl, by simp [Tg.badInt, h1, h2] <;> omega⟩
          · go_wp2_with fail
            go_meet
            case rel => exact ⟨rfl, by simp [Tg.badInt, h1, h2] <;> omega⟩
        · go_wp2_with fail
          go_meet
          case rel => exact ⟨rfl, by simp [Tg.badInt, h0, h1] <;> omega⟩
  case rest =>
    obtain ⟨hw, rfl⟩ := hcut
    have hw' := hw.symm
    subst hw'
    rw [HGD.out]
    clear hz
    go_upto_if 77 with (fail)
    go_cut [] (fun w' => w' = w2)
    case first =>
      have hvs := val_sum x r
      rw [HV.out] at hvs
      have hS0 := foldI_zero (x :: r)
      have HSUM := Lib.hid hvs
      have HS0 := Lib.hid hS0
      have HFZ := Lib.hid (fun j => foldI_zero ((x :: r).take j))
      clear hvs hS0
      by_cases hl8 : r.length + 1 < 8
      · go_wp2_with fail
        go_loopw [8, 9] (fun s i wr => ∃ j : Nat, ∃ m : Int, j ≤ r.length + 1 ∧ i = .int .i64 j ∧ s = .int .i64 m ∧ wr = w2 ∧ Hid (m = ((x :: r).take j).foldl Tg.stepI 0)) (fun _ i _ => r.length + 1 - (intOf i).toNat)
        case atStart => exact ⟨0, 0, by omega, rfl, rfl, rfl, rfl⟩
        case round =>
          obtain ⟨j, m, hj, rfl, rfl, hw, hm⟩ := hrel
          have hw' := hw.symm
          subst hw'
          by_cases hlt : j < r.length + 1
          · have hlt' : j < (x :: r).length := by simpa using hlt
            have cj := HCELL.out j _ (bvs_get hlt')
            have HST := Lib.hid (foldI_take 0 hlt')
            have hbd := HFZ.out j
            rw [← hm.out] at hbd
            have hpw : 256 ^ ((x :: r).take j).length ≤ 256 ^ 6 := Nat.pow_le_pow_right (by decide) (by rw [List.length_take]; omega)
            have hm1 : 0 ≤ m := hbd.1
            have hm2 : m < 281474976710656 := by
              have : (256 : Nat) ^ 6 = 281474976710656 := rfl
              omega
            clear hbd hpw
            have hy := (x :: r)[j].toNat_lt
            generalize (x :: r)[j].toNat = y at *
            clear hlt'
            go_wp2_with fail
            go_roundw
            case rel => exact ⟨j + 1, m * 256 + y, by omega, by go_num, rfl, trivial, by rw [HST.out, ← hm.out]; rfl⟩
            case measure => simp [intOf]; omega
          · have HM := Lib.hid (show m = (x :: r).foldl Tg.stepI 0 by rw [hm.out, List.take_of_length_le (by simp; omega)])
            have hbd := HS0.out
            rw [← HM.out] at hbd
            have hpw : 256 ^ (x :: r).length ≤ 256 ^ 7 := Nat.pow_le_pow_right (by decide) (by simp; omega)
            have hm1 : 0 ≤ m := hbd.1
            have hm2 : m < 72057594037927936 := by
              have : (256 : Nat) ^ 7 = 72057594037927936 := rfl
              omega
            clear hbd hpw
            have hx := x.toNat_lt
            have HSM := Lib.hid (show n = m - if 128 ≤ x.toNat then ((256 ^ (r.length + 1) : Nat) : Int) else 0 by rw [HM.out]; exact HSUM.out)
            by_cases hx8 : 128 ≤ x.toNat
            · have hw64 : wrap64 (m - wrap64 (2 ^ (8 * (r.length + 1)))) = n := by
                have hpp : (2 : Int) ^ (8 * (r.length + 1)) = ((256 ^ (r.length + 1) : Nat) : Int) := by
                  rw [Int.pow_mul, Int.natCast_pow]
                  rfl
                have h7 : 256 ^ (r.length + 1) ≤ 256 ^ 7 := Nat.pow_le_pow_right (by decide) (by omega)
                have h77 : (256 : Nat) ^ 7 = 72057594037927936 := rfl
                have h3 := HSM.out
                rw [if_pos hx8] at h3
                rw [hpp]
                rw [h77] at h7
                clear hpp
                generalize 256 ^ (r.length + 1) = P at *
                rw [wrap64_small (n := (P : Int)) (by omega), wrap64_small (by omega)]
                exact h3.symm
              go_wp2_with fail
              go_meet
              case rel => exact rfl
            · have hnm : n = m := by have := HSM.out; rw [if_neg hx8] at this; omega
              subst hnm
              go_wp2_with fail
              go_meet
              case rel => exact rfl
      · go_wp2_with fail
        go_meet
        case rel => exact rfl
    case rest =>
      subst hcut
      go_wp2_with fail
      refine (toInt_any _ b _ HBB.out).mono ?_
      rintro e w3 ⟨hw, rfl⟩
      have hw' := hw.symm
      subst hw'
      have hrg := toInt_range b
      have HBK := Lib.hid (toInt_back b)
      have HWT := Lib.hid (toInt_want b)
      obtain ⟨k, hk⟩ : ∃ k, k = (Tg.toInt b).1 := ⟨_, rfl⟩
      obtain ⟨f, hf⟩ : ∃ f, f = (Tg.toInt b).2 := ⟨_, rfl⟩
      rw [← hk, ← hf] at HBK HWT ⊢
      rw [← hk] at hrg
      obtain ⟨hrg1, hrg2⟩ := hrg
      clear hk hf c0 hg
      go_upto_region 21 with (fail)
      go_cut [110] (fun q w' => w' = wc ∧ q = .bool (Tg.noInt b))
      case first =>
        have HBS := HBB.out
        clear HCELL
        cases b with
        | nil =>
          go_wp2_with fail
          go_meet
          case rel => exact ⟨rfl, rfl⟩
        | cons y s =>
          obtain ⟨_, _, he, -, -, hs⟩ := HBS
          injection he with q1 q2 q3
          subst q1
          obtain ⟨g', o', rfl, hg', hcell⟩ := hs.resolve_left (by simp [bvs])
          have c0 := hcell 0 _ rfl
          simp only [Nat.add_zero, bv] at c0
          simp only [List.length_cons] at hbc hbl h12
          cases s with
          | nil =>
            clear hcell hs q2 q3
            go_wp2_with fail
            go_meet
            case rel => exact ⟨rfl, by simp [Tg.noInt, Tg.badInt]⟩
          | cons z s =>
            have c1 := hcell 1 _ rfl
            simp only [bv] at c1
            simp only [List.length_cons] at hbc hbl h12
            clear hcell hs q2 q3
            have hzz : ((s.length : Int) + 1 + 1 == 0) = false := by simp; omega
            by_cases h0 : y.toNat = 0
            · by_cases h1 : z.toNat < 128
              · go_wp2_with fail
                go_meet
                case rel => exact ⟨rfl, by simp [Tg.noInt, Tg.badInt, h0, h1] <;> omega⟩
              · go_wp2_with fail
                go_meet
                case rel => exact ⟨rfl, by simp [Tg.noInt, Tg.badInt, h0, h1] <;> omega⟩
            · by_cases h1 : y.toNat = 255
              · by_cases h2 : z.toNat < 128
                · go_wp2_with fail
                  go_meet
                  case rel => exact ⟨rfl, by simp [Tg.noInt, Tg.badInt, h1, h2] <;> omega⟩
                · go_wp2_with fail
                  go_meet
                  case rel => exact ⟨rfl, by simp [Tg.noInt, Tg.badInt, h1, h2] <;> omega⟩
              · go_wp2_with fail
                go_meet
                case rel => exact ⟨rfl, by simp [Tg.noInt, Tg.badInt, h0, h1] <;> omega⟩
      case rest =>
        obtain ⟨hw, rfl⟩ := hcut
        have hw' := hw.symm
        subst hw'
        obtain ⟨hw1, hw2⟩ := HWT.out
        cases hno : Tg.noInt b
        · rw [hno, if_neg (by simp)] at hw1
          by_cases h8 : 8 < b.length
          · rw [if_pos h8] at hw1
            obtain rfl := hw2 (by omega)
            subst hw1
            clear hno hw2
            go_wp2_with fail
            refine (lives_any _ HE1.out).mono ?_
            rintro e w4 ⟨rfl, hb4⟩
            go_wp2_with fail
            go_ret
            exact ⟨rfl, below_step HB1.out hb4⟩
          · rw [if_neg h8] at hw1
            have HBK1 := Lib.hid (HBK.out hw1)
            subst hw1
            clear hno hw2
            go_wp2_with fail
            refine (int_any k _ hrg1 hrg2).mono ?_
            rw [HBK1.out]
            rintro e w4 ⟨a4, rfl, hb4, hr4⟩
            have HB4 := Lib.hid (below_step HB1.out hb4)
            have HE4 := Lib.hid (HE1.out.below hb4)
            have HR4 := Lib.hid hr4
            have HBB4 := Lib.hid (HBB.out.keep (Keeps.any hb4))
            clear hb4 hr4
            go_wp2_with fail
            refine (same_bytes _ _ _ _ b b w4 HR4.out HBB4.out).mono ?_
            rintro e w5 ⟨hw, rfl⟩
            have hw' := hw.symm
            subst hw'
            have hbb : (b == b) = true := by simp
            rw [hbb]
            clear hbb
            go_wp2_with fail
            refine (lives_any _ HE4.out).mono ?_
            rintro e w6 ⟨rfl, hb6⟩
            go_wp2_with fail
            go_ret
            exact ⟨rfl, below_step HB4.out hb6⟩
        · rw [hno, if_pos rfl] at hw1
          obtain rfl := hw2 (by omega)
          subst hw1
          clear hno hw2
          go_wp2_with fail
          refine (lives_any _ HE1.out).mono ?_
          rintro e w4 ⟨rfl, hb4⟩
          go_wp2_with fail
          go_ret
          exact ⟨rfl, below_step HB1.out hb4⟩
end Go.Proofs.YthonjbaeadbhdaaDoor
