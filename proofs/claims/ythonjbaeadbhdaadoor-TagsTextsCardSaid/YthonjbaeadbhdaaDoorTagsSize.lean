/- Contract of tags.size. -/
import Derived.Test.YthonjbaeadbhdaaDoorBufs
namespace Go.Proofs.YthonjbaeadbhdaaDoor
open Go.RowKit

/-- What a function that appends 'm' to a slice of bytes hands back. -/
def AppPost (w : World) (row : Option Nat) (l : List UInt8) (e : Ending) (w' : World) : Prop :=
  ∃ v' row', e = .returned v' ∧ Buf w' row' v' l ∧ w.grownBy w' row ∧ RowStep w row row'

set_option maxHeartbeats 1000000 in
/-- A shift by whole bytes. -/
theorem shr_nat (n j : Nat) : (n : Int) / 2 ^ (8 * j) = ((n / 256 ^ j : Nat) : Int) := by
  rw [Int.natCast_ediv, Int.natCast_pow, show (2 : Int) ^ (8 * j) = (((256 : Nat) : Int)) ^ j from by rw [Int.pow_mul]; rfl]

set_option maxRecDepth 100000 in
theorem size_any (n f : Nat) (F : Int) (hF : F = f) (row : Option Nat) (v : Value) (l : List UInt8) (w : World) (hn : n ≤ lim * 2048) (hf : f < 3) (hb : Buf w row v l) (hl : l.length + 9 ≤ lim) :
    Calls Tryd.prog 57 #[v, .int .i64 n, .int .u8 F] w (AppPost w row (l ++ Tg.size n f)) := by
  subst hF
  unfold lim at hn hl
  obtain ⟨a, c, rfl, hc⟩ := hb.shape
  have HB := Lib.hid hb
  clear hb
  go_enter Tryd.func57, Tryd.ntmps57
  go_wp2_with fail
  go_loop [7] (fun k => ∃ j : Nat, j ≤ 8 ∧ k = .int .i64 j ∧ Hid (Tg.nb 8 n = j + Tg.nb (8 - j) (n / 256 ^ j))) (fun k => 8 - (intOf k).toNat)
  case atStart => exact ⟨0, by omega, rfl, by show Tg.nb 8 n = 0 + Tg.nb 8 (n / 1); simp⟩
  case round =>
    obtain ⟨j, hj, rfl, hr⟩ := hrel
    have hsh := shr_nat n j
    have HSH := Lib.hid hsh
    by_cases hz : n / 256 ^ j = 0
    · have hgt : ¬ (0 : Int) < (n : Int) / 2 ^ (8 * j) := by rw [hsh, hz]; simp
      clear hsh
      have hnb := hr.out
      rw [hz] at hnb
      have hjn : Tg.nb 8 n = j := by rw [hnb]; cases (8 - j) <;> simp [Tg.nb]
      have HJ := Lib.hid hjn
      clear hnb hjn hr
      by_cases hsm : f ≠ 2 ∧ n < 128
      · obtain ⟨hf2, hn1⟩ := hsm
        have hf2' : ((f : Int) == 2) = false := by simp; omega
        have HS := Lib.hid (show Tg.size n f = [UInt8.ofNat n] by simp [Tg.size, hf2, hn1])
        clear hf2
        go_wp2_with (at_builtin; refine Stop.mk ?_)
        refine Stop.of (wp_append rfl _ _ rfl rfl rfl (HB.out.alloc _) (src_one w _ (UInt8.ofNat n) ?_ rfl) rfl (by simp; omega) ?_)
        · simp; omega
        intro v' w' row' hb' hg' hr'
        have H1 := Lib.hid hb'
        have H2 := Lib.hid hg'
        have H3 := Lib.hid hr'
        clear hb' hg' hr'
        go_wp2_with fail
        go_ret
        rw [HS.out]
        exact ⟨_, row', rfl, H1.out, grown_trans (grown_alloc _ _ _) H2.out, RowStep.trans (RowStep.refl _ _) (by simp) H3.out⟩
      · have hcase : f = 2 ∨ (f ≠ 2 ∧ 128 ≤ n) := by omega
        clear hsm
        obtain ⟨K, b0, hK8, HS, hKb⟩ : ∃ (K : Nat) (b0 : UInt8), K ≤ 8 ∧ Hid (Tg.size n f = b0 :: Tg.be K n) ∧ (f = 2 ∧ K = 4 ∧ b0 = UInt8.ofNat 132 ∨ (f ≠ 2 ∧ 128 ≤ n) ∧ K = j ∧ b0 = UInt8.ofNat (128 + j)) := by
          rcases hcase with h | h
          · exact ⟨4, _, by omega, by show _ = _; simp [Tg.size, h], .inl ⟨h, rfl, rfl⟩⟩
          · refine ⟨j, _, by omega, ?_, .inr ⟨h, rfl, rfl⟩⟩
            show _ = _
            have := HJ.out
            simp only [Tg.size, this]
            rw [if_neg h.1, if_neg (by omega)]
        clear hcase
        rcases hKb with ⟨rfl, rfl, rfl⟩ | ⟨⟨hf2, hn1⟩, rfl, rfl⟩
        · go_wp2_with (at_builtin; refine Stop.mk ?_)
          refine Stop.of (wp_append rfl _ _ rfl rfl rfl (HB.out.alloc _) (src_one w _ (UInt8.ofNat 132) (by simp) rfl) rfl (by simp; omega) ?_)
          intro v' w' row' hb' hg' hr'
          have H1 := Lib.hid hb'
          have H2 := Lib.hid hg'
          have H3 := Lib.hid hr'
          clear hb' hg' hr'
          go_wp2_with fail
          go_loopw [0, 7] (fun v k wr => ∃ (i : Nat) (pre : List UInt8) (r : Option Nat), i ≤ 4 ∧ k = .int .i64 ((i : Int) - 1) ∧ Hid (Buf wr r v (l ++ (UInt8.ofNat 132 :: pre))) ∧ Hid (w.grownBy wr row) ∧ Hid (RowStep w row r) ∧ Hid (pre.length + i = 4 ∧ pre ++ Tg.be i n = Tg.be 4 n)) (fun _ k _ => (intOf k + 1).toNat)
          case atStart => exact ⟨4, [], row', Nat.le_refl _, by go_num, H1, grown_trans (grown_alloc _ _ _) H2.out, RowStep.trans (RowStep.refl _ _) (by simp) H3.out, by simp, rfl⟩
          case round =>
            obtain ⟨i, pre, r, hi, rfl, K1, K2, K3, K4⟩ := hrel
            clear H1 H2 H3 HB
            have hlen : pre.length ≤ 8 := by have := K4.out.1; omega
            by_cases hi0 : i = 0
            · have HI := Lib.hid hi0
              go_wp2_with fail
              go_ret
              have h4 := K4.out.2
              rw [HI.out, Tg.be, List.append_nil] at h4
              rw [HS.out, ← h4]
              exact ⟨_, r, rfl, K1.out, K2.out, K3.out⟩
            · obtain ⟨i, rfl⟩ : ∃ m, i = m + 1 := ⟨i - 1, by omega⟩
              obtain ⟨a2, c2, rfl, -⟩ := K1.out.shape
              have HSH := Lib.hid (shr_nat n i)
              have hlen2 : pre.length ≤ 7 := by have := K4.out.1; omega
              clear hi0
              go_wp2_with (at_builtin; refine Stop.mk ?_)
              refine Stop.of (wp_append rfl _ _ rfl rfl rfl (K1.out.alloc _) (src_one wr _ (UInt8.ofNat (n / 256 ^ i)) ?_ rfl) rfl (by simp; omega) ?_)
              · rw [HSH.out]; simp
              intro v2 w2 r2 hb2 hg2 hr2
              have L1 := Lib.hid hb2
              have L2 := Lib.hid (grown_step (grown_trans K2.out (grown_alloc _ _ _)) K3.out hg2)
              have L3 := Lib.hid (RowStep.trans K3.out (Nat.le_trans K2.out.size (by simp)) hr2)
              clear hb2 hg2 hr2
              go_wp2_with fail
              go_roundw
              case rel =>
                refine ⟨i, pre ++ [UInt8.ofNat (n / 256 ^ i)], r2, by omega, by go_num, ?_, L2, L3, ?_⟩
                · show Buf _ _ _ _
                  have := L1.out
                  simpa using this
                · have h4 := K4.out
                  refine ⟨by simp; omega, ?_⟩
                  rw [← h4.2, Tg.be, List.append_assoc]
                  rfl
              case measure => (simp [intOf]) <;> omega
        · have hf2' : ((f : Int) == 2) = false := by simp; omega
          clear hf2
          go_wp2_with (at_builtin; refine Stop.mk ?_)
          refine Stop.of (wp_append rfl _ _ rfl rfl rfl (HB.out.alloc _) (src_one w _ (UInt8.ofNat (128 + K)) ?_ rfl) rfl (by simp; omega) ?_)
          · simp
            omega
          intro v' w' row' hb' hg' hr'
          have H1 := Lib.hid hb'
          have H2 := Lib.hid hg'
          have H3 := Lib.hid hr'
          clear hb' hg' hr'
          go_wp2_with fail
          go_loopw [0, 7] (fun v k wr => ∃ (i : Nat) (pre : List UInt8) (r : Option Nat), i ≤ K ∧ k = .int .i64 ((i : Int) - 1) ∧ Hid (Buf wr r v (l ++ (UInt8.ofNat (128 + K) :: pre))) ∧ Hid (w.grownBy wr row) ∧ Hid (RowStep w row r) ∧ Hid (pre.length + i = K ∧ pre ++ Tg.be i n = Tg.be K n)) (fun _ k _ => (intOf k + 1).toNat)
          case atStart => exact ⟨K, [], row', Nat.le_refl _, by go_num, H1, grown_trans (grown_alloc _ _ _) H2.out, RowStep.trans (RowStep.refl _ _) (by simp) H3.out, by simp, rfl⟩
          case round =>
            obtain ⟨i, pre, r, hi, rfl, K1, K2, K3, K4⟩ := hrel
            clear H1 H2 H3 HB
            have hlen : pre.length ≤ 8 := by have := K4.out.1; omega
            by_cases hi0 : i = 0
            · have HI := Lib.hid hi0
              go_wp2_with fail
              go_ret
              have h4 := K4.out.2
              rw [HI.out, Tg.be, List.append_nil] at h4
              rw [HS.out, ← h4]
              exact ⟨_, r, rfl, K1.out, K2.out, K3.out⟩
            · obtain ⟨i, rfl⟩ : ∃ m, i = m + 1 := ⟨i - 1, by omega⟩
              obtain ⟨a2, c2, rfl, -⟩ := K1.out.shape
              have HSH := Lib.hid (shr_nat n i)
              have hlen2 : pre.length ≤ 7 := by have := K4.out.1; omega
              clear hi0
              go_wp2_with (at_builtin; refine Stop.mk ?_)
              refine Stop.of (wp_append rfl _ _ rfl rfl rfl (K1.out.alloc _) (src_one wr _ (UInt8.ofNat (n / 256 ^ i)) ?_ rfl) rfl (by simp; omega) ?_)
              · rw [HSH.out]; simp
              intro v2 w2 r2 hb2 hg2 hr2
              have L1 := Lib.hid hb2
              have L2 := Lib.hid (grown_step (grown_trans K2.out (grown_alloc _ _ _)) K3.out hg2)
              have L3 := Lib.hid (RowStep.trans K3.out (Nat.le_trans K2.out.size (by simp)) hr2)
              clear hb2 hg2 hr2
              go_wp2_with fail
              go_roundw
              case rel =>
                refine ⟨i, pre ++ [UInt8.ofNat (n / 256 ^ i)], r2, by omega, by go_num, ?_, L2, L3, ?_⟩
                · show Buf _ _ _ _
                  have := L1.out
                  simpa using this
                · have h4 := K4.out
                  refine ⟨by simp; omega, ?_⟩
                  rw [← h4.2, Tg.be, List.append_assoc]
                  rfl
              case measure => (simp [intOf]) <;> omega
    · have hgt : (0 : Int) < (n : Int) / 2 ^ (8 * j) := by rw [hsh]; exact Int.natCast_pos.2 (Nat.pos_of_ne_zero hz)
      clear hsh
      have hj8 : j < 8 := by
        rcases Nat.lt_or_ge j 8 with h | h
        · exact h
        · have : j = 8 := by omega
          subst this
          exact absurd (Nat.div_eq_of_lt (by omega)) hz
      have HN := Lib.hid (show Tg.nb 8 n = (j + 1) + Tg.nb (8 - (j + 1)) (n / 256 ^ (j + 1)) by
        rw [hr.out, show 8 - j = (8 - (j + 1)) + 1 by omega, Tg.nb, if_neg hz, Nat.div_div_eq_div_mul, Nat.pow_succ]
        omega)
      clear hr hz
      go_wp2_with fail
      go_round
      case rel => exact ⟨j + 1, by omega, by go_num, HN⟩
      case measure => simp [intOf]; omega
end Go.Proofs.YthonjbaeadbhdaaDoor
