/- Contracts of tags.Int, tags.ToInt. -/
import Derived.Test.YthonjbaeadbhdaaDoorTagsClip
import Derived.WalkLawsBesides
import Derived.Deep.DeepCutAuto
import Derived.Deep.CutBlock
import Derived.Deep.OwnRows
namespace Go.Proofs.YthonjbaeadbhdaaDoor
open Go.RowKit

/-- Whether an integer has more than k bytes. -/
def Tg.wide (n : Int) (k : Nat) : Bool := decide (n / 2 ^ (8 * k - 1) ≠ 0 ∧ n / 2 ^ (8 * k - 1) ≠ -1)

theorem intLen87 (n : Int) : Tg.intLen n 8 1 = Tg.intLen n 7 1 := by simp [Tg.intLen]
def Tg.byteAt (n : Int) (i : Nat) : Value := .int .u8 ((n / 2 ^ (8 * i)) % 256)
set_option maxRecDepth 100000 in
set_option maxHeartbeats 1000000 in
theorem int_any (n : Int) (w : World) (h1 : -9223372036854775808 ≤ n) (h2 : n ≤ 9223372036854775807) :
    Calls Tryd.prog 8 #[.int .i64 n] w (fun e w' => ∃ a, e = .returned (.slice a (Tg.intBytes n).length (Tg.intBytes n).length) ∧ Below w.heap.size w w' ∧ BytesR (fun k => w.heap.size ≤ k) w' (.slice a (Tg.intBytes n).length (Tg.intBytes n).length) (Tg.intBytes n)) := by
  have H1 := Lib.hid h1
  have H2 := Lib.hid h2
  go_enter Tryd.func8, Tryd.ntmps8
  go_upto_block 0 with (fail)
  go_cut [3] (fun i w' => ∃ L : Nat, 1 ≤ L ∧ L ≤ 8 ∧ i = .int .i64 L ∧ w' = w ∧ Hid (Tg.intLen n 7 1 = L))
  case first =>
    go_wp2_with fail
    go_loopw [3] (fun i wr => ∃ k : Nat, 1 ≤ k ∧ k ≤ 8 ∧ i = .int .i64 k ∧ wr = w ∧ Hid (Tg.intLen n (8 - k) k = Tg.intLen n 7 1)) (fun i _ => 8 - (intOf i).toNat)
    case atStart => exact ⟨1, by omega, by omega, rfl, rfl, rfl⟩
    case round =>
      obtain ⟨k, hk1, hk8, rfl, rfl, hr⟩ := hrel
      by_cases hk : k = 8
      · subst hk
        go_wp2_with fail
        go_meet
        case rel => exact ⟨8, by omega, by omega, rfl, rfl, hr.out.symm⟩
      · obtain ⟨b0, hb0⟩ : ∃ b, b = (n / 2 ^ (8 * k - 1) != 0) := ⟨_, rfl⟩
        obtain ⟨b1, hb1⟩ : ∃ b, b = (n / 2 ^ (8 * k - 1) != -1) := ⟨_, rfl⟩
        have HI := Lib.hid (show Tg.intLen n (8 - k) k = if (b0 && b1) = true then Tg.intLen n (7 - k) (k + 1) else k by
          rw [show 8 - k = (7 - k) + 1 by omega, Tg.intLen, hb0, hb1]
          simp only [Bool.and_eq_true, bne_iff_ne]
          by_cases hw : n / 2 ^ (8 * k - 1) ≠ 0 ∧ n / 2 ^ (8 * k - 1) ≠ -1
          · rw [if_pos hw, if_pos ⟨by omega, hw⟩]
          · rw [if_neg hw, if_neg (fun h => hw h.2)])
        have q0 := hb0.symm
        have q1 := hb1.symm
        clear hb0 hb1
        cases b0
        · go_wp2_with fail
          go_meet
          case rel => exact ⟨k, by omega, by omega, rfl, rfl, hr.out.symm.trans HI.out⟩
        · cases b1
          · go_wp2_with fail
            go_meet
            case rel => exact ⟨k, by omega, by omega, rfl, rfl, hr.out.symm.trans HI.out⟩
          · go_wp2_with fail
            go_roundw
            case rel => exact ⟨k + 1, by omega, by omega, by go_num, trivial, by rw [show 8 - (k + 1) = 7 - k by omega]; exact HI.out.symm.trans hr.out⟩
            case measure => simp [intOf]; omega
  case rest =>
    obtain ⟨L, hL1, hL8, rfl, hw, hlen⟩ := hcut
    have hw' := hw.symm
    subst hw'
    have hmk := run_make_row' (P := Tryd.prog) 22 5 (.int .u8 0) 1 Tryd.underlying22 u8_info rfl .i64 .i64 L (by omega) (by omega)
    go_wp2_with fail
    go_loopw [30] (fun i wr => ∃ (j : Nat) (cs : Array Value), j ≤ L ∧ i = .int .i64 j ∧ wr.heap[w.heap.size]? = some (.cells cs 5 (0, 0)) ∧ cs.size = L ∧ Hid (∀ m, m < L → L ≤ m + j → cs[m]? = some (Tg.byteAt n (L - 1 - m))) ∧ Hid (Below w.heap.size w wr)) (fun i _ => L - (intOf i).toNat)
    case atStart => exact ⟨0, madeCells #[.int .u8 0] L, by omega, rfl, alloc_new _ _, size_madeCells _ _, fun m h1 h2 => by omega, below_new _⟩
    case round =>
      obtain ⟨j, cs, hj, rfl, hh, hsz, hcs, hbl⟩ := hrel
      by_cases hlt : j < L
      · have c0 := cell_of hh (L - 1 - j)
        have f0 := free_of hh (L - 1 - j)
        rw [Array.getElem?_eq_getElem (by omega : L - 1 - j < cs.size)] at c0
        go_wp2_with fail
        go_roundw
        case rel =>
          refine ⟨j + 1, cs.setIfInBounds (L - 1 - j) (Tg.byteAt n j), by omega, by go_num, heap_set hh _ _, by simp [hsz], fun m h1 h2 => ?_, ?_⟩
          · rw [Array.getElem?_setIfInBounds]
            by_cases hm : L - 1 - j = m
            · rw [if_pos hm, if_pos (by omega), show L - 1 - m = j by omega]
            · rw [if_neg hm]
              exact hcs.out m h1 (by omega)
          · exact below_of_grown (grown_new' (grown_below hbl.out none) (grown_setCell _ _ _) (Nat.le_refl _))
        case measure => simp [intOf]; omega
      · have hjL : j = L := by omega
        subst hjL
        have HCS := Lib.hid (And.intro hh hsz)
        go_wp2_with fail
        go_ret
        have hlenT : (Tg.intBytes n).length = j := by rw [Tg.intBytes, intLen87, hlen.out]; simp
        rw [hlenT]
        refine ⟨_, rfl, hbl.out, _, _, by rw [hlenT], by omega, by unfold lim; omega, .inr ⟨w.heap.size, 0, rfl, Nat.le_refl _, fun m u hu => ?_⟩⟩
        rw [cell_of HCS.out.1]
        have hm : m < j := by
          have := (List.getElem?_eq_some_iff.1 hu).1
          simpa [bvs, hlenT] using this
        rw [Nat.zero_add, hcs.out m hm (by omega), ← hu]
        rw [bvs, Tg.intBytes, intLen87, hlen.out]
        simp [hm, bv, Tg.byteAt]
        omega

end Go.Proofs.YthonjbaeadbhdaaDoor
