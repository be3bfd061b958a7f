/- Contracts of the reader of texts: run, skip. -/
import Derived.Test.YthonjbaeadbhdaaDoorTagsText2
import Derived.Test.YthonjbaeadbhdaaDoorTagsParseDef
namespace Go.Proofs.YthonjbaeadbhdaaDoor
open Go.RowKit

/-- What is left of the text, and the count, in the reader's block. -/
def RS (w : World) (rk : Nat) (s : List UInt8) (cnt : Nat) : Prop := w.heap[rk]? = some (.cells #[.string ⟨s.toArray⟩, .int .i64 cnt] 84 (0, 0))
theorem indexByte_any (l : List UInt8) (x : UInt8) (c : Int) (w : World) (hc : c = (x.toNat : Int)) :
    Calls Tryd.prog 49 #[.string ⟨l.toArray⟩, .int .u8 c] w fun e w' => w = w' ∧ e = .returned (.int .i64 (Lib.indexByte l x)) := by
  subst hc
  refine (Tryd.strings_IndexByte ⟨l.toArray⟩ x.toNat w).mono ?_
  rintro e w' ⟨rfl, rfl⟩
  refine ⟨rfl, ?_⟩
  have : (x.toNat : Int).toNat.toUInt8 = x := by
    rw [Int.toNat_natCast]
    exact UInt8.ofNat_toNat
  rw [this]

theorem ext_str (s : List UInt8) (a b : Nat) : (⟨s.toArray⟩ : ByteArray).extract a b = ⟨((s.take b).drop a).toArray⟩ := by
  apply ByteArray.ext
  rw [ByteArray.data_extract]
  simp [List.extract_toArray, List.extract_eq_drop_take', List.extract_eq_take_drop]

set_option maxRecDepth 100000 in
set_option maxHeartbeats 1000000 in
theorem run_any (am s : List UInt8) (rk cnt : Nat) (w : World) (h : RS w rk s cnt) (hs : s.length ≤ lim) :
    Calls Tryd.prog 50 #[.pointer (some ⟨rk, 0, none⟩), .string ⟨am.toArray⟩] w fun e w' => e = .returned (.string ⟨(s.takeWhile (Tg.among am)).toArray⟩) ∧ w.grownBy w' (some rk) ∧ RS w' rk (s.dropWhile (Tg.among am)) cnt := by
  unfold lim at hs
  have H := Lib.hid h
  have c0 := cell_of h 0
  have c1 := cell_of h 1
  have f0 := free_of h 0
  simp at c0 c1
  have hsz : (⟨s.toArray⟩ : ByteArray).size = s.length := by simp [ByteArray.size]
  clear h
  go_enter Tryd.func50, Tryd.ntmps50
  go_wp2_with fail
  go_loopw [5] (fun i wr => ∃ j : Nat, j ≤ s.length ∧ i = .int .i64 j ∧ wr = w ∧ Hid (s.takeWhile (Tg.among am) = s.take j ++ (s.drop j).takeWhile (Tg.among am)) ∧ Hid (s.dropWhile (Tg.among am) = (s.drop j).dropWhile (Tg.among am))) (fun i _ => s.length - (intOf i).toNat)
  case atStart => exact ⟨0, Nat.zero_le _, rfl, rfl, rfl, rfl⟩
  case round =>
    obtain ⟨j, hj, rfl, hw, ht, hd⟩ := hrel
    have hw' := hw.symm
    subst hw'
    have hget : ∀ h, ((⟨s.toArray⟩ : ByteArray)[j]'h) = s[j]'(by simpa [ByteArray.size] using h) := fun h => rfl
    have hx0 : (⟨s.toArray⟩ : ByteArray).extract 0 j = ⟨(s.take j).toArray⟩ := by rw [ext_str]; simp
    have hxj : (⟨s.toArray⟩ : ByteArray).extract j s.length = ⟨(s.drop j).toArray⟩ := by rw [ext_str, List.take_length]
    by_cases hlt : j < s.length
    · have HI := Lib.hid (show (s.drop j).takeWhile (Tg.among am) = (if Tg.among am s[j] = true then s[j] :: (s.drop (j + 1)).takeWhile (Tg.among am) else []) ∧ (s.drop j).dropWhile (Tg.among am) = (if Tg.among am s[j] = true then (s.drop (j + 1)).dropWhile (Tg.among am) else s.drop j) by
        rw [List.drop_eq_getElem_cons hlt, List.takeWhile_cons, List.dropWhile_cons]
        exact ⟨by split <;> simp_all, by split <;> simp_all⟩)
      have HT := Lib.hid (List.take_succ_eq_append_getElem hlt)
      go_wp2_with fail
      refine (indexByte_any am s[j] _ w rfl).mono ?_
      rintro e w2 ⟨rfl, rfl⟩
      have HA := Lib.hid (show Tg.among am s[j] = decide (0 ≤ Lib.indexByte am s[j]) from rfl)
      generalize Lib.indexByte am s[j] = q at HA
      by_cases hq : 0 ≤ q
      · have HA1 := Lib.hid (show Tg.among am s[j] = true by rw [HA.out]; simpa using hq)
        go_wp2_with fail
        go_roundw
        case rel =>
          refine ⟨j + 1, by omega, by go_num, trivial, ?_, ?_⟩
          · have h1 := ht.out
            rw [HI.out.1, if_pos HA1.out] at h1
            have h2 := HT.out
            show _ = _
            rw [h1, h2, List.append_assoc]
            rfl
          · rw [hd.out, HI.out.2, if_pos HA1.out]
            rfl
        case measure => simp [intOf]; omega
      · have HA1 := Lib.hid (show ¬ Tg.among am s[j] = true by rw [HA.out]; simpa using hq)
        go_wp2_with fail
        go_ret
        refine ⟨?_, grown_setCell _ _ _, ?_⟩
        · rw [ht.out, HI.out.1, if_neg HA1.out, List.append_nil]
          rfl
        · rw [hd.out, HI.out.2, if_neg HA1.out]
          exact heap_set H.out 0 _
    · have HJ := Lib.hid (show j = s.length by omega)
      go_wp2_with fail
      go_ret
      refine ⟨?_, grown_setCell _ _ _, ?_⟩
      · rw [ht.out, HJ.out, List.drop_length]
        simp
      · rw [hd.out, HJ.out]
        have h := heap_set H.out 0 (.string ⟨(s.drop s.length).toArray⟩)
        simpa [RS] using h

theorem skip_any (c : UInt8) (s : List UInt8) (rk cnt : Nat) (w : World) (h : RS w rk s cnt) :
    Calls Tryd.prog 52 #[.pointer (some ⟨rk, 0, none⟩), .string ⟨#[c]⟩] w fun e w' => e = .returned (.bool (Lib.hasPrefix s [c])) ∧ w.grownBy w' (some rk) ∧ RS w' rk (Lib.trimPrefix s [c]) cnt := by
  have H := Lib.hid h
  have c0 := cell_of h 0
  have f0 := free_of h 0
  simp at c0
  clear h
  go_enter Tryd.func52, Tryd.ntmps52
  go_wp2_with fail
  refine (Tryd.strings_CutPrefix ⟨s.toArray⟩ ⟨#[c]⟩ _).mono ?_
  rintro e w2 ⟨rfl, hw⟩
  have hw' := hw.symm
  subst hw'
  go_wp2_with fail
  go_ret
  exact ⟨rfl, grown_setCell _ _ _, heap_set H.out 0 _⟩
end Go.Proofs.YthonjbaeadbhdaaDoor
