/- Contracts of the decoder's number, length, ahead. -/
import Derived.Test.YthonjbaeadbhdaaDoorTagsInput
namespace Go.Proofs.YthonjbaeadbhdaaDoor
open Go.RowKit

theorem St.grown_trans {w a b : World} {dk : Nat} (h : w.grownBy a (some dk)) (k : a.grownBy b (some dk)) : w.grownBy b (some dk) := _root_.Go.Proofs.YthonjbaeadbhdaaDoor.grown_trans h k
def NumPost (w : World) (dk cnt : Nat) (r : Except Nat (Nat × List UInt8)) (e : Ending) (w' : World) : Prop :=
  w.grownBy w' (some dk) ∧ match r with
  | .error k => e = raised k
  | .ok (n, rest) => e = .returned (.int .u32 n) ∧ St w' dk rest cnt ∧ n ≤ 2097151

set_option maxRecDepth 100000 in
set_option maxHeartbeats 1000000 in
theorem number_any (dk : Nat) (rest : List UInt8) (cnt : Nat) (w : World) (h : St w dk rest cnt) : Calls Tryd.prog 61 #[.pointer (some ⟨dk, 0, none⟩)] w (NumPost w dk cnt (Tg.numberD true 0 rest)) := by
  have HST := Lib.hid h
  clear h
  go_enter Tryd.func61, Tryd.ntmps61
  go_wp2_with fail
  go_loopg [3, 4] rest.length (fun k n f wr => ∃ (m : Nat) (first : Bool) (r : List UInt8), n = .int .u32 m ∧ f = .bool first ∧ m ≤ 2097151 ∧ Hid (r.length = k ∧ St wr dk r cnt ∧ w.grownBy wr (some dk) ∧ Tg.numberD first m r = Tg.numberD true 0 rest))
  case atStart => exact ⟨0, true, rest, rfl, rfl, by omega, rfl, HST.out, grown_refl _ _, rfl⟩
  case round =>
    obtain ⟨n, first, r, rfl, rfl, hn, HR⟩ := hrel
    clear HST
    go_wp2_with fail
    refine (next_any dk r cnt _ HR.out.2.1).mono ?_
    intro e w1 hp
    cases r with
    | nil =>
      obtain ⟨rfl, rfl⟩ := hp
      have HF := Lib.hid (show Tg.numberD true 0 rest = .error 4 by rw [← HR.out.2.2.2, Tg.numberD])
      unfold raised
      go_wp2_with fail
      refine ⟨rfl, ?_⟩
      rw [HF.out]
      exact ⟨HR.out.2.2.1, rfl⟩
    | cons x r =>
      obtain ⟨rfl, hst, hg⟩ := hp
      have HST := Lib.hid hst
      have HG := Lib.hid (St.grown_trans HR.out.2.2.1 hg)
      have HN := Lib.hid HR.out.2.2.2
      have HK := Lib.hid HR.out.1
      clear hst hg HR
      have hx := x.toNat_lt
      obtain ⟨m, hm⟩ : ∃ m, m = n * 128 + x.toNat % 128 := ⟨_, rfl⟩
      obtain ⟨a, ha⟩ : ∃ a, a = x.toNat % 128 := ⟨_, rfl⟩
      have ha2 : a < 128 := by omega
      have hand : bits .and .u8 (x.toNat : Int) 127 = (a : Int) := by
        rw [show (127 : Int) = ((127 : Nat) : Int) from rfl, and_u8 7 127 rfl (x.toNat : Int) (by omega) (by omega) (by omega), ha]
        simp
      have hor : bits .or .u32 ((n : Int) * 128) (a : Int) = (m : Int) := by
        rw [or_u32 7 128 rfl _ _ (by omega) (by omega) (by omega) (by omega) (by omega) (by omega), hm, ha]
        simp
      clear ha
      have HM := Lib.hid hm
      clear hm
      have hdef : Tg.numberD first n (x :: r) = if first = true ∧ x.toNat = 128 then .error 4 else if 2097151 < m then .error 3 else if x.toNat < 128 then (if 31 ≤ m then .ok (m, r) else .error 4) else Tg.numberD false m r := by
        rw [Tg.numberD, HM.out]
      have HD := Lib.hid hdef
      clear hdef
      by_cases h1 : first = true ∧ x.toNat = 128
      · obtain ⟨rfl, hx8⟩ := h1
        have hb : ((x.toNat : Int) != 128) = false := by rw [hx8]; rfl
        have HF := Lib.hid (show Tg.numberD true 0 rest = .error 4 by rw [← HN.out, HD.out, if_pos ⟨rfl, hx8⟩])
        clear hx8
        go_wp2_with fail
        refine (must_any _ _ _).mono ?_
        rintro e w2 ⟨rfl, rfl⟩
        unfold raised
        go_wp2_with fail
        refine ⟨rfl, ?_⟩
        rw [HF.out]
        exact ⟨HG.out, rfl⟩
      · have HD1 := Lib.hid (show Tg.numberD true 0 rest = if 2097151 < m then .error 3 else if x.toNat < 128 then (if 31 ≤ m then .ok (m, r) else .error 4) else Tg.numberD false m r by rw [← HN.out, HD.out, if_neg h1])
        have hway : first = false ∨ first = true ∧ ((x.toNat : Int) != 128) = true := by
          cases first
          · exact .inl rfl
          · refine .inr ⟨rfl, ?_⟩
            have : x.toNat ≠ 128 := fun h => h1 ⟨rfl, h⟩
            simp
            omega
        clear h1 HD HN
        rcases hway with rfl | ⟨rfl, hb⟩
        all_goals
          go_wp2_with fail
          refine (must_any _ _ _).mono ?_
          rintro e w2 ⟨rfl, rfl⟩
          go_wp2_with fail
          by_cases h2 : 2097151 < m
          · have HF := Lib.hid (show Tg.numberD true 0 rest = .error 3 by rw [HD1.out, if_pos h2])
            have hd : decide ((m : Int) ≤ 2097151) = false := by simp; omega
            rw [hd]
            refine (must_any _ _ _).mono ?_
            rintro e w2 ⟨rfl, rfl⟩
            unfold raised
            go_wp2_with fail
            refine ⟨rfl, ?_⟩
            rw [HF.out]
            exact ⟨HG.out, rfl⟩
          · have hd : decide ((m : Int) ≤ 2097151) = true := by simp; omega
            rw [hd]
            refine (must_any _ _ _).mono ?_
            rintro e w2 ⟨rfl, rfl⟩
            have HD2 := Lib.hid (show Tg.numberD true 0 rest = if x.toNat < 128 then (if 31 ≤ m then .ok (m, r) else .error 4) else Tg.numberD false m r by rw [HD1.out, if_neg h2])
            by_cases h3 : x.toNat < 128
            · go_wp2_with fail
              by_cases h4 : 31 ≤ m
              · have hd4 : decide ((31 : Int) ≤ m) = true := by simp; omega
                have HF := Lib.hid (show Tg.numberD true 0 rest = .ok (m, r) by rw [HD2.out, if_pos h3, if_pos h4])
                rw [hd4]
                refine (must_any _ _ _).mono ?_
                rintro e w2 ⟨rfl, rfl⟩
                go_wp2_with fail
                go_ret
                rw [HF.out]
                exact ⟨HG.out, rfl, HST.out, by omega⟩
              · have hd4 : decide ((31 : Int) ≤ m) = false := by simp; omega
                have HF := Lib.hid (show Tg.numberD true 0 rest = .error 4 by rw [HD2.out, if_pos h3, if_neg h4])
                rw [hd4]
                refine (must_any _ _ _).mono ?_
                rintro e w2 ⟨rfl, rfl⟩
                unfold raised
                go_wp2_with fail
                refine ⟨rfl, ?_⟩
                rw [HF.out]
                exact ⟨HG.out, rfl⟩
            · have HF := Lib.hid (show Tg.numberD false m r = Tg.numberD true 0 rest by rw [HD2.out, if_neg h3])
              go_wp2_with fail
              go_roundg r.length
              case measure => have := HK.out; simp at this; omega
              case rel => exact ⟨m, false, r, rfl, rfl, by omega, rfl, HST.out, HG.out, HF.out⟩
end Go.Proofs.YthonjbaeadbhdaaDoor
