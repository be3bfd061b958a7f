/- Contract of tags.identifier. -/
import Derived.Test.YthonjbaeadbhdaaDoorTagsSize
import Derived.Test.YthonjbaeadbhdaaDoorTagsCheck
namespace Go.Proofs.YthonjbaeadbhdaaDoor
open Go.RowKit

theorem or_u8 (i p : Nat) (hp : p = 2 ^ i) (x y : Int) (h1 : 0 ≤ x) (h2 : x < 256) (h3 : 0 ≤ y) (hx : x % (p : Int) = 0) (hy : y < (p : Int)) (h4 : y < 256) : bits .or .u8 x y = x + y := by
  have hx' : x.toNat % p = 0 := by rw [← Int.toNat_of_nonneg h1] at hx; exact_mod_cast hx
  rw [u8_or x y h1 h2 h3 h4, nat_join i x.toNat y.toNat (by rw [← hp]; exact hx') (by rw [← hp]; clear hp; omega)]
  clear hp
  omega
theorem or_u32 (i p : Nat) (hp : p = 2 ^ i) (x y : Int) (h1 : 0 ≤ x) (h2 : x < 4294967296) (h3 : 0 ≤ y) (hx : x % (p : Int) = 0) (hy : y < (p : Int)) (h4 : y < 4294967296) : bits .or .u32 x y = x + y := by
  have hx' : x.toNat % p = 0 := by rw [← Int.toNat_of_nonneg h1] at hx; exact_mod_cast hx
  rw [u32_or x y h1 h2 h3 h4, nat_join i x.toNat y.toNat (by rw [← hp]; exact hx') (by rw [← hp]; clear hp; omega)]
  clear hp
  omega
theorem and_u8 (i p : Nat) (hp : p + 1 = 2 ^ i) (x : Int) (h1 : 0 ≤ x) (h2 : x < 256) (hi : p < 256) : bits .and .u8 x (p : Int) = x % ((p : Int) + 1) := by
  have hp' : p = 2 ^ i - 1 := by omega
  rw [u8_and x _ h1 h2 (by omega) (by omega), Int.toNat_natCast, hp', Nat.and_two_pow_sub_one_eq_mod, ← hp]
  clear hp hp'
  rw [Int.natCast_emod, Int.toNat_of_nonneg h1]
  rfl
theorem and_u32 (i p : Nat) (hp : p + 1 = 2 ^ i) (x : Int) (h1 : 0 ≤ x) (h2 : x < 4294967296) (hi : p < 4294967296) : bits .and .u32 x (p : Int) = x % ((p : Int) + 1) := by
  have hp' : p = 2 ^ i - 1 := by omega
  rw [u32_and x _ h1 h2 (by omega) (by omega), Int.toNat_natCast, hp', Nat.and_two_pow_sub_one_eq_mod, ← hp]
  clear hp hp'
  rw [Int.natCast_emod, Int.toNat_of_nonneg h1]
  rfl
theorem run_shr_u32 (P : Program) (w : World) (tg c : Nat) (C : Int) (hC : C = c) (ht : tg < 4294967296) : (Op.shift .shr .u32 tg .i64 C).run P w = .ok (.int .u32 ((tg / 2 ^ c : Nat) : Int)) w := by
  subst hC
  rw [shift_shr_any _ _ _ _ (by omega)]
  simp only [Int.toNat_natCast, Sem.run_pure]
  congr 2
  rw [show IntKind.u32.bits = 32 from rfl]
  rcases Nat.le_total c 32 with h | h
  · rw [Nat.min_eq_left h]
    simp
  · rw [Nat.min_eq_right h]
    have h1 : tg / 2 ^ c = 0 := Nat.div_eq_of_lt (Nat.lt_of_lt_of_le ht (by rw [show 4294967296 = 2 ^ 32 from rfl]; exact Nat.pow_le_pow_right (by omega) h))
    rw [h1]
    omega
theorem pow7 (j : Nat) : 2 ^ (7 * j) = 128 ^ j := by rw [Nat.pow_mul]
theorem or128 (q : Nat) : q % 256 ||| 128 = 128 + q % 128 := by
  have h : ∀ n : Fin 256, n.val ||| 128 = 128 + n.val % 128 := by decide +kernel
  have := h ⟨q % 256, by omega⟩
  simp only at this
  omega
theorem div128 (t i : Nat) : t / 128 / 128 ^ i = t / 128 ^ (i + 1) := by rw [Nat.div_div_eq_div_mul, Nat.mul_comm, ← Nat.pow_succ]
/-- The groups ahead of the last one, i of them. -/
def grp : Nat → Nat → List UInt8
  | 0, _ => []
  | i + 1, t => UInt8.ofNat (128 + t / 128 ^ i % 128) :: grp i t
theorem grp_snoc : ∀ (i t : Nat), grp (i + 1) t = grp i (t / 128) ++ [UInt8.ofNat (128 + t % 128)]
  | 0, t => by simp [grp]
  | i + 1, t => by
    rw [grp, grp_snoc i t, grp, Nat.div_div_eq_div_mul, Nat.pow_succ, Nat.mul_comm 128]
    rfl
theorem hi_grp : ∀ (i k t : Nat), i ≤ k → t / 128 ^ i = 0 → (i = 0 ∨ t / 128 ^ (i - 1) ≠ 0) → Tg.hi k t = grp i t
  | 0, k, t, _, h, _ => by
    have : t = 0 := by simpa using h
    subst this
    cases k <;> simp [Tg.hi, grp]
  | i + 1, 0, t, hk, _, _ => by omega
  | i + 1, k + 1, t, hk, h, h1 => by
    have ht : t ≠ 0 := by
      intro h0
      subst h0
      rcases h1 with h1 | h1
      · omega
      · simp at h1
    rw [Tg.hi, if_neg ht, grp_snoc, hi_grp i k (t / 128) (by omega)]
    · rw [Nat.div_div_eq_div_mul, Nat.mul_comm, ← Nat.pow_succ]
      exact h
    · rcases Nat.eq_zero_or_pos i with h0 | h0
      · exact .inl h0
      · right
        rw [Nat.div_div_eq_div_mul, Nat.mul_comm, ← Nat.pow_succ]
        rcases h1 with h1 | h1
        · omega
        · simpa [show i - 1 + 1 = i by omega] using h1

set_option maxRecDepth 100000 in
theorem identifier_any (t : Tg.Tree) (x : Value) (row : Option Nat) (v : Value) (l : List UInt8) (w : World) (ht : TreeR AnyB w t x) (hb : Buf w row v l) (hl : l.length + 9 ≤ lim) :
    Calls Tryd.prog 58 #[v, x] w (AppPost w row (l ++ Tg.ident t.cls t.tag t.built)) := by
  unfold lim at hl
  obtain ⟨c, tg, b', vv, ps⟩ := t
  obtain ⟨h1, h2, -, -, va, vc, pa, pc, rfl, -⟩ := ht.open
  obtain ⟨a, cc, rfl, hc⟩ := hb.shape
  have HB := Lib.hid hb
  have HBOX : Hid (∀ wr, (w.alloc (.cells #[.int .u8 c, .int .u32 tg, .bool b', .slice va vv.length vc, .slice pa ps.length pc] 36)).grownBy wr row → wr.cell? ⟨w.heap.size, 1, none⟩ = some (.int .u32 tg)) :=
    fun wr h => cell_of (box_kept hb.row_lt h) 1
  clear hb ht
  simp only [Tg.Tree.cls, Tg.Tree.tag, Tg.Tree.built]
  by_cases ht : tg < 31
  · have HS := Lib.hid (show Tg.ident c tg b' = [UInt8.ofNat (Tg.first c b' + tg)] by simp [Tg.ident, ht])
    obtain ⟨B, hB⟩ : ∃ B : UInt8, B = UInt8.ofNat (Tg.first c b' + tg) := ⟨_, rfl⟩
    have HBq := Lib.hid hB
    clear hB
    go_enter Tryd.func58, Tryd.ntmps58
    cases b'
    all_goals
      go_wp2_with (at_builtin; refine Stop.mk ?_)
      refine Stop.of (wp_append rfl _ _ rfl rfl rfl ((HB.out.alloc _).alloc _) (src_one (w.alloc _) _ B ?_ (by simp)) rfl (by simp; omega) ?_)
      · rw [HBq.out]
        first
          | (rw [or_u8 5 32 rfl _ _ (by omega) (by omega) (by omega) (by omega) (by omega) (by omega)]; simp [Tg.first]; omega)
          | (rw [or_u8 6 64 rfl (_ % 256) 32 (by omega) (by omega) (by omega) (by omega) (by omega) (by omega), or_u8 5 32 rfl _ _ (by omega) (by omega) (by omega) (by omega) (by omega) (by omega)]; simp [Tg.first]; omega)
      intro v' w' row' hb' hg' hr'
      have H1 := Lib.hid hb'
      have H2 := Lib.hid hg'
      have H3 := Lib.hid hr'
      clear hb' hg' hr'
      go_wp2_with fail
      go_ret
      rw [HS.out, ← HBq.out]
      exact ⟨_, row', rfl, H1.out, grown_trans (grown_trans (grown_alloc _ _ _) (grown_alloc _ _ _)) H2.out, RowStep.trans (RowStep.refl _ _) (by simp; omega) H3.out⟩
  · have HS := Lib.hid (show Tg.ident c tg b' = UInt8.ofNat (Tg.first c b' + 31) :: Tg.groups tg by simp [Tg.ident, ht])
    obtain ⟨B, hB⟩ : ∃ B : UInt8, B = UInt8.ofNat (Tg.first c b' + 31) := ⟨_, rfl⟩
    have HBq := Lib.hid hB
    clear hB
    go_enter Tryd.func58, Tryd.ntmps58
    cases b'
    all_goals
      go_wp2_with (at_builtin; refine Stop.mk ?_)
      refine Stop.of (wp_append rfl _ _ rfl rfl rfl ((HB.out.alloc _).alloc _) (src_one (w.alloc _) _ B ?_ (by simp)) rfl (by simp; omega) ?_)
      · rw [HBq.out]
        first
          | (rw [or_u8 5 32 rfl _ _ (by omega) (by omega) (by omega) (by omega) (by omega) (by omega)]; simp [Tg.first]; omega)
          | (rw [or_u8 6 64 rfl (_ % 256) 32 (by omega) (by omega) (by omega) (by omega) (by omega) (by omega), or_u8 5 32 rfl _ _ (by omega) (by omega) (by omega) (by omega) (by omega) (by omega)]; simp [Tg.first]; omega)
      intro v' w' row' hb' hg' hr'
      have H1 := Lib.hid hb'
      obtain ⟨hg2, hr2⟩ := after_append (grown_alloc (w.alloc _) _ _) hg' hr'
      have H2 := Lib.hid hg2
      have H3 := Lib.hid hr2
      have hcell := HBOX.out _ H2.out
      clear hb' hg' hr' hg2 hr2
      go_wp2_with fail
      go_loop [6] (fun k => ∃ j : Nat, j ≤ 4 ∧ k = .int .i64 ((7 * j : Nat) : Int) ∧ Hid (j = 0 ∨ tg / 128 ^ j ≠ 0)) (fun k => 28 - (intOf k).toNat)
      case atStart => exact ⟨0, by omega, rfl, .inl rfl⟩
      case round =>
        obtain ⟨j, hj, rfl, hr⟩ := hrel
        obtain ⟨q, hq⟩ : ∃ q, q = tg / 128 ^ (j + 1) := ⟨_, rfl⟩
        have hsh := fun w => run_shr_u32 Tryd.prog w tg (7 * (j + 1)) (7 * (j : Int) + 7) (by omega) h2
        rw [pow7, ← hq] at hsh
        have HQ := Lib.hid hq
        clear hq
        rcases Nat.eq_zero_or_pos q with hz | hz
        · have HZ := Lib.hid (show Tg.groups tg = grp j (tg / 128) ++ [UInt8.ofNat (tg % 128)] by
            have h0 := HQ.out
            rw [hz] at h0
            rw [Tg.groups, hi_grp j 5 (tg / 128) (by omega) (by rw [div128]; exact h0.symm)]
            rcases hr.out with h | h
            · exact .inl h
            · rcases Nat.eq_zero_or_pos j with h' | h'
              · exact .inl h'
              · right
                rw [div128, show j - 1 + 1 = j by omega]
                exact h)
          clear HQ hr
          subst hz
          go_wp2_with fail
          go_loopw [0, 6] (fun v k wr => ∃ (i : Nat) (pre : List UInt8) (r : Option Nat), i ≤ j ∧ k = .int .i64 ((7 * i : Nat) : Int) ∧ Hid (Buf wr r v (l ++ (B :: pre))) ∧ Hid ((w.alloc (.cells #[.int .u8 c, .int .u32 tg, .bool _, .slice va vv.length vc, .slice pa ps.length pc] 36)).grownBy wr row) ∧
              Hid (RowStep (w.alloc (.cells #[.int .u8 c, .int .u32 tg, .bool _, .slice va vv.length vc, .slice pa ps.length pc] 36)) row r) ∧ Hid (pre.length + i = j ∧ pre ++ grp i (tg / 128) = grp j (tg / 128))) (fun _ k _ => (intOf k).toNat)
          case atStart => exact ⟨j, [], row', Nat.le_refl _, by go_num, H1, H2, H3, by simp, rfl⟩
          case round =>
            obtain ⟨i, pre, r, hi, rfl, K1, K2, K3, K4⟩ := hrel
            have hlen : pre.length ≤ 5 := by have := K4.out.1; omega
            have hcell2 := HBOX.out _ K2.out
            clear H1 H2 H3 HB hcell hsh
            obtain ⟨a2, c2, rfl, -⟩ := K1.out.shape
            rcases Nat.eq_zero_or_pos i with hi0 | hi0
            · have K5 := Lib.hid (show pre = grp j (tg / 128) by have := K4.out.2; rw [hi0] at this; simpa [grp] using this)
              subst hi0
              go_wp2_with (at_builtin; refine Stop.mk ?_)
              refine Stop.of (wp_append rfl _ _ rfl rfl rfl (K1.out.alloc _) (src_one wr _ (UInt8.ofNat (tg % 128)) ?_ rfl) rfl (by simp; omega) ?_)
              · rw [show (127 : Int) = ((127 : Nat) : Int) from rfl, and_u32 7 127 rfl (tg : Int) (by omega) (by omega) (by omega)]
                simp
              intro v2 w2 r2 hb2 hg2 hr2
              obtain ⟨hg3, hr3⟩ := next_append K2.out K3.out (grown_alloc _ _ _) hg2 hr2
              have L1 := Lib.hid hb2
              have L2 := Lib.hid hg3
              have L3 := Lib.hid hr3
              clear hb2 hg2 hr2 hg3 hr3
              go_wp2_with fail
              go_ret
              rw [HS.out, HZ.out, ← HBq.out, ← K5.out]
              refine ⟨_, r2, rfl, ?_, grown_trans (grown_alloc _ _ _) L2.out, RowStep.trans (RowStep.refl _ _) (by simp) L3.out⟩
              have := L1.out
              simpa using this
            · obtain ⟨i, rfl⟩ : ∃ m, i = m + 1 := ⟨i - 1, by omega⟩
              obtain ⟨q, hq⟩ : ∃ q, q = tg / 128 ^ (i + 1) := ⟨_, rfl⟩
              have hsh := fun w => run_shr_u32 Tryd.prog w tg (7 * (i + 1)) (7 * (i : Int) + 7) (by omega) h2
              rw [pow7, ← hq] at hsh
              have HQ := Lib.hid hq
              clear hq
              go_wp2_with (at_builtin; refine Stop.mk ?_)
              refine Stop.of (wp_append rfl _ _ rfl rfl rfl (K1.out.alloc _) (src_one wr _ (UInt8.ofNat (128 + q % 128)) ?_ rfl) rfl (by simp; omega) ?_)
              · have e : (tg : Int) / 2 ^ (7 * (i + 1)) = (q : Int) := by rw [HQ.out, ← pow7]; simp
                rw [e, show bits .or .u8 ((q : Int) % 256) 128 = ((q % 256 ||| 128 : Nat) : Int) from u8_or_nat (q % 256) 128 (by omega) (by omega), or128]
                simp
                omega
              intro v2 w2 r2 hb2 hg2 hr2
              obtain ⟨hg3, hr3⟩ := next_append K2.out K3.out (grown_alloc _ _ _) hg2 hr2
              have L1 := Lib.hid hb2
              have L2 := Lib.hid hg3
              have L3 := Lib.hid hr3
              clear hb2 hg2 hr2 hg3 hr3
              go_wp2_with fail
              go_roundw
              case rel =>
                refine ⟨i, pre ++ [UInt8.ofNat (128 + q % 128)], r2, by omega, by go_num, ?_, L2, L3, ?_⟩
                · show Buf _ _ _ _
                  have := L1.out
                  simpa using this
                · have h4 := K4.out
                  refine ⟨by simp; omega, ?_⟩
                  rw [← h4.2, grp, div128, ← HQ.out, List.append_assoc]
                  rfl
              case measure => (simp [intOf]) <;> omega
        · have HZ := Lib.hid (show tg / 128 ^ (j + 1) ≠ 0 by have := HQ.out; omega)
          have hj4 : j < 4 := by
            rcases Nat.lt_or_ge j 4 with h | h
            · exact h
            · have : j = 4 := by omega
              subst this
              exact absurd (Nat.div_eq_of_lt (by omega)) HZ.out
          have HJ4 := Lib.hid hj4
          clear HQ hj4
          go_wp2_with fail
          go_round
          case rel => exact ⟨j + 1, HJ4.out, by go_num, .inr HZ.out⟩
          case measure => have := HJ4.out; simp [intOf]; omega
end Go.Proofs.YthonjbaeadbhdaaDoor
