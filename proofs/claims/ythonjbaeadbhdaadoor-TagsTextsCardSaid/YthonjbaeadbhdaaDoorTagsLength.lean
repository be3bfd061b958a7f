/- Contracts of the decoder's length and ahead. -/
import Derived.Test.YthonjbaeadbhdaaDoorTagsNumber
namespace Go.Proofs.YthonjbaeadbhdaaDoor
open Go.RowKit

def LenPost (w : World) (dk cnt : Nat) (r : Except Nat (Option Nat × List UInt8)) (e : Ending) (w' : World) : Prop :=
  w.grownBy w' (some dk) ∧ match r with
  | .error k => e = raised k
  | .ok (some n, rest) => e = .returned (.tuple #[.int .i64 n, .bool true]) ∧ St w' dk rest cnt ∧ n ≤ 65537
  | .ok (none, rest) => e = .returned (.tuple #[.int .i64 0, .bool false]) ∧ St w' dk rest cnt

theorem St.lt {w : World} {dk : Nat} {rest : List UInt8} {cnt : Nat} (h : St w dk rest cnt) : dk < w.heap.size := by
  obtain ⟨ra, rc, hh, _⟩ := h
  exact lt_of_block hh
theorem St.alloc {w : World} {dk : Nat} {rest : List UInt8} {cnt : Nat} (h : St w dk rest cnt) (o : Obj) : St (w.alloc o) dk rest cnt := by
  obtain ⟨ra, rc, hh, h1, h2, h3⟩ := h
  exact ⟨ra, rc, heap_alloc hh o, h1, h2, h3.keep (Keeps.of_below (below_new o) _)⟩
theorem St.below {w w' : World} {dk : Nat} {rest : List UInt8} {cnt : Nat} (h : St w dk rest cnt) (hb : Below w.heap.size w w') : St w' dk rest cnt := by
  obtain ⟨ra, rc, hh, h1, h2, h3⟩ := h
  exact ⟨ra, rc, (hb.block _ (lt_of_block hh)).trans hh, h1, h2, h3.keep (Keeps.of_below hb _)⟩
theorem lenOf_take {l : List UInt8} {j : Nat} (hj : j < l.length) : Tg.lenOf (l.take (j + 1)) = min (Tg.lenOf (l.take j) * 256 + l[j].toNat) 65537 := by
  unfold Tg.lenOf
  rw [List.take_succ_eq_append_getElem hj, List.foldl_append]
  rfl
theorem lenOf_fold : ∀ (l : List UInt8) (n : Nat), n ≤ 65537 → l.foldl (fun n y => min (n * 256 + y.toNat) 65537) n ≤ 65537
  | [], n, h => h
  | x :: l, n, h => by
    rw [List.foldl_cons]
    exact lenOf_fold l _ (by omega)
theorem lenOf_le (l : List UInt8) : Tg.lenOf l ≤ 65537 := lenOf_fold l 0 (by omega)
/-- A byte of a slice that is read. -/
theorem byte_cell {ok : Nat → Prop} {w : World} {a : Option Addr} {l : List UInt8} (h : SliceAt ok w a (bvs l)) {j : Nat} (hj : j < l.length) : ∃ g o, a = some ⟨g, o, none⟩ ∧ ok g ∧ w.cell? ⟨g, o + j, none⟩ = some (.int .u8 (l[j].toNat : Int)) := by
  rcases h with h | ⟨g, o, rfl, hg, hc⟩
  · have : l = [] := by simpa [bvs] using h
    subst this
    simp at hj
  · exact ⟨g, o, rfl, hg, hc j _ (bvs_get hj)⟩
theorem i64_or8 (x y : Int) (h0 : 0 ≤ x) (hx : x % 256 = 0) (h1 : x < 9223372036854775808) (h2 : 0 ≤ y) (h3 : y < 256) : bits .or .i64 x y = x + y :=
  bits_join .i64 63 (by decide) (fun n k0 k1 => by rw [IntKind.wrap_i64]; omega) 8 x y h0 hx h1 h2 h3 (by omega)

set_option maxRecDepth 100000 in
set_option maxHeartbeats 1000000 in
theorem length_any (dk : Nat) (rest : List UInt8) (cnt : Nat) (w : World) (h : St w dk rest cnt) (c t : Int) (b : Bool) (va : Option Addr) (vn vc : Nat) (pa : Option Addr) (pn pc : Nat) :
    Calls Tryd.prog 62 #[.pointer (some ⟨dk, 0, none⟩), .agg #[.int .u8 c, .int .u32 t, .bool b, .slice va vn vc, .slice pa pn pc]] w (LenPost w dk cnt (Tg.lengthD b rest)) := by
  have HST := Lib.hid (h.alloc (.cells #[.int .u8 c, .int .u32 t, .bool b, .slice va vn vc, .slice pa pn pc] 36))
  have hlt := h.lt
  have HBOX : Hid (∀ wr, (w.alloc (.cells #[.int .u8 c, .int .u32 t, .bool b, .slice va vn vc, .slice pa pn pc] 36)).grownBy wr (some dk) → wr.cell? ⟨w.heap.size, 2, none⟩ = some (.bool b)) :=
    fun wr hg => cell_of (heap_grown hg (alloc_new w _) (by intro e; injection e with e; omega)) 2
  clear h
  go_enter Tryd.func62, Tryd.ntmps62
  go_wp2_with fail
  refine (next_any dk rest cnt _ HST.out).mono ?_
  intro e w1 hp
  cases rest with
  | nil =>
    obtain ⟨rfl, rfl⟩ := hp
    unfold raised
    go_wp2_with fail
    exact ⟨rfl, grown_alloc _ _ _, rfl⟩
  | cons x r =>
    obtain ⟨rfl, hst, hg⟩ := hp
    have hbc := HBOX.out _ hg
    have HST1 := Lib.hid hst
    have HG := Lib.hid (grown_trans (grown_alloc w _ (some dk)) hg)
    have hx := x.toNat_lt
    have HD : Hid (Tg.lengthD b (x :: r) = if x.toNat < 128 then .ok (some x.toNat, r) else if x.toNat = 128 then (if b = true then .ok (none, r) else .error 4) else if x.toNat = 255 then .error 4 else if r.length < x.toNat - 128 then .error 4 else .ok (some (Tg.lenOf (r.take (x.toNat - 128))), r.drop (x.toNat - 128))) := rfl
    clear hst hg HST HBOX
    by_cases h1 : x.toNat < 128
    · go_wp2_with fail
      go_ret2
      rw [HD.out, if_pos h1]
      exact ⟨HG.out, rfl, HST1.out, by omega⟩
    by_cases h2 : x.toNat = 128
    · have hb2 : ((x.toNat : Int) == 128) = true := by rw [h2]; rfl
      have HD2 := Lib.hid (show Tg.lengthD b (x :: r) = if b = true then .ok (none, r) else .error 4 by rw [HD.out, if_neg h1, if_pos h2])
      clear h2 HD
      go_wp2_with fail
      refine (must_any _ _ _).mono ?_
      rintro e w2 ⟨rfl, rfl⟩
      cases b
      · unfold raised
        go_wp2_with fail
        refine ⟨rfl, ?_⟩
        rw [HD2.out]
        exact ⟨HG.out, rfl⟩
      · go_wp2_with fail
        go_ret2
        rw [HD2.out]
        exact ⟨HG.out, rfl, HST1.out⟩
    have hb2 : ((x.toNat : Int) == 128) = false := by simp; omega
    by_cases h3 : x.toNat = 255
    · have hb3 : ((x.toNat : Int) != 255) = false := by rw [h3]; rfl
      have HD2 := Lib.hid (show Tg.lengthD b (x :: r) = .error 4 by rw [HD.out, if_neg h1, if_neg h2, if_pos h3])
      clear h2 h3 HD
      go_wp2_with fail
      refine (must_any _ _ _).mono ?_
      rintro e w2 ⟨rfl, rfl⟩
      unfold raised
      go_wp2_with fail
      refine ⟨rfl, ?_⟩
      rw [HD2.out]
      exact ⟨HG.out, rfl⟩
    have hb3 : ((x.toNat : Int) != 255) = true := by simp; omega
    have HD2 := Lib.hid (show Tg.lengthD b (x :: r) = if r.length < x.toNat - 128 then .error 4 else .ok (some (Tg.lenOf (r.take (x.toNat - 128))), r.drop (x.toNat - 128)) by rw [HD.out, if_neg h1, if_neg h2, if_neg h3])
    clear h3 HD
    go_wp2_with fail
    refine (must_any _ _ _).mono ?_
    rintro e w2 ⟨rfl, rfl⟩
    go_wp2_with fail
    refine (take_any dk r cnt (x.toNat - 128) _ (by omega) _ HST1.out (by unfold lim; omega)).mono ?_
    intro e w2 hp
    unfold TakePost at hp
    by_cases h4 : r.length < x.toNat - 128
    · rw [if_pos h4] at hp
      obtain ⟨rfl, rfl⟩ := hp
      unfold raised
      go_wp2_with fail
      refine ⟨rfl, ?_⟩
      rw [HD2.out, if_pos h4]
      exact ⟨HG.out, rfl⟩
    · rw [if_neg h4] at hp
      obtain ⟨a, cc, rfl, hcc, hs, hst, hg⟩ := hp
      have HS := Lib.hid hs
      have HST2 := Lib.hid hst
      have HG2 := Lib.hid (grown_trans HG.out hg)
      obtain ⟨l, hl⟩ : ∃ l, l = r.take (x.toNat - 128) := ⟨_, rfl⟩
      have hll : l.length = x.toNat - 128 := by rw [hl, List.length_take]; omega
      have HD3 := Lib.hid (show Tg.lengthD b (x :: r) = .ok (some (Tg.lenOf l), r.drop (x.toNat - 128)) by rw [HD2.out, if_neg h4, hl])
      have HL := Lib.hid hll
      rw [← hl] at hs
      have HS := Lib.hid hs
      obtain ⟨L, hL⟩ : ∃ L, L = l.length := ⟨_, rfl⟩
      have hL2 : L ≤ 128 := by omega
      have HLe := Lib.hid hL
      rw [← hll, ← hL]
      clear hs hst hg hl hll hL HD2 h4
      go_wp2_with fail
      go_loop [7, 36] (fun n i => ∃ (j m : Nat), j ≤ L ∧ i = .int .i64 j ∧ n = .int .i64 m ∧ m ≤ 65537 ∧ Hid (m = Tg.lenOf (l.take j))) (fun _ i => L - (intOf i).toNat)
      case atStart => exact ⟨0, 0, by omega, rfl, rfl, by omega, by show _ = _; simp [Tg.lenOf]⟩
      case round =>
        obtain ⟨j, m, hj, rfl, rfl, hm, hme⟩ := hrel
        by_cases hlt : j < L
        · obtain ⟨g, o, rfl, -, hcell⟩ := byte_cell HS.out (j := j) (by rw [← HLe.out]; exact hlt)
          obtain ⟨y, hy⟩ : ∃ y : Nat, y = (l[j]'(by rw [← HLe.out]; exact hlt)).toNat := ⟨_, rfl⟩
          have hy2 : y < 256 := by rw [hy]; exact UInt8.toNat_lt _
          rw [← hy] at hcell
          obtain ⟨q, hq⟩ : ∃ q : Nat, q = m * 256 + y := ⟨_, rfl⟩
          have hor : bits .or .i64 ((m : Int) * 256) (y : Int) = (q : Int) := by
            rw [i64_or8 _ _ (by omega) (by omega) (by omega) (by omega) (by omega), hq]
            simp
          have HN := Lib.hid (show min q 65537 = Tg.lenOf (l.take (j + 1)) by rw [lenOf_take (by rw [← HLe.out]; exact hlt), ← hme.out, hq, hy])
          clear hq hy
          go_wp2_with fail
          go_round
          case rel => exact ⟨j + 1, min q 65537, by omega, by go_num, by (congr 1; split <;> omega), by omega, HN⟩
          case measure => simp [intOf]; omega
        · have HJ := Lib.hid (show m = Tg.lenOf l by rw [hme.out, List.take_of_length_le (by rw [← HLe.out]; omega)])
          go_wp2_with fail
          go_ret2
          rw [HD3.out, ← HJ.out]
          exact ⟨HG2.out, rfl, HST2.out, hm⟩

/-- 'ahead'. -/
def AheadPost (w : World) (dk cnt : Nat) (r : Except Nat (Bool × List UInt8)) (e : Ending) (w' : World) : Prop :=
  w.grownBy w' (some dk) ∧ match r with
  | .error k => e = raised k
  | .ok (b, rest) => e = .returned (.bool b) ∧ St w' dk rest cnt

theorem ahead_nz {x : UInt8} {r : List UInt8} (h : x.toNat ≠ 0) : Tg.aheadD (x :: r) = .ok (true, x :: r) := by simp [Tg.aheadD, h]
theorem ahead_one {x : UInt8} (h : x.toNat = 0) : Tg.aheadD [x] = .error 4 := by simp [Tg.aheadD, h]
theorem ahead_zz {x y : UInt8} {r : List UInt8} (h : x.toNat = 0) (h2 : y.toNat = 0) : Tg.aheadD (x :: y :: r) = .ok (false, r) := by simp [Tg.aheadD, h, h2]
theorem ahead_zn {x y : UInt8} {r : List UInt8} (h : x.toNat = 0) (h2 : y.toNat ≠ 0) : Tg.aheadD (x :: y :: r) = .error 4 := by simp [Tg.aheadD, h, h2]
set_option maxRecDepth 100000 in
set_option maxHeartbeats 1000000 in
theorem ahead_any (dk : Nat) (rest : List UInt8) (cnt : Nat) (w : World) (h : St w dk rest cnt) : Calls Tryd.prog 63 #[.pointer (some ⟨dk, 0, none⟩)] w (AheadPost w dk cnt (Tg.aheadD rest)) := by
  have HST := Lib.hid h
  obtain ⟨ra, rc, hh, h1, h2, h3⟩ := h
  obtain ⟨c0, c1⟩ := St.two hh
  have HTAKE := Lib.hid (take_any dk rest cnt 2 2 rfl w HST.out (by unfold lim; omega))
  unfold lim at h2
  have H3 := Lib.hid h3
  clear hh h3
  cases rest with
  | nil =>
    simp only [List.length_nil] at c0 h1 h2
    go_enter Tryd.func63, Tryd.ntmps63
    go_wp2_with fail
    refine (must_any _ _ _).mono ?_
    rintro e w2 ⟨rfl, rfl⟩
    unfold raised
    go_wp2_with fail
    exact ⟨rfl, grown_refl _ _, rfl⟩
  | cons x r =>
    obtain ⟨g, o, rfl, -, hcell⟩ := byte_cell H3.out (j := 0) (by simp)
    simp only [List.getElem_cons_zero, Nat.add_zero, List.length_cons] at hcell c0 h1 h2
    have hx := x.toNat_lt
    by_cases h0 : x.toNat = 0
    · have hb : ((x.toNat : Int) != 0) = false := by rw [h0]; rfl
      have H0 := Lib.hid h0
      clear h0
      go_enter Tryd.func63, Tryd.ntmps63
      go_wp2_with fail
      refine (must_any _ _ _).mono ?_
      rintro e w2 ⟨rfl, rfl⟩
      go_wp2_with fail
      refine HTAKE.out.mono ?_
      intro e w2 hp
      unfold TakePost at hp
      cases r with
      | nil =>
        rw [if_pos (by simp)] at hp
        obtain ⟨rfl, rfl⟩ := hp
        unfold raised
        go_wp2_with fail
        refine ⟨rfl, ?_⟩
        rw [ahead_one H0.out]
        exact ⟨grown_refl _ _, rfl⟩
      | cons y r =>
        rw [if_neg (by simp)] at hp
        obtain ⟨a, cc, rfl, hcc, hs, hst, hg⟩ := hp
        obtain ⟨g2, o2, rfl, -, hcell2⟩ := byte_cell hs (j := 1) (by simp)
        simp only [List.take_succ_cons, List.getElem_cons_succ, List.getElem_cons_zero] at hcell2
        have HST2 := Lib.hid hst
        have HG2 := Lib.hid hg
        have hy := y.toNat_lt
        clear hs hst hg
        by_cases h5 : y.toNat = 0
        · have hb5 : ((y.toNat : Int) == 0) = true := by rw [h5]; rfl
          have H5 := Lib.hid h5
          clear h5
          go_wp2_with fail
          refine (must_any _ _ _).mono ?_
          rintro e w3 ⟨rfl, rfl⟩
          go_wp2_with fail
          go_ret
          rw [ahead_zz H0.out H5.out]
          exact ⟨HG2.out, rfl, HST2.out⟩
        · have hb5 : ((y.toNat : Int) == 0) = false := by simp; omega
          have H5 := Lib.hid h5
          clear h5
          go_wp2_with fail
          refine (must_any _ _ _).mono ?_
          rintro e w3 ⟨rfl, rfl⟩
          unfold raised
          go_wp2_with fail
          refine ⟨rfl, ?_⟩
          rw [ahead_zn H0.out H5.out]
          exact ⟨HG2.out, rfl⟩
    · have hb : ((x.toNat : Int) != 0) = true := by simp; omega
      have H0 := Lib.hid h0
      clear h0
      go_enter Tryd.func63, Tryd.ntmps63
      go_wp2_with fail
      refine (must_any _ _ _).mono ?_
      rintro e w2 ⟨rfl, rfl⟩
      go_wp2_with fail
      go_ret
      rw [ahead_nz H0.out]
      exact ⟨grown_refl _ _, rfl, HST.out⟩
end Go.Proofs.YthonjbaeadbhdaaDoor
