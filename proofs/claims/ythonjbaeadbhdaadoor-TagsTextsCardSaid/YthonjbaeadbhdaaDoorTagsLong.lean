/- Contract of tags.long. -/
import Derived.Test.YthonjbaeadbhdaaDoorTagsIdent
namespace Go.Proofs.YthonjbaeadbhdaaDoor
open Go.RowKit

theorem nb_le : ∀ (k n : Nat), Tg.nb k n ≤ k
  | 0, _ => by simp [Tg.nb]
  | k + 1, n => by
    simp only [Tg.nb]
    split
    · omega
    · have := nb_le k (n / 256)
      omega
theorem be_length : ∀ (k n : Nat), (Tg.be k n).length = k
  | 0, _ => rfl
  | k + 1, n => by simp [Tg.be, be_length k n]
theorem hi_le : ∀ (k t : Nat), (Tg.hi k t).length ≤ k
  | 0, _ => by simp [Tg.hi]
  | k + 1, t => by
    simp only [Tg.hi]
    split
    · simp
    · have := hi_le k (t / 128)
      simp
      omega
theorem ident_le (c t : Nat) (b : Bool) : (Tg.ident c t b).length ≤ 7 := by
  unfold Tg.ident Tg.groups
  split
  · simp
  · have := hi_le 5 (t / 128)
    simp
    omega
theorem size_le (n f : Nat) : (Tg.size n f).length ≤ 9 := by
  unfold Tg.size
  split
  · simp [be_length]
  · split
    · simp
    · have := nb_le 8 n
      simp [be_length]
      omega
theorem encL_append : ∀ (ps qs : List Tg.Tree) (f : Nat), Tg.encL (ps ++ qs) f = Tg.encL ps f ++ Tg.encL qs f
  | [], qs, f => by simp [Tg.encL]
  | p :: ps, qs, f => by simp [Tg.encL, encL_append ps qs f]
theorem encL_take {ps : List Tg.Tree} {j : Nat} (hj : j < ps.length) (f : Nat) : Tg.encL (ps.take (j + 1)) f = Tg.encL (ps.take j) f ++ Tg.enc ps[j] f := by
  rw [List.take_succ_eq_append_getElem hj, encL_append]
  simp [Tg.encL]
theorem encL_take_le (ps : List Tg.Tree) (j f : Nat) : (Tg.encL (ps.take j) f).length ≤ (Tg.encL ps f).length := by
  conv => rhs; rw [← List.take_append_drop j ps, encL_append]
  simp
theorem sub_zero (b : Bool) : Tg.sub b 0 = 0 := by cases b <;> rfl
theorem enc_zero (c t : Nat) (b : Bool) (v : List UInt8) (ps : List Tg.Tree) : Tg.enc (.mk c t b v ps) 0 = Tg.ident c t b ++ (Tg.size (v ++ Tg.encL ps 0).length 0 ++ (v ++ Tg.encL ps 0)) := by
  simp [Tg.enc, sub_zero, Tg.body]
mutual
/-- All its values, its parts' too, are of a length that is met. -/
theorem long_le (ok : Nat → Prop) (w : World) : ∀ (t : Tg.Tree) (x : Value), TreeR ok w t x → Tg.long t ≤ sz t * (lim + 16)
  | .mk c t b v ps, x, h => by
    obtain ⟨_, _, h3, _, _, _, _, _, _, _, _, _, xs, _, h9⟩ := h.open
    have h1 := longL_le ok w ps xs h9
    have h2 := ident_le c t b
    have h4 := size_le (v ++ Tg.encL ps 0).length 0
    simp only [Tg.long, enc_zero, List.length_append, sz, Nat.add_mul] at h4 ⊢
    omega
theorem longL_le (ok : Nat → Prop) (w : World) : ∀ (ps : List Tg.Tree) (xs : List Value), TreesR ok w ps xs → (Tg.encL ps 0).length ≤ szL ps * (lim + 16)
  | [], xs, h => by simp [Tg.encL]
  | p :: ps, xs, h => by
    simp only [TreesR] at h
    obtain ⟨x0, x1, x2, x3, x4, rest, _, h1, h2⟩ := h
    have h3 := long_le ok w p _ h1
    have h4 := longL_le ok w ps rest h2
    simp only [Tg.long] at h3
    simp only [Tg.encL, List.length_append, szL, Nat.add_mul]
    omega
end

set_option maxRecDepth 100000 in
set_option maxHeartbeats 1000000 in
theorem long_any (k : Nat) : ∀ (t : Tg.Tree) (x : Value) (w : World), sz t ≤ k → sz t ≤ 1024 → TreeR AnyB w t x → Calls Tryd.prog 39 #[x] w (IntPost w (Tg.long t)) := by
  induction k with
  | zero =>
    intro t
    obtain ⟨c, tg, b, v, ps⟩ := t
    intro x w hk
    simp [sz] at hk
  | succ k ih =>
    intro t
    obtain ⟨c, tg, b', v, ps⟩ := t
    intro x w hk hs ht
    have hlong := long_le _ _ _ _ ht
    have HT := Lib.hid ht
    obtain ⟨h1, h2, h3, h4, va, vc, pa, pc, rfl, h5, h6, h7, xs, h8, h9⟩ := ht.open
    have H8 := Lib.hid h8
    have H9 := Lib.hid h9
    have IH := Lib.hid ih
    have HL := Lib.hid (longL_le _ _ _ _ h9)
    have HE := Lib.hid (show Tg.long (.mk c tg b' v ps) = (Tg.ident c tg b').length + (Tg.size (v ++ Tg.encL ps 0).length 0).length + (v ++ Tg.encL ps 0).length by simp [Tg.long, enc_zero]; omega)
    unfold lim at h3 h4
    simp only [sz] at hk hs
    have hsum : v.length + (Tg.encL ps 0).length ≤ 1024 * 140737488355344 := by
      have h := HL.out
      unfold lim at h
      have : szL ps * (140737488355328 + 16) ≤ 1023 * (140737488355328 + 16) := Nat.mul_le_mul_right _ (by omega)
      omega
    have hid := ident_le c tg b'
    clear ih ht h7 h8 h9 hlong HL
    go_enter Tryd.func39, Tryd.ntmps39
    go_wp2_with fail
    go_loopw [3, 12] (fun n i wr => ∃ (j m : Nat), j ≤ ps.length ∧ i = .int .i64 j ∧ n = .int .i64 m ∧ m ≤ 1024 * 140737488355344 ∧ Hid (m = v.length + (Tg.encL (ps.take j) 0).length) ∧ Hid (Below (w.alloc (.cells #[.int .u8 c, .int .u32 tg, .bool b', .slice va v.length vc, .slice pa ps.length pc] 36)).heap.size (w.alloc (.cells #[.int .u8 c, .int .u32 tg, .bool b', .slice va v.length vc, .slice pa ps.length pc] 36)) wr))
      (fun _ i _ => ps.length - (intOf i).toNat)
    case atStart => exact ⟨0, v.length, by omega, rfl, rfl, by omega, (by show _ = _; simp [Tg.encL]), Below.refl _ _⟩
    case round =>
      obtain ⟨j, m, hj, rfl, rfl, hm, hme, hb⟩ := hrel
      by_cases hlt : j < ps.length
      · obtain ⟨g, o, va', vc', pa', pc', rfl, -, hx, c0, c1, c2, c3, c4⟩ := part_cells (H8.out.keep (Keeps.any (below_step (below_new _) hb.out))) (TreesR.keep (Keeps.any (below_step (below_new _) hb.out)) _ _ H9.out) (List.getElem?_eq_getElem hlt)
        have hsz := sz_get ps j _ (List.getElem?_eq_getElem hlt)
        have HX := Lib.hid hx
        have HM := Lib.hid (show v.length + (Tg.encL (ps.take (j + 1)) 0).length = m + Tg.long ps[j] by rw [encL_take hlt, hme.out, Tg.long, List.length_append]; omega)
        have hm2 : m + Tg.long ps[j] ≤ 1024 * 140737488355344 := by
          rw [← HM.out]
          have := encL_take_le ps (j + 1) 0
          omega
        clear hx
        go_wp2_with fail
        refine (IH.out ps[j] _ _ (by omega) (by omega) (TreeR.keep (Keeps.any (below_new _)) _ _ HX.out)).mono ?_
        rintro e w' ⟨rfl, hb'⟩
        have HB' := Lib.hid (below_step hb.out (below_step (below_new _) hb'))
        clear hb' HX
        go_wp2_with fail
        go_roundw
        case rel => exact ⟨j + 1, m + Tg.long ps[j], by omega, by go_num, by go_num, hm2, HM.out.symm, HB'⟩
        case measure => simp [intOf]; omega
      · have HJ := Lib.hid (show j = ps.length by omega)
        have hbox : wr.heap[w.heap.size]? = some (.cells #[.int .u8 c, .int .u32 tg, .bool b', .slice va v.length vc, .slice pa ps.length pc] 36) := (hb.out.block _ (by simp)).trans (alloc_new _ _)
        obtain ⟨b0, b1, b2, b3, b4⟩ := five_cells hbox
        have HBR := Lib.hid (below_step (below_new _) hb.out)
        have HM := Lib.hid (show m = (v ++ Tg.encL ps 0).length by rw [hme.out, HJ.out, List.take_length, List.length_append])
        clear hbox hb hme
        go_wp2_with fail
        refine (identifier_any (.mk c tg b' v ps) _ none _ [] wr (TreeR.keep (Keeps.any HBR.out) _ _ HT.out) (Buf.nil _ _) (by simp [lim])).mono ?_
        rintro e w1 ⟨v1, r1, rfl, hb1, hg1, hr1⟩
        simp only [List.nil_append, Tg.Tree.cls, Tg.Tree.tag, Tg.Tree.built] at hb1
        have B1 := Lib.hid hb1
        have G1 := Lib.hid (below_step HBR.out (below_of_grown hg1))
        have R1 := Lib.hid hr1
        clear hb1 hg1 hr1
        go_wp2_with fail
        refine (size_any m 0 _ rfl r1 v1 _ w1 (by unfold lim; omega) (by omega) B1.out (by unfold lim; omega)).mono ?_
        rintro e w2 ⟨v2, r2, rfl, hb2, hg2, hr2⟩
        obtain ⟨a2, c2, rfl, -⟩ := hb2.shape
        have hsl := size_le m 0
        have G2 : Hid (Below w.heap.size w w2) := by
          rcases hr2 with rfl | ⟨g2, rfl, hg2'⟩
          · rcases R1.out with rfl | ⟨g1, rfl, hg1'⟩
            · exact below_step G1.out (below_of_grown hg2)
            · exact G1.out.trans ⟨hg2.os, hg2.tape, hg2.output, hg2.size, fun k hk => hg2.block k (Nat.lt_of_lt_of_le hk G1.out.size) (by have := HBR.out.size; intro e; injection e with e; omega)⟩
          · rcases R1.out with rfl | ⟨g1, rfl, hg1'⟩
            · exact below_step G1.out (below_of_grown hg2)
            · exact G1.out.trans ⟨hg2.os, hg2.tape, hg2.output, hg2.size, fun k hk => hg2.block k (Nat.lt_of_lt_of_le hk G1.out.size) (by have := HBR.out.size; intro e; injection e with e; omega)⟩
        clear hb2 hg2 hr2
        have hlen : ((Tg.ident c tg b' ++ Tg.size m 0).length : Int) = (Tg.ident c tg b').length + (Tg.size m 0).length := by simp
        go_wp2_with fail
        go_ret
        rw [HE.out, ← HM.out]
        refine ⟨?_, G2.out⟩
        simp
        omega
end Go.Proofs.YthonjbaeadbhdaaDoor
