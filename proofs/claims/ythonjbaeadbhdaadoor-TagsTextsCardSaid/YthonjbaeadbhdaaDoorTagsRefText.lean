/- Contract of the definition's Text. -/
import Derived.Test.YthonjbaeadbhdaaDoorTagsText2
import Derived.Test.YthonjbaeadbhdaaDoorTagsAlike
import Derived.Test.YthonjbaeadbhdaaDoorTagsLives
import Derived.Test.YthonjbaeadbhdaaDoorTagsCodePure
import Derived.Deep.RegionHeld3
import Derived.Deep.RegionLaw
namespace Go.Proofs.YthonjbaeadbhdaaDoor
open Go.RowKit

/-- What the definition's Text hands back. -/
def RefPost (w : World) (s : List UInt8) (n : Nat) (e : Ending) (w' : World) : Prop := e = .returned (.tuple #[.string ⟨s.toArray⟩, .int .i64 n]) ∧ Below w.heap.size w w'
theorem arr_keep {w0 w' : World} {C : Array Value} {T : TypeId} {f : Nat × Nat} (hb : Below (w0.alloc (.cells C T f)).heap.size (w0.alloc (.cells C T f)) w') (j : Nat) : w'.cell? ⟨w0.heap.size, j, none⟩ = C[j]? := cell_of ((hb.block _ (by simp)).trans (alloc_new _ _)) j
theorem arr_keepD {w0 w' : World} {C : Array Value} {T : TypeId} {f : Nat × Nat} (hb : Below (w0.alloc (.cells C T f)).drew.heap.size (w0.alloc (.cells C T f)).drew w') (j : Nat) : w'.cell? ⟨w0.heap.size, j, none⟩ = C[j]? := arr_keep (show Below (w0.alloc (.cells C T f)).heap.size (w0.alloc (.cells C T f)) w' from below_drewL hb) j
theorem below_drewK {w0 w : World} (h : Hid (Below w0.heap.size w0 w)) : Hid (Below w0.heap.size w0 w.drew) := h.out.drew
theorem below_newH {w0 w : World} (h : Hid (Below w0.heap.size w0 w)) (o : Obj) : Hid (Below w0.heap.size w0 (w.alloc o)) := below_step h.out (below_new o)
theorem drop_head {l : List Tg.Nd} {i : Nat} {n : Tg.Nd} {r : List Tg.Nd} (h : l.drop i = n :: r) : i < l.length ∧ l[i]? = some n ∧ l.drop (i + 1) = r := by
  have hi : i < l.length := by
    by_cases hi : i < l.length
    · exact hi
    · rw [List.drop_of_length_le (by omega)] at h
      cases h
  rw [List.drop_eq_getElem_cons hi] at h
  injection h with h1 h2
  exact ⟨hi, by rw [List.getElem?_eq_getElem hi, h1], h2⟩
theorem cntL_ge : ∀ ps : List Tg.Tree, ps.length ≤ Tg.cntL ps
  | [] => by simp
  | p :: ps => by
    have h1 := cntL_ge ps
    have h2 := Tg.cnt_pos p
    simp only [List.length_cons, Tg.cntL]
    omega
theorem drop_parts : ∀ (ps : List Tg.Tree) (j : Nat) (l r : List Tg.Nd) (i : Nat), l.drop i = Tg.flatL ps ++ r → l.drop (i + Tg.cntL (ps.take j)) = Tg.flatL (ps.drop j) ++ r
  | ps, 0, l, r, i, h => by simpa [Tg.cntL] using h
  | [], j + 1, l, r, i, h => by simpa [Tg.cntL] using h
  | p :: ps, j + 1, l, r, i, h => by
    simp only [List.take_succ_cons, Tg.cntL, List.drop_succ_cons]
    have h1 : l.drop (i + Tg.cnt p) = Tg.flatL ps ++ r := by
      rw [← List.drop_drop, h, Tg.flatL, List.append_assoc, ← Tg.flat_len p]
      simp
    have := drop_parts ps j l r (i + Tg.cnt p) h1
    rwa [Nat.add_assoc] at this

set_option maxRecDepth 100000 in
set_option maxHeartbeats 2000000 in
theorem refText_any (k : Nat) : ∀ (t : Tg.Tree) (a : Option Addr) (cp : Nat) (l r : List Tg.Nd) (i : Nat) (w : World), sz t ≤ k → Tg.plain t = true → NodesR w (.slice a l.length cp) l → l.drop i = Tg.flat t ++ r → l.length ≤ 1024 → Tab w → (Tg.text t).length ≤ 1000000 →
    Calls Tryd.prog 15 #[.slice a l.length cp, .int .i64 i] w (RefPost w (Tg.text t) (i + Tg.cnt t)) := by
  induction k with
  | zero =>
    intro t
    obtain ⟨c, tg, b, v, ps⟩ := t
    intro a cp l r i w hk
    simp [sz] at hk
  | succ k ih =>
    intro t
    obtain ⟨c, tg, b, v, ps⟩ := t
    intro a cp l r i w hk hpl hn hd hl htab hlen
    have hd' := hd
    simp only [Tg.flat, List.cons_append] at hd'
    obtain ⟨hil, hni, hdr⟩ := drop_head hd'
    obtain ⟨g, o, rfl, c0, c1, c2, c3, c4⟩ := hn.cells hni
    simp only at c0 c1 c2 c3 c4
    obtain ⟨hc3, htg, -, hbt, hbf, hplL⟩ := Tg.plain_fields hpl
    have HN := Lib.hid hn
    have HD := Lib.hid hdr
    have HTAB := Lib.hid htab
    have IH := Lib.hid ih
    have hgl : g < w.heap.size := lt_of_cell c0
    clear ih hn hd hd' htab hni hdr hpl
    obtain ⟨num, hnum⟩ : ∃ l, l = Lib.itoa (tg : Int) := ⟨_, rfl⟩
    have HTX := Lib.hid (show Tg.text (.mk c tg b v ps) = Tg.letter c :: num ++ (if b = true then 40 :: Tg.textL true ps ++ [41] else 61 :: Tg.hexs v) by rw [hnum]; simp only [Tg.text])
    rw [HTX.out, List.length_append, List.length_cons] at hlen
    have HIT := Lib.hid (fun w1 (h : Tab w1) => itoa_any (tg : Int) w1 (by omega) (by omega) h)
    rw [← hnum] at HIT
    have HBT := Lib.hid hbt
    have HBF := Lib.hid hbf
    clear hnum hbt hbf
    go_enter Tryd.func15, Tryd.ntmps15
    go_upto_region 2 with (fail)
    generalize hwb : World.alloc w _ = wb
    have HB0 := Lib.hid (show Below w.heap.size w wb by rw [← hwb]; exact below_new _)
    have HX0 := Lib.hid (show wb.heap[w.heap.size]? = some (.cells #[.int .i64 c, .int .i64 tg, .bool b, .string ⟨v.toArray⟩, .int .i64 ps.length] 87 (0, 0)) by rw [← hwb]; exact alloc_new _ _)
    have HTAB0 := Lib.hid (HTAB.out.keep HB0.out (by have := HTAB.out.lt; omega))
    obtain ⟨x0, x1, x2, x3, x4⟩ := five_cells HX0.out
    clear hwb c0 c1 c2 c3 c4
    go_cut [7] (fun q w2 => q = .string ⟨(Tg.letter c :: num).toArray⟩ ∧ Hid (Below wb.heap.size wb w2))
    case first =>
      have KS := Lib.hid (show ∀ w', Hid (Below wb.heap.size wb w') → w'.cell? ⟨w.heap.size, 0, none⟩ = some (.int .i64 c) ∧ w'.cell? ⟨w.heap.size, 1, none⟩ = some (.int .i64 tg) ∧ Hid (Below wb.heap.size wb w') from
        fun w' hb => ⟨cell_below hb.out x0, cell_below hb.out x1, hb⟩)
      have KT := Lib.hid (show ∀ w', Hid (Below wb.heap.size wb w') → Tab w' from fun w' hb => HTAB0.out.keep hb.out HTAB0.out.lt)
      have hwb0 : Hid (Below wb.heap.size wb wb) := Below.refl _ _
      have hwbd : Hid (Below wb.heap.size wb wb.drew) := ⟨rfl, rfl, rfl, Nat.le_refl _, fun _ _ => rfl⟩
      have hlt0 := lt_of_block HX0.out
      have hc : c = 0 ∨ c = 1 ∨ c = 2 ∨ c = 3 := by omega
      clear hc3 x2 x3 x4
      rcases hc with rfl | rfl | rfl | rfl
      · have hadd := str_add (P := Tryd.prog) [117] num (by simp; omega)
        go_region_law (first
            | (go_simp
               go_at_call 32
               with_reducible refine (HIT.out _ (by first | exact KT.out _ (by assumption) | exact KT.out _ (below_newH (by assumption) _) | exact KT.out _ (below_drewK (below_newH (by assumption) _)) | exact KT.out _ (below_drewK (by assumption)))).mono ?_
               rintro e w' ⟨rfl, hb⟩
               have hbw : Hid (Below wb.heap.size wb w') := by first | exact below_step (by assumption) hb | exact below_step (below_drewK (by assumption)) hb | exact below_step (below_newH (by assumption) _) hb | exact below_step (below_drewK (below_newH (by assumption) _)) hb
               have y0 := cell_below hbw.out x0
               have y1 := cell_below hbw.out x1
               have hlt1 : w.heap.size < w'.heap.size := lt_of_cell y0
               (try ((first | have ha := arr_keepD hb 0 | have ha := arr_keep hb 0); simp at ha))))
        all_goals
          go_wp2_with fail
          go_meet
          case rel => exact ⟨rfl, by first | assumption | exact below_newH (by assumption) _ | exact below_drewK (by assumption) | exact below_drewK (below_newH (by assumption) _)⟩
      · have hadd := str_add (P := Tryd.prog) [97] num (by simp; omega)
        go_region_law (first
            | (go_simp
               go_at_call 32
               with_reducible refine (HIT.out _ (by first | exact KT.out _ (by assumption) | exact KT.out _ (below_newH (by assumption) _) | exact KT.out _ (below_drewK (below_newH (by assumption) _)) | exact KT.out _ (below_drewK (by assumption)))).mono ?_
               rintro e w' ⟨rfl, hb⟩
               have hbw : Hid (Below wb.heap.size wb w') := by first | exact below_step (by assumption) hb | exact below_step (below_drewK (by assumption)) hb | exact below_step (below_newH (by assumption) _) hb | exact below_step (below_drewK (below_newH (by assumption) _)) hb
               have y0 := cell_below hbw.out x0
               have y1 := cell_below hbw.out x1
               have hlt1 : w.heap.size < w'.heap.size := lt_of_cell y0
               (try ((first | have ha := arr_keepD hb 1 | have ha := arr_keep hb 1); simp at ha))))
        all_goals
          go_wp2_with fail
          go_meet
          case rel => exact ⟨rfl, by first | assumption | exact below_newH (by assumption) _ | exact below_drewK (by assumption) | exact below_drewK (below_newH (by assumption) _)⟩
      · have hadd := str_add (P := Tryd.prog) [99] num (by simp; omega)
        go_region_law (first
            | (go_simp
               go_at_call 32
               with_reducible refine (HIT.out _ (by first | exact KT.out _ (by assumption) | exact KT.out _ (below_newH (by assumption) _) | exact KT.out _ (below_drewK (below_newH (by assumption) _)) | exact KT.out _ (below_drewK (by assumption)))).mono ?_
               rintro e w' ⟨rfl, hb⟩
               have hbw : Hid (Below wb.heap.size wb w') := by first | exact below_step (by assumption) hb | exact below_step (below_drewK (by assumption)) hb | exact below_step (below_newH (by assumption) _) hb | exact below_step (below_drewK (below_newH (by assumption) _)) hb
               have y0 := cell_below hbw.out x0
               have y1 := cell_below hbw.out x1
               have hlt1 : w.heap.size < w'.heap.size := lt_of_cell y0
               (try ((first | have ha := arr_keepD hb 2 | have ha := arr_keep hb 2); simp at ha))))
        all_goals
          go_wp2_with fail
          go_meet
          case rel => exact ⟨rfl, by first | assumption | exact below_newH (by assumption) _ | exact below_drewK (by assumption) | exact below_drewK (below_newH (by assumption) _)⟩
      · have hadd := str_add (P := Tryd.prog) [112] num (by simp; omega)
        go_region_law (first
            | (go_simp
               go_at_call 32
               with_reducible refine (HIT.out _ (by first | exact KT.out _ (by assumption) | exact KT.out _ (below_newH (by assumption) _) | exact KT.out _ (below_drewK (below_newH (by assumption) _)) | exact KT.out _ (below_drewK (by assumption)))).mono ?_
               rintro e w' ⟨rfl, hb⟩
               have hbw : Hid (Below wb.heap.size wb w') := by first | exact below_step (by assumption) hb | exact below_step (below_drewK (by assumption)) hb | exact below_step (below_newH (by assumption) _) hb | exact below_step (below_drewK (below_newH (by assumption) _)) hb
               have y0 := cell_below hbw.out x0
               have y1 := cell_below hbw.out x1
               have hlt1 : w.heap.size < w'.heap.size := lt_of_cell y0
               (try ((first | have ha := arr_keepD hb 3 | have ha := arr_keep hb 3); simp at ha))))
        all_goals
          go_wp2_with fail
          go_meet
          case rel => exact ⟨rfl, by first | assumption | exact below_newH (by assumption) _ | exact below_drewK (by assumption) | exact below_drewK (below_newH (by assumption) _)⟩
    case rest =>
      obtain ⟨rfl, hbw⟩ := hcut
      have HBW := Lib.hid (below_step HB0.out hbw.out)
      have HXW := Lib.hid ((hbw.out.block _ (lt_of_block HX0.out)).trans HX0.out)
      have HNW := Lib.hid (HN.out.below HBW.out)
      have HTW := Lib.hid (HTAB0.out.keep hbw.out HTAB0.out.lt)
      clear hbw x0 x1 x2 x3 x4 HX0 HTAB0 HB0
      obtain ⟨x0, x1, x2, x3, x4⟩ := five_cells HXW.out
      cases b
      · have hps := HBF.out rfl
        subst hps
        simp only [Bool.false_eq_true, if_false, List.length_cons] at hlen
        have HTX2 := Lib.hid (show Tg.text (.mk c tg false v []) = Tg.letter c :: num ++ 61 :: Tg.hexs v by rw [HTX.out, if_neg (by simp)])
        clear HTX
        rw [hexs_length] at hlen
        obtain ⟨L0, hL0⟩ : ∃ L, L = Tg.letter c :: num ++ [61] := ⟨_, rfl⟩
        have hL0l : L0.length = num.length + 2 := by rw [hL0]; simp
        have hadd : ∀ w, (Op.stringOp .add (⟨(Tg.letter c :: num).toArray⟩ : ByteArray) ⟨#[61]⟩).run Tryd.prog w = .ok (.string ⟨L0.toArray⟩) w := fun w => by
          rw [hL0]
          exact str_add (Tg.letter c :: num) [61] (by simp; omega) w
        have HTX3 := Lib.hid (show Tg.text (.mk c tg false v []) = L0 ++ Tg.hexs v by rw [HTX2.out, hL0]; simp)
        clear hL0 HTX2
        go_wp2_with fail
        clear hadd
        go_loopw [7, 8] (fun s i wr => ∃ (j : Nat) (X : List UInt8), j ≤ v.length ∧ i = .int .i64 j ∧ s = .string ⟨X.toArray⟩ ∧ Hid (X = L0 ++ Tg.hexs (v.take j)) ∧ Hid (Below w.heap.size w wr) ∧ Hid (wr.heap[w.heap.size]? = some (.cells #[.int .i64 c, .int .i64 tg, .bool false, .string ⟨v.toArray⟩, .int .i64 (([] : List Tg.Tree).length : Nat)] 87 (0, 0)))) (fun _ i _ => v.length - (intOf i).toNat)
        case atStart => exact ⟨0, L0, Nat.zero_le _, rfl, rfl, (by simp [Tg.hexs] : L0 = L0 ++ Tg.hexs (v.take 0)), HBW.out, HXW.out⟩
        case round =>
          obtain ⟨j, X, hj, rfl, rfl, hX, hb, hx⟩ := hrel
          have HXX := Lib.hid hX.out
          have HB := Lib.hid hb.out
          have HX := Lib.hid hx.out
          clear hX hb hx x0 x1 x2 x3 x4
          obtain ⟨x0, x1, x2, x3, x4⟩ := five_cells HX.out
          have hsz : (⟨v.toArray⟩ : ByteArray).size = v.length := by simp [ByteArray.size]
          by_cases hlt : j < v.length
          · have hy := v[j].toNat_lt
            have HTK := Lib.hid (hexs_take hlt)
            obtain ⟨y, hyv⟩ : ∃ y, y = v[j].toNat := ⟨_, rfl⟩
            have hget : ∀ h, ((⟨v.toArray⟩ : ByteArray)[j]'h).toNat = y := fun h => hyv.symm
            rw [← hyv] at HTK hy
            clear hyv
            obtain ⟨q1, hq1⟩ : ∃ q, q = y / 16 := ⟨_, rfl⟩
            obtain ⟨q2, hq2⟩ : ∃ q, q = y % 16 := ⟨_, rfl⟩
            rw [← hq1, ← hq2] at HTK
            obtain ⟨X1, hX1⟩ : ∃ X1, X1 = X ++ [Tg.hexd q1] := ⟨_, rfl⟩
            obtain ⟨X2, hX2⟩ : ∃ X2, X2 = X1 ++ [Tg.hexd q2] := ⟨_, rfl⟩
            have hXl : X.length + 2 ≤ 1000002 := by
              rw [HXX.out, List.length_append, hexs_length, List.length_take]
              omega
            have hs1 : ∀ w, (Op.stringOp .add (⟨X.toArray⟩ : ByteArray) ⟨#[Tg.hexd q1]⟩).run Tryd.prog w = .ok (.string ⟨X1.toArray⟩) w := fun w => by
              rw [hX1]
              exact str_add X [Tg.hexd q1] (by simp; omega) w
            have hs2 : ∀ w, (Op.stringOp .add (⟨X1.toArray⟩ : ByteArray) ⟨#[Tg.hexd q2]⟩).run Tryd.prog w = .ok (.string ⟨X2.toArray⟩) w := fun w => by
              rw [hX2]
              exact str_add X1 [Tg.hexd q2] (by rw [hX1]; simp; omega) w
            have HX2 := Lib.hid (show X2 = L0 ++ Tg.hexs (v.take (j + 1)) by rw [HTK.out, hX2, hX1, HXX.out]; simp)
            have hd1 := hex_at q1 (by omega)
            have hd2 := hex_at q2 (by omega)
            have hwq : IntKind.u8.wrap ((y : Int) / 16) = (q1 : Int) := by rw [IntKind.wrap_u8]; omega
            have htm : (y : Int).tmod 16 = (q2 : Int) := by rw [Int.tmod_eq_emod_of_nonneg (by omega)]; omega
            have hw1 : IntKind.u8.wrap ((q1 : Int) + 1) = (q1 : Int) + 1 := by rw [IntKind.wrap_u8]; omega
            have hw2 : IntKind.u8.wrap ((q2 : Int) + 1) = (q2 : Int) + 1 := by rw [IntKind.wrap_u8]; omega
            have ha1 : (q1 : Int) + 1 ≤ 16 := by omega
            have ha2 : (q2 : Int) + 1 ≤ 16 := by omega
            have hb01 : (0 : Int) ≤ (q1 : Int) + 1 := by omega
            have hb02 : (0 : Int) ≤ (q2 : Int) + 1 := by omega
            have hb11 : (q1 : Int) ≤ (q1 : Int) + 1 := by omega
            have hb12 : (q2 : Int) ≤ (q2 : Int) + 1 := by omega
            have hjv : (j : Int) < v.length := by omega
            clear hq1 hq2 hX1 hX2
            go_wp2_with fail
            go_quiet (fail)
            go_wp2_with fail
            go_roundw
            case rel => exact ⟨j + 1, X2, by omega, by go_num, rfl, HX2.out, HB.out.trans (below_drewN _ _), HX.out⟩
            case measure => simp [intOf]; omega
          · have hjl : j = v.length := by omega
            have HF := Lib.hid (show X = Tg.text (.mk c tg false v []) by rw [HTX3.out, HXX.out, hjl, List.take_length])
            go_wp2_with fail
            go_ret2
            exact ⟨by rw [HF.out]; simp [Tg.cnt, Tg.cntL], HB.out⟩
      · have hvn := HBT.out rfl
        subst hvn
        simp only [if_true, List.length_cons, List.length_append, List.length_nil] at hlen
        have HTX2 := Lib.hid (show Tg.text (.mk c tg true [] ps) = Tg.letter c :: num ++ (40 :: Tg.textL true ps ++ [41]) by rw [HTX.out, if_pos rfl])
        clear HTX
        obtain ⟨L0, hL0⟩ : ∃ L, L = Tg.letter c :: num ++ [40] := ⟨_, rfl⟩
        have hL0l : L0.length = num.length + 2 := by rw [hL0]; simp
        have hadd : ∀ w, (Op.stringOp .add (⟨(Tg.letter c :: num).toArray⟩ : ByteArray) ⟨#[40]⟩).run Tryd.prog w = .ok (.string ⟨L0.toArray⟩) w := fun w => by
          rw [hL0]
          exact str_add (Tg.letter c :: num) [40] (by simp; omega) w
        have HTX3 := Lib.hid (show Tg.text (.mk c tg true [] ps) = L0 ++ Tg.textL true ps ++ [41] by rw [HTX2.out, hL0]; simp)
        clear hL0 HTX2
        have hps : ps.length ≤ 1024 := by
          have h1 := congrArg List.length HD.out
          rw [List.length_drop, List.length_append, flatL_len] at h1
          have h2 := cntL_ge ps
          omega
        go_wp2_with fail
        clear hadd
        go_loopw [7, 9, 1] (fun s ii at_ wr => ∃ (j : Nat) (X : List UInt8), j ≤ ps.length ∧ ii = .int .i64 j ∧ s = .string ⟨X.toArray⟩ ∧ at_ = .int .i64 ((i + 1 + Tg.cntL (ps.take j) : Nat) : Int) ∧ Hid (X = L0 ++ Tg.textL true (ps.take j)) ∧ Hid (Below w.heap.size w wr) ∧ Hid (wr.heap[w.heap.size]? = some (.cells #[.int .i64 c, .int .i64 tg, .bool true, .string ⟨([] : List UInt8).toArray⟩, .int .i64 ps.length] 87 (0, 0)))) (fun _ i _ _ => ps.length - (intOf i).toNat)
        case atStart => exact ⟨0, L0, Nat.zero_le _, rfl, rfl, by simp [Tg.cntL], (by simp [Tg.textL] : L0 = L0 ++ Tg.textL true (ps.take 0)), HBW.out, HXW.out⟩
        case round =>
          obtain ⟨j, X, hj, rfl, rfl, rfl, hX, hb, hx⟩ := hrel
          have HXX := Lib.hid hX.out
          have HB := Lib.hid hb.out
          have HX := Lib.hid hx.out
          clear hX hb hx x0 x1 x2 x3 x4
          obtain ⟨x0, x1, x2, x3, x4⟩ := five_cells HX.out
          by_cases hlt : j < ps.length
          · have HTK := Lib.hid (textL_take hlt)
            have htl := textL_le (ps := ps) (j + 1)
            rw [HTK.out, List.length_append, List.length_append] at htl
            obtain ⟨T, hT⟩ : ∃ T, T = Tg.text ps[j] := ⟨_, rfl⟩
            rw [← hT] at HTK htl
            have hXl : X.length = L0.length + (Tg.textL true (ps.take j)).length := by rw [HXX.out, List.length_append]
            have HCT := Lib.hid (show i + 1 + Tg.cntL (ps.take (j + 1)) = i + 1 + Tg.cntL (ps.take j) + Tg.cnt ps[j] by
              rw [List.take_succ_eq_append_getElem hlt, Tg.cntL_append]
              simp [Tg.cntL]
              omega)
            obtain ⟨at0, hat⟩ : ∃ a, a = i + 1 + Tg.cntL (ps.take j) := ⟨_, rfl⟩
            obtain ⟨at1, hat1⟩ : ∃ a, a = at0 + Tg.cnt ps[j] := ⟨_, rfl⟩
            rw [← hat] at HCT ⊢
            rw [← hat1] at HCT
            have HC := Lib.hid (show ∀ wz, Below w.heap.size w wz → Calls Tryd.prog 15 #[.slice (some ⟨g, o, none⟩) l.length cp, .int .i64 at0] wz (RefPost wz T at1) from fun wz hz => by
              rw [hat1, hT]
              refine IH.out ps[j] (some ⟨g, o, none⟩) cp l (Tg.flatL (ps.drop (j + 1)) ++ r) at0 wz (by have := sz_get ps j _ (List.getElem?_eq_getElem hlt); simp only [sz] at hk; omega) (plainL_get ps j _ hplL (List.getElem?_eq_getElem hlt)) (HN.out.below hz) ?_ hl (HTAB.out.keep hz HTAB.out.lt) (by rw [← hT]; omega)
              rw [hat, drop_parts ps j l r (i + 1) HD.out, List.drop_eq_getElem_cons hlt, Tg.flatL, List.append_assoc])
            have hTl : T.length ≤ 1000000 := by omega
            have hXm : X.length ≤ 1000000 := by omega
            clear hT hat hat1
            by_cases hj0 : j = 0
            · rw [if_pos hj0] at HTK htl
              have hj0' : ¬ 0 < (j : Int) := by omega
              clear hj0
              obtain ⟨X2, hX2⟩ : ∃ X2, X2 = X ++ T := ⟨_, rfl⟩
              have hs2 : ∀ w, (Op.stringOp .add (⟨X.toArray⟩ : ByteArray) ⟨T.toArray⟩).run Tryd.prog w = .ok (.string ⟨X2.toArray⟩) w := fun w => by
                rw [hX2]
                exact str_add X T (by omega) w
              have HX2 := Lib.hid (show X2 = L0 ++ Tg.textL true (ps.take (j + 1)) by rw [HTK.out, hX2, HXX.out]; simp)
              clear hX2
              go_wp2_with fail
              refine (HC.out _ HB.out).mono ?_
              rintro e w5 ⟨rfl, hb5⟩
              have HB5 := Lib.hid (below_step HB.out hb5)
              have HX5 := Lib.hid ((hb5.block _ (lt_of_block HX.out)).trans HX.out)
              clear hb5 x0 x1 x2 x3 x4 HC
              go_wp2_with fail
              go_roundw
              case rel => exact ⟨j + 1, X2, by omega, by go_num, rfl, by rw [HCT.out], HX2.out, HB5.out, HX5.out⟩
              case measure => simp [intOf]; omega
            · rw [if_neg hj0] at HTK htl
              have hj0' : 0 < (j : Int) := by omega
              clear hj0
              obtain ⟨X1, hX1⟩ : ∃ X1, X1 = X ++ [32] := ⟨_, rfl⟩
              obtain ⟨X2, hX2⟩ : ∃ X2, X2 = X1 ++ T := ⟨_, rfl⟩
              have hs1 : ∀ w, (Op.stringOp .add (⟨X.toArray⟩ : ByteArray) ⟨#[32]⟩).run Tryd.prog w = .ok (.string ⟨X1.toArray⟩) w := fun w => by
                rw [hX1]
                exact str_add X [32] (by simp; omega) w
              have hs2 : ∀ w, (Op.stringOp .add (⟨X1.toArray⟩ : ByteArray) ⟨T.toArray⟩).run Tryd.prog w = .ok (.string ⟨X2.toArray⟩) w := fun w => by
                rw [hX2]
                exact str_add X1 T (by rw [hX1]; simp; omega) w
              have HX2 := Lib.hid (show X2 = L0 ++ Tg.textL true (ps.take (j + 1)) by rw [HTK.out, hX2, hX1, HXX.out]; simp)
              clear hX1
              clear hX2
              go_wp2_with fail
              refine (HC.out _ HB.out).mono ?_
              rintro e w5 ⟨rfl, hb5⟩
              have HB5 := Lib.hid (below_step HB.out hb5)
              have HX5 := Lib.hid ((hb5.block _ (lt_of_block HX.out)).trans HX.out)
              clear hb5 x0 x1 x2 x3 x4 HC
              go_wp2_with fail
              go_roundw
              case rel => exact ⟨j + 1, X2, by omega, by go_num, rfl, by rw [HCT.out], HX2.out, HB5.out, HX5.out⟩
              case measure => simp [intOf]; omega
          · have hjl : j = ps.length := by omega
            obtain ⟨X2, hX2⟩ : ∃ X2, X2 = X ++ [41] := ⟨_, rfl⟩
            have hXl : X.length = L0.length + (Tg.textL true (ps.take j)).length := by rw [HXX.out, List.length_append]
            rw [hjl, List.take_length] at hXl HXX
            have hs2 : ∀ w, (Op.stringOp .add (⟨X.toArray⟩ : ByteArray) ⟨#[41]⟩).run Tryd.prog w = .ok (.string ⟨X2.toArray⟩) w := fun w => by
              rw [hX2]
              exact str_add X [41] (by simp; omega) w
            have HF := Lib.hid (show X2 = Tg.text (.mk c tg true [] ps) by rw [HTX3.out, hX2, HXX.out])
            have HAT := Lib.hid (show i + 1 + Tg.cntL (ps.take j) = i + Tg.cnt (.mk c tg true [] ps) by rw [hjl, List.take_length]; simp only [Tg.cnt]; omega)
            clear hX2
            go_wp2_with fail
            go_ret2
            exact ⟨by rw [HF.out, ← HAT.out]; rfl, HB.out⟩
end Go.Proofs.YthonjbaeadbhdaaDoor
