/- Contract of tags.Text. -/
import Derived.Test.YthonjbaeadbhdaaDoorShelfB
import Derived.Test.YthonjbaeadbhdaaDoorShelf
import Derived.Test.YthonjbaeadbhdaaDoorTagsCheck
import Derived.Test.YthonjbaeadbhdaaDoorTagsEncodeAs
import Derived.Test.YthonjbaeadbhdaaDoorTagsTextDef
import Derived.Deep.RegionHeld3
import Derived.Deep.RegionLaw
import Derived.Lib.LaidTab
import Derived.Lib.AppendIntMem
import Derived.WalkLawsBesides
import Derived.Deep.DeepCutAuto
import Derived.Deep.CutBlock
namespace Go.Proofs.YthonjbaeadbhdaaDoor
open Go.RowKit Go.Shelf

theorem textL_append : ∀ (a b : List Tg.Tree) (f : Bool), Tg.textL f (a ++ b) = Tg.textL f a ++ Tg.textL (f && a.isEmpty) b
  | [], b, f => by simp [Tg.textL]
  | p :: a, b, f => by
    simp only [List.cons_append, Tg.textL, textL_append a b false]
    simp
theorem textL_take {ps : List Tg.Tree} {j : Nat} (h : j < ps.length) : Tg.textL true (ps.take (j + 1)) = Tg.textL true (ps.take j) ++ ((if j = 0 then [] else [32]) ++ Tg.text ps[j]) := by
  rw [List.take_succ_eq_append_getElem h, textL_append]
  cases j with
  | zero => simp [Tg.textL]
  | succ j =>
    have : (ps.take (j + 1)).isEmpty = false := by
      cases ps with
      | nil => simp at h
      | cons p ps => rfl
    simp [Tg.textL, this]
theorem textL_le {ps : List Tg.Tree} (j : Nat) : (Tg.textL true (ps.take j)).length ≤ (Tg.textL true ps).length := by
  have := textL_append (ps.take j) (ps.drop j) true
  rw [List.take_append_drop] at this
  rw [this, List.length_append]
  omega
theorem hexs_length : ∀ l : List UInt8, (Tg.hexs l).length = 2 * l.length
  | [] => rfl
  | x :: r => by simp [Tg.hexs, hexs_length r]; omega
theorem hexs_append : ∀ l m : List UInt8, Tg.hexs (l ++ m) = Tg.hexs l ++ Tg.hexs m
  | [], m => rfl
  | x :: r, m => by simp [Tg.hexs, hexs_append r m]
theorem hexs_take {v : List UInt8} {j : Nat} (h : j < v.length) : Tg.hexs (v.take (j + 1)) = Tg.hexs (v.take j) ++ [Tg.hexd (v[j].toNat / 16), Tg.hexd (v[j].toNat % 16)] := by
  rw [List.take_succ_eq_append_getElem h, hexs_append]
  rfl
theorem hex_at (c : Nat) (hc : c < 16) : (⟨#[48, 49, 50, 51, 52, 53, 54, 55, 56, 57, 97, 98, 99, 100, 101, 102]⟩ : ByteArray).extract c (c + 1) = ⟨#[Tg.hexd c]⟩ := by
  have h : c = 0 ∨ c = 1 ∨ c = 2 ∨ c = 3 ∨ c = 4 ∨ c = 5 ∨ c = 6 ∨ c = 7 ∨ c = 8 ∨ c = 9 ∨ c = 10 ∨ c = 11 ∨ c = 12 ∨ c = 13 ∨ c = 14 ∨ c = 15 := by omega
  rcases h with rfl | rfl | rfl | rfl | rfl | rfl | rfl | rfl | rfl | rfl | rfl | rfl | rfl | rfl | rfl | rfl <;> rfl
abbrev Bld (B b : Nat) (l : List UInt8) (w : World) : Prop := Lib.IsBuilderF 73 5 B b (Lib.byteCells l) w
theorem Bld.below {B b : Nat} {l : List UInt8} {w w' : World} (h : Bld B b l w) (hb : Below w.heap.size w w') : Bld B b l w' := by
  rcases h with ⟨hB, v, hh, ho, hn⟩ | ⟨hB, v, hh, ho, hn⟩
  · exact .inl ⟨hB, v, (hb.block b (lt_of_block hh)).trans hh, ho.kept (grown_below hb none) (by cases v.ownBlock <;> simp), hn⟩
  · exact .inr ⟨hB, v, (hb.block b (lt_of_block hh)).trans hh, ho.kept (grown_below hb none) (by cases v.ownBlock <;> simp), hn⟩
theorem Bld.lt {B b : Nat} {l : List UInt8} {w : World} (h : Bld B b l w) : B ≤ b ∧ b < w.heap.size := by
  rcases h with ⟨hB, v, hh, _⟩ | ⟨hB, v, hh, _⟩ <;> exact ⟨hB, lt_of_block hh⟩
theorem cells_append (l m : List UInt8) : Lib.byteCells l ++ Lib.byteCells m = Lib.byteCells (l ++ m) := by simp [Lib.byteCells]
/-- The tables of strconv. -/
def Tab (w : World) : Prop := Lib.TabIs Tryd.prog w "internal/strconv.uint64pow10" .u64 Lib.pow10Tab
theorem pow10_global : Tryd.prog.globalNamed "internal/strconv.uint64pow10" = some 0 := by kernel_rfl
theorem Tab.keep {B : Nat} {w w' : World} (h : Tab w) (hb : Below B w w') (hB : 0 < B) : Tab w' := by
  unfold Tab Lib.TabIs World.var? at h ⊢
  rw [pow10_global] at h ⊢
  simp only [Option.bind_some] at h ⊢
  rw [hb.block _ hB]
  exact h
theorem below_drewR {B : Nat} {w w' : World} (h : Below B w w') : Below B w w'.drew := ⟨h.os, h.tape, h.output, h.size, h.block⟩
theorem below_drewL {w w' : World} (h : Below w.drew.heap.size w.drew w') : Below w.heap.size w w' := ⟨h.os, h.tape, h.output, h.size, h.block⟩
theorem below_drewL' {w w' : World} (h : Below w.heap.size w w') : Below w.drew.heap.size w.drew w' := ⟨h.os, h.tape, h.output, h.size, h.block⟩
theorem othersBelow {e : TypeId} {b : Option Nat} {w w' : World} (hb : Below w.heap.size w w') : Lib.OthersKept e b w w' := fun k o h _ _ => (hb.block k (lt_of_block h)).trans h
/-- What a write behind a builder leaves. -/
def Wrote (B bb : Nat) (w w' : World) (l : List UInt8) : Prop := Bld B bb l w' ∧ Below B w w' ∧ Lib.OthersKept 5 (some bb) w w'
theorem below_drewG {B : Nat} {w w' : World} (h : Below B w w') : Below B w.drew w' := ⟨h.os, h.tape, h.output, h.size, h.block⟩
theorem Wrote.drewL {B bb : Nat} {w w' : World} {l : List UInt8} (h : Wrote B bb w.drew w' l) : Wrote B bb w w' l := ⟨h.1, ⟨h.2.1.os, h.2.1.tape, h.2.1.output, h.2.1.size, h.2.1.block⟩, h.2.2⟩
theorem Wrote.trans {B bb : Nat} {w w1 w2 : World} {l l' : List UInt8} (h : Wrote B bb w w1 l) (k : Wrote B bb w1 w2 l') : Wrote B bb w w2 l' := ⟨k.1, h.2.1.trans k.2.1, h.2.2.trans k.2.2⟩
theorem write_byte (B bb : Nat) (l : List UInt8) (c : Int) (x : UInt8) (w : World) (hc : c = (x.toNat : Int)) (h : Bld B bb l w) (hl : l.length < 140737488355328) :
    Calls Tryd.prog 33 #[.pointer (some ⟨bb, 0, none⟩), .int .u8 c] w fun e w' => e = .returned .nilIface ∧ Wrote B bb w w' (l ++ [x]) := by
  subst hc
  refine (writeByte_k B bb (Lib.byteCells l) x.toNat w h (by rw [Lib.byteCells_length]; omega) (by have := Bld.lt h; omega)).mono ?_
  rintro e w' ⟨rfl, h1, h2, h3⟩
  refine ⟨rfl, .inr ?_, h2, h3⟩
  rw [← cells_append]
  exact h1
theorem write_str (B bb : Nat) (l m : List UInt8) (s : ByteArray) (w : World) (hs : s = ⟨m.toArray⟩) (h : Bld B bb l w) (hl : l.length + m.length ≤ 140737488355328) :
    Calls Tryd.prog 31 #[.pointer (some ⟨bb, 0, none⟩), .string s] w fun e w' => e = .returned (.tuple #[.int .i64 m.length, .nilIface]) ∧ Wrote B bb w w' (l ++ m) := by
  subst hs
  have hsz : (⟨m.toArray⟩ : ByteArray).size = m.length := by simp [ByteArray.size]
  refine (writeString_k B bb (Lib.byteCells l) ⟨m.toArray⟩ w h (by rw [Lib.byteCells_length, hsz]; exact hl) (by have := Bld.lt h; omega)).mono ?_
  rintro e w' ⟨rfl, h1, h2, h3⟩
  rw [hsz]
  refine ⟨rfl, .inr ?_, h2, h3⟩
  rw [← cells_append]
  exact h1
theorem itoa_any (n : Int) (w : World) (h0 : -9223372036854775808 ≤ n) (h1 : n ≤ 9223372036854775807) (h : Tab w) :
    Calls Tryd.prog 32 #[.int .i64 n] w fun e w' => e = .returned (.string ⟨(Lib.itoa n).toArray⟩) ∧ Below w.heap.size w w' := by
  refine (Tryd.strconv_Itoa n h0 h1 w h).mono ?_
  rintro e w' ⟨rfl, k, os, rfl⟩
  exact ⟨rfl, Lib.below_grow w.heap.size w (Nat.le_refl _) k os⟩
theorem sl_str (w : World) (s : ByteArray) (i : Nat) (h : i + 1 ≤ s.size) : (Instr.slice 9 (.string s) (some (.int .u8 (i : Int))) (some (.int .u8 ((i : Int) + 1))) none).run Tryd.prog w = .ok (.string (s.extract i (i + 1))) w := by
  have e := run_slice_string w 9 s .u8 .u8 (i : Int) ((i : Int) + 1) Tryd.underlying9 (by omega) (by omega) (by omega)
  rw [e]
  have e2 : ((i : Int) + 1).toNat = i + 1 := by omega
  rw [e2, Int.toNat_natCast]
theorem str_add {P : Program} (l m : List UInt8) (h : l.length + m.length ≤ 140737488355328) (w : World) : (Op.stringOp .add (⟨l.toArray⟩ : ByteArray) ⟨m.toArray⟩).run P w = .ok (.string ⟨(l ++ m).toArray⟩) w := by
  rw [run_string_add_sum w _ _ (by simp [ByteArray.size]; omega)]
  congr 1
theorem letter_slice (c : Nat) (hc : c ≤ 3) (w : World) : (Instr.slice 9 (.string ⟨#[117, 97, 99, 112]⟩) (some (.int .u8 (c : Int))) (some (.int .u8 ((c : Int) + 1))) none).run Tryd.prog w = .ok (.string ⟨#[Tg.letter c]⟩) w := by
  rw [sl_str w _ c (by show c + 1 ≤ 4; omega)]
  have h : c = 0 ∨ c = 1 ∨ c = 2 ∨ c = 3 := by omega
  rcases h with rfl | rfl | rfl | rfl <;> rfl
theorem digit_slice (c : Nat) (hc : c < 16) (w : World) : (Instr.slice 9 (.string ⟨#[48, 49, 50, 51, 52, 53, 54, 55, 56, 57, 97, 98, 99, 100, 101, 102]⟩) (some (.int .u8 (c : Int))) (some (.int .u8 ((c : Int) + 1))) none).run Tryd.prog w = .ok (.string ⟨#[Tg.hexd c]⟩) w := by
  rw [sl_str w _ c (by show c + 1 ≤ 16; omega)]
  have h : c = 0 ∨ c = 1 ∨ c = 2 ∨ c = 3 ∨ c = 4 ∨ c = 5 ∨ c = 6 ∨ c = 7 ∨ c = 8 ∨ c = 9 ∨ c = 10 ∨ c = 11 ∨ c = 12 ∨ c = 13 ∨ c = 14 ∨ c = 15 := by omega
  rcases h with rfl | rfl | rfl | rfl | rfl | rfl | rfl | rfl | rfl | rfl | rfl | rfl | rfl | rfl | rfl | rfl <;> rfl

set_option maxRecDepth 100000 in
set_option maxHeartbeats 2000000 in
theorem write_any (k : Nat) : ∀ (t : Tg.Tree) (x : Value) (B bb cl : Nat) (l : List UInt8) (w : World), sz t ≤ k → Tg.plain t = true → TreeR (fun k => k < B) w t x → Bld B bb l w → Tab w → 0 < B →
    w.heap[cl]? = some (.cells #[.func (.func 30) #[] #[.pointer (some ⟨bb, 0, none⟩), .pointer (some ⟨cl, 0, none⟩)]] 74 (0, 0)) → cl ≠ bb → l.length + (Tg.text t).length ≤ 140737488355328 →
    Calls Tryd.prog 30 #[x, .pointer (some ⟨bb, 0, none⟩), .pointer (some ⟨cl, 0, none⟩)] w (fun e w' => e = .returned (.tuple #[]) ∧ Wrote B bb w w' (l ++ Tg.text t)) := by
  induction k with
  | zero =>
    intro t
    obtain ⟨c, tg, b, v, ps⟩ := t
    intro x B bb cl l w hk
    simp [sz] at hk
  | succ k ih =>
    intro t
    obtain ⟨c, tg, b, v, ps⟩ := t
    intro x B bb cl l w hk hpl ht hbl htab hgB hcl hne hlen
    obtain ⟨h1, h2, h3, h4, va, vc, pa, pc, rfl, h5, h6, h7, xs, h8, h9⟩ := ht.open
    have HV := Lib.hid h7
    have HP := Lib.hid (And.intro h8 h9)
    have HBL := Lib.hid hbl
    have HTAB := Lib.hid htab
    have HCL := Lib.hid hcl
    have IH := Lib.hid ih
    have hplL : Tg.plainL ps = true := by
      simp [Tg.plain] at hpl
      exact hpl.2
    have hc3 : c ≤ 3 := by
      simp [Tg.plain] at hpl
      omega
    have hbb := hbl.lt
    have hBs : B ≤ w.heap.size := by omega
    have hw8 : IntKind.u8.wrap ((c : Int) + 1) = (c : Int) + 1 := by rw [IntKind.wrap_u8]; omega
    have hw64 : IntKind.i64.wrap (tg : Int) = (tg : Int) := IntWalk.i64_in _ (by omega)
    have hb4 : (c : Int) + 1 ≤ 4 := by omega
    have hb0 : (0 : Int) ≤ (c : Int) + 1 := by omega
    have hb1 : (c : Int) ≤ (c : Int) + 1 := by omega
    have hex : (⟨#[117, 97, 99, 112]⟩ : ByteArray).extract c (c + 1) = ⟨#[Tg.letter c]⟩ := by
      have h : c = 0 ∨ c = 1 ∨ c = 2 ∨ c = 3 := by omega
      rcases h with rfl | rfl | rfl | rfl <;> rfl
    have hlt0 := lt_of_block hcl
    unfold lim at h3 h4
    clear ih ht h7 h8 h9 hbl htab hcl
    obtain ⟨num, hnum⟩ : ∃ l, l = Lib.itoa (tg : Int) := ⟨_, rfl⟩
    have HTX := Lib.hid (show Tg.text (.mk c tg b v ps) = Tg.letter c :: num ++ (if b = true then 40 :: Tg.textL true ps ++ [41] else 61 :: Tg.hexs v) by rw [hnum]; simp only [Tg.text])
    rw [HTX.out, List.length_append, List.length_cons] at hlen
    have hadd := str_add (P := Tryd.prog) [Tg.letter c] num (by simp; omega)
    have HNUM := Lib.hid hnum
    have HIT := Lib.hid (fun w1 (h : Tab w1) => itoa_any (tg : Int) w1 (by omega) (by omega) h)
    rw [← hnum] at HIT
    clear hnum
    go_enter Tryd.func30, Tryd.ntmps30
    go_wp2_with fail
    obtain ⟨wb, hwb⟩ : ∃ wb, wb = w.alloc (.cells #[.int .u8 c, .int .u32 tg, .bool b, .slice va v.length vc, .slice pa ps.length pc] 36) := ⟨_, rfl⟩
    have B0 : Below w.heap.size w wb := by rw [hwb]; exact below_new _
    have X0 : wb.heap[w.heap.size]? = some (.cells #[.int .u8 c, .int .u32 tg, .bool b, .slice va v.length vc, .slice pa ps.length pc] 36 (0, 0)) := by rw [hwb]; exact alloc_new _ _
    have hsz : wb.heap.size = w.heap.size + 1 := by rw [hwb]; simp
    rw [← hwb]
    have HB0 := Lib.hid B0
    have B0d : Below w.heap.size w wb.drew := below_drewR B0
    have HX0 := Lib.hid X0
    have HTAB0 := Lib.hid (show Tab wb.drew from (HTAB.out.keep B0d (by omega)))
    have HBL0 := Lib.hid (show Bld B bb l wb.drew from HBL.out.below B0d)
    have HWB := Lib.hid hwb
    obtain ⟨x0, x1, x2, x3, x4⟩ := five_cells X0
    clear hwb B0 B0d X0
    go_cut [] (fun w2 => Hid (Wrote B bb wb w2 (l ++ Tg.letter c :: num)))
    case first =>
      go_region_law (first
        | (go_simp
           go_at_call 32
           refine (HIT.out _ HTAB0.out).mono ?_
           rintro e w1 ⟨rfl, hb1⟩
           have HB1 := Lib.hid (below_drewL hb1)
           have hbx := ((below_drewL hb1).block w.heap.size (by omega)).trans HX0.out
           obtain ⟨x0, x1, x2, x3, x4⟩ := five_cells hbx
           have HBX := Lib.hid hbx
           clear hb1 hbx)
        | (go_simp
           go_at_call 31
           refine (write_str B bb l (Tg.letter c :: num) _ w1 rfl (HBL0.out.below (below_drewL' HB1.out)) (by simp; omega)).mono ?_
           rintro e w2 ⟨rfl, hwr⟩
           have HW2 := Lib.hid (show Wrote B bb wb w2 _ from ⟨hwr.1, (HB1.out.mono (show B ≤ wb.heap.size by omega)).trans hwr.2.1, (othersBelow (show Below wb.heap.size wb w1 from HB1.out)).trans hwr.2.2⟩)
           clear hwr))
      all_goals
        go_wp2_with fail
        go_meet
        case rel => exact HW2
    case rest =>
      have HW := Lib.hid hcut.out
      clear hcut
      have hbox := (HW.out.2.2 _ _ HX0.out (by simp; omega) (by simp))
      obtain ⟨x0, x1, x2, x3, x4⟩ := five_cells hbox
      clear hbox
      have HKB := Lib.hid (show ∀ (wr : World) (L : List UInt8), Wrote B bb wb wr L → Keeps (fun k => k < B) w wr from fun wr L h k hk hl => (h.2.1.block k hk).trans (HB0.out.block k hl))
      cases b
      · simp only [Bool.false_eq_true, if_false, List.length_cons] at hlen
        have HTX2 := Lib.hid (show Tg.text (.mk c tg false v ps) = Tg.letter c :: num ++ 61 :: Tg.hexs v by rw [HTX.out, if_neg (by simp)])
        clear HTX
        rw [hexs_length] at hlen
        go_wp2_with fail
        refine (write_byte B bb (l ++ Tg.letter c :: num) 61 61 _ rfl HW.out.1 (by simp; omega)).mono ?_
        rintro e w3 ⟨rfl, hw3⟩
        obtain ⟨L0, hL0⟩ : ∃ L, L = l ++ Tg.letter c :: num ++ [61] := ⟨_, rfl⟩
        have hL0l : L0.length = l.length + num.length + 2 := by rw [hL0]; simp; omega
        rw [← hL0] at hw3
        have HL0 := Lib.hid hL0
        have HW3 := Lib.hid (HW.out.trans hw3)
        clear hw3 hL0 HW
        have hbox := (HW3.out.2.2 _ _ HX0.out (by simp; omega) (by simp))
        obtain ⟨x0, x1, x2, x3, x4⟩ := five_cells hbox
        clear hbox
        go_wp2_with fail
        go_loopw [27] (fun i wr => ∃ j : Nat, j ≤ v.length ∧ i = .int .i64 j ∧ Hid (Wrote B bb wb wr (L0 ++ Tg.hexs (v.take j)))) (fun i _ => v.length - (intOf i).toNat)
        case atStart => exact ⟨0, Nat.zero_le _, rfl, by simpa [Tg.hexs] using HW3⟩
        case round =>
          obtain ⟨j, hj, rfl, hw⟩ := hrel
          have HWr := Lib.hid hw.out
          clear hw
          by_cases hlt : j < v.length
          · obtain ⟨g, o, rfl, hg, hcell⟩ := (HV.out.keep (HKB.out _ _ HWr.out)).resolve_left (by intro e; simp [bvs] at e; simp [e] at hlt)
            have c0 := hcell j _ (bvs_get hlt)
            have HTK := Lib.hid (hexs_take hlt)
            have hy := v[j].toNat_lt
            generalize v[j].toNat = y at *
            clear hcell
            obtain ⟨q1, hq1⟩ : ∃ q, q = y / 16 := ⟨_, rfl⟩
            obtain ⟨q2, hq2⟩ : ∃ q, q = y % 16 := ⟨_, rfl⟩
            rw [← hq1, ← hq2] at HTK
            have hd1 := hex_at q1 (by omega)
            have hd2 := hex_at q2 (by omega)
            have hwq : IntKind.u8.wrap ((y : Int) / 16) = (q1 : Int) := by rw [IntKind.wrap_u8]; omega
            have htm : (y : Int).tmod 16 = (q2 : Int) := by rw [Int.tmod_eq_emod_of_nonneg (by omega)]; omega
            have hw1 : IntKind.u8.wrap ((q1 : Int) + 1) = (q1 : Int) + 1 := by rw [IntKind.wrap_u8]; omega
            have hw2 : IntKind.u8.wrap ((q2 : Int) + 1) = (q2 : Int) + 1 := by rw [IntKind.wrap_u8]; omega
            have ha1 : (q1 : Int) + 1 ≤ 16 := by omega
            have ha2 : (q2 : Int) + 1 ≤ 16 := by omega
            have hb01 : (0 : Int) ≤ (q1 : Int) + 1 := by omega
            have hb02 : (0 : Int) ≤ (q2 : Int) + 1 := by omega
            have hb11 : (q1 : Int) ≤ (q1 : Int) + 1 := by omega
            have hb12 : (q2 : Int) ≤ (q2 : Int) + 1 := by omega
            have hs2 := str_add (P := Tryd.prog) [Tg.hexd q1] [Tg.hexd q2] (by simp)
            clear hq1 hq2
            go_wp2_with fail
            go_region_law (go_simp
                           go_at_call 31
                           refine (write_str B bb (L0 ++ Tg.hexs (v.take j)) [Tg.hexd q1, Tg.hexd q2] _ wr.drew rfl (show Bld B bb _ wr.drew from HWr.out.1) (by rw [List.length_append, hexs_length, List.length_take]; simp; omega)).mono ?_
                           rintro e w4 ⟨rfl, hw4⟩
                           have HW4 := Lib.hid (HWr.out.trans hw4.drewL)
                           clear hw4)
            all_goals
              go_wp2_with fail
              go_roundw
              case rel => exact ⟨j + 1, by omega, by go_num, by rw [HTK.out, ← List.append_assoc]; exact HW4⟩
              case measure => simp [intOf]; omega
          · have hjl : j = v.length := by omega
            have HF := Lib.hid (show Wrote B bb wb wr (l ++ Tg.text (.mk c tg false v ps)) by
              have := HWr.out
              rw [hjl, List.take_length, HL0.out] at this
              rw [HTX2.out]
              simpa using this)
            clear HWr
            subst hjl
            go_wp2_with fail
            refine bodyPost_ret (results_none rfl _ _ _) rfl ?_
            exact ⟨rfl, HF.out.1, (HB0.out.mono hBs).trans HF.out.2.1, (othersBelow HB0.out).trans HF.out.2.2⟩
      · simp only [if_true, List.length_cons, List.length_append, List.length_nil] at hlen
        have HTX2 := Lib.hid (show Tg.text (.mk c tg true v ps) = Tg.letter c :: num ++ (40 :: Tg.textL true ps ++ [41]) by rw [HTX.out, if_pos rfl])
        clear HTX
        go_wp2_with fail
        refine (write_byte B bb (l ++ Tg.letter c :: num) 40 40 _ rfl HW.out.1 (by simp; omega)).mono ?_
        rintro e w3 ⟨rfl, hw3⟩
        obtain ⟨L0, hL0⟩ : ∃ L, L = l ++ Tg.letter c :: num ++ [40] := ⟨_, rfl⟩
        have hL0l : L0.length = l.length + num.length + 2 := by rw [hL0]; simp; omega
        rw [← hL0] at hw3
        have HL0 := Lib.hid hL0
        have HW3 := Lib.hid (HW.out.trans hw3)
        clear hw3 hL0 HW
        have hbox := (HW3.out.2.2 _ _ HX0.out (by simp; omega) (by simp))
        obtain ⟨x0, x1, x2, x3, x4⟩ := five_cells hbox
        clear hbox
        go_wp2_with fail
        go_loopw [50] (fun i wr => ∃ j : Nat, j ≤ ps.length ∧ i = .int .i64 j ∧ Hid (Wrote B bb wb wr (L0 ++ Tg.textL true (ps.take j)))) (fun i _ => ps.length - (intOf i).toNat)
        case atStart => exact ⟨0, Nat.zero_le _, rfl, by simpa [Tg.textL] using HW3⟩
        case round =>
          obtain ⟨j, hj, rfl, hw⟩ := hrel
          have HWr := Lib.hid hw.out
          clear hw
          by_cases hlt : j < ps.length
          · obtain ⟨g, o, va', vc', pa', pc', rfl, -, hx, c0, c1, c2, c3, c4⟩ := part_cells (HP.out.1.keep (HKB.out _ _ HWr.out)) (TreesR.keep (HKB.out _ _ HWr.out) _ _ HP.out.2) (List.getElem?_eq_getElem hlt)
            have HX := Lib.hid hx
            clear hx
            have hcl' := (HWr.out.2.2 _ _ ((HB0.out.block cl hlt0).trans HCL.out) (by simp; omega) (by simp))
            have k0 := cell_of hcl' 0
            simp at k0
            have hclt := lt_of_block hcl'
            clear hcl'
            have HTK := Lib.hid (textL_take hlt)
            have htl := textL_le (ps := ps) (j + 1)
            rw [HTK.out, List.length_append, List.length_append] at htl
            have HSTEP := Lib.hid (show ∀ (wz : World) (Lz : List UInt8) (x : Value), Wrote B bb wb wz Lz → Lz.length + (Tg.text ps[j]).length ≤ 140737488355328 → TreeR (fun k => k < B) wz ps[j] x →
                Calls Tryd.prog 30 #[x, .pointer (some ⟨bb, 0, none⟩), .pointer (some ⟨cl, 0, none⟩)] wz (fun e w' => e = .returned (.tuple #[]) ∧ Wrote B bb wb w' (Lz ++ Tg.text ps[j])) from fun wz Lz x h1 h2 h3 => by
              refine (IH.out ps[j] x B bb cl Lz wz (by have := sz_get ps j _ (List.getElem?_eq_getElem hlt); simp only [sz] at hk; omega) (plainL_get ps j _ hplL (List.getElem?_eq_getElem hlt)) h3 h1.1 (HTAB0.out.keep (below_drewG h1.2.1) hgB) hgB (h1.2.2 _ _ ((HB0.out.block cl hlt0).trans HCL.out) (by simp; omega) (by simp)) hne h2).mono ?_
              rintro e w' ⟨rfl, hw'⟩
              exact ⟨rfl, h1.trans hw'⟩)
            have HWA := Lib.hid (show ∀ o, Wrote B bb wb (wr.alloc o) (L0 ++ Tg.textL true (ps.take j)) from fun o => HWr.out.trans ⟨HWr.out.1.below (below_new o), (below_new o).mono (by have := HWr.out.1.lt; omega), othersBelow (below_new o)⟩)
            by_cases hj0 : j = 0
            · rw [if_pos hj0] at HTK htl
              have hj0' : ¬ 0 < (j : Int) := by omega
              clear hj0
              simp only [List.length_nil] at htl
              go_wp2_with fail
              refine (HSTEP.out _ _ _ (HWA.out _) (by rw [List.length_append]; omega) (TreeR.keep (Keeps.of_below (below_new _) _) _ _ HX.out)).mono ?_
              rintro e w5 ⟨rfl, hw5⟩
              have HW5 := Lib.hid hw5
              clear hw5
              go_wp2_with fail
              go_roundw
              case rel => exact ⟨j + 1, by omega, by go_num, by rw [HTK.out, List.nil_append, ← List.append_assoc]; exact HW5⟩
              case measure => simp [intOf]; omega
            · rw [if_neg hj0] at HTK htl
              have hj0' : 0 < (j : Int) := by omega
              clear hj0
              simp only [List.length_singleton] at htl
              go_wp2_with fail
              refine (write_byte B bb (L0 ++ Tg.textL true (ps.take j)) 32 32 _ rfl (HWA.out _).1 (by rw [List.length_append]; omega)).mono ?_
              rintro e w4 ⟨rfl, hw4⟩
              have hnew := hw4.2.2 _ _ (alloc_new wr _) (by have := HWr.out.1.lt; simp; omega) (by simp)
              obtain ⟨b0, b1, b2, b3, b4⟩ := five_cells hnew
              have hclo := hw4.2.2 _ _ (heap_alloc ((HWr.out.2.2 _ _ ((HB0.out.block cl hlt0).trans HCL.out) (by simp; omega) (by simp))) _) (by simp; omega) (by simp)
              have k1 := cell_of hclo 0
              simp at k1
              have HW4 := Lib.hid ((HWA.out _).trans hw4)
              have HX4 := Lib.hid (TreeR.keep (fun k hk hl => hw4.2.1.block k hk) _ _ (TreeR.keep (Keeps.of_below (below_new _) _) _ _ HX.out))
              clear hnew hclo hw4
              go_wp2_with fail
              refine (HSTEP.out _ _ _ HW4.out (by rw [List.length_append, List.length_append]; simp; omega) HX4.out).mono ?_
              rintro e w5 ⟨rfl, hw5⟩
              have HW5 := Lib.hid hw5
              clear hw5
              go_wp2_with fail
              go_roundw
              case rel => exact ⟨j + 1, by omega, by go_num, by rw [HTK.out]; simpa using HW5⟩
              case measure => simp [intOf]; omega
          · have hjl : j = ps.length := by omega
            have HWl := Lib.hid (show Wrote B bb wb wr (L0 ++ Tg.textL true ps) by
              have := HWr.out
              rwa [hjl, List.take_length] at this)
            clear HWr
            subst hjl
            go_wp2_with fail
            refine (write_byte B bb (L0 ++ Tg.textL true ps) 41 41 _ rfl HWl.out.1 (by rw [List.length_append]; omega)).mono ?_
            rintro e w5 ⟨rfl, hw5⟩
            have HF := Lib.hid (show Wrote B bb wb w5 (l ++ Tg.text (.mk c tg true v ps)) by
              have := HWl.out.trans hw5
              rw [HL0.out] at this
              rw [HTX2.out]
              simpa using this)
            clear hw5
            go_wp2_with fail
            refine bodyPost_end (results_none rfl _ _ _) rfl ?_
            exact ⟨rfl, HF.out.1, (HB0.out.mono hBs).trans HF.out.2.1, (othersBelow HB0.out).trans HF.out.2.2⟩
end Go.Proofs.YthonjbaeadbhdaaDoor
