/- Contracts of tags.Size, Count, Find, IsCanonical. -/
import Derived.Test.YthonjbaeadbhdaaDoorTagsDecode
import Derived.Test.YthonjbaeadbhdaaDoorTagsEncodeAs
namespace Go.Proofs.YthonjbaeadbhdaaDoor
open Go.RowKit

theorem alloc_second (w : World) (o o' : Obj) : ((w.alloc o).alloc o').heap[w.heap.size + 1]? = some o' := by
  have h := alloc_new (w.alloc o) o'
  rwa [show (w.alloc o).heap.size = w.heap.size + 1 by simp] at h
/-- What 'Size' computes. -/
def Tg.sizeT (t : Tg.Tree) : Int := if Tg.check t = 0 then Tg.long t else 0

set_option maxHeartbeats 1000000 in
theorem size_top (t : Tg.Tree) (x : Value) (w : World) (ht : TreeR AnyB w t x) : Calls Tryd.prog 27 #[x] w (IntPost w (Tg.sizeT t)) := by
  obtain ⟨va, vc, pa, pc, rfl⟩ := ht.form
  have HT := Lib.hid ht
  clear ht
  have HS := Lib.hid (show Tg.sizeT t = if Tg.check t = 0 then (Tg.long t : Int) else 0 from rfl)
  have HZ := Lib.hid (fun h => (check_zero (t := t) h).2)
  go_enter Tryd.func27, Tryd.ntmps27
  go_wp2_with fail
  refine (check_any t _ _ (TreeR.keep (Keeps.any (below_new _)) _ _ HT.out)).mono ?_
  rintro e w2 ⟨rfl, hb2⟩
  have H0 := Lib.hid ((hb2.block _ (by simp)).trans (alloc_new w (.cells #[.int .u8 t.cls, .int .u32 t.tag, .bool t.built, .slice va t.val.length vc, .slice pa t.parts.length pc] 36)))
  obtain ⟨a0, a1, a2, a3, a4⟩ := five_cells H0.out
  have B2 := Lib.hid (below_step (below_new _) hb2)
  clear hb2
  by_cases hc : Tg.check t = 0
  · have HF := Lib.hid (show Tg.sizeT t = (Tg.long t : Int) by rw [HS.out, if_pos hc])
    have HL := Lib.hid (HZ.out hc)
    rw [hc]
    clear hc
    go_wp2_with fail
    refine (long_any (sz t) t _ _ (Nat.le_refl _) HL.out (TreeR.keep (Keeps.any B2.out) _ _ HT.out)).mono ?_
    rintro e w3 ⟨rfl, hb3⟩
    have B3 := Lib.hid (below_step B2.out hb3)
    clear hb3
    go_wp2_with fail
    go_ret
    rw [HF.out]
    exact ⟨rfl, B3.out⟩
  · have HF := Lib.hid (show Tg.sizeT t = 0 by rw [HS.out, if_neg hc])
    have hx : ((Tg.check t : Int) != 0) = true := by simp; omega
    clear hc
    go_wp2_with fail
    go_ret
    rw [HF.out]
    exact ⟨rfl, B2.out⟩

/-- What 'Count' computes. -/
def Tg.countT (t : Tg.Tree) : Int := if Tg.check t = 0 then ((Tg.meas t 1 0).2 : Int) else 0
set_option maxHeartbeats 1000000 in
theorem count_top (t : Tg.Tree) (x : Value) (w : World) (ht : TreeR AnyB w t x) : Calls Tryd.prog 28 #[x] w (IntPost w (Tg.countT t)) := by
  obtain ⟨va, vc, pa, pc, rfl⟩ := ht.form
  have HT := Lib.hid ht
  clear ht
  have HS := Lib.hid (show Tg.countT t = if Tg.check t = 0 then ((Tg.meas t 1 0).2 : Int) else 0 from rfl)
  have HLT := Lib.hid (show TreeR (fun k => k < w.heap.size) w t _ from HT.out.lt)
  have BB := Lib.hid (show ∀ (o o' : Obj), Below w.heap.size w ((w.alloc o).alloc o') from fun o o' => (below_new o).trans ((below_new (w := w.alloc o) o').mono (by simp)))
  go_enter Tryd.func28, Tryd.ntmps28
  go_wp2_with fail
  refine (check_any t _ _ (TreeR.keep (Keeps.any (BB.out _ _)) _ _ HT.out)).mono ?_
  rintro e w2 ⟨rfl, hb2⟩
  have H0 := Lib.hid ((hb2.block _ (by simp; omega)).trans (heap_alloc (alloc_new w (.cells #[.int .u8 t.cls, .int .u32 t.tag, .bool t.built, .slice va t.val.length vc, .slice pa t.parts.length pc] 36)) (.cells #[.int .i64 0] 3)))
  have H1 := Lib.hid ((hb2.block (w.heap.size + 1) (by simp)).trans (alloc_second w (.cells #[.int .u8 t.cls, .int .u32 t.tag, .bool t.built, .slice va t.val.length vc, .slice pa t.parts.length pc] 36) (.cells #[.int .i64 0] 3)))
  obtain ⟨a0, a1, a2, a3, a4⟩ := five_cells H0.out
  have b0 := cell_of H1.out 0
  simp at b0
  have f0 := free_of H1.out 0
  have B2 := Lib.hid (below_step (BB.out _ _) hb2)
  have hs2 := hb2.size
  have hs3 : w.heap.size + 1 < w2.heap.size := by simp at hs2; omega
  clear hb2 hs2
  by_cases hc : Tg.check t = 0
  · have HF := Lib.hid (show Tg.countT t = ((Tg.meas t 1 0).2 : Int) by rw [HS.out, if_pos hc])
    rw [hc]
    clear hc
    go_wp2_with fail
    refine (measure_any (sz t) t _ 1 1 0 (w.heap.size + 1) _ (Nat.le_refl _) ?_ rfl (by omega) (by omega) H1.out).mono ?_
    · have h1 := HLT.out.weaken (ok' := fun k => k ≠ w.heap.size + 1) (fun k hk => by omega)
      exact TreeR.keep (fun k hk hl => B2.out.block k hl) _ _ h1
    rintro e w3 ⟨rfl, h3, hg3⟩
    have c0 := cell_of h3 0
    simp at c0
    have g0 := free_of h3 0
    have B3 := Lib.hid (show Below w.heap.size w w3 from ⟨hg3.os.trans B2.out.os, hg3.tape.trans B2.out.tape, hg3.output.trans B2.out.output, Nat.le_trans B2.out.size hg3.size, fun k hk => (hg3.block k (Nat.lt_of_lt_of_le hk B2.out.size) (by intro e; injection e with e; omega)).trans (B2.out.block k hk)⟩)
    have H3 := Lib.hid h3
    clear hg3 h3
    go_wp2_with fail
    refine bodyPost_ret (v := .int .i64 ((Tg.meas t 1 0).2 : Nat)) (by simp [results, Tryd.results28, go_sem, c0]) rfl ?_
    rw [HF.out]
    exact ⟨rfl, below_of_grown (grown_new' (grown_below B3.out none) (grown_setCell _ _ _) (by simp))⟩
  · have HF := Lib.hid (show Tg.countT t = 0 by rw [HS.out, if_neg hc])
    have hx : ((Tg.check t : Int) == 0) = false := by
      rw [beq_eq_false_iff_ne]
      omega
    clear hc
    go_wp2_with fail
    refine bodyPost_ret (v := .int .i64 0) (by simp [results, Tryd.results28, go_sem, b0]) rfl ?_
    rw [HF.out]
    exact ⟨rfl, below_of_grown (grown_new' (grown_below B2.out none) (grown_setCell _ _ _) (by simp))⟩

/-- What 'Find' computes. -/
def Tg.hits (c n : Nat) (p : Tg.Tree) : Bool := p.cls == c && p.tag == n
def Tg.findT (t : Tg.Tree) (c n : Nat) : Option Tg.Tree := t.parts.find? (Tg.hits c n)
end Go.Proofs.YthonjbaeadbhdaaDoor
