/- Contracts of slices.Clip and Clone over bytes. -/
import Derived.Test.YthonjbaeadbhdaaDoorTagsLong
namespace Go.Proofs.YthonjbaeadbhdaaDoor
open Go.RowKit

theorem below_row {w wr w1 w2 : World} {row : Option Nat} (h1 : Below w.heap.size w w1) (hs : w.heap.size ≤ wr.heap.size) (hr : RowStep wr none row) (hg : w1.grownBy w2 row) : Below w.heap.size w w2 := by
  rcases hr with rfl | ⟨g, rfl, hg'⟩
  · exact below_step h1 (below_of_grown hg)
  · exact h1.trans ⟨hg.os, hg.tape, hg.output, hg.size, fun k hk => hg.block k (Nat.lt_of_lt_of_le hk h1.size) (by intro e; injection e with e; omega)⟩
theorem BytesR.step {w w' : World} {r r' : Option Nat} {v : Value} {l : List UInt8} (h : BytesR (fun k => r ≠ some k) w v l) (hg : w.grownBy w' r) (hr : RowStep w r r') : BytesR (fun k => r' ≠ some k) w' v l := by
  obtain ⟨a, c, h1, h2, h3, h4⟩ := h
  refine ⟨a, c, h1, h2, h3, ?_⟩
  have h5 := (h4.weaken_lt (Nat.le_refl _)).keep (Keeps.of_grown hg fun k hk e => hk.1 e.symm)
  refine h5.weaken fun k hk => ?_
  rcases hr with rfl | ⟨g, rfl, hg'⟩
  · exact hk.1
  · intro e
    injection e with e
    omega
/-- A value that is clipped: its capacity is its length. -/
def ClipPost (w : World) (ok : Nat → Prop) (l : List UInt8) (e : Ending) (w' : World) : Prop := w = w' ∧ ∃ a, e = .returned (.slice a l.length l.length) ∧ SliceAt ok w a (bvs l)

set_option maxRecDepth 100000 in
theorem clip_bytes (ok : Nat → Prop) (v : Value) (l : List UInt8) (w : World) (h : BytesR ok w v l) : Calls Tryd.prog 41 #[v] w (ClipPost w ok l) := by
  obtain ⟨a, c, rfl, h2, h3, h4⟩ := h
  have H4 := Lib.hid h4
  unfold lim at h3
  clear h4
  go_enter Tryd.func41, Tryd.ntmps41
  go_wp2_with fail
  go_ret
  exact ⟨rfl, a, rfl, H4.out⟩

/-- New memory that holds l. -/
def NewPost (w : World) (l : List UInt8) (e : Ending) (w' : World) : Prop := ∃ v' row', e = .returned v' ∧ Buf w' row' v' l ∧ Below w.heap.size w w' ∧ RowStep w none row'

theorem run_empty_slice (w : World) : (Instr.buildSlice 22 0 #[]).run Tryd.prog w = .ok (.slice (some ⟨w.heap.size, 0, none⟩) 0 0) (w.alloc (.cells #[] 5)) := by kernel_rfl
end Go.Proofs.YthonjbaeadbhdaaDoor
