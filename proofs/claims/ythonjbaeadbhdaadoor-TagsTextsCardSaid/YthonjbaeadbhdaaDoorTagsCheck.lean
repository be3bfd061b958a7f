/- Contract of tags.Check. -/
import Derived.Test.YthonjbaeadbhdaaDoorTagsPlain
namespace Go.Proofs.YthonjbaeadbhdaaDoor
open Go.RowKit

theorem TreeR.not_new {w : World} {t : Tg.Tree} {x : Value} (h : TreeR AnyB w t x) : TreeR (· ≠ w.heap.size) w t x :=
  TreeR.weaken (fun k hk => by have := hk.2; omega) _ _ (TreeR.weaken_lt (Nat.le_refl _) _ _ h)
theorem TreeR.lt {w : World} {t : Tg.Tree} {x : Value} (h : TreeR AnyB w t x) : TreeR (· < w.heap.size) w t x :=
  TreeR.weaken (fun k hk => hk.2) _ _ (TreeR.weaken_lt (Nat.le_refl _) _ _ h)
theorem TreeR.any {ok : Nat → Prop} {w : World} {t : Tg.Tree} {x : Value} (h : TreeR ok w t x) : TreeR AnyB w t x := TreeR.weaken (fun _ _ => trivial) _ _ h

set_option maxHeartbeats 1000000 in
theorem check_any (t : Tg.Tree) (x : Value) (w : World) (ht : TreeR AnyB w t x) : Calls Tryd.prog 18 #[x] w (IntPost w (Tg.check t)) := by
  obtain ⟨va, vc, pa, pc, rfl⟩ := ht.form
  have HT := Lib.hid ht
  clear ht
  have HC : Hid (Tg.check t = if (Tg.meas t 1 0).1 = false then 3 else if Tg.plain t = false then 1 else 0) := rfl
  go_enter Tryd.func18, Tryd.ntmps18
  go_wp2_with fail
  refine (measure_any (sz t) t _ 1 1 0 (w.heap.size + 1) _ (Nat.le_refl _) (TreeR.keep (Keeps.of_below ((below_new _).alloc (by simp) _) _) _ _ (TreeR.weaken (fun k hk => by omega) _ _ HT.out.lt)) rfl (by omega) (by omega) ?_).mono ?_
  · have := alloc_new (w.alloc (.cells #[.int .u8 t.cls, .int .u32 t.tag, .bool t.built, .slice va t.val.length vc, .slice pa t.parts.length pc] 36)) (.cells #[.int .i64 0] 3)
    simpa using this
  rintro e w1 ⟨rfl, -, hg⟩
  have hbox := heap_grown hg (heap_alloc (alloc_new w (.cells #[.int .u8 t.cls, .int .u32 t.tag, .bool t.built, .slice va t.val.length vc, .slice pa t.parts.length pc] 36)) (.cells #[.int .i64 0] 3)) (by simp)
  obtain ⟨b0, b1, b2, b3, b4⟩ := five_cells hbox
  have HB := Lib.hid (below_of_grown (grown_new (grown_trans (grown_alloc w (.cells #[.int .u8 t.cls, .int .u32 t.tag, .bool t.built, .slice va t.val.length vc, .slice pa t.parts.length pc] 36) none) (grown_alloc _ (.cells #[.int .i64 0] 3) none)) hg (by omega)))
  clear hbox hg
  generalize (Tg.meas t 1 0).1 = r at *
  cases r
  · go_wp2_with fail
    go_ret
    rw [HC.out]
    exact ⟨rfl, HB.out⟩
  · go_wp2_with fail
    refine (plain_any (sz t) t _ w1 (Nat.le_refl _) (TreeR.keep (Keeps.any HB.out) _ _ HT.out)).mono ?_
    rintro e w2 ⟨rfl, hb2⟩
    have HB2 := Lib.hid (below_step HB.out hb2)
    clear hb2
    generalize Tg.plain t = r at *
    cases r
    · go_wp2_with fail
      go_ret
      rw [HC.out]
      exact ⟨rfl, HB2.out⟩
    · go_wp2_with fail
      go_ret
      rw [HC.out]
      exact ⟨rfl, HB2.out⟩
end Go.Proofs.YthonjbaeadbhdaaDoor
