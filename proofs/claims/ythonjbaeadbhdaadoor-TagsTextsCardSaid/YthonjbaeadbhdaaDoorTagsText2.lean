/- Contract of tags.Text itself. -/
import Derived.Test.YthonjbaeadbhdaaDoorTagsText
import Derived.Test.YthonjbaeadbhdaaDoorTagsSmall
namespace Go.Proofs.YthonjbaeadbhdaaDoor
open Go.RowKit

theorem Tab.lt {w : World} (h : Tab w) : 0 < w.heap.size := by
  unfold Tab Lib.TabIs World.var? at h
  rw [pow10_global] at h
  simp only [Option.bind_some] at h
  rcases Nat.lt_or_ge 0 w.heap.size with h' | h'
  · exact h'
  · rw [Array.getElem?_eq_none h'] at h
    cases h
def Tg.textT (t : Tg.Tree) : List UInt8 := if Tg.check t = 0 then Tg.text t else []
def StrPost (w : World) (l : List UInt8) (e : Ending) (w' : World) : Prop := e = .returned (.string ⟨l.toArray⟩) ∧ Below w.heap.size w w'

set_option maxRecDepth 100000 in
set_option maxHeartbeats 1000000 in
theorem text_any (t : Tg.Tree) (x : Value) (w : World) (ht : TreeR AnyB w t x) (htab : Tab w) (hl : (Tg.text t).length ≤ 140737488355328) : Calls Tryd.prog 13 #[x] w (StrPost w (Tg.textT t)) := by
  obtain ⟨va, vc, pa, pc, rfl⟩ := ht.form
  have HT := Lib.hid ht
  have HTAB := Lib.hid htab
  have HLT := Lib.hid (show TreeR (fun k => k < w.heap.size) w t _ from HT.out.lt)
  clear ht htab
  have HS := Lib.hid (show Tg.textT t = if Tg.check t = 0 then Tg.text t else [] from rfl)
  have HZ := Lib.hid (fun h => (check_zero (t := t) h))
  have hmf : ∀ (fn : Fn) (first cap : Array Value) (w : World), (Instr.makeFunc fn first cap).run Tryd.prog w = .ok (.func fn first cap) w := fun _ _ _ _ => rfl
  have hst : ∀ (a : Addr) (fn : Fn) (x y : Array Value) (w : World) (m : Mode), (store a (.func fn x y) m).run Tryd.prog w = stored Tryd.prog w a (.func fn x y) m := fun a fn x y w m => run_store Tryd.prog w a _ m rfl
  go_enter Tryd.func13, Tryd.ntmps13
  go_wp2_with fail
  refine (check_any t _ _ (TreeR.keep (Keeps.any (below_new _)) _ _ HT.out)).mono ?_
  rintro e w2 ⟨rfl, hb2⟩
  have H0 := Lib.hid ((hb2.block _ (by simp)).trans (alloc_new w (.cells #[.int .u8 t.cls, .int .u32 t.tag, .bool t.built, .slice va t.val.length vc, .slice pa t.parts.length pc] 36)))
  obtain ⟨a0, a1, a2, a3, a4⟩ := five_cells H0.out
  have B2 := Lib.hid (below_step (below_new _) hb2)
  have hs2 := hb2.size
  have hs3 : w.heap.size < w2.heap.size := by simp at hs2; omega
  clear hb2 hs2
  by_cases hc : Tg.check t = 0
  · have HF := Lib.hid (show Tg.textT t = Tg.text t by rw [HS.out, if_pos hc])
    have HL := Lib.hid (HZ.out hc)
    rw [hc]
    clear hc
    go_wp2_with fail
    have hB := alloc_new w2 (.cells #[.pointer none, .slice none 0 0] 73)
    have hC := alloc_second w2 (.cells #[.pointer none, .slice none 0 0] 73) (.cells #[.func (.func 30) #[] #[.pointer (some ⟨w2.heap.size, 0, none⟩), .pointer (some ⟨w2.heap.size + 1, 0, none⟩)]] 74)
    have BB := (below_new (w := w2) (.cells #[.pointer none, .slice none 0 0] 73)).trans ((below_new (w := w2.alloc (.cells #[.pointer none, .slice none 0 0] 73)) (.cells #[.func (.func 30) #[] #[.pointer (some ⟨w2.heap.size, 0, none⟩), .pointer (some ⟨w2.heap.size + 1, 0, none⟩)]] 74)).mono (by simp))
    have hbld : Bld w2.heap.size w2.heap.size [] ((w2.alloc (.cells #[.pointer none, .slice none 0 0] 73)).alloc (.cells #[.func (.func 30) #[] #[.pointer (some ⟨w2.heap.size, 0, none⟩), .pointer (some ⟨w2.heap.size + 1, 0, none⟩)]] 74)) := .inl ⟨Nat.le_refl _, .slice none 0 0, heap_alloc hB _, World.ownsRowF_nil _ _ _ _, by simp [Value.ownBlock]⟩
    refine (write_any (sz t) t _ w2.heap.size w2.heap.size (w2.heap.size + 1) [] _ (Nat.le_refl _) HL.out.1 ?_ hbld ?_ (by have := HTAB.out.lt; omega) hC (by omega) (by simpa using hl)).mono ?_
    · have h1 := HLT.out.weaken (ok' := fun k => k < w2.heap.size) (fun k hk => by omega)
      exact TreeR.keep (fun k hk hl => BB.block k hk) _ _ (TreeR.keep (fun k hk hl => B2.out.block k hl) _ _ h1)
    · exact (HTAB.out.keep B2.out HTAB.out.lt).keep BB (by have := HTAB.out.lt; omega)
    rintro e w3 ⟨rfl, hw3⟩
    have HB3 := Lib.hid (show Below w.heap.size w w3 from (B2.out.trans (BB.mono (by omega))).trans (hw3.2.1.mono (by omega)))
    have HBL := Lib.hid (show Bld w2.heap.size w2.heap.size (Tg.text t) w3 from hw3.1)
    have hsz3 := hbld.lt
    have hsz4 := hw3.1.lt
    clear hB hC BB hbld hw3 hsz3
    go_wp2_with fail
    refine (string_k w2.heap.size w2.heap.size (Tg.text t) w3 HBL.out (by omega)).mono ?_
    rintro e w4 ⟨rfl, -, hb4, -⟩
    have HB4 := Lib.hid (HB3.out.trans (hb4.mono (by omega)))
    clear hb4
    go_wp2_with fail
    go_ret
    rw [HF.out]
    exact ⟨rfl, HB4.out⟩
  · have HF := Lib.hid (show Tg.textT t = [] by rw [HS.out, if_neg hc])
    have hx : ((Tg.check t : Int) != 0) = true := by simp; omega
    clear hc
    go_wp2_with fail
    go_ret
    rw [HF.out]
    exact ⟨rfl, B2.out⟩
end Go.Proofs.YthonjbaeadbhdaaDoor
