/- Contracts of IsCanonical and of the law's 'canonical'. -/
import Derived.Test.YthonjbaeadbhdaaDoorTagsDecode
import Derived.Test.YthonjbaeadbhdaaDoorTagsLives
namespace Go.Proofs.YthonjbaeadbhdaaDoor
open Go.RowKit

set_option maxRecDepth 100000 in
theorem canon_ok (v : Value) (b : List UInt8) (t : Tg.Tree) (r : Bool) (w : World) (h : BytesR AnyB w v b) (hd : Tg.decT b = (t, 0)) (hp : Tg.plain t = true) (hs : sz t ≤ 1024) (hl : (Tg.enc t 0).length ≤ 1000000) (hr : (Tg.enc t 0 == b) = r) :
    Calls Tryd.prog 23 #[v] w (BoolPost w r) := by
  have HB := Lib.hid h
  have HD := Lib.hid hd
  have HP := Lib.hid hp
  have HS := Lib.hid hs
  have HL := Lib.hid hl
  have HR := Lib.hid hr
  clear h hd hp hs hl hr
  go_enter Tryd.func23, Tryd.ntmps23
  go_wp2_with fail
  refine (decode_any _ b _ HB.out).mono ?_
  rw [HD.out]
  rintro e w1 ⟨x, rfl, hb1, ht1⟩
  change TreeR _ _ t _ at ht1
  obtain ⟨va, vc, pa, pc, rfl⟩ := ht1.form
  obtain ⟨w2, hw2⟩ : ∃ w2, w2 = w1.alloc (.cells #[.int .u8 t.cls, .int .u32 t.tag, .bool t.built, .slice va t.val.length vc, .slice pa t.parts.length pc] 36) := ⟨_, rfl⟩
  have HB2 := Lib.hid (show Below w.heap.size w w2 by rw [hw2]; exact below_step hb1 (below_new _))
  have HT2 := Lib.hid (show TreeR AnyB w2 t (.agg #[.int .u8 t.cls, .int .u32 t.tag, .bool t.built, .slice va t.val.length vc, .slice pa t.parts.length pc]) by rw [hw2]; exact ht1.at_ (below_new _))
  obtain ⟨c0, c1, c2, c3, c4⟩ := five_cells (show w2.heap[w1.heap.size]? = some _ by rw [hw2]; exact alloc_new _ _)
  clear hb1 ht1
  go_upto_region 2 with (fail)
  rw [← hw2]
  clear hw2
  go_wp2_with fail
  refine (encode_any 1024 t _ _ 0 none _ [] w2 HS.out HP.out rfl (by omega) (TreeR.weaken (fun _ _ => by simp) _ _ HT2.out) (Buf.nil _ _) (by have := HL.out; unfold lim; simp; omega)).mono ?_
  rintro e w3 ⟨v3, r3, rfl, hb3, hg3, hr3⟩
  simp only [List.nil_append] at hb3
  have HR3 := Lib.hid ((hb3.reads (by have := HL.out; unfold lim; omega)).any)
  have HB3 := Lib.hid (below_step HB2.out (below_of_grown hg3))
  clear hb3 hg3 hr3 c0 c1 c2 c3 c4
  go_wp2_with fail
  refine (equal_any _ _ _ _ _ _ w3 HR3.out (HB.out.keep (Keeps.any HB3.out))).mono ?_
  rintro e w4 ⟨rfl, rfl⟩
  rw [HR.out]
  go_wp2_with fail
  go_ret
  exact ⟨rfl, HB3.out⟩

/-- The canonical encoding. -/
def CanPost (w : World) (l : List UInt8) (e : Ending) (w' : World) : Prop := ∃ a, e = .returned (.slice a l.length l.length) ∧ Below w.heap.size w w' ∧ BytesR AnyB w' (.slice a l.length l.length) l
set_option maxRecDepth 100000 in
theorem canonical_any (t : Tg.Tree) (l : List UInt8) (k : Nat) (x : Value) (w : World) (hr : Tg.encodeAs t 0 = (l, k)) (ht : TreeR AnyB w t x) : Calls Tryd.prog 24 #[x] w (CanPost w l) := by
  have HT := Lib.hid ht
  have HR := Lib.hid hr
  obtain ⟨va, vc, pa, pc, rfl⟩ := ht.form
  clear ht hr
  obtain ⟨w2, hw2⟩ : ∃ w2, w2 = w.alloc (.cells #[.int .u8 t.cls, .int .u32 t.tag, .bool t.built, .slice va t.val.length vc, .slice pa t.parts.length pc] 36) := ⟨_, rfl⟩
  have HB2 := Lib.hid (show Below w.heap.size w w2 by rw [hw2]; exact below_new _)
  have HT2 := Lib.hid (show TreeR AnyB w2 t (.agg #[.int .u8 t.cls, .int .u32 t.tag, .bool t.built, .slice va t.val.length vc, .slice pa t.parts.length pc]) by rw [hw2]; exact HT.out.at_ (below_new _))
  obtain ⟨c0, c1, c2, c3, c4⟩ := five_cells (show w2.heap[w.heap.size]? = some _ by rw [hw2]; exact alloc_new _ _)
  go_enter Tryd.func24, Tryd.ntmps24
  go_upto_region 1 with (fail)
  rw [← hw2]
  clear hw2
  go_wp2_with fail
  refine (enc_is HR.out _ w2 HT2.out).mono ?_
  rintro e w3 ⟨a, rfl, hb3, hr3⟩
  have HB3 := Lib.hid (below_step HB2.out hb3)
  have HR3 := Lib.hid hr3.any
  clear hb3 hr3 c0 c1 c2 c3 c4
  go_wp2_with fail
  go_ret
  exact ⟨a, rfl, HB3.out, HR3.out⟩

set_option maxRecDepth 100000 in
theorem same_bs (ok ok' : Nat → Prop) (v u : Value) (l m : List UInt8) (w : World) (h : BytesR ok w v l) (k : BytesR ok' w u m) : Calls Tryd.prog 10 #[v, u] w fun e w' => w' = w ∧ e = .returned (.bool (l == m)) := by
  have h1 := run_str h
  have h2 := run_str k
  have hb := bytes_toList
  clear h k
  go_enter Tryd.func10, Tryd.ntmps10
  go_wp2_with fail
  go_ret
  simp [hb]
end Go.Proofs.YthonjbaeadbhdaaDoor
