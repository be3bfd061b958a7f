/- Contract of lives: the examples of the chapter. -/
import Derived.Test.YthonjbaeadbhdaaDoorTagsLives0
import Derived.Test.YthonjbaeadbhdaaDoorTagsToInt
import Derived.Lib.ConvBytes
import Derived.Lib.SlBytesConst
namespace Go.Proofs.YthonjbaeadbhdaaDoor
open Go.RowKit Tg.Ex

theorem enc_is {t : Tg.Tree} {r : List UInt8 × Nat} (hr : Tg.encodeAs t 0 = r) (x : Value) (w : World) (ht : TreeR AnyB w t x) : Calls Tryd.prog 26 #[x] w (EncPost w r) := hr ▸ encode_top t x w ht
theorem encAs_is {t : Tg.Tree} {f : Nat} {r : List UInt8 × Nat} (hr : Tg.encodeAs t f = r) (x : Value) (F : Int) (hF : F = f) (hf : f < 256) (w : World) (ht : TreeR AnyB w t x) : Calls Tryd.prog 19 #[x, .int .u8 F] w (EncPost w r) := hr ▸ encodeAs_any t x f F w hF hf ht
theorem siz_is {t : Tg.Tree} {r : Int} (hr : Tg.sizeT t = r) (x : Value) (w : World) (ht : TreeR AnyB w t x) : Calls Tryd.prog 27 #[x] w (IntPost w r) := hr ▸ size_top t x w ht
theorem cnt_is {t : Tg.Tree} {r : Int} (hr : Tg.countT t = r) (x : Value) (w : World) (ht : TreeR AnyB w t x) : Calls Tryd.prog 28 #[x] w (IntPost w r) := hr ▸ count_top t x w ht
theorem txt_is {t : Tg.Tree} {r : List UInt8} (hr : Tg.textT t = r) (hl : (Tg.text t).length ≤ 140737488355328) (x : Value) (w : World) (ht : TreeR AnyB w t x) (htab : Tab w) : Calls Tryd.prog 13 #[x] w (StrPost w r) := hr ▸ text_any t x w ht htab hl
theorem prs_is {s : List UInt8} {r : Tg.Tree × Nat} (hr : Tg.parseT s = r) (w : World) (henv : Env w) (hs : s.length ≤ lim) : Calls Tryd.prog 14 #[.string ⟨s.toArray⟩] w (DecPost w r) := hr ▸ parse_top s w henv hs
theorem TreeR.at_ {ok : Nat → Prop} {w w' : World} {t : Tg.Tree} {x : Value} (h : TreeR ok w t x) (hb : Below w.heap.size w w') : TreeR AnyB w' t x := (TreeR.keep (Keeps.of_below hb _) _ _ h).any

/-- '[]byte(s)'. -/
theorem conv_str (l : List UInt8) (w : World) (hl : l.length ≤ lim) :
    (convert 9 22 (.string ⟨l.toArray⟩)).run Tryd.prog w = .ok (.slice (some ⟨w.heap.size, 0, none⟩) l.length (grownCap w l.length 0 5)) (Lib.bytesWorld w 5 ⟨l.toArray⟩) ∧
      BytesR (fun k => w.heap.size ≤ k) (Lib.bytesWorld w 5 ⟨l.toArray⟩) (.slice (some ⟨w.heap.size, 0, none⟩) l.length (grownCap w l.length 0 5)) l ∧ Below w.heap.size w (Lib.bytesWorld w 5 ⟨l.toArray⟩) := by
  have hs : (⟨l.toArray⟩ : ByteArray).size = l.length := by simp [ByteArray.size]
  refine ⟨?_, ⟨_, _, rfl, grownCap_ge _ _ _ _, hl, .inr ⟨_, _, rfl, Nat.le_refl _, fun j u hu => ?_⟩⟩, Lib.bytesWorld_below _ _ _⟩
  · have := Lib.run_convert_string_bytes (P := Tryd.prog) w 9 22 5 ⟨l.toArray⟩ Tryd.underlying9 Tryd.underlying22 Tryd.underlying5
    rw [hs] at this
    exact this
  · have hj : j < l.length := by
      have := (List.getElem?_eq_some_iff.1 hu).1
      rwa [bvs_length] at this
    rw [bvs_get hj] at hu
    injection hu with hu
    subst hu
    rw [Nat.zero_add, Lib.bytesWorld_cell _ _ _ _ (by rw [hs]; exact hj)]
    simp [hj]
/-- A literal slice of bytes. -/
theorem lit_bytes (w : World) (l : List UInt8) (n : Nat) (C : Array Value) (f : Nat × Nat) (hC : C.toList = bvs l) (hn : n = l.length) (hl : n ≤ lim) :
    BytesR (fun k => w.heap.size ≤ k) (w.alloc (.cells C 5 f)) (.slice (some ⟨w.heap.size, 0, none⟩) n n) l := by
  subst hn
  refine ⟨_, _, rfl, Nat.le_refl _, hl, .inr ⟨_, _, rfl, Nat.le_refl _, fun j u hu => ?_⟩⟩
  rw [Nat.zero_add, cell_of (alloc_new w _), ← hu, ← hC]
  simp

/-- The element of the first example, in its variable, and what else stays. -/
def LA (w : World) (ab : Nat) (va : Option Addr) (vc : Nat) (pa : Option Addr) (pc : Nat) (wk : World) : Prop :=
  Below w.heap.size w wk ∧ wk.heap[ab]? = some (.cells #[.int .u8 A.cls, .int .u32 A.tag, .bool A.built, .slice va A.val.length vc, .slice pa A.parts.length pc] 36 (0, 0)) ∧
    TreeR AnyB wk A (.agg #[.int .u8 A.cls, .int .u32 A.tag, .bool A.built, .slice va A.val.length vc, .slice pa A.parts.length pc]) ∧ Env wk
theorem LA.step {w wk wl : World} {ab : Nat} {va : Option Addr} {vc : Nat} {pa : Option Addr} {pc : Nat} (h : LA w ab va vc pa pc wk) (hb : Below wk.heap.size wk wl) : LA w ab va vc pa pc wl :=
  ⟨below_step h.1 hb, (hb.block _ (lt_of_block h.2.1)).trans h.2.1, h.2.2.1.at_ hb, h.2.2.2.below hb⟩

def badCells : Array Value := #[.string ⟨#[97, 5, 130, 1, 10, 4]⟩, .string ⟨#[0, 0]⟩, .string ⟨#[130, 128]⟩, .string ⟨#[159, 128, 1, 0]⟩, .string ⟨#[159, 30, 0]⟩, .string ⟨#[4, 0, 7]⟩]
theorem bad_cell {w : World} {g : Nat} (h : w.heap[g]? = some (.cells badCells 9 (0, 0))) (j : Nat) (hj : j < 6) : ∃ l : List UInt8, w.cell? ⟨g, j, none⟩ = some (.string ⟨l.toArray⟩) ∧ (Tg.decT l).2 = 4 ∧ l.length ≤ 6 := by
  have hb := bad_all
  match j, hj with
  | 0, _ => exact ⟨_, cell_of h 0, hb [97, 5, 130, 1, 10, 4] (by simp [bads]), by decide⟩
  | 1, _ => exact ⟨_, cell_of h 1, hb [0, 0] (by simp [bads]), by decide⟩
  | 2, _ => exact ⟨_, cell_of h 2, hb [130, 128] (by simp [bads]), by decide⟩
  | 3, _ => exact ⟨_, cell_of h 3, hb [159, 128, 1, 0] (by simp [bads]), by decide⟩
  | 4, _ => exact ⟨_, cell_of h 4, hb [159, 30, 0] (by simp [bads]), by decide⟩
  | 5, _ => exact ⟨_, cell_of h 5, hb [4, 0, 7] (by simp [bads]), by decide⟩
def LB (w : World) (ab : Nat) (va : Option Addr) (vc : Nat) (pa : Option Addr) (pc : Nat) (sb : Nat) (wk : World) : Prop := LA w ab va vc pa pc wk ∧ wk.heap[sb]? = some (.cells badCells 9 (0, 0))
theorem LB.step {w wk wl : World} {ab sb : Nat} {va : Option Addr} {vc : Nat} {pa : Option Addr} {pc : Nat} (h : LB w ab va vc pa pc sb wk) (hb : Below wk.heap.size wk wl) : LB w ab va vc pa pc sb wl :=
  ⟨h.1.step hb, (hb.block _ (lt_of_block h.2)).trans h.2⟩

set_option maxRecDepth 100000 in
set_option maxHeartbeats 2000000 in
theorem lives_any (w : World) (henv : Env w) : Calls Tryd.prog 7 #[] w (BoolPost w true) := by
  have HE := Lib.hid henv
  clear henv
  go_enter Tryd.func7, Tryd.ntmps7
  go_wp2_with fail
  refine (prs_is pA w HE.out (by decide)).mono ?_
  rintro e w1 ⟨x1, rfl, hb1, ht1⟩
  obtain ⟨va, vc, pa, pc, rfl⟩ := ht1.form
  have HB1 := Lib.hid hb1
  have HT1 := Lib.hid ht1
  have HE1 := Lib.hid (HE.out.below hb1)
  clear hb1 ht1
  go_wp2_with fail
  obtain ⟨ab, hab⟩ : ∃ n, n = w1.heap.size := ⟨_, rfl⟩
  have H2 := Lib.hid (show LA w ab va vc pa pc (w1.alloc (.cells #[.int .u8 A.cls, .int .u32 A.tag, .bool A.built, .slice va A.val.length vc, .slice pa A.parts.length pc] 36)) from
    ⟨below_step HB1.out (below_new _), hab ▸ alloc_new _ _, HT1.out.at_ (below_new _), HE1.out.below (below_new _)⟩)
  rw [← hab]
  generalize (w1.alloc (.cells #[.int .u8 A.cls, .int .u32 A.tag, .bool A.built, .slice va A.val.length vc, .slice pa A.parts.length pc] 36)) = w2 at H2 ⊢
  clear hab
  refine (enc_is encA _ w2 H2.out.2.2.1).mono ?_
  rintro e w3 ⟨a3, rfl, hb3, hr3⟩
  have H3 := Lib.hid (H2.out.step hb3)
  have HR3 := Lib.hid hr3.any
  obtain ⟨c0, c1, c2, c3, c4⟩ := five_cells H3.out.2.1
  clear hb3 hr3
  go_wp2_with fail
  refine (encAs_is opnA _ 1 rfl (by decide) w3 H3.out.2.2.1).mono ?_
  rintro e w4 ⟨a4, rfl, hb4, hr4⟩
  have H4 := Lib.hid (H3.out.step hb4)
  have hs3 : (convert 22 9 (.slice a3 7 7)).run Tryd.prog w4 = .ok (.string ⟨#[97, 5, 130, 1, 10, 4, 0]⟩) w4 := run_str (HR3.out.keep (Keeps.any hb4))
  have hs4 : (convert 22 9 (.slice a4 9 9)).run Tryd.prog w4 = .ok (.string ⟨#[97, 128, 130, 1, 10, 4, 0, 0, 0]⟩) w4 := run_str hr4
  clear c0 c1 c2 c3 c4
  obtain ⟨c0, c1, c2, c3, c4⟩ := five_cells H4.out.2.1
  clear hb4 hr4
  go_wp2_with fail
  refine (siz_is sizA _ w4 H4.out.2.2.1).mono ?_
  rintro e w5 ⟨rfl, hb5⟩
  have H5 := Lib.hid (H4.out.step hb5)
  clear hb5 c0 c1 c2 c3 c4
  obtain ⟨c0, c1, c2, c3, c4⟩ := five_cells H5.out.2.1
  go_wp2_with fail
  refine (cnt_is cntA _ w5 H5.out.2.2.1).mono ?_
  rintro e w6 ⟨rfl, hb6⟩
  have H6 := Lib.hid (H5.out.step hb6)
  clear hb6 c0 c1 c2 c3 c4
  obtain ⟨c0, c1, c2, c3, c4⟩ := five_cells H6.out.2.1
  go_wp2_with fail
  refine (txt_is txtA (by rw [txlA]; decide) _ w6 H6.out.2.2.1 H6.out.2.2.2.1).mono ?_
  rintro e w7 ⟨rfl, hb7⟩
  have H7 := Lib.hid (H6.out.step hb7)
  clear hb7 c0 c1 c2 c3 c4 hs3 hs4
  go_wp2_with fail
  have hL := lit_bytes w7 [255] 1 #[.int .u8 255] (0, 0) rfl rfl (by decide)
  have hTD : TreeR AnyB (w7.alloc (.cells #[.int .u8 255] 5)) D (.agg #[.int .u8 2, .int .u32 31, .bool false, .slice (some ⟨w7.heap.size, 0, none⟩) 1 1, .slice none 0 0]) := by
    obtain ⟨a, c, h1, h2, h3, h4⟩ := hL
    injection h1 with q1 q2 q3
    subst q1
    simp only [D, TreeR]
    exact ⟨by decide, by decide, by decide, by decide, _, _, _, _, rfl, Nat.le_refl _, by simp, h4.weaken fun _ _ => trivial, [], .inl rfl, rfl⟩
  refine (enc_is encD _ _ hTD).mono ?_
  rintro e w8 ⟨a8, rfl, hb8, hr8⟩
  have H8 := Lib.hid (H7.out.step (below_step (below_new _) hb8))
  have HR8 := Lib.hid hr8.any
  clear hL hTD hb8 hr8
  go_wp2_with fail
  have hTI : TreeR AnyB w8 I (.agg #[.int .u8 2, .int .u32 200, .bool false, .slice none 0 0, .slice none 0 0]) := by
    simp only [I, TreeR]
    exact ⟨by decide, by decide, by decide, by decide, _, _, _, _, rfl, Nat.le_refl _, by simp, .inl rfl, [], .inl rfl, rfl⟩
  refine (enc_is encI _ _ hTI).mono ?_
  rintro e w9 ⟨a9, rfl, hb9, hr9⟩
  have H9 := Lib.hid (H8.out.step hb9)
  have HR9 := Lib.hid hr9.any
  have HD9 := Lib.hid (HR8.out.keep (Keeps.any hb9))
  have kc := fun (w : World) (C : Array Value) (n c : Nat) => Lib.run_convert_bytes_const (P := Tryd.prog) w 22 5 C n c Tryd.underlying22 Tryd.underlying5
  clear hTI hb9 hr9
  go_wp2_with fail
  clear kc
  refine (first_any _ [97, 129, 5, 130, 1, 10, 4, 0, 7] _ (lit_bytes w9 [97, 129, 5, 130, 1, 10, 4, 0, 7] 9 _ _ rfl rfl (by decide)).any).mono ?_
  rw [fstA]
  rintro e w10 ⟨x10, rfl, hb10, ht10⟩
  have hb10' := below_step (below_new _) hb10
  have H10 := Lib.hid (H9.out.step hb10')
  have HR10 := Lib.hid (HR9.out.keep (Keeps.any hb10'))
  have HD10 := Lib.hid (HD9.out.keep (Keeps.any hb10'))
  obtain ⟨va', vc', pa', pc', rfl⟩ := ht10.form
  have HT10 := Lib.hid ht10.any
  clear hb10 hb10' ht10
  simp only at HT10 ⊢
  have hb11 := below_new (w := w10) (.cells #[.int .u8 A.cls, .int .u32 A.tag, .bool A.built, .slice va' A.val.length vc', .slice pa' A.parts.length pc'] 36)
  have hs9 : (convert 22 9 (.slice a8 4 4)).run Tryd.prog (w10.alloc (.cells #[.int .u8 A.cls, .int .u32 A.tag, .bool A.built, .slice va' A.val.length vc', .slice pa' A.parts.length pc'] 36)) = .ok (.string ⟨#[159, 31, 1, 255]⟩) _ := run_str (HD10.out.keep (Keeps.any hb11))
  have hs10 : (convert 22 9 (.slice a9 4 4)).run Tryd.prog (w10.alloc (.cells #[.int .u8 A.cls, .int .u32 A.tag, .bool A.built, .slice va' A.val.length vc', .slice pa' A.parts.length pc'] 36)) = .ok (.string ⟨#[159, 129, 72, 0]⟩) _ := run_str (HR10.out.keep (Keeps.any hb11))
  have H11 := Lib.hid (H10.out.step hb11)
  have HT11 := Lib.hid (HT10.out.at_ hb11)
  obtain ⟨c0, c1, c2, c3, c4⟩ := five_cells H10.out.2.1
  have hab10 := lt_of_block H10.out.2.1
  clear hb11
  go_wp2_with fail
  refine (samA ▸ same_top A A _ _ _ HT11.out H11.out.2.2.1 : Calls _ _ _ _ (BoolPost _ true)).mono ?_
  rintro e w12 ⟨rfl, hb12⟩
  have H12 := Lib.hid (H11.out.step hb12)
  clear hb12 hs9 hs10 c0 c1 c2 c3 c4 hab10 H11 HT11 H10 HT10 HD10 HR10 H9 HR9 HD9 H8 HR8 H7 H6 H5 H4 H3 H2 HR3
  go_wp2_with fail
  go_loopw [15] (fun i wr => ∃ j : Nat, j ≤ 6 ∧ i = .int .i64 j ∧ LB w ab va vc pa pc w12.heap.size wr) (fun i _ => 6 - (intOf i).toNat)
  case atStart => exact ⟨0, by omega, rfl, H12.out.step (below_new _), alloc_new _ _⟩
  case round =>
    obtain ⟨j, hj, rfl, hB⟩ := hrel
    have HB := Lib.hid hB
    clear hB
    by_cases hlt : j < 6
    · obtain ⟨l, hc, hd, hl⟩ := bad_cell HB.out.2 j hlt
      have HD := Lib.hid hd
      have hcv := (conv_str l wr (by unfold lim; omega)).1
      have HV := Lib.hid (conv_str l wr (by unfold lim; omega)).2
      clear hd
      go_wp2_with fail
      refine (decode_any _ l _ HV.out.1.any).mono ?_
      rintro e w13 ⟨x13, rfl, hb13, ht13⟩
      obtain ⟨va', vc', pa', pc', rfl⟩ := ht13.form
      have HB13 := Lib.hid (HB.out.step (below_step HV.out.2 hb13))
      clear hb13 ht13 hcv hc
      rw [HD.out]
      go_wp2_with fail
      go_roundw
      case rel => exact ⟨j + 1, by omega, by go_num, HB13.out.step (below_new _)⟩
      case measure => simp [intOf]; omega
    · go_wp2_with fail
      refine (toInt_any _ [0, 127] _ (lit_bytes wr [0, 127] 2 _ _ rfl rfl (by decide)).any).mono ?_
      rintro e w13 ⟨hw, rfl⟩
      rw [toI1]
      have H13 := Lib.hid (show LA w ab va vc pa pc w13 from hw ▸ HB.out.1.step (below_new _))
      clear hw HB
      go_wp2_with fail
      refine (toInt_any _ [255, 127] _ (lit_bytes w13 [255, 127] 2 _ _ rfl rfl (by decide)).any).mono ?_
      rintro e w14 ⟨hw, rfl⟩
      rw [toI2]
      have H14 := Lib.hid (show LA w ab va vc pa pc w14 from hw ▸ H13.out.step (below_new _))
      clear hw H13
      go_wp2_with fail
      refine (parse_top [97, 49, 40, 32, 99, 50, 61, 48, 97, 41] w14 H14.out.2.2.2 (by decide)).mono ?_
      rintro e w15 ⟨x15, rfl, hb15, ht15⟩
      rw [prs1]
      obtain ⟨va', vc', pa', pc', rfl⟩ := ht15.form
      have H15 := Lib.hid (H14.out.step hb15)
      clear hb15 ht15 H14
      generalize (Tg.parseT [97, 49, 40, 32, 99, 50, 61, 48, 97, 41]).1 = t15
      go_wp2_with fail
      have H16 := Lib.hid (H15.out.step (below_new (.cells #[.int .u8 t15.cls, .int .u32 t15.tag, .bool t15.built, .slice va' t15.val.length vc', .slice pa' t15.parts.length pc'] 36)))
      clear H15
      generalize (w15.alloc (.cells #[.int .u8 t15.cls, .int .u32 t15.tag, .bool t15.built, .slice va' t15.val.length vc', .slice pa' t15.parts.length pc'] 36)) = w16 at H16 ⊢
      refine (parse_top [117, 48, 61] w16 H16.out.2.2.2 (by decide)).mono ?_
      rintro e w17 ⟨x17, rfl, hb17, ht17⟩
      rw [prs2]
      obtain ⟨va', vc', pa', pc', rfl⟩ := ht17.form
      have H17 := Lib.hid (H16.out.step hb17)
      clear hb17 ht17 H16
      generalize (Tg.parseT [117, 48, 61]).1 = t17
      go_wp2_with fail
      have H18 := Lib.hid (H17.out.step (below_new (.cells #[.int .u8 t17.cls, .int .u32 t17.tag, .bool t17.built, .slice va' t17.val.length vc', .slice pa' t17.parts.length pc'] 36)))
      clear H17
      generalize (w17.alloc (.cells #[.int .u8 t17.cls, .int .u32 t17.tag, .bool t17.built, .slice va' t17.val.length vc', .slice pa' t17.parts.length pc'] 36)) = w18 at H18 ⊢
      refine (int_any 0 w18 (by omega) (by omega)).mono ?_
      rw [int0]
      rintro e w19 ⟨a19, rfl, hb19, hr19⟩
      have H19 := Lib.hid (H18.out.step hb19)
      have hs19 : (convert 22 9 (.slice a19 1 1)).run Tryd.prog w19 = .ok (.string ⟨#[0]⟩) _ := run_str hr19
      clear hb19 hr19 H18
      go_wp2_with fail
      refine (int_any 127 w19 (by omega) (by omega)).mono ?_
      rw [int1]
      rintro e w20 ⟨a20, rfl, hb20, hr20⟩
      have H20 := Lib.hid (H19.out.step hb20)
      have hs20 : (convert 22 9 (.slice a20 1 1)).run Tryd.prog w20 = .ok (.string ⟨#[127]⟩) _ := run_str hr20
      clear hb20 hr20 H19 hs19
      go_wp2_with fail
      refine (int_any 128 w20 (by omega) (by omega)).mono ?_
      rw [int2]
      rintro e w21 ⟨a21, rfl, hb21, hr21⟩
      have H21 := Lib.hid (H20.out.step hb21)
      have hs21 : (convert 22 9 (.slice a21 2 2)).run Tryd.prog w21 = .ok (.string ⟨#[0, 128]⟩) _ := run_str hr21
      clear hb21 hr21 H20 hs20
      go_wp2_with fail
      refine (int_any (-129) w21 (by omega) (by omega)).mono ?_
      rw [int3]
      rintro e w22 ⟨a22, rfl, hb22, hr22⟩
      have H22 := Lib.hid (H21.out.step hb22)
      have hs22 : (convert 22 9 (.slice a22 2 2)).run Tryd.prog w22 = .ok (.string ⟨#[255, 127]⟩) _ := run_str hr22
      clear hb22 hr22 H21 hs21
      go_wp2_with fail
      go_ret
      exact ⟨rfl, H22.out.1⟩
end Go.Proofs.YthonjbaeadbhdaaDoor
