/- Contract of Find. -/
import Derived.Test.YthonjbaeadbhdaaDoorTagsGrown
namespace Go.Proofs.YthonjbaeadbhdaaDoor
open Go.RowKit

theorem idxOf_bd {α : Type} (p : α → Bool) : ∀ (l : List α) (k : Nat), idxOf p l k = -1 ∨ ∃ j, idxOf p l k = (k + j : Nat) ∧ j < l.length
  | [], k => .inl rfl
  | x :: l, k => by
    unfold idxOf
    split
    · exact .inr ⟨0, by simp, by simp⟩
    · rcases idxOf_bd p l (k + 1) with h | ⟨j, h, hj⟩
      · exact .inl h
      · exact .inr ⟨j + 1, by rw [h]; omega, by simp; omega⟩
set_option maxHeartbeats 1000000 in
theorem indexFunc_cap (fn : Nat) (hfn : fn = 46) (p1 p2 : Value) (p : Tg.Tree → Bool) (ps : List Tg.Tree) (xs : List Value) (pa : Option Addr) (pc : Nat) (w : World) (hs : SliceAt AnyB w pa xs) (ht : TreesR AnyB w ps xs) (hl : ps.length ≤ lim)
    (hf : ∀ (q : Tg.Tree) (x : Value) (w1 : World), TreeR AnyB w1 q x → Below w.heap.size w w1 → Calls Tryd.prog 46 #[x, p1, p2] w1 (BoolPost w1 (p q))) :
    Calls Tryd.prog 45 #[.slice pa ps.length pc, .func (.func 46) #[] #[p1, p2]] w (IntPost w (idxOf p ps 0)) := by
  unfold lim at hl
  have HF := Lib.hid hf
  have HS := Lib.hid hs
  have HT := Lib.hid ht
  clear hf hs ht hfn
  go_enter Tryd.func45, Tryd.ntmps45
  go_wp2_with fail
  go_loopw [8] (fun i wr => ∃ j : Nat, j ≤ ps.length ∧ i = .int .i64 j ∧ Below w.heap.size w wr ∧ Hid (idxOf p (ps.drop j) j = idxOf p ps 0)) (fun i _ => ps.length - (intOf i).toNat)
  case atStart => exact ⟨0, Nat.zero_le _, rfl, Below.refl _ _, rfl⟩
  case round =>
    obtain ⟨j, hj, rfl, hb, hr⟩ := hrel
    have HB := Lib.hid hb
    clear hb
    by_cases hlt : j < ps.length
    · obtain ⟨g, o, va', vc', pa', pc', rfl, -, hx, c0, c1, c2, c3, c4⟩ := part_cells (HS.out.keep (Keeps.any HB.out)) (TreesR.keep (Keeps.any HB.out) _ _ HT.out) (List.getElem?_eq_getElem hlt)
      have HX := Lib.hid hx
      have HI := Lib.hid (And.intro (idxOf_hit (p := p) hlt) (idxOf_drop (p := p) hlt))
      clear hx
      go_wp2_with fail
      refine (HF.out ps[j] _ _ HX.out HB.out).mono ?_
      rintro e w' ⟨rfl, hb'⟩
      have HB' := Lib.hid (below_step HB.out hb')
      clear hb' HB
      obtain ⟨hh, hd⟩ := HI.out
      generalize p ps[j] = r at *
      cases r
      · have HD := Lib.hid (hd rfl)
        clear hh hd
        go_wp2_with fail
        go_roundw
        case rel => exact ⟨j + 1, by omega, by go_num, HB'.out, HD.out.symm.trans hr.out⟩
        case measure => simp [intOf]; omega
      · have HH := Lib.hid (hh rfl)
        clear hh hd
        go_wp2_with fail
        go_ret
        rw [← hr.out, HH.out]
        exact ⟨rfl, HB'.out⟩
    · have HJ := Lib.hid (show j = ps.length by omega)
      go_wp2_with fail
      go_ret
      have h0 := hr.out
      rw [HJ.out, List.drop_length, idxOf] at h0
      rw [← h0]
      exact ⟨rfl, HB.out⟩
/-- The closure of Find. -/
theorem find1_any (t : Tg.Tree) (x : Value) (c1 c2 cls tag : Nat) (w : World) (ht : TreeR AnyB w t x) (h1 : w.heap[c1]? = some (.cells #[.int .u8 cls] 5 (0, 0))) (h2 : w.heap[c2]? = some (.cells #[.int .u32 tag] 33 (0, 0))) :
    Calls Tryd.prog 46 #[x, .pointer (some ⟨c1, 0, none⟩), .pointer (some ⟨c2, 0, none⟩)] w (BoolPost w (t.cls == cls && t.tag == tag)) := by
  obtain ⟨va, vc, pa, pc, rfl⟩ := ht.form
  have k1 := cell_of h1 0
  have k2 := cell_of h2 0
  simp at k1 k2
  have l1 := lt_of_block h1
  have l2 := lt_of_block h2
  clear ht h1 h2
  by_cases hc : t.cls = cls
  · by_cases hg : t.tag = tag
    · have e1 : ((t.cls : Int) == cls) = true := by simp [hc]
      have e2 : ((t.tag : Int) == tag) = true := by simp [hg]
      have HF := Lib.hid (show (t.cls == cls && t.tag == tag) = true by simp [hc, hg])
      clear hc hg
      go_enter Tryd.func46, Tryd.ntmps46
      go_wp2_with fail
      go_ret
      rw [HF.out]
      exact ⟨rfl, below_new _⟩
    · have e1 : ((t.cls : Int) == cls) = true := by simp [hc]
      have e2 : ((t.tag : Int) == tag) = false := by simp; omega
      have HF := Lib.hid (show (t.cls == cls && t.tag == tag) = false by simp [hc, hg])
      clear hc hg
      go_enter Tryd.func46, Tryd.ntmps46
      go_wp2_with fail
      go_ret
      rw [HF.out]
      exact ⟨rfl, below_new _⟩
  · have e1 : ((t.cls : Int) == cls) = false := by simp; omega
    have HF := Lib.hid (show (t.cls == cls && t.tag == tag) = false by simp [hc])
    clear hc
    go_enter Tryd.func46, Tryd.ntmps46
    go_wp2_with fail
    go_ret
    rw [HF.out]
    exact ⟨rfl, below_new _⟩

def Tg.isTag (cls tag : Nat) (p : Tg.Tree) : Bool := p.cls == cls && p.tag == tag
/-- What 'Find' computes. -/
def Tg.findP (ps : List Tg.Tree) (cls tag : Nat) : Tg.Tree × Bool := match ps.find? (Tg.isTag cls tag) with | some p => (p, true) | none => (.mk 0 0 false [] [], false)
def FindPost (w : World) (r : Tg.Tree × Bool) (e : Ending) (w' : World) : Prop :=
  ∃ x, e = .returned (.tuple #[x, .bool r.2]) ∧ Below w.heap.size w w' ∧ TreeR AnyB w' r.1 x
theorem idxOf_find {α : Type} (p : α → Bool) : ∀ (l : List α) (k : Nat), match l.find? p with | none => idxOf p l k = -1 | some a => ∃ j, idxOf p l k = ((k + j : Nat) : Int) ∧ l[j]? = some a
  | [], k => rfl
  | x :: l, k => by
    unfold idxOf
    rw [List.find?_cons]
    split
    · rename_i h
      cases hp : p x with
      | true => rw [hp] at h; simp at h
      | false =>
        rw [hp] at h
        simp only at h
        have ih := idxOf_find p l (k + 1)
        rw [h] at ih
        simpa using ih
    · rename_i a h
      cases hp : p x with
      | true =>
        rw [hp] at h
        simp only at h
        injection h with h
        subst h
        exact ⟨0, by simp, by simp⟩
      | false =>
        rw [hp] at h
        simp only at h
        have ih := idxOf_find p l (k + 1)
        rw [h] at ih
        obtain ⟨j, h1, h2⟩ := ih
        exact ⟨j + 1, by simp [h1]; omega, by simpa using h2⟩

set_option maxRecDepth 100000 in
set_option maxHeartbeats 1000000 in
theorem find_any (t : Tg.Tree) (x : Value) (cls tag : Nat) (w : World) (ht : TreeR AnyB w t x) (hc : cls < 256) (hg : tag < 4294967296) :
    Calls Tryd.prog 25 #[x, .int .u8 cls, .int .u32 tag] w (FindPost w (Tg.findP t.parts cls tag)) := by
  obtain ⟨c, tg, b, v, ps⟩ := t
  obtain ⟨h1, h2, h3, h4, va, vc, pa, pc, rfl, h5, h6, h7, xs, h8, h9⟩ := ht.open
  have HS := Lib.hid h8
  have HTS := Lib.hid h9
  have HL := Lib.hid h4
  have HFI := Lib.hid (idxOf_find (Tg.isTag cls tag) ps 0)
  have hmf : ∀ (fn : Fn) (first cap : Array Value) (w : World), (Instr.makeFunc fn first cap).run Tryd.prog w = .ok (.func fn first cap) w := fun _ _ _ _ => rfl
  unfold lim at h4
  clear ht h7 h8 h9
  go_enter Tryd.func25, Tryd.ntmps25
  go_wp2_with fail
  obtain ⟨w4, hw4⟩ : ∃ w4, w4 = (((w.alloc (.cells #[.int .u8 c, .int .u32 tg, .bool b, .slice va v.length vc, .slice pa ps.length pc] 36)).alloc (.cells #[.int .u8 cls] 5)).alloc (.cells #[.int .u32 tag] 33)).alloc (.cells #[.int .u8 0, .int .u32 0, .bool false, .slice none 0 0, .slice none 0 0] 36) := ⟨_, rfl⟩
  have HX := Lib.hid (show w4.heap[w.heap.size]? = some (.cells #[.int .u8 c, .int .u32 tg, .bool b, .slice va v.length vc, .slice pa ps.length pc] 36 (0, 0)) by rw [hw4]; exact heap_alloc (heap_alloc (heap_alloc (alloc_new _ _) _) _) _)
  have H1 := Lib.hid (show w4.heap[w.heap.size + 1]? = some (.cells #[.int .u8 cls] 5 (0, 0)) by rw [hw4]; exact heap_alloc (heap_alloc (alloc_second _ _ _) _) _)
  have H2 := Lib.hid (show w4.heap[w.heap.size + 1 + 1]? = some (.cells #[.int .u32 tag] 33 (0, 0)) by rw [hw4]; exact heap_alloc (alloc_third _ _ _ _) _)
  have HZ := Lib.hid (show w4.heap[w.heap.size + 1 + 1 + 1]? = some (.cells #[.int .u8 0, .int .u32 0, .bool false, .slice none 0 0, .slice none 0 0] 36 (0, 0)) by
    rw [hw4]
    have h := alloc_third (w.alloc (.cells #[.int .u8 c, .int .u32 tg, .bool b, .slice va v.length vc, .slice pa ps.length pc] 36)) (.cells #[.int .u8 cls] 5) (.cells #[.int .u32 tag] 33) (.cells #[.int .u8 0, .int .u32 0, .bool false, .slice none 0 0, .slice none 0 0] 36)
    rwa [show (w.alloc (.cells #[.int .u8 c, .int .u32 tg, .bool b, .slice va v.length vc, .slice pa ps.length pc] 36)).heap.size = w.heap.size + 1 by simp] at h)
  have HB := Lib.hid (show Below w.heap.size w w4 by rw [hw4]; exact (below_new _).trans (((below_new _).mono (by simp)).trans (((below_new _).mono (by simp; omega)).trans ((below_new _).mono (by simp; omega)))))
  rw [← hw4]
  clear hw4
  refine (indexFunc_cap _ rfl _ _ (Tg.isTag cls tag) ps xs pa pc w4 (HS.out.keep (Keeps.any HB.out)) (TreesR.keep (Keeps.any HB.out) _ _ HTS.out) HL.out (fun q x w1 hq hb => find1_any q x _ _ cls tag w1 hq ((hb.block _ (lt_of_block H1.out)).trans H1.out) ((hb.block _ (lt_of_block H2.out)).trans H2.out))).mono ?_
  rintro e w5 ⟨rfl, hb5⟩
  have HB5 := Lib.hid (below_step HB.out hb5)
  have HX5 := Lib.hid ((hb5.block _ (lt_of_block HX.out)).trans HX.out)
  have HZ5 := Lib.hid ((hb5.block _ (lt_of_block HZ.out)).trans HZ.out)
  have hs5 := lt_of_block HZ5.out
  clear hb5
  obtain ⟨b0, b1, b2, b3, b4⟩ := five_cells HX5.out
  obtain ⟨z0, z1, z2, z3, z4⟩ := five_cells HZ5.out
  obtain ⟨y0, y1, y2, y3, y4⟩ := five_free HZ5.out
  have hfi := HFI.out
  cases hfd : ps.find? (Tg.isTag cls tag) with
  | none =>
    rw [hfd] at hfi
    have HF := Lib.hid (show Tg.findP (Tg.Tree.parts (.mk c tg b v ps)) cls tag = (.mk 0 0 false [] [], false) by simp only [Tg.findP, Tg.Tree.parts, hfd])
    simp only at hfi
    rw [hfi]
    clear hfd hfi
    go_wp2_with fail
    obtain ⟨W, hW, p0, pk, ps', po, pt, pu⟩ := five_stores w5 (w.heap.size + 1 + 1 + 1) HZ5.out (.int .u8 0) (.int .u32 0) (.bool false) (.slice none 0 0) (.slice none 0 0)
    rw [← hW]
    clear hW z0 z1 z2 z3 z4
    obtain ⟨a0, a1, a2, a3, a4⟩ := five_cells p0
    refine bodyPost_ret (v := .tuple #[zeroT, .bool false]) (by simp [zeroT, results, Tryd.results25, go_sem, a0, a1, a2, a3, a4]) rfl ?_
    rw [HF.out]
    exact ⟨_, rfl, HB5.out.trans ⟨po, pt, pu, by omega, fun k hk => pk k (by omega)⟩, zeroT_R _ _⟩
  | some p =>
    rw [hfd] at hfi
    have HF := Lib.hid (show Tg.findP (Tg.Tree.parts (.mk c tg b v ps)) cls tag = (p, true) by simp only [Tg.findP, Tg.Tree.parts, hfd])
    obtain ⟨j, hj, hpj⟩ := hfi
    rw [Nat.zero_add] at hj
    rw [hj]
    have hjl : j < ps.length := (List.getElem?_eq_some_iff.1 hpj).1
    obtain ⟨g, o, va', vc', pa', pc', rfl, -, htp, e0, e1, e2, e3, e4⟩ := part_cells ((HS.out.weaken_lt (Nat.le_refl _)).keep (Keeps.of_below HB5.out _)) (TreesR.keep (Keeps.of_below HB5.out _) _ _ (TreesR.weaken_lt (Nat.le_refl _) _ _ HTS.out)) hpj
    have HTP := Lib.hid htp
    clear hfd hj hpj htp
    go_wp2_with fail
    obtain ⟨W, hW, p0, pk, ps', po, pt, pu⟩ := five_stores w5 (w.heap.size + 1 + 1 + 1) HZ5.out (.int .u8 p.cls) (.int .u32 p.tag) (.bool p.built) (.slice va' p.val.length vc') (.slice pa' p.parts.length pc')
    rw [← hW]
    clear hW z0 z1 z2 z3 z4
    obtain ⟨a0, a1, a2, a3, a4⟩ := five_cells p0
    refine bodyPost_ret (v := .tuple #[.agg #[.int .u8 p.cls, .int .u32 p.tag, .bool p.built, .slice va' p.val.length vc', .slice pa' p.parts.length pc'], .bool true]) (by simp [results, Tryd.results25, go_sem, a0, a1, a2, a3, a4]) rfl ?_
    rw [HF.out]
    refine ⟨_, rfl, HB5.out.trans ⟨po, pt, pu, by omega, fun k hk => pk k (by omega)⟩, ?_⟩
    exact TreeR.weaken (fun _ _ => trivial) _ _ (TreeR.keep (fun k hk _ => pk k (by omega)) _ _ HTP.out)
end Go.Proofs.YthonjbaeadbhdaaDoor
