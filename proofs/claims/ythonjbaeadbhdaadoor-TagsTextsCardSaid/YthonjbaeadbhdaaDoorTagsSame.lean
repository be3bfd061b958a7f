/- Contracts of bytes.Equal, tags.same, tags.Same, tags.Decode. -/
import Derived.Test.YthonjbaeadbhdaaDoorTagsFirst
namespace Go.Proofs.YthonjbaeadbhdaaDoor
open Go.RowKit

/-- The bytes of a slice as a string. -/
theorem run_str {ok : Nat → Prop} {w : World} {v : Value} {l : List UInt8} (h : BytesR ok w v l) : (convert 22 9 v).run Tryd.prog w = .ok (.string ⟨l.toArray⟩) w := by
  obtain ⟨a, c, rfl, h1, h2, h3⟩ := h
  rcases h3 with h3 | ⟨g, o, rfl, hg, hc⟩
  · have : l = [] := by simpa [bvs] using h3
    subst this
    rw [run_convert_bytes_string w _ _ 5 a _ c Tryd.underlying22 Tryd.underlying5 Tryd.underlying9]
    cases a <;> rfl
  · refine run_convert_bytes_back w _ _ 5 _ c l Tryd.underlying22 Tryd.underlying5 Tryd.underlying9 fun j hj => ?_
    have := hc j _ (bvs_get hj)
    cases j with
    | zero => simpa [Addr.add] using this
    | succ j => simpa [Addr.add] using this
theorem lt_of_cell {w : World} {a : Addr} {v : Value} (h : w.cell? a = some v) : a.block < w.heap.size := by
  unfold World.cell? at h
  split at h
  · rename_i hh
    exact lt_of_block hh
  · cases h
theorem bytes_toList (l : List UInt8) : (⟨l.toArray⟩ : ByteArray).toList = l := by
  rw [ByteArray.toList_eq]
theorem equal_any (ok ok' : Nat → Prop) (v u : Value) (l m : List UInt8) (w : World) (h : BytesR ok w v l) (k : BytesR ok' w u m) : Calls Tryd.prog 44 #[v, u] w fun e w' => w' = w ∧ e = .returned (.bool (l == m)) := by
  have h1 := run_str h
  have h2 := run_str k
  have hb := bytes_toList
  clear h k
  go_enter Tryd.func44, Tryd.ntmps44
  go_wp2_with fail
  go_ret
  simp [hb]

set_option maxHeartbeats 1000000 in
theorem equalFunc_any (ps qs : List Tg.Tree) (xs ys : List Value) (pa qa : Option Addr) (pc qc : Nat) (w : World) (hs : SliceAt AnyB w pa xs) (ht : TreesR AnyB w ps xs) (hl : ps.length ≤ lim) (hs' : SliceAt AnyB w qa ys) (ht' : TreesR AnyB w qs ys) (hl' : qs.length ≤ lim)
    (hf : ∀ (j : Nat) (p q : Tg.Tree) (x y : Value) (w1 : World), ps[j]? = some p → TreeR AnyB w1 p x → TreeR AnyB w1 q y → Calls Tryd.prog 36 #[x, y] w1 (BoolPost w1 (Tg.same p q))) :
    Calls Tryd.prog 54 #[.slice pa ps.length pc, .slice qa qs.length qc, .func (.func 36) #[] #[]] w (BoolPost w (ps.length == qs.length && Tg.sameL ps qs)) := by
  unfold lim at hl hl'
  have HF := Lib.hid hf
  have HS := Lib.hid hs
  have HT := Lib.hid ht
  have HS' := Lib.hid hs'
  have HT' := Lib.hid ht'
  clear hf hs ht hs' ht'
  by_cases hlen : ps.length = qs.length
  · have hle : (ps.length == qs.length) = true := by simp [hlen]
    rw [hle, Bool.true_and, ← hlen]
    have HLEN := Lib.hid hlen
    clear hle hlen hl'
    go_enter Tryd.func54, Tryd.ntmps54
    go_wp2_with fail
    go_loopw [17] (fun i wr => ∃ j : Nat, j ≤ ps.length ∧ i = .int .i64 j ∧ Below w.heap.size w wr ∧ Hid (Tg.sameL (ps.drop j) (qs.drop j) = Tg.sameL ps qs)) (fun i _ => ps.length - (intOf i).toNat)
    case atStart => exact ⟨0, Nat.zero_le _, rfl, Below.refl _ _, rfl⟩
    case round =>
      obtain ⟨j, hj, rfl, hb, hr⟩ := hrel
      have HB := Lib.hid hb
      clear hb
      by_cases hlt : j < ps.length
      · have hlt' : j < qs.length := HLEN.out ▸ hlt
        obtain ⟨g, o, va, vc, pa1, pc1, rfl, -, hx, c0, c1, c2, c3, c4⟩ := part_cells (HS.out.keep (Keeps.any HB.out)) (TreesR.keep (Keeps.any HB.out) _ _ HT.out) (List.getElem?_eq_getElem hlt)
        obtain ⟨g', o', va', vc', pa', pc', rfl, -, hx', d0, d1, d2, d3, d4⟩ := part_cells (HS'.out.keep (Keeps.any HB.out)) (TreesR.keep (Keeps.any HB.out) _ _ HT'.out) (List.getElem?_eq_getElem hlt')
        have hg := lt_of_cell c0
        have hg' := lt_of_cell d0
        simp only at hg hg'
        have HX := Lib.hid hx
        have HX' := Lib.hid hx'
        have HI := Lib.hid (show Tg.sameL (ps.drop j) (qs.drop j) = (Tg.same ps[j] qs[j] && Tg.sameL (ps.drop (j + 1)) (qs.drop (j + 1))) by
          rw [List.drop_eq_getElem_cons hlt, List.drop_eq_getElem_cons hlt']
          rfl)
        clear hx hx'
        go_wp2_with fail
        refine (HF.out j ps[j] qs[j] _ _ _ (List.getElem?_eq_getElem hlt) (TreeR.keep (Keeps.any ?_) _ _ HX.out) (TreeR.keep (Keeps.any ?_) _ _ HX'.out)).mono ?_
        · exact (below_new _).trans ((below_new _).mono (by simp))
        · exact (below_new _).trans ((below_new _).mono (by simp))
        rintro e w' ⟨rfl, hb'⟩
        have HB' := Lib.hid (below_step HB.out (below_step ((below_new _).trans ((below_new _).mono (by simp))) hb'))
        clear hb' HB
        generalize Tg.same ps[j] qs[j] = r at *
        cases r
        · go_wp2_with fail
          go_ret
          rw [← hr.out, HI.out]
          exact ⟨rfl, HB'.out⟩
        · go_wp2_with fail
          go_roundw
          case rel =>
            exact ⟨j + 1, by omega, by go_num, HB'.out, by rw [← hr.out, HI.out]; rfl⟩
          case measure => simp [intOf]; omega
      · have HJ := Lib.hid (show j = ps.length by omega)
        go_wp2_with fail
        go_ret
        have h0 := hr.out
        rw [HJ.out, List.drop_length] at h0
        rw [← h0]
        exact ⟨rfl, HB.out⟩
  · have hle : (ps.length == qs.length) = false := by simp [hlen]
    have hne : ((ps.length : Int) == (qs.length : Int)) = false := by
      rw [beq_eq_false_iff_ne]
      omega
    rw [hle, Bool.false_and]
    clear hle
    go_enter Tryd.func54, Tryd.ntmps54
    go_wp2_with fail
    go_ret
    exact ⟨rfl, Below.refl _ _⟩

set_option maxRecDepth 100000 in
set_option maxHeartbeats 1000000 in
theorem same_any (k : Nat) : ∀ (t u : Tg.Tree) (x y : Value) (w : World), sz t ≤ k → TreeR AnyB w t x → TreeR AnyB w u y → Calls Tryd.prog 36 #[x, y] w (BoolPost w (Tg.same t u)) := by
  induction k with
  | zero =>
    intro t
    obtain ⟨c, tg, b, v, ps⟩ := t
    intro u x y w hk
    simp [sz] at hk
  | succ k ih =>
    intro t u
    obtain ⟨c, tg, b, v, ps⟩ := t
    obtain ⟨c', tg', b', v', ps'⟩ := u
    intro x y w hk ht hu
    obtain ⟨h1, h2, h3, h4, va, vc, pa, pc, rfl, h5, h6, h7, xs, h8, h9⟩ := ht.open
    obtain ⟨k1, k2, k3, k4, va', vc', pa', pc', rfl, k5, k6, k7, ys, k8, k9⟩ := hu.open
    have HV := Lib.hid (show BytesR AnyB w (.slice va v.length vc) v from ⟨va, vc, rfl, h5, h3, h7⟩)
    have HV' := Lib.hid (show BytesR AnyB w (.slice va' v'.length vc') v' from ⟨va', vc', rfl, k5, k3, k7⟩)
    have HP := Lib.hid (And.intro h8 (And.intro h9 h4))
    have HP' := Lib.hid (And.intro k8 (And.intro k9 k4))
    have IH := Lib.hid ih
    simp only [sz] at hk
    unfold lim at h3 h4 k3 k4
    clear ih ht hu h7 h8 h9 k7 k8 k9
    have HS := Lib.hid (show Tg.same (.mk c tg b v ps) (.mk c' tg' b' v' ps') = (c == c' && tg == tg' && b == b' && v == v' && (ps.length == ps'.length) && Tg.sameL ps ps') by simp only [Tg.same])
    have BB := Lib.hid (show ∀ (o o' : Obj), Below w.heap.size w ((w.alloc o).alloc o') from fun o o' => (below_new o).trans ((below_new (w := w.alloc o) o').mono (by simp)))
    by_cases e1 : c = c'
    · subst e1
      by_cases e2 : tg = tg'
      · subst e2
        by_cases e3 : b = b'
        · subst e3
          go_enter Tryd.func36, Tryd.ntmps36
          go_wp2_with fail
          refine (equal_any AnyB AnyB _ _ v v' _ (HV.out.keep (Keeps.any (BB.out _ _))) (HV'.out.keep (Keeps.any (BB.out _ _)))).mono ?_
          rintro e w2 ⟨hw2, rfl⟩
          subst hw2
          by_cases e4 : v = v'
          · rw [show (v == v') = true by simp [e4]]
            go_wp2_with fail
            refine (equalFunc_any ps ps' xs ys pa pa' pc pc' _ (HP.out.1.keep (Keeps.any (BB.out _ _))) (TreesR.keep (Keeps.any (BB.out _ _)) _ _ HP.out.2.1) HP.out.2.2 (HP'.out.1.keep (Keeps.any (BB.out _ _))) (TreesR.keep (Keeps.any (BB.out _ _)) _ _ HP'.out.2.1) HP'.out.2.2 fun j p q x y w3 hp hx hy => IH.out p q x y w3 ?_ hx hy).mono ?_
            · have := sz_get ps j p hp
              omega
            rintro e w3 ⟨rfl, hb3⟩
            have HB3 := Lib.hid (below_step (BB.out _ _) hb3)
            have HF := Lib.hid (show Tg.same (.mk c tg b v ps) (.mk c tg b v' ps') = (ps.length == ps'.length && Tg.sameL ps ps') by rw [HS.out]; simp [e4])
            clear hb3
            go_wp2_with fail
            go_ret
            rw [HF.out]
            exact ⟨rfl, HB3.out⟩
          · rw [show (v == v') = false by simp [e4]]
            have HF := Lib.hid (show Tg.same (.mk c tg b v ps) (.mk c tg b v' ps') = false by rw [HS.out]; simp [e4])
            go_wp2_with fail
            go_ret
            rw [HF.out]
            exact ⟨rfl, (BB.out _ _)⟩
        · have HF := Lib.hid (show Tg.same (.mk c tg b v ps) (.mk c tg b' v' ps') = false by rw [HS.out]; simp [e3])
          have hx : (b == b') = false := by simp [e3]
          go_enter Tryd.func36, Tryd.ntmps36
          go_wp2_with fail
          go_ret
          rw [HF.out]
          exact ⟨rfl, (BB.out _ _)⟩
      · have HF := Lib.hid (show Tg.same (.mk c tg b v ps) (.mk c tg' b' v' ps') = false by rw [HS.out]; simp [e2])
        have hx : ((tg : Int) == (tg' : Int)) = false := by
          rw [beq_eq_false_iff_ne]
          omega
        go_enter Tryd.func36, Tryd.ntmps36
        go_wp2_with fail
        go_ret
        rw [HF.out]
        exact ⟨rfl, (BB.out _ _)⟩
    · have HF := Lib.hid (show Tg.same (.mk c tg b v ps) (.mk c' tg' b' v' ps') = false by rw [HS.out]; simp [e1])
      have hx : ((c : Int) == (c' : Int)) = false := by
        rw [beq_eq_false_iff_ne]
        omega
      go_enter Tryd.func36, Tryd.ntmps36
      go_wp2_with fail
      go_ret
      rw [HF.out]
      exact ⟨rfl, (BB.out _ _)⟩
end Go.Proofs.YthonjbaeadbhdaaDoor
