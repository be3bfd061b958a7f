/- Contracts of tags.plain, and of slices.ContainsFunc and IndexFunc over it. -/
import Derived.Test.YthonjbaeadbhdaaDoorTagsMeasure
namespace Go.Proofs.YthonjbaeadbhdaaDoor
open Go.RowKit

/-- Any block. -/
def AnyB : Nat → Prop := fun _ => True
theorem Keeps.any {w w' : World} (h : Below w.heap.size w w') : Keeps AnyB w w' := Keeps.of_below h _
theorem below_step {w a b : World} (h : Below w.heap.size w a) (k : Below a.heap.size a b) : Below w.heap.size w b := h.trans (k.mono h.size)
theorem below_new {w : World} (o : Obj) : Below w.heap.size w (w.alloc o) := (Below.refl _ _).alloc (Nat.le_refl _) _
/-- The first index of which p holds, or -1. -/
def idxOf {α : Type} (p : α → Bool) : List α → Nat → Int
  | [], _ => -1
  | x :: xs, k => if p x then (k : Int) else idxOf p xs (k + 1)
theorem idxOf_drop {α : Type} {p : α → Bool} {xs : List α} {j : Nat} (hj : j < xs.length) (hp : p xs[j] = false) : idxOf p (xs.drop j) j = idxOf p (xs.drop (j + 1)) (j + 1) := by
  rw [List.drop_eq_getElem_cons hj, idxOf, hp]
  rfl
theorem idxOf_hit {α : Type} {p : α → Bool} {xs : List α} {j : Nat} (hj : j < xs.length) (hp : p xs[j] = true) : idxOf p (xs.drop j) j = j := by
  rw [List.drop_eq_getElem_cons hj, idxOf, hp]
  rfl
/-- A bool handed back, nothing old written. -/
def BoolPost (w : World) (b : Bool) (e : Ending) (w' : World) : Prop := e = .returned (.bool b) ∧ Below w.heap.size w w'
def IntPost (w : World) (n : Int) (e : Ending) (w' : World) : Prop := e = .returned (.int .i64 n) ∧ Below w.heap.size w w'

set_option maxHeartbeats 1000000 in
theorem indexFunc_plain (p : Tg.Tree → Bool) (ps : List Tg.Tree) (xs : List Value) (pa : Option Addr) (pc : Nat) (w : World) (hs : SliceAt AnyB w pa xs) (ht : TreesR AnyB w ps xs) (hl : ps.length ≤ lim)
    (hf : ∀ (j : Nat) (q : Tg.Tree) (x : Value) (w1 : World), ps[j]? = some q → TreeR AnyB w1 q x → Calls Tryd.prog 56 #[x] w1 (BoolPost w1 (p q))) :
    Calls Tryd.prog 45 #[.slice pa ps.length pc, .func (.func 56) #[] #[]] w (IntPost w (idxOf p ps 0)) := by
  unfold lim at hl
  have HF := Lib.hid hf
  have HS := Lib.hid hs
  have HT := Lib.hid ht
  clear hf hs ht
  go_enter Tryd.func45, Tryd.ntmps45
  go_wp2_with fail
  go_loopw [8] (fun i wr => ∃ j : Nat, j ≤ ps.length ∧ i = .int .i64 j ∧ Below w.heap.size w wr ∧ Hid (idxOf p (ps.drop j) j = idxOf p ps 0)) (fun i _ => ps.length - (intOf i).toNat)
  case atStart => exact ⟨0, Nat.zero_le _, rfl, Below.refl _ _, rfl⟩
  case round =>
    obtain ⟨j, hj, rfl, hb, hr⟩ := hrel
    have HB := Lib.hid hb
    clear hb
    by_cases hlt : j < ps.length
    · obtain ⟨g, o, va', vc', pa', pc', rfl, -, hx, c0, c1, c2, c3, c4⟩ := part_cells (HS.out.keep (Keeps.any HB.out)) (TreesR.keep (Keeps.any HB.out) _ _ HT.out) (List.getElem?_eq_getElem hlt)
      have HX := Lib.hid hx
      have HI := Lib.hid (And.intro (idxOf_hit (p := p) hlt) (idxOf_drop (p := p) hlt))
      clear hx
      go_wp2_with fail
      refine (HF.out j ps[j] _ _ (List.getElem?_eq_getElem hlt) HX.out).mono ?_
      rintro e w' ⟨rfl, hb'⟩
      have HB' := Lib.hid (below_step HB.out hb')
      clear hb' HB
      obtain ⟨hh, hd⟩ := HI.out
      generalize p ps[j] = r at *
      cases r
      · have HD := Lib.hid (hd rfl)
        clear hh hd
        go_wp2_with fail
        go_roundw
        case rel => exact ⟨j + 1, by omega, by go_num, HB'.out, HD.out.symm.trans hr.out⟩
        case measure => simp [intOf]; omega
      · have HH := Lib.hid (hh rfl)
        clear hh hd
        go_wp2_with fail
        go_ret
        rw [← hr.out, HH.out]
        exact ⟨rfl, HB'.out⟩
    · have HJ := Lib.hid (show j = ps.length by omega)
      go_wp2_with fail
      go_ret
      have h0 := hr.out
      rw [HJ.out, List.drop_length, idxOf] at h0
      rw [← h0]
      exact ⟨rfl, HB.out⟩

theorem idxOf_ge {α : Type} (p : α → Bool) : ∀ (l : List α) (k : Nat), decide (0 ≤ idxOf p l k) = l.any p
  | [], k => by simp [idxOf]
  | x :: l, k => by
    simp only [idxOf, List.any_cons]
    by_cases h : p x = true
    · simp [h]
    · simp [h, idxOf_ge p l (k + 1)]

theorem containsFunc_plain (p : Tg.Tree → Bool) (ps : List Tg.Tree) (xs : List Value) (pa : Option Addr) (pc : Nat) (w : World) (hs : SliceAt AnyB w pa xs) (ht : TreesR AnyB w ps xs) (hl : ps.length ≤ lim)
    (hf : ∀ (j : Nat) (q : Tg.Tree) (x : Value) (w1 : World), ps[j]? = some q → TreeR AnyB w1 q x → Calls Tryd.prog 56 #[x] w1 (BoolPost w1 (p q))) :
    Calls Tryd.prog 55 #[.slice pa ps.length pc, .func (.func 56) #[] #[]] w (BoolPost w (ps.any p)) := by
  have HI := Lib.hid (indexFunc_plain p ps xs pa pc w hs ht hl hf)
  have HG := Lib.hid (idxOf_ge p ps 0)
  clear hs ht hf
  go_enter Tryd.func55, Tryd.ntmps55
  go_wp2_with fail
  refine HI.out.mono ?_
  rintro e w' ⟨rfl, hb⟩
  have HB := Lib.hid hb
  clear hb
  go_wp2_with fail
  go_ret
  rw [← HG.out]
  exact ⟨rfl, HB.out⟩

theorem closure_plain (t : Tg.Tree) (x : Value) (w : World) (ht : TreeR AnyB w t x) (hf : ∀ w1, TreeR AnyB w1 t x → Calls Tryd.prog 38 #[x] w1 (BoolPost w1 (Tg.plain t))) :
    Calls Tryd.prog 56 #[x] w (BoolPost w (!Tg.plain t)) := by
  obtain ⟨va, vc, pa, pc, rfl⟩ := ht.form
  have HT := Lib.hid ht
  have HF := Lib.hid hf
  clear ht hf
  go_enter Tryd.func56, Tryd.ntmps56
  go_wp2_with fail
  refine (HF.out _ (TreeR.keep (Keeps.any (below_new _)) _ _ HT.out)).mono ?_
  rintro e w' ⟨rfl, hb⟩
  have HB := Lib.hid (below_step (below_new _) hb)
  clear hb
  go_wp2_with fail
  go_ret
  exact ⟨rfl, HB.out⟩

theorem plainL_all : ∀ (ps : List Tg.Tree), Tg.plainL ps = !(ps.any fun q => !Tg.plain q)
  | [] => rfl
  | p :: ps => by simp [Tg.plainL, plainL_all ps]

set_option maxHeartbeats 1000000 in
theorem plain_any (k : Nat) : ∀ (t : Tg.Tree) (x : Value) (w : World), sz t ≤ k → TreeR AnyB w t x → Calls Tryd.prog 38 #[x] w (BoolPost w (Tg.plain t)) := by
  induction k with
  | zero =>
    intro t
    obtain ⟨c, tg, b, v, ps⟩ := t
    intro x w hk
    simp [sz] at hk
  | succ k ih =>
    intro t
    obtain ⟨c, tg, b', v, ps⟩ := t
    intro x w hk ht
    obtain ⟨h1, h2, h3, h4, va, vc, pa, pc, rfl, h5, h6, h7, xs, h8, h9⟩ := ht.open
    have H8 := Lib.hid h8
    have H9 := Lib.hid h9
    have IH := Lib.hid ih
    have H4 := Lib.hid h4
    unfold lim at h3 h4
    simp only [sz] at hk
    clear ih ht h7 h8 h9
    have HB := Lib.hid (fun o : Obj => below_new (w := w) o)
    have call : ∀ x' w1, Below w.heap.size w w1 → Calls Tryd.prog 55 #[.slice pa ps.length pc, .func (.func 56) #[] #[]] w1 (BoolPost w1 (ps.any x')) ∨ x' ≠ fun q => !Tg.plain q := by
      intro x' w1 hb
      by_cases he : x' = fun q => !Tg.plain q
      · subst he
        refine .inl (containsFunc_plain _ ps xs pa pc w1 (H8.out.keep (Keeps.any hb)) (TreesR.keep (Keeps.any hb) _ _ H9.out) H4.out fun j q x w2 hq hx => closure_plain q x w2 hx fun w3 h3 => IH.out q x w3 ?_ h3)
        have := sz_get ps j q hq
        omega
      · exact .inr he
    have CALL := Lib.hid (fun w1 hb => (call (fun q => !Tg.plain q) w1 hb).resolve_right (fun h => h rfl))
    clear call IH H8 H9 H4
    by_cases hc3 : 3 < c
    · have HF := Lib.hid (show Tg.plain (.mk c tg b' v ps) = false by simp [Tg.plain, hc3])
      go_enter Tryd.func38, Tryd.ntmps38
      go_wp2_with fail
      go_ret
      rw [HF.out]
      exact ⟨rfl, HB.out _⟩
    by_cases ht2 : 2097151 < tg
    · have HF := Lib.hid (show Tg.plain (.mk c tg b' v ps) = false by simp [Tg.plain, ht2])
      go_enter Tryd.func38, Tryd.ntmps38
      go_wp2_with fail
      go_ret
      rw [HF.out]
      exact ⟨rfl, HB.out _⟩
    by_cases h0 : c = 0 ∧ tg = 0
    · obtain ⟨rfl, rfl⟩ := h0
      have HF := Lib.hid (show Tg.plain (.mk 0 0 b' v ps) = false by simp [Tg.plain])
      go_enter Tryd.func38, Tryd.ntmps38
      go_wp2_with fail
      go_ret
      rw [HF.out]
      exact ⟨rfl, HB.out _⟩
    have HP := Lib.hid (show Tg.plain (.mk c tg b' v ps) = (!((b' && decide (0 < v.length)) || (!b' && decide (0 < ps.length))) && Tg.plainL ps) by
      have e1 : (decide (3 < c)) = false := by simp; omega
      have e2 : (decide (2097151 < tg)) = false := by simp; omega
      have e3 : (c == 0 && tg == 0) = false := by simp; omega
      simp only [Tg.plain, e1, e2, e3]
      simp)
    have hcase : (((c : Int) == 0) = true ∧ ((tg : Int) == 0) = false) ∨ (((c : Int) == 0) = false) := by
      by_cases hc : c = 0
      · exact .inl ⟨by simp [hc], by simp; omega⟩
      · exact .inr (by simp; omega)
    rcases b' with _ | _
    · by_cases hps : 0 < ps.length
      · have HF := Lib.hid (show Tg.plain (.mk c tg false v ps) = false by rw [HP.out]; simp [hps])
        rcases hcase with ⟨hc1, hc2⟩ | hc1
        all_goals
          go_enter Tryd.func38, Tryd.ntmps38
          go_wp2_with fail
          go_ret
          rw [HF.out]
          exact ⟨rfl, HB.out _⟩
      · have HF := Lib.hid (show Tg.plain (.mk c tg false v ps) = !(ps.any fun q => !Tg.plain q) by rw [HP.out]; simp only [hps, plainL_all]; simp)
        rcases hcase with ⟨hc1, hc2⟩ | hc1
        all_goals
          go_enter Tryd.func38, Tryd.ntmps38
          go_wp2_with fail
          refine (CALL.out _ (HB.out _)).mono ?_
          rintro e w' ⟨rfl, hb⟩
          have HB' := Lib.hid (below_step (HB.out _) hb)
          clear hb
          go_wp2_with fail
          go_ret
          rw [HF.out]
          exact ⟨rfl, HB'.out⟩
    · by_cases hv : 0 < v.length
      · have HF := Lib.hid (show Tg.plain (.mk c tg true v ps) = false by rw [HP.out]; simp [hv])
        rcases hcase with ⟨hc1, hc2⟩ | hc1
        all_goals
          go_enter Tryd.func38, Tryd.ntmps38
          go_wp2_with fail
          go_ret
          rw [HF.out]
          exact ⟨rfl, HB.out _⟩
      · have HF := Lib.hid (show Tg.plain (.mk c tg true v ps) = !(ps.any fun q => !Tg.plain q) by rw [HP.out]; simp only [hv, plainL_all]; simp)
        rcases hcase with ⟨hc1, hc2⟩ | hc1
        all_goals
          go_enter Tryd.func38, Tryd.ntmps38
          go_wp2_with fail
          refine (CALL.out _ (HB.out _)).mono ?_
          rintro e w' ⟨rfl, hb⟩
          have HB' := Lib.hid (below_step (HB.out _) hb)
          clear hb
          go_wp2_with fail
          go_ret
          rw [HF.out]
          exact ⟨rfl, HB'.out⟩
end Go.Proofs.YthonjbaeadbhdaaDoor
