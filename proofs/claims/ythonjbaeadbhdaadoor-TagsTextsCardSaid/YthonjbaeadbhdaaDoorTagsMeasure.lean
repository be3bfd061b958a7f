/- Contract of tags.measure. -/
import Derived.Test.YthonjbaeadbhdaaDoorHeap
namespace Go.Proofs.YthonjbaeadbhdaaDoor
open Go.RowKit

mutual
theorem meas_pos : ∀ (t : Tg.Tree) (d n : Nat), n ≤ (Tg.meas t d n).2
  | .mk _ _ _ _ ps, d, n => by
    simp only [Tg.meas]
    split
    · simp
    · have := measL_pos ps (d + 1) (n + 1)
      omega
theorem measL_pos : ∀ (ps : List Tg.Tree) (d n : Nat), n ≤ (Tg.measL ps d n).2
  | [], _, n => by simp [Tg.measL]
  | p :: ps, d, n => by
    have h1 := meas_pos p d n
    simp only [Tg.measL]
    split
    · rename_i m h
      rw [h] at h1
      have := measL_pos ps d m
      simp at h1
      omega
    · rename_i m h
      rw [h] at h1
      simpa using h1
end
mutual
theorem meas_true : ∀ (t : Tg.Tree) (d n : Nat), n ≤ 1024 → (Tg.meas t d n).1 = true → (Tg.meas t d n).2 ≤ 1024
  | .mk _ _ _ _ ps, d, n => by
    intro hn
    simp only [Tg.meas]
    split
    · simp
    · exact measL_true ps (d + 1) (n + 1) (by omega)
theorem measL_true : ∀ (ps : List Tg.Tree) (d n : Nat), n ≤ 1024 → (Tg.measL ps d n).1 = true → (Tg.measL ps d n).2 ≤ 1024
  | [], _, n => by simp [Tg.measL]
  | p :: ps, d, n => by
    intro hn
    have h1 := meas_true p d n hn
    simp only [Tg.measL]
    split
    · rename_i m h
      rw [h] at h1
      exact measL_true ps d m (by simpa using h1)
    · simp
end
theorem measL_step {ps : List Tg.Tree} {j : Nat} {p : Tg.Tree} (hp : ps[j]? = some p) (d n : Nat) (hm : (Tg.meas p d n).1 = true) : Tg.measL (ps.drop (j + 1)) d (Tg.meas p d n).2 = Tg.measL (ps.drop j) d n := by
  obtain ⟨hj, rfl⟩ := List.getElem?_eq_some_iff.1 hp
  rw [List.drop_eq_getElem_cons hj, Tg.measL]
  generalize Tg.meas ps[j] d n = r at *
  obtain ⟨a, b⟩ := r
  simp at hm
  subst hm
  rfl
theorem measL_stop {ps : List Tg.Tree} {j : Nat} {p : Tg.Tree} (hp : ps[j]? = some p) (d n : Nat) (hm : (Tg.meas p d n).1 = false) : Tg.measL (ps.drop j) d n = (false, (Tg.meas p d n).2) := by
  obtain ⟨hj, rfl⟩ := List.getElem?_eq_some_iff.1 hp
  rw [List.drop_eq_getElem_cons hj, Tg.measL]
  generalize Tg.meas ps[j] d n = r at *
  obtain ⟨a, b⟩ := r
  simp at hm
  subst hm
  rfl
mutual
def sz : Tg.Tree → Nat
  | .mk _ _ _ _ ps => szL ps + 1
def szL : List Tg.Tree → Nat
  | [] => 0
  | p :: ps => sz p + szL ps
end
theorem sz_get : ∀ (ps : List Tg.Tree) (j : Nat) (p : Tg.Tree), ps[j]? = some p → sz p ≤ szL ps
  | [], j, p, h => by simp at h
  | q :: ps, 0, p, h => by
    simp at h
    subst h
    simp [szL]
  | q :: ps, j + 1, p, h => by
    have := sz_get ps j p (by simpa using h)
    simp only [szL]
    omega

/-- What 'measure' hands back. -/
def MeasPost (w : World) (cg : Nat) (r : Bool × Nat) (e : Ending) (w' : World) : Prop :=
  e = .returned (.bool r.1) ∧ w'.heap[cg]? = some (.cells #[.int .i64 r.2] 3 (0, 0)) ∧ w.grownBy w' (some cg)

set_option maxHeartbeats 1000000 in
theorem measure_any (k : Nat) : ∀ (t : Tg.Tree) (x : Value) (D : Int) (d n cg : Nat) (w : World), sz t ≤ k → TreeR (· ≠ cg) w t x → D = d → d ≤ 17 → n ≤ 1024 → w.heap[cg]? = some (.cells #[.int .i64 n] 3 (0, 0)) →
    Calls Tryd.prog 37 #[x, .int .i64 D, .pointer (some ⟨cg, 0, none⟩)] w (MeasPost w cg (Tg.meas t d n)) := by
  induction k with
  | zero =>
    intro t
    obtain ⟨c, tg, b', v, ps⟩ := t
    intro x D d n cg w hk
    simp [sz] at hk
  | succ k ih =>
    intro t
    obtain ⟨c, tg, b', v, ps⟩ := t
    intro x D d n cg w hk ht hD hd hn hc
    subst hD
    obtain ⟨h1, h2, h3, h4, va, vc, pa, pc, rfl, h5, h6, h7, xs, h8, h9⟩ := ht.open
    have hcell := cell_of_one hc
    have hfree := free_of_one hc
    have hlt : cg < w.heap.size := lt_of_block hc
    unfold lim at h3 h4
    simp only [sz] at hk
    have stop : (16 < d ∨ 1024 < n + 1) → Tg.meas (.mk c tg b' v ps) d n = (false, n + 1) := fun hb => by simp only [Tg.meas]; rw [if_pos hb]
    have go : ¬ (16 < d ∨ 1024 < n + 1) → Tg.meas (.mk c tg b' v ps) d n = Tg.measL ps (d + 1) (n + 1) := fun hb => by simp only [Tg.meas]; rw [if_neg hb]
    have IH := Lib.hid ih
    have HO := Lib.hid hc
    have ST := Lib.hid stop
    have GO := Lib.hid go
    have H8 := Lib.hid h8
    have H9 := Lib.hid h9
    clear ih hc stop go ht h7 h8 h9
    have fin0 : ∀ (a b : World) (x : Value), b = (w.setCell ⟨cg, 0, none⟩ (.int .i64 (n + 1))).alloc (.cells #[.int .u8 c, .int .u32 tg, .bool b', .slice va v.length vc, .slice pa ps.length pc] 36) → a = w → w.grownBy b (some cg) ∧ b.heap[cg]? = some (.cells #[.int .i64 (n + 1 : Nat)] 3 (0, 0)) := by
      intro a b x hb _
      subst hb
      exact ⟨grown_trans (grown_setCell _ _ _) (grown_alloc _ _ _), heap_alloc (one_setCell HO.out) _⟩
    have F0 := Lib.hid fin0
    clear fin0
    by_cases hb : 16 < d
    · go_enter Tryd.func37, Tryd.ntmps37
      go_wp2_with fail
      go_ret
      rw [ST.out (.inl hb)]
      exact ⟨rfl, (F0.out _ _ (.bool true) rfl rfl).2, (F0.out _ _ (.bool true) rfl rfl).1⟩
    by_cases hb2 : 1024 < n + 1
    · go_enter Tryd.func37, Tryd.ntmps37
      go_wp2_with fail
      go_ret
      rw [ST.out (.inr hb2)]
      exact ⟨rfl, (F0.out _ _ (.bool true) rfl rfl).2, (F0.out _ _ (.bool true) rfl rfl).1⟩
    have GO' := Lib.hid (GO.out (by omega))
    clear GO ST
    go_enter Tryd.func37, Tryd.ntmps37
    go_wp2_with fail
    go_loopw [25] (fun i wr => ∃ j n' : Nat, j ≤ ps.length ∧ i = .int .i64 j ∧ n' ≤ 1024 ∧ wr.heap[cg]? = some (.cells #[.int .i64 n'] 3 (0, 0)) ∧ w.grownBy wr (some cg) ∧ Hid (Tg.measL (ps.drop j) (d + 1) n' = Tg.measL ps (d + 1) (n + 1)))
      (fun i _ => ps.length - (intOf i).toNat)
    case atStart =>
      exact ⟨0, n + 1, Nat.zero_le _, rfl, by omega, (F0.out _ _ (.bool true) rfl rfl).2, (F0.out _ _ (.bool true) rfl rfl).1, rfl⟩
    case round =>
      obtain ⟨j, n', hj, rfl, hn', hcr, hgr, hrel'⟩ := hrel
      have HC := Lib.hid hcr
      have HG := Lib.hid hgr
      clear hcr hgr
      by_cases hlt : j < ps.length
      · obtain ⟨g, o, va', vc', pa', pc', rfl, hgc, hx, c0, c1, c2, c3, c4⟩ := part_cells (H8.out.keep (Keeps.of_grown HG.out (by intro k hk; simp [hk]))) (TreesR.keep (Keeps.of_grown HG.out (by intro k hk; simp [hk])) _ _ H9.out) (List.getElem?_eq_getElem hlt)
        have HX := Lib.hid hx
        clear hx
        have hcj := measL_step (List.getElem?_eq_getElem hlt) (d + 1) n'
        have hcs := measL_stop (List.getElem?_eq_getElem hlt) (d + 1) n'
        have hct := meas_true ps[j] (d + 1) n' hn'
        have HT := Lib.hid (show _ ∧ _ ∧ _ from ⟨hcj, hcs, hct⟩)
        clear hcj hcs hct
        have hsz := sz_get ps j _ (List.getElem?_eq_getElem hlt)
        go_wp2_with fail
        refine (IH.out ps[j] _ _ (d + 1) n' cg _ (by omega) (TreeR.keep (Keeps.of_below ((Below.refl _ _).alloc (Nat.le_refl _) _) _) _ _ HX.out) (by omega) (by omega) hn' (heap_alloc HC.out _)).mono ?_
        rintro e w' ⟨rfl, hc', hg'⟩
        have HG' := Lib.hid (grown_trans HG.out (grown_trans (grown_alloc _ _ _) hg'))
        have HC' := Lib.hid hc'
        clear hc' hg' HG HC HX
        obtain ⟨hcj, hcs, hct⟩ := HT.out
        clear HT
        generalize Tg.meas ps[j] (d + 1) n' = r at *
        obtain ⟨rb, rn⟩ := r
        cases rb
        · have HS := Lib.hid (hcs rfl)
          clear hcj hcs hct
          go_wp2_with fail
          go_ret
          rw [GO'.out, ← hrel'.out, HS.out]
          exact ⟨rfl, HC'.out, HG'.out⟩
        · have HS := Lib.hid (hcj rfl)
          have hrn := hct rfl
          clear hcj hcs hct
          go_wp2_with fail
          go_roundw
          case rel => exact ⟨j + 1, rn, by omega, by go_num, hrn, HC'.out, HG'.out, HS.out.trans hrel'.out⟩
          case measure => simp [intOf]; omega
      · have hje : j = ps.length := by omega
        have HJ := Lib.hid hje
        clear hje
        go_wp2_with fail
        go_ret
        have h0 := hrel'.out
        rw [HJ.out, List.drop_length, Tg.measL] at h0
        rw [GO'.out, ← h0]
        exact ⟨rfl, HC.out, HG.out⟩
end Go.Proofs.YthonjbaeadbhdaaDoor
