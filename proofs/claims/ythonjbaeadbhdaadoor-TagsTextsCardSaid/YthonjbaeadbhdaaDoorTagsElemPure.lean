/- Plain facts on the decoder: counts rise, bytes are used up. -/
import Derived.Test.YthonjbaeadbhdaaDoorTagsPure
namespace Go.Proofs.YthonjbaeadbhdaaDoor.Tg

theorem numberD_rest : ∀ (f : Bool) (n : Nat) (r : Bs) (m : Nat) (r' : Bs), numberD f n r = .ok (m, r') → r'.length < r.length
  | f, n, [], m, r', h => by simp [numberD] at h
  | f, n, x :: r, m, r', h => by
    unfold numberD at h
    split at h
    · cases h
    · split at h
      · cases h
      · split at h
        · split at h
          · injection h with h
            injection h with _ h
            subst h
            simp
          · cases h
        · have := numberD_rest false _ r m r' h
          simp
          omega
theorem tagD_rest {x : Nat} {r r' : Bs} {m : Nat} (h : tagD x r = .ok (m, r')) : r'.length ≤ r.length := by
  unfold tagD at h
  split at h
  · have := numberD_rest _ _ _ _ _ h
    omega
  · injection h with h
    injection h with _ h
    subst h
    exact Nat.le_refl _
theorem lengthD_rest {b : Bool} {r r' : Bs} {m : Option Nat} (h : lengthD b r = .ok (m, r')) : r'.length < r.length := by
  cases r with
  | nil => simp [lengthD] at h
  | cons x r =>
    simp only [lengthD] at h
    split at h
    · injection h with h; injection h with _ h; subst h; simp
    · split at h
      · split at h
        · injection h with h; injection h with _ h; subst h; simp
        · cases h
      · split at h
        · cases h
        · split at h
          · cases h
          · injection h with h
            injection h with _ h
            subst h
            simp
            omega
theorem aheadD_rest {r r' : Bs} {b : Bool} (h : aheadD r = .ok (b, r')) : r'.length ≤ r.length ∧ (b = false → r'.length < r.length) := by
  match r with
  | [] => simp [aheadD] at h
  | x :: r =>
    simp only [aheadD] at h
    split at h
    · injection h with h; injection h with h1 h; subst h; subst h1; simp
    · match r with
      | [] => simp at h
      | y :: r =>
        simp only at h
        split at h
        · injection h with h; injection h with _ h; subst h; simp; omega
        · cases h
/-- What is asked of a reader. -/
def Good (f : Rd) : Prop := ∀ n r t n' r', f n r = .ok (t, n', r') → n < n' ∧ n' ≤ 1024 ∧ r'.length < r.length
theorem openD_rest {f : Rd} (hf : Good f) : ∀ (k n : Nat) (r : Bs) (acc : List Tree) (ps : List Tree) (n' : Nat) (r' : Bs), openD f k n r acc = .ok (ps, n', r') → n ≤ n' ∧ (n ≤ 1024 → n' ≤ 1024) ∧ r'.length < r.length
  | 0, n, r, acc, ps, n', r', h => by simp [openD] at h
  | k + 1, n, r, acc, ps, n', r', h => by
    simp only [openD] at h
    split at h
    · cases h
    · rename_i r1 ha
      have := aheadD_rest ha
      injection h with h
      injection h with _ h
      injection h with h1 h2
      subst h1
      subst h2
      exact ⟨Nat.le_refl _, id, this.2 rfl⟩
    · rename_i r1 ha
      have h1 := aheadD_rest ha
      split at h
      · cases h
      · rename_i t n1 r2 hf1
        have h2 := hf _ _ _ _ _ hf1
        have h3 := openD_rest hf k n1 r2 _ _ _ _ h
        exact ⟨by omega, fun _ => h3.2.1 h2.2.1, by omega⟩
theorem closedD_rest {f : Rd} (hf : Good f) : ∀ (k n : Nat) (r : Bs) (acc : List Tree) (ps : List Tree) (n' : Nat), closedD f k n r acc = .ok (ps, n') → n ≤ n' ∧ (n ≤ 1024 → n' ≤ 1024)
  | 0, n, r, acc, ps, n', h => by simp [closedD] at h
  | k + 1, n, r, acc, ps, n', h => by
    cases r with
    | nil =>
      simp only [closedD] at h
      injection h with h
      injection h with _ h
      subst h
      exact ⟨Nat.le_refl _, id⟩
    | cons x r =>
      simp only [closedD] at h
      split at h
      · cases h
      · rename_i t n1 r2 hf1
        have h2 := hf _ _ _ _ _ hf1
        have h3 := closedD_rest hf k n1 r2 _ _ _ h
        exact ⟨by omega, fun _ => h3.2 h2.2.1⟩
theorem elemD_good : ∀ d, Good (elemD d)
  | 0 => fun n r t n' r' h => by simp [elemD] at h
  | d + 1 => fun n r t n' r' h => by
    have ih := elemD_good d
    simp only [elemD] at h
    split at h
    · cases h
    · rename_i hn
      cases r with
      | nil => simp at h
      | cons x r =>
        simp only at h
        split at h
        · cases h
        · rename_i tg r2 ht
          have h1 := tagD_rest ht
          split at h
          · cases h
          · split at h
            · cases h
            · rename_i m r3 hl
              have h2 := lengthD_rest hl
              unfold contentD at h
              split at h
              · split at h
                · cases h
                · rename_i ps n1 r4 ho
                  have h3 := openD_rest ih _ _ _ _ _ _ _ ho
                  injection h with h
                  injection h with _ h
                  injection h with h4 h5
                  subst h4
                  subst h5
                  have := h3.2.1 (by omega)
                  simp
                  omega
              · split at h
                · cases h
                · split at h
                  · split at h
                    · cases h
                    · rename_i ps n1 ho
                      have h3 := closedD_rest ih _ _ _ _ _ _ ho
                      injection h with h
                      injection h with _ h
                      injection h with h4 h5
                      subst h4
                      subst h5
                      have := h3.2 (by omega)
                      simp
                      omega
                  · injection h with h
                    injection h with _ h
                    injection h with h4 h5
                    subst h4
                    subst h5
                    simp
                    omega
end Go.Proofs.YthonjbaeadbhdaaDoor.Tg
