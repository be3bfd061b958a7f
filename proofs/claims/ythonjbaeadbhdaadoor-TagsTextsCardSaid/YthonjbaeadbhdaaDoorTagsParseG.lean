/- What parsing leaves: the count grows, the text shrinks. -/
import Derived.Test.YthonjbaeadbhdaaDoorTagsParse0
namespace Go.Proofs.YthonjbaeadbhdaaDoor
open Go.RowKit

theorem trim_lt {s : List UInt8} {c : UInt8} (h : Lib.hasPrefix s [c] = true) : (Lib.trimPrefix s [c]).length < s.length := by
  cases s with
  | nil => simp [Lib.hasPrefix] at h
  | cons x r => simp [Lib.trimPrefix, h]
theorem trim_le' (s p : List UInt8) : (Lib.trimPrefix s p).length ≤ s.length := by
  unfold Lib.trimPrefix
  split <;> simp
theorem drop_le' (p : UInt8 → Bool) : ∀ l : List UInt8, (l.dropWhile p).length ≤ l.length
  | [] => by simp
  | x :: l => by
    rw [List.dropWhile_cons]
    split
    · have := drop_le' p l
      simp
      omega
    · simp
def Tg.PGood (f : Tg.Pd) : Prop := ∀ n s t n' r, f n s = some (t, n', r) → n < n' ∧ n' ≤ 1024 ∧ r.length < s.length
theorem partsP_good {f : Tg.Pd} (hf : Tg.PGood f) : ∀ (k n : Nat) (s : List UInt8) (acc ps : List Tg.Tree) (n' : Nat) (r : List UInt8), Tg.partsP f k n s acc = some (ps, n', r) → n ≤ n' ∧ (n ≤ 1024 → n' ≤ 1024) ∧ r.length < s.length
  | 0, n, s, acc, ps, n', r, h => by simp [Tg.partsP] at h
  | k + 1, n, s, acc, ps, n', r, h => by
    simp only [Tg.partsP] at h
    split at h
    · rename_i h1
      simp only [Option.some.injEq, Prod.mk.injEq] at h
      obtain ⟨-, rfl, rfl⟩ := h
      exact ⟨Nat.le_refl _, fun h => h, trim_lt h1⟩
    · split at h
      · cases h
      · split at h
        · cases h
        · rename_i t n1 r1 h2
          obtain ⟨a1, a2, a3⟩ := hf _ _ _ _ _ h2
          obtain ⟨b1, b2, b3⟩ := partsP_good hf k n1 r1 _ _ _ _ h
          have h4 : r1.length < s.length := by
            split at a3
            · exact a3
            · have := trim_le' s [32]
              omega
          exact ⟨by omega, fun _ => b2 a2, by omega⟩
theorem parseP_good : ∀ d, Tg.PGood (Tg.parseP d)
  | 0 => fun n s t n' r h => by simp [Tg.parseP] at h
  | d + 1 => fun n s t n' r h => by
    have ih := parseP_good d
    simp only [Tg.parseP] at h
    split at h
    · cases h
    · rename_i hn
      cases s with
      | nil => simp at h
      | cons x s =>
        simp only at h
        split at h
        · cases h
        · split at h
          · cases h
          · have hd := drop_le' (Tg.among digits10) s
            generalize s.dropWhile (Tg.among digits10) = q at *
            simp only [Tg.bodyP] at h
            split at h
            · split at h
              · simp only [Option.some.injEq, Prod.mk.injEq] at h
                obtain ⟨-, rfl, rfl⟩ := h
                have h1 := drop_le' (Tg.among digits16) (Lib.trimPrefix q [61])
                have h2 := trim_le' q [61]
                exact ⟨by omega, by omega, by simp; omega⟩
              · cases h
            · split at h
              · split at h
                · cases h
                · rename_i ps n1 r1 h2
                  simp only [Option.some.injEq, Prod.mk.injEq] at h
                  obtain ⟨-, rfl, rfl⟩ := h
                  obtain ⟨b1, b2, b3⟩ := partsP_good ih _ _ _ _ _ _ _ h2
                  have h3 := trim_le' q [40]
                  have h4 := b2 (by omega)
                  exact ⟨by omega, h4, by simp; omega⟩
              · cases h
end Go.Proofs.YthonjbaeadbhdaaDoor
