/- Text and Parse undo each other, in plain Lean: of small trees, of short strings. -/
import Derived.Test.YthonjbaeadbhdaaDoorTagsTextPure
import Derived.Test.YthonjbaeadbhdaaDoorTagsCodePure
import Derived.Test.YthonjbaeadbhdaaDoorTagsText2
import Derived.Lib.ItoaLen
namespace Go.Proofs.YthonjbaeadbhdaaDoor
namespace Tg
mutual
theorem text_wt : ∀ (t : Tree), plain t = true → (text t).length + 1 ≤ 2 * wt t
  | .mk c t b v ps, h => by
    obtain ⟨-, h2, -, -, -, h6⟩ := plain_fields h
    have h1 := textL_wt ps h6 true
    have h3 := Lib.itoa_length_le (t : Int) (by omega) (by omega)
    simp only [text, List.length_append, List.length_cons, wt]
    cases b
    · simp only [Bool.false_eq_true, if_false, List.length_cons, hexs_length]
      omega
    · simp only [if_true, List.length_append, List.length_cons, List.length_nil]
      omega
theorem textL_wt : ∀ (ps : List Tree), plainL ps = true → ∀ f, (textL f ps).length ≤ 2 * wtL ps
  | [], _, f => by simp [textL]
  | p :: ps, h, f => by
    have h1 : plain p = true ∧ plainL ps = true := by simpa [plainL] using h
    have h2 := text_wt p h1.1
    have h3 := textL_wt ps h1.2 false
    simp only [textL, List.length_append, wtL]
    cases f <;> simp <;> omega
end
/-- A small valid tree is read back from its text. -/
theorem text_parse {t : Tree} (h0 : check t = 0) (h1 : plain t = true) (h2 : dep t ≤ 10) (h3 : cnt t ≤ 40) (h4 : wt t ≤ 12960) : parseT (text t) = (t, 0) := by
  have h5 := text_wt t h1
  have h6 := text_back 16 t 0 [] h1 (by omega) (by omega) (fun x s h => by cases h)
  rw [List.append_nil] at h6
  rw [parseT, if_neg (by omega), h6]
  simp only [if_pos h0]
theorem parse_cases (s : List UInt8) (h : s.length ≤ 200) : (∃ u, parseT s = (u, 0) ∧ check u = 0 ∧ text u = s) ∨ parseT s = (.mk 0 0 false [] [], 4) := by
  rw [parseT, if_neg (by omega)]
  split
  · rename_i t n hp
    split
    · rename_i hc
      have h1 := parse_text 16 0 s t n [] hp
      rw [List.append_nil] at h1
      exact .inl ⟨t, rfl, hc, h1.symm⟩
    · exact .inr rfl
  · exact .inr rfl
end Tg
end Go.Proofs.YthonjbaeadbhdaaDoor
