/- Decoding with more bytes behind: what was read stays; no beginning of an encoding is one. In plain Lean. -/
import Derived.Test.YthonjbaeadbhdaaDoorTagsCodePure
namespace Go.Proofs.YthonjbaeadbhdaaDoor.Tg

theorem number_ext (q : Bs) : ∀ (b : Bool) (n : Nat) (s : Bs),
    (∀ m r, numberD b n s = .ok (m, r) → numberD b n (s ++ q) = .ok (m, r ++ q)) ∧ (numberD b n s = .error 3 → numberD b n (s ++ q) = .error 3) ∧ (∀ e, numberD b n s = .error e → e = 3 ∨ e = 4)
  | b, n, [] => by
    refine ⟨fun m r h => by simp [numberD] at h, fun h => by simp [numberD] at h, fun e h => ?_⟩
    simp only [numberD] at h
    injection h with h
    omega
  | b, n, x :: s => by
    have ih := number_ext q false (n * 128 + x.toNat % 128) s
    simp only [List.cons_append, numberD]
    split
    · refine ⟨fun m r h => (by cases h), fun h => (by cases h), fun e h => ?_⟩
      injection h with h
      omega
    · split
      · refine ⟨fun m r h => (by cases h), fun h => rfl, fun e h => ?_⟩
        injection h with h
        omega
      · split
        · split
          · refine ⟨fun m r h => ?_, fun h => (by cases h), fun e h => (by cases h)⟩
            injection h with h
            injection h with h1 h2
            subst h1
            subst h2
            rfl
          · refine ⟨fun m r h => (by cases h), fun h => (by cases h), fun e h => ?_⟩
            injection h with h
            omega
        · exact ih
theorem tag_ext (q : Bs) (x : Nat) (s : Bs) :
    (∀ m r, tagD x s = .ok (m, r) → tagD x (s ++ q) = .ok (m, r ++ q)) ∧ (tagD x s = .error 3 → tagD x (s ++ q) = .error 3) ∧ (∀ e, tagD x s = .error e → e = 3 ∨ e = 4) := by
  unfold tagD
  split
  · exact number_ext q true 0 s
  · refine ⟨fun m r h => ?_, fun h => (by cases h), fun e h => (by cases h)⟩
    injection h with h
    injection h with h1 h2
    subst h1
    subst h2
    rfl
theorem length_ext (q : Bs) (b : Bool) (s : Bs) :
    (∀ m r, lengthD b s = .ok (m, r) → lengthD b (s ++ q) = .ok (m, r ++ q)) ∧ (∀ e, lengthD b s = .error e → e = 4) := by
  cases s with
  | nil =>
    refine ⟨fun m r h => by simp [lengthD] at h, fun e h => ?_⟩
    simp only [lengthD] at h
    injection h with h
    exact h.symm
  | cons x s =>
    simp only [List.cons_append, lengthD]
    split
    · refine ⟨fun m r h => ?_, fun e h => (by cases h)⟩
      injection h with h
      injection h with h1 h2
      subst h1
      subst h2
      rfl
    · split
      · split
        · refine ⟨fun m r h => ?_, fun e h => (by cases h)⟩
          injection h with h
          injection h with h1 h2
          subst h1
          subst h2
          rfl
        · exact ⟨fun m r h => (by cases h), fun e h => by injection h with h; exact h.symm⟩
      · split
        · exact ⟨fun m r h => (by cases h), fun e h => by injection h with h; exact h.symm⟩
        · split
          · exact ⟨fun m r h => (by cases h), fun e h => by injection h with h; exact h.symm⟩
          · rename_i hlt
            refine ⟨fun m r h => ?_, fun e h => (by cases h)⟩
            simp only [Except.ok.injEq, Prod.mk.injEq] at h
            obtain ⟨rfl, rfl⟩ := h
            rw [if_neg (by rw [List.length_append]; omega), List.take_append_of_le_length (by omega), List.drop_append_of_le_length (by omega)]
theorem ahead_ext (q s : Bs) :
    (∀ b r, aheadD s = .ok (b, r) → aheadD (s ++ q) = .ok (b, r ++ q)) ∧ (∀ e, aheadD s = .error e → e = 4) := by
  match s with
  | [] => exact ⟨fun b r h => by simp [aheadD] at h, fun e h => by simp only [aheadD] at h; injection h with h; exact h.symm⟩
  | [x] =>
    simp only [aheadD, List.cons_append, List.nil_append]
    split
    · refine ⟨fun b r h => ?_, fun e h => (by cases h)⟩
      injection h with h
      injection h with h1 h2
      subst h1
      subst h2
      rfl
    · exact ⟨fun b r h => (by cases h), fun e h => by injection h with h; exact h.symm⟩
  | x :: y :: s =>
    simp only [aheadD, List.cons_append]
    split
    · refine ⟨fun b r h => ?_, fun e h => (by cases h)⟩
      injection h with h
      injection h with h1 h2
      subst h1
      subst h2
      rfl
    · split
      · refine ⟨fun b r h => ?_, fun e h => (by cases h)⟩
        injection h with h
        injection h with h1 h2
        subst h1
        subst h2
        rfl
      · exact ⟨fun b r h => (by cases h), fun e h => by injection h with h; exact h.symm⟩
/-- What is asked of a reader here. -/
structure Ext (f : Rd) (q : Bs) : Prop where
  ok : ∀ n s t n' r, f n s = .ok (t, n', r) → f n (s ++ q) = .ok (t, n', r ++ q)
  three : ∀ n s, f n s = .error 3 → f n (s ++ q) = .error 3
  err : ∀ n s e, f n s = .error e → e = 3 ∨ e = 4
theorem open_ext {f : Rd} {q : Bs} (hg : Good f) (hf : Ext f q) : ∀ (k k' n : Nat) (s : Bs) (acc : List Tree), s.length < k → (s ++ q).length < k' →
    (∀ ps n' r, openD f k n s acc = .ok (ps, n', r) → openD f k' n (s ++ q) acc = .ok (ps, n', r ++ q)) ∧ (openD f k n s acc = .error 3 → openD f k' n (s ++ q) acc = .error 3) ∧ (∀ e, openD f k n s acc = .error e → e = 3 ∨ e = 4)
  | 0, _, _, _, _, h, _ => by omega
  | _ + 1, 0, _, _, _, _, h => by omega
  | k + 1, k' + 1, n, s, acc, hk, hk' => by
    have ha := ahead_ext q s
    cases hs : aheadD s with
    | error e =>
      have he := ha.2 e hs
      subst he
      simp only [openD, hs]
      refine ⟨fun ps n' r h => (by cases h), fun h => (by cases h), fun e h => ?_⟩
      injection h with h
      omega
    | ok br =>
      obtain ⟨b, r⟩ := br
      have hr := aheadD_rest hs
      have h1 := ha.1 b r hs
      cases b with
      | false =>
        simp only [openD, hs, h1]
        refine ⟨fun ps n' r' h => ?_, fun h => (by cases h), fun e h => (by cases h)⟩
        injection h with h
        injection h with h1 h2
        injection h2 with h2 h3
        subst h1 h2 h3
        rfl
      | true =>
        cases hfr : f n r with
        | error e =>
          simp only [openD, hs, h1, hfr]
          rcases hf.err _ _ _ hfr with he | he
          · subst he
            rw [hf.three _ _ hfr]
            exact ⟨fun ps n' r h => (by cases h), fun h => rfl, fun e h => by injection h with h; omega⟩
          · subst he
            exact ⟨fun ps n' r h => (by cases h), fun h => (by cases h), fun e h => by injection h with h; omega⟩
        | ok tn =>
          obtain ⟨t, n1, r1⟩ := tn
          have h2 := hf.ok _ _ _ _ _ hfr
          have h3 := hg _ _ _ _ _ hfr
          have ih := open_ext hg hf k k' n1 r1 (acc ++ [t]) (by omega) (by rw [List.length_append] at hk' ⊢; omega)
          simp only [openD, hs, h1, hfr, h2]
          exact ih
theorem closed_fuel {f : Rd} (hg : Good f) : ∀ (k k' n : Nat) (s : Bs) (acc : List Tree), s.length < k → s.length < k' → closedD f k n s acc = closedD f k' n s acc
  | 0, _, _, _, _, h, _ => by omega
  | _ + 1, 0, _, _, _, _, h => by omega
  | k + 1, k' + 1, n, s, acc, hk, hk' => by
    cases s with
    | nil => simp [closedD]
    | cons x s =>
      simp only [closedD]
      cases hfr : f n (x :: s) with
      | error e => rfl
      | ok tn =>
        obtain ⟨t, n1, r1⟩ := tn
        have h3 := hg _ _ _ _ _ hfr
        simp only
        exact closed_fuel hg k k' n1 r1 _ (by omega) (by omega)
theorem closed_err {f : Rd} (hg : Good f) (hf : ∀ n s e, f n s = .error e → e = 3 ∨ e = 4) : ∀ (k n : Nat) (s : Bs) (acc : List Tree), s.length < k → ∀ e, closedD f k n s acc = .error e → e = 3 ∨ e = 4
  | 0, _, _, _, h, _, _ => by omega
  | k + 1, n, s, acc, hk, e, he => by
    cases s with
    | nil => simp [closedD] at he
    | cons x s =>
      simp only [closedD] at he
      cases hfr : f n (x :: s) with
      | error e' =>
        rw [hfr] at he
        simp only at he
        injection he with he
        subst he
        exact hf _ _ _ hfr
      | ok tn =>
        obtain ⟨t, n1, r1⟩ := tn
        have h3 := hg _ _ _ _ _ hfr
        rw [hfr] at he
        simp only at he
        exact closed_err hg hf k n1 r1 _ (by omega) e he
theorem elem_ext (q : Bs) : ∀ d, Ext (elemD d) q
  | 0 => by
    refine ⟨fun n s t n' r h => ?_, fun n s _ => ?_, fun n s e h => ?_⟩
    · simp [elemD] at h
    · simp [elemD]
    · simp only [elemD] at h
      injection h with h
      omega
  | d + 1 => by
    have ih := elem_ext q d
    have hg := elemD_good d
    have all : ∀ n s, (∀ t n' r, elemD (d + 1) n s = .ok (t, n', r) → elemD (d + 1) n (s ++ q) = .ok (t, n', r ++ q)) ∧ (elemD (d + 1) n s = .error 3 → elemD (d + 1) n (s ++ q) = .error 3) ∧ (∀ e, elemD (d + 1) n s = .error e → e = 3 ∨ e = 4) := by
      intro n s
      by_cases hn : 1024 ≤ n
      · simp only [elemD, if_pos hn]
        exact ⟨fun t n' r h => (by cases h), fun _ => (by trivial), fun e h => by injection h with h; omega⟩
      cases s with
      | nil =>
        simp only [elemD, if_neg hn, List.nil_append]
        exact ⟨fun t n' r h => (by cases h), fun h => (by cases h), fun e h => by injection h with h; omega⟩
      | cons x s =>
        simp only [List.cons_append, elemD, if_neg hn]
        have ht := tag_ext q x.toNat s
        cases htg : tagD x.toNat s with
        | error e =>
          simp only
          rcases ht.2.2 _ htg with he | he
          · subst he
            rw [ht.2.1 htg]
            exact ⟨fun t n' r h => (by cases h), fun _ => (by trivial), fun e h => by injection h with h; omega⟩
          · subst he
            exact ⟨fun t n' r h => (by cases h), fun h => (by cases h), fun e h => by injection h with h; omega⟩
        | ok tr =>
          obtain ⟨tg, r2⟩ := tr
          rw [ht.1 _ _ htg]
          simp only
          split
          · exact ⟨fun t n' r h => (by cases h), fun h => (by cases h), fun e h => by injection h with h; omega⟩
          · have hl := length_ext q (decide (x.toNat / 32 % 2 = 1)) r2
            cases hln : lengthD (decide (x.toNat / 32 % 2 = 1)) r2 with
            | error e =>
              have he := hl.2 _ hln
              subst he
              simp only
              exact ⟨fun t n' r h => (by cases h), fun h => (by cases h), fun e h => by injection h with h; omega⟩
            | ok mr =>
              obtain ⟨m, r3⟩ := mr
              rw [hl.1 _ _ hln]
              simp only
              generalize decide (x.toNat / 32 % 2 = 1) = b
              cases m with
              | none =>
                simp only [contentD]
                have ho := open_ext hg ih (r3.length + 1) ((r3 ++ q).length + 1) (n + 1) r3 [] (by omega) (by omega)
                cases hor : openD (elemD d) (r3.length + 1) (n + 1) r3 [] with
                | error e =>
                  rw [hor] at ho
                  simp only
                  rcases ho.2.2 _ rfl with he | he
                  · subst he
                    rw [ho.2.1 rfl]
                    exact ⟨fun t n' r h => (by cases h), fun h => rfl, fun e h => by injection h with h; omega⟩
                  · subst he
                    exact ⟨fun t n' r h => (by cases h), fun h => (by cases h), fun e h => by injection h with h; omega⟩
                | ok pn =>
                  obtain ⟨ps, n1, r4⟩ := pn
                  rw [hor] at ho
                  rw [ho.1 _ _ _ rfl]
                  simp only
                  refine ⟨fun t n' r h => ?_, fun h => (by cases h), fun e h => (by cases h)⟩
                  injection h with h
                  injection h with h1 h2
                  injection h2 with h2 h3
                  subst h1 h2 h3
                  rfl
              | some k =>
                simp only [contentD]
                by_cases hk : r3.length < k
                · rw [if_pos hk]
                  exact ⟨fun t n' r h => (by cases h), fun h => (by cases h), fun e h => by injection h with h; omega⟩
                · have hk2 : ¬ (r3 ++ q).length < k := by rw [List.length_append]; omega
                  rw [if_neg hk, if_neg hk2, List.take_append_of_le_length (by omega), List.drop_append_of_le_length (by omega)]
                  have hfu := closed_fuel hg (r3.length + 1) ((r3 ++ q).length + 1) (n + 1) (r3.take k) [] (by rw [List.length_take]; omega) (by rw [List.length_take, List.length_append]; omega)
                  rw [← hfu]
                  cases b with
                  | false =>
                    simp only [Bool.false_eq_true, if_false]
                    refine ⟨fun t n' r h => ?_, fun h => (by cases h), fun e h => (by cases h)⟩
                    injection h with h
                    injection h with h1 h2
                    injection h2 with h2 h3
                    subst h1 h2 h3
                    rfl
                  | true =>
                    simp only [if_true]
                    cases hcr : closedD (elemD d) (r3.length + 1) (n + 1) (r3.take k) [] with
                    | error e =>
                      have he := closed_err hg ih.err _ _ _ _ (by rw [List.length_take]; omega) _ hcr
                      simp only
                      exact ⟨fun t n' r h => (by cases h), fun h => h, fun e' h => by injection h with h; omega⟩
                    | ok pn =>
                      obtain ⟨ps, n1⟩ := pn
                      simp only
                      refine ⟨fun t n' r h => ?_, fun h => (by cases h), fun e h => (by cases h)⟩
                      injection h with h
                      injection h with h1 h2
                      injection h2 with h2 h3
                      subst h1 h2 h3
                      rfl
    exact ⟨fun n s t n' r h => (all n s).1 t n' r h, fun n s h => (all n s).2.1 h, fun n s e h => (all n s).2.2 e h⟩
/-- NO PROPER BEGINNING OF AN ENCODING IS ONE. -/
theorem elem_prefix {d : Nat} {t : Tree} {f : Nat} (hf : f ≤ 2) (hp : plain t = true) (hd : dep t ≤ d) (hn : cnt t ≤ 1024) (hl : (enc t f).length ≤ 65536) (k : Nat) (hk : k < (enc t f).length) : elemD d 0 ((enc t f).take k) = .error 4 := by
  have hall := elem_back d t f 0 [] hf hp hd (by omega) hl
  rw [List.append_nil] at hall
  have hx := elem_ext ((enc t f).drop k) d
  have hq : (enc t f).drop k ≠ [] := by
    intro h
    have := congrArg List.length h
    simp at this
    omega
  cases hr : elemD d 0 ((enc t f).take k) with
  | ok tn =>
    obtain ⟨t', n', r⟩ := tn
    have := hx.ok _ _ _ _ _ hr
    rw [List.take_append_drop, hall] at this
    injection this with this
    injection this with _ this
    injection this with _ this
    exact absurd (List.append_eq_nil_iff.1 this.symm).2 hq
  | error e =>
    rcases hx.err _ _ _ hr with he | he
    · subst he
      have := hx.three _ _ hr
      rw [List.take_append_drop, hall] at this
      cases this
    · rw [he]
end Go.Proofs.YthonjbaeadbhdaaDoor.Tg
