/- Decoding undoes encoding, in every form; in plain Lean. -/
import Derived.Test.YthonjbaeadbhdaaDoorTagsTree0
import Derived.Test.YthonjbaeadbhdaaDoorTagsElemPure
namespace Go.Proofs.YthonjbaeadbhdaaDoor.Tg

theorem ofNat_toNat {n : Nat} (h : n < 256) : (UInt8.ofNat n).toNat = n := by rw [UInt8.toNat_ofNat', Nat.mod_eq_of_lt (by omega)]
/-- The groups of a tag are read back. -/
theorem number_groups (t : Nat) (h31 : 31 ≤ t) (ht : t ≤ 2097151) (r : Bs) : numberD true 0 (groups t ++ r) = .ok (t, r) := by
  have step : ∀ (n x : Nat) (s : Bs), 128 < x → x < 256 → n * 128 + x % 128 ≤ 2097151 → ∀ b, numberD b n (UInt8.ofNat x :: s) = numberD false (n * 128 + x % 128) s := fun n x s h1 h2 h3 b => by
    rw [numberD, ofNat_toNat h2, if_neg (fun h => by have := h.2; omega), if_neg (by omega), if_neg (by omega)]
  have step' : ∀ (n x : Nat) (s : Bs), 128 ≤ x → x < 256 → n * 128 + x % 128 ≤ 2097151 → numberD false n (UInt8.ofNat x :: s) = numberD false (n * 128 + x % 128) s := fun n x s h1 h2 h3 => by
    rw [numberD, ofNat_toNat h2, if_neg (by simp), if_neg (by omega), if_neg (by omega)]
  have last : ∀ (n x : Nat) (s : Bs), x < 128 → n * 128 + x ≤ 2097151 → 31 ≤ n * 128 + x → ∀ b, numberD b n (UInt8.ofNat x :: s) = .ok (n * 128 + x, s) := fun n x s h1 h2 h3 b => by
    rw [numberD, ofNat_toNat (by omega), if_neg (fun h => by have := h.2; omega), show x % 128 = x by omega, if_neg (by omega), if_pos h1, if_pos h3]
  unfold groups
  by_cases h1 : t < 128
  · rw [show t / 128 = 0 by omega, show t % 128 = t by omega]
    simp only [hi, if_true, List.nil_append, List.cons_append]
    rw [last 0 t r h1 (by omega) (by omega)]
    simp
  · by_cases h2 : t < 16384
    · have e1 : hi 5 (t / 128) = [UInt8.ofNat (128 + t / 128 % 128)] := by
        rw [hi, if_neg (by omega), show t / 128 / 128 = 0 by omega]
        simp [hi]
      rw [e1]
      simp only [List.cons_append, List.nil_append]
      rw [step 0 _ _ (by omega) (by omega) (by omega), last _ _ r (by omega) (by omega) (by omega)]
      congr 2
      omega
    · have e1 : hi 5 (t / 128) = [UInt8.ofNat (128 + t / 128 / 128 % 128), UInt8.ofNat (128 + t / 128 % 128)] := by
        rw [hi, if_neg (by omega), hi, if_neg (by omega), show t / 128 / 128 / 128 = 0 by omega]
        simp [hi]
      rw [e1]
      simp only [List.cons_append, List.nil_append]
      rw [step 0 _ _ (by omega) (by omega) (by omega), step' _ _ _ (by omega) (by omega) (by omega), last _ _ r (by omega) (by omega) (by omega)]
      congr 2
      omega
/-- The identifier is read back. -/
theorem ident_back (c t : Nat) (b : Bool) (hc : c ≤ 3) (ht : t ≤ 2097151) (r : Bs) : ∃ x s, ident c t b ++ r = x :: s ∧ x.toNat / 64 = c ∧ decide (x.toNat / 32 % 2 = 1) = b ∧ tagD x.toNat s = .ok (t, r) ∧ (c = 0 ∧ t = 0 ∨ x.toNat ≠ 0) := by
  have hf : first c b = c * 64 + if b then 32 else 0 := by
    unfold first
    rw [Nat.mod_eq_of_lt (by omega)]
  have hb : (if b = true then 32 else 0) = (if b = true then 1 else 0) * 32 := by cases b <;> rfl
  by_cases h : t < 31
  · refine ⟨UInt8.ofNat (first c b + t), r, by rw [ident, if_pos h]; rfl, ?_⟩
    have hx : first c b + t < 256 := by rw [hf]; split <;> omega
    rw [ofNat_toNat hx, hf]
    cases b
    · simp only [Bool.false_eq_true, if_false]
      refine ⟨by omega, by simp; omega, ?_, by omega⟩
      rw [tagD, if_neg (by omega), show (c * 64 + 0 + t) % 32 = t by omega]
    · simp only [if_true]
      refine ⟨by omega, by simp; omega, ?_, by omega⟩
      rw [tagD, if_neg (by omega), show (c * 64 + 32 + t) % 32 = t by omega]
  · refine ⟨UInt8.ofNat (first c b + 31), groups t ++ r, by rw [ident, if_neg h]; rfl, ?_⟩
    have hx : first c b + 31 < 256 := by rw [hf]; split <;> omega
    rw [ofNat_toNat hx, hf]
    cases b
    · simp only [Bool.false_eq_true, if_false]
      exact ⟨by omega, by simp; omega, by rw [tagD, if_pos (by omega)]; exact number_groups t (by omega) ht r, by omega⟩
    · simp only [if_true]
      exact ⟨by omega, by simp; omega, by rw [tagD, if_pos (by omega)]; exact number_groups t (by omega) ht r, by omega⟩
/-- Lengths. -/
theorem be1 (n : Nat) : be 1 n = [UInt8.ofNat n] := by simp [be]
theorem be2 (n : Nat) : be 2 n = [UInt8.ofNat (n / 256), UInt8.ofNat n] := by simp [be]
theorem be3 (n : Nat) : be 3 n = [UInt8.ofNat (n / 65536), UInt8.ofNat (n / 256), UInt8.ofNat n] := by simp [be]
theorem be4 (n : Nat) : be 4 n = [UInt8.ofNat (n / 16777216), UInt8.ofNat (n / 65536), UInt8.ofNat (n / 256), UInt8.ofNat n] := by simp [be]
theorem ofNat_mod (n : Nat) : (UInt8.ofNat n).toNat = n % 256 := by rw [UInt8.toNat_ofNat']
theorem lenOf_be (n k : Nat) (h : n ≤ 65536) (hk : k = 1 ∧ n < 256 ∨ k = 2 ∧ n < 65536 ∨ k = 3 ∨ k = 4) : lenOf (be k n) = n := by
  rcases hk with ⟨rfl, h1⟩ | ⟨rfl, h1⟩ | rfl | rfl
  · rw [be1]
    simp only [lenOf, List.foldl_cons, List.foldl_nil, ofNat_mod]
    omega
  · rw [be2]
    simp only [lenOf, List.foldl_cons, List.foldl_nil, ofNat_mod]
    omega
  · rw [be3]
    simp only [lenOf, List.foldl_cons, List.foldl_nil, ofNat_mod]
    omega
  · rw [be4]
    simp only [lenOf, List.foldl_cons, List.foldl_nil, ofNat_mod]
    omega
theorem be_len : ∀ k n, (be k n).length = k
  | 0, _ => rfl
  | k + 1, n => by simp [be, be_len k n]
theorem nb_small (n : Nat) (h : n ≤ 65536) (h1 : 128 ≤ n) : (nb 8 n = 1 ∧ n < 256) ∨ (nb 8 n = 2 ∧ n < 65536) ∨ (nb 8 n = 3 ∧ n = 65536) := by
  by_cases h2 : n < 256
  · left
    refine ⟨?_, h2⟩
    rw [nb, if_neg (by omega), show n / 256 = 0 by omega]
    simp [nb]
  · by_cases h3 : n < 65536
    · right; left
      refine ⟨?_, h3⟩
      rw [nb, if_neg (by omega), nb, if_neg (by omega), show n / 256 / 256 = 0 by omega]
      simp [nb]
    · right; right
      have : n = 65536 := by omega
      subst this
      exact ⟨by decide, rfl⟩
theorem length_back (n f : Nat) (b : Bool) (h : n ≤ 65536) (r : Bs) : lengthD b (size n f ++ r) = .ok (some n, r) := by
  have long : ∀ k, 1 ≤ k → k ≤ 4 → (k = 1 ∧ n < 256 ∨ k = 2 ∧ n < 65536 ∨ k = 3 ∨ k = 4) → lengthD b (UInt8.ofNat (128 + k) :: (be k n ++ r)) = .ok (some n, r) := fun k h1 h4 hk => by
    have hl : (be k n ++ r).length = k + r.length := by rw [List.length_append, be_len]
    rw [lengthD, ofNat_toNat (by omega), if_neg (by omega), if_neg (by omega), if_neg (by omega), if_neg (by rw [hl]; omega), show 128 + k - 128 = k by omega]
    rw [List.take_append_of_le_length (by rw [be_len]; omega), List.drop_append_of_le_length (by rw [be_len]; omega), List.take_of_length_le (by rw [be_len]; omega), List.drop_of_length_le (by rw [be_len]; omega), lenOf_be n k h hk]
    simp
  unfold size
  split
  · exact long 4 (by omega) (by omega) (by omega)
  · split
    · rename_i hf hn
      simp only [List.cons_append, List.nil_append]
      rw [lengthD, ofNat_toNat (by omega), if_pos hn]
    · rename_i hf hn
      rcases nb_small n h (by omega) with ⟨h1, h2⟩ | ⟨h1, h2⟩ | ⟨h1, h2⟩ <;> rw [h1] <;> exact long _ (by omega) (by omega) (by omega)
/-! ### A whole element -/
/-- The first byte of an encoding is no end mark. -/
theorem enc_head {c t : Nat} {b : Bool} {v : List UInt8} {ps : List Tree} (hp : plain (.mk c t b v ps) = true) (f : Nat) (r : Bs) : ∃ x s, enc (.mk c t b v ps) f ++ r = x :: s ∧ x.toNat ≠ 0 := by
  have h3 : c ≤ 3 ∧ t ≤ 2097151 ∧ ¬ (c = 0 ∧ t = 0) := by
    simp [plain] at hp
    omega
  rw [enc, List.append_assoc]
  obtain ⟨x, s, h1, -, -, -, h2⟩ := ident_back c t b h3.1 h3.2.1 (body (v ++ encL ps (sub b f)) (sub b f) ++ r)
  refine ⟨x, s, h1, ?_⟩
  rcases h2 with h2 | h2
  · exact absurd h2 h3.2.2
  · exact h2
theorem encL_len_le (ps : List Tree) (f : Nat) : ∀ p ∈ ps, (enc p f).length ≤ (encL ps f).length := by
  induction ps with
  | nil => intro p h; simp at h
  | cons q ps ih =>
    intro p h
    simp only [encL, List.length_append]
    rcases List.mem_cons.1 h with rfl | h
    · omega
    · have := ih p h
      omega
theorem enc_content_le (c t : Nat) (b : Bool) (v : List UInt8) (ps : List Tree) (f : Nat) : (v ++ encL ps (sub b f)).length < (enc (.mk c t b v ps) f).length := by
  have hi : 1 ≤ (ident c t b).length := by unfold ident; split <;> simp
  rw [enc, List.length_append]
  unfold body
  split
  · simp
    omega
  · simp
    omega
/-- The parts of an element without a length. -/
theorem open_back {rd : Rd} {f : Nat} (r : Bs) : ∀ (ps : List Tree) (k n : Nat) (acc : List Tree), (encL ps f).length + 2 ≤ k → plainL ps = true → n + cntL ps ≤ 1024 →
    (∀ p ∈ ps, ∀ m s, m + cnt p ≤ 1024 → rd m (enc p f ++ s) = .ok (p, m + cnt p, s)) → openD rd k n (encL ps f ++ ([0, 0] ++ r)) acc = .ok (acc ++ ps, n + cntL ps, r)
  | [], k, n, acc, hk, _, _, _ => by
    obtain ⟨k, rfl⟩ : ∃ m, k = m + 1 := ⟨k - 1, by omega⟩
    simp [encL, openD, aheadD, cntL]
  | p :: ps, k, n, acc, hk, hp, hn, hrd => by
    obtain ⟨k, rfl⟩ : ∃ m, k = m + 1 := ⟨k - 1, by omega⟩
    simp only [plainL, Bool.and_eq_true] at hp
    simp only [cntL] at hn ⊢
    simp only [encL, List.length_append] at hk
    have hrp := hrd p (by simp) n (encL ps f ++ ([0, 0] ++ r)) (by omega)
    obtain ⟨c, t, b, v, qs⟩ := p
    obtain ⟨x, s, he, hx⟩ := enc_head hp.1 f (encL ps f ++ ([0, 0] ++ r))
    simp only [encL, List.append_assoc]
    rw [openD]
    have ha : aheadD (enc (.mk c t b v qs) f ++ (encL ps f ++ ([0, 0] ++ r))) = .ok (true, enc (.mk c t b v qs) f ++ (encL ps f ++ ([0, 0] ++ r))) := by
      rw [he]
      simp [aheadD, hx]
    rw [ha]
    simp only
    rw [hrp]
    simp only
    have hl := enc_content_le c t b v qs f
    rw [open_back r ps k _ _ (by omega) hp.2 (by omega) (fun p h => hrd p (by simp [h]))]
    simp only [List.append_assoc, List.cons_append, List.nil_append]
    congr 3
    omega
/-- The parts of an element with a length. -/
theorem closed_back {rd : Rd} {f : Nat} : ∀ (ps : List Tree) (k n : Nat) (acc : List Tree), (encL ps f).length + 1 ≤ k → plainL ps = true → n + cntL ps ≤ 1024 →
    (∀ p ∈ ps, ∀ m s, m + cnt p ≤ 1024 → rd m (enc p f ++ s) = .ok (p, m + cnt p, s)) → closedD rd k n (encL ps f) acc = .ok (acc ++ ps, n + cntL ps)
  | [], k, n, acc, hk, _, _, _ => by
    obtain ⟨k, rfl⟩ : ∃ m, k = m + 1 := ⟨k - 1, by omega⟩
    simp [encL, closedD, cntL]
  | p :: ps, k, n, acc, hk, hp, hn, hrd => by
    obtain ⟨k, rfl⟩ : ∃ m, k = m + 1 := ⟨k - 1, by omega⟩
    simp only [plainL, Bool.and_eq_true] at hp
    simp only [cntL] at hn ⊢
    simp only [encL, List.length_append] at hk
    have hrp := hrd p (by simp) n (encL ps f) (by omega)
    obtain ⟨c, t, b, v, qs⟩ := p
    obtain ⟨x, s, he, hx⟩ := enc_head hp.1 f (encL ps f)
    simp only [encL]
    rw [he]
    simp only [closedD]
    rw [← he, hrp]
    simp only
    have hl := enc_content_le c t b v qs f
    rw [closed_back ps k _ _ (by omega) hp.2 (by omega) (fun p h => hrd p (by simp [h]))]
    simp only [List.append_assoc, List.cons_append, List.nil_append]
    congr 2
    omega
theorem plainL_mem {ps : List Tree} (h : plainL ps = true) : ∀ p ∈ ps, plain p = true := by
  induction ps with
  | nil => intro p hp; simp at hp
  | cons q ps ih =>
    intro p hp
    simp only [plainL, Bool.and_eq_true] at h
    rcases List.mem_cons.1 hp with rfl | hp
    · exact h.1
    · exact ih h.2 p hp
theorem depL_mem {ps : List Tree} : ∀ p ∈ ps, dep p ≤ depL ps := by
  induction ps with
  | nil => intro p hp; simp at hp
  | cons q ps ih =>
    intro p hp
    simp only [depL]
    rcases List.mem_cons.1 hp with rfl | hp
    · omega
    · have := ih p hp
      omega
/-- What a valid element's fields are. -/
theorem plain_fields {c t : Nat} {b : Bool} {v : List UInt8} {ps : List Tree} (hp : plain (.mk c t b v ps) = true) : c ≤ 3 ∧ t ≤ 2097151 ∧ ¬ (c = 0 ∧ t = 0) ∧ (b = true → v = []) ∧ (b = false → ps = []) ∧ plainL ps = true := by
  simp only [plain, Bool.and_eq_true, Bool.not_eq_true', Bool.or_eq_false_iff, decide_eq_false_iff_not, Bool.and_eq_false_iff, beq_eq_false_iff_ne] at hp
  obtain ⟨⟨⟨⟨h1, h2⟩, h3⟩, h4, h5⟩, h6⟩ := hp
  refine ⟨by omega, by omega, fun h => ?_, fun hb => ?_, fun hb => ?_, h6⟩
  · rcases h3 with h3 | h3
    · exact h3 h.1
    · exact h3 h.2
  · rcases h4 with h4 | h4
    · rw [hb] at h4; cases h4
    · exact List.eq_nil_of_length_eq_zero (by omega)
  · rcases h5 with h5 | h5
    · rw [hb] at h5; cases h5
    · exact List.eq_nil_of_length_eq_zero (by omega)
/-- DECODING UNDOES ENCODING. -/
theorem elem_back : ∀ (d : Nat) (t : Tree) (f n : Nat) (r : Bs), f ≤ 2 → plain t = true → dep t ≤ d → n + cnt t ≤ 1024 → (enc t f).length ≤ 65536 → elemD d n (enc t f ++ r) = .ok (t, n + cnt t, r)
  | 0, .mk c t b v ps, f, n, r, _, _, hd, _, _ => by simp [dep] at hd
  | d + 1, .mk c t b v ps, f, n, r, hf, hp, hd, hn, hl => by
    obtain ⟨h3, h4, h5, hv, hps, hpl⟩ := plain_fields hp
    have hcon := enc_content_le c t b v ps f
    simp only [dep] at hd
    simp only [cnt] at hn ⊢
    obtain ⟨x, s, h1, hc, hb, ht, -⟩ := ident_back c t b h3 h4 (body (v ++ encL ps (sub b f)) (sub b f) ++ r)
    have ih : ∀ g, g ≤ 2 → (encL ps g).length ≤ 65536 → ∀ p ∈ ps, ∀ m s, m + cnt p ≤ 1024 → elemD d m (enc p g ++ s) = .ok (p, m + cnt p, s) := fun g hg hlg p hpm m s hm =>
      elem_back d p g m s hg (plainL_mem hpl p hpm) (Nat.le_trans (depL_mem p hpm) (by omega)) hm (Nat.le_trans (encL_len_le ps g p hpm) hlg)
    rw [enc, List.append_assoc, h1]
    simp only [elemD]
    rw [if_neg (by omega), ht]
    simp only
    rw [if_neg (by rw [hc]; exact h5), hb, hc]
    cases b with
    | false =>
      obtain rfl := hps rfl
      have hg : sub false f ≠ 1 := by
        unfold sub
        by_cases h2 : f = 2
        · simp [h2]
        · simp [h2]
      have hv6 : v.length ≤ 65536 := by
        have := List.length_append (as := v) (bs := encL [] (sub false f))
        omega
      generalize sub false f = g at *
      simp only [encL, List.append_nil, body, if_neg hg, List.append_assoc]
      rw [length_back _ _ _ hv6]
      simp only [contentD]
      rw [if_neg (by simp)]
      simp [cntL]
    | true =>
      obtain rfl := hv rfl
      have hs : sub true f = f := by simp [sub]
      rw [hs] at hcon ⊢
      simp only [List.nil_append] at hcon ⊢
      by_cases hf1 : f = 1
      · subst hf1
        have hbd : body (encL ps 1) 1 ++ r = UInt8.ofNat 128 :: (encL ps 1 ++ ([0, 0] ++ r)) := by simp [body]
        rw [hbd]
        have hlen : lengthD true (UInt8.ofNat 128 :: (encL ps 1 ++ ([0, 0] ++ r))) = .ok (none, encL ps 1 ++ ([0, 0] ++ r)) := by
          rw [lengthD, ofNat_toNat (by omega), if_neg (by omega), if_pos rfl, if_pos rfl]
        rw [hlen]
        simp only [contentD]
        rw [open_back r ps _ (n + 1) [] (by simp) hpl (by omega) (ih 1 hf (by omega))]
        simp only [List.nil_append]
        rw [show n + 1 + cntL ps = n + (cntL ps + 1) by omega]
      · simp only [body, if_neg hf1, List.append_assoc]
        rw [length_back _ _ _ (by omega)]
        simp only [contentD]
        simp only [if_true]
        rw [if_neg (by simp), List.take_append_of_le_length (Nat.le_refl _), List.take_of_length_le (Nat.le_refl _), closed_back ps _ (n + 1) [] (by simp) hpl (by omega) (ih f hf (by omega))]
        simp only [List.nil_append]
        rw [List.drop_append_of_le_length (Nat.le_refl _), List.drop_of_length_le (Nat.le_refl _)]
        simp only [List.nil_append]
        rw [show n + 1 + cntL ps = n + (cntL ps + 1) by omega]
end Go.Proofs.YthonjbaeadbhdaaDoor.Tg
