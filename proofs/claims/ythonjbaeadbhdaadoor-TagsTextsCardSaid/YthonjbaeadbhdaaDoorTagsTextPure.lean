/- Reading a text undoes writing it, and the other way round; in plain Lean. -/
import Derived.Test.YthonjbaeadbhdaaDoorTagsParseDef
import Derived.Test.YthonjbaeadbhdaaDoorTagsCodePure
import Derived.Lib.ItoaMem
import Derived.Lib.ItoaLen
import Derived.Lib.AtoiAllCases
namespace Go.Proofs.YthonjbaeadbhdaaDoor

theorem among_digit : ∀ d, d < 10 → Tg.among digits10 (UInt8.ofNat (48 + d)) = true := by decide
theorem digit_nat (d : Nat) (h : d < 10) : (UInt8.ofNat (48 + d)).toNat = 48 + d := by rw [UInt8.toNat_ofNat', Nat.mod_eq_of_lt (by omega)]
theorem decDigits_all : ∀ (u : Nat), ∀ c ∈ Lib.decDigits u, Tg.among digits10 c = true := by
  intro u
  induction u using Nat.strongRecOn with
  | _ u ih =>
    intro c hc
    rw [Lib.decDigits] at hc
    split at hc
    · rename_i h
      rw [List.mem_singleton.1 hc]
      exact among_digit u h
    · rcases List.mem_append.1 hc with h | h
      · exact ih (u / 10) (by omega) c h
      · rw [List.mem_singleton.1 h]
        exact among_digit _ (by omega)
theorem decDigits_ge : ∀ (u : Nat), ∀ c ∈ Lib.decDigits u, 48 ≤ c.toNat := by
  intro u
  induction u using Nat.strongRecOn with
  | _ u ih =>
    intro c hc
    rw [Lib.decDigits] at hc
    split at hc
    · rename_i h
      rw [List.mem_singleton.1 hc, digit_nat u h]
      omega
    · rcases List.mem_append.1 hc with h | h
      · exact ih (u / 10) (by omega) c h
      · rw [List.mem_singleton.1 h, digit_nat _ (by omega)]
        omega
theorem decDigits_ne (u : Nat) : Lib.decDigits u ≠ [] := by
  rw [Lib.decDigits]
  split <;> simp
theorem parse_dec : ∀ (u : Nat), u < 1000000000 → ∀ s, Lib.parseUint10 0 (Lib.decDigits u ++ s) = Lib.parseUint10 u s := by
  intro u
  induction u using Nat.strongRecOn with
  | _ u ih =>
    intro hu s
    rw [Lib.decDigits]
    split
    · rename_i h
      simp only [List.cons_append, List.nil_append, Lib.parseUint10]
      rw [digit_nat u h, if_pos (by omega), if_neg (by omega), if_neg (by omega)]
      congr 1
      omega
    · rw [List.append_assoc, ih (u / 10) (by omega) (by omega)]
      simp only [List.cons_append, List.nil_append, Lib.parseUint10]
      rw [digit_nat _ (by omega), if_pos (by omega), if_neg (by omega), if_neg (by omega)]
      congr 1
      omega
theorem atoi_itoa (m : Nat) (h : m ≤ 2097151) : Lib.atoiAll (Lib.itoa (m : Int)) = .ok (m : Int) := by
  rw [Lib.itoa_nonneg]
  have hne := decDigits_ne m
  have hp := parse_dec m (by omega) []
  rw [List.append_nil] at hp
  have hmag : Lib.parseMag (Lib.decDigits m) = .ok m := by
    unfold Lib.parseMag
    rw [if_neg hne, hp]
    rfl
  cases hd : Lib.decDigits m with
  | nil => exact absurd hd hne
  | cons c r =>
    have hc2 : 48 ≤ c.toNat := decDigits_ge m c (by rw [hd]; simp)
    rw [Lib.atoiAll_plain c r (by omega) (by omega), ← hd, hmag]
    simp only [Lib.signless]
    rw [if_neg (by omega)]
theorem numP_itoa (m : Nat) (h : m ≤ 2097151) : Tg.numP (Lib.itoa (m : Int)) = some m := by
  unfold Tg.numP
  rw [atoi_itoa m h]
  have h2 : (m : Int) ≤ 2097151 := by omega
  simp [h2]
theorem itoa_all (m : Nat) : ∀ c ∈ Lib.itoa (m : Int), Tg.among digits10 c = true := by
  rw [Lib.itoa_nonneg]
  exact decDigits_all m
theorem takeWhile_stop (p : UInt8 → Bool) : ∀ (l r : List UInt8), (∀ c ∈ l, p c = true) → (∀ x s, r = x :: s → p x = false) → (l ++ r).takeWhile p = l ∧ (l ++ r).dropWhile p = r
  | [], r, _, hr => by
    cases r with
    | nil => exact ⟨rfl, rfl⟩
    | cons x s =>
      have := hr x s rfl
      simp [this]
  | x :: l, r, hl, hr => by
    have h1 := hl x (by simp)
    obtain ⟨h2, h3⟩ := takeWhile_stop p l r (fun c hc => hl c (by simp [hc])) hr
    simp only [List.cons_append, List.takeWhile_cons, List.dropWhile_cons, h1, if_true]
    exact ⟨by rw [h2], h3⟩
theorem hexd_among : ∀ n, n < 16 → Tg.among digits16 (Tg.hexd n) = true := by decide
theorem hexd_idx : ∀ n, n < 16 → (Lib.indexByte digits16 (Tg.hexd n)).toNat = n := by decide
theorem hexs_all : ∀ (v : List UInt8), ∀ c ∈ Tg.hexs v, Tg.among digits16 c = true
  | [], c, h => by simp [Tg.hexs] at h
  | x :: r, c, h => by
    have hx := x.toNat_lt
    simp only [Tg.hexs, List.mem_cons] at h
    rcases h with rfl | rfl | h
    · exact hexd_among _ (by omega)
    · exact hexd_among _ (by omega)
    · exact hexs_all r c h
theorem unhex_hexs : ∀ v : List UInt8, Tg.unhex (Tg.hexs v) = v
  | [] => rfl
  | x :: r => by
    have hx := x.toNat_lt
    rw [Tg.hexs, Tg.unhex, hexd_idx _ (by omega), hexd_idx _ (by omega), unhex_hexs r, show x.toNat / 16 * 16 + x.toNat % 16 = x.toNat by omega, UInt8.ofNat_toNat]
theorem hexs_len2 : ∀ l : List UInt8, (Tg.hexs l).length = 2 * l.length
  | [] => rfl
  | x :: r => by simp [Tg.hexs, hexs_len2 r]; omega
/-- What stands behind a text: no digit. -/
def Tg.Stops (r : List UInt8) : Prop := ∀ x s, r = x :: s → Tg.among digits16 x = false
theorem hasPrefix_one (c : UInt8) (s : List UInt8) : Lib.hasPrefix (c :: s) [c] = true := by simp [Lib.hasPrefix]
theorem trim_one (c : UInt8) (s : List UInt8) : Lib.trimPrefix (c :: s) [c] = s := by simp [Lib.trimPrefix, Lib.hasPrefix]
theorem hasPrefix_no {c x : UInt8} (s : List UInt8) (h : ¬ c = x) : Lib.hasPrefix (x :: s) [c] = false := by simp [Lib.hasPrefix, List.isPrefixOf, h]
theorem letter_idx (c : Nat) (h : c ≤ 3) : Lib.indexByte letters (Tg.letter c) = (c : Int) ∧ Tg.letter c ≠ 41 ∧ Tg.letter c ≠ 32 := by
  have : c = 0 ∨ c = 1 ∨ c = 2 ∨ c = 3 := by omega
  rcases this with rfl | rfl | rfl | rfl <;> decide
theorem text_head {c t : Nat} {b : Bool} {v : List UInt8} {ps : List Tg.Tree} (r : List UInt8) : ∃ s, Tg.text (.mk c t b v ps) ++ r = Tg.letter c :: s := by
  simp only [Tg.text, List.cons_append]
  exact ⟨_, rfl⟩
theorem textL_stops (qs : List Tg.Tree) (r : List UInt8) : Tg.Stops (Tg.textL false qs ++ 41 :: r) := by
  intro x s h
  cases qs with
  | nil =>
    simp only [Tg.textL, List.nil_append] at h
    injection h with h _
    subst h
    decide
  | cons q qs =>
    simp only [Tg.textL, Bool.false_eq_true, if_false, List.cons_append, List.nil_append] at h
    injection h with h _
    subst h
    decide
/-- The parts are read back. -/
theorem parts_back {rd : Tg.Pd} (r : List UInt8) : ∀ (qs : List Tg.Tree) (k n : Nat) (acc : List Tg.Tree), (Tg.textL acc.isEmpty qs).length + 1 ≤ k → Tg.plainL qs = true → n + Tg.cntL qs ≤ 1024 →
    (∀ p ∈ qs, ∀ m s, Tg.Stops s → m + Tg.cnt p ≤ 1024 → rd m (Tg.text p ++ s) = some (p, m + Tg.cnt p, s)) → Tg.partsP rd k n (Tg.textL acc.isEmpty qs ++ 41 :: r) acc = some (acc ++ qs, n + Tg.cntL qs, r)
  | [], k, n, acc, hk, _, _, _ => by
    obtain ⟨k, rfl⟩ : ∃ m, k = m + 1 := ⟨k - 1, by omega⟩
    have e : Tg.textL acc.isEmpty [] ++ 41 :: r = 41 :: r := by simp [Tg.textL]
    rw [e, Tg.partsP, if_pos (hasPrefix_one 41 r), trim_one]
    simp [Tg.cntL]
  | p :: qs, k, n, acc, hk, hp, hn, hrd => by
    obtain ⟨k, rfl⟩ : ∃ m, k = m + 1 := ⟨k - 1, by omega⟩
    simp only [Tg.plainL, Bool.and_eq_true] at hp
    simp only [Tg.cntL] at hn ⊢
    have hrp := hrd p (by simp) n (Tg.textL false qs ++ 41 :: r) (textL_stops qs r) (by omega)
    have hlen : (Tg.textL acc.isEmpty (p :: qs)).length = (if acc.isEmpty = true then 0 else 1) + (Tg.text p).length + (Tg.textL false qs).length := by
      simp only [Tg.textL]
      cases acc.isEmpty <;> simp <;> omega
    have hp1 : 1 ≤ (Tg.text p).length := by
      cases p
      simp [Tg.text]
    have ih := parts_back r qs k (n + Tg.cnt p) (acc ++ [p]) (by
      have : (acc ++ [p]).isEmpty = false := by cases acc <;> rfl
      rw [this]
      omega) hp.2 (by omega) (fun q h => hrd q (by simp [h]))
    have he : (acc ++ [p]).isEmpty = false := by cases acc <;> rfl
    rw [he] at ih
    obtain ⟨c, t, b, v, ps⟩ := p
    have hf := Tg.plain_fields hp.1
    have hl := letter_idx c hf.1
    obtain ⟨s, hs⟩ := text_head (c := c) (t := t) (b := b) (v := v) (ps := ps) (Tg.textL false qs ++ 41 :: r)
    have hfin : ((acc ++ [Tg.Tree.mk c t b v ps]) ++ qs, n + Tg.cnt (.mk c t b v ps) + Tg.cntL qs, r) = (acc ++ Tg.Tree.mk c t b v ps :: qs, n + (Tg.cnt (.mk c t b v ps) + Tg.cntL qs), r) := by
      rw [List.append_assoc, Nat.add_assoc]
      rfl
    rw [hfin] at ih
    cases hacc : acc.isEmpty with
    | true =>
      have hnil : acc = [] := by simpa using hacc
      subst hnil
      have e : Tg.textL true (.mk c t b v ps :: qs) ++ 41 :: r = Tg.text (.mk c t b v ps) ++ (Tg.textL false qs ++ 41 :: r) := by simp [Tg.textL]
      rw [e, Tg.partsP, if_neg (by rw [hs, hasPrefix_no s (fun h => hl.2.1 h.symm)]; simp), if_neg (by simp), if_pos rfl, hrp]
      exact ih
    | false =>
      have hnil : acc ≠ [] := by intro h; rw [h] at hacc; simp at hacc
      have e : Tg.textL false (.mk c t b v ps :: qs) ++ 41 :: r = 32 :: (Tg.text (.mk c t b v ps) ++ (Tg.textL false qs ++ 41 :: r)) := by simp [Tg.textL]
      rw [e, Tg.partsP, if_neg (by rw [hasPrefix_no _ (by decide)]; simp), if_neg (by rw [hasPrefix_one]; simp), if_neg hnil, trim_one, hrp]
      exact ih
/-- READING A TEXT UNDOES WRITING IT. -/
theorem text_back : ∀ (d : Nat) (t : Tg.Tree) (n : Nat) (r : List UInt8), Tg.plain t = true → Tg.dep t ≤ d → n + Tg.cnt t ≤ 1024 → Tg.Stops r → Tg.parseP d n (Tg.text t ++ r) = some (t, n + Tg.cnt t, r)
  | 0, .mk c t b v ps, n, r, _, hd, _, _ => by simp [Tg.dep] at hd
  | d + 1, .mk c t b v ps, n, r, hp, hd, hn, hr => by
    obtain ⟨h3, h4, h5, hv, hps, hpl⟩ := Tg.plain_fields hp
    simp only [Tg.dep] at hd
    simp only [Tg.cnt] at hn ⊢
    have hl := letter_idx c h3
    have ih : ∀ p ∈ ps, ∀ m s, Tg.Stops s → m + Tg.cnt p ≤ 1024 → Tg.parseP d m (Tg.text p ++ s) = some (p, m + Tg.cnt p, s) := fun p hpm m s hs hm =>
      text_back d p m s (Tg.plainL_mem hpl p hpm) (Nat.le_trans (Tg.depL_mem p hpm) (by omega)) hm hs
    have hnum : ∀ (x : UInt8) (s : List UInt8), Tg.among digits10 x = false → (Lib.itoa (t : Int) ++ x :: s).takeWhile (Tg.among digits10) = Lib.itoa (t : Int) ∧ (Lib.itoa (t : Int) ++ x :: s).dropWhile (Tg.among digits10) = x :: s := fun x s hx =>
      takeWhile_stop _ _ _ (itoa_all t) (fun y z h => by injection h with h _; rw [← h]; exact hx)
    simp only [Tg.text, List.cons_append, List.append_assoc, Tg.parseP]
    rw [if_neg (by omega), if_neg (by rw [hl.1]; omega), hl.1]
    cases b with
    | false =>
      obtain rfl := hps rfl
      simp only [Bool.false_eq_true, if_false, List.cons_append]
      obtain ⟨e1, e2⟩ := hnum 61 (Tg.hexs v ++ r) (by decide)
      rw [e1, e2, numP_itoa t h4]
      simp only [Tg.bodyP]
      obtain ⟨e3, e4⟩ := takeWhile_stop (Tg.among digits16) (Tg.hexs v) r (hexs_all v) hr
      rw [if_pos (hasPrefix_one 61 _), trim_one, e3, e4, if_pos (by rw [hexs_len2]; omega), unhex_hexs]
      simp [Tg.cntL]
    | true =>
      obtain rfl := hv rfl
      simp only [if_true, List.cons_append]
      obtain ⟨e1, e2⟩ := hnum 40 (Tg.textL true ps ++ [41] ++ r) (by decide)
      rw [e1, e2, numP_itoa t h4]
      simp only [Tg.bodyP]
      rw [if_neg (by rw [hasPrefix_no _ (by decide)]; simp), if_pos (hasPrefix_one 40 _), trim_one]
      have hb := parts_back (rd := Tg.parseP d) r ps ((Tg.textL true ps ++ [41] ++ r).length + 1) (n + 1) [] (by simp) hpl (by omega) ih
      simp only [List.isEmpty_nil, List.nil_append] at hb
      have e5 : Tg.textL true ps ++ [41] ++ r = Tg.textL true ps ++ 41 :: r := by simp
      rw [e5] at hb ⊢
      rw [hb]
      simp only
      rw [show n + 1 + Tg.cntL ps = n + (Tg.cntL ps + 1) by omega]
      simp
/-! ### What is read is the text of what it is read as -/
theorem takeWhile_drop (p : UInt8 → Bool) : ∀ l : List UInt8, l.takeWhile p ++ l.dropWhile p = l
  | [] => rfl
  | x :: l => by
    simp only [List.takeWhile_cons, List.dropWhile_cons]
    split
    · simp [takeWhile_drop p l]
    · simp
theorem all_of_take (p : UInt8 → Bool) : ∀ (l : List UInt8), ∀ c ∈ l.takeWhile p, p c = true
  | [], c, h => by simp at h
  | x :: l, c, h => by
    rw [List.takeWhile_cons] at h
    split at h
    · rename_i hx
      rcases List.mem_cons.1 h with rfl | h
      · exact hx
      · exact all_of_take p l c h
    · simp at h
theorem prefix_one {c : UInt8} {s : List UInt8} (h : Lib.hasPrefix s [c] = true) : s = c :: Lib.trimPrefix s [c] := by
  cases s with
  | nil => simp [Lib.hasPrefix, List.isPrefixOf] at h
  | cons x r =>
    have hx : c = x := by simpa [Lib.hasPrefix, List.isPrefixOf] using h
    subst hx
    rw [trim_one]
theorem letter_of : ∀ (x : UInt8), 0 ≤ Lib.indexByte letters x → x = Tg.letter (Lib.indexByte letters x).toNat := by
  intro x h
  simp only [Lib.indexByte] at h ⊢
  by_cases h1 : (117 : UInt8) = x
  · subst h1; decide
  by_cases h2 : (97 : UInt8) = x
  · subst h2; decide
  by_cases h3 : (99 : UInt8) = x
  · subst h3; decide
  by_cases h4 : (112 : UInt8) = x
  · subst h4; decide
  exfalso
  simp [h1, h2, h3, h4] at h
theorem among_hex (x : UInt8) (h : Tg.among digits16 x = true) : x ∈ digits16 := by
  have h' : 0 ≤ Lib.indexByte digits16 x := by simpa [Tg.among] using h
  have mem : ∀ (l : List UInt8), 0 ≤ Lib.indexByte l x → x ∈ l := by
    intro l
    induction l with
    | nil => intro h; simp [Lib.indexByte] at h
    | cons b l ih =>
      intro h
      by_cases hb : b = x
      · simp [hb]
      · have hge := Lib.indexByte_ge l x
        simp only [Lib.indexByte, beq_iff_eq, hb, if_false] at h
        split at h
        · omega
        · rename_i h2
          exact List.mem_cons_of_mem _ (ih (by omega))
  exact mem _ h'
theorem hexd_of (x : UInt8) (h : Tg.among digits16 x = true) : Tg.hexd (Lib.indexByte digits16 x).toNat = x ∧ (Lib.indexByte digits16 x).toNat < 16 := by
  have hm := among_hex x h
  simp only [List.mem_cons, List.not_mem_nil, or_false] at hm
  rcases hm with rfl | rfl | rfl | rfl | rfl | rfl | rfl | rfl | rfl | rfl | rfl | rfl | rfl | rfl | rfl | rfl <;> decide
theorem hexs_unhex : ∀ (k : Nat) (l : List UInt8), l.length ≤ k → l.length % 2 = 0 → (∀ c ∈ l, Tg.among digits16 c = true) → Tg.hexs (Tg.unhex l) = l
  | _, [], _, _, _ => rfl
  | _, [a], _, h, _ => by simp at h
  | 0, a :: b :: r, h, _, _ => by simp at h
  | k + 1, a :: b :: r, hk, h2, hall => by
    obtain ⟨a1, a2⟩ := hexd_of a (hall a (by simp))
    obtain ⟨b1, b2⟩ := hexd_of b (hall b (by simp))
    have ih := hexs_unhex k r (by simp at hk; omega) (by simp at h2; omega) (fun c hc => hall c (by simp [hc]))
    rw [Tg.unhex, Tg.hexs, Tg.ofNat_toNat (by omega), show ((Lib.indexByte digits16 a).toNat * 16 + (Lib.indexByte digits16 b).toNat) / 16 = (Lib.indexByte digits16 a).toNat by omega, show ((Lib.indexByte digits16 a).toNat * 16 + (Lib.indexByte digits16 b).toNat) % 16 = (Lib.indexByte digits16 b).toNat by omega, a1, b1, ih]
theorem numP_text {l : List UInt8} {m : Nat} (h : Tg.numP l = some m) : l = Lib.itoa (m : Int) := by
  unfold Tg.numP at h
  split at h
  · rename_i v hv
    split at h
    · rename_i hc
      split at h
      · rename_i h0
        injection h with h
        subst h
        rw [show ((v.toNat : Nat) : Int) = v by omega]
        exact hc.1.symm
      · cases h
    · cases h
  · cases h
theorem parts_text {rd : Tg.Pd} (hrd : ∀ n s t n' r, rd n s = some (t, n', r) → s = Tg.text t ++ r) : ∀ (k n : Nat) (s : List UInt8) (acc ps : List Tg.Tree) (n' : Nat) (r : List UInt8), Tg.partsP rd k n s acc = some (ps, n', r) →
    ∃ qs, ps = acc ++ qs ∧ s = Tg.textL acc.isEmpty qs ++ 41 :: r
  | 0, _, _, _, _, _, _, h => by simp [Tg.partsP] at h
  | k + 1, n, s, acc, ps, n', r, h => by
    rw [Tg.partsP] at h
    split at h
    · rename_i hp
      simp only [Option.some.injEq, Prod.mk.injEq] at h
      obtain ⟨rfl, rfl, rfl⟩ := h
      refine ⟨[], by simp, ?_⟩
      rw [Tg.textL, List.nil_append]
      exact prefix_one hp
    · split at h
      · cases h
      · rename_i hns
        split at h
        · cases h
        · rename_i t n1 r1 hf
          obtain ⟨qs, h1, h2⟩ := parts_text hrd k n1 r1 (acc ++ [t]) ps n' r h
          have h3 := hrd _ _ _ _ _ hf
          have he : (acc ++ [t]).isEmpty = false := by cases acc <;> rfl
          rw [he] at h2
          refine ⟨t :: qs, by rw [h1]; simp, ?_⟩
          cases acc with
          | nil =>
            rw [if_pos rfl] at h3
            rw [h3, h2]
            simp [Tg.textL]
          | cons a acc =>
            rw [if_neg (by simp)] at h3
            have hsp : Lib.hasPrefix s [32] = true := by
              cases hh : Lib.hasPrefix s [32] with
              | true => rfl
              | false => exact absurd ⟨by simp, hh⟩ hns
            rw [prefix_one hsp, h3, h2]
            simp [Tg.textL]
/-- WHAT IS READ IS THE TEXT OF WHAT IT IS READ AS. -/
theorem parse_text : ∀ (d n : Nat) (s : List UInt8) (t : Tg.Tree) (n' : Nat) (r : List UInt8), Tg.parseP d n s = some (t, n', r) → s = Tg.text t ++ r
  | 0, _, _, _, _, _, h => by simp [Tg.parseP] at h
  | d + 1, n, s, t, n', r, h => by
    simp only [Tg.parseP] at h
    split at h
    · cases h
    · split at h
      · cases h
      · rename_i x s
        split at h
        · cases h
        · rename_i hx
          have hlet := letter_of x (by omega)
          split at h
          · cases h
          · rename_i m hm
            have hnum := numP_text hm
            have hsplit := takeWhile_drop (Tg.among digits10) s
            rw [hnum] at hsplit
            generalize s.dropWhile (Tg.among digits10) = q at *
            rw [← hsplit]
            unfold Tg.bodyP at h
            split at h
            · rename_i hp
              simp only at h
              split at h
              · rename_i heven
                simp only [Option.some.injEq, Prod.mk.injEq] at h
                obtain ⟨rfl, rfl, rfl⟩ := h
                have hq := prefix_one hp
                have hw := takeWhile_drop (Tg.among digits16) (Lib.trimPrefix q [61])
                have hh := hexs_unhex _ _ (Nat.le_refl _) heven (all_of_take (Tg.among digits16) (Lib.trimPrefix q [61]))
                rw [hq, ← hw]
                simp only [Tg.text, Bool.false_eq_true, if_false]
                rw [trim_one, hw, hh, ← hlet]
                simp [hw]
              · cases h
            · split at h
              · rename_i hp
                split at h
                · cases h
                · rename_i ps n1 r1 hpp
                  simp only [Option.some.injEq, Prod.mk.injEq] at h
                  obtain ⟨rfl, rfl, rfl⟩ := h
                  obtain ⟨qs, h1, h2⟩ := parts_text (fun n s t n' r h => parse_text d n s t n' r h) _ _ _ _ _ _ _ hpp
                  simp only [List.nil_append] at h1
                  subst h1
                  have hq := prefix_one hp
                  rw [hq, h2]
                  simp only [Tg.text, if_true, List.isEmpty_nil]
                  rw [← hlet]
                  simp
              · cases h
end Go.Proofs.YthonjbaeadbhdaaDoor
