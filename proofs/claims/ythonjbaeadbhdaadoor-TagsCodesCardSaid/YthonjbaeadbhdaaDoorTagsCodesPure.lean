/- First and Decode of an encoding, of one with bytes behind it, of its proper prefixes: in plain Lean. -/
import Derived.Test.YthonjbaeadbhdaaDoorTagsCodeExt
import Derived.Test.YthonjbaeadbhdaaDoorTagsDecode
import Derived.Test.YthonjbaeadbhdaaDoorTagsEncodeAs
namespace Go.Proofs.YthonjbaeadbhdaaDoor
namespace Tg
mutual
theorem enc_wt : ∀ (t : Tree) (f : Nat), (enc t f).length ≤ wt t
  | .mk c t b v ps, f => by
    have h1 := encL_wt ps (sub b f)
    have h2 := body_len (v ++ encL ps (sub b f)) (sub b f)
    have h3 := ident_le c t b
    simp only [enc, List.length_append, wt] at h2 ⊢
    omega
theorem encL_wt : ∀ (ps : List Tree) (f : Nat), (encL ps f).length ≤ wtL ps
  | [], f => by simp [encL]
  | p :: ps, f => by
    have h1 := enc_wt p f
    have h2 := encL_wt ps f
    simp only [encL, List.length_append, wtL]
    omega
end
/-- A small valid tree. -/
structure Fine (t : Tree) : Prop where
  chk : check t = 0
  cnt : cnt t ≤ 40
  dep : dep t ≤ 10
  wt : wt t ≤ 12960
  pl : plain t = true
theorem Fine.le {t : Tree} (h : Fine t) (f : Nat) : (enc t f).length ≤ 12960 := Nat.le_trans (enc_wt t f) h.wt
theorem Fine.enc {t : Tree} (h : Fine t) {f : Nat} (hf : f ≤ 2) : encodeAs t f = (enc t f, 0) := by
  have h1 := h.le f
  have h2 : long t ≤ 12960 := h.le 0
  rw [encodeAs, if_neg (by rw [h.chk]; simp), if_neg (by omega), if_neg (by omega), if_neg (by omega)]
theorem Fine.first {t : Tree} (h : Fine t) {f : Nat} (hf : f ≤ 2) {r : Bs} (hr : r.length ≤ 1000) : firstT (Tg.enc t f ++ r) = (t, (Tg.enc t f).length, 0) := by
  have h1 := h.le f
  have h2 := h.cnt
  have h3 := h.dep
  have hl : (Tg.enc t f ++ r).length = (Tg.enc t f).length + r.length := by simp
  rw [firstT, firstD, if_neg (by omega), elem_back 16 t f 0 r hf h.pl (by omega) (by omega) (by omega)]
  simp
theorem Fine.dec {t : Tree} (h : Fine t) {f : Nat} (hf : f ≤ 2) : decT (Tg.enc t f) = (t, 0) := by
  have h1 := h.first hf (r := []) (by simp)
  rw [List.append_nil] at h1
  simp [decT, h1]
theorem Fine.dec_more {t : Tree} (h : Fine t) {f : Nat} (hf : f ≤ 2) {r : Bs} (hr : r.length ≤ 1000) (h0 : 0 < r.length) : decT (Tg.enc t f ++ r) = (.mk 0 0 false [] [], 4) := by
  have h1 := h.first hf hr
  rw [decT, h1]
  simp only [ne_eq, not_true_eq_false, if_false, List.length_append]
  rw [if_pos (by omega)]
theorem Fine.cutOff {t : Tree} (h : Fine t) {f : Nat} (hf : f ≤ 2) {k : Nat} (hk : k < (Tg.enc t f).length) : firstT ((Tg.enc t f).take k) = (.mk 0 0 false [] [], 0, 4) := by
  have h1 := h.le f
  have h2 := h.cnt
  have h3 := h.dep
  have hl : ((Tg.enc t f).take k).length ≤ 12960 := by simp; omega
  rw [firstT, firstD, if_neg (by omega), elem_prefix hf h.pl (by omega) (by omega) (by omega) k hk]
theorem ofT_fine (ns : List N) : Fine (ofT ns) := ⟨(ofT_ok ns).1, (ofT_ok ns).2.1, (ofT_ok ns).2.2.1, (ofT_ok ns).2.2.2.1, (ofT_ok ns).2.2.2.2⟩
end Tg
end Go.Proofs.YthonjbaeadbhdaaDoor
