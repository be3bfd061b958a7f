/- Trees out of plain data, in plain Lean: what 'grown' builds is valid and small. -/
import Derived.Test.YthonjbaeadbhdaaDoorTagsPure
namespace Go.Proofs.YthonjbaeadbhdaaDoor
namespace Tg

/-- An element as plain data. -/
structure N where
  cls : Nat
  tag : Nat
  built : Bool
  val : List UInt8
  parts : Nat

def tagOf (n : N) : Nat := if n.cls % 4 = 0 ∧ n.tag % 2097152 = 0 then 2 else n.tag % 2097152
/-- The parts of an element: how many at most, the index, those so far. -/
def kids (f : Nat → Tree × Nat) (len : Nat) : Nat → Nat → List Tree → List Tree × Nat
  | 0, i, acc => (acc, i)
  | k + 1, i, acc => if i < len ∧ i < 40 then kids f len k (f i).2 (acc ++ [(f i).1]) else (acc, i)
def growN (ns : List N) (i : Nat) (K : Nat → Nat → List Tree × Nat) : Tree × Nat :=
  match ns[i]? with
  | none => (.mk 3 1 false [] [], i + 1)
  | some n =>
    if 40 ≤ i then (.mk 3 1 false [] [], i + 1)
    else if n.built = false then (.mk (n.cls % 4) (tagOf n) false (n.val.take 300) [], i + 1)
    else (.mk (n.cls % 4) (tagOf n) true [] (K (n.parts % 4) (i + 1)).1, (K (n.parts % 4) (i + 1)).2)
/-- 'grown': so many levels are left. -/
def growP (ns : List N) : Nat → Nat → Tree × Nat
  | 0, i => growN ns i fun _ i => ([], i)
  | lv + 1, i => growN ns i fun k i => kids (growP ns lv) ns.length k i []
def ofT (ns : List N) : Tree := (growP ns 9 0).1
/-- 'big'. -/
def bulk : List N → Nat
  | [] => 0
  | n :: r => 1 + n.val.length / 8 + bulk r

mutual
def cnt : Tree → Nat
  | .mk _ _ _ _ ps => cntL ps + 1
def cntL : List Tree → Nat
  | [] => 0
  | p :: ps => cnt p + cntL ps
end
mutual
def dep : Tree → Nat
  | .mk _ _ _ _ ps => depL ps + 1
def depL : List Tree → Nat
  | [] => 0
  | p :: ps => max (dep p) (depL ps)
end
mutual
/-- The most bytes that an encoding may have. -/
def wt : Tree → Nat
  | .mk _ _ _ v ps => v.length + 24 + wtL ps
def wtL : List Tree → Nat
  | [] => 0
  | p :: ps => wt p + wtL ps
end
theorem cntL_append (l m : List Tree) : cntL (l ++ m) = cntL l + cntL m := by
  induction l with
  | nil => simp [cntL]
  | cons p l ih => simp [cntL, ih]; omega
theorem wtL_append (l m : List Tree) : wtL (l ++ m) = wtL l + wtL m := by
  induction l with
  | nil => simp [wtL]
  | cons p l ih => simp [wtL, ih]; omega
theorem depL_append (l m : List Tree) : depL (l ++ m) = max (depL l) (depL m) := by
  induction l with
  | nil => simp [depL]
  | cons p l ih => simp [depL, ih, Nat.max_assoc]
theorem plainL_append (l m : List Tree) : plainL (l ++ m) = (plainL l && plainL m) := by
  induction l with
  | nil => simp [plainL]
  | cons p l ih => simp [plainL, ih, Bool.and_assoc]

mutual
theorem meas_ok : ∀ (t : Tree) (d n : Nat), dep t + d ≤ 17 → n + cnt t ≤ 1024 → meas t d n = (true, n + cnt t)
  | .mk c t b v ps, d, n, h1, h2 => by
    simp only [dep, cnt] at h1 h2 ⊢
    rw [meas, if_neg (by omega), measL_ok ps (d + 1) (n + 1) (by omega) (by omega)]
    congr 1
    omega
theorem measL_ok : ∀ (ps : List Tree) (d n : Nat), depL ps + d ≤ 17 → n + cntL ps ≤ 1024 → measL ps d n = (true, n + cntL ps)
  | [], d, n, _, _ => by simp [measL, cntL]
  | p :: ps, d, n, h1, h2 => by
    simp only [depL, cntL] at h1 h2 ⊢
    rw [measL, meas_ok p d n (by omega) (by omega)]
    simp only
    rw [measL_ok ps d (n + cnt p) (by omega) (by omega)]
    congr 1
    omega
end
theorem check_ok {t : Tree} (h1 : dep t ≤ 16) (h2 : cnt t ≤ 1024) (h3 : plain t = true) : check t = 0 := by
  rw [check, meas_ok t 1 0 (by omega) (by omega), if_neg (by simp), if_neg (by rw [h3]; simp)]

/-- What is built: valid, of depth at most lv + 1, of as many elements as were used, each with at most 300 bytes. -/
structure Built (lv i : Nat) (r : Tree × Nat) : Prop where
  hdep : dep r.1 ≤ lv + 1
  hcnt : i + cnt r.1 = r.2
  hplain : plain r.1 = true
  hwt : wt r.1 ≤ 324 * cnt r.1
  hupto : i < 40 → r.2 ≤ 40
structure BuiltL (lv i : Nat) (acc : List Tree) (r : List Tree × Nat) : Prop where
  hdep : depL r.1 ≤ max (depL acc) (lv + 1)
  hcnt : i + cntL r.1 = r.2 + cntL acc
  hplain : plainL acc = true → plainL r.1 = true
  hwt : wtL acc ≤ 324 * cntL acc → wtL r.1 ≤ 324 * cntL r.1
  hupto : i ≤ 40 → r.2 ≤ 40
  hmore : i ≤ r.2
theorem cnt_pos : ∀ t : Tree, 1 ≤ cnt t
  | .mk _ _ _ _ _ => by simp [cnt]
theorem kids_built {f : Nat → Tree × Nat} {lv : Nat} (hf : ∀ i, Built lv i (f i)) (len : Nat) : ∀ (k i : Nat) (acc : List Tree), BuiltL lv i acc (kids f len k i acc)
  | 0, i, acc => ⟨by simp [kids]; omega, by simp [kids], fun h => by simpa [kids] using h, fun h => by simpa [kids] using h, fun h => by simpa [kids] using h, by simp [kids]⟩
  | k + 1, i, acc => by
    rw [kids]
    split
    · rename_i hc
      have h := hf i
      have ih := kids_built hf len k (f i).2 (acc ++ [(f i).1])
      have e1 : cntL (acc ++ [(f i).1]) = cntL acc + Tg.cnt (f i).1 := by rw [cntL_append]; simp [cntL]
      have e2 : depL (acc ++ [(f i).1]) = max (depL acc) (Tg.dep (f i).1) := by rw [depL_append]; simp [depL]
      have e3 : wtL (acc ++ [(f i).1]) = wtL acc + Tg.wt (f i).1 := by rw [wtL_append]; simp [wtL]
      have e4 : plainL (acc ++ [(f i).1]) = plainL acc := by rw [plainL_append]; simp [plainL, h.hplain]
      have i1 := ih.hdep
      have i2 := ih.hcnt
      have i3 := ih.hwt
      have i4 := ih.hplain
      have i5 := ih.hupto
      have i6 := ih.hmore
      have h1 := h.hdep
      have h2 := h.hcnt
      have h3 := h.hwt
      have h5 := h.hupto hc.2
      have hp := cnt_pos (f i).1
      rw [e2] at i1
      rw [e1] at i2
      rw [e3, e1] at i3
      rw [e4] at i4
      exact ⟨by omega, by omega, i4, fun hw => i3 (by omega), fun _ => i5 h5, by omega⟩
    · exact ⟨by simp; omega, by simp, fun h => h, fun h => h, fun h => h, Nat.le_refl _⟩
theorem tagOf_ok (n : N) : (n.cls % 4 = 0 → tagOf n ≠ 0) ∧ tagOf n ≤ 2097151 := by
  unfold tagOf
  split <;> omega
theorem plain_leaf {c t : Nat} {v : List UInt8} (hc : c ≤ 3) (ht : t ≤ 2097151) (h0 : c = 0 → t ≠ 0) : plain (.mk c t false v []) = true := by
  have h1 : ¬ 3 < c := by omega
  have h2 : ¬ 2097151 < t := by omega
  by_cases hz : c = 0
  · simp [plain, plainL, h1, h2, hz, h0 hz]
  · simp [plain, plainL, h1, h2, hz]
theorem plain_built {c t : Nat} {ps : List Tree} (hc : c ≤ 3) (ht : t ≤ 2097151) (h0 : c = 0 → t ≠ 0) (hp : plainL ps = true) : plain (.mk c t true [] ps) = true := by
  have h1 : ¬ 3 < c := by omega
  have h2 : ¬ 2097151 < t := by omega
  by_cases hz : c = 0
  · simp [plain, hp, h1, h2, hz, h0 hz]
  · simp [plain, hp, h1, h2, hz]
theorem growN_built {ns : List N} {lv : Nat} {K : Nat → Nat → List Tree × Nat} (hK : ∀ k i, depL (K k i).1 ≤ lv ∧ i + cntL (K k i).1 = (K k i).2 ∧ plainL (K k i).1 = true ∧ wtL (K k i).1 ≤ 324 * cntL (K k i).1 ∧ (i ≤ 40 → (K k i).2 ≤ 40)) (i : Nat) :
    Built lv i (growN ns i K) := by
  unfold growN
  have hleaf : Built lv i (.mk 3 1 false [] [], i + 1) := ⟨by simp [dep, depL], by simp [cnt, cntL], plain_leaf (by omega) (by omega) (by omega), by simp [wt, wtL, cnt, cntL], fun h => by simp; omega⟩
  cases hn : ns[i]? with
  | none => exact hleaf
  | some n =>
    simp only
    split
    · exact hleaf
    · rename_i h40
      have ht := tagOf_ok n
      split
      · have hl : (n.val.take 300).length ≤ 300 := List.length_take_le _ _
        exact ⟨by simp [dep, depL], by simp [cnt, cntL], plain_leaf (by omega) ht.2 ht.1, by simp [wt, wtL, cnt, cntL]; simp at hl; omega, fun h => by simp; omega⟩
      · obtain ⟨a1, a2, a3, a4, a5⟩ := hK (n.parts % 4) (i + 1)
        exact ⟨by simp [dep]; omega, by simp [cnt]; omega, plain_built (by omega) ht.2 ht.1 a3, by simp [wt, cnt]; omega, fun h => a5 (by omega)⟩
theorem growP_built (ns : List N) : ∀ lv i, Built lv i (growP ns lv i)
  | 0, i => growN_built (fun k i => ⟨by simp [depL], by simp [cntL], by simp [plainL], by simp [wtL, cntL], fun h => h⟩) i
  | lv + 1, i => growN_built (fun k i => by
      have h := kids_built (growP_built ns lv) ns.length k i []
      have h1 := h.hdep
      have h2 := h.hcnt
      simp only [depL, cntL, Nat.add_zero] at h1 h2
      exact ⟨by omega, h2, h.hplain rfl, h.hwt (by simp [wtL]), h.hupto⟩) i
/-- What Of builds. -/
theorem ofT_ok (ns : List N) : check (ofT ns) = 0 ∧ cnt (ofT ns) ≤ 40 ∧ dep (ofT ns) ≤ 10 ∧ wt (ofT ns) ≤ 12960 ∧ plain (ofT ns) = true := by
  have h := growP_built ns 9 0
  have h1 := h.hdep
  have h2 := h.hcnt
  have h3 := h.hupto (by omega)
  have h4 := h.hwt
  unfold ofT
  exact ⟨check_ok (by omega) (by omega) h.hplain, by omega, by omega, by omega, h.hplain⟩

/-! ### Elements as lists of nodes -/
structure Nd where
  cls : Nat
  tag : Nat
  built : Bool
  val : List UInt8
  parts : Nat
  deriving DecidableEq
mutual
def flat : Tree → List Nd
  | .mk c t b v ps => ⟨c, t, b, v, ps.length⟩ :: flatL ps
def flatL : List Tree → List Nd
  | [] => []
  | p :: ps => flat p ++ flatL ps
end
mutual
theorem same_refl : ∀ t : Tree, same t t = true
  | .mk c t b v ps => by simp [same, sameL_refl ps]
theorem sameL_refl : ∀ ps : List Tree, sameL ps ps = true
  | [] => rfl
  | p :: ps => by simp [sameL, same_refl p, sameL_refl ps]
end
mutual
theorem same_eq : ∀ t u : Tree, same t u = true → t = u
  | .mk c t b v ps, .mk c' t' b' v' ps', h => by
    simp only [same, Bool.and_eq_true, beq_iff_eq] at h
    obtain ⟨⟨⟨⟨⟨rfl, rfl⟩, rfl⟩, rfl⟩, hl⟩, hs⟩ := h
    rw [sameL_eq ps ps' hl hs]
theorem sameL_eq : ∀ ps qs : List Tree, ps.length = qs.length → sameL ps qs = true → ps = qs
  | [], [], _, _ => rfl
  | [], _ :: _, h, _ => by simp at h
  | _ :: _, [], h, _ => by simp at h
  | p :: ps, q :: qs, hl, h => by
    simp only [sameL, Bool.and_eq_true] at h
    rw [same_eq p q h.1, sameL_eq ps qs (by simpa using hl) h.2]
end
mutual
theorem flat_inj : ∀ (t u : Tree) (r s : List Nd), flat t ++ r = flat u ++ s → t = u ∧ r = s
  | .mk c t b v ps, .mk c' t' b' v' ps', r, s, h => by
    simp only [flat, List.cons_append, List.cons.injEq, Nd.mk.injEq] at h
    obtain ⟨⟨rfl, rfl, rfl, rfl, hl⟩, h⟩ := h
    obtain ⟨rfl, rfl⟩ := flatL_inj ps ps' r s hl h
    exact ⟨rfl, rfl⟩
theorem flatL_inj : ∀ (ps qs : List Tree) (r s : List Nd), ps.length = qs.length → flatL ps ++ r = flatL qs ++ s → ps = qs ∧ r = s
  | [], [], r, s, _, h => ⟨rfl, by simpa [flatL] using h⟩
  | [], _ :: _, _, _, h, _ => by simp at h
  | _ :: _, [], _, _, h, _ => by simp at h
  | p :: ps, q :: qs, r, s, hl, h => by
    simp only [flatL, List.append_assoc] at h
    obtain ⟨rfl, h'⟩ := flat_inj p q _ _ h
    obtain ⟨rfl, rfl⟩ := flatL_inj ps qs r s (by simpa using hl) h'
    exact ⟨rfl, rfl⟩
end
/-- 'Same' and 'alike' tell the same. -/
theorem same_flat (t u : Tree) : same t u = (flat t == flat u) := by
  by_cases h : t = u
  · subst h
    rw [same_refl]
    simp
  · have h1 : same t u = false := by
      cases hs : same t u with
      | false => rfl
      | true => exact absurd (same_eq t u hs) h
    have h2 : ¬ flat t = flat u := fun e => h (flat_inj t u [] [] (by rw [e])).1
    rw [h1]
    simp [h2]
theorem flat_len : ∀ t : Tree, (flat t).length = cnt t := by
  have h : ∀ k, (∀ t : Tree, sizeOf t ≤ k → (flat t).length = cnt t) ∧ ∀ ps : List Tree, sizeOf ps ≤ k → (flatL ps).length = cntL ps := by
    intro k
    induction k with
    | zero => exact ⟨fun t h => by cases t; simp at h, fun ps h => by cases ps <;> simp at h⟩
    | succ k ih =>
      refine ⟨fun t h => ?_, fun ps h => ?_⟩
      · cases t
        simp only [flat, cnt, List.length_cons]
        simp at h
        rw [ih.2 _ (by omega)]
      · cases ps with
        | nil => simp [flatL, cntL]
        | cons p ps =>
          simp only [flatL, cntL, List.length_append]
          simp at h
          rw [ih.1 _ (by omega), ih.2 _ (by omega)]
  exact fun t => (h (sizeOf t)).1 t (Nat.le_refl _)
end Tg
end Go.Proofs.YthonjbaeadbhdaaDoor
