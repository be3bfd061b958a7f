/- What comes in: a list of elements as plain data; two bytes. -/
import Derived.Test.YthonjbaeadbhdaaDoorLawKit2
import Derived.Test.YthonjbaeadbhdaaDoorTagsGrown0
import Derived.Deep.Slices
import Derived.Deep.Fields
import Derived.ChangeSame
import Derived.OpenShut
namespace Go.Proofs.YthonjbaeadbhdaaDoor
open Go.ChangeShapes Go.WideShapes Go.ChangeAt Go.RowKit Go.Deep

section
variable {H : Type} {enc : TypeId × Value → H} {P : Program} {w : World} {base : Nat} {spare : Nat → Bool} {held : Bool}
/-- A slice of structs of one-cell fields: each field's cell and reading (after the kit's open_slice). -/
theorem slice_fields {t e : TypeId} {fs : Array Field} {fuel : Nat} {cs : List Value} {x : DataW H × List MemPlace} (ht : P.underlying t = some (.slice e)) (he : P.underlying e = some (.struct fs))
    (hone : oneCellFields P fs = true) (hC : P.cellsOf e = fs.size) (h : DataW.trod enc P w base spare held fuel t cs = some x) :
    (cs = [.slice none 0 0] ∧ x.1 = .nil) ∨
    ∃ (a : Addr) (len cap : Nat) (D : Nat → DataW H) (rest : List (DataW H)), cs = [.slice (some a) len cap] ∧ len ≤ cap ∧ x.1 = .slice ((List.range len).map D) rest ∧
      ∀ i, i < len → ∃ (ys : List (DataW H × List MemPlace)) (n : Nat), D i = .agg (ys.map (·.1)) ∧ ys.length = fs.size ∧
        ∀ (j : Nat) (f : Field), fs[j]? = some f → ∃ (v : Value) (y : DataW H × List MemPlace), w.cell? (a.add (i * fs.size + j)) = some v ∧ ys[j]? = some y ∧ DataW.trod enc P w base spare held n f.type [v] = some y := by
  rcases open_slice ht h with ⟨h0, h1⟩ | ⟨a, len, cap, m, n, D, Pl, hcs, hb, hl, hm, hmm, hx, hi⟩
  · exact .inl ⟨h0, by rw [h1]⟩
  · refine .inr ⟨a, len, cap, D, _, hcs, hl, by rw [hx], fun i hil => ?_⟩
    have him : i < m := by
      rw [hmm]
      split <;> omega
    obtain ⟨cs', hc, ht'⟩ := hi i him
    rw [hC] at hc
    obtain ⟨ys, n', hn', hy, hlen, hyl, hf⟩ := DataW.trod_struct he ht'
    obtain ⟨_, hcl, hat⟩ := World.cells?_some hc
    simp only [Prod.mk.injEq] at hy
    refine ⟨ys, n', hy.1, hyl, fun j f hj => ?_⟩
    obtain ⟨ho, hk⟩ := hone_of hone j f hj
    have hjl : j < fs.size := (Array.getElem?_eq_some_iff.1 hj).1
    have hcell := hat j hjl
    have h1 := hf j f hj
    rw [ho, hk] at h1
    have hone' : (cs'.drop j).take 1 = [cs'[j]'(by omega)] := by
      rw [List.drop_eq_getElem_cons (by omega)]
      rfl
    rw [hone'] at h1
    have hys : ys[j]? = some (ys[j]'(by omega)) := List.getElem?_eq_getElem (by omega)
    refine ⟨_, _, ?_, hys, h1.trans hys⟩
    rw [← Go.Deep.add_add, hcell, List.getElem?_eq_getElem (by omega : j < cs'.length)]
end
theorem weightsAll_mem {H : Type} {P : Program} {e : TypeId} {p : Nat → Bool} : ∀ (l : List (DataW H)), (DataW.weightsAll P e l).all p = true → ∀ d ∈ l, (d.weights P e).all p = true
  | [], _, d, h => by simp at h
  | x :: l, hw, d, h => by
    simp only [DataW.weightsAll, List.all_append, Bool.and_eq_true] at hw
    rcases List.mem_cons.1 h with rfl | h
    · exact hw.1
    · exact weightsAll_mem l hw.2 d h
theorem list_of {α : Type} {Q : Nat → α → Prop} : ∀ len, (∀ i, i < len → ∃ x, Q i x) → ∃ l : List α, l.length = len ∧ ∀ i x, l[i]? = some x → Q i x
  | 0, _ => ⟨[], rfl, fun i x h => by simp at h⟩
  | len + 1, h => by
    obtain ⟨l, hl, hq⟩ := list_of len (fun i hi => h i (by omega))
    obtain ⟨x, hx⟩ := h len (by omega)
    refine ⟨l ++ [x], by simp [hl], fun i y hy => ?_⟩
    by_cases hi : i < len
    · rw [List.getElem?_append_left (by omega)] at hy
      exact hq i y hy
    · have hlt := (List.getElem?_eq_some_iff.1 hy).1
      simp at hlt
      have hi' : i = len := by omega
      subst hi'
      rw [List.getElem?_append_right (by omega)] at hy
      simp [hl] at hy
      exact hy ▸ hx
theorem spot_none {w : World} {a : Addr} {v : Value} (h : w.cell? a = some v) : a.spot = none := by
  unfold World.cell? at h
  split at h
  · split at h
    · cases h
    · rename_i hs
      cases hsp : a.spot with
      | none => rfl
      | some _ => rw [hsp] at hs; simp at hs
  · cases h
/-- A slice of elements as plain data that comes in. -/
theorem ns_argP {P : Program} {tl tn tb tu tk : TypeId} {f0 f1 f2 f3 f4 : Field} (htl : P.underlying tl = some (.slice tn)) (htn : P.underlying tn = some (.struct #[f0, f1, f2, f3, f4])) (hone : oneCellFields P #[f0, f1, f2, f3, f4] = true) (hC : P.cellsOf tn = 5) (hbn : P.bytesOf tn = 48)
    (e0 : f0.type = tu) (e1 : f1.type = tk) (e2 : ∀ t, t = f2.type → P.underlying t = some .bool) (e3 : f3.type = tb) (e4 : f4.type = tu) (hk : P.underlying tk = some (.int .u32)) (hts : P.underlying tb = some (.slice tu)) (hte : P.underlying tu = some (.int .u8)) (hce : P.cellsOf tu = 1) (hbe : P.bytesOf tu = 1)
    {H : Type} {enc : TypeId × Value → H} {W : World} {base : Nat} {v : Value} {d : DataW H} {p : List MemPlace}
    (h : DataW.Trod enc P W 0 (fun _ => true) true tl v d p) (hval : Value.okWide P W .any base tl v)
    (hw : (d.weights P tl).all (· ≤ reachBytes) = true) : ∃ a c ns, v = .slice a (List.length ns) c ∧ ns.length ≤ lim ∧ NsR W a ns := by
  obtain ⟨a, n, c, rfl⟩ := okWide_slice htl hval
  obtain ⟨fuel, hf⟩ := h
  have hreach : reachBytes = 140737488351232 := rfl
  rcases slice_fields htl htn hone (by rw [hC]; rfl) hf with ⟨hc, hx⟩ | ⟨ad, len, cap, D, rest, hc, hl, hx, hi⟩
  · have hc' : (Value.slice a n c).cells.toList = [.slice a n c] := rfl
    rw [hc'] at hc
    injection hc with hc _
    injection hc with h1 h2 h3
    subst h1 h2 h3
    exact ⟨none, 0, [], rfl, by simp, fun j n h => by simp at h⟩
  · have hc' : (Value.slice a n c).cells.toList = [.slice a n c] := rfl
    rw [hc'] at hc
    injection hc with hc _
    injection hc with h1 h2 h3
    subst h1 h2 h3
    simp only at hx
    rw [hx] at hw
    unfold DataW.weights at hw
    rw [htl] at hw
    simp only [List.all_cons, Bool.and_eq_true, decide_eq_true_eq, List.all_append, hbn, List.length_map, List.length_range] at hw
    obtain ⟨hw1, hw2, -⟩ := hw
    have hnl : n ≤ lim := by
      unfold lim
      omega
    have one : ∀ i, i < n → ∃ m : Tg.N, m.cls < 256 ∧ m.tag < 4294967296 ∧ m.parts < 256 ∧ m.val.length ≤ lim ∧
        ∃ g o va vc, some ad = some (⟨g, o, none⟩ : Addr) ∧ m.val.length ≤ vc ∧ SliceAt AnyB W va (bvs m.val) ∧ W.cell? ⟨g, o + i * 5, none⟩ = some (.int .u8 m.cls) ∧ W.cell? ⟨g, o + i * 5 + 1, none⟩ = some (.int .u32 m.tag) ∧
          W.cell? ⟨g, o + i * 5 + 2, none⟩ = some (.bool m.built) ∧ W.cell? ⟨g, o + i * 5 + 3, none⟩ = some (.slice va m.val.length vc) ∧ W.cell? ⟨g, o + i * 5 + 4, none⟩ = some (.int .u8 m.parts) := by
      intro i hin
      obtain ⟨ys, k, hD, hyl, hfl⟩ := hi i hin
      obtain ⟨v0, y0, c0, hy0, r0⟩ := hfl 0 f0 rfl
      obtain ⟨v1, y1, c1, hy1, r1⟩ := hfl 1 f1 rfl
      obtain ⟨v2, y2, c2, hy2, r2⟩ := hfl 2 f2 rfl
      obtain ⟨v3, y3, c3, hy3, r3⟩ := hfl 3 f3 rfl
      obtain ⟨v4, y4, c4, hy4, r4⟩ := hfl 4 f4 rfl
      rw [e0] at r0
      rw [e1] at r1
      rw [e3] at r3
      rw [e4] at r4
      obtain ⟨n0, q0, -, w0⟩ := DataW.trod_int hte r0
      obtain ⟨n1, q1, -, w1⟩ := DataW.trod_int hk r1
      obtain ⟨n2, q2, -⟩ := DataW.trod_bool (e2 _ rfl) r2
      obtain ⟨n4, q4, -, w4⟩ := DataW.trod_int hte r4
      injection q0 with q0 _
      injection q1 with q1 _
      injection q2 with q2 _
      injection q4 with q4 _
      subst q0 q1 q2 q4
      have hwi := weightsAll_mem _ hw2 (D i) (List.mem_map.2 ⟨i, List.mem_range.2 hin, rfl⟩)
      rw [hD] at hwi
      have hys : ys = [y0, y1, y2, y3, y4] := by
        match ys, hyl with
        | [z0, z1, z2, z3, z4], _ =>
          simp at hy0 hy1 hy2 hy3 hy4
          rw [hy0, hy1, hy2, hy3, hy4]
      rw [hys] at hwi
      unfold DataW.weights at hwi
      rw [htn] at hwi
      simp only [List.map_cons, List.map_nil, DataW.weightsEach, List.all_append, Bool.and_eq_true, e3] at hwi
      obtain ⟨dy, py⟩ := y3
      obtain ⟨l, hl3⟩ := bytes_trodP hts hte hce hbe r3 (by simpa using hwi.2.2.2.1)
      obtain ⟨va, vc, rfl, hvc, hll, hsl⟩ := hl3
      have hsp : ad.spot = none := by
        obtain ⟨_, _, _, -, hf0⟩ := hi 0 (by omega)
        obtain ⟨_, _, c00, _⟩ := hf0 0 f0 rfl
        have e : ad.add (0 * (#[f0, f1, f2, f3, f4] : Array Field).size + 0) = ad := by simp [Addr.add]
        rw [e] at c00
        exact spot_none c00
      obtain ⟨g, o, sp⟩ := ad
      simp only at hsp
      subst hsp
      have hadd : ∀ k, (⟨g, o, none⟩ : Addr).add k = ⟨g, o + k, none⟩ := fun k => by unfold Addr.add; split <;> simp_all
      rw [hadd] at c0 c1 c2 c3 c4
      simp only [Lit.wf, Bool.and_eq_true, decide_eq_true_eq] at w0 w1 w4
      have b0 : IntKind.u8.min = 0 := rfl
      have b1 : IntKind.u8.max = 255 := rfl
      have b2 : IntKind.u32.min = 0 := rfl
      have b3 : IntKind.u32.max = 4294967295 := rfl
      have x0 : ((n0.toNat : Nat) : Int) = n0 := by omega
      have x1 : ((n1.toNat : Nat) : Int) = n1 := by omega
      have x4 : ((n4.toNat : Nat) : Int) = n4 := by omega
      refine ⟨⟨n0.toNat, n1.toNat, n2, l, n4.toNat⟩, by simp only; omega, by simp only; omega, by simp only; omega, hll, g, o, va, vc, rfl, hvc, hsl, ?_, ?_, c2, c3, ?_⟩
      · simp only [x0]
        exact c0
      · simp only [x1]
        exact c1
      · simp only [x4]
        exact c4
    obtain ⟨ns, hns, hq⟩ := list_of n one
    exact ⟨some ad, c, ns, by rw [hns], by rw [hns]; exact hnl, hq⟩
/-- Two bytes that come in. -/
theorem two_argP {P : Program} {ta tu : TypeId} (hta : P.underlying ta = some (.array 2 tu)) (hte : P.underlying tu = some (.int .u8)) (hce : P.cellsOf tu = 1) (hca : P.cellsOf ta = 2) {H : Type} {enc : TypeId × Value → H} {W : World} {base : Nat} {v : Value} {d : DataW H} {p : List MemPlace}
    (h : DataW.Trod enc P W 0 (fun _ => true) true ta v d p) (hval : Value.okWide P W .any base ta v) : ∃ a b : Nat, v = .agg #[.int .u8 a, .int .u8 b] ∧ a < 256 ∧ b < 256 := by
  simp only [Value.okWide, hta] at hval
  obtain ⟨cs, rfl, hs, -⟩ := hval
  rw [hca] at hs
  obtain ⟨fuel, hf⟩ := h
  obtain ⟨xs, m, -, -, hl, hxl, he⟩ := DataW.trod_array hta hf
  have h0 := he 0 (by omega)
  have h1 := he 1 (by omega)
  obtain ⟨l⟩ := cs
  match l, hs with
  | [c0, c1], _ =>
    have hcell : (Value.agg ⟨[c0, c1]⟩).cells.toList = [c0, c1] := rfl
    rw [hcell, hce] at h0 h1
    match xs, hxl with
    | [x0, x1], _ =>
      obtain ⟨n0, q0, -, w0⟩ := DataW.trod_int hte h0
      obtain ⟨n1, q1, -, w1⟩ := DataW.trod_int hte h1
      simp at q0 q1
      subst q0 q1
      simp only [Lit.wf, Bool.and_eq_true, decide_eq_true_eq] at w0 w1
      have b0 : IntKind.u8.min = 0 := rfl
      have b1 : IntKind.u8.max = 255 := rfl
      have x0 : ((n0.toNat : Nat) : Int) = n0 := by omega
      have x1 : ((n1.toNat : Nat) : Int) = n1 := by omega
      exact ⟨n0.toNat, n1.toNat, by rw [x0, x1], by omega, by omega⟩
set_option maxRecDepth 100000 in
theorem ns_arg {H : Type} {enc : TypeId × Value → H} {W : World} {base : Nat} {v : Value} {d : DataW H} {p : List MemPlace}
    (h : DataW.Trod enc Tryd.prog W 0 (fun _ => true) true 31 v d p) (hval : Value.okWide Tryd.prog W .any base 31 v)
    (hw : (d.weights Tryd.prog 31).all (· ≤ reachBytes) = true) : ∃ a c ns, v = .slice a (List.length ns) c ∧ ns.length ≤ lim ∧ NsR W a ns := by
  obtain ⟨f0, f1, f2, f3, f4, hu, e0, e1, e2, e3, e4⟩ : ∃ f0 f1 f2 f3 f4, Tryd.prog.underlying 68 = some (.struct #[f0, f1, f2, f3, f4]) ∧ f0.type = 5 ∧ f1.type = 33 ∧ f2.type = 4 ∧ f3.type = 22 ∧ f4.type = 5 := ⟨_, _, _, _, _, Tryd.underlying68, rfl, rfl, rfl, rfl, rfl⟩
  have hone : oneCellFields Tryd.prog #[f0, f1, f2, f3, f4] = true := by
    have hk : ((Tryd.prog.underlying 68).map fun d => match d with | .struct fs => oneCellFields Tryd.prog fs | _ => false) = some true := by kernel_rfl
    rw [hu] at hk
    simpa using hk
  exact ns_argP Tryd.underlying31 hu hone (by kernel_rfl) (by kernel_rfl) e0 e1 (fun t ht => by rw [ht, e2]; exact Tryd.underlying4) e3 e4 Tryd.underlying33 Tryd.underlying22 Tryd.underlying5 (by kernel_rfl) (by kernel_rfl) h hval hw
set_option maxRecDepth 100000 in
theorem two_arg {H : Type} {enc : TypeId × Value → H} {W : World} {base : Nat} {v : Value} {d : DataW H} {p : List MemPlace}
    (h : DataW.Trod enc Tryd.prog W 0 (fun _ => true) true 58 v d p) (hval : Value.okWide Tryd.prog W .any base 58 v) : ∃ a b : Nat, v = .agg #[.int .u8 a, .int .u8 b] ∧ a < 256 ∧ b < 256 :=
  two_argP Tryd.underlying58 Tryd.underlying5 (by kernel_rfl) (by kernel_rfl) h hval
end Go.Proofs.YthonjbaeadbhdaaDoor
