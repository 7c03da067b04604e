/- Opening a struct of eight numbers; a seal is well sealed. -/
import Derived.Test.YtbenghpodfkdcaaP4
import Derived.Test.YtbenghpodfkdcaaM
import Derived.Deep.Slices
import Derived.Deep.Fields
import Derived.ProofKit
import Derived.Lib.SmallJoins
namespace Go.Proofs.Ytbenghpodfkdcaa
open Go.Joins Go.ChangeShapes Go.WideShapes Go.RowKit Go.Deep

section
variable {H : Type} {enc : TypeId × Value → H} {P : Program} {w : World} {base : Nat} {spare : Nat → Bool} {held : Bool}
theorem open_agg8 {r : Reach} {b0 : Nat} {t : TypeId} {f0 f1 f2 f3 f4 f5 f6 f7 : Field} {v : Value} {d : DataW H} {p : List MemPlace} (hs : P.underlying t = some (.struct #[f0, f1, f2, f3, f4, f5, f6, f7])) (hone : oneCellFields P #[f0, f1, f2, f3, f4, f5, f6, f7] = true) (hC : P.cellsOf t = 8)
    (hv : Value.okWide P w r b0 t v) (h : DataW.Trod enc P w base spare held t v d p) :
    ∃ (v0 v1 v2 v3 v4 v5 v6 v7 : Value) (y0 y1 y2 y3 y4 y5 y6 y7 : DataW H × List MemPlace) (n : Nat), v = .agg #[v0, v1, v2, v3, v4, v5, v6, v7] ∧
      DataW.trod enc P w base spare held n f0.type [v0] = some y0 ∧ DataW.trod enc P w base spare held n f1.type [v1] = some y1 ∧ DataW.trod enc P w base spare held n f2.type [v2] = some y2 ∧ DataW.trod enc P w base spare held n f3.type [v3] = some y3 ∧ DataW.trod enc P w base spare held n f4.type [v4] = some y4 ∧ DataW.trod enc P w base spare held n f5.type [v5] = some y5 ∧ DataW.trod enc P w base spare held n f6.type [v6] = some y6 ∧ DataW.trod enc P w base spare held n f7.type [v7] = some y7 := by
  obtain ⟨cs, rfl, hsz⟩ := okWide_struct hs hv
  obtain ⟨l⟩ := cs
  match l, hsz.trans hC with
  | [c0, c1, c2, c3, c4, c5, c6, c7], _ =>
    obtain ⟨fuel, hf⟩ := h
    obtain ⟨xs, n, _, hx, _, hlen, hg⟩ := DataW.trod_struct hs hf
    obtain ⟨o0, k0⟩ := hone_of hone 0 f0 rfl
    obtain ⟨o1, k1⟩ := hone_of hone 1 f1 rfl
    obtain ⟨o2, k2⟩ := hone_of hone 2 f2 rfl
    obtain ⟨o3, k3⟩ := hone_of hone 3 f3 rfl
    obtain ⟨o4, k4⟩ := hone_of hone 4 f4 rfl
    obtain ⟨o5, k5⟩ := hone_of hone 5 f5 rfl
    obtain ⟨o6, k6⟩ := hone_of hone 6 f6 rfl
    obtain ⟨o7, k7⟩ := hone_of hone 7 f7 rfl
    match xs, hlen with
    | [y0, y1, y2, y3, y4, y5, y6, y7], _ =>
      exact ⟨c0, c1, c2, c3, c4, c5, c6, c7, y0, y1, y2, y3, y4, y5, y6, y7, n, rfl, by simpa [Value.cells, o0, k0] using hg 0 f0 rfl, by simpa [Value.cells, o1, k1] using hg 1 f1 rfl, by simpa [Value.cells, o2, k2] using hg 2 f2 rfl, by simpa [Value.cells, o3, k3] using hg 3 f3 rfl, by simpa [Value.cells, o4, k4] using hg 4 f4 rfl, by simpa [Value.cells, o5, k5] using hg 5 f5 rfl, by simpa [Value.cells, o6, k6] using hg 6 f6 rfl, by simpa [Value.cells, o7, k7] using hg 7 f7 rfl⟩
theorem cell_int {t : TypeId} {k : IntKind} {n : Nat} {v : Value} {y : DataW H × List MemPlace} (ht : P.underlying t = some (.int k)) (h : DataW.trod enc P w base spare held n t [v] = some y) : ∃ a, v = .int k a ∧ (Lit.int k a).wf = true := by
  obtain ⟨a, e, _, wa⟩ := DataW.trod_int ht h
  simp at e
  exact ⟨a, e, wa⟩
end

theorem open_cert {H : Type} {enc : TypeId × Value → H} {w : World} {base : Nat} {spare : Nat → Bool} {held : Bool} {r : Reach} {b0 : Nat} {v : Value} {d : DataW H} {p : List MemPlace}
    (hv : Value.okWide Try.prog w r b0 23 v) (h : DataW.Trod enc Try.prog w base spare held 23 v d p) :
    ∃ a0 a1 a2 a3 a4 a5 a6 a7 : Int, v = .agg #[.int .i64 a0, .int .i64 a1, .int .i64 a2, .int .i64 a3, .int .i64 a4, .int .i64 a5, .int .i64 a6, .int .i64 a7] ∧
      ∀ a ∈ [a0, a1, a2, a3, a4, a5, a6, a7], (Lit.int .i64 a).wf = true := by
  obtain ⟨v0, v1, v2, v3, v4, v5, v6, v7, y0, y1, y2, y3, y4, y5, y6, y7, n, rfl, h0, h1, h2, h3, h4, h5, h6, h7⟩ := open_agg8 Try.underlying23 (by kernel_rfl) (by kernel_rfl) hv h
  obtain ⟨a0, rfl, g0⟩ := cell_int (k := .i64) (by first | exact Try.underlying3 | exact Try.underlying27 | kernel_rfl) h0
  obtain ⟨a1, rfl, g1⟩ := cell_int (k := .i64) (by first | exact Try.underlying3 | exact Try.underlying27 | kernel_rfl) h1
  obtain ⟨a2, rfl, g2⟩ := cell_int (k := .i64) (by first | exact Try.underlying3 | exact Try.underlying27 | kernel_rfl) h2
  obtain ⟨a3, rfl, g3⟩ := cell_int (k := .i64) (by first | exact Try.underlying3 | exact Try.underlying27 | kernel_rfl) h3
  obtain ⟨a4, rfl, g4⟩ := cell_int (k := .i64) (by first | exact Try.underlying3 | exact Try.underlying27 | kernel_rfl) h4
  obtain ⟨a5, rfl, g5⟩ := cell_int (k := .i64) (by first | exact Try.underlying3 | exact Try.underlying27 | kernel_rfl) h5
  obtain ⟨a6, rfl, g6⟩ := cell_int (k := .i64) (by first | exact Try.underlying3 | exact Try.underlying27 | kernel_rfl) h6
  obtain ⟨a7, rfl, g7⟩ := cell_int (k := .i64) (by first | exact Try.underlying3 | exact Try.underlying27 | kernel_rfl) h7
  refine ⟨a0, a1, a2, a3, a4, a5, a6, a7, rfl, ?_⟩
  intro a ha
  simp only [List.mem_cons, List.not_mem_nil, or_false] at ha
  rcases ha with rfl | rfl | rfl | rfl | rfl | rfl | rfl | rfl <;> assumption

/-- A slice of numbers that came in. -/
theorem rc_of_ints {H : Type} {enc : TypeId × Value → H} {P : Program} {W : World} {base : Nat} {t e : TypeId} {k : IntKind} {v : Value} {d : DataW H} {p : List MemPlace} (ht : P.underlying t = some (.slice e)) (he : P.underlying e = some (.int k)) (hc : P.cellsOf e = 1)
    (hv : Value.okWide P W .any base t v) (h : DataW.Trod enc P W 0 (fun _ => true) true t v d p) :
    ∃ (n : Nat) (xs : List Int), Rc W v n 1 (nums k xs) ∧ ∀ x ∈ xs, (Lit.int k x).wf = true := by
  obtain ⟨a1, len, cap, rfl⟩ := okWide_slice ht hv
  obtain ⟨fuel, hf⟩ := h
  rcases open_ints ht he hc hf with ⟨hcs, hx⟩ | ⟨a, len', cap', zs, hcs, _, hl, hm, hz, hx, hcell, hwz⟩
  · simp [Value.cells] at hcs
    obtain ⟨rfl, rfl, rfl⟩ := hcs
    refine ⟨0, [], ⟨rfl, none, 0, rfl, Nat.le_refl _, fun _ => ⟨rfl, rfl⟩, fun ad h => by cases h⟩, fun x hx => by cases hx⟩
  · simp [Value.cells] at hcs
    obtain ⟨rfl, rfl, rfl⟩ := hcs
    simp only [if_true] at hz
    refine ⟨len, zs.take len, ⟨by rw [nums_length]; simp; omega, some a, cap, rfl, hl, ⟨(fun h => by cases h), ?_⟩⟩, fun x hx => hwz x (List.mem_of_mem_take hx)⟩
    intro ad had j u hu
    cases had
    simp only [nums, List.getElem?_map, List.getElem?_take] at hu
    by_cases hj : j < len
    · rw [if_pos hj, List.getElem?_eq_getElem (by omega)] at hu
      simp only [Option.map_some, Option.some.injEq] at hu
      rw [hcell j (by omega), ← hu, List.getD_eq_getElem?_getD, List.getElem?_eq_getElem (by omega)]
      rfl
    · rw [if_neg hj] at hu
      simp at hu

def cellNum (o : Option Value) : Int := match o with | some (.int _ n) => n | _ => 0
/-- A slice of structs of eight numbers that came in. -/
theorem rc_of_rows {H : Type} {enc : TypeId × Value → H} {P : Program} {W : World} {base : Nat} {t e : TypeId} {fs : Array Field} {v : Value} {d : DataW H} {p : List MemPlace} (ht : P.underlying t = some (.slice e)) (he : P.underlying e = some (.struct fs)) (hone : oneCellFields P fs = true) (hC : P.cellsOf e = fs.size)
    (hi : ∀ (j : Nat) (f : Field), fs[j]? = some f → P.underlying f.type = some (.int .i64))
    (hv : Value.okWide P W .any base t v) (h : DataW.Trod enc P W 0 (fun _ => true) true t v d p) :
    ∃ ls : List (List Int), Rc W v ls.length fs.size (flat ls) ∧ ∀ l ∈ ls, l.length = fs.size := by
  obtain ⟨a1, len, cap, rfl⟩ := okWide_slice ht hv
  obtain ⟨fuel, hf⟩ := h
  rcases open_slice ht hf with ⟨hcs, hx⟩ | ⟨a, len', cap', m, n, D, Pl, hcs, hb, hl, hm, hmm, hx, hrow⟩
  · simp [Value.cells] at hcs
    obtain ⟨rfl, rfl, rfl⟩ := hcs
    exact ⟨[], ⟨by simp [flat], none, 0, rfl, Nat.le_refl _, fun _ => ⟨rfl, rfl⟩, fun ad h => by cases h⟩, fun x hx => by cases hx⟩
  · simp [Value.cells] at hcs
    obtain ⟨rfl, rfl, rfl⟩ := hcs
    simp only [if_true] at hmm
    have hcell : ∀ i, i < len → ∀ j, j < fs.size → ∃ x, W.cell? (a.add (i * fs.size + j)) = some (.int .i64 x) := by
      intro i hil j hj
      obtain ⟨cs', hc, ht'⟩ := hrow i (by omega)
      rw [hC] at hc
      obtain ⟨ys, n', hn', hy, hlen, hyl, hff⟩ := DataW.trod_struct he ht'
      obtain ⟨_, hcl, hat⟩ := World.cells?_some hc
      have hjf : fs[j]? = some fs[j] := Array.getElem?_eq_getElem hj
      obtain ⟨ho, hk⟩ := hone_of hone j _ hjf
      have hcj := hat j hj
      have hv : cs'[j]? = some (cs'[j]'(by omega)) := List.getElem?_eq_getElem (by omega)
      have h1 := hff j _ hjf
      rw [ho, hk] at h1
      have hone' : (cs'.drop j).take 1 = [cs'[j]'(by omega)] := by
        rw [List.drop_eq_getElem_cons (by omega)]
        rfl
      rw [hone', List.getElem?_eq_getElem (by omega)] at h1
      obtain ⟨x, hx, _⟩ := cell_int (hi j _ hjf) h1
      refine ⟨x, ?_⟩
      rw [← Go.Deep.add_add, hcj, hv, hx]
    refine ⟨(List.range len).map fun i => (List.range fs.size).map fun j => cellNum (W.cell? (a.add (i * fs.size + j))), ?_, ?_⟩
    · have hz : ∀ l ∈ (List.range len).map (fun i => (List.range fs.size).map fun j => cellNum (W.cell? (a.add (i * fs.size + j)))), l.length = fs.size := by
        intro l hl
        obtain ⟨i, _, rfl⟩ := List.mem_map.1 hl
        simp
      have hlenm : ((List.range len).map (fun i => (List.range fs.size).map fun j => cellNum (W.cell? (a.add (i * fs.size + j))))).length = len := by simp
      refine ⟨flat_length _ _ hz, some a, cap, by rw [hlenm], by rw [hlenm]; exact hl, ⟨(fun h => by cases h), ?_⟩⟩
      intro ad had j u hu
      cases had
      have hj : j < len * fs.size := by
        have h1 := (List.getElem?_eq_some_iff.1 hu).1
        rw [flat_length _ _ hz, hlenm] at h1
        exact h1
      have hpos : 0 < fs.size := Nat.pos_of_ne_zero (fun h => by rw [h, Nat.mul_zero] at hj; omega)
      have hdi : j / fs.size < len := Nat.div_lt_of_lt_mul (by rw [Nat.mul_comm]; exact hj)
      have hmo : j % fs.size < fs.size := Nat.mod_lt _ hpos
      have hsp : j / fs.size * fs.size + j % fs.size = j := by rw [Nat.mul_comm]; exact Nat.div_add_mod j fs.size
      rw [← hsp, flat_get _ _ hz _ (by rw [hlenm]; exact hdi) _ hmo] at hu
      obtain ⟨x, hx⟩ := hcell _ hdi _ hmo
      rw [← hsp, hx, ← hu]
      simp [nums, hmo, hx, cellNum]
    · intro l hl
      obtain ⟨i, _, rfl⟩ := List.mem_map.1 hl
      simp

theorem bytes_of {xs : List Int} (h : ∀ x ∈ xs, (Lit.int .u8 x).wf = true) : Bytes xs := by
  intro x hx
  have h1 : IntKind.u8.min ≤ x ∧ x ≤ IntKind.u8.max := by simpa [Lit.wf] using h x hx
  have h2 : IntKind.u8.min = 0 := rfl
  have h3 : IntKind.u8.max = 255 := by decide
  rw [h2, h3] at h1
  omega
theorem u16_of {a : Int} (h : (Lit.int .u16 a).wf = true) : ∃ n : Nat, a = n ∧ n < 65536 := by
  have h1 : IntKind.u16.min ≤ a ∧ a ≤ IntKind.u16.max := by simpa [Lit.wf] using h
  have h2 : IntKind.u16.min = 0 := rfl
  have h3 : IntKind.u16.max = 65535 := by decide
  rw [h2, h3] at h1
  exact ⟨a.toNat, by omega, by omega⟩

theorem Try.own : ownKnob Try.prog.godebug = none := by kernel_rfl
theorem Try.laidOut : laidOutB Try.prog = true := by kernel_rfl

end Go.Proofs.Ytbenghpodfkdcaa
