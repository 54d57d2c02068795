/- How an argument that is a slice of structs reads; frames. -/
import Derived.Test.YtddfdppoclnpcaaDoorArgs
import Derived.Test.YtddfdppoclnpcaaDoorMemR
import Derived.Test.YtddfdppoclnpcaaDoorDot5
namespace Go.Proofs.YtddfdppoclnpcaaDoor
open Go.ChangeShapes Go.WideShapes Go.ChangeAt Go.RowKit
set_option linter.unusedVariables false
section
variable {H : Type} {enc : TypeId × Value → H} {W : World} {base : Nat} {v : Value} {d : DataW H} {p : List MemPlace}
theorem rows_of {α : Type} {sz : Nat} {row : α → List Value} {Q : α → Prop} {t e : TypeId} (ht : Tryd.prog.underlying t = some (.slice e)) (hce : Tryd.prog.cellsOf e = sz) (hsz : 0 < sz) (hrow : ∀ x, (row x).length = sz)
    (hdec : ∀ (n : Nat) (cs : List Value) (y : DataW H × List MemPlace), cs.length = sz → DataW.trod enc Tryd.prog W 0 (fun _ => true) true n e cs = some y → ∃ a : α, cs = row a ∧ Q a)
    {fuel : Nat} {c : Value} {x : DataW H × List MemPlace} (h : DataW.trod enc Tryd.prog W 0 (fun _ => true) true fuel t [c] = some x) : ∃ xs : List α, RdRow sz row W c xs ∧ ∀ a ∈ xs, Q a := by
  rcases Deep.open_slice ht h with ⟨hcs, _⟩ | ⟨a, len, cap, m, n, D, Pl, hcs, _, hl, hm, hmm, _, hx⟩
  · simp only [List.cons.injEq, and_true] at hcs
    subst hcs
    exact ⟨[], ⟨none, 0, rfl, by simp, fun k hk => by simp at hk⟩, fun a ha => by cases ha⟩
  · simp only [List.cons.injEq, and_true] at hcs
    subst hcs
    simp only [if_true] at hmm
    subst hmm
    rw [hce] at hx
    have hlm : len ≤ 9223372036854775807 := by unfold maxLen at hm; omega
    by_cases hz : len = 0
    · subst hz
      exact ⟨[], ⟨some a, m, rfl, by simp, fun k hk => by simp at hk⟩, fun a ha => by cases ha⟩
    obtain ⟨b, off, spot⟩ := a
    have hs : spot = none := by
      obtain ⟨cs', h1, h2⟩ := hx 0 (by omega)
      obtain ⟨_, hlen, hc⟩ := World.cells?_some h1
      have h0 := hc 0 hsz
      rw [List.getElem?_eq_getElem (by omega)] at h0
      have := World.cell?_spot h0
      simpa [Addr.add] using this
    subst hs
    have hr : ∀ i, i < len → ∃ z : α, Q z ∧ ∀ c, c < sz → W.cell? ⟨b, off + i * sz + c, none⟩ = (row z)[c]? := fun i hi => by
      obtain ⟨cs', h1, h2⟩ := hx i (by omega)
      obtain ⟨_, hlen, hc⟩ := World.cells?_some h1
      obtain ⟨z, rfl, hq⟩ := hdec n cs' _ hlen h2
      refine ⟨z, hq, fun c hcz => ?_⟩
      rw [← hc c hcz, Go.WideShapes.add_plain, Go.WideShapes.add_plain]
    clear hx
    have build : ∀ k, k ≤ len → ∃ xs : List α, xs.length = k ∧ (∀ z ∈ xs, Q z) ∧ ∀ i (hi : i < xs.length), ∀ c, c < sz → W.cell? ⟨b, off + i * sz + c, none⟩ = (row xs[i])[c]? := by
      intro k
      induction k with
      | zero => intro _; exact ⟨[], rfl, (fun z hz => by cases hz), (fun i hi => absurd hi (Nat.not_lt_zero i))⟩
      | succ k ih =>
        intro hk
        obtain ⟨xs, h1, h2, h3⟩ := ih (by omega)
        obtain ⟨z, hq, hz⟩ := hr k (by omega)
        refine ⟨xs ++ [z], by simp [h1], fun y hy => ?_, fun i hi c hc => ?_⟩
        · rcases List.mem_append.1 hy with h | h
          · exact h2 y h
          · simp only [List.mem_singleton] at h; rw [h]; exact hq
        · by_cases hik : i < xs.length
          · rw [List.getElem_append_left hik]; exact h3 i hik c hc
          · have hie : i = k := by simp at hi; omega
            subst hie
            rw [List.getElem_append_right (by omega)]
            simpa [h1] using hz c hc
    obtain ⟨xs, h1, h2, h3⟩ := build len (Nat.le_refl _)
    refine ⟨xs, ⟨some ⟨b, off, none⟩, m, by rw [h1], by omega, fun k hk => ?_⟩, h2⟩
    refine ⟨b, off, rfl, fun c u hu => ?_⟩
    have hc : c < sz := by
      have h := (List.getElem?_eq_some_iff.1 hu).1
      rw [hrow] at h; exact h
    rw [h3 k hk c hc]; exact hu
theorem cells_Dot : Tryd.prog.cellsOf 31 = 5 := by kernel_rfl
theorem cells_Frac : Tryd.prog.cellsOf 29 = 2 := by kernel_rfl
theorem cells_Dots : Tryd.prog.cellsOf 38 = 1 := by kernel_rfl
theorem cells_Frame : Tryd.prog.cellsOf 40 = 2 := by kernel_rfl
set_option maxRecDepth 100000 in
theorem dot_of {n : Nat} {cs : List Value} {y : DataW H × List MemPlace} (hl : cs.length = 5) (h : DataW.trod enc Tryd.prog W 0 (fun _ => true) true n 31 cs = some y) : ∃ a : Dot5, cs = rowD a ∧ True := by
  obtain ⟨c0, c1, c2, c3, c4, rfl⟩ := list5 hl
  obtain ⟨y0, n0, h0⟩ := field_of Tryd.underlying31 h 0 2 0 1 rfl cells_int64
  obtain ⟨y1, n1, h1⟩ := field_of Tryd.underlying31 h 1 2 1 1 rfl cells_int64
  obtain ⟨y2, n2, h2⟩ := field_of Tryd.underlying31 h 2 29 2 2 rfl cells_Frac
  obtain ⟨y3, n3, h3⟩ := field_of Tryd.underlying31 h 3 2 4 1 rfl cells_int64
  obtain ⟨z0, m0, t0⟩ := field_of Tryd.underlying29 h2 0 2 0 1 rfl cells_int64
  obtain ⟨z1, m1, t1⟩ := field_of Tryd.underlying29 h2 1 2 1 1 rfl cells_int64
  obtain ⟨a, rfl, _⟩ := isInt_of h0
  obtain ⟨b, rfl, _⟩ := isInt_of h1
  obtain ⟨e, rfl, _⟩ := isInt_of t0
  obtain ⟨f, rfl, _⟩ := isInt_of t1
  obtain ⟨g, rfl, _⟩ := isInt_of h3
  exact ⟨(a, b, e, f, g), rfl, trivial⟩
def Arg_Frame (w : World) (v : Value) : Prop := ∃ (v1 : Value) (xs : List Dot5) (t : Int), v = .agg #[.int .i64 t, v1] ∧ RdRow 5 rowD w v1 xs
set_option maxRecDepth 100000 in
theorem open_Frame (hv : Value.okWide Tryd.prog W .any base 40 v) (h : DataW.Trod enc Tryd.prog W 0 (fun _ => true) true 40 v d p) : Arg_Frame W v := by
  obtain ⟨cs, hcs, hsz⟩ := okWide_struct Tryd.underlying40 hv
  obtain ⟨n, hn⟩ := trod_here hcs _ h
  obtain ⟨c0, c1, hl⟩ := list2 (cs := cs.toList) (by simpa using hsz.trans cells_Frame)
  rw [hl] at hn
  obtain ⟨y0, n0, h0⟩ := field_of Tryd.underlying40 hn 0 2 0 1 rfl cells_int64
  obtain ⟨y1, n1, h1⟩ := field_of Tryd.underlying40 hn 1 38 1 1 rfl cells_Dots
  obtain ⟨t, rfl, _⟩ := isInt_of h0
  obtain ⟨xs, hx, _⟩ := rows_of (row := rowD) (Q := fun _ => True) Tryd.underlying38 cells_Dot (by decide) rowD_len (fun n cs y hl h => dot_of hl h) h1
  refine ⟨c1, xs, t, ?_, hx⟩
  subst hcs
  congr 1
  exact Array.toList_inj.1 hl
end
end Go.Proofs.YtddfdppoclnpcaaDoor
