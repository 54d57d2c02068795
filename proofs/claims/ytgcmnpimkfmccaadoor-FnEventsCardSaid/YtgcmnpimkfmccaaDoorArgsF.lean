/- Dot5, ArgsF: laid one behind the other. -/
import Derived.Test.YtgcmnpimkfmccaaDoorMemR
import Derived.Test.YtgcmnpimkfmccaaDoorArgs
section
set_option linter.unusedVariables false
namespace Go.Proofs.YtgcmnpimkfmccaaDoor
open Go.RowKit
/-- a dot: prop, hand, x (two), y -/
abbrev Dot5 := Int × Int × Int × Int × Int
def rowD (x : Dot5) : List Value := [.int .i64 x.1, .int .i64 x.2.1, .int .i64 x.2.2.1, .int .i64 x.2.2.2.1, .int .i64 x.2.2.2.2]
theorem rowD_len (x : Dot5) : (rowD x).length = 5 := rfl
end Go.Proofs.YtgcmnpimkfmccaaDoor
end
section
set_option linter.unusedVariables false
namespace Go.Proofs.YtgcmnpimkfmccaaDoor
open Go.ChangeShapes Go.WideShapes Go.ChangeAt Go.RowKit
section
variable {H : Type} {enc : TypeId × Value → H} {W : World} {base : Nat} {v : Value} {d : DataW H} {p : List MemPlace}
theorem rows_of {α : Type} {sz : Nat} {row : α → List Value} {Q : α → Prop} {t e : TypeId} (ht : Tryd.prog.underlying t = some (.slice e)) (hce : Tryd.prog.cellsOf e = sz) (hsz : 0 < sz) (hrow : ∀ x, (row x).length = sz)
    (hdec : ∀ (n : Nat) (cs : List Value) (y : DataW H × List MemPlace), cs.length = sz → DataW.trod enc Tryd.prog W 0 (fun _ => true) true n e cs = some y → ∃ a : α, cs = row a ∧ Q a)
    {fuel : Nat} {c : Value} {x : DataW H × List MemPlace} (h : DataW.trod enc Tryd.prog W 0 (fun _ => true) true fuel t [c] = some x) : ∃ xs : List α, RdRow sz row W c xs ∧ ∀ a ∈ xs, Q a := by
  rcases Deep.open_slice ht h with ⟨hcs, _⟩ | ⟨a, len, cap, m, n, D, Pl, hcs, _, hl, hm, hmm, _, hx⟩
  · simp only [List.cons.injEq, and_true] at hcs
    subst hcs
    exact ⟨[], ⟨none, 0, rfl, by simp, fun k hk => by simp at hk⟩, fun a ha => by cases ha⟩
  · simp only [List.cons.injEq, and_true] at hcs
    subst hcs
    simp only [if_true] at hmm
    subst hmm
    rw [hce] at hx
    have hlm : len ≤ 9223372036854775807 := by unfold maxLen at hm; omega
    by_cases hz : len = 0
    · subst hz
      exact ⟨[], ⟨some a, m, rfl, by simp, fun k hk => by simp at hk⟩, fun a ha => by cases ha⟩
    obtain ⟨b, off, spot⟩ := a
    have hs : spot = none := by
      obtain ⟨cs', h1, h2⟩ := hx 0 (by omega)
      obtain ⟨_, hlen, hc⟩ := World.cells?_some h1
      have h0 := hc 0 hsz
      rw [List.getElem?_eq_getElem (by omega)] at h0
      have := World.cell?_spot h0
      simpa [Addr.add] using this
    subst hs
    have hr : ∀ i, i < len → ∃ z : α, Q z ∧ ∀ c, c < sz → W.cell? ⟨b, off + i * sz + c, none⟩ = (row z)[c]? := fun i hi => by
      obtain ⟨cs', h1, h2⟩ := hx i (by omega)
      obtain ⟨_, hlen, hc⟩ := World.cells?_some h1
      obtain ⟨z, rfl, hq⟩ := hdec n cs' _ hlen h2
      refine ⟨z, hq, fun c hcz => ?_⟩
      rw [← hc c hcz, Go.WideShapes.add_plain, Go.WideShapes.add_plain]
    clear hx
    have build : ∀ k, k ≤ len → ∃ xs : List α, xs.length = k ∧ (∀ z ∈ xs, Q z) ∧ ∀ i (hi : i < xs.length), ∀ c, c < sz → W.cell? ⟨b, off + i * sz + c, none⟩ = (row xs[i])[c]? := by
      intro k
      induction k with
      | zero => intro _; exact ⟨[], rfl, (fun z hz => by cases hz), (fun i hi => absurd hi (Nat.not_lt_zero i))⟩
      | succ k ih =>
        intro hk
        obtain ⟨xs, h1, h2, h3⟩ := ih (by omega)
        obtain ⟨z, hq, hz⟩ := hr k (by omega)
        refine ⟨xs ++ [z], by simp [h1], fun y hy => ?_, fun i hi c hc => ?_⟩
        · rcases List.mem_append.1 hy with h | h
          · exact h2 y h
          · simp only [List.mem_singleton] at h; rw [h]; exact hq
        · by_cases hik : i < xs.length
          · rw [List.getElem_append_left hik]; exact h3 i hik c hc
          · have hie : i = k := by simp at hi; omega
            subst hie
            rw [List.getElem_append_right (by omega)]
            simpa [h1] using hz c hc
    obtain ⟨xs, h1, h2, h3⟩ := build len (Nat.le_refl _)
    refine ⟨xs, ⟨some ⟨b, off, none⟩, m, by rw [h1], by omega, fun k hk => ?_⟩, h2⟩
    refine ⟨b, off, rfl, fun c u hu => ?_⟩
    have hc : c < sz := by
      have h := (List.getElem?_eq_some_iff.1 hu).1
      rw [hrow] at h; exact h
    rw [h3 k hk c hc]; exact hu
end
end Go.Proofs.YtgcmnpimkfmccaaDoor
end
