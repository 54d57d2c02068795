/- The law LinesX: what it rests on, part 15 of 46. -/
import Derived.Test.YtioemkdapoombaaGreatDoorQLinesX04
import Derived.Test.YtioemkdapoombaaGreatDoorQLinesX14
import Derived.Deep.RegionHeld3
import Derived.Test.YtioemkdapoombaaGreatDoorRows
import Derived.ProofKit
import Derived.OpenShut
import Derived.ChangeOld
import Derived.Lib.SmallJoins
import Derived.Laws.ResultCell
import Derived.Deep.Slices
import Derived.Test.YtioemkdapoombaaGreatDoorQLinesX01
import Derived.Test.YtioemkdapoombaaGreatDoorQLinesX03
import Derived.Test.YtioemkdapoombaaGreatDoorQLinesX06
import Derived.ArgAppend
import Derived.Deep.AppendLies
section
namespace Go.Proofs.YtioemkdapoombaaGreatDoor
open Go.ChangeShapes Go.WideShapes Go.ChangeAt Go.RowKit
set_option linter.unusedVariables false
set_option linter.unusedSimpArgs false
theorem mxF_le {p : List Int} {h : Int} (hh : 0 ≤ h) (hp : ∀ x ∈ p, x ≤ h) : ¬ mxF 0 p > h := by
  rcases (mxF_ge 0 p).2.2 with h1 | h1
  · omega
  · have := hp _ h1; omega
theorem c_spec_l00Own (xs : List Int) (v : Value) (w : World) (hr : RdI w v xs) (hl : xs.length ≤ 1000000) :
    Calls Tryz.prog 92 #[v] w fun e w' => ∃ u, e = .returned u ∧ OwnI1 w.heap.size w' u xs ∧ Below w.heap.size w w' := by
  have hr' := hr.below ((Below.refl _ _).al (Obj.cells #[] 2))
  have ho : OwnI1 w.heap.size (w.alloc (Obj.cells #[] 2)) (.slice (some ⟨w.heap.size, 0, none⟩) 0 0) [] := OwnI.made rfl rfl (Nat.le_refl _)
  have hb0 : Below w.heap.size w (w.alloc (Obj.cells #[] 2)) := (Below.refl _ _).al _
  go_enter Tryz.func92, Tryz.ntmps92
  go_wp2_with (at_builtin; refine push_ints rfl _ _ _ _ rfl Tryz.underlying26 infoI w.heap.size _ _ [] xs _ rfl rfl (by exact ho) ⟨_, _, _, rfl⟩ (by exact hr') (by simp only [List.length_nil]; omega) (by simp) ?_; intro v2 w2 ho2 hg2 hat2 hs2)
  go_ret
  exact ⟨_, rfl, by simpa using ho2, hb0.grown hg2 (by simp) (fun k hk => (World.ownsRow.lt ho k hk).1)⟩
end Go.Proofs.YtioemkdapoombaaGreatDoor
end
section
section
set_option linter.unusedVariables false
namespace Go.Proofs.YtioemkdapoombaaGreatDoor
open Go.ChangeShapes Go.WideShapes Go.ChangeAt Go.RowKit
section
variable {H : Type} {enc : TypeId × Value → H} {W : World} {base : Nat} {v : Value} {d : DataW H} {p : List MemPlace}
end
end Go.Proofs.YtioemkdapoombaaGreatDoor
end
section
set_option linter.unusedVariables false
namespace Go.Proofs.YtioemkdapoombaaGreatDoor
open Go.ChangeShapes Go.WideShapes Go.ChangeAt Go.RowKit
set_option linter.unusedSimpArgs false
abbrev OwnGG (lo hi : Nat) (w : World) (v : Value) (X : List (List Int)) : Prop := OwnG 26 2 lo hi w v X
theorem infoG1 : (Tryz.prog.info? 26).map (fun i => (i.zero, i.size, i.bytes)) = some (some (.slice none 0 0), 1, 24) := by kernel_rfl
end Go.Proofs.YtioemkdapoombaaGreatDoor
end
end
section
namespace Go.RowKit
open Go.ChangeShapes Go.WideShapes Go.ChangeAt
set_option linter.unusedVariables false
theorem OwnG.lt {ES e : TypeId} {lo hi : Nat} {w : World} {v : Value} {X : List (List Int)} (h : OwnG ES e lo hi w v X) : ∀ k, v.ownBlock = some k → lo ≤ k ∧ k < w.heap.size := by
  obtain ⟨vs, k1, k2, _⟩ := h
  exact World.ownsRow.lt k2
theorem OwnI.one {E : TypeId} {B : Nat} {w : World} {v : Value} {xs : List Int} (h : OwnI E B w v xs) : v.oneCell' = true := by
  rcases h.2 with ⟨rfl, _⟩ | ⟨g, cap, cur, rfl, _⟩ <;> rfl
theorem step_push_g {P : Program} {ops : Array Oper} {o : Oper} {a : Act} {K : Act → World → Prop} {Q : Exit → Act → World → Prop} {Ep : Prop} {ES e : TypeId} {lo hi : Nat} (hgd : o.guard = none) (s x : Operand) (t : TypeId)
    (ho : o.op = .call { callee := .builtin .append, args := #[s, x], argTypes := #[t, t] })
    (ht : P.underlying t = some (.slice ES)) (hinfo : (P.info? ES).map (fun i => (i.zero, i.size, i.bytes)) = some (some (.slice none 0 0), 1, 24))
    (v : Value) (X : List (List Int)) (u : Value) (ys : List Int) (w0 : World) (hs : a.eval s = v) (hx : a.eval x = .slice (some ⟨w0.heap.size, 0, none⟩) 1 1)
    (hown : OwnG ES e lo hi w0 v X) (hu : OwnI e lo w0 u ys) (hfar : ∀ b, u.ownBlock = some b → hi ≤ b) (hone : u.oneCell' = true) (hlen : X.length < 1000000000) (hB : lo ≤ w0.heap.size)
    (h : ∀ v' w', OwnG ES e lo w'.heap.size w' v' (X ++ [ys]) → w0.grownBy w' v.ownBlock → (v'.ownBlock = v.ownBlock ∨ v'.ownBlock = some (w0.heap.size + 1)) → w0.heap.size < w'.heap.size → K (a.put o.dst v') w') :
    if Region.wanted o (yielded ops a.tmps) = true then Oper.wp P o a (w0.alloc (.cells #[u] ES)) K Q else Ep := by
  obtain ⟨i0, hi0, hz0, hz1, hz2⟩ := info_parts hinfo
  obtain ⟨vs, k1, k2, k3, k4, k5, k6⟩ := hown
  refine step_append_lies (w := w0.alloc (.cells #[u] ES)) hgd s x t ho lo ES i0 (.slice none 0 0) 1 24 ht hi0 hz0 hz1 hz2 rfl (by decide) v X.length vs hs (World.ownsRow.alloc k2 _) ⟨w0.heap.size, 0, none⟩ 1 1 [u] hx rfl (cell_one_new _ _ _) ?_ (by decide) ?_ ?_ ?_ _ rfl ?_
  · intro q hq; simp at hq; subst hq; exact hone
  · unfold maxLen; omega
  · omega
  · simp; omega
  · intro g' cap' w' ho' hg hat hglt
    obtain ⟨v', hv'e⟩ : ∃ v', v' = Value.slice (some ⟨g', 0, none⟩) (X.length + 1) cap' := ⟨_, rfl⟩
    rw [← hv'e] at ho' ⊢
    have hgg := grownBy_trans (World.grownBy_alloc w0 (.cells #[u] ES) v.ownBlock) hg
    have hat' : v'.ownBlock = v.ownBlock ∨ v'.ownBlock = some (w0.heap.size + 1) := by
      rw [hv'e]
      rcases hat with h1 | h1
      · left; rw [h1]; rfl
      · right; rw [h1]; simp [Value.ownBlock]
    have hsz : w0.heap.size < w'.heap.size := by have := hg.size; simp at this; omega
    refine h v' w' ?_ hgg hat' hsz
    have hget : ∀ j, j < X.length + 1 → (vs ++ [u]).getD j undef = if j = X.length then u else vs.getD j undef := fun j hj => by
      by_cases hjx : j = X.length
      · subst hjx; rw [if_pos rfl, ← k1]; simp [List.getD]
      · rw [if_neg hjx, List.getD_eq_getElem?_getD, List.getElem?_append_left (by omega), List.getD_eq_getElem?_getD]
    have hX : ∀ j, j < X.length + 1 → (X ++ [ys]).getD j [] = if j = X.length then ys else X.getD j [] := fun j hj => by
      by_cases hjx : j = X.length
      · subst hjx; rw [if_pos rfl]; simp [List.getD]
      · rw [if_neg hjx, List.getD_eq_getElem?_getD, List.getElem?_append_left (by omega), List.getD_eq_getElem?_getD]
    have hv' : ∀ b, v'.ownBlock = some b → v.ownBlock = some b ∨ b = w0.heap.size + 1 := fun b hb => by
      rcases hat' with h1 | h1
      · exact Or.inl (h1 ▸ hb)
      · rw [h1] at hb; cases hb; exact Or.inr rfl
    have hvu : ∀ b, u.ownBlock = some b → v.ownBlock ≠ some b := fun b hb hv => by
      have h1 := hfar b hb
      have h2 := k3 b hv
      omega
    refine ⟨vs ++ [u], by simp [k1], by rw [List.length_append]; exact ho', fun k hk => (World.ownsRow.lt ho' k hk).2, fun j hj => ?_, fun j l hj hl hne b hb => ?_, fun j b hj hb => ?_⟩
    · have hj' : j < X.length + 1 := by simpa using hj
      rw [hget j hj', hX j hj']
      by_cases hjx : j = X.length
      · rw [if_pos hjx, if_pos hjx]
        exact ⟨owns_block hu fun k hk => hgg.block k (World.ownsRow.lt hu k hk).2 (fun hb => hvu k hk hb.symm), fun k hk => Nat.lt_of_lt_of_le (World.ownsRow.lt hu k hk).2 hgg.size⟩
      · rw [if_neg hjx, if_neg hjx]
        have hr := k4 j (by omega)
        exact ⟨owns_block hr.1 fun k hk => hgg.block k (World.ownsRow.lt hr.1 k hk).2 (fun hb => k6 j k (by omega) hk hb.symm), fun k hk => Nat.lt_of_lt_of_le (World.ownsRow.lt hr.1 k hk).2 hgg.size⟩
    · have hj' : j < X.length + 1 := by simpa using hj
      have hl' : l < X.length + 1 := by simpa using hl
      rw [hget j hj'] at hb
      rw [hget l hl']
      by_cases hjx : j = X.length
      · rw [if_pos hjx] at hb
        rw [if_neg (by omega)]
        intro hl2
        have h1 := (k4 l (by omega)).2 b hl2
        have h2 := hfar b hb
        omega
      · rw [if_neg hjx] at hb
        by_cases hlx : l = X.length
        · rw [if_pos hlx]
          intro hl2
          have h1 := (k4 j (by omega)).2 b hb
          have h2 := hfar b hl2
          omega
        · rw [if_neg hlx]; exact k5 j l (by omega) (by omega) hne b hb
    · have hj' : j < X.length + 1 := by simpa using hj
      rw [hget j hj'] at hb
      intro hv
      by_cases hjx : j = X.length
      · rw [if_pos hjx] at hb
        have h2 := (World.ownsRow.lt hu b hb).2
        rcases hv' b hv with h1 | h1
        · exact hvu b hb h1
        · omega
      · rw [if_neg hjx] at hb
        have h2 := (World.ownsRow.lt (k4 j (by omega)).1 b hb).2
        rcases hv' b hv with h1 | h1
        · exact k6 j b (by omega) hb h1
        · omega
end Go.RowKit
end
