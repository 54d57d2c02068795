/- The memory of a search for an order while its numbers are laid. No program. -/
import Derived.Test.YtjjghmmpfnlpaaaMemO
import Derived.Test.YtjjghmmpfnlpaaaTab5
namespace Go.Proofs.Ytjjghmmpfnlpaaa
open Go.ChangeShapes Go.WideShapes Go.ChangeAt Go.RowKit
set_option linter.unusedVariables false
/-- a search's block and its rows 1 and 2, amid their making; R: the other fields -/
structure Bld (E : TypeId) (bo bu n : Nat) (W0 : World) (R : Nat → Value) (f : Nat → Bool) (w : World) (x1 x2 v1 v2 : Value) (L1 L2 : List Int) : Prop where
  bel : Below W0.heap.size W0 w
  c1 : w.cell? ⟨bo, 1, none⟩ = some x1
  c2 : w.cell? ⟨bo, 2, none⟩ = some x2
  cr : ∀ i, i < 7 → i ≠ 1 → i ≠ 2 → w.cell? ⟨bo, i, none⟩ = some (R i)
  fr : ∀ i, i < 7 → w.frozen? ⟨bo, i, none⟩ = false
  us : BoolsAt w bu n f
  o1 : OwnI E W0.heap.size w v1 L1
  o2 : OwnI E W0.heap.size w v2 L2
  d1 : ∀ k, v1.ownBlock = some k → k ≠ bo ∧ k ≠ bu ∧ v2.ownBlock ≠ some k
  d2 : ∀ k, v2.ownBlock = some k → k ≠ bo ∧ k ≠ bu
  hbo : W0.heap.size ≤ bo
  hbu : W0.heap.size ≤ bu
  ne : bo ≠ bu
section
variable {E : TypeId} {bo bu n : Nat} {W0 : World} {R : Nat → Value} {f : Nat → Bool} {w w' : World} {x1 x2 v1 v2 v' : Value} {L1 L2 L' : List Int}
theorem Bld.lbo (h : Bld E bo bu n W0 R f w x1 x2 v1 v2 L1 L2) : bo < w.heap.size := World.block_lt_of_cell? w _ h.c1
theorem Bld.below (h : Bld E bo bu n W0 R f w x1 x2 v1 v2 L1 L2) (hb : Below w.heap.size w w') : Bld E bo bu n W0 R f w' x1 x2 v1 v2 L1 L2 :=
  ⟨h.bel.tr hb, cellB hb h.c1, cellB hb h.c2, fun i hi h1 h2 => cellB hb (h.cr i hi h1 h2), fun i hi => (World.frozen?_of_block (w := w) (hb.block bo h.lbo)).trans (h.fr i hi), h.us.below hb, h.o1.below hb, h.o2.below hb, h.d1, h.d2, h.hbo, h.hbu, h.ne⟩
theorem Bld.grow1 (h : Bld E bo bu n W0 R f w x1 x2 v1 v2 L1 L2) (ho : OwnI E W0.heap.size w' v' L') (hg : w.grownBy w' v1.ownBlock) (hat : v'.ownBlock = v1.ownBlock ∨ ∀ k, v'.ownBlock = some k → w.heap.size ≤ k) (hlu : bu < w.heap.size) : Bld E bo bu n W0 R f w' x1 x2 v' v2 L' L2 := by
  have hbo : v1.ownBlock ≠ some bo := fun e => (h.d1 bo e).1 rfl
  have hbu : v1.ownBlock ≠ some bu := fun e => (h.d1 bu e).2.1 rfl
  have hl := h.lbo
  refine ⟨h.bel.grown hg h.bel.size (fun k hk => (World.ownsRow.lt h.o1 k hk).1), grownB hg h.c1 hbo, grownB hg h.c2 hbo, fun i hi h1 h2 => grownB hg (h.cr i hi h1 h2) hbo, fun i hi => (World.frozen?_of_block (w := w) (hg.block bo hl (fun e => hbo e.symm))).trans (h.fr i hi),
    fun k hk => ⟨grownB hg (h.us k hk).1 hbu, grownF hg (h.us k hk).1 (h.us k hk).2 hbu⟩, ho, h.o2.far hg (fun k hk e => (h.d1 k e).2.2 hk), fun k hk => ?_, h.d2, h.hbo, h.hbu, h.ne⟩
  rcases hat with e | e
  · exact h.d1 k (e ▸ hk)
  · have hk2 := e k hk
    exact ⟨by omega, by omega, fun e2 => by have := (World.ownsRow.lt h.o2 _ e2).2; omega⟩
theorem Bld.grow2 (h : Bld E bo bu n W0 R f w x1 x2 v1 v2 L1 L2) (ho : OwnI E W0.heap.size w' v' L') (hg : w.grownBy w' v2.ownBlock) (hat : v'.ownBlock = v2.ownBlock ∨ ∀ k, v'.ownBlock = some k → w.heap.size ≤ k) (hlu : bu < w.heap.size) : Bld E bo bu n W0 R f w' x1 x2 v1 v' L1 L' := by
  have hbo : v2.ownBlock ≠ some bo := fun e => (h.d2 bo e).1 rfl
  have hbu : v2.ownBlock ≠ some bu := fun e => (h.d2 bu e).2 rfl
  have hl := h.lbo
  refine ⟨h.bel.grown hg h.bel.size (fun k hk => (World.ownsRow.lt h.o2 k hk).1), grownB hg h.c1 hbo, grownB hg h.c2 hbo, fun i hi h1 h2 => grownB hg (h.cr i hi h1 h2) hbo, fun i hi => (World.frozen?_of_block (w := w) (hg.block bo hl (fun e => hbo e.symm))).trans (h.fr i hi),
    fun k hk => ⟨grownB hg (h.us k hk).1 hbu, grownF hg (h.us k hk).1 (h.us k hk).2 hbu⟩, h.o1.far hg (fun k hk e => (h.d1 k hk).2.2 e), ho, fun k hk => ?_, fun k hk => ?_, h.hbo, h.hbu, h.ne⟩
  · obtain ⟨a1, a2, a3⟩ := h.d1 k hk
    refine ⟨a1, a2, fun e2 => ?_⟩
    rcases hat with e | e
    · exact a3 (e ▸ e2)
    · have := e k e2
      have := (World.ownsRow.lt h.o1 k hk).2
      omega
  · rcases hat with e | e
    · exact h.d2 k (e ▸ hk)
    · have hk2 := e k hk
      exact ⟨by omega, by omega⟩
theorem Bld.put1 (h : Bld E bo bu n W0 R f w x1 x2 v1 v2 L1 L2) (u : Value) : Bld E bo bu n W0 R f (w.setCell ⟨bo, 1, none⟩ u) u x2 v1 v2 L1 L2 :=
  ⟨h.bel.setCell h.hbo _, World.cell?_setCell_same w _ _ h.c1, setCellO w h.c2 (Or.inr (by decide)), fun i hi h1 h2 => setCellO w (h.cr i hi h1 h2) (Or.inr h1), fun i hi => setCellF (h.fr i hi), h.us.other (fun e => h.ne e.symm), h.o1.setFar (fun q hq => (h.d1 q hq).1) _, h.o2.setFar (fun q hq => (h.d2 q hq).1) _, h.d1, h.d2, h.hbo, h.hbu, h.ne⟩
theorem Bld.put2 (h : Bld E bo bu n W0 R f w x1 x2 v1 v2 L1 L2) (u : Value) : Bld E bo bu n W0 R f (w.setCell ⟨bo, 2, none⟩ u) x1 u v1 v2 L1 L2 :=
  ⟨h.bel.setCell h.hbo _, setCellO w h.c1 (Or.inr (by decide)), World.cell?_setCell_same w _ _ h.c2, fun i hi h1 h2 => setCellO w (h.cr i hi h1 h2) (Or.inr h2), fun i hi => setCellF (h.fr i hi), h.us.other (fun e => h.ne e.symm), h.o1.setFar (fun q hq => (h.d1 q hq).1) _, h.o2.setFar (fun q hq => (h.d2 q hq).1) _, h.d1, h.d2, h.hbo, h.hbu, h.ne⟩
end
/-- the numbers of a tour -/
def costL (n : Nat) (D : Nat → Nat → Int) : List (List Int) := (List.range n).map fun i => (List.range n).map fun j => D i j
def tourF (D : Nat → Nat → Int) (n : Nat) : Far := ⟨costL n D, (List.range n).map (fun k : Nat => if k = 0 then 0 else 1000000), (List.range n).map fun k => D k 0⟩
def tourG (D : Nat → Nat → Int) (n : Nat) : Far := ⟨costL n D, List.replicate n 0, (List.range n).map fun k => D k 0⟩
theorem range_at (n : Nat) (g : Nat → Int) (k : Nat) : ((List.range n).map g).getD k 0 = if k < n then g k else 0 := by
  by_cases h : k < n
  · rw [if_pos h]; simp [List.getD, h]
  · rw [if_neg h]; simp [List.getD, h]
theorem cost_at {n : Nat} {D : Nat → Nat → Int} (i j : Nat) : ((costL n D).getD i []).getD j 0 = if i < n ∧ j < n then D i j else 0 := by
  by_cases h : i < n
  · have e : (costL n D).getD i [] = (List.range n).map fun j => D i j := by simp [costL, List.getD, h]
    rw [e, range_at]
    by_cases h2 : j < n
    · rw [if_pos h2, if_pos ⟨h, h2⟩]
    · rw [if_neg h2, if_neg (fun e => h2 e.2)]
  · have e : (costL n D).getD i [] = [] := by simp [costL, List.getD, h]
    rw [e, if_neg (fun e => h e.1)]
    rfl
theorem tourF_cost {D : Nat → Nat → Int} {n : Nat} (hD : ∀ i j, i < n → j < n → 0 ≤ D i j ∧ D i j ≤ 1024) (O : List Int) (k : Nat) : 0 ≤ costO (tourF D n) O k ∧ costO (tourF D n) O k ≤ 1000000 ∧ (O ≠ [] → costO (tourF D n) O k ≤ 1024) := by
  unfold costO
  by_cases h : O = []
  · rw [if_pos h]
    have e : (tourF D n).first.getD k 0 = if k < n then (if k = 0 then 0 else 1000000) else 0 := range_at n _ k
    rw [e]
    refine ⟨?_, ?_, fun h2 => absurd h h2⟩ <;> (split <;> (try split) <;> omega)
  · rw [if_neg h]
    have e : ((tourF D n).costs.getD (lastI O) []).getD k 0 = if lastI O < n ∧ k < n then D (lastI O) k else 0 := cost_at _ _
    rw [e]
    by_cases h2 : lastI O < n ∧ k < n
    · rw [if_pos h2]; have := hD _ _ h2.1 h2.2; omega
    · rw [if_neg h2]; omega
theorem tourF_last {D : Nat → Nat → Int} {n : Nat} (hD : ∀ i j, i < n → j < n → 0 ≤ D i j ∧ D i j ≤ 1024) (k : Nat) : 0 ≤ (tourF D n).last.getD k 0 ∧ (tourF D n).last.getD k 0 ≤ 1024 := by
  have e : (tourF D n).last.getD k 0 = if k < n then D k 0 else 0 := range_at n _ k
  rw [e]
  by_cases h : k < n
  · rw [if_pos h]; exact hD k 0 h (by omega)
  · rw [if_neg h]; omega
theorem tourF_bd {D : Nat → Nat → Int} {n : Nat} (hn : 1 ≤ n ∧ n ≤ 8) (hD : ∀ i j, i < n → j < n → 0 ≤ D i j ∧ D i j ≤ 1024) : BdF (tourF D n) n :=
  ⟨by simp [tourF], hn, fun O k => ⟨(tourF_cost hD O k).1, (tourF_cost hD O k).2.1⟩, fun k => by have := tourF_last hD k; omega⟩
theorem tourG_bd {D : Nat → Nat → Int} {n : Nat} (hn : 1 ≤ n ∧ n ≤ 8) (hD : ∀ i j, i < n → j < n → 0 ≤ D i j ∧ D i j ≤ 1024) : BdF (tourG D n) n := by
  refine ⟨by simp [tourG], hn, fun O k => ?_, fun k => by have : (tourG D n).last = (tourF D n).last := rfl; rw [this]; have := tourF_last hD k; omega⟩
  by_cases h : O = []
  · have e : costO (tourG D n) O k = 0 := by
      unfold costO
      rw [if_pos h]
      show (List.replicate n (0 : Int)).getD k 0 = 0
      by_cases h2 : k < n <;> simp [List.getD, h2]
    rw [e]; omega
  · have e : costO (tourG D n) O k = costO (tourF D n) O k := by unfold costO; rw [if_neg h, if_neg h]; rfl
    rw [e]; exact ⟨(tourF_cost hD O k).1, (tourF_cost hD O k).2.1⟩
def tourO (D : Nat → Nat → Int) (n : Nat) : Option (List Int × Int) := walkO (tourG D n) (n - 1) [0] 0 none
theorem tour_same {D : Nat → Nat → Int} {n : Nat} (hn : 1 ≤ n ∧ n ≤ 8) (hD : ∀ i j, i < n → j < n → 0 ≤ D i j ∧ D i j ≤ 1024) : walkO (tourF D n) n [] 0 none = tourO D n := by
  obtain ⟨m, rfl⟩ : ∃ m, n = m + 1 := ⟨n - 1, by omega⟩
  exact tour_eq (tourF D (m + 1)) (tourG D (m + 1)) m (by simp [tourF]) (by simp [tourG]) rfl rfl (by show ((List.range (m + 1)).map _).getD 0 0 = 0; rw [range_at]; simp) (fun k h0 hk => by show ((List.range (m + 1)).map _).getD k 0 = 1000000; rw [range_at, if_pos hk, if_neg (by omega)])
    1024 (by decide) (fun O k hO => (tourF_cost hD O k).2.2 hO) (fun k => (tourF_last hD k).2) (by omega)
theorem tour_some {D : Nat → Nat → Int} {n : Nat} (hn : 1 ≤ n ∧ n ≤ 8) (hD : ∀ i j, i < n → j < n → 0 ≤ D i j ∧ D i j ≤ 1024) : ∃ q, tourO D n = some q ∧ PathO n q.1 ∧ q.1.length = n ∧ 0 ≤ q.2 ∧ q.2 ≤ 100000000 := by
  have hB := tourG_bd hn hD
  have hp : PathO n [(0 : Int)] := ⟨by simp, by intro x hx; simp at hx; subst hx; omega⟩
  have hl : [(0 : Int)].length + (n - 1) = n := by simp; omega
  obtain ⟨q, hq, -⟩ := walkO_reach (tourG D n) 1024 (by decide) (fun O k hO => by
    have e : costO (tourG D n) O k = costO (tourF D n) O k := by unfold costO; rw [if_neg hO, if_neg hO]; rfl
    rw [e]; exact (tourF_cost hD O k).2.2 hO) (fun k => (tourF_last hD k).2) (n - 1) [0] 0 none (by simp) (by rw [hB.hf]; exact hp) (by rw [hB.hf]; exact hl)
  have hk := walkO_ok (tourG D n) (n - 1) [0] 0 none (by rw [hB.hf]; exact hp) (by rw [hB.hf]; exact hl) (by
    unfold pathC
    have e : costO (tourG D n) [] 0 = 0 := by
      unfold costO
      rw [if_pos rfl]
      show (List.replicate n (0 : Int)).getD 0 0 = 0
      simp [List.getD, show 0 < n by omega]
    simp [e]) True.intro
  have hnn := walkO_nn hB (n - 1) [0] 0 none hl ⟨by omega, by simp⟩ NnO.none
  rw [hq] at hk hnn
  obtain ⟨h1, h2, -⟩ := hk
  rw [hB.hf] at h1 h2
  exact ⟨q, hq, h1, h2, (hnn q rfl).1, (hnn q rfl).2⟩
/-- the search begins: the numbers laid, nothing kept -/
theorem Bld.far {E : TypeId} {bo bu n : Nat} {W0 : World} {R : Nat → Value} {f : Nat → Bool} {w : World} {v1 v2 : Value} {F : Far} {D : Nat → Prop} {vc : Value} {g : Nat → Nat → Int} (h : Bld E bo bu n W0 R f w v1 v2 v1 v2 F.first F.last) (hn : 1 ≤ n) (h1 : F.first.length = n) (h2 : F.last.length = n)
    (ht : RdTab n g W0 vc) (hD : ∀ k, D k → W0.heap.size ≤ k ∧ v1.ownBlock ≠ some k ∧ v2.ownBlock ≠ some k) (hc : ∀ i j, i < n → j < n → (F.costs.getD i []).getD j 0 = g i j) : RdFar D n w vc v1 v2 F := by
  have ht2 := ht.below h.bel
  obtain ⟨a, cap, rfl, hr⟩ := ht2
  obtain ⟨a', cap', he, hr0⟩ := ht
  cases he
  obtain ⟨b, off, -, -, -, rfl, -, -⟩ := hr0 0 (by omega)
  refine ⟨⟨b, off, cap, rfl, fun i hi => ?_⟩, ?_, ?_⟩
  · obtain ⟨b', off', bi, oi, ci, e1, e2, e3⟩ := hr0 i hi
    cases e1
    have l1 : b < W0.heap.size := World.block_lt_of_cell? W0 _ e2
    have l2 : bi < W0.heap.size := World.block_lt_of_cell? W0 _ (e3 0 (by omega))
    refine ⟨bi, oi, ci, fun d => by have := (hD _ d).1; omega, fun d => by have := (hD _ d).1; omega, cellB h.bel e2, fun j hj => ?_⟩
    rw [hc i j hi hj]; exact cellB h.bel (e3 j hj)
  · rcases h.o1.shape with ⟨-, hnil⟩ | ⟨g1, cap1, rfl, -, -, -, -, hcr, -⟩
    · rw [hnil] at h1; simp at h1; omega
    · rw [h1]
      exact ⟨g1, 0, cap1, rfl, fun d => (hD g1 d).2.1 rfl, fun j hj => by rw [Nat.zero_add]; exact hcr j (by omega)⟩
  · rcases h.o2.shape with ⟨-, hnil⟩ | ⟨g1, cap1, rfl, -, -, -, -, hcr, -⟩
    · rw [hnil] at h2; simp at h2; omega
    · rw [h2]
      exact ⟨g1, 0, cap1, rfl, fun d => (hD g1 d).2.2 rfl, fun j hj => by rw [Nat.zero_add]; exact hcr j (by omega)⟩
end Go.Proofs.Ytjjghmmpfnlpaaa
