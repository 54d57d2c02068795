/- The law WrittenX: what it rests on, part 30 of 46. -/
import Derived.Test.YtioemkdapoombaaGreatDoorQWrittenX05
import Derived.Test.YtioemkdapoombaaGreatDoorQWrittenX29
import Derived.Test.YtioemkdapoombaaGreatDoorQWrittenX28
import Derived.ArgAppend
import Derived.Deep.AppendLies
import Derived.Test.YtioemkdapoombaaGreatDoorQWrittenX07
section
namespace Go.Proofs.YtioemkdapoombaaGreatDoor
open Go.ChangeShapes Go.WideShapes Go.ChangeAt Go.RowKit
set_option linter.unusedVariables false
set_option linter.unusedSimpArgs false
theorem mxF_le {p : List Int} {h : Int} (hh : 0 ≤ h) (hp : ∀ x ∈ p, x ≤ h) : ¬ mxF 0 p > h := by
  rcases (mxF_ge 0 p).2.2 with h1 | h1
  · omega
  · have := hp _ h1; omega
theorem c_spec_l00Own (xs : List Int) (v : Value) (w : World) (hr : RdI w v xs) (hl : xs.length ≤ 1000000) :
    Calls Tryz.prog 92 #[v] w fun e w' => ∃ u, e = .returned u ∧ OwnI1 w.heap.size w' u xs ∧ Below w.heap.size w w' := by
  have hr' := hr.below ((Below.refl _ _).al (Obj.cells #[] 2))
  have ho : OwnI1 w.heap.size (w.alloc (Obj.cells #[] 2)) (.slice (some ⟨w.heap.size, 0, none⟩) 0 0) [] := OwnI.made rfl rfl (Nat.le_refl _)
  have hb0 : Below w.heap.size w (w.alloc (Obj.cells #[] 2)) := (Below.refl _ _).al _
  go_enter Tryz.func92, Tryz.ntmps92
  go_wp2_with (at_builtin; refine push_ints rfl _ _ _ _ rfl Tryz.underlying26 infoI w.heap.size _ _ [] xs _ rfl rfl (by exact ho) ⟨_, _, _, rfl⟩ (by exact hr') (by simp only [List.length_nil]; omega) (by simp) ?_; intro v2 w2 ho2 hg2 hat2 hs2)
  go_ret
  exact ⟨_, rfl, by simpa using ho2, hb0.grown hg2 (by simp) (fun k hk => (World.ownsRow.lt ho k hk).1)⟩
end Go.Proofs.YtioemkdapoombaaGreatDoor
end
section
namespace Go.Proofs.YtioemkdapoombaaGreatDoor
open Go.RowKit
def patR (X : List Part2) (k : Nat) : List Int := (X.getD k ([], 0)).1
def timR (X : List Part2) (k : Nat) : Int := (X.getD k ([], 0)).2
def stR (h : Int) (X : List Part2) (k : Nat) : Int := stM (patR X k) 0 h
def grR (X : List Part2) : Int := groundI (headN X)
def seqS (h : Int) (X : List Part2) (k : Nat) : Int := if k = 0 then grR X else if k ≤ X.length then stR h X (k - 1) else grR X
noncomputable def brAt (h : Int) (X : List Part2) (k : Nat) : List Int := shortL h (seqS h X k) (seqS h X (k + 1))
noncomputable def brTo (h : Int) (X : List Part2) (k : Nat) : List (List Int) := (List.range k).map (brAt h X)
noncomputable def brR (h : Int) (X : List Part2) : List (List Int) := brTo h X (X.length + 1)
theorem brTo_succ (h : Int) (X : List Part2) (k : Nat) : brTo h X (k + 1) = brTo h X k ++ [brAt h X k] := by simp [brTo, List.range_succ]
theorem brTo_len (h : Int) (X : List Part2) (k : Nat) : (brTo h X k).length = k := by simp [brTo]
theorem patR_at {X : List Part2} {k : Nat} (hk : k < X.length) : patR X k = X[k].1 := by simp [patR, List.getD, hk]
theorem timR_at {X : List Part2} {k : Nat} (hk : k < X.length) : timR X k = X[k].2 := by simp [timR, List.getD, hk]
structure RoutOk (h : Int) (X : List Part2) : Prop where
  hh : 1 ≤ h ∧ h ≤ 10
  hl : 1 ≤ X.length ∧ X.length ≤ 8
  hv : ∀ k, k < X.length → validP (patR X k) = true
  hp : ∀ k, k < X.length → ∀ x ∈ patR X k, x ≤ h
  hn : ∀ k, k < X.length → propsP (patR X k) = headN X
  ht : ∀ k, k < X.length → 1 ≤ timR X k ∧ timR X k ≤ 20
theorem rout_ok {h : Int} {X : List Part2} (hv : validR h X = true) : RoutOk h X := by
  unfold validR at hv
  rw [Bool.and_eq_true, Bool.and_eq_true] at hv
  obtain ⟨h1, h2, h3⟩ := hv
  have hh := inB_iff.1 h1
  have hl := inB_iff.1 h2
  have hall : ∀ k (hk : k < X.length), okPt h (headN X) X[k] = true := fun k hk => List.all_eq_true.1 h3 _ (List.getElem_mem hk)
  have hparts : ∀ k (hk : k < X.length), validP X[k].1 = true ∧ mxF 0 X[k].1 ≤ h ∧ (1 ≤ X[k].2 ∧ X[k].2 ≤ 20) ∧ propsP X[k].1 = headN X := fun k hk => by
    have h4 := hall k hk
    unfold okPt validPt at h4
    simp only [Bool.and_eq_true, decide_eq_true_eq, beq_iff_eq] at h4
    exact ⟨h4.1.1, h4.1.2.1, inB_iff.1 h4.1.2.2, h4.2⟩
  refine ⟨hh, by omega, fun k hk => ?_, fun k hk x hx => ?_, fun k hk => ?_, fun k hk => ?_⟩
  · rw [patR_at hk]; exact (hparts k hk).1
  · rw [patR_at hk] at hx
    have h5 := (mxF_ge 0 X[k].1).2.1 x hx
    have := (hparts k hk).2.1
    omega
  · rw [patR_at hk]; exact (hparts k hk).2.2.2
  · rw [timR_at hk]; exact (hparts k hk).2.2.1
theorem RoutOk.n {h : Int} {X : List Part2} (R : RoutOk h X) : 0 ≤ headN X ∧ headN X ≤ h := by
  have := props_bd (R.hv 0 (by have := R.hl; omega)) R.hh (R.hp 0 (by have := R.hl; omega))
  rw [R.hn 0 (by have := R.hl; omega)] at this
  exact this
theorem RoutOk.st {h : Int} {X : List Part2} (R : RoutOk h X) {k : Nat} (hk : k < X.length) : stR h X k ∈ maskL (headN X) h := by
  have := stM_mem (R.hv k hk) 0 R.hh (R.hp k hk)
  rw [R.hn k hk] at this
  exact this
theorem RoutOk.gr {h : Int} {X : List Part2} (R : RoutOk h X) : grR X ∈ maskL (headN X) h := ground_mem R.hh R.n
theorem RoutOk.sq {h : Int} {X : List Part2} (R : RoutOk h X) (k : Nat) : seqS h X k ∈ maskL (headN X) h := by
  unfold seqS
  split
  · exact R.gr
  · split
    · exact R.st (by have := R.hl; omega)
    · exact R.gr
theorem seq_zero (h : Int) (X : List Part2) : seqS h X 0 = grR X := rfl
theorem seq_succ {h : Int} {X : List Part2} {k : Nat} (hk : k < X.length) : seqS h X (k + 1) = stR h X k := by
  unfold seqS
  rw [if_neg (by omega), if_pos (by omega), Nat.add_sub_cancel]
theorem seq_last (h : Int) (X : List Part2) : seqS h X (X.length + 1) = grR X := by
  unfold seqS
  rw [if_neg (by omega), if_neg (by omega)]
theorem RoutOk.br {h : Int} {X : List Part2} (R : RoutOk h X) {i j : Nat} (hi : i < X.length) (hj : j < X.length) : brC (patR X i) (patR X j) h = 0 := by
  have e1 := mxF_le (by have := R.hh; omega) (R.hp i hi)
  have e2 := mxF_le (by have := R.hh; omega) (R.hp j hj)
  unfold brC fitB
  rw [R.hv i hi, R.hv j hj, inB_iff.2 R.hh, decide_eq_false e1, decide_eq_false e2, R.hn i hi, R.hn j hj]
  simp
theorem RoutOk.brlen {h : Int} {X : List Part2} (R : RoutOk h X) (k : Nat) : (brAt h X k).length ≤ 1024 := short_le R.hh (R.sq k) (R.sq (k + 1))
theorem RoutOk.entry {h : Int} {X : List Part2} (R : RoutOk h X) : entryL (patR X 0) h = brAt h X 0 := by
  have h0 : 0 < X.length := by have := R.hl; omega
  unfold entryL brAt
  rw [R.br h0 h0, seq_zero, seq_succ h0, R.hn 0 h0]; rfl
theorem RoutOk.exit {h : Int} {X : List Part2} (R : RoutOk h X) : exitL (patR X (X.length - 1)) h = brAt h X X.length := by
  have h0 : X.length - 1 < X.length := by have := R.hl; omega
  have e : seqS h X X.length = stR h X (X.length - 1) := by
    have h1 := seq_succ (h := h) h0
    rw [show X.length - 1 + 1 = X.length by omega] at h1
    exact h1
  unfold exitL brAt
  rw [R.br h0 h0, seq_last, e, R.hn _ h0]; rfl
theorem RoutOk.mid {h : Int} {X : List Part2} (_ : RoutOk h X) {k : Nat} (hk : k + 1 < X.length) : bridgeL (patR X k) (patR X (k + 1)) h = brAt h X (k + 1) := by
  unfold bridgeL brAt
  rw [seq_succ (by omega), seq_succ hk]; rfl
theorem brR_len (h : Int) (X : List Part2) : (brR h X).length = X.length + 1 := brTo_len _ _ _
end Go.Proofs.YtioemkdapoombaaGreatDoor
end
section
namespace Go.RowKit
open Go.ChangeShapes Go.WideShapes Go.ChangeAt
set_option linter.unusedVariables false
theorem push_g0 {P : Program} {ops : Array Oper} {rest : List Oper} {o : Oper} {a : Act} {Q : Exit → Act → World → Prop} {ES e : TypeId} (hgd : o.guard = none) (s x : Operand) (t : TypeId)
    (ho : o.op = .call { callee := .builtin .append, args := #[s, x], argTypes := #[t, t] })
    (ht : P.underlying t = some (.slice ES)) (hinfo : (P.info? ES).map (fun i => (i.zero, i.size, i.bytes)) = some (some (.slice none 0 0), 1, 24))
    (g0 : Nat) (u : Value) (ys : List Int) (w0 : World) (lo : Nat) (hs : a.eval s = .slice (some ⟨g0, 0, none⟩) 0 0) (hx : a.eval x = .slice (some ⟨w0.heap.size, 0, none⟩) 1 1)
    (hu : OwnI e lo w0 u ys) (hone : u.oneCell' = true) (hB : lo ≤ w0.heap.size)
    (h : ∀ v' w', OwnG ES e lo w'.heap.size w' v' [ys] → Below w0.heap.size w0 w' → wpList P ops Q rest (a.put o.dst v') w') :
    wpList P ops Q (o :: rest) a (w0.alloc (.cells #[u] ES)) := by
  obtain ⟨i0, hi0, hz0, hz1, hz2⟩ := info_parts hinfo
  refine wpList_append_grows (w0.alloc (.cells #[u] ES)) hgd s x t ho ES i0 (.slice none 0 0) 1 24 ht hi0 hz0 hz1 hz2 rfl (by decide) (some ⟨g0, 0, none⟩) 0 0 [] hs (fun e => by cases e) rfl (fun b _ j u hu => by simp at hu) ⟨w0.heap.size, 0, none⟩ 1 1 [u] hx rfl ?_ ?_ (by omega) (by unfold maxLen; omega) (by omega) ?_
  · intro j v hj
    match j, hj with
    | 0, hj =>
      simp only [List.getElem?_cons_zero, Option.some.injEq] at hj
      subst hj
      rw [Go.WideShapes.add_plain]
      exact World.cell?_alloc_at _ _ _ _ rfl
  · intro q hq; simp at hq; subst hq; exact hone
  · intro v' w' ho' hg
    have hB1 : Below w0.heap.size w0 (w0.alloc (.cells #[u] ES)) := (Below.refl _ _).al _
    have hB2 : Below w0.heap.size w0 w' := hB1.grown hg hB1.size (fun k hk => by cases hk)
    have hu' := hu.below hB2
    have hsz : (w0.alloc (.cells #[u] ES)).heap.size = w0.heap.size + 1 := World.size_alloc _ _
    refine h v' w' ⟨[u], rfl, owns_base ho' (by omega), fun k hk => (World.ownsRow.lt ho' k hk).2, fun i hi => ?_, fun i j hi hj hne => ?_, fun i b hi hb hv => ?_⟩ hB2
    · simp only [List.length_cons, List.length_nil] at hi
      have : i = 0 := by omega
      subst this
      exact ⟨hu', fun k hk => (World.ownsRow.lt hu' k hk).2⟩
    · simp only [List.length_cons, List.length_nil] at hi hj
      omega
    · simp only [List.length_cons, List.length_nil] at hi
      have : i = 0 := by omega
      subst this
      have h1 := (World.ownsRow.lt hu b hb).2
      have h2 := (World.ownsRow.lt ho' b hv).1
      omega
theorem OwnG.lt {ES e : TypeId} {lo hi : Nat} {w : World} {v : Value} {X : List (List Int)} (h : OwnG ES e lo hi w v X) : ∀ k, v.ownBlock = some k → lo ≤ k ∧ k < w.heap.size := by
  obtain ⟨vs, k1, k2, _⟩ := h
  exact World.ownsRow.lt k2
theorem OwnI.one {E : TypeId} {B : Nat} {w : World} {v : Value} {xs : List Int} (h : OwnI E B w v xs) : v.oneCell' = true := by
  rcases h.2 with ⟨rfl, _⟩ | ⟨g, cap, cur, rfl, _⟩ <;> rfl
theorem step_push_g {P : Program} {ops : Array Oper} {o : Oper} {a : Act} {K : Act → World → Prop} {Q : Exit → Act → World → Prop} {Ep : Prop} {ES e : TypeId} {lo hi : Nat} (hgd : o.guard = none) (s x : Operand) (t : TypeId)
    (ho : o.op = .call { callee := .builtin .append, args := #[s, x], argTypes := #[t, t] })
    (ht : P.underlying t = some (.slice ES)) (hinfo : (P.info? ES).map (fun i => (i.zero, i.size, i.bytes)) = some (some (.slice none 0 0), 1, 24))
    (v : Value) (X : List (List Int)) (u : Value) (ys : List Int) (w0 : World) (hs : a.eval s = v) (hx : a.eval x = .slice (some ⟨w0.heap.size, 0, none⟩) 1 1)
    (hown : OwnG ES e lo hi w0 v X) (hu : OwnI e lo w0 u ys) (hfar : ∀ b, u.ownBlock = some b → hi ≤ b) (hone : u.oneCell' = true) (hlen : X.length < 1000000000) (hB : lo ≤ w0.heap.size)
    (h : ∀ v' w', OwnG ES e lo w'.heap.size w' v' (X ++ [ys]) → w0.grownBy w' v.ownBlock → (v'.ownBlock = v.ownBlock ∨ v'.ownBlock = some (w0.heap.size + 1)) → w0.heap.size < w'.heap.size → K (a.put o.dst v') w') :
    if Region.wanted o (yielded ops a.tmps) = true then Oper.wp P o a (w0.alloc (.cells #[u] ES)) K Q else Ep := by
  obtain ⟨i0, hi0, hz0, hz1, hz2⟩ := info_parts hinfo
  obtain ⟨vs, k1, k2, k3, k4, k5, k6⟩ := hown
  refine step_append_lies (w := w0.alloc (.cells #[u] ES)) hgd s x t ho lo ES i0 (.slice none 0 0) 1 24 ht hi0 hz0 hz1 hz2 rfl (by decide) v X.length vs hs (World.ownsRow.alloc k2 _) ⟨w0.heap.size, 0, none⟩ 1 1 [u] hx rfl (cell_one_new _ _ _) ?_ (by decide) ?_ ?_ ?_ _ rfl ?_
  · intro q hq; simp at hq; subst hq; exact hone
  · unfold maxLen; omega
  · omega
  · simp; omega
  · intro g' cap' w' ho' hg hat hglt
    obtain ⟨v', hv'e⟩ : ∃ v', v' = Value.slice (some ⟨g', 0, none⟩) (X.length + 1) cap' := ⟨_, rfl⟩
    rw [← hv'e] at ho' ⊢
    have hgg := grownBy_trans (World.grownBy_alloc w0 (.cells #[u] ES) v.ownBlock) hg
    have hat' : v'.ownBlock = v.ownBlock ∨ v'.ownBlock = some (w0.heap.size + 1) := by
      rw [hv'e]
      rcases hat with h1 | h1
      · left; rw [h1]; rfl
      · right; rw [h1]; simp [Value.ownBlock]
    have hsz : w0.heap.size < w'.heap.size := by have := hg.size; simp at this; omega
    refine h v' w' ?_ hgg hat' hsz
    have hget : ∀ j, j < X.length + 1 → (vs ++ [u]).getD j undef = if j = X.length then u else vs.getD j undef := fun j hj => by
      by_cases hjx : j = X.length
      · subst hjx; rw [if_pos rfl, ← k1]; simp [List.getD]
      · rw [if_neg hjx, List.getD_eq_getElem?_getD, List.getElem?_append_left (by omega), List.getD_eq_getElem?_getD]
    have hX : ∀ j, j < X.length + 1 → (X ++ [ys]).getD j [] = if j = X.length then ys else X.getD j [] := fun j hj => by
      by_cases hjx : j = X.length
      · subst hjx; rw [if_pos rfl]; simp [List.getD]
      · rw [if_neg hjx, List.getD_eq_getElem?_getD, List.getElem?_append_left (by omega), List.getD_eq_getElem?_getD]
    have hv' : ∀ b, v'.ownBlock = some b → v.ownBlock = some b ∨ b = w0.heap.size + 1 := fun b hb => by
      rcases hat' with h1 | h1
      · exact Or.inl (h1 ▸ hb)
      · rw [h1] at hb; cases hb; exact Or.inr rfl
    have hvu : ∀ b, u.ownBlock = some b → v.ownBlock ≠ some b := fun b hb hv => by
      have h1 := hfar b hb
      have h2 := k3 b hv
      omega
    refine ⟨vs ++ [u], by simp [k1], by rw [List.length_append]; exact ho', fun k hk => (World.ownsRow.lt ho' k hk).2, fun j hj => ?_, fun j l hj hl hne b hb => ?_, fun j b hj hb => ?_⟩
    · have hj' : j < X.length + 1 := by simpa using hj
      rw [hget j hj', hX j hj']
      by_cases hjx : j = X.length
      · rw [if_pos hjx, if_pos hjx]
        exact ⟨owns_block hu fun k hk => hgg.block k (World.ownsRow.lt hu k hk).2 (fun hb => hvu k hk hb.symm), fun k hk => Nat.lt_of_lt_of_le (World.ownsRow.lt hu k hk).2 hgg.size⟩
      · rw [if_neg hjx, if_neg hjx]
        have hr := k4 j (by omega)
        exact ⟨owns_block hr.1 fun k hk => hgg.block k (World.ownsRow.lt hr.1 k hk).2 (fun hb => k6 j k (by omega) hk hb.symm), fun k hk => Nat.lt_of_lt_of_le (World.ownsRow.lt hr.1 k hk).2 hgg.size⟩
    · have hj' : j < X.length + 1 := by simpa using hj
      have hl' : l < X.length + 1 := by simpa using hl
      rw [hget j hj'] at hb
      rw [hget l hl']
      by_cases hjx : j = X.length
      · rw [if_pos hjx] at hb
        rw [if_neg (by omega)]
        intro hl2
        have h1 := (k4 l (by omega)).2 b hl2
        have h2 := hfar b hb
        omega
      · rw [if_neg hjx] at hb
        by_cases hlx : l = X.length
        · rw [if_pos hlx]
          intro hl2
          have h1 := (k4 j (by omega)).2 b hb
          have h2 := hfar b hl2
          omega
        · rw [if_neg hlx]; exact k5 j l (by omega) (by omega) hne b hb
    · have hj' : j < X.length + 1 := by simpa using hj
      rw [hget j hj'] at hb
      intro hv
      by_cases hjx : j = X.length
      · rw [if_pos hjx] at hb
        have h2 := (World.ownsRow.lt hu b hb).2
        rcases hv' b hv with h1 | h1
        · exact hvu b hb h1
        · omega
      · rw [if_neg hjx] at hb
        have h2 := (World.ownsRow.lt (k4 j (by omega)).1 b hb).2
        rcases hv' b hv with h1 | h1
        · exact k6 j b (by omega) hb h1
        · omega
end Go.RowKit
end
