/- Events in memory: the row that grows in a boxed variable, and what a sort leaves of it. -/
import Derived.Test.YtgcmnpimkfmccaaDoorEvC
import Derived.Test.YtgcmnpimkfmccaaDoorMemW
namespace Go.Proofs.YtgcmnpimkfmccaaDoor
open Go.ChangeShapes Go.WideShapes Go.ChangeAt Go.RowKit Go.Sort
set_option linter.unusedSimpArgs false
set_option linter.unusedVariables false
theorem infoE : (Tryd.prog.info? 36).map (fun i => (i.zero, i.size, i.bytes)) = some (some (.agg #[.int .i64 0, .bool false, .int .i64 0, .int .i64 0]), 4, 32) := by kernel_rfl
theorem ownrow_blk {α : Type} {E : TypeId} {sz : Nat} {row : α → List Value} {lo hi : Nat} {a b : World} {v : Value} {xs : List α} (h : OwnRow E sz row lo hi a v xs) (hb : ∀ k, v.ownBlock = some k → b.heap[k]? = a.heap[k]?) : OwnRow E sz row lo hi b v xs := ⟨owns_block h.1 hb, h.2⟩
/-- a row of events in a boxed variable; w4: the world from which the boxes stand; g0: the first block of the row -/
structure EvM (w4 : World) (g0 bo : Nat) (wr : World) (uo : Value) (L : List Ev) : Prop where
  cb : wr.cell? ⟨bo, 0, none⟩ = some uo
  fb : wr.frozen? ⟨bo, 0, none⟩ = false
  own : OwnRow 36 4 rowE g0 wr.heap.size wr uo L
  off : ∀ k, uo.ownBlock = some k → k = g0 ∨ w4.heap.size ≤ k
  upd : UpdS (fun k => k = g0 ∨ k = bo) w4 wr
theorem EvM.below {w4 : World} {g0 bo : Nat} {wr w' : World} {uo : Value} {L : List Ev} (h : EvM w4 g0 bo wr uo L) (hb : Below wr.heap.size wr w') : EvM w4 g0 bo w' uo L :=
  ⟨keepc hb h.cb, frozenc hb h.cb h.fb, (h.own.below hb).wide (Nat.le_refl _) hb.size, h.off, h.upd.trans (UpdS.of_below hb) (fun _ _ d => d)⟩
theorem EvM.next {w4 : World} {g0 bo : Nat} {wr w' : World} {uo v' : Value} {L L' : List Ev} (h : EvM w4 g0 bo wr uo L) (hbo : bo < w4.heap.size) (hne : g0 ≠ bo) (hown : OwnRow 36 4 rowE g0 w'.heap.size w' v' L') (hg : wr.grownBy w' uo.ownBlock) (hat : v'.ownBlock = uo.ownBlock ∨ v'.ownBlock = some (wr.heap.size + 1)) :
    w'.cell? ⟨bo, 0, none⟩ = some uo ∧ w'.frozen? ⟨bo, 0, none⟩ = false ∧ EvM w4 g0 bo (w'.setCell ⟨bo, 0, none⟩ v') v' L' := by
  have hs := h.upd.size
  have hoff : uo.ownBlock ≠ some bo := fun e => by rcases h.off bo e with k | k <;> omega
  have c1 := grownB hg h.cb hoff
  have f1 := grownF hg h.cb h.fb hoff
  have hv' : ∀ k, v'.ownBlock = some k → k = g0 ∨ w4.heap.size ≤ k := fun k hk => by
    rcases hat with e | e
    · rw [e] at hk; exact h.off k hk
    · rw [e] at hk; cases hk; right; omega
  refine ⟨c1, f1, ⟨World.cell?_setCell_same _ _ _ c1, by simpa using f1, ?_, hv', ?_⟩⟩
  · have := ownrow_blk hown (b := w'.setCell ⟨bo, 0, none⟩ v') (fun k hk => heap_setCell_other _ _ k _ (fun e => by
      have e' : k = bo := e
      rcases hv' k hk with q | q <;> omega))
    exact this.wide (Nat.le_refl _) (by simp)
  · refine (h.upd.trans (D' := fun k => uo.ownBlock = some k) (UpdS.of_grown hg (fun k hk => hk)) ?_).trans (UpdS.of_set (D := fun k => k = g0 ∨ k = bo) v' (Or.inr rfl)) (fun _ _ d => d)
    intro k hk d
    rcases h.off k d with q | q
    · exact Or.inl q
    · omega
theorem hoE_of {w : World} {g : Nat} {d : Array Ev} (h : ∀ i, i < d.size → ∀ c, c < 4 → w.cell? ⟨g, i * 4 + c, none⟩ = some (rowE d[i]!)[c]! ∧ w.frozen? ⟨g, i * 4 + c, none⟩ = false) : HoE w g d := fun j hj => by
  rw [size_flatK] at hj
  rw [get_flatK _ _ _ _ hj, Nat.zero_add]
  have e : j = j / 4 * 4 + j % 4 := by omega
  have := h (j / 4) (by omega) (j % 4) (by omega)
  rw [← e] at this
  exact this
theorem ownrow_hoE {lo hi g n cap : Nat} {w : World} {L : List Ev} (h : OwnRow 36 4 rowE lo hi w (.slice (some ⟨g, 0, none⟩) n cap) L) : HoE w g L.toArray := by
  refine hoE_of (fun i hi c hc => ?_)
  have hi' : i < L.length := by simpa using hi
  obtain ⟨a, cp, he, -, hcell⟩ := h.rd rowE_len
  obtain ⟨b, off, ha, hcc⟩ := hcell i hi'
  rw [ha] at he
  cases he
  have hx : L.toArray[i]! = L[i] := by simp [hi']
  rw [hx]
  refine ⟨?_, (h.at rowE_len i c hi' hc).2⟩
  have := hcc c ((rowE L[i])[c]!) (by
    have hl : c < (rowE L[i]).length := by rw [rowE_len]; exact hc
    rw [List.getElem?_eq_getElem hl, getElem!_pos _ c hl])
  rwa [Nat.zero_add] at this
/-- events that a call gives back -/
def EvAt (lo : Nat) (w : World) (u : Value) (L : List Ev) : Prop :=
  (u = .slice none 0 0 ∧ L = []) ∨ ∃ g c, u = .slice (some ⟨g, 0, none⟩) L.length c ∧ lo ≤ g ∧ g < w.heap.size ∧ HoE w g L.toArray
theorem EvAt.below {lo : Nat} {w w' : World} {u : Value} {L : List Ev} (h : EvAt lo w u L) (hb : Below w.heap.size w w') : EvAt lo w' u L := by
  rcases h with h | ⟨g, c, h1, h2, h3, h4⟩
  · exact Or.inl h
  · exact Or.inr ⟨g, c, h1, h2, Nat.lt_of_lt_of_le h3 hb.size, h4.below hb⟩
theorem EvAt.low {lo lo' : Nat} {w : World} {u : Value} {L : List Ev} (h : EvAt lo w u L) (hl : lo' ≤ lo) : EvAt lo' w u L := by
  rcases h with h | ⟨g, c, h1, h2, h3, h4⟩
  · exact Or.inl h
  · exact Or.inr ⟨g, c, h1, Nat.le_trans hl h2, h3, h4⟩
theorem EvAt.rd {lo : Nat} {w : World} {u : Value} {L : List Ev} (h : EvAt lo w u L) (hL : L.length ≤ 9223372036854775807) : RdRow 4 rowE w u L := by
  rcases h with ⟨h1, h2⟩ | ⟨g, c, h1, h2, h3, h4⟩
  · subst h2; exact ⟨none, 0, h1, by simp, fun k hk => by simp at hk⟩
  · refine ⟨some ⟨g, 0, none⟩, c, h1, hL, fun k hk => ⟨g, 0, rfl, fun j v hv => ?_⟩⟩
    have hj : j < 4 := by
      have := (List.getElem?_eq_some_iff.1 hv).1
      rwa [rowE_len] at this
    have := (HoldsK.cell h4 (i := k) (c := j) (by simpa using hk) hj).1
    rw [this]
    have hx : L.toArray[k]! = L[k] := by simp [hk]
    rw [hx]
    have hl : j < (rowE L[k]).length := by rw [rowE_len]; exact hj
    rw [getElem!_pos _ j hl]
    rw [List.getElem?_eq_getElem hl] at hv
    exact hv
theorem ownrow_evAt {lo hi : Nat} {w : World} {u : Value} {L : List Ev} (h : OwnRow 36 4 rowE lo hi w u L) : EvAt lo w u L := by
  have h0 := h
  have hlt := World.ownsRow.lt h.1
  rcases h.1.2 with ⟨hnil, hn⟩ | ⟨g, cap, cur, hve, hg, hh, hn, hm, hcs⟩
  · exact Or.inl ⟨hnil, List.eq_nil_of_length_eq_zero hn⟩
  · subst hve
    obtain ⟨a, cp, he, -, -⟩ := h0.rd rowE_len
    cases he
    exact Or.inr ⟨g, cap, rfl, (hlt g rfl).1, (hlt g rfl).2, ownrow_hoE h0⟩
theorem perm_of_in {d d' : Array Ev} {n : Nat} (hd : d.size = n) (h : PermIn 0 n d d') : d'.toList.Perm d.toList := by
  have := h.2.2
  rwa [show d'.extract 0 n = d' by rw [← hd, ← h.1]; simp, show d.extract 0 n = d by rw [← hd]; simp] at this
end Go.Proofs.YtgcmnpimkfmccaaDoor
