/- A row of structs appended to a row, and cuts of rows. -/
import Derived.Test.YtgcmnpimkfmccaaDoorMemR
section
set_option linter.unusedVariables false
namespace Go.RowKit
variable {α : Type} {row : α → List Value} {sz : Nat}
theorem push_rowsN {P : Program} {ops : Array Oper} {rest : List Oper} {o : Oper} {a : Act} {Q : Exit → Act → World → Prop} (hgd : o.guard = none) (s x : Operand) (t e : TypeId)
    (ho : o.op = .call { callee := .builtin .append, args := #[s, x], argTypes := #[t, t] })
    (ht : P.underlying t = some (.slice e)) (z : Value) (bytes : Nat) (hinfo : (P.info? e).map (fun i => (i.zero, i.size, i.bytes)) = some (some z, sz, bytes)) (hzs : z.cells.size = sz) (hsz : 0 < sz) (hby : bytes ≤ 1000)
    (hrow : ∀ x, (row x).length = sz) (hone : ∀ x, ∀ u ∈ row x, u.oneCell' = true) (lo hi : Nat) (v u : Value) (xs ys : List α) (w0 : World) (hs : a.eval s = v) (hx : a.eval x = u)
    (hown : OwnRow e sz row lo hi w0 v xs) (hv : ∃ ad n cap, v = .slice (some ad) n cap) (hr : RdRow sz row w0 u ys) (hlen : xs.length + ys.length < 1000000000) (hB : lo ≤ w0.heap.size)
    (h : ∀ v' w', OwnRow e sz row lo w'.heap.size w' v' (xs ++ ys) → w0.grownBy w' v.ownBlock → (v'.ownBlock = v.ownBlock ∨ v'.ownBlock = some w0.heap.size) → w0.heap.size ≤ w'.heap.size → wpList P ops Q rest (a.put o.dst v') w') :
    wpList P ops Q (o :: rest) a w0 := by
  obtain ⟨i0, hi0, hz0, hz1, hz2⟩ := info_parts hinfo
  have e1 : (xs ++ ys).length = xs.length + ys.length := by simp
  have e2 : (xs ++ ys).flatMap row = xs.flatMap row ++ ys.flatMap row := by simp
  have hyl : (ys.flatMap row).length = ys.length * sz := flat_len hrow ys
  obtain ⟨au, cu, rfl, hul, huc⟩ := hr
  cases au with
  | none =>
    have hys : ys = [] := by
      cases ys with
      | nil => rfl
      | cons y ys => obtain ⟨b, off, hb, _⟩ := huc 0 (by simp); cases hb
    subst hys
    obtain ⟨ad, n0, cap0, hvv⟩ := hv
    rcases hown.1.2 with ⟨hnil, _⟩ | ⟨g, cap, cur, hve, hg, hh, hn, hm, hcs, hcells⟩
    · rw [hvv] at hnil; cases hnil
    · subst hve
      refine wpList_plain hgd fun K hK => ?_
      have hrun := run_append_room_src (P := P) w0 t t o.type e i0 ht hi0 g 0 xs.length cap (.slice none ([] : List α).length cu) 0 [] (Src.ofNil w0 ht cu) (by omega) (fun j hj => by simp at hj) (fun j hj => by simp at hj)
      unfold Oper.wp execOp
      simp only [ho, resolve, invoke, builtin, Sem.run_bind, Sem.run_pure, Result.andThen_ok, List.map_toArray, List.map_cons, List.map_nil, hs, hx, hrun]
      exact hK _ _ (h _ _ (by rw [List.append_nil]; exact hown.tight) (grownBy_refl _ _) (Or.inl rfl) (Nat.le_refl _))
  | some ad =>
    refine wpList_append_own_at _ hgd s x t ho lo e i0 z sz bytes ht hi0 hz0 hz1 hz2 hzs hsz v xs.length (xs.flatMap row) hs hown.1 ad ys.length cu (ys.flatMap row) hx hyl ?_ ?_ ?_ ?_ hB ?_
    · intro j u hu
      have hj : j < ys.length * sz := by have := (List.getElem?_eq_some_iff.1 hu).1; omega
      have hk : j / sz < ys.length := Nat.div_lt_of_lt_mul (by rw [Nat.mul_comm]; exact hj)
      have hc : j % sz < sz := Nat.mod_lt _ hsz
      have hjj : j / sz * sz + j % sz = j := by rw [Nat.mul_comm]; exact Nat.div_add_mod j sz
      obtain ⟨b, off, hb, hcell⟩ := huc (j / sz) hk
      cases hb
      have hadd : (⟨b, off, none⟩ : Addr).add j = ⟨b, off + j, none⟩ := by unfold Addr.add; split <;> simp_all
      have hg := flat_get hrow ys (j / sz) (j % sz) hk hc
      rw [hjj, hu] at hg
      have h2 := hcell (j % sz) u hg.symm
      rw [hadd]
      rw [Nat.add_assoc, hjj] at h2
      exact h2
    · intro u hu
      obtain ⟨y, _, hy⟩ := List.mem_flatMap.1 hu
      exact hone y u hy
    · unfold maxLen; omega
    · have h1 : (xs.length + ys.length) * bytes ≤ 1000000000 * 1000 := Nat.mul_le_mul (by omega) hby
      omega
    · intro v' w' ho' hg _ hat
      refine h v' w' ⟨?_, fun k hk => (World.ownsRow.lt ho' k hk).2⟩ hg hat hg.size
      rw [e1, e2]
      exact ho'
theorem RdRow.cutN {w : World} {a : Option Addr} {n cap : Nat} {xs : List α} (h : RdRow sz row w (.slice a n cap) xs) (l r : Nat) (hl : l ≤ r) (hr : r ≤ xs.length) (hcap : xs.length ≤ cap) :
    RdRow sz row w (sliced a l r cap sz) ((xs.take r).drop l) := by
  obtain ⟨a1, c1, e1, hlen, hc⟩ := h
  cases e1
  refine ⟨_, _, by unfold sliced; rw [List.length_drop, List.length_take, Nat.min_eq_left hr], by rw [List.length_drop, List.length_take]; omega, fun k hk => ?_⟩
  have hk2 : k < r - l := by rw [List.length_drop, List.length_take, Nat.min_eq_left hr] at hk; exact hk
  obtain ⟨b, off, ha, hx⟩ := hc (l + k) (by omega)
  subst ha
  have hne : ¬ cap = l := by omega
  refine ⟨b, off + l * sz, ?_, fun c u hu => ?_⟩
  · rw [if_neg hne, Option.map_some]
    have hadd : (⟨b, off, none⟩ : Addr).add (l * sz) = ⟨b, off + l * sz, none⟩ := by unfold Addr.add; split <;> simp_all
    rw [hadd]
  · have e : off + l * sz + k * sz + c = off + (l + k) * sz + c := by rw [Nat.add_mul]; omega
    rw [e]
    refine hx c u ?_
    have e2 : ((xs.take r).drop l)[k] = xs[l + k] := by simp
    rw [← e2]; exact hu
end Go.RowKit
namespace Go.Proofs.YtgcmnpimkfmccaaDoor
open Go.ChangeShapes Go.WideShapes Go.RowKit
theorem own_shape {α : Type} {sz : Nat} {row : α → List Value} {e : TypeId} {lo hi : Nat} {w : World} {v : Value} {xs : List α} (h : OwnRow e sz row lo hi w v xs) (hv : ∃ ad n cap, v = .slice (some ad) n cap) :
    ∃ g cap, v = .slice (some ⟨g, 0, none⟩) xs.length cap ∧ xs.length ≤ cap ∧ lo ≤ g ∧ g < hi := by
  obtain ⟨ad, n0, cap0, hvv⟩ := hv
  have hlt := World.ownsRow.lt h.1
  rcases h.1.2 with ⟨hnil, _⟩ | ⟨g, cap, cur, hve, hg, hh, hn, hm, hcs, hcells⟩
  · rw [hvv] at hnil; cases hnil
  · exact ⟨g, cap, hve, by omega, (hlt g (by rw [hve]; rfl)).1, h.2 g (by rw [hve]; rfl)⟩
theorem le_alloc (W : World) (m : Nat) (o : Obj) : W.heap.size ≤ ((W.drewN m).alloc o).heap.size := by rw [World.size_alloc]; exact Nat.le_succ _
theorem nb1 {n S m : Nat} {x : Value} (h : x.ownBlock = some n ∨ x.ownBlock = some m) (h1 : S ≤ n) (h2 : S ≤ m) : ∀ b, x.ownBlock = some b → S ≤ b := fun b hb => by
  rcases h with h | h
  · rw [h] at hb; simp only [Option.some.injEq] at hb; omega
  · rw [h] at hb; simp only [Option.some.injEq] at hb; omega
theorem nb2 {S m : Nat} {x y : Value} (h : x.ownBlock = y.ownBlock ∨ x.ownBlock = some m) (hy : ∀ b, y.ownBlock = some b → S ≤ b) (hm : S ≤ m) : ∀ b, x.ownBlock = some b → S ≤ b := fun b hb => by
  rcases h with h | h
  · exact hy b (h ▸ hb)
  · rw [h] at hb; simp only [Option.some.injEq] at hb; omega
theorem b13 {W w13 : World} {m : Nat} {o : Obj} (hg : ((W.drewN m).alloc o).grownBy w13 (some W.heap.size)) : Below W.heap.size W w13 :=
  (((Below.refl _ _).drN m).al o).grown hg (le_alloc W m o) (fun b hb => by simp only [Option.some.injEq] at hb; omega)
theorem own_some {α : Type} {sz : Nat} {row : α → List Value} {e : TypeId} {lo hi : Nat} {w : World} {v : Value} {xs : List α} (h : OwnRow e sz row lo hi w v xs) (hx : 0 < xs.length) : ∃ ad n cap, v = .slice (some ad) n cap := by
  rcases h.1.2 with ⟨h1, h2⟩ | ⟨g, cap, cur, hve, -⟩
  · omega
  · exact ⟨_, _, _, hve⟩
theorem cutG_r {α : Type} {sz : Nat} {row : α → List Value} {w : World} {g cap : Nat} {L : List α} (h : RdRow sz row w (.slice (some ⟨g, 0, none⟩) L.length cap) L) (k : Nat) (hk : k ≤ L.length) : RdRow sz row w (.slice (some ⟨g, 0, none⟩) k cap) (L.take k) := by
  obtain ⟨a1, c1, e1, hl, hc⟩ := h
  cases e1
  have hlen : (L.take k).length = k := by rw [List.length_take]; omega
  refine ⟨some ⟨g, 0, none⟩, cap, by rw [hlen], by omega, fun i hi => ?_⟩
  obtain ⟨b, off, hb, hx⟩ := hc i (by omega)
  refine ⟨b, off, hb, fun c u hu => hx c u ?_⟩
  rw [List.getElem_take] at hu
  exact hu
theorem cutG_l {α : Type} {sz : Nat} {row : α → List Value} {w : World} {g cap m : Nat} {L : List α} (h : RdRow sz row w (.slice (some ⟨g, 0, none⟩) L.length cap) L) (k : Nat) (hk : k ≤ L.length) : RdRow sz row w (.slice (some ⟨g, k * sz, none⟩) (L.length - k) m) (L.drop k) := by
  obtain ⟨a1, c1, e1, hl, hc⟩ := h
  cases e1
  refine ⟨some ⟨g, k * sz, none⟩, m, by rw [List.length_drop], by rw [List.length_drop]; omega, fun i hi => ?_⟩
  rw [List.length_drop] at hi
  obtain ⟨b, off, hb, hx⟩ := hc (k + i) (by omega)
  cases hb
  refine ⟨g, k * sz, rfl, fun c u hu => ?_⟩
  have e : k * sz + i * sz + c = 0 + (k + i) * sz + c := by rw [Nat.add_mul]; omega
  rw [e]
  refine hx c u ?_
  rw [← hu]; simp
theorem cutG_nil {α : Type} {sz : Nat} {row : α → List Value} {w : World} {a : Addr} {m : Nat} {L : List α} {k : Nat} (hk : L.length ≤ k) : RdRow sz row w (.slice (some a) (L.length - k) m) (L.drop k) :=
  ⟨some a, m, by rw [List.length_drop], by rw [List.length_drop]; omega, fun i hi => by rw [List.length_drop] at hi; omega⟩
end Go.Proofs.YtgcmnpimkfmccaaDoor
end
