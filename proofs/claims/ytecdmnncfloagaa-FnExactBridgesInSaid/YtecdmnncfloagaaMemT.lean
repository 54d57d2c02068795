/- Lemmas on queues: slices of the call's own that begin anywhere in their row. No program. -/
import Derived.Test.YtecdmnncfloagaaMemR
import Derived.Deep.AppendSrc
import Derived.Deep.Upon
import Derived.Deep.MidRow
namespace Go.RowKit
section
variable {α : Type} {sz : Nat} {row : α → List Value}
/-- a slice of the call's own, of elements of sz cells, that may begin anywhere in its row; blocks from lo up to hi -/
def OwnTail (sz : Nat) (row : α → List Value) (lo hi : Nat) (w : World) (v : Value) (xs : List α) : Prop :=
  ∃ g off cap, v = .slice (some ⟨g, off, none⟩) xs.length cap ∧ lo ≤ g ∧ g < hi ∧ g < w.heap.size ∧ xs.length ≤ cap ∧ cap ≤ maxLen ∧
    (∀ j u, (xs.flatMap row)[j]? = some u → w.cell? ⟨g, off + j, none⟩ = some u) ∧ ∀ j, j < cap * sz → (w.cell? ⟨g, off + j, none⟩).isSome = true ∧ w.frozen? ⟨g, off + j, none⟩ = false
theorem OwnTail.block {lo hi : Nat} {a b : World} {v : Value} {xs : List α} (h : OwnTail sz row lo hi a v xs) (hs : a.heap.size ≤ b.heap.size) (hb : ∀ k, v.ownBlock = some k → b.heap[k]? = a.heap[k]?) : OwnTail sz row lo hi b v xs := by
  obtain ⟨g, off, cap, rfl, h1, h2, h3, h4, h5, h6, h7⟩ := h
  have e := hb g rfl
  exact ⟨g, off, cap, rfl, h1, h2, by omega, h4, h5, fun j u hu => by rw [World.cell?_of_block (w := a) e]; exact h6 j u hu, fun j hj => by rw [World.cell?_of_block (w := a) e, World.frozen?_of_block (w := a) e]; exact h7 j hj⟩
theorem OwnTail.lt {lo hi : Nat} {a : World} {v : Value} {xs : List α} (h : OwnTail sz row lo hi a v xs) : ∀ k, v.ownBlock = some k → lo ≤ k ∧ k < hi ∧ k < a.heap.size := by
  obtain ⟨g, off, cap, rfl, h1, h2, h3, _⟩ := h
  intro k hk
  simp only [Value.ownBlock, Option.some.injEq] at hk
  subst hk
  exact ⟨h1, h2, h3⟩
theorem OwnTail.lo {lo hi : Nat} {a : World} {v : Value} {xs : List α} (h : OwnTail sz row lo hi a v xs) : lo < a.heap.size := by
  obtain ⟨g, off, cap, rfl, h1, h2, h3, _⟩ := h
  omega
theorem OwnTail.below {lo hi : Nat} {a b : World} {v : Value} {xs : List α} (h : OwnTail sz row lo hi a v xs) (hb : Below a.heap.size a b) : OwnTail sz row lo hi b v xs :=
  h.block hb.size fun k hk => hb.block k (h.lt k hk).2.2
theorem OwnTail.upd {lo hi lo' hi' : Nat} {a b : World} {v : Value} {xs : List α} (h : OwnTail sz row lo hi a v xs) (hb : Upd lo' hi' a b) (hd : ∀ k, v.ownBlock = some k → k < lo' ∨ hi' ≤ k) : OwnTail sz row lo hi b v xs :=
  h.block hb.size fun k hk => hb.block k (hd k hk) (h.lt k hk).2.2
theorem OwnTail.grown {lo hi : Nat} {a b : World} {r : Option Nat} {v : Value} {xs : List α} (h : OwnTail sz row lo hi a v xs) (hg : a.grownBy b r) (hd : ∀ k, v.ownBlock = some k → r ≠ some k) : OwnTail sz row lo hi b v xs :=
  h.block hg.size fun k hk => hg.block k (h.lt k hk).2.2 (fun e => hd k hk e.symm)
theorem OwnTail.al {lo hi : Nat} {a : World} {v : Value} {xs : List α} (h : OwnTail sz row lo hi a v xs) (o : Obj) : OwnTail sz row lo hi (a.alloc o) v xs :=
  h.below ((Below.refl _ _).al o)
theorem OwnTail.wide {lo hi lo' hi' : Nat} {a : World} {v : Value} {xs : List α} (h : OwnTail sz row lo hi a v xs) (h1 : lo' ≤ lo) (h2 : hi ≤ hi') : OwnTail sz row lo' hi' a v xs := by
  obtain ⟨g, off, cap, rfl, k1, k2, k3⟩ := h
  exact ⟨g, off, cap, rfl, by omega, by omega, k3⟩
theorem OwnTail.tight {lo hi : Nat} {a : World} {v : Value} {xs : List α} (h : OwnTail sz row lo hi a v xs) : OwnTail sz row lo a.heap.size a v xs := by
  obtain ⟨g, off, cap, rfl, k1, k2, k3, r⟩ := h
  exact ⟨g, off, cap, rfl, k1, k3, k3, r⟩
/-- the first element struck off -/
theorem OwnTail.pop {lo hi n cap g off : Nat} {a : World} {x : α} {xs : List α} {p : Option Addr} (hrow : ∀ x, (row x).length = sz) (h : OwnTail sz row lo hi a (.slice (some ⟨g, off, none⟩) n cap) (x :: xs))
    (hp : p = some ⟨g, if cap = 1 then off else off + sz, none⟩) : OwnTail sz row lo hi a (.slice p (n - 1) (cap - 1)) xs := by
  subst hp
  obtain ⟨g', off', cap', he, k1, k2, k3, k4, k5, k6, k7⟩ := h
  cases he
  simp only [List.length_cons] at k4
  by_cases hc : cap = 1
  · subst hc
    have hx : xs = [] := List.eq_nil_of_length_eq_zero (by omega)
    subst hx
    exact ⟨g, off, 0, by simp, k1, k2, k3, by simp, by unfold maxLen; omega, fun j u hu => by simp at hu, fun j hj => by omega⟩
  · rw [if_neg hc]
    refine ⟨g, off + sz, cap - 1, by simp, k1, k2, k3, by omega, by omega, fun j u hu => ?_, fun j hj => ?_⟩
    · have := k6 (sz + j) u (by rw [List.flatMap_cons, List.getElem?_append_right (by rw [hrow]; omega), hrow, Nat.add_sub_cancel_left]; exact hu)
      rwa [← Nat.add_assoc] at this
    · have e : cap * sz = (cap - 1) * sz + sz := by
        rw [← Nat.succ_mul]
        congr 1
        omega
      have := k7 (sz + j) (by omega)
      rwa [← Nat.add_assoc] at this
/-- the first element's cells -/
theorem OwnTail.head {lo hi : Nat} {a : World} {v : Value} {x : α} {xs : List α} (h : OwnTail sz row lo hi a v (x :: xs)) :
    ∃ g off n cap, v = .slice (some ⟨g, off, none⟩) n cap ∧ 0 < n ∧ n ≤ cap ∧ cap ≤ 9223372036854775807 ∧ Hid (n = xs.length + 1) ∧ ∀ j u, (row x)[j]? = some u → a.cell? ⟨g, off + j, none⟩ = some u := by
  obtain ⟨g, off, cap, rfl, _, _, _, h4, h5, h6, _⟩ := h
  simp only [List.length_cons] at h4
  refine ⟨g, off, _, cap, rfl, by simp, by simpa using h4, by unfold maxLen at h5; omega, by unfold Hid; simp, fun j u hu => h6 j u ?_⟩
  rw [List.flatMap_cons, List.getElem?_append_left (List.getElem?_eq_some_iff.1 hu).1]
  exact hu
theorem OwnTail.cap_le {lo hi n cap : Nat} {p : Option Addr} {a : World} {xs : List α} (h : OwnTail sz row lo hi a (.slice p n cap) xs) : n = xs.length ∧ n ≤ cap ∧ cap ≤ 9223372036854775807 := by
  obtain ⟨g, off, cap', he, _, _, _, h4, h5, _⟩ := h
  cases he
  unfold maxLen at h5
  exact ⟨rfl, h4, by omega⟩
/-- a row of one's own is a queue -/
theorem OwnRow.queue {E : TypeId} {lo hi : Nat} {a : World} {v : Value} {xs : List α} (hrow : ∀ x, (row x).length = sz) (h : OwnRow E sz row lo hi a v xs) (hne : xs ≠ []) : OwnTail sz row lo hi a v xs := by
  have h' := h.1
  have hlt := h.1.lt
  rcases h.1.2 with ⟨rfl, hn⟩ | ⟨g, cap, cur, rfl, hg, hh, hn, hm, hcs, _⟩
  · exact absurd (List.eq_nil_of_length_eq_zero hn) hne
  · refine ⟨g, 0, cap, rfl, hg, h.2 g rfl, (hlt g rfl).2, hn, hm, fun j u hu => ?_, fun j hj => ?_⟩
    · have hl : j < (xs.flatMap row).length := (List.getElem?_eq_some_iff.1 hu).1
      rw [flat_len hrow] at hl
      rw [Nat.zero_add, World.ownsRow.cellAt h' _ hl]
      exact hu
    · rw [Nat.zero_add]
      refine ⟨?_, World.ownsRow.frozenAt h' _⟩
      rw [cell_of_row a g j cur E (0, 0) hh, Array.getElem?_eq_getElem (by omega)]
      rfl
theorem grownBy_setCells (w : World) (g : Nat) : ∀ (vs : List Value) (o : Nat), w.grownBy (w.setCells g o vs) (some g) := by
  intro vs
  induction vs generalizing w with
  | nil => intro o; exact grownBy_refl w _
  | cons v vs ih =>
    intro o
    have h1 : w.grownBy (w.setCell ⟨g, o, none⟩ v) (some g) := ⟨rfl, rfl, rfl, by simp, fun k _ hk => heap_setCell_other w _ k v (fun e => hk (by rw [e]))⟩
    exact grownBy_trans h1 (ih (w.setCell ⟨g, o, none⟩ v) (o + 1))
theorem frozen_setCells (g : Nat) (a : Addr) : ∀ (vs : List Value) (o : Nat) (w : World), (w.setCells g o vs).frozen? a = w.frozen? a := by
  intro vs
  induction vs with
  | nil => intro o w; rfl
  | cons v vs ih =>
    intro o w
    show ((w.setCell ⟨g, o, none⟩ v).setCells g (o + 1) vs).frozen? a = _
    rw [ih, World.frozen?_setCell]
theorem run_push_tail {P : Program} (hrow : ∀ x, (row x).length = sz) (t ty e : TypeId) (ht : P.underlying t = some (.slice e)) (z : Value) (bytes : Nat) (hinfo : (P.info? e).map (fun i => (i.zero, i.size, i.bytes)) = some (some z, sz, bytes)) (hzs : z.cells.size = sz) (hsz : 0 < sz) (hby : bytes ≤ 1000)
    (lo hi : Nat) (v : Value) (xs : List α) (y : α) (w : World) (g1 : Nat) (hg1 : ∀ j u, (row y)[j]? = some u → w.cell? ⟨g1, j, none⟩ = some u) (hone : ∀ u ∈ row y, u.oneCell' = true)
    (hown : OwnTail sz row lo hi w v xs) (hlen : xs.length < 1000000000) (hB : lo ≤ w.heap.size) :
    ∃ v' w', (Builtin.append_ #[t, t] ty #[v, .slice (some ⟨g1, 0, none⟩) 1 1]).run P w = .ok v' w' ∧ OwnTail sz row lo w'.heap.size w' v' (xs ++ [y]) ∧ w.grownBy w' v.ownBlock ∧ (v'.ownBlock = v.ownBlock ∨ v'.ownBlock = some w.heap.size) := by
  obtain ⟨i0, hi0, hz0, hz1, hz2⟩ := info_parts hinfo
  obtain ⟨g, off, cap, rfl, h1, h2, h3, h4, h5, h6, h7⟩ := hown
  subst hz1
  have hyl := hrow y
  have hxl := flat_len hrow xs
  have hsrc : Src P i0.size t (.slice (some ⟨g1, 0, none⟩) 1 1) 1 (row y) w := Src.ofSlice w ht ⟨g1, 0, none⟩ 1 1 (row y) (by rw [hyl, Nat.one_mul]) (fun j u hu => by
    have hadd : (⟨g1, 0, none⟩ : Addr).add j = ⟨g1, j, none⟩ := by unfold Addr.add; split <;> simp_all
    rw [hadd]; exact hg1 j u hu) hone
  have hmx : xs.length + 1 ≤ maxLen := by unfold maxLen; omega
  have e2 : (xs ++ [y]).flatMap row = xs.flatMap row ++ row y := by simp
  have e1 : (xs ++ [y]).length = xs.length + 1 := by simp
  by_cases hroom : xs.length + 1 ≤ cap
  · have hle : (xs.length + 1) * i0.size ≤ cap * i0.size := Nat.mul_le_mul_right _ hroom
    have hsp : ∀ j, j < (row y).length → (w.cell? ⟨g, off + xs.length * i0.size + j, none⟩).isSome = true ∧ w.frozen? ⟨g, off + xs.length * i0.size + j, none⟩ = false := fun j hj => by
      have := h7 (xs.length * i0.size + j) (by rw [Nat.succ_mul] at hle; omega)
      rwa [← Nat.add_assoc] at this
    have hrun := run_append_room_src (P := P) w t t ty e i0 ht hi0 g off xs.length cap _ 1 (row y) hsrc hroom (fun j hj => (hsp j hj).1) (fun j hj => (hsp j hj).2)
    have hgr := grownBy_setCells w g (row y) (off + xs.length * i0.size)
    have hs := hgr.size
    refine ⟨_, _, hrun, ⟨g, off, cap, by rw [e1], h1, by omega, by omega, by omega, h5, fun j u hu => ?_, fun j hj => ⟨?_, ?_⟩⟩, hgr, Or.inl rfl⟩
    · rw [e2] at hu
      by_cases hj : j < (xs.flatMap row).length
      · rw [List.getElem?_append_left hj] at hu
        rw [World.cell?_setCells_out g (row y) _ w ⟨g, off + j, none⟩ (fun _ _ => Or.inl (by show off + j < off + xs.length * i0.size; omega))]
        exact h6 j u hu
      · rw [List.getElem?_append_right (by omega)] at hu
        have hj2 := (List.getElem?_eq_some_iff.1 hu).1
        have := World.cell?_setCells_in g (row y) (off + xs.length * i0.size) w (fun i hi => (hsp i hi).1) (j - (xs.flatMap row).length) hj2
        rw [show off + xs.length * i0.size + (j - (xs.flatMap row).length) = off + j by omega] at this
        rw [this, ← hu, List.getElem?_eq_getElem hj2]
    · exact World.isSome_setCells g (row y) _ w _ (h7 j hj).1
    · rw [frozen_setCells]; exact (h7 j hj).2
  · have hold : (Builtin.firstCells i0.size xs.length (.slice (some ⟨g, off, none⟩) xs.length cap)).run P w.drew = .ok (xs.flatMap row).toArray w.drew :=
      run_firstCells_some w.drew i0.size xs.length ⟨g, off, none⟩ xs.length cap (xs.flatMap row) hxl (fun j u hu => by
        have hadd : (⟨g, off, none⟩ : Addr).add j = ⟨g, off + j, none⟩ := by unfold Addr.add; split <;> simp_all
        rw [hadd]; exact h6 j u hu)
    have hbytes : (xs.length + 1) * i0.bytes ≤ 140737488355328 := by
      rw [hz2]
      have h1 : (xs.length + 1) * bytes ≤ 1000000000 * 1000 := Nat.mul_le_mul (by omega) hby
      omega
    have hrun := run_append_grow_src (P := P) w t t ty e i0 z ht hi0 hz0 (some ⟨g, off, none⟩) xs.length cap (xs.flatMap row) hold _ 1 (row y) hsrc (by omega) (by unfold maxLen at hmx; omega) (growslice_fits (by omega) hbytes)
    have hge := grownCap_ge w (xs.length + 1) cap e
    have hcm := grownCap_le_maxLen w (xs.length + 1) cap e hmx
    have hL : (xs.flatMap row ++ row y).length = (xs.length + 1) * i0.size := by rw [List.length_append, hxl, hyl, Nat.succ_mul]
    refine ⟨_, _, hrun, ⟨w.heap.size, 0, _, by rw [e1], hB, by rw [World.size_alloc]; exact Nat.lt_succ_self _, by rw [World.size_alloc]; exact Nat.lt_succ_self _, by omega, hcm, fun j u hu => ?_, fun j hj => ⟨?_, ?_⟩⟩,
      ⟨rfl, rfl, rfl, by rw [World.size_alloc]; exact Nat.le_succ _, fun k hk _ => heap_alloc_old w.drew _ hk⟩, Or.inr rfl⟩
    · rw [e2] at hu
      have hj := (List.getElem?_eq_some_iff.1 hu).1
      rw [Nat.zero_add, World.cell?_alloc_at _ _ _ _ (by rfl), Array.getElem?_append_left (by simp only [List.size_toArray]; exact hj), List.getElem?_toArray]
      exact hu
    · rw [Nat.zero_add, World.cell?_alloc_at _ _ _ _ (by rfl)]
      have hs2 : ((xs.flatMap row ++ row y).toArray ++ Builtin.zeroCells z.cells (grownCap w (xs.length + 1) cap e - (xs.length + 1))).size = grownCap w (xs.length + 1) cap e * i0.size := by
        rw [Array.size_append, List.size_toArray, hL, size_zeroCells, hzs, ← Nat.add_mul]
        congr 1
        omega
      rw [Array.getElem?_eq_getElem (by rw [hs2]; exact hj)]
      rfl
    · exact World.frozen?_alloc_at _ _ _ _ (by rfl)
theorem push_tail {P : Program} {ops : Array Oper} {rest : List Oper} {o : Oper} {a : Act} {Q : Exit → Act → World → Prop} (hrow : ∀ x, (row x).length = sz) (hgd : o.guard = none) (s x : Operand) (t e : TypeId)
    (ho : o.op = .call { callee := .builtin .append, args := #[s, x], argTypes := #[t, t] })
    (ht : P.underlying t = some (.slice e)) (z : Value) (bytes : Nat) (hinfo : (P.info? e).map (fun i => (i.zero, i.size, i.bytes)) = some (some z, sz, bytes)) (hzs : z.cells.size = sz) (hsz : 0 < sz) (hby : bytes ≤ 1000)
    (lo hi : Nat) (v : Value) (xs : List α) (y : α) (cs : Array Value) (w0 : World) (hcs : cs.toList = row y) (hone : ∀ u ∈ row y, u.oneCell' = true)
    (hs : a.eval s = v) (hx : a.eval x = .slice (some ⟨w0.heap.size, 0, none⟩) 1 1)
    (hown : OwnTail sz row lo hi w0 v xs) (hlen : xs.length < 1000000000) (hB : lo ≤ w0.heap.size)
    (h : ∀ v' w', OwnTail sz row lo w'.heap.size w' v' (xs ++ [y]) → w0.grownBy w' v.ownBlock → (v'.ownBlock = v.ownBlock ∨ v'.ownBlock = some (w0.heap.size + 1)) → w0.heap.size < w'.heap.size → wpList P ops Q rest (a.put o.dst v') w') :
    wpList P ops Q (o :: rest) a (w0.alloc (.cells cs e)) := by
  refine wpList_plain hgd fun K hK => ?_
  obtain ⟨v', w', hr, h2, h3, h4⟩ := run_push_tail (P := P) hrow t o.type e ht z bytes hinfo hzs hsz hby lo hi v xs y (w0.alloc (.cells cs e)) w0.heap.size (fun j u hu => by
    rw [World.cell?_alloc_at _ _ _ _ rfl, ← Array.getElem?_toList, hcs]; exact hu) hone (hown.al _) hlen (by rw [World.size_alloc]; omega)
  have hs3 := h3.size
  rw [World.size_alloc] at hs3 h4
  unfold Oper.wp execOp
  simp only [ho, resolve, invoke, builtin, Sem.run_bind, Sem.run_pure, Result.andThen_ok, List.map_toArray, List.map_cons, List.map_nil, hs, hx, hr]
  exact hK _ _ (h v' w' h2 (grownBy_trans (World.grownBy_alloc w0 _ _) h3) h4 (by omega))
end
end Go.RowKit
