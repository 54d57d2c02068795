/- Lemma: a slice of int64s appended to one's own. No program. -/
import Derived.Test.YtecdmnncfloagaaMem
import Derived.Deep.AppendSrc
namespace Go.RowKit
theorem OwnI.some_of {B : Nat} {E : TypeId} {a : World} {v : Value} {xs : List Int} (h : OwnI E B a v xs) (hne : xs ≠ []) : ∃ g cap, v = .slice (some ⟨g, 0, none⟩) xs.length cap ∧ xs.length ≤ cap := by
  rcases h.2 with ⟨_, hn⟩ | ⟨g, cap, cur, rfl, hg, hh, hn, _⟩
  · exact absurd (List.eq_nil_of_length_eq_zero hn) hne
  · exact ⟨g, cap, rfl, hn⟩
theorem push_ints {P : Program} {ops : Array Oper} {rest : List Oper} {o : Oper} {a : Act} {Q : Exit → Act → World → Prop} (hgd : o.guard = none) (s x : Operand) (t e : TypeId)
    (ho : o.op = .call { callee := .builtin .append, args := #[s, x], argTypes := #[t, t] })
    (ht : P.underlying t = some (.slice e)) (hinfo : (P.info? e).map (fun i => (i.zero, i.size, i.bytes)) = some (some (.int .i64 0), 1, 8))
    (B : Nat) (v u : Value) (xs ys : List Int) (w0 : World) (hs : a.eval s = v) (hx : a.eval x = u)
    (hown : OwnI e B w0 v xs) (hv : ∃ ad n cap, v = .slice (some ad) n cap) (hr : RdI w0 u ys) (hlen : xs.length + ys.length < 1000000000) (hB : B ≤ w0.heap.size)
    (h : ∀ v' w', OwnI e B w' v' (xs ++ ys) → w0.grownBy w' v.ownBlock → (v'.ownBlock = v.ownBlock ∨ v'.ownBlock = some w0.heap.size) → w0.heap.size ≤ w'.heap.size → wpList P ops Q rest (a.put o.dst v') w') :
    wpList P ops Q (o :: rest) a w0 := by
  obtain ⟨i0, hi, hz0, hz1, hz2⟩ := info_parts hinfo
  have e1 : (xs ++ ys).length = xs.length + ys.length := by simp
  have e2 : ints (xs ++ ys) = ints xs ++ ints ys := by simp [ints]
  obtain ⟨au, cu, rfl, hul, huc⟩ := hr
  cases au with
  | none =>
    have hys : ys = [] := by
      cases ys with
      | nil => rfl
      | cons y ys => obtain ⟨b, off, hb, _⟩ := huc 0 (by simp); cases hb
    subst hys
    obtain ⟨ad, n0, cap0, hvv⟩ := hv
    rcases hown.2 with ⟨hnil, _⟩ | ⟨g, cap, cur, hve, hg, hh, hn, hm, hcs, hcells⟩
    · rw [hvv] at hnil; cases hnil
    · subst hve
      refine wpList_plain hgd fun K hK => ?_
      have hrun := run_append_room_src (P := P) w0 t t o.type e i0 ht hi g 0 xs.length cap (.slice none ([] : List Int).length cu) 0 [] (Src.ofNil w0 ht cu) (by omega) (fun j hj => by simp at hj) (fun j hj => by simp at hj)
      unfold Oper.wp execOp
      simp only [ho, resolve, invoke, builtin, Sem.run_bind, Sem.run_pure, Result.andThen_ok, List.map_toArray, List.map_cons, List.map_nil, hs, hx, hrun]
      exact hK _ _ (h _ _ (by rw [List.append_nil]; exact hown) (grownBy_refl _ _) (Or.inl rfl) (Nat.le_refl _))
  | some ad =>
    refine wpList_append_own_at _ hgd s x t ho B e i0 (.int .i64 0) 1 8 ht hi hz0 hz1 hz2 rfl (by decide) v xs.length (ints xs) hs hown ad ys.length cu (ints ys) hx (by simp [ints]) ?_ ?_ ?_ ?_ hB ?_
    · intro j u hu
      have hj : j < ys.length := by have := (List.getElem?_eq_some_iff.1 hu).1; simpa [ints] using this
      obtain ⟨b, off, hb, hc⟩ := huc j hj
      cases hb
      have hadd : (⟨b, off, none⟩ : Addr).add j = ⟨b, off + j, none⟩ := by unfold Addr.add; split <;> simp_all
      rw [hadd, hc]
      simp [ints, hj] at hu
      rw [← hu]
      simp [List.getD, hj]
    · intro u hu
      obtain ⟨y, _, rfl⟩ := List.mem_map.1 hu
      rfl
    · unfold maxLen; omega
    · omega
    · intro v' w' ho' hg _ hat
      refine h v' w' ?_ hg hat hg.size
      unfold OwnI
      rw [e1, e2]
      exact ho'
end Go.RowKit
