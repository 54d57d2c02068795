/- FrK, FrL: laid one behind the other. -/
import Derived.Test.YtpcaaohdlcoplaaFrI
import Derived.Test.YtpcaaohdlcoplaaFrF
section
set_option linter.unusedVariables false
namespace Go.RowKit
variable {α : Type} {row : α → List Value} {sz : Nat}
theorem push_rowsN {P : Program} {ops : Array Oper} {rest : List Oper} {o : Oper} {a : Act} {Q : Exit → Act → World → Prop} (hgd : o.guard = none) (s x : Operand) (t e : TypeId)
    (ho : o.op = .call { callee := .builtin .append, args := #[s, x], argTypes := #[t, t] })
    (ht : P.underlying t = some (.slice e)) (z : Value) (bytes : Nat) (hinfo : (P.info? e).map (fun i => (i.zero, i.size, i.bytes)) = some (some z, sz, bytes)) (hzs : z.cells.size = sz) (hsz : 0 < sz) (hby : bytes ≤ 1000)
    (hrow : ∀ x, (row x).length = sz) (hone : ∀ x, ∀ u ∈ row x, u.oneCell' = true) (lo hi : Nat) (v u : Value) (xs ys : List α) (w0 : World) (hs : a.eval s = v) (hx : a.eval x = u)
    (hown : OwnRow e sz row lo hi w0 v xs) (hv : ∃ ad n cap, v = .slice (some ad) n cap) (hr : RdRow sz row w0 u ys) (hlen : xs.length + ys.length < 1000000000) (hB : lo ≤ w0.heap.size)
    (h : ∀ v' w', OwnRow e sz row lo w'.heap.size w' v' (xs ++ ys) → w0.grownBy w' v.ownBlock → (v'.ownBlock = v.ownBlock ∨ v'.ownBlock = some w0.heap.size) → w0.heap.size ≤ w'.heap.size → wpList P ops Q rest (a.put o.dst v') w') :
    wpList P ops Q (o :: rest) a w0 := by
  obtain ⟨i0, hi0, hz0, hz1, hz2⟩ := info_parts hinfo
  have e1 : (xs ++ ys).length = xs.length + ys.length := by simp
  have e2 : (xs ++ ys).flatMap row = xs.flatMap row ++ ys.flatMap row := by simp
  have hyl : (ys.flatMap row).length = ys.length * sz := flat_len hrow ys
  obtain ⟨au, cu, rfl, hul, huc⟩ := hr
  cases au with
  | none =>
    have hys : ys = [] := by
      cases ys with
      | nil => rfl
      | cons y ys => obtain ⟨b, off, hb, _⟩ := huc 0 (by simp); cases hb
    subst hys
    obtain ⟨ad, n0, cap0, hvv⟩ := hv
    rcases hown.1.2 with ⟨hnil, _⟩ | ⟨g, cap, cur, hve, hg, hh, hn, hm, hcs, hcells⟩
    · rw [hvv] at hnil; cases hnil
    · subst hve
      refine wpList_plain hgd fun K hK => ?_
      have hrun := run_append_room_src (P := P) w0 t t o.type e i0 ht hi0 g 0 xs.length cap (.slice none ([] : List α).length cu) 0 [] (Src.ofNil w0 ht cu) (by omega) (fun j hj => by simp at hj) (fun j hj => by simp at hj)
      unfold Oper.wp execOp
      simp only [ho, resolve, invoke, builtin, Sem.run_bind, Sem.run_pure, Result.andThen_ok, List.map_toArray, List.map_cons, List.map_nil, hs, hx, hrun]
      exact hK _ _ (h _ _ (by rw [List.append_nil]; exact hown.tight) (grownBy_refl _ _) (Or.inl rfl) (Nat.le_refl _))
  | some ad =>
    refine wpList_append_own_at _ hgd s x t ho lo e i0 z sz bytes ht hi0 hz0 hz1 hz2 hzs hsz v xs.length (xs.flatMap row) hs hown.1 ad ys.length cu (ys.flatMap row) hx hyl ?_ ?_ ?_ ?_ hB ?_
    · intro j u hu
      have hj : j < ys.length * sz := by have := (List.getElem?_eq_some_iff.1 hu).1; omega
      have hk : j / sz < ys.length := Nat.div_lt_of_lt_mul (by rw [Nat.mul_comm]; exact hj)
      have hc : j % sz < sz := Nat.mod_lt _ hsz
      have hjj : j / sz * sz + j % sz = j := by rw [Nat.mul_comm]; exact Nat.div_add_mod j sz
      obtain ⟨b, off, hb, hcell⟩ := huc (j / sz) hk
      cases hb
      have hadd : (⟨b, off, none⟩ : Addr).add j = ⟨b, off + j, none⟩ := by unfold Addr.add; split <;> simp_all
      have hg := flat_get hrow ys (j / sz) (j % sz) hk hc
      rw [hjj, hu] at hg
      have h2 := hcell (j % sz) u hg.symm
      rw [hadd]
      rw [Nat.add_assoc, hjj] at h2
      exact h2
    · intro u hu
      obtain ⟨y, _, hy⟩ := List.mem_flatMap.1 hu
      exact hone y u hy
    · unfold maxLen; omega
    · have h1 : (xs.length + ys.length) * bytes ≤ 1000000000 * 1000 := Nat.mul_le_mul (by omega) hby
      omega
    · intro v' w' ho' hg _ hat
      refine h v' w' ⟨?_, fun k hk => (World.ownsRow.lt ho' k hk).2⟩ hg hat hg.size
      rw [e1, e2]
      exact ho'
theorem RdRow.cutN {w : World} {a : Option Addr} {n cap : Nat} {xs : List α} (h : RdRow sz row w (.slice a n cap) xs) (l r : Nat) (hl : l ≤ r) (hr : r ≤ xs.length) (hcap : xs.length ≤ cap) :
    RdRow sz row w (sliced a l r cap sz) ((xs.take r).drop l) := by
  obtain ⟨a1, c1, e1, hlen, hc⟩ := h
  cases e1
  refine ⟨_, _, by unfold sliced; rw [List.length_drop, List.length_take, Nat.min_eq_left hr], by rw [List.length_drop, List.length_take]; omega, fun k hk => ?_⟩
  have hk2 : k < r - l := by rw [List.length_drop, List.length_take, Nat.min_eq_left hr] at hk; exact hk
  obtain ⟨b, off, ha, hx⟩ := hc (l + k) (by omega)
  subst ha
  have hne : ¬ cap = l := by omega
  refine ⟨b, off + l * sz, ?_, fun c u hu => ?_⟩
  · rw [if_neg hne, Option.map_some]
    have hadd : (⟨b, off, none⟩ : Addr).add (l * sz) = ⟨b, off + l * sz, none⟩ := by unfold Addr.add; split <;> simp_all
    rw [hadd]
  · have e : off + l * sz + k * sz + c = off + (l + k) * sz + c := by rw [Nat.add_mul]; omega
    rw [e]
    refine hx c u ?_
    have e2 : ((xs.take r).drop l)[k] = xs[l + k] := by simp
    rw [← e2]; exact hu
end Go.RowKit
namespace Go.Proofs.Ytpcaaohdlcoplaa
open Go.ChangeShapes Go.WideShapes Go.ChangeAt Go.RowKit
set_option linter.unusedSimpArgs false
theorem elemDot : Try.prog.underlying 62 = some (.slice (Try.prog.elem 62)) := by kernel_rfl
theorem sizeDot (w : World) : (sizeOf (Try.prog.elem 62)).run Try.prog w = .ok 5 w := by kernel_rfl
theorem cutD_r {w : World} {a : Option Addr} {cap : Nat} {xs : List Dot5} (h : RdRow 5 rowD w (.slice a xs.length cap) xs) (hc : xs.length ≤ cap) (r : Nat) (hr : r ≤ xs.length) :
    ∃ u, (∀ w', (Instr.slice 62 (.slice a xs.length cap) none (some (.int .i64 r)) none).run Try.prog w' = .ok u w') ∧ RdRow 5 rowD w u (xs.take r) := by
  refine ⟨_, fun w' => ?_, h.cutN 0 r (Nat.zero_le _) hr hc⟩
  rw [run_slice_h w' _ _ _ _ elemDot _ _ (by omega) (by omega), sizeDot, Result.andThen_ok]
  rfl
theorem cutD_l {w : World} {a : Option Addr} {cap : Nat} {xs : List Dot5} (h : RdRow 5 rowD w (.slice a xs.length cap) xs) (hc : xs.length ≤ cap) (l : Nat) (hl : l ≤ xs.length) :
    ∃ u, (∀ w', (Instr.slice 62 (.slice a xs.length cap) (some (.int .i64 l)) none none).run Try.prog w' = .ok u w') ∧ RdRow 5 rowD w u (xs.drop l) := by
  have hk := h.cutN l xs.length hl (Nat.le_refl _) hc
  rw [List.take_length] at hk
  refine ⟨_, fun w' => ?_, hk⟩
  rw [run_slice_l w' _ _ _ _ elemDot _ _ (by omega) (by omega), sizeDot, Result.andThen_ok]
  rfl
end Go.Proofs.Ytpcaaohdlcoplaa
end
section
set_option linter.unusedVariables false
namespace Go.Proofs.Ytpcaaohdlcoplaa
open Go.ChangeShapes Go.WideShapes Go.ChangeAt Go.RowKit
set_option linter.unusedSimpArgs false
def dW (p : List Int) (B D x t : Int) (F n : Nat) : List Dot5 := (winS p F n).map (fun b : Nat => dotP p B D x t (ordA p b) b)
theorem dotP_prop (p : List Int) (B D x t q b : Int) : (dotP p B D x t q b).1 = q := by unfold dotP; split <;> rfl
theorem dW_len (p : List Int) (B D x t : Int) (F n : Nat) : (dW p B D x t F n).length = (winS p F n).length := by unfold dW; simp
theorem dW_prop {p : List Int} {B D x t : Int} {F n k : Nat} (hk : k < (dW p B D x t F n).length) : (dW p B D x t F n)[k].1 = ((winS p F n).map (ordA p)).getD k 0 := by
  have h : k < (winS p F n).length := by rw [dW_len] at hk; exact hk
  simp only [dW, List.getElem_map, dotP_prop]
  simp [List.getD, h]
theorem dW_skip {p : List Int} {B D x t : Int} {F n : Nat} (h : nxB p F (F + n) = false) : dW p B D x t F (n + 1) = dW p B D x t F n := by
  unfold dW
  simp only [winS]
  rw [if_neg (by simp [h])]
theorem dW_put {p : List Int} {B D x t : Int} {F n : Nat} (h : nxB p F (F + n) = true) {k : Nat} (hk : k = posI (ordA p (F + n)) ((winS p F n).map (ordA p)) (winS p F n).length) :
    dW p B D x t F (n + 1) = (dW p B D x t F n).take k ++ [dotP p B D x t (ordA p (F + n)) ((F + n : Nat) : Int)] ++ (dW p B D x t F n).drop k := by
  unfold dW
  simp only [winS]
  rw [if_pos h]
  unfold insN
  rw [List.map_append, List.map_append, List.map_take, List.map_drop, ← hk]
  rfl
theorem dW_end {p : List Int} (hv : validP p = true) (B D x t : Int) : dW p B D x t (t / B + 1).toNat 16 = dotsF p B D x t := by
  have hl := win_full hv (t / B + 1).toNat
  apply List.ext_getElem
  · rw [dW_len, dotsF_len]; omega
  · intro k h1 h2
    rw [dotsF_at h2]
    have h3 : k < (winS p (t / B + 1).toNat 16).length := by rw [dW_len] at h1; exact h1
    have e1 : (winS p (t / B + 1).toNat 16)[k] = bqP p (t / B + 1).toNat k := by unfold bqP; simp [List.getD, h3]
    simp only [dW, List.getElem_map]
    rw [e1, (bq_ok hv (t / B + 1).toNat k (by omega)).2.2.2]
theorem nx_iff {p : List Int} {B t : Int} {b : Nat} (hB : 2 ≤ B) (ht : 0 ≤ t) : nxB p (t / B + 1).toNat b = true ↔ frP p b * B ≤ t := by
  constructor
  · exact nx_time hB ht
  · intro h
    have h1 : frP p b ≤ t / B := (Int.le_ediv_iff_mul_le (by omega)).2 h
    have h2 : 0 ≤ t / B := Int.ediv_nonneg ht (by omega)
    unfold nxB
    rw [decide_eq_true_eq]
    omega
theorem own_shape {α : Type} {sz : Nat} {row : α → List Value} {e : TypeId} {lo hi : Nat} {w : World} {v : Value} {xs : List α} (h : OwnRow e sz row lo hi w v xs) (hv : ∃ ad n cap, v = .slice (some ad) n cap) :
    ∃ g cap, v = .slice (some ⟨g, 0, none⟩) xs.length cap ∧ xs.length ≤ cap ∧ lo ≤ g ∧ g < hi := by
  obtain ⟨ad, n0, cap0, hvv⟩ := hv
  have hlt := World.ownsRow.lt h.1
  rcases h.1.2 with ⟨hnil, _⟩ | ⟨g, cap, cur, hve, hg, hh, hn, hm, hcs, hcells⟩
  · rw [hvv] at hnil; cases hnil
  · exact ⟨g, cap, hve, by omega, (hlt g (by rw [hve]; rfl)).1, h.2 g (by rw [hve]; rfl)⟩
structure DBox (w : World) (g : Nat) (a b c d e : Int) : Prop where
  c0 : w.cell? ⟨g, 0, none⟩ = some (.int .i64 a)
  c1 : w.cell? ⟨g, 1, none⟩ = some (.int .i64 b)
  c2 : w.cell? ⟨g, 2, none⟩ = some (.int .i64 c)
  c3 : w.cell? ⟨g, 3, none⟩ = some (.int .i64 d)
  c4 : w.cell? ⟨g, 4, none⟩ = some (.int .i64 e)
  f1 : w.frozen? ⟨g, 1, none⟩ = false
  f2 : w.frozen? ⟨g, 2, none⟩ = false
  f3 : w.frozen? ⟨g, 3, none⟩ = false
  f4 : w.frozen? ⟨g, 4, none⟩ = false
theorem DBox.below {w w' : World} {g : Nat} {a b c d e : Int} (h : DBox w g a b c d e) (hb : Below w.heap.size w w') : DBox w' g a b c d e :=
  ⟨keepc hb h.c0, keepc hb h.c1, keepc hb h.c2, keepc hb h.c3, keepc hb h.c4, frozenc hb h.c1 h.f1, frozenc hb h.c2 h.f2, frozenc hb h.c3 h.f3, frozenc hb h.c4 h.f4⟩
theorem dBox_new (w : World) (a b c d e : Int) : DBox (w.alloc (Obj.cells #[.int .i64 a, .int .i64 b, .int .i64 c, .int .i64 d, .int .i64 e] 71)) w.heap.size a b c d e := by
  constructor <;> go_simp
theorem DBox.setX {w : World} {g : Nat} {a b c d e : Int} (h : DBox w g a b c d e) (c' d' : Int) : DBox ((w.setCell ⟨g, 2, none⟩ (.int .i64 c')).setCell ⟨g, 3, none⟩ (.int .i64 d')) g a b c' d' e := by
  have s2 := World.cell?_setCell_same (v := .int .i64 c') w _ h.c2
  have s3 := World.cell?_setCell_same (v := .int .i64 d') (w.setCell ⟨g, 2, none⟩ (.int .i64 c')) _ ((grown_c1 w g 2 3 _ (by decide)).trans h.c3)
  refine ⟨?_, ?_, ?_, s3, ?_, ?_, ?_, ?_, ?_⟩
  · rw [grown_c1 _ g 3 0 _ (by decide), grown_c1 _ g 2 0 _ (by decide)]; exact h.c0
  · rw [grown_c1 _ g 3 1 _ (by decide), grown_c1 _ g 2 1 _ (by decide)]; exact h.c1
  · rw [grown_c1 _ g 3 2 _ (by decide)]; exact s2
  · rw [grown_c1 _ g 3 4 _ (by decide), grown_c1 _ g 2 4 _ (by decide)]; exact h.c4
  · rw [World.frozen?_setCell, World.frozen?_setCell]; exact h.f1
  · rw [World.frozen?_setCell, World.frozen?_setCell]; exact h.f2
  · rw [World.frozen?_setCell, World.frozen?_setCell]; exact h.f3
  · rw [World.frozen?_setCell, World.frozen?_setCell]; exact h.f4
theorem DBox.setY {w : World} {g : Nat} {a b c d e : Int} (h : DBox w g a b c d e) (e' : Int) : DBox (w.setCell ⟨g, 4, none⟩ (.int .i64 e')) g a b c d e' := by
  have s4 := World.cell?_setCell_same (v := .int .i64 e') w _ h.c4
  refine ⟨?_, ?_, ?_, ?_, s4, ?_, ?_, ?_, ?_⟩
  · rw [grown_c1 _ g 4 0 _ (by decide)]; exact h.c0
  · rw [grown_c1 _ g 4 1 _ (by decide)]; exact h.c1
  · rw [grown_c1 _ g 4 2 _ (by decide)]; exact h.c2
  · rw [grown_c1 _ g 4 3 _ (by decide)]; exact h.c3
  · rw [World.frozen?_setCell]; exact h.f1
  · rw [World.frozen?_setCell]; exact h.f2
  · rw [World.frozen?_setCell]; exact h.f3
  · rw [World.frozen?_setCell]; exact h.f4
theorem DBox.setH {w : World} {g : Nat} {a b c d e : Int} (h : DBox w g a b c d e) (b' : Int) : DBox (w.setCell ⟨g, 1, none⟩ (.int .i64 b')) g a b' c d e := by
  have s1 := World.cell?_setCell_same (v := .int .i64 b') w _ h.c1
  refine ⟨?_, s1, ?_, ?_, ?_, ?_, ?_, ?_, ?_⟩
  · rw [grown_c1 _ g 1 0 _ (by decide)]; exact h.c0
  · rw [grown_c1 _ g 1 2 _ (by decide)]; exact h.c2
  · rw [grown_c1 _ g 1 3 _ (by decide)]; exact h.c3
  · rw [grown_c1 _ g 1 4 _ (by decide)]; exact h.c4
  · rw [World.frozen?_setCell]; exact h.f1
  · rw [World.frozen?_setCell]; exact h.f2
  · rw [World.frozen?_setCell]; exact h.f3
  · rw [World.frozen?_setCell]; exact h.f4
theorem rowD_one : ∀ (x : Dot5), ∀ u ∈ rowD x, u.oneCell' = true := by
  intro x u hu
  simp only [rowD, List.mem_cons, List.not_mem_nil, or_false] at hu
  rcases hu with rfl | rfl | rfl | rfl | rfl <;> rfl
theorem cutE_r {w : World} {g cap : Nat} {L : List Dot5} (h : RdRow 5 rowD w (.slice (some ⟨g, 0, none⟩) L.length cap) L) (k : Nat) (hk : k ≤ L.length) : RdRow 5 rowD w (.slice (some ⟨g, 0, none⟩) k cap) (L.take k) := by
  obtain ⟨a1, c1, e1, hl, hc⟩ := h
  cases e1
  have hlen : (L.take k).length = k := by rw [List.length_take]; omega
  refine ⟨some ⟨g, 0, none⟩, cap, by rw [hlen], by omega, fun i hi => ?_⟩
  obtain ⟨b, off, hb, hx⟩ := hc i (by omega)
  refine ⟨b, off, hb, fun c u hu => hx c u ?_⟩
  rw [List.getElem_take] at hu
  exact hu
theorem cutE_l {w : World} {g cap m : Nat} {L : List Dot5} (h : RdRow 5 rowD w (.slice (some ⟨g, 0, none⟩) L.length cap) L) (k : Nat) (hk : k ≤ L.length) : RdRow 5 rowD w (.slice (some ⟨g, k * 5, none⟩) (L.length - k) m) (L.drop k) := by
  obtain ⟨a1, c1, e1, hl, hc⟩ := h
  cases e1
  refine ⟨some ⟨g, k * 5, none⟩, m, by rw [List.length_drop], by rw [List.length_drop]; omega, fun i hi => ?_⟩
  rw [List.length_drop] at hi
  obtain ⟨b, off, hb, hx⟩ := hc (k + i) (by omega)
  cases hb
  refine ⟨g, k * 5, rfl, fun c u hu => ?_⟩
  have e : k * 5 + i * 5 + c = 0 + (k + i) * 5 + c := by omega
  rw [e]
  refine hx c u ?_
  rw [← hu]; simp
theorem cutE_nil {w : World} {a : Addr} {m : Nat} {L : List Dot5} {k : Nat} (hk : L.length ≤ k) : RdRow 5 rowD w (.slice (some a) (L.length - k) m) (L.drop k) :=
  ⟨some a, m, by rw [List.length_drop], by rw [List.length_drop]; omega, fun i hi => by rw [List.length_drop] at hi; omega⟩
theorem le_alloc (W : World) (m : Nat) (o : Obj) : W.heap.size ≤ ((W.drewN m).alloc o).heap.size := by rw [World.size_alloc]; exact Nat.le_succ _
theorem nb1 {n S m : Nat} {x : Value} (h : x.ownBlock = some n ∨ x.ownBlock = some m) (h1 : S ≤ n) (h2 : S ≤ m) : ∀ b, x.ownBlock = some b → S ≤ b := fun b hb => by
  rcases h with h | h
  · rw [h] at hb; simp only [Option.some.injEq] at hb; omega
  · rw [h] at hb; simp only [Option.some.injEq] at hb; omega
theorem nb2 {S m : Nat} {x y : Value} (h : x.ownBlock = y.ownBlock ∨ x.ownBlock = some m) (hy : ∀ b, y.ownBlock = some b → S ≤ b) (hm : S ≤ m) : ∀ b, x.ownBlock = some b → S ≤ b := fun b hb => by
  rcases h with h | h
  · exact hy b (h ▸ hb)
  · rw [h] at hb; simp only [Option.some.injEq] at hb; omega
theorem b13 {W w13 : World} {m : Nat} {o : Obj} (hg : ((W.drewN m).alloc o).grownBy w13 (some W.heap.size)) : Below W.heap.size W w13 :=
  (((Below.refl _ _).drN m).al o).grown hg (le_alloc W m o) (fun b hb => by simp only [Option.some.injEq] at hb; omega)
theorem own_some {α : Type} {sz : Nat} {row : α → List Value} {e : TypeId} {lo hi : Nat} {w : World} {v : Value} {xs : List α} (h : OwnRow e sz row lo hi w v xs) (hx : 0 < xs.length) : ∃ ad n cap, v = .slice (some ad) n cap := by
  rcases h.1.2 with ⟨h1, h2⟩ | ⟨g, cap, cur, hve, -⟩
  · omega
  · exact ⟨_, _, _, hve⟩
end Go.Proofs.Ytpcaaohdlcoplaa
end
