/- Contracts: a held dot of the reference; rows of dots cut and joined. -/
import Derived.Test.YtddfdppoclnpcaaFrI
namespace Go.RowKit
variable {α : Type} {row : α → List Value} {sz : Nat}
theorem push_rowsN {P : Program} {ops : Array Oper} {rest : List Oper} {o : Oper} {a : Act} {Q : Exit → Act → World → Prop} (hgd : o.guard = none) (s x : Operand) (t e : TypeId)
    (ho : o.op = .call { callee := .builtin .append, args := #[s, x], argTypes := #[t, t] })
    (ht : P.underlying t = some (.slice e)) (z : Value) (bytes : Nat) (hinfo : (P.info? e).map (fun i => (i.zero, i.size, i.bytes)) = some (some z, sz, bytes)) (hzs : z.cells.size = sz) (hsz : 0 < sz) (hby : bytes ≤ 1000)
    (hrow : ∀ x, (row x).length = sz) (hone : ∀ x, ∀ u ∈ row x, u.oneCell' = true) (lo hi : Nat) (v u : Value) (xs ys : List α) (w0 : World) (hs : a.eval s = v) (hx : a.eval x = u)
    (hown : OwnRow e sz row lo hi w0 v xs) (hv : ∃ ad n cap, v = .slice (some ad) n cap) (hr : RdRow sz row w0 u ys) (hlen : xs.length + ys.length < 1000000000) (hB : lo ≤ w0.heap.size)
    (h : ∀ v' w', OwnRow e sz row lo w'.heap.size w' v' (xs ++ ys) → w0.grownBy w' v.ownBlock → (v'.ownBlock = v.ownBlock ∨ v'.ownBlock = some w0.heap.size) → w0.heap.size ≤ w'.heap.size → wpList P ops Q rest (a.put o.dst v') w') :
    wpList P ops Q (o :: rest) a w0 := by
  obtain ⟨i0, hi0, hz0, hz1, hz2⟩ := info_parts hinfo
  have e1 : (xs ++ ys).length = xs.length + ys.length := by simp
  have e2 : (xs ++ ys).flatMap row = xs.flatMap row ++ ys.flatMap row := by simp
  have hyl : (ys.flatMap row).length = ys.length * sz := flat_len hrow ys
  obtain ⟨au, cu, rfl, hul, huc⟩ := hr
  cases au with
  | none =>
    have hys : ys = [] := by
      cases ys with
      | nil => rfl
      | cons y ys => obtain ⟨b, off, hb, _⟩ := huc 0 (by simp); cases hb
    subst hys
    obtain ⟨ad, n0, cap0, hvv⟩ := hv
    rcases hown.1.2 with ⟨hnil, _⟩ | ⟨g, cap, cur, hve, hg, hh, hn, hm, hcs, hcells⟩
    · rw [hvv] at hnil; cases hnil
    · subst hve
      refine wpList_plain hgd fun K hK => ?_
      have hrun := run_append_room_src (P := P) w0 t t o.type e i0 ht hi0 g 0 xs.length cap (.slice none ([] : List α).length cu) 0 [] (Src.ofNil w0 ht cu) (by omega) (fun j hj => by simp at hj) (fun j hj => by simp at hj)
      unfold Oper.wp execOp
      simp only [ho, resolve, invoke, builtin, Sem.run_bind, Sem.run_pure, Result.andThen_ok, List.map_toArray, List.map_cons, List.map_nil, hs, hx, hrun]
      exact hK _ _ (h _ _ (by rw [List.append_nil]; exact hown.tight) (grownBy_refl _ _) (Or.inl rfl) (Nat.le_refl _))
  | some ad =>
    refine wpList_append_own_at _ hgd s x t ho lo e i0 z sz bytes ht hi0 hz0 hz1 hz2 hzs hsz v xs.length (xs.flatMap row) hs hown.1 ad ys.length cu (ys.flatMap row) hx hyl ?_ ?_ ?_ ?_ hB ?_
    · intro j u hu
      have hj : j < ys.length * sz := by have := (List.getElem?_eq_some_iff.1 hu).1; omega
      have hk : j / sz < ys.length := Nat.div_lt_of_lt_mul (by rw [Nat.mul_comm]; exact hj)
      have hc : j % sz < sz := Nat.mod_lt _ hsz
      have hjj : j / sz * sz + j % sz = j := by rw [Nat.mul_comm]; exact Nat.div_add_mod j sz
      obtain ⟨b, off, hb, hcell⟩ := huc (j / sz) hk
      cases hb
      have hadd : (⟨b, off, none⟩ : Addr).add j = ⟨b, off + j, none⟩ := by unfold Addr.add; split <;> simp_all
      have hg := flat_get hrow ys (j / sz) (j % sz) hk hc
      rw [hjj, hu] at hg
      have h2 := hcell (j % sz) u hg.symm
      rw [hadd]
      rw [Nat.add_assoc, hjj] at h2
      exact h2
    · intro u hu
      obtain ⟨y, _, hy⟩ := List.mem_flatMap.1 hu
      exact hone y u hy
    · unfold maxLen; omega
    · have h1 : (xs.length + ys.length) * bytes ≤ 1000000000 * 1000 := Nat.mul_le_mul (by omega) hby
      omega
    · intro v' w' ho' hg _ hat
      refine h v' w' ⟨?_, fun k hk => (World.ownsRow.lt ho' k hk).2⟩ hg hat hg.size
      rw [e1, e2]
      exact ho'
theorem RdRow.cutN {w : World} {a : Option Addr} {n cap : Nat} {xs : List α} (h : RdRow sz row w (.slice a n cap) xs) (l r : Nat) (hl : l ≤ r) (hr : r ≤ xs.length) (hcap : xs.length ≤ cap) :
    RdRow sz row w (sliced a l r cap sz) ((xs.take r).drop l) := by
  obtain ⟨a1, c1, e1, hlen, hc⟩ := h
  cases e1
  refine ⟨_, _, by unfold sliced; rw [List.length_drop, List.length_take, Nat.min_eq_left hr], by rw [List.length_drop, List.length_take]; omega, fun k hk => ?_⟩
  have hk2 : k < r - l := by rw [List.length_drop, List.length_take, Nat.min_eq_left hr] at hk; exact hk
  obtain ⟨b, off, ha, hx⟩ := hc (l + k) (by omega)
  subst ha
  have hne : ¬ cap = l := by omega
  refine ⟨b, off + l * sz, ?_, fun c u hu => ?_⟩
  · rw [if_neg hne, Option.map_some]
    have hadd : (⟨b, off, none⟩ : Addr).add (l * sz) = ⟨b, off + l * sz, none⟩ := by unfold Addr.add; split <;> simp_all
    rw [hadd]
  · have e : off + l * sz + k * sz + c = off + (l + k) * sz + c := by rw [Nat.add_mul]; omega
    rw [e]
    refine hx c u ?_
    have e2 : ((xs.take r).drop l)[k] = xs[l + k] := by simp
    rw [← e2]; exact hu
end Go.RowKit
namespace Go.Proofs.Ytddfdppoclnpcaa
open Go.ChangeShapes Go.WideShapes Go.ChangeAt Go.RowKit
set_option linter.unusedVariables false
set_option linter.unusedSimpArgs false
set_option maxHeartbeats 2000000 in
set_option maxRecDepth 100000 in
theorem c_spec_l26Hold (B D x b t : Int) (w : World) (hB : 2 ≤ B ∧ B ≤ 30) (hD : 1 ≤ D ∧ D ≤ 60) (hx : 0 ≤ x ∧ x ≤ 16) (hb : 0 ≤ b ∧ b ≤ 3100) (ht : 0 ≤ t ∧ t ≤ 3000) :
    Calls Try.prog 108 #[.agg #[.int .i64 B, .int .i64 D], .int .i64 x, .int .i64 b, .int .i64 t] w fun e w' => e = .returned (.agg #[.int .i64 (fraN (heldX B D x t b) D), .int .i64 (fraD (heldX B D x t b) D)]) ∧ Below w.heap.size w w' := by
  obtain ⟨W0, hW0⟩ : ∃ W0, W0 = (w.alloc (Obj.cells #[Value.int IntKind.i64 B, Value.int IntKind.i64 D] 54)).alloc (Obj.cells #[Value.int IntKind.i64 0, Value.int IntKind.i64 0] 49) := ⟨_, rfl⟩
  have k0 : W0.cell? ⟨w.heap.size, 0, none⟩ = some (.int .i64 B) := by rw [hW0]; go_simp
  have k1 : W0.cell? ⟨w.heap.size, 1, none⟩ = some (.int .i64 D) := by rw [hW0]; go_simp
  have g0 : W0.cell? ⟨w.heap.size + 1, 0, none⟩ = some (.int .i64 0) := by rw [hW0]; go_simp
  have g1 : W0.cell? ⟨w.heap.size + 1, 1, none⟩ = some (.int .i64 0) := by rw [hW0]; go_simp
  have f0 : W0.frozen? ⟨w.heap.size + 1, 0, none⟩ = false := by rw [hW0]; go_simp
  have f1 : W0.frozen? ⟨w.heap.size + 1, 1, none⟩ = false := by rw [hW0]; go_simp
  have B0 : Below w.heap.size w W0 := by rw [hW0]; exact ((Below.refl _ _).al _).al _
  have hz0 : w.heap.size + 1 < W0.heap.size := World.block_lt_of_cell? _ _ g0
  have b1 := bt_bd (b := b) (M := 3200) (by omega) hB
  obtain ⟨T, HT⟩ : ∃ M, Hid (b * B = M) := ⟨_, Lib.hid rfl⟩
  rw [HT.out] at b1
  have hw1 : IntKind.i64.wrap (b * B) = T := by rw [HT.out]; exact IntWalk.i64_in _ (by omega)
  have H1x : Hid (1 * x = x) := by unfold Hid; omega
  obtain ⟨S1, HS1⟩ : ∃ M, Hid (sideP (b % 2) x = M) := ⟨_, Lib.hid rfl⟩
  obtain ⟨S3, HS3⟩ : ∃ M, Hid (sideP (b % 2) (3 * x) = M) := ⟨_, Lib.hid rfl⟩
  have hS1 := sideP_bd (b % 2) (x := x) (M := 16) (by omega)
  have hS3 := sideP_bd (b % 2) (x := 3 * x) (M := 48) (by omega)
  rw [HS1.out] at hS1
  rw [HS3.out] at hS3
  have hfb : flB S3 S1 (T - D) T t := ⟨by omega, by omega, by omega, by omega, by omega⟩
  obtain ⟨a1, a2, a3, -⟩ := alongP_bd hfb
  have HA0 : Hid (S3 * (T - t) + S1 * (t - (T - D)) = heldX B D x t b) := by unfold Hid heldX; rw [HS1.out, HS3.out, HT.out]; rfl
  have HA1 : Hid (alongP S3 S1 (T - D) T t = heldX B D x t b) := by unfold Hid heldX; rw [HS1.out, HS3.out, HT.out]
  rw [HA1.out] at a3
  obtain ⟨A, HA⟩ : ∃ A, Hid (heldX B D x t b = A) := ⟨_, Lib.hid rfl⟩
  obtain ⟨M1, HM1⟩ : ∃ M, Hid (S3 * (T - t) = M) := ⟨_, Lib.hid rfl⟩
  obtain ⟨M2, HM2⟩ : ∃ M, Hid (S1 * (t - (T - D)) = M) := ⟨_, Lib.hid rfl⟩
  rw [HA.out] at a3 HA0
  rw [HM1.out] at a1
  rw [HM2.out] at a2
  rw [HM1.out, HM2.out] at HA0
  rw [HA.out]
  have hv1 : IntKind.i64.wrap (S3 * (T - t)) = M1 := by rw [HM1.out]; exact IntWalk.i64_in _ (by omega)
  have hv2 : IntKind.i64.wrap (S1 * (t - (T - D))) = M2 := by rw [HM2.out]; exact IntWalk.i64_in _ (by omega)
  have hbb : -100000 ≤ b ∧ b ≤ 100000 := by omega
  have hAb : -1000000000000 ≤ A ∧ A ≤ 1000000000000 := by omega
  have hDb : 0 < D ∧ D ≤ 1000000000000 := by omega
  go_enter Try.func108, Try.ntmps108
  go_wp2_with fail
  rw [← hW0]
  clear hW0
  refine (c_spec_l16Hand b x 3 _ hbb hx (Or.inr rfl)).mono ?_; rintro e w1 ⟨rfl, rfl⟩
  rw [HS3.out]
  go_wp2_with fail
  refine (c_spec_l16Hand b x 1 _ hbb hx (Or.inl rfl)).mono ?_; rintro e w1 ⟨rfl, rfl⟩
  rw [H1x.out, HS1.out]
  go_wp2_with fail
  rw [HA0.out]
  refine (c_spec_l16Make A D _ hAb hDb).mono ?_; rintro e w8 ⟨rfl, hb8⟩
  have g0 := keepc hb8 g0
  have g1 := keepc hb8 g1
  have f0 : w8.frozen? ⟨w.heap.size + 1, 0, none⟩ = false := by rw [hb8.frozen (p := ⟨w.heap.size + 1, 0, none⟩) hz0]; exact f0
  have f1 : w8.frozen? ⟨w.heap.size + 1, 1, none⟩ = false := by rw [hb8.frozen (p := ⟨w.heap.size + 1, 1, none⟩) hz0]; exact f1
  obtain ⟨X0, X1, -, hg⟩ := set2 w8 (w.heap.size + 1) (.int .i64 (fraN A D)) (.int .i64 (fraD A D)) _ _ g0 g1
  have BZ := ((B0.tr hb8).setCell (p := ⟨w.heap.size + 1, 0, none⟩) (Nat.le_succ _) (.int .i64 (fraN A D))).setCell (p := ⟨w.heap.size + 1, 1, none⟩) (Nat.le_succ _) (.int .i64 (fraD A D))
  go_wp2
  generalize ((w8.setCell ⟨w.heap.size + 1, 0, none⟩ (.int .i64 (fraN A D))).setCell ⟨w.heap.size + 1, 1, none⟩ (.int .i64 (fraD A D))) = wz at *
  exact bodyPost_ret (v := .agg #[.int .i64 (fraN A D), .int .i64 (fraD A D)]) (by simp [results, Try.results108, go_sem, X0, X1]) rfl ⟨rfl, by first | exact BZ | exact BZ.drew⟩
theorem elemDot : Try.prog.underlying 60 = some (.slice (Try.prog.elem 60)) := by kernel_rfl
theorem sizeDot (w : World) : (sizeOf (Try.prog.elem 60)).run Try.prog w = .ok 5 w := by kernel_rfl
theorem cutD_r {w : World} {a : Option Addr} {cap : Nat} {xs : List Dot5} (h : RdRow 5 rowD w (.slice a xs.length cap) xs) (hc : xs.length ≤ cap) (r : Nat) (hr : r ≤ xs.length) :
    ∃ u, (∀ w', (Instr.slice 60 (.slice a xs.length cap) none (some (.int .i64 r)) none).run Try.prog w' = .ok u w') ∧ RdRow 5 rowD w u (xs.take r) := by
  refine ⟨_, fun w' => ?_, h.cutN 0 r (Nat.zero_le _) hr hc⟩
  rw [run_slice_h w' _ _ _ _ elemDot _ _ (by omega) (by omega), sizeDot, Result.andThen_ok]
  rfl
theorem cutD_l {w : World} {a : Option Addr} {cap : Nat} {xs : List Dot5} (h : RdRow 5 rowD w (.slice a xs.length cap) xs) (hc : xs.length ≤ cap) (l : Nat) (hl : l ≤ xs.length) :
    ∃ u, (∀ w', (Instr.slice 60 (.slice a xs.length cap) (some (.int .i64 l)) none none).run Try.prog w' = .ok u w') ∧ RdRow 5 rowD w u (xs.drop l) := by
  have hk := h.cutN l xs.length hl (Nat.le_refl _) hc
  rw [List.take_length] at hk
  refine ⟨_, fun w' => ?_, hk⟩
  rw [run_slice_l w' _ _ _ _ elemDot _ _ (by omega) (by omega), sizeDot, Result.andThen_ok]
  rfl
end Go.Proofs.Ytddfdppoclnpcaa
