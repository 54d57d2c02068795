/- The law LinesX: what it rests on, part 42 of 46. -/
import Derived.Test.YtioemkdapoombaaGreatDoorQLinesX23
import Derived.Test.YtioemkdapoombaaGreatDoorQLinesX25
import Derived.Test.YtioemkdapoombaaGreatDoorQLinesX31
import Derived.Test.YtioemkdapoombaaGreatDoorQLinesX40
import Derived.Test.YtioemkdapoombaaGreatDoorQLinesX41
namespace Go.Proofs.YtioemkdapoombaaGreatDoor
open Go.ChangeShapes Go.WideShapes Go.ChangeAt Go.RowKit
set_option linter.unusedSimpArgs false
set_option linter.unusedVariables false
theorem thrL_sz1 (xs : List Int) : ∀ s ∈ thrL xs, s.size ≤ 100 := fun s hs => by
  unfold thrL linTo at hs
  obtain ⟨k, -, rfl⟩ := List.mem_map.1 hs
  unfold lineAt
  rw [ByteArray.size_append, hexT_size]
  have h1 : thrS.size = 6 := rfl
  have h2 : ((xs.drop (12 * k)).take 12).length ≤ 12 := by rw [List.length_take]; omega
  omega
theorem doneR_sz1 {h m : Int} {L : List ByteArray} (hh : h ≤ 10) (hL : ∀ s ∈ L, s.size ≤ 100) : ∀ s ∈ doneR h m L, s.size ≤ 100 := fun s hs => by
  unfold doneR at hs
  rcases List.mem_cons.1 hs with rfl | hs
  · rw [ByteArray.size_append, stT_size]
    have h1 : staS.size = 6 := rfl
    omega
  · rcases List.mem_append.1 hs with hs | hs
    · exact hL s hs
    · rw [List.mem_singleton.1 hs]
      have h1 : endS.size = 3 := rfl
      omega
theorem rlTo_sz1 {h : Int} {X : List Part2} (R : RoutOk h X) : ∀ k, k ≤ X.length → ∀ s ∈ rlTo h X k, s.size ≤ 100
  | 0, _, s, hs => thrL_sz1 _ s hs
  | k + 1, hk, s, hs => by
    rcases List.mem_append.1 hs with hs | hs
    · rcases List.mem_append.1 hs with hs | hs
      · exact rlTo_sz1 R k (by omega) s hs
      · rw [List.mem_singleton.1 hs]
        obtain ⟨h1, h2⟩ := rt_sizes R (k := k) (by omega)
        unfold rtLine
        rw [ByteArray.size_append, ByteArray.size_append, ByteArray.size_append]
        have h3 : patS.size = 8 := rfl
        have h4 : (⟨#[32]⟩ : ByteArray).size = 1 := rfl
        omega
    · exact thrL_sz1 _ s hs
theorem rlL_sz1 (h : Int) (X : List Part2) : ∀ s ∈ rlL h X, s.size ≤ 100 := fun s hs => by
  unfold rlL at hs
  cases hv : validR h X
  · rw [hv] at hs; cases hs
  · rw [hv] at hs
    have R := rout_ok hv
    exact doneR_sz1 (by have := R.hh; omega) (rlTo_sz1 R X.length (Nat.le_refl _)) s hs
theorem linL_sz {h m : Int} (hv : validB h m = true) (xs : List Int) : ∀ s ∈ linL h m xs, s.size ≤ 100 := fun s hs => by
  unfold linL at hs
  cases hb : (validB h m && runOk h m xs && decide (xs.length ≤ 696))
  · rw [hb] at hs; cases hs
  · rw [hb] at hs
    have e : linR h m xs = doneR h m (thrL xs) := rfl
    rw [cond_true, e] at hs
    exact doneR_sz1 (by have := (validB_iff.1 hv).1; omega) (thrL_sz1 xs) s hs
theorem ckO_sz {X : List ByteArray} {s0 : ByteArray} {pl : List ByteArray} {h m : Int} (p : PlW X s0 pl h m) {N : Nat} (hN : 100 ≤ N) (hX : ∀ s ∈ X, s.size ≤ N) : ∀ k, k ≤ pl.length → ∀ s ∈ ckO s0 (startR h m) pl k, s.size ≤ N
  | 0, _, s, hs => by
    rw [List.mem_singleton.1 hs]
    exact hX _ (p.bd _ (List.mem_cons_self ..))
  | k + 1, hk, s, hs => by
    unfold ckO at hs
    rcases List.mem_append.1 hs with hs | hs
    · exact ckO_sz p hN hX k (by omega) s hs
    · have hkk : k < pl.length := by omega
      rcases List.mem_cons.1 hs with rfl | hs
      · rw [show pl.getD k ⟨#[]⟩ = pl[k] by simp [List.getD, hkk]]
        exact hX _ (p.bd _ (List.mem_cons_of_mem _ (List.getElem_mem hkk)))
      · rw [List.mem_singleton.1 hs]
        have hv := (validB_iff.1 (p.val (k + 1) hk).1).1
        unfold chkT
        rw [ByteArray.size_append, stT_size]
        have h3 : (⟨#[99, 104, 101, 99, 107, 32]⟩ : ByteArray).size = 6 := rfl
        omega
theorem ckL_szN {X : List ByteArray} {N : Nat} (hN : 100 ≤ N) (hX : ∀ s ∈ X, s.size ≤ N) : ∀ s ∈ ckL X, s.size ≤ N := fun s hs => by
  unfold ckL at hs
  by_cases h0 : askC X = 0
  · obtain ⟨s0, pl, h, m, p⟩ := plW_of h0
    rw [h0, beq_self_eq_true, cond_true] at hs
    cases hd : decide (60 < (ckP X).length)
    · rw [hd, cond_false, ckP_eq p.eq p.st] at hs
      rcases List.mem_append.1 hs with hs | hs
      · exact ckO_sz p hN hX _ (by omega) s hs
      · rw [List.mem_singleton.1 hs]
        have h1 : endT.size = 3 := rfl
        omega
    · rw [hd] at hs; cases hs
  · rw [beq_eq_false_iff_ne.2 h0] at hs; cases hs
theorem ckL_sz {X : List ByteArray} (hX : ∀ s ∈ X, s.size ≤ 100) : ∀ s ∈ ckL X, s.size ≤ 100 := ckL_szN (Nat.le_refl _) hX
theorem ckL_le (X : List ByteArray) : (ckL X).length ≤ 100 := by
  unfold ckL
  cases (askC X == 0)
  · exact Nat.zero_le _
  · cases hd : decide (60 < (ckP X).length)
    · have := of_decide_eq_false hd
      show (ckP X).length ≤ 100
      omega
    · exact Nat.zero_le _
theorem linL_le (h m : Int) (xs : List Int) : (linL h m xs).length ≤ 100 := by
  unfold linL
  cases hb : (validB h m && runOk h m xs && decide (xs.length ≤ 696))
  · exact Nat.zero_le _
  · rw [Bool.and_eq_true] at hb
    have hl := of_decide_eq_true hb.2
    show ((staS ++ stT h m) :: (thrL xs ++ [endS])).length ≤ 100
    rw [List.length_cons, List.length_append, thrL_len]
    unfold thrN
    show (xs.length + 11) / 12 + 1 + 1 ≤ 100
    omega
theorem rlL_le (h : Int) (X : List Part2) : (rlL h X).length ≤ 100 := by
  unfold rlL
  cases hv : validR h X
  · exact Nat.zero_le _
  · have R := rout_ok hv
    have h1 := R.lines X.length
    have h2 := R.hl
    show ((staS ++ stT h (grR X)) :: (rlTo h X X.length ++ [endS])).length ≤ 100
    rw [List.length_cons, List.length_append]
    show (rlTo h X X.length).length + 1 + 1 ≤ 100
    omega
set_option maxHeartbeats 32000000 in
set_option maxRecDepth 100000 in
theorem c_spec_l27Draw (W0 : World) (g k : Nat) (bs : List Int) (w : World) (h : Src W0 g bs k w) (hk : k < 50000) (hT : Tab W0) :
    Calls Tryz.prog 93 #[.pointer (some ⟨g, 0, none⟩)] w fun e w' => ∃ (v : Value) (X : List ByteArray) (k' : Nat), e = .returned v ∧ OwnT w.heap.size w'.heap.size w' v X ∧ (∀ s ∈ X, s.size ≤ 100) ∧ X.length ≤ 100 ∧ k' ≤ k + 3000 ∧ Src W0 g bs k' w' ∧ Upd g (g + 1) w w' := by
  have hgw := h.lt
  go_enter Tryz.func93, Tryz.ntmps93
  go_wp2_with fail
  refine (c_spec_l19Draw W0 g k bs 3 _ h (by omega) (by omega)).mono ?_; rintro e w1 ⟨v1, X, HH, k1, rfl, hD, -, -, hk1, S1, U1⟩
  have hs1 := U1.size
  have hXR := Lib.hid hD.rd
  obtain ⟨a1, c1, rfl, -, -⟩ := hD.rd
  obtain ⟨n1, hn1⟩ : ∃ n, X.length = n := ⟨_, rfl⟩
  rw [hn1] at hXR ⊢
  have hb2 : Below w1.heap.size w1 (w1.alloc (Obj.cells #[.int .i64 HH, .slice a1 n1 c1] 34)) := (Below.refl _ _).al _
  go_wp2_with fail
  have S2 := S1.below hb2
  have U2 := U1.trans (Upd.of_below (lo := g) (hi := g + 1) hb2)
  replace hXR := Lib.hid (hXR.out.below hb2)
  have hs2 := hb2.size
  generalize (w1.alloc (Obj.cells #[.int .i64 HH, .slice a1 n1 c1] 34)) = w2 at *
  clear S1 U1 hb2 hD hn1 h
  refine (c_spec_RoutineLines X HH _ _ hXR.out).mono ?_; rintro e wl ⟨ul, rfl, hL, hbl⟩
  have hsl := hbl.size
  have Sl := S2.below hbl
  have Ul := U2.trans (Upd.of_below (lo := g) (hi := g + 1) hbl)
  obtain ⟨aL, cL, hrL, -⟩ := (OwnRow.rdtc hL).2
  have hLz := rlL_sz1 HH X
  have hLe := rlL_le HH X
  obtain ⟨LL, hLL⟩ : ∃ L, rlL HH X = L := ⟨_, rfl⟩
  rw [hLL] at hL hrL hLz hLe
  obtain ⟨nL, hnL⟩ : ∃ l, LL.length = l := ⟨_, rfl⟩
  rw [hnL] at hrL
  subst hrL
  obtain ⟨C0, hC0⟩ : ∃ C, rtC HH X = C := ⟨_, rfl⟩
  rw [hC0]
  clear hLL hC0 hXR S2 U2
  go_wp2_with fail
  refine (c_spec_l00Src_one W0 g k1 bs 3 _ Sl (by omega) (by omega)).mono ?_; rintro e w3 ⟨b3, k3, rfl, hk3, S3, U3⟩
  have hs3 := U3.size
  cases b3
  · have hL3 := OwnRow.upd hL U3 (Or.inr (by omega))
    have U3' := Ul.trans U3
    go_wp2_with fail
    refine (c_spec_l00Src_one W0 g k3 bs 3 _ S3 (by omega) (by omega)).mono ?_; rintro e wm ⟨bm, km, rfl, hkm, Sm, Um⟩
    have hsm := Um.size
    have hLm : OwnT w2.heap.size wl.heap.size wm (.slice aL nL cL) LL := OwnRow.upd hL3 Um (Or.inr (by omega))
    have Um2 := U3'.trans Um
    cases bm
    · go_wp2
      go_ret
      exact ⟨_, LL, km, rfl, hLm.wide (by omega) (by omega), hLz, hLe, by omega, Sm, Um2⟩
    · go_wp2_with fail
      refine (c_spec_CheckedLines LL _ _ (by exact (OwnRow.rdtc hLm)) (fun s hs => Nat.le_trans (hLz s hs) (by decide)) (tab_below hT Sm.hb)).mono ?_; rintro e wn ⟨u9, rfl, ho9, hb9⟩
      have hsn := hb9.size
      have Sn := Sm.below hb9
      have Un := Um2.trans (Upd.of_below (lo := g) (hi := g + 1) hb9)
      have hLn := hLm.below hb9
      obtain ⟨a9, c9, hr9, -⟩ := (OwnRow.rdtc ho9).2
      obtain ⟨C, hC⟩ : ∃ C, ckdC LL = C := ⟨_, rfl⟩
      have hz9 := ckL_sz hLz
      have hLe9 := ckL_le LL
      rw [hC]
      obtain ⟨L9, hL9⟩ : ∃ L, ckL LL = L := ⟨_, rfl⟩
      rw [hL9] at ho9 hr9 hz9 hLe9
      obtain ⟨l9, hl9⟩ : ∃ l, L9.length = l := ⟨_, rfl⟩
      rw [hl9] at hr9
      subst hr9
      by_cases hC0 : C = 0
      · have tC : (C == 0) = true := by simpa using hC0
        clear hC hC0 hL9
        go_wp2
        go_ret
        exact ⟨_, L9, km, rfl, ho9.wide (by omega) (Nat.le_refl _), hz9, hLe9, by omega, Sn, Un⟩
      · have tC : (C == 0) = false := beq_eq_false_iff_ne.2 hC0
        clear hC hC0 hL9
        go_wp2
        go_ret
        exact ⟨_, LL, km, rfl, hLn.wide (by omega) (by omega), hLz, hLe, by omega, Sn, Un⟩
  · have U3 := Ul.trans U3
    clear hL hLz hLe Sl Ul
    go_wp2_with fail
    refine (c_spec_l08Draw W0 g k3 bs _ S3 (by omega)).mono ?_; rintro e w4 ⟨H, m, k4, rfl, hH, hm, hk4, S4, U4⟩
    have hs4 := U4.size
    have U4 := U3.trans U4
    have hm0 : 0 ≤ m ∧ m < 2 ^ H.toNat := hm
    have hHb : 1 ≤ H ∧ H ≤ 10 := by omega
    have hvalid : validB H m = true := validB_iff.2 ⟨hHb, by omega⟩
    have hp1024 : (2 : Int) ^ H.toNat ≤ 1024 := by
      have : H.toNat ≤ 10 := by omega
      have h2 : (2 : Nat) ^ H.toNat ≤ 2 ^ 10 := Nat.pow_le_pow_right (by decide) this
      have h3 : ((2 ^ H.toNat : Nat) : Int) ≤ ((2 ^ 10 : Nat) : Int) := by exact_mod_cast h2
      simpa using h3
    obtain ⟨w5, hw5⟩ : ∃ w5, w5 = ((w4.alloc (Obj.cells #[.int .i64 H, .int .i64 m] 25)).alloc (Obj.cells #[] 2)).alloc (Obj.cells #[.int .i64 H, .int .i64 m] 25) := ⟨_, rfl⟩
    have ha1 : Below w4.heap.size w4 (w4.alloc (Obj.cells #[.int .i64 H, .int .i64 m] 25)) := (Below.refl _ _).al _
    have ha2 : Below w4.heap.size w4 ((w4.alloc (Obj.cells #[.int .i64 H, .int .i64 m] 25)).alloc (Obj.cells #[] 2)) := ha1.al _
    have ha3 : Below w4.heap.size w4 w5 := by rw [hw5]; exact ha2.al _
    have hsz5 : w5.heap.size = w4.heap.size + 3 := by rw [hw5, World.size_alloc, World.size_alloc, World.size_alloc]
    have T5a := (VBox.new w4 25 (.int .i64 H) (.int .i64 m)).below ((Below.refl _ _).al (Obj.cells #[] 2))
    have T5 : VBox w5 w4.heap.size (.int .i64 H) (.int .i64 m) := by rw [hw5]; exact T5a.below ((Below.refl _ _).al _)
    have TN : VBox w5 (w4.heap.size + 2) (.int .i64 H) (.int .i64 m) := by
      have h9 := VBox.new ((w4.alloc (Obj.cells #[.int .i64 H, .int .i64 m] 25)).alloc (Obj.cells #[] 2)) 25 (.int .i64 H) (.int .i64 m)
      rw [World.size_alloc, World.size_alloc] at h9
      rw [hw5]; exact h9
    have hO : OwnI 2 (w4.heap.size + 1) w5 (.slice (some ⟨w4.heap.size + 1, 0, none⟩) 0 0) [] := by
      rw [hw5]
      exact (OwnI.made rfl (by rw [World.size_alloc]) (by rw [World.size_alloc]; omega)).al _
    have q0 := T5a.c0
    have q1 := T5a.c1
    go_wp2_with fail
    rw [← hw5]
    clear hw5 q0 q1 T5a ha1 ha2
    have S5 := S4.below ha3
    have U5 := U4.trans (Upd.of_below (lo := g) (hi := g + 1) ha3)
    obtain ⟨G, hG⟩ : ∃ G, w4.heap.size = G := ⟨_, rfl⟩
    rw [hG] at T5 TN hO hs4 hsz5 ⊢
    have hsz5' : G + 3 ≤ w5.heap.size ∧ w5.heap.size ≤ G + 3 := by omega
    obtain ⟨GN, hGN⟩ : ∃ GN, G + 2 = GN := ⟨_, rfl⟩
    rw [hGN] at TN ⊢
    have hGN' : G + 2 ≤ GN ∧ GN ≤ G + 2 := by omega
    have hne : ∀ n, Value.ownBlock (.slice (some ⟨G + 1, 0, none⟩) 0 0) = some n → n ≠ GN := fun n e => by simp only [Value.ownBlock, Option.some.injEq] at e; omega
    clear S3 U3 S4 U4 ha3 hG hGN hsz5
    refine (c_spec_l00Src_pick W0 g k4 bs 20 _ S5 (by omega) (by omega)).mono ?_; rintro e w6 ⟨x6, k6, rfl, hx0, hx1, -, hk6, S6, U6⟩
    have hx := hx1 (by omega)
    have hs6 := U6.size
    replace TN := TN.upd U6 (by omega)
    replace T5 := T5.upd U6 (by omega)
    replace hO := (OwnIR.upd hO.ir U6 (Or.inr (by omega))).1
    have U6 := U5.trans U6
    obtain ⟨N, rfl⟩ : ∃ N : Nat, x6 = (N : Int) := ⟨x6.toNat, by omega⟩
    have hN : N ≤ 20 := by omega
    clear S5 U5 hx1
    go_wp2_with fail
    go_loopw [7, 9] (fun s i wr => ∃ (j q : Nat) (mm : Int) (v : Value) (xs : List Int), j ≤ N ∧ i = .int .i64 j ∧ s = v ∧ xs.length + j ≤ N ∧ q + 30 * j ≤ k6 + 30 * N ∧ VBox wr GN (.int .i64 H) (.int .i64 mm) ∧ (0 ≤ mm ∧ mm < 2 ^ H.toNat) ∧ VBox wr G (.int .i64 H) (.int .i64 m) ∧ OwnI 2 (G + 1) wr v xs ∧ (∃ a n c, v = .slice a n c) ∧ (∀ n, v.ownBlock = some n → n ≠ GN) ∧ Src W0 g bs q wr ∧ Upd g (g + 1) w wr) (fun _ i _ => (intOf i).toNat)
    case atStart => exact ⟨N, k6, m, _, [], by omega, by go_num, rfl, by simp, by omega, TN, hm0, T5, hO, ⟨_, _, _, rfl⟩, hne, S6, U6⟩
    case round =>
      clear TN T5 hO hne S6 U6
      obtain ⟨j, qk, mm, v, xs, hj, rfl, rfl, hxl, hq, TN, hm2, T5, hO, ⟨av, LX, cv, hvv⟩, hne, Sa, Ua⟩ := hrel
      subst hvv
      obtain ⟨wo, rfl⟩ : ∃ wo : World, wo = wr := ⟨_, rfl⟩
      have hLX : LX = xs.length := by obtain ⟨_, _, he, -⟩ := hO.rd; cases he; rfl
      have hLXb : LX ≤ N := by omega
      have hmb : 0 ≤ mm ∧ mm < 1024 := by omega
      have hgo := Sa.lt
      have hno := TN.lt
      have hwo := Ua.size
      clear hLX
      by_cases hj0 : 0 < j
      · have hj1 : (0 : Int) < (j : Int) := by omega
        have n0 := TN.c0
        have n1 := TN.c1
        go_wp2_with fail
        refine (c_spec_l08Throws H mm _ (by omega) hmb).mono ?_; rintro e wa ⟨vl, rfl, hol, hba⟩
        obtain ⟨al, cl, rfl, hll, hlc⟩ := hol.rd
        have hsa := hba.size
        replace TN := TN.below hba
        replace T5 := T5.below hba
        replace hO := hO.below hba
        have Sb := Sa.below hba
        have Ub := Ua.trans (Upd.of_below (lo := g) (hi := g + 1) hba)
        have hTl : (throwsL H mm).length ≤ 11 := by have := throwsTo_len H mm (H + 1).toNat; unfold throwsL; omega
        have hTm : ∀ t ∈ throwsL H mm, (0 ≤ t ∧ t ≤ H) ∧ canB H mm t = true := fun t ht => (mem_throwsL (by omega)).1 ht
        have HLC := Lib.hid hlc
        have hblo := fun n e => OwnI.gt hol n e
        obtain ⟨TL, hTL⟩ : ∃ TL, (throwsL H mm).length = TL := ⟨_, rfl⟩
        have HTL := Lib.hid hTL
        have HTM := Lib.hid hTm
        rw [hTL] at hTl ⊢
        clear n0 n1 hba Sa Ua hol hlc hll hTL hTm
        by_cases hl0 : TL = 0
        · have tl0 : ((TL : Int) == 0) = true := by rw [beq_iff_eq]; omega
          have t50 := T5.c0
          have t51 := T5.c1
          go_wp2_with fail
          refine (c_spec_LinesOf H m xs _ _ (OwnI.rdc hO) (by omega)).mono ?_; rintro e wl ⟨ul, rfl, hL, hbl⟩
          have hsl := hbl.size
          have Sl := Sb.below hbl
          have Ul := Ub.trans (Upd.of_below (lo := g) (hi := g + 1) hbl)
          obtain ⟨aL, cL, hrL, -⟩ := (OwnRow.rdtc hL).2
          have hLz := linL_sz hvalid xs
          have hLe := linL_le H m xs
          obtain ⟨LL, hLL⟩ : ∃ L, linL H m xs = L := ⟨_, rfl⟩
          rw [hLL] at hL hrL hLz hLe
          obtain ⟨nL, hnL⟩ : ∃ l, LL.length = l := ⟨_, rfl⟩
          rw [hnL] at hrL
          subst hrL
          clear hLL
          go_wp2_with fail
          refine (c_spec_l00Src_one W0 g qk bs 3 _ Sl (by omega) (by omega)).mono ?_; rintro e wm ⟨bm, km, rfl, hkm, Sm, Um⟩
          have hsm := Um.size
          have hLm : OwnT wa.heap.size wl.heap.size wm (.slice aL nL cL) LL := OwnRow.upd hL Um (Or.inr (by omega))
          have Um2 := Ul.trans Um
          cases bm
          · go_wp2
            go_ret
            exact ⟨_, LL, km, rfl, hLm.wide (by omega) (by omega), hLz, hLe, by omega, Sm, Um2⟩
          · go_wp2_with fail
            refine (c_spec_CheckedLines LL _ _ (by exact (OwnRow.rdtc hLm)) (fun s hs => Nat.le_trans (hLz s hs) (by decide)) (tab_below hT Sm.hb)).mono ?_; rintro e wn ⟨u9, rfl, ho9, hb9⟩
            have hsn := hb9.size
            have Sn := Sm.below hb9
            have Un := Um2.trans (Upd.of_below (lo := g) (hi := g + 1) hb9)
            have hLn := hLm.below hb9
            obtain ⟨a9, c9, hr9, -⟩ := (OwnRow.rdtc ho9).2
            obtain ⟨C, hC⟩ : ∃ C, ckdC LL = C := ⟨_, rfl⟩
            have hz9 := ckL_sz hLz
            have hLe9 := ckL_le LL
            rw [hC]
            obtain ⟨L9, hL9⟩ : ∃ L, ckL LL = L := ⟨_, rfl⟩
            rw [hL9] at ho9 hr9 hz9 hLe9
            obtain ⟨l9, hl9⟩ : ∃ l, L9.length = l := ⟨_, rfl⟩
            rw [hl9] at hr9
            subst hr9
            by_cases hC0 : C = 0
            · have tC : (C == 0) = true := by simpa using hC0
              clear hC hC0 hL9
              go_wp2
              go_ret
              exact ⟨_, L9, km, rfl, ho9.wide (by omega) (Nat.le_refl _), hz9, hLe9, by omega, Sn, Un⟩
            · have tC : (C == 0) = false := beq_eq_false_iff_ne.2 hC0
              clear hC hC0 hL9
              go_wp2
              go_ret
              exact ⟨_, LL, km, rfl, hLn.wide (by omega) (by omega), hLz, hLe, by omega, Sn, Un⟩
        · have tl0 : ((TL : Int) == 0) = false := beq_eq_false_iff_ne.2 (by omega)
          go_wp2_with fail
          refine (c_spec_l00Src_pick W0 g qk bs TL _ Sb (by omega) (by omega)).mono ?_; rintro e wc ⟨x, kc, rfl, hx0, hx1, -, hkc, Sc, Uc⟩
          have hxl2 := hx1 (by omega)
          obtain ⟨I, rfl⟩ : ∃ I : Nat, x = (I : Int) := ⟨x.toNat, by omega⟩
          have hI : I < (throwsL H mm).length := by rw [HTL.out]; omega
          obtain ⟨bl, ol, rfl, hcell⟩ := HLC.out I hI
          obtain ⟨tv, htv⟩ : ∃ tv, (throwsL H mm).getD I 0 = tv := ⟨_, rfl⟩
          have htl : 0 ≤ tv ∧ tv ≤ H := by
            have e : (throwsL H mm).getD I 0 = (throwsL H mm)[I] := by simp [List.getD, hI]
            rw [← htv, e]
            exact (HTM.out _ (List.getElem_mem hI)).1
          rw [htv] at hcell
          have hblw : bl < wa.heap.size := World.block_lt_of_cell? _ _ hcell
          have hcell2 : wc.cell? ⟨bl, ol + I, none⟩ = some (.int .i64 tv) := (Uc.cell bl (ol + I) (by have := hblo bl rfl; omega) hblw).trans hcell
          have hsc := Uc.size
          replace TN := TN.upd Uc (by omega)
          replace T5 := T5.upd Uc (by omega)
          replace hO := (OwnIR.upd hO.ir Uc (Or.inr (by omega))).1
          have Uc := Ub.trans Uc
          have hin0 : (0 : Int) ≤ (I : Int) := Int.natCast_nonneg _
          have hin1 : (I : Int) < (TL : Int) := hxl2
          clear Sb Ub hcell HLC htv hx1 hblo
          have hlen2 : xs.length < 1000000000 := by omega
          go_wp2_with (at_builtin; refine push_int_at rfl _ _ _ _ rfl Tryz.underlying26 infoI (G + 1) _ xs tv wc rfl rfl (by exact hO) hlen2 (by omega) ?_; intro v' w' ho' hg' hat' hs'; refine stop_of ?_)
          unfold Stopped
          have hlv : ∀ n, Value.ownBlock (.slice av LX cv) = some n → G + 1 ≤ n ∧ n ≠ GN := fun n e => ⟨OwnI.gt hO n e, hne n e⟩
          replace TN := TN.grown hg' (fun e => by have := hlv GN e; omega)
          replace T5 := T5.grown hg' (fun e => by have := hlv G e; omega)
          have Se := Sc.grown hg' (fun n e => by have := hlv n e; omega)
          have Ue := updFresh' Uc hg' (fun n e => by have := hlv n e; omega)
          have hne' : ∀ n, Value.ownBlock v' = some n → n ≠ GN := fun n e => by
            rcases hat' with h | h
            · rw [h] at e; have := hlv n e; omega
            · rw [h] at e; simp only [Option.some.injEq] at e; omega
          obtain ⟨a9, c9, hv9, -⟩ := ho'.rd
          obtain ⟨L9, hL9⟩ : ∃ L9, (xs ++ [tv]).length = L9 := ⟨_, rfl⟩
          rw [hL9] at hv9
          subst hv9
          clear hO hg' hat' Sc Uc
          have n0 := TN.c0
          have n1 := TN.c1
          have nf0 := TN.f0
          have nf1 := TN.f1
          have hnb := next_bd hHb hm2 htl.2
          go_wp2_with fail
          refine (c_spec_l08Next H mm tv _ hmb (by omega)).mono ?_; rintro e wf ⟨rfl, hbf⟩
          replace TN := TN.below hbf
          replace T5 := T5.below hbf
          have Sg := Se.below hbf
          have Ug := Ue.trans (Upd.of_below (lo := g) (hi := g + 1) hbf)
          have hOg := ho'.below hbf
          have hsf := hbf.size
          clear Se Ue hbf ho' n0 n1 nf0 nf1
          have n0 := TN.c0
          have n1 := TN.c1
          have nf0 := TN.f0
          have nf1 := TN.f1
          obtain ⟨TZ, gz⟩ := TN.set (.int .i64 H) (.int .i64 (nextM mm tv))
          have T5z := T5.grown gz (by simp only [ne_eq, Option.some.injEq]; omega)
          have Sz := Sg.grown gz (fun n e => by simp only [Option.some.injEq] at e; omega)
          have Uz := updNew Ug gz (by omega)
          have hOz : OwnI 2 (G + 1) ((wf.setCell ⟨GN, 0, none⟩ (.int .i64 H)).setCell ⟨GN, 1, none⟩ (.int .i64 (nextM mm tv))) (.slice a9 L9 c9) (xs ++ [tv]) := OwnI.far hOg gz (fun k hk e => by simp only [Option.some.injEq] at e; exact (hne' k hk) e.symm)
          go_wp2
          generalize ((wf.setCell ⟨GN, 0, none⟩ (.int .i64 H)).setCell ⟨GN, 1, none⟩ (.int .i64 (nextM mm tv))) = wz at *
          go_roundw
          case rel => exact ⟨j - 1, kc, nextM mm tv, _, xs ++ [tv], by omega, by rw [show ((j - 1 : Nat) : Int) = (j : Int) - 1 by omega], rfl, by simp; omega, by omega, TZ, hnb, T5z, hOz, ⟨_, _, _, rfl⟩, hne', Sz, Uz⟩
          case measure => (simp [intOf] <;> omega)
      · have hj1 : ¬ (0 : Int) < (j : Int) := by omega
        have t50 := T5.c0
        have t51 := T5.c1
        go_wp2_with fail
        refine (c_spec_LinesOf H m xs _ _ (OwnI.rdc hO) (by omega)).mono ?_; rintro e wl ⟨ul, rfl, hL, hbl⟩
        have hsl := hbl.size
        have Sl := Sa.below hbl
        have Ul := Ua.trans (Upd.of_below (lo := g) (hi := g + 1) hbl)
        obtain ⟨aL, cL, hrL, -⟩ := (OwnRow.rdtc hL).2
        have hLz := linL_sz hvalid xs
        have hLe := linL_le H m xs
        obtain ⟨LL, hLL⟩ : ∃ L, linL H m xs = L := ⟨_, rfl⟩
        rw [hLL] at hL hrL hLz hLe
        obtain ⟨nL, hnL⟩ : ∃ l, LL.length = l := ⟨_, rfl⟩
        rw [hnL] at hrL
        subst hrL
        clear hLL
        go_wp2_with fail
        refine (c_spec_l00Src_one W0 g qk bs 3 _ Sl (by omega) (by omega)).mono ?_; rintro e wm ⟨bm, km, rfl, hkm, Sm, Um⟩
        have hsm := Um.size
        have hLm : OwnT wo.heap.size wl.heap.size wm (.slice aL nL cL) LL := OwnRow.upd hL Um (Or.inr (by omega))
        have Um2 := Ul.trans Um
        cases bm
        · go_wp2
          go_ret
          exact ⟨_, LL, km, rfl, hLm.wide (by omega) (by omega), hLz, hLe, by omega, Sm, Um2⟩
        · go_wp2_with fail
          refine (c_spec_CheckedLines LL _ _ (by exact (OwnRow.rdtc hLm)) (fun s hs => Nat.le_trans (hLz s hs) (by decide)) (tab_below hT Sm.hb)).mono ?_; rintro e wn ⟨u9, rfl, ho9, hb9⟩
          have hsn := hb9.size
          have Sn := Sm.below hb9
          have Un := Um2.trans (Upd.of_below (lo := g) (hi := g + 1) hb9)
          have hLn := hLm.below hb9
          obtain ⟨a9, c9, hr9, -⟩ := (OwnRow.rdtc ho9).2
          obtain ⟨C, hC⟩ : ∃ C, ckdC LL = C := ⟨_, rfl⟩
          have hz9 := ckL_sz hLz
          have hLe9 := ckL_le LL
          rw [hC]
          obtain ⟨L9, hL9⟩ : ∃ L, ckL LL = L := ⟨_, rfl⟩
          rw [hL9] at ho9 hr9 hz9 hLe9
          obtain ⟨l9, hl9⟩ : ∃ l, L9.length = l := ⟨_, rfl⟩
          rw [hl9] at hr9
          subst hr9
          by_cases hC0 : C = 0
          · have tC : (C == 0) = true := by simpa using hC0
            clear hC hC0 hL9
            go_wp2
            go_ret
            exact ⟨_, L9, km, rfl, ho9.wide (by omega) (Nat.le_refl _), hz9, hLe9, by omega, Sn, Un⟩
          · have tC : (C == 0) = false := beq_eq_false_iff_ne.2 hC0
            clear hC hC0 hL9
            go_wp2
            go_ret
            exact ⟨_, LL, km, rfl, hLn.wide (by omega) (by omega), hLz, hLe, by omega, Sn, Un⟩
end Go.Proofs.YtioemkdapoombaaGreatDoor
