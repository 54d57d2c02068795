/- The law LinesX: what it rests on, part 43 of 46. -/
import Derived.Test.YtioemkdapoombaaGreatDoorQLinesX42
namespace Go.Proofs.YtioemkdapoombaaGreatDoor
open Go.ChangeShapes Go.WideShapes Go.ChangeAt Go.RowKit
set_option linter.unusedSimpArgs false
set_option linter.unusedVariables false
section
variable {lo hi b n c : Nat} {w : World} {v : Value} {X : List ByteArray}
theorem ownT_slice (h : OwnT lo hi w v X) (hX : 0 < X.length) : ∃ g c, v = .slice (some ⟨g, 0, none⟩) X.length c ∧ lo ≤ g ∧ g < hi := by
  have hlt := World.ownsRow.lt h.1
  rcases h.1.2 with ⟨hnil, hn⟩ | ⟨g, cap, cur, hve, hg, hh, hn, hm, hcs⟩
  · rw [hn] at hX; omega
  · subst hve
    exact ⟨g, cap, rfl, (hlt g rfl).1, h.2 g rfl⟩
theorem flatT_set (t : ByteArray) : ∀ (X : List ByteArray) (k : Nat), (X.flatMap rowT).set k (.string t) = (X.set k t).flatMap rowT
  | [], k => rfl
  | x :: X, 0 => rfl
  | x :: X, k + 1 => by
    have ih := flatT_set t X k
    show (.string x) :: ((X.flatMap rowT).set k (.string t)) = (.string x) :: ((X.set k t).flatMap rowT)
    rw [ih]
theorem ownT_set (h : OwnT lo hi w (.slice (some ⟨b, 0, none⟩) n c) X) (k : Nat) (t : ByteArray) : OwnT lo hi (w.setCell ⟨b, k, none⟩ (.string t)) (.slice (some ⟨b, 0, none⟩) n c) (X.set k t) := by
  obtain rfl : n = X.length := by obtain ⟨a, c', e, -⟩ := OwnRow.rd rowT_len h; cases e; rfl
  have s := World.ownsRow.stored h.1 k (.string t)
  refine ⟨?_, h.2⟩
  rw [List.length_set, ← flatT_set t X k]
  exact s.1
theorem set_sz {N : Nat} (h : ∀ s ∈ X, s.size ≤ N) {t : ByteArray} (ht : t.size ≤ N) (k : Nat) : ∀ s ∈ X.set k t, s.size ≤ N := fun s hs => by
  rcases List.mem_or_eq_of_mem_set hs with hs | rfl
  · exact h s hs
  · exact ht
theorem rdTC_upd {w' : World} (h : RdTC w v X) (u : Upd lo hi w w') (hf : ∀ k, v.ownBlock = some k → k < lo ∨ hi ≤ k) : RdTC w' v X := by
  obtain ⟨⟨a, cap, he, hl, hc⟩, h2⟩ := h
  refine ⟨⟨a, cap, he, hl, fun k hk => ?_⟩, h2⟩
  obtain ⟨bl, off, ha, hx⟩ := hc k hk
  refine ⟨bl, off, ha, fun j x hx2 => ?_⟩
  have hcell := hx j x hx2
  exact (u.cell bl _ (hf bl (by rw [he, ha]; rfl)) (World.block_lt_of_cell? _ _ hcell)).trans hcell
end
theorem keepF {F : Nat} {a b : World} (h : Below F a b) {bl o : Nat} {v : Value} (k : a.cell? ⟨bl, o, none⟩ = some v) (hb : bl < F) : b.cell? ⟨bl, o, none⟩ = some v := (World.cell?_of_block (w := a) (h.block bl hb)).trans k
theorem upd_ofB {F : Nat} {a b : World} (h : Below F a b) : Upd F a.heap.size a b := ⟨h.os, h.tape, h.output, h.size, fun k hk hl => h.block k (by omega)⟩
theorem upd_belowF {F g : Nat} {w a b : World} (h : Upd g (g + 1) w a) (hb : Below F a b) (hF : w.heap.size ≤ F) : Upd g (g + 1) w b :=
  ⟨hb.os.trans h.os, hb.tape.trans h.tape, hb.output.trans h.output, Nat.le_trans h.size hb.size, fun k hk hl => (hb.block k (by omega)).trans (h.block k hk hl)⟩
theorem slice_own {w : World} {a : Option Addr} {n cap : Nat} {X : List ByteArray} (h : RdTC w (.slice a n cap) X) (r : Int) (h0 : 0 ≤ r) (hr : r ≤ X.length) {u : Value} (hs : ∀ w', (Instr.slice 29 (.slice a n cap) none (some (.int .i64 r)) none).run Tryz.prog w' = .ok u w') : ∀ k, u.ownBlock = some k → (Value.slice a n cap).ownBlock = some k := fun k hk => by
  obtain ⟨a2, c2, e2, hc⟩ := h.2
  cases e2
  have h2 := hs w
  rw [run_slice_h w _ _ _ _ elemT _ _ (by omega) (by omega), sizeT, Result.andThen_ok] at h2
  simp only [Result.ok.injEq, and_true] at h2
  rw [← h2] at hk
  unfold sliced at hk
  revert hk
  cases a with
  | none => intro hk; simp [Value.ownBlock] at hk
  | some ad =>
    intro hk
    have hb : (ad.add 0).block = ad.block := by unfold Addr.add; split <;> rfl
    by_cases hcap : cap = 0
    · simp [Value.ownBlock, hcap] at hk ⊢; exact hk
    · simp [Value.ownBlock, hcap, hb] at hk ⊢; exact hk
theorem ownT_one (w : World) (s : ByteArray) : OwnT w.heap.size (w.heap.size + 1) (w.alloc (Obj.cells #[.string s] 9)) (.slice (some ⟨w.heap.size, 0, none⟩) 1 1) [s] := by
  refine ⟨?_, fun k hk => ?_⟩
  · exact World.ownsRow_lit w #[.string s] 1 (Nat.le_refl _) (by decide) rfl
  · simp only [Value.ownBlock, Option.some.injEq] at hk
    omega
def benW : Nat → ByteArray
  | 0 => ⟨#[101, 110, 100]⟩
  | 1 => ⟨#[116, 104, 114, 111, 119]⟩
  | 2 => ⟨#[116, 104, 114, 111, 119, 32, 103]⟩
  | 3 => ⟨#[99, 104, 101, 99, 107, 32, 49, 49]⟩
  | 4 => ⟨#[112, 97, 116, 116, 101, 114, 110, 32, 52, 51, 50, 32, 49]⟩
  | 5 => ⟨#[112, 97, 116, 116, 101, 114, 110, 32, 51, 32, 50, 49]⟩
  | 6 => ⟨#[112, 97, 116, 116, 101, 114, 110, 32, 51]⟩
  | 7 => ⟨#[116, 104, 114, 111, 119, 32, 48]⟩
  | 8 => ⟨#[115, 116, 97, 114, 116, 32, 49, 49, 49]⟩
  | 9 => ⟨#[119, 97, 105, 116]⟩
  | _ => ⟨#[112, 97, 116, 116, 101, 114, 110, 32, 51, 32, 49]⟩
theorem benW_sz (i : Nat) : (benW i).size ≤ 20 := by
  match i with
  | 0 => decide
  | 1 => decide
  | 2 => decide
  | 3 => decide
  | 4 => decide
  | 5 => decide
  | 6 => decide
  | 7 => decide
  | 8 => decide
  | 9 => decide
  | n + 10 => show (⟨#[112, 97, 116, 116, 101, 114, 110, 32, 51, 32, 49]⟩ : ByteArray).size ≤ 20; decide
set_option maxHeartbeats 64000000 in
set_option maxRecDepth 100000 in
theorem c_spec_l27Bent (W0 : World) (g k : Nat) (bs : List Int) (w : World) (h : Src W0 g bs k w) (hk : k < 40000) (hT : Tab W0) :
    Calls Tryz.prog 57 #[.pointer (some ⟨g, 0, none⟩)] w fun e w' => ∃ (v : Value) (X : List ByteArray) (k' : Nat), e = .returned v ∧ RdTC w' v X ∧ (∀ s ∈ X, s.size ≤ 1006) ∧ k' ≤ k + 4000 ∧ Src W0 g bs k' w' ∧ Upd g (g + 1) w w' := by
  have hgw := h.lt
  go_enter Tryz.func57, Tryz.ntmps57
  go_wp2_with fail
  refine (c_spec_l27Draw W0 g k bs _ h (by omega) hT).mono ?_; rintro e w1 ⟨v1, X, k1, rfl, hO, hz, hX100, hk1, S1, U1⟩
  have hs1 := U1.size
  clear h
  by_cases hn0 : X.length = 0
  · obtain ⟨a1, c1, hv1, -⟩ := (OwnRow.rdtc hO).2
    rw [hn0] at hv1
    subst hv1
    have hz2 : ∀ s ∈ X, s.size ≤ 1006 := fun s hs => Nat.le_trans (hz s hs) (by decide)
    have hr := OwnRow.rdtc hO
    clear hn0
    go_wp2
    go_ret
    exact ⟨_, X, k1, rfl, hr, hz2, by omega, S1, U1⟩
  obtain ⟨b1, c1, rfl, hb1, hb2⟩ := ownT_slice hO (by omega)
  obtain ⟨n1, hn1⟩ : ∃ n, X.length = n := ⟨_, rfl⟩
  have HN1 := Lib.hid hn1
  rw [hn1] at hO hn0 ⊢
  have hn1p : 0 < n1 := by omega
  have tn0 : ((n1 : Int) == 0) = false := beq_eq_false_iff_ne.2 (by omega)
  clear hn1 hn0
  rw [HN1.out] at hX100
  go_wp2_with fail
  refine (c_spec_l00Src_pick W0 g k1 bs (n1 : Int) _ S1 (by omega) (by omega)).mono ?_; rintro e w2 ⟨xa, k2, rfl, hxa0, hxa1, -, hk2, S2, U2⟩
  have hxa := hxa1 (by omega)
  obtain ⟨A, rfl⟩ : ∃ A : Nat, xa = (A : Int) := ⟨xa.toNat, by omega⟩
  have hA : A < n1 := by omega
  have hs2 := U2.size
  replace hO := OwnRow.upd hO U2 (Or.inr (by omega))
  have U2 := U1.trans U2
  clear S1 U1 hxa1
  go_wp2_with fail
  refine (c_spec_l00Src_pick W0 g k2 bs 9 _ S2 (by omega) (by omega)).mono ?_; rintro e w3 ⟨x, k3, rfl, hx0, hx1, -, hk3, S3, U3⟩
  have hs3 := U3.size
  replace hO := OwnRow.upd hO U3 (Or.inr (by omega))
  have U3 := U2.trans U3
  clear S2 U2 hx1
  have hAX : A < X.length := by rw [HN1.out]; exact hA
  obtain ⟨_, _, he, yA⟩ := rdT_at (OwnRow.rd rowT_len hO) A hAX
  cases he
  rw [Nat.zero_add] at yA
  have hzA : X[A].size ≤ 100 := hz _ (List.getElem_mem hAX)
  obtain ⟨sA, hsA⟩ : ∃ s, X[A] = s := ⟨_, rfl⟩
  rw [hsA] at yA hzA
  have hz6 : ∀ s ∈ X, s.size ≤ 1000 := fun s hs => Nat.le_trans (hz s hs) (by decide)
  have hin0 : (0 : Int) ≤ (A : Int) := Int.natCast_nonneg _
  have hin1 : (A : Int) < (n1 : Int) := by omega
  clear hsA
  by_cases h0 : x = 0
  · subst h0
    go_wp2_with fail
    refine (c_spec_l01Spoil W0 g k3 bs sA _ S3 (by omega) (by omega)).mono ?_; rintro e w4 ⟨t', k4, rfl, ht', hk4, S4, U4⟩
    have hs4 := U4.size
    replace hO := OwnRow.upd hO U4 (Or.inr (by omega))
    have hAt := OwnRow.at rowT_len hO A 0 hAX (by decide)
    simp only [Nat.mul_one, Nat.add_zero] at hAt
    obtain ⟨⟨old, hold⟩, hfro⟩ := hAt
    have hO5 := ownT_set hO A t'
    have gz : w4.grownBy (w4.setCell ⟨b1, A, none⟩ (.string t')) (some b1) := grownBy_setCells w4 b1 [.string t'] A
    have Sq := S4.grown gz (fun n e => by simp only [Option.some.injEq] at e; omega)
    have Uq := updNew (U3.trans U4) gz (by omega)
    have hzq : ∀ s ∈ X.set A t', s.size ≤ 1000 := set_sz hz6 (by omega) A
    have hnq : (X.set A t').length = n1 := by rw [List.length_set]; exact HN1.out
    have hQ := OwnRow.rdtc hO5
    clear S3 S4 U3 U4 gz hO5 hO yA
    go_wp2_with fail
    clear hold hfro
    generalize (w4.setCell ⟨b1, A, none⟩ (.string t')) = wq at *
    obtain ⟨aq, haq⟩ : ∃ a, (some ⟨b1, 0, none⟩ : Option Addr) = a := ⟨_, rfl⟩
    have hfar : ∀ k, Value.ownBlock (.slice aq n1 c1) = some k → k < g ∨ g + 1 ≤ k := fun k e => by rw [← haq] at e; simp only [Value.ownBlock, Option.some.injEq] at e; omega
    rw [haq] at hQ ⊢
    obtain ⟨kq, hkq⟩ : ∃ kq, k4 = kq := ⟨_, rfl⟩
    have hkqb : kq ≤ k + 3100 := by omega
    rw [hkq] at Sq
    clear hkq haq
    have hwq := Uq.size
    have HQ := Lib.hid hQ
    have HNQ := Lib.hid hnq
    clear hQ hnq
    refine (c_spec_l00Src_one W0 g kq bs 30 _ Sq (by omega) (by omega)).mono ?_; rintro e wt ⟨bt, kt, rfl, hkt, St, Ut⟩
    have hst := Ut.size
    have HT := Lib.hid (rdTC_upd HQ.out Ut hfar)
    have Ut := Uq.trans Ut
    clear Sq Uq HQ
    cases bt
    · go_wp2
      go_ret
      exact ⟨_, (X.set A t'), kt, rfl, HT.out, (fun s hs => Nat.le_trans (hzq s hs) (by decide)), by omega, St, Ut⟩
    · by_cases h2 : 2 < n1
      rotate_left
      · have t2 : ¬ (2 : Int) < (n1 : Int) := by omega
        go_wp2
        go_ret
        exact ⟨_, (X.set A t'), kt, rfl, HT.out, (fun s hs => Nat.le_trans (hzq s hs) (by decide)), by omega, St, Ut⟩
      · have t2 : (2 : Int) < (n1 : Int) := by omega
        have hq0 : 0 < (X.set A t').length := by rw [HNQ.out]; omega
        obtain ⟨bl0, of0, he0, y0⟩ := rdT_at HT.out.1 0 hq0
        have y0 : wt.cell? ⟨bl0, of0, none⟩ = some (.string (X.set A t')[0]) := by simpa using y0
        have hsz0 : (X.set A t')[0].size ≤ 1000 := hzq _ (List.getElem_mem hq0)
        obtain ⟨s0, hs0⟩ : ∃ s0, (X.set A t')[0] = s0 := ⟨_, rfl⟩
        rw [hs0] at y0 hsz0
        cases he0
        have hn1 : (0 : Int) < (n1 : Int) := by omega
        have hn2 : 0 < n1 := by omega
        clear hs0
        have hy0b : bl0 < wt.heap.size := World.block_lt_of_cell? _ _ y0
        have hon := ownT_one wt s0
        have hbm : Below wt.heap.size wt (wt.alloc (Obj.cells #[.string s0] 9)) := (Below.refl _ _).al _
        go_wp2_with fail
        have y1 := keepc hbm y0
        have Sm := St.below hbm
        have Um := Ut.trans (Upd.of_below (lo := g) (hi := g + 1) hbm)
        have hsm := hbm.size
        have hgt := St.lt
        obtain ⟨F, hF⟩ : ∃ F, wt.heap.size = F := ⟨_, rfl⟩
        have hbk : bl0 ≠ g := by have := hfar bl0 rfl; omega
        rw [hF] at hon hst hy0b hgt hsm ⊢
        generalize (wt.alloc (Obj.cells #[.string s0] 9)) = wm at *
        clear y0 St Ut hbm hF HT
        refine (c_spec_l00Src_pick W0 g kt bs 2 _ Sm (by omega) (by omega)).mono ?_; rintro e wn ⟨yn, kn, rfl, hyn0, hyn1, -, hkn, Sn, Un⟩
        have hyn := hyn1 (by omega)
        have hsn := Un.size
        have hon2 : OwnT F wm.heap.size wn (.slice (some ⟨F, 0, none⟩) 1 1) [s0] := OwnRow.upd (OwnRow.tight hon) Un (Or.inr (by omega))
        have y2 := (Un.cell bl0 of0 (by omega) (World.block_lt_of_cell? _ _ y1)).trans y1
        have Un := Um.trans Un
        obtain ⟨N, hN⟩ : ∃ N : Nat, 58 + yn = (N : Int) := ⟨(58 + yn).toNat, by omega⟩
        have hw1 : IntKind.i64.wrap (60 + yn) = 60 + yn := IntWalk.i64_in _ (by omega)
        have hw2 : IntKind.i64.wrap (60 + yn - 2) = (N : Int) := by rw [show 60 + yn - 2 = (N : Int) by omega]; exact IntWalk.i64_in _ (by omega)
        have hNb : N ≤ 59 := by omega
        clear hN Sm Um y1 hyn1 hon
        go_wp2_with fail
        go_loopw [5, 6] (fun mv i wr => ∃ (j : Nat) (v : Value) (Z : List ByteArray), j ≤ N ∧ i = .int .i64 j ∧ mv = v ∧ Z.length + j = N + 1 ∧ OwnT F wr.heap.size wr v Z ∧ (∀ s ∈ Z, s.size ≤ 1006) ∧ (∃ a n c, v = .slice a n c) ∧ Below F wn wr) (fun _ i _ => (intOf i).toNat)
        case atStart => exact ⟨N, _, [s0], by omega, by go_num, rfl, by simp; omega, hon2.tight, (fun s hs => by rw [List.mem_singleton.1 hs]; omega), ⟨_, _, _, rfl⟩, Below.refl _ _⟩
        case round =>
          clear hon2
          obtain ⟨j, v, Z, hj, rfl, rfl, hZl, hoZ, hZz, ⟨av, LZ, cv, hvv⟩, BZ⟩ := hrel
          subst hvv
          obtain ⟨wo, rfl⟩ : ∃ wo : World, wo = wr := ⟨_, rfl⟩
          have hwo := BZ.size
          have y3 := keepF BZ y2 hy0b
          have hZl2 : Z.length < 1000000000 := by omega
          have hbw : bl0 < wo.heap.size := by omega
          by_cases hj0 : 0 < j
          · have hj1 : (0 : Int) < (j : Int) := by omega
            go_wp2_with fail
            refine (c_spec_l27After s0 ⟨#[115, 116, 97, 114, 116]⟩ _ (by omega) (by decide) (by decide)).mono ?_; rintro e wa ⟨t, bb, rfl, hy, hno, rfl⟩
            have htz : t.size ≤ 1000 := by
              cases bb
              · rw [(hno rfl).1]; decide
              · have := (hy rfl).2; omega
            clear hy hno
            have l1 : ¬ 9223372036854775807 < 6 + t.size := by omega
            go_wp2_with (at_builtin; refine push_row_at (row := rowT) rfl _ _ _ _ rfl Tryz.underlying29 (.string ⟨#[]⟩) 16 infoTx rfl (by decide) (by decide) rowT_len F wo.heap.size (.slice av LZ cv) Z ((⟨#[99, 104, 101, 99, 107, 32]⟩ : ByteArray) ++ t) #[.string ((⟨#[99, 104, 101, 99, 107, 32]⟩ : ByteArray) ++ t)] wo rfl (rowT_ones _) rfl rfl (by exact hoZ) hZl2 (by omega) ?_; intro v' w' ho' hbel' hs' hg' hat'; refine stop_of ?_)
            unfold Stopped
            have Bz := hbel' wn BZ
            obtain ⟨a9, c9, hv9, -⟩ := (OwnRow.rdtc ho').2
            obtain ⟨L9, hL9⟩ : ∃ L9, (Z ++ [(⟨#[99, 104, 101, 99, 107, 32]⟩ : ByteArray) ++ t]).length = L9 := ⟨_, rfl⟩
            rw [hL9] at hv9
            subst hv9
            clear hg' hat' hbel'
            go_wp2
            go_roundw
            case rel => exact ⟨j - 1, _, Z ++ [(⟨#[99, 104, 101, 99, 107, 32]⟩ : ByteArray) ++ t], by omega, by rw [show ((j - 1 : Nat) : Int) = (j : Int) - 1 by omega], rfl, by simp; omega, ho', (fun s hs => by rcases List.mem_append.1 hs with hs | hs; exact hZz s hs; rw [List.mem_singleton.1 hs, ByteArray.size_append]; show 6 + t.size ≤ 1006; omega), ⟨_, _, _, rfl⟩, Bz⟩
            case measure => (simp [intOf] <;> omega)
          · have hj1 : ¬ (0 : Int) < (j : Int) := by omega
            go_wp2_with (at_builtin; refine push_row_at (row := rowT) rfl _ _ _ _ rfl Tryz.underlying29 (.string ⟨#[]⟩) 16 infoTx rfl (by decide) (by decide) rowT_len F wo.heap.size (.slice av LZ cv) Z (⟨#[101, 110, 100]⟩ : ByteArray) #[.string (⟨#[101, 110, 100]⟩ : ByteArray)] wo rfl (rowT_ones _) rfl rfl (by exact hoZ) hZl2 (by omega) ?_; intro v' w' ho' hbel' hs' hg' hat'; refine stop_of ?_)
            unfold Stopped
            have Bz := hbel' wn BZ
            have Sz := Sn.upd (upd_ofB Bz) (by have := Sn.hg; omega) (Or.inl (by omega))
            have Uz := upd_belowF Un Bz (by omega)
            have hrz := OwnRow.rdtc ho'
            obtain ⟨a9, c9, hv9, -⟩ := (OwnRow.rdtc ho').2
            obtain ⟨L9, hL9⟩ : ∃ L9, (Z ++ [(⟨#[101, 110, 100]⟩ : ByteArray)]).length = L9 := ⟨_, rfl⟩
            rw [hL9] at hv9
            subst hv9
            clear hg' hat' hbel'
            go_wp2
            go_ret
            exact ⟨_, Z ++ [(⟨#[101, 110, 100]⟩ : ByteArray)], kn, rfl, hrz, (fun s hs => by rcases List.mem_append.1 hs with hs | hs; exact hZz s hs; rw [List.mem_singleton.1 hs]; decide), by omega, Sz, Uz⟩
  have t0 : (x == 0) = false := beq_eq_false_iff_ne.2 h0
  by_cases h1 : x = 1
  · subst h1
    obtain ⟨u1, hsl, hu1⟩ := cutT_r (OwnRow.rdtc hO) (A : Int) (by omega) (by omega)
    rw [Int.toNat_natCast] at hu1
    obtain ⟨aq, cq, huv, -⟩ := hu1.2
    have hQl : (X.take A).length = A := by rw [List.length_take]; omega
    rw [hQl] at huv
    have hob := slice_own (OwnRow.rdtc hO) (A : Int) (by omega) (by omega) hsl
    subst huv
    have hfar : ∀ k, Value.ownBlock (.slice aq A cq) = some k → k < g ∨ g + 1 ≤ k := fun k e => by have h9 := hob k e; simp only [Value.ownBlock, Option.some.injEq] at h9; omega
    clear h0 yA
    go_wp2_with fail
    have hQ := hu1
    have hnq := hQl
    have hzq : ∀ s ∈ X.take A, s.size ≤ 1000 := fun s hs => hz6 s (List.mem_of_mem_take hs)
    have Sq := S3
    have Uq := U3
    obtain ⟨kq, hkq⟩ : ∃ kq, k3 = kq := ⟨_, rfl⟩
    have hkqb : kq ≤ k + 3100 := by omega
    rw [hkq] at Sq
    clear S3 U3 hkq hu1 hQl hsl hO hob
    have hwq := Uq.size
    have HQ := Lib.hid hQ
    have HNQ := Lib.hid hnq
    clear hQ hnq
    refine (c_spec_l00Src_one W0 g kq bs 30 _ Sq (by omega) (by omega)).mono ?_; rintro e wt ⟨bt, kt, rfl, hkt, St, Ut⟩
    have hst := Ut.size
    have HT := Lib.hid (rdTC_upd HQ.out Ut hfar)
    have Ut := Uq.trans Ut
    clear Sq Uq HQ
    cases bt
    · go_wp2
      go_ret
      exact ⟨_, (X.take A), kt, rfl, HT.out, (fun s hs => Nat.le_trans (hzq s hs) (by decide)), by omega, St, Ut⟩
    · by_cases h2 : 2 < A
      rotate_left
      · have t2 : ¬ (2 : Int) < (A : Int) := by omega
        go_wp2
        go_ret
        exact ⟨_, (X.take A), kt, rfl, HT.out, (fun s hs => Nat.le_trans (hzq s hs) (by decide)), by omega, St, Ut⟩
      · have t2 : (2 : Int) < (A : Int) := by omega
        have hq0 : 0 < (X.take A).length := by rw [HNQ.out]; omega
        obtain ⟨bl0, of0, he0, y0⟩ := rdT_at HT.out.1 0 hq0
        have y0 : wt.cell? ⟨bl0, of0, none⟩ = some (.string (X.take A)[0]) := by simpa using y0
        have hsz0 : (X.take A)[0].size ≤ 1000 := hzq _ (List.getElem_mem hq0)
        obtain ⟨s0, hs0⟩ : ∃ s0, (X.take A)[0] = s0 := ⟨_, rfl⟩
        rw [hs0] at y0 hsz0
        cases he0
        have hn1 : (0 : Int) < (A : Int) := by omega
        have hn2 : 0 < A := by omega
        clear hs0
        have hy0b : bl0 < wt.heap.size := World.block_lt_of_cell? _ _ y0
        have hon := ownT_one wt s0
        have hbm : Below wt.heap.size wt (wt.alloc (Obj.cells #[.string s0] 9)) := (Below.refl _ _).al _
        go_wp2_with fail
        have y1 := keepc hbm y0
        have Sm := St.below hbm
        have Um := Ut.trans (Upd.of_below (lo := g) (hi := g + 1) hbm)
        have hsm := hbm.size
        have hgt := St.lt
        obtain ⟨F, hF⟩ : ∃ F, wt.heap.size = F := ⟨_, rfl⟩
        have hbk : bl0 ≠ g := by have := hfar bl0 rfl; omega
        rw [hF] at hon hst hy0b hgt hsm ⊢
        generalize (wt.alloc (Obj.cells #[.string s0] 9)) = wm at *
        clear y0 St Ut hbm hF HT
        refine (c_spec_l00Src_pick W0 g kt bs 2 _ Sm (by omega) (by omega)).mono ?_; rintro e wn ⟨yn, kn, rfl, hyn0, hyn1, -, hkn, Sn, Un⟩
        have hyn := hyn1 (by omega)
        have hsn := Un.size
        have hon2 : OwnT F wm.heap.size wn (.slice (some ⟨F, 0, none⟩) 1 1) [s0] := OwnRow.upd (OwnRow.tight hon) Un (Or.inr (by omega))
        have y2 := (Un.cell bl0 of0 (by omega) (World.block_lt_of_cell? _ _ y1)).trans y1
        have Un := Um.trans Un
        obtain ⟨N, hN⟩ : ∃ N : Nat, 58 + yn = (N : Int) := ⟨(58 + yn).toNat, by omega⟩
        have hw1 : IntKind.i64.wrap (60 + yn) = 60 + yn := IntWalk.i64_in _ (by omega)
        have hw2 : IntKind.i64.wrap (60 + yn - 2) = (N : Int) := by rw [show 60 + yn - 2 = (N : Int) by omega]; exact IntWalk.i64_in _ (by omega)
        have hNb : N ≤ 59 := by omega
        clear hN Sm Um y1 hyn1 hon
        go_wp2_with fail
        go_loopw [5, 6] (fun mv i wr => ∃ (j : Nat) (v : Value) (Z : List ByteArray), j ≤ N ∧ i = .int .i64 j ∧ mv = v ∧ Z.length + j = N + 1 ∧ OwnT F wr.heap.size wr v Z ∧ (∀ s ∈ Z, s.size ≤ 1006) ∧ (∃ a n c, v = .slice a n c) ∧ Below F wn wr) (fun _ i _ => (intOf i).toNat)
        case atStart => exact ⟨N, _, [s0], by omega, by go_num, rfl, by simp; omega, hon2.tight, (fun s hs => by rw [List.mem_singleton.1 hs]; omega), ⟨_, _, _, rfl⟩, Below.refl _ _⟩
        case round =>
          clear hon2
          obtain ⟨j, v, Z, hj, rfl, rfl, hZl, hoZ, hZz, ⟨av, LZ, cv, hvv⟩, BZ⟩ := hrel
          subst hvv
          obtain ⟨wo, rfl⟩ : ∃ wo : World, wo = wr := ⟨_, rfl⟩
          have hwo := BZ.size
          have y3 := keepF BZ y2 hy0b
          have hZl2 : Z.length < 1000000000 := by omega
          have hbw : bl0 < wo.heap.size := by omega
          by_cases hj0 : 0 < j
          · have hj1 : (0 : Int) < (j : Int) := by omega
            go_wp2_with fail
            refine (c_spec_l27After s0 ⟨#[115, 116, 97, 114, 116]⟩ _ (by omega) (by decide) (by decide)).mono ?_; rintro e wa ⟨t, bb, rfl, hy, hno, rfl⟩
            have htz : t.size ≤ 1000 := by
              cases bb
              · rw [(hno rfl).1]; decide
              · have := (hy rfl).2; omega
            clear hy hno
            have l1 : ¬ 9223372036854775807 < 6 + t.size := by omega
            go_wp2_with (at_builtin; refine push_row_at (row := rowT) rfl _ _ _ _ rfl Tryz.underlying29 (.string ⟨#[]⟩) 16 infoTx rfl (by decide) (by decide) rowT_len F wo.heap.size (.slice av LZ cv) Z ((⟨#[99, 104, 101, 99, 107, 32]⟩ : ByteArray) ++ t) #[.string ((⟨#[99, 104, 101, 99, 107, 32]⟩ : ByteArray) ++ t)] wo rfl (rowT_ones _) rfl rfl (by exact hoZ) hZl2 (by omega) ?_; intro v' w' ho' hbel' hs' hg' hat'; refine stop_of ?_)
            unfold Stopped
            have Bz := hbel' wn BZ
            obtain ⟨a9, c9, hv9, -⟩ := (OwnRow.rdtc ho').2
            obtain ⟨L9, hL9⟩ : ∃ L9, (Z ++ [(⟨#[99, 104, 101, 99, 107, 32]⟩ : ByteArray) ++ t]).length = L9 := ⟨_, rfl⟩
            rw [hL9] at hv9
            subst hv9
            clear hg' hat' hbel'
            go_wp2
            go_roundw
            case rel => exact ⟨j - 1, _, Z ++ [(⟨#[99, 104, 101, 99, 107, 32]⟩ : ByteArray) ++ t], by omega, by rw [show ((j - 1 : Nat) : Int) = (j : Int) - 1 by omega], rfl, by simp; omega, ho', (fun s hs => by rcases List.mem_append.1 hs with hs | hs; exact hZz s hs; rw [List.mem_singleton.1 hs, ByteArray.size_append]; show 6 + t.size ≤ 1006; omega), ⟨_, _, _, rfl⟩, Bz⟩
            case measure => (simp [intOf] <;> omega)
          · have hj1 : ¬ (0 : Int) < (j : Int) := by omega
            go_wp2_with (at_builtin; refine push_row_at (row := rowT) rfl _ _ _ _ rfl Tryz.underlying29 (.string ⟨#[]⟩) 16 infoTx rfl (by decide) (by decide) rowT_len F wo.heap.size (.slice av LZ cv) Z (⟨#[101, 110, 100]⟩ : ByteArray) #[.string (⟨#[101, 110, 100]⟩ : ByteArray)] wo rfl (rowT_ones _) rfl rfl (by exact hoZ) hZl2 (by omega) ?_; intro v' w' ho' hbel' hs' hg' hat'; refine stop_of ?_)
            unfold Stopped
            have Bz := hbel' wn BZ
            have Sz := Sn.upd (upd_ofB Bz) (by have := Sn.hg; omega) (Or.inl (by omega))
            have Uz := upd_belowF Un Bz (by omega)
            have hrz := OwnRow.rdtc ho'
            obtain ⟨a9, c9, hv9, -⟩ := (OwnRow.rdtc ho').2
            obtain ⟨L9, hL9⟩ : ∃ L9, (Z ++ [(⟨#[101, 110, 100]⟩ : ByteArray)]).length = L9 := ⟨_, rfl⟩
            rw [hL9] at hv9
            subst hv9
            clear hg' hat' hbel'
            go_wp2
            go_ret
            exact ⟨_, Z ++ [(⟨#[101, 110, 100]⟩ : ByteArray)], kn, rfl, hrz, (fun s hs => by rcases List.mem_append.1 hs with hs | hs; exact hZz s hs; rw [List.mem_singleton.1 hs]; decide), by omega, Sz, Uz⟩
  have t1 : (x == 1) = false := beq_eq_false_iff_ne.2 h1
  by_cases h2 : x = 2
  · subst h2
    have hb4 : Below w3.heap.size w3 (w3.alloc (Obj.cells #[.string ⟨#[101, 110, 100]⟩, .string ⟨#[116, 104, 114, 111, 119]⟩, .string ⟨#[116, 104, 114, 111, 119, 32, 103]⟩, .string ⟨#[99, 104, 101, 99, 107, 32, 49, 49]⟩, .string ⟨#[112, 97, 116, 116, 101, 114, 110, 32, 52, 51, 50, 32, 49]⟩, .string ⟨#[112, 97, 116, 116, 101, 114, 110, 32, 51, 32, 50, 49]⟩, .string ⟨#[112, 97, 116, 116, 101, 114, 110, 32, 51]⟩, .string ⟨#[116, 104, 114, 111, 119, 32, 48]⟩, .string ⟨#[115, 116, 97, 114, 116, 32, 49, 49, 49]⟩, .string ⟨#[119, 97, 105, 116]⟩, .string ⟨#[112, 97, 116, 116, 101, 114, 110, 32, 51, 32, 49]⟩] 9)) := (Below.refl _ _).al _
    have hc4 : Hid (∀ i, i < 11 → (w3.alloc (Obj.cells #[.string ⟨#[101, 110, 100]⟩, .string ⟨#[116, 104, 114, 111, 119]⟩, .string ⟨#[116, 104, 114, 111, 119, 32, 103]⟩, .string ⟨#[99, 104, 101, 99, 107, 32, 49, 49]⟩, .string ⟨#[112, 97, 116, 116, 101, 114, 110, 32, 52, 51, 50, 32, 49]⟩, .string ⟨#[112, 97, 116, 116, 101, 114, 110, 32, 51, 32, 50, 49]⟩, .string ⟨#[112, 97, 116, 116, 101, 114, 110, 32, 51]⟩, .string ⟨#[116, 104, 114, 111, 119, 32, 48]⟩, .string ⟨#[115, 116, 97, 114, 116, 32, 49, 49, 49]⟩, .string ⟨#[119, 97, 105, 116]⟩, .string ⟨#[112, 97, 116, 116, 101, 114, 110, 32, 51, 32, 49]⟩] 9)).cell? ⟨w3.heap.size, i, none⟩ = some (.string (benW i))) := fun i hi => by
      have : i = 0 ∨ i = 1 ∨ i = 2 ∨ i = 3 ∨ i = 4 ∨ i = 5 ∨ i = 6 ∨ i = 7 ∨ i = 8 ∨ i = 9 ∨ i = 10 := by omega
      rcases this with rfl | rfl | rfl | rfl | rfl | rfl | rfl | rfl | rfl | rfl | rfl <;> exact World.cell?_alloc_at _ _ _ _ rfl
    have S3b := S3.below hb4
    have U3b := U3.trans (Upd.of_below (lo := g) (hi := g + 1) hb4)
    have hsb := hb4.size
    have hg3 := S3.lt
    go_wp2_with fail
    refine (c_spec_l00Src_text W0 g k3 bs w3.heap.size 11 benW _ S3b (by omega) (by omega) (by omega) hc4).mono ?_; rintro e w4 ⟨iw, k4, hiw, rfl, hk4, S4, U4⟩
    have hs4 := U4.size
    replace hO := OwnRow.upd (hO.below hb4) U4 (Or.inr (by omega))
    have ht'' := benW_sz iw
    obtain ⟨t', ht'e⟩ : ∃ t, benW iw = t := ⟨_, rfl⟩
    rw [ht'e] at ht'' ⊢
    have ht' : t'.size ≤ 3 * sA.size + 1 ∨ t'.size ≤ 20 := Or.inr ht''
    have U3 := U3b
    clear hc4 hb4 S3b U3b ht'e
    have hAt := OwnRow.at rowT_len hO A 0 hAX (by decide)
    simp only [Nat.mul_one, Nat.add_zero] at hAt
    obtain ⟨⟨old, hold⟩, hfro⟩ := hAt
    have hO5 := ownT_set hO A t'
    have gz : w4.grownBy (w4.setCell ⟨b1, A, none⟩ (.string t')) (some b1) := grownBy_setCells w4 b1 [.string t'] A
    have Sq := S4.grown gz (fun n e => by simp only [Option.some.injEq] at e; omega)
    have Uq := updNew (U3.trans U4) gz (by omega)
    have hzq : ∀ s ∈ X.set A t', s.size ≤ 1000 := set_sz hz6 (by omega) A
    have hnq : (X.set A t').length = n1 := by rw [List.length_set]; exact HN1.out
    have hQ := OwnRow.rdtc hO5
    clear S3 S4 U3 U4 gz hO5 hO yA
    go_wp2_with fail
    clear hold hfro
    generalize (w4.setCell ⟨b1, A, none⟩ (.string t')) = wq at *
    obtain ⟨aq, haq⟩ : ∃ a, (some ⟨b1, 0, none⟩ : Option Addr) = a := ⟨_, rfl⟩
    have hfar : ∀ k, Value.ownBlock (.slice aq n1 c1) = some k → k < g ∨ g + 1 ≤ k := fun k e => by rw [← haq] at e; simp only [Value.ownBlock, Option.some.injEq] at e; omega
    rw [haq] at hQ ⊢
    obtain ⟨kq, hkq⟩ : ∃ kq, k4 = kq := ⟨_, rfl⟩
    have hkqb : kq ≤ k + 3100 := by omega
    rw [hkq] at Sq
    clear hkq haq
    have hwq := Uq.size
    have HQ := Lib.hid hQ
    have HNQ := Lib.hid hnq
    clear hQ hnq
    refine (c_spec_l00Src_one W0 g kq bs 30 _ Sq (by omega) (by omega)).mono ?_; rintro e wt ⟨bt, kt, rfl, hkt, St, Ut⟩
    have hst := Ut.size
    have HT := Lib.hid (rdTC_upd HQ.out Ut hfar)
    have Ut := Uq.trans Ut
    clear Sq Uq HQ
    cases bt
    · go_wp2
      go_ret
      exact ⟨_, (X.set A t'), kt, rfl, HT.out, (fun s hs => Nat.le_trans (hzq s hs) (by decide)), by omega, St, Ut⟩
    · by_cases h2 : 2 < n1
      rotate_left
      · have t2 : ¬ (2 : Int) < (n1 : Int) := by omega
        go_wp2
        go_ret
        exact ⟨_, (X.set A t'), kt, rfl, HT.out, (fun s hs => Nat.le_trans (hzq s hs) (by decide)), by omega, St, Ut⟩
      · have t2 : (2 : Int) < (n1 : Int) := by omega
        have hq0 : 0 < (X.set A t').length := by rw [HNQ.out]; omega
        obtain ⟨bl0, of0, he0, y0⟩ := rdT_at HT.out.1 0 hq0
        have y0 : wt.cell? ⟨bl0, of0, none⟩ = some (.string (X.set A t')[0]) := by simpa using y0
        have hsz0 : (X.set A t')[0].size ≤ 1000 := hzq _ (List.getElem_mem hq0)
        obtain ⟨s0, hs0⟩ : ∃ s0, (X.set A t')[0] = s0 := ⟨_, rfl⟩
        rw [hs0] at y0 hsz0
        cases he0
        have hn1 : (0 : Int) < (n1 : Int) := by omega
        have hn2 : 0 < n1 := by omega
        clear hs0
        have hy0b : bl0 < wt.heap.size := World.block_lt_of_cell? _ _ y0
        have hon := ownT_one wt s0
        have hbm : Below wt.heap.size wt (wt.alloc (Obj.cells #[.string s0] 9)) := (Below.refl _ _).al _
        go_wp2_with fail
        have y1 := keepc hbm y0
        have Sm := St.below hbm
        have Um := Ut.trans (Upd.of_below (lo := g) (hi := g + 1) hbm)
        have hsm := hbm.size
        have hgt := St.lt
        obtain ⟨F, hF⟩ : ∃ F, wt.heap.size = F := ⟨_, rfl⟩
        have hbk : bl0 ≠ g := by have := hfar bl0 rfl; omega
        rw [hF] at hon hst hy0b hgt hsm ⊢
        generalize (wt.alloc (Obj.cells #[.string s0] 9)) = wm at *
        clear y0 St Ut hbm hF HT
        refine (c_spec_l00Src_pick W0 g kt bs 2 _ Sm (by omega) (by omega)).mono ?_; rintro e wn ⟨yn, kn, rfl, hyn0, hyn1, -, hkn, Sn, Un⟩
        have hyn := hyn1 (by omega)
        have hsn := Un.size
        have hon2 : OwnT F wm.heap.size wn (.slice (some ⟨F, 0, none⟩) 1 1) [s0] := OwnRow.upd (OwnRow.tight hon) Un (Or.inr (by omega))
        have y2 := (Un.cell bl0 of0 (by omega) (World.block_lt_of_cell? _ _ y1)).trans y1
        have Un := Um.trans Un
        obtain ⟨N, hN⟩ : ∃ N : Nat, 58 + yn = (N : Int) := ⟨(58 + yn).toNat, by omega⟩
        have hw1 : IntKind.i64.wrap (60 + yn) = 60 + yn := IntWalk.i64_in _ (by omega)
        have hw2 : IntKind.i64.wrap (60 + yn - 2) = (N : Int) := by rw [show 60 + yn - 2 = (N : Int) by omega]; exact IntWalk.i64_in _ (by omega)
        have hNb : N ≤ 59 := by omega
        clear hN Sm Um y1 hyn1 hon
        go_wp2_with fail
        go_loopw [5, 6] (fun mv i wr => ∃ (j : Nat) (v : Value) (Z : List ByteArray), j ≤ N ∧ i = .int .i64 j ∧ mv = v ∧ Z.length + j = N + 1 ∧ OwnT F wr.heap.size wr v Z ∧ (∀ s ∈ Z, s.size ≤ 1006) ∧ (∃ a n c, v = .slice a n c) ∧ Below F wn wr) (fun _ i _ => (intOf i).toNat)
        case atStart => exact ⟨N, _, [s0], by omega, by go_num, rfl, by simp; omega, hon2.tight, (fun s hs => by rw [List.mem_singleton.1 hs]; omega), ⟨_, _, _, rfl⟩, Below.refl _ _⟩
        case round =>
          clear hon2
          obtain ⟨j, v, Z, hj, rfl, rfl, hZl, hoZ, hZz, ⟨av, LZ, cv, hvv⟩, BZ⟩ := hrel
          subst hvv
          obtain ⟨wo, rfl⟩ : ∃ wo : World, wo = wr := ⟨_, rfl⟩
          have hwo := BZ.size
          have y3 := keepF BZ y2 hy0b
          have hZl2 : Z.length < 1000000000 := by omega
          have hbw : bl0 < wo.heap.size := by omega
          by_cases hj0 : 0 < j
          · have hj1 : (0 : Int) < (j : Int) := by omega
            go_wp2_with fail
            refine (c_spec_l27After s0 ⟨#[115, 116, 97, 114, 116]⟩ _ (by omega) (by decide) (by decide)).mono ?_; rintro e wa ⟨t, bb, rfl, hy, hno, rfl⟩
            have htz : t.size ≤ 1000 := by
              cases bb
              · rw [(hno rfl).1]; decide
              · have := (hy rfl).2; omega
            clear hy hno
            have l1 : ¬ 9223372036854775807 < 6 + t.size := by omega
            go_wp2_with (at_builtin; refine push_row_at (row := rowT) rfl _ _ _ _ rfl Tryz.underlying29 (.string ⟨#[]⟩) 16 infoTx rfl (by decide) (by decide) rowT_len F wo.heap.size (.slice av LZ cv) Z ((⟨#[99, 104, 101, 99, 107, 32]⟩ : ByteArray) ++ t) #[.string ((⟨#[99, 104, 101, 99, 107, 32]⟩ : ByteArray) ++ t)] wo rfl (rowT_ones _) rfl rfl (by exact hoZ) hZl2 (by omega) ?_; intro v' w' ho' hbel' hs' hg' hat'; refine stop_of ?_)
            unfold Stopped
            have Bz := hbel' wn BZ
            obtain ⟨a9, c9, hv9, -⟩ := (OwnRow.rdtc ho').2
            obtain ⟨L9, hL9⟩ : ∃ L9, (Z ++ [(⟨#[99, 104, 101, 99, 107, 32]⟩ : ByteArray) ++ t]).length = L9 := ⟨_, rfl⟩
            rw [hL9] at hv9
            subst hv9
            clear hg' hat' hbel'
            go_wp2
            go_roundw
            case rel => exact ⟨j - 1, _, Z ++ [(⟨#[99, 104, 101, 99, 107, 32]⟩ : ByteArray) ++ t], by omega, by rw [show ((j - 1 : Nat) : Int) = (j : Int) - 1 by omega], rfl, by simp; omega, ho', (fun s hs => by rcases List.mem_append.1 hs with hs | hs; exact hZz s hs; rw [List.mem_singleton.1 hs, ByteArray.size_append]; show 6 + t.size ≤ 1006; omega), ⟨_, _, _, rfl⟩, Bz⟩
            case measure => (simp [intOf] <;> omega)
          · have hj1 : ¬ (0 : Int) < (j : Int) := by omega
            go_wp2_with (at_builtin; refine push_row_at (row := rowT) rfl _ _ _ _ rfl Tryz.underlying29 (.string ⟨#[]⟩) 16 infoTx rfl (by decide) (by decide) rowT_len F wo.heap.size (.slice av LZ cv) Z (⟨#[101, 110, 100]⟩ : ByteArray) #[.string (⟨#[101, 110, 100]⟩ : ByteArray)] wo rfl (rowT_ones _) rfl rfl (by exact hoZ) hZl2 (by omega) ?_; intro v' w' ho' hbel' hs' hg' hat'; refine stop_of ?_)
            unfold Stopped
            have Bz := hbel' wn BZ
            have Sz := Sn.upd (upd_ofB Bz) (by have := Sn.hg; omega) (Or.inl (by omega))
            have Uz := upd_belowF Un Bz (by omega)
            have hrz := OwnRow.rdtc ho'
            obtain ⟨a9, c9, hv9, -⟩ := (OwnRow.rdtc ho').2
            obtain ⟨L9, hL9⟩ : ∃ L9, (Z ++ [(⟨#[101, 110, 100]⟩ : ByteArray)]).length = L9 := ⟨_, rfl⟩
            rw [hL9] at hv9
            subst hv9
            clear hg' hat' hbel'
            go_wp2
            go_ret
            exact ⟨_, Z ++ [(⟨#[101, 110, 100]⟩ : ByteArray)], kn, rfl, hrz, (fun s hs => by rcases List.mem_append.1 hs with hs | hs; exact hZz s hs; rw [List.mem_singleton.1 hs]; decide), by omega, Sz, Uz⟩
  have t2 : (x == 2) = false := beq_eq_false_iff_ne.2 h2
  by_cases h3 : x = 3
  · subst h3
    have hlen2 : X.length < 1000000000 := by have := HN1.out; omega
    go_wp2_with (at_builtin; refine push_row_at (row := rowT) rfl _ _ _ _ rfl Tryz.underlying29 (.string ⟨#[]⟩) 16 infoTx rfl (by decide) (by decide) rowT_len w.heap.size w1.heap.size (.slice (some ⟨b1, 0, none⟩) n1 c1) X (⟨#[101, 110, 100]⟩ : ByteArray) #[.string (⟨#[101, 110, 100]⟩ : ByteArray)] w3 rfl (rowT_ones _) rfl rfl (by exact hO) hlen2 (by omega) ?_; intro v' w' ho' hbel' hs' hg' hat'; refine stop_of ?_)
    unfold Stopped
    have Sq := S3.grown hg' (fun n e => by simp only [Value.ownBlock, Option.some.injEq] at e; omega)
    have Uq := updFresh' U3 hg' (fun n e => by simp only [Value.ownBlock, Option.some.injEq] at e; omega)
    obtain ⟨aq, cq, huv, -⟩ := (OwnRow.rdtc ho').2
    obtain ⟨n3, hn3⟩ : ∃ n, (X ++ [(⟨#[101, 110, 100]⟩ : ByteArray)]).length = n := ⟨_, rfl⟩
    rw [hn3] at huv
    subst huv
    have hQ := OwnRow.rdtc ho'
    have hnq := hn3
    have hfar : ∀ k, Value.ownBlock (.slice aq n3 cq) = some k → k < g ∨ g + 1 ≤ k := fun k e => by have := (World.ownsRow.lt ho'.1 k e).1; omega
    have hzq : ∀ s ∈ X ++ [(⟨#[101, 110, 100]⟩ : ByteArray)], s.size ≤ 1000 := fun s hs => by
      rcases List.mem_append.1 hs with hs | hs
      · exact hz6 s hs
      · rw [List.mem_singleton.1 hs]; decide
    obtain ⟨kq, hkq⟩ : ∃ kq, k3 = kq := ⟨_, rfl⟩
    have hkqb : kq ≤ k + 3100 := by omega
    rw [hkq] at Sq
    clear S3 U3 hkq hO hn3 hg' hat' hbel' ho' yA
    go_wp2_with fail
    have hwq := Uq.size
    have HQ := Lib.hid hQ
    have HNQ := Lib.hid hnq
    clear hQ hnq
    refine (c_spec_l00Src_one W0 g kq bs 30 _ Sq (by omega) (by omega)).mono ?_; rintro e wt ⟨bt, kt, rfl, hkt, St, Ut⟩
    have hst := Ut.size
    have HT := Lib.hid (rdTC_upd HQ.out Ut hfar)
    have Ut := Uq.trans Ut
    clear Sq Uq HQ
    cases bt
    · go_wp2
      go_ret
      exact ⟨_, (X ++ [(⟨#[101, 110, 100]⟩ : ByteArray)]), kt, rfl, HT.out, (fun s hs => Nat.le_trans (hzq s hs) (by decide)), by omega, St, Ut⟩
    · by_cases h2 : 2 < n3
      rotate_left
      · have t2 : ¬ (2 : Int) < (n3 : Int) := by omega
        go_wp2
        go_ret
        exact ⟨_, (X ++ [(⟨#[101, 110, 100]⟩ : ByteArray)]), kt, rfl, HT.out, (fun s hs => Nat.le_trans (hzq s hs) (by decide)), by omega, St, Ut⟩
      · have t2 : (2 : Int) < (n3 : Int) := by omega
        have hq0 : 0 < (X ++ [(⟨#[101, 110, 100]⟩ : ByteArray)]).length := by rw [HNQ.out]; omega
        obtain ⟨bl0, of0, he0, y0⟩ := rdT_at HT.out.1 0 hq0
        have y0 : wt.cell? ⟨bl0, of0, none⟩ = some (.string (X ++ [(⟨#[101, 110, 100]⟩ : ByteArray)])[0]) := by simpa using y0
        have hsz0 : (X ++ [(⟨#[101, 110, 100]⟩ : ByteArray)])[0].size ≤ 1000 := hzq _ (List.getElem_mem hq0)
        obtain ⟨s0, hs0⟩ : ∃ s0, (X ++ [(⟨#[101, 110, 100]⟩ : ByteArray)])[0] = s0 := ⟨_, rfl⟩
        rw [hs0] at y0 hsz0
        cases he0
        have hn1 : (0 : Int) < (n3 : Int) := by omega
        have hn2 : 0 < n3 := by omega
        clear hs0
        have hy0b : bl0 < wt.heap.size := World.block_lt_of_cell? _ _ y0
        have hon := ownT_one wt s0
        have hbm : Below wt.heap.size wt (wt.alloc (Obj.cells #[.string s0] 9)) := (Below.refl _ _).al _
        go_wp2_with fail
        have y1 := keepc hbm y0
        have Sm := St.below hbm
        have Um := Ut.trans (Upd.of_below (lo := g) (hi := g + 1) hbm)
        have hsm := hbm.size
        have hgt := St.lt
        obtain ⟨F, hF⟩ : ∃ F, wt.heap.size = F := ⟨_, rfl⟩
        have hbk : bl0 ≠ g := by have := hfar bl0 rfl; omega
        rw [hF] at hon hst hy0b hgt hsm ⊢
        generalize (wt.alloc (Obj.cells #[.string s0] 9)) = wm at *
        clear y0 St Ut hbm hF HT
        refine (c_spec_l00Src_pick W0 g kt bs 2 _ Sm (by omega) (by omega)).mono ?_; rintro e wn ⟨yn, kn, rfl, hyn0, hyn1, -, hkn, Sn, Un⟩
        have hyn := hyn1 (by omega)
        have hsn := Un.size
        have hon2 : OwnT F wm.heap.size wn (.slice (some ⟨F, 0, none⟩) 1 1) [s0] := OwnRow.upd (OwnRow.tight hon) Un (Or.inr (by omega))
        have y2 := (Un.cell bl0 of0 (by omega) (World.block_lt_of_cell? _ _ y1)).trans y1
        have Un := Um.trans Un
        obtain ⟨N, hN⟩ : ∃ N : Nat, 58 + yn = (N : Int) := ⟨(58 + yn).toNat, by omega⟩
        have hw1 : IntKind.i64.wrap (60 + yn) = 60 + yn := IntWalk.i64_in _ (by omega)
        have hw2 : IntKind.i64.wrap (60 + yn - 2) = (N : Int) := by rw [show 60 + yn - 2 = (N : Int) by omega]; exact IntWalk.i64_in _ (by omega)
        have hNb : N ≤ 59 := by omega
        clear hN Sm Um y1 hyn1 hon
        go_wp2_with fail
        go_loopw [5, 6] (fun mv i wr => ∃ (j : Nat) (v : Value) (Z : List ByteArray), j ≤ N ∧ i = .int .i64 j ∧ mv = v ∧ Z.length + j = N + 1 ∧ OwnT F wr.heap.size wr v Z ∧ (∀ s ∈ Z, s.size ≤ 1006) ∧ (∃ a n c, v = .slice a n c) ∧ Below F wn wr) (fun _ i _ => (intOf i).toNat)
        case atStart => exact ⟨N, _, [s0], by omega, by go_num, rfl, by simp; omega, hon2.tight, (fun s hs => by rw [List.mem_singleton.1 hs]; omega), ⟨_, _, _, rfl⟩, Below.refl _ _⟩
        case round =>
          clear hon2
          obtain ⟨j, v, Z, hj, rfl, rfl, hZl, hoZ, hZz, ⟨av, LZ, cv, hvv⟩, BZ⟩ := hrel
          subst hvv
          obtain ⟨wo, rfl⟩ : ∃ wo : World, wo = wr := ⟨_, rfl⟩
          have hwo := BZ.size
          have y3 := keepF BZ y2 hy0b
          have hZl2 : Z.length < 1000000000 := by omega
          have hbw : bl0 < wo.heap.size := by omega
          by_cases hj0 : 0 < j
          · have hj1 : (0 : Int) < (j : Int) := by omega
            go_wp2_with fail
            refine (c_spec_l27After s0 ⟨#[115, 116, 97, 114, 116]⟩ _ (by omega) (by decide) (by decide)).mono ?_; rintro e wa ⟨t, bb, rfl, hy, hno, rfl⟩
            have htz : t.size ≤ 1000 := by
              cases bb
              · rw [(hno rfl).1]; decide
              · have := (hy rfl).2; omega
            clear hy hno
            have l1 : ¬ 9223372036854775807 < 6 + t.size := by omega
            go_wp2_with (at_builtin; refine push_row_at (row := rowT) rfl _ _ _ _ rfl Tryz.underlying29 (.string ⟨#[]⟩) 16 infoTx rfl (by decide) (by decide) rowT_len F wo.heap.size (.slice av LZ cv) Z ((⟨#[99, 104, 101, 99, 107, 32]⟩ : ByteArray) ++ t) #[.string ((⟨#[99, 104, 101, 99, 107, 32]⟩ : ByteArray) ++ t)] wo rfl (rowT_ones _) rfl rfl (by exact hoZ) hZl2 (by omega) ?_; intro v' w' ho' hbel' hs' hg' hat'; refine stop_of ?_)
            unfold Stopped
            have Bz := hbel' wn BZ
            obtain ⟨a9, c9, hv9, -⟩ := (OwnRow.rdtc ho').2
            obtain ⟨L9, hL9⟩ : ∃ L9, (Z ++ [(⟨#[99, 104, 101, 99, 107, 32]⟩ : ByteArray) ++ t]).length = L9 := ⟨_, rfl⟩
            rw [hL9] at hv9
            subst hv9
            clear hg' hat' hbel'
            go_wp2
            go_roundw
            case rel => exact ⟨j - 1, _, Z ++ [(⟨#[99, 104, 101, 99, 107, 32]⟩ : ByteArray) ++ t], by omega, by rw [show ((j - 1 : Nat) : Int) = (j : Int) - 1 by omega], rfl, by simp; omega, ho', (fun s hs => by rcases List.mem_append.1 hs with hs | hs; exact hZz s hs; rw [List.mem_singleton.1 hs, ByteArray.size_append]; show 6 + t.size ≤ 1006; omega), ⟨_, _, _, rfl⟩, Bz⟩
            case measure => (simp [intOf] <;> omega)
          · have hj1 : ¬ (0 : Int) < (j : Int) := by omega
            go_wp2_with (at_builtin; refine push_row_at (row := rowT) rfl _ _ _ _ rfl Tryz.underlying29 (.string ⟨#[]⟩) 16 infoTx rfl (by decide) (by decide) rowT_len F wo.heap.size (.slice av LZ cv) Z (⟨#[101, 110, 100]⟩ : ByteArray) #[.string (⟨#[101, 110, 100]⟩ : ByteArray)] wo rfl (rowT_ones _) rfl rfl (by exact hoZ) hZl2 (by omega) ?_; intro v' w' ho' hbel' hs' hg' hat'; refine stop_of ?_)
            unfold Stopped
            have Bz := hbel' wn BZ
            have Sz := Sn.upd (upd_ofB Bz) (by have := Sn.hg; omega) (Or.inl (by omega))
            have Uz := upd_belowF Un Bz (by omega)
            have hrz := OwnRow.rdtc ho'
            obtain ⟨a9, c9, hv9, -⟩ := (OwnRow.rdtc ho').2
            obtain ⟨L9, hL9⟩ : ∃ L9, (Z ++ [(⟨#[101, 110, 100]⟩ : ByteArray)]).length = L9 := ⟨_, rfl⟩
            rw [hL9] at hv9
            subst hv9
            clear hg' hat' hbel'
            go_wp2
            go_ret
            exact ⟨_, Z ++ [(⟨#[101, 110, 100]⟩ : ByteArray)], kn, rfl, hrz, (fun s hs => by rcases List.mem_append.1 hs with hs | hs; exact hZz s hs; rw [List.mem_singleton.1 hs]; decide), by omega, Sz, Uz⟩
  have t3 : (x == 3) = false := beq_eq_false_iff_ne.2 h3
  obtain ⟨aq, haq⟩ : ∃ a, (some ⟨b1, 0, none⟩ : Option Addr) = a := ⟨_, rfl⟩
  have hfar : ∀ k, Value.ownBlock (.slice aq n1 c1) = some k → k < g ∨ g + 1 ≤ k := fun k e => by rw [← haq] at e; simp only [Value.ownBlock, Option.some.injEq] at e; omega
  have hQ := OwnRow.rdtc hO
  rw [haq] at hQ ⊢
  have hnq := HN1.out
  have hzq := hz6
  obtain ⟨kq, hkq⟩ : ∃ kq, k3 = kq := ⟨_, rfl⟩
  have hkqb : kq ≤ k + 3100 := by omega
  rw [hkq] at S3
  have Sq := S3
  have Uq := U3
  clear S3 U3 hkq hO yA haq h0 h1 h2 h3
  go_wp2_with fail
  have hwq := Uq.size
  have HQ := Lib.hid hQ
  have HNQ := Lib.hid hnq
  clear hQ hnq
  refine (c_spec_l00Src_one W0 g kq bs 30 _ Sq (by omega) (by omega)).mono ?_; rintro e wt ⟨bt, kt, rfl, hkt, St, Ut⟩
  have hst := Ut.size
  have HT := Lib.hid (rdTC_upd HQ.out Ut hfar)
  have Ut := Uq.trans Ut
  clear Sq Uq HQ
  cases bt
  · go_wp2
    go_ret
    exact ⟨_, X, kt, rfl, HT.out, (fun s hs => Nat.le_trans (hzq s hs) (by decide)), by omega, St, Ut⟩
  · by_cases h2 : 2 < n1
    rotate_left
    · have t2 : ¬ (2 : Int) < (n1 : Int) := by omega
      go_wp2
      go_ret
      exact ⟨_, X, kt, rfl, HT.out, (fun s hs => Nat.le_trans (hzq s hs) (by decide)), by omega, St, Ut⟩
    · have t2 : (2 : Int) < (n1 : Int) := by omega
      have hq0 : 0 < X.length := by rw [HNQ.out]; omega
      obtain ⟨bl0, of0, he0, y0⟩ := rdT_at HT.out.1 0 hq0
      have y0 : wt.cell? ⟨bl0, of0, none⟩ = some (.string X[0]) := by simpa using y0
      have hsz0 : X[0].size ≤ 1000 := hzq _ (List.getElem_mem hq0)
      obtain ⟨s0, hs0⟩ : ∃ s0, X[0] = s0 := ⟨_, rfl⟩
      rw [hs0] at y0 hsz0
      cases he0
      have hn1 : (0 : Int) < (n1 : Int) := by omega
      have hn2 : 0 < n1 := by omega
      clear hs0
      have hy0b : bl0 < wt.heap.size := World.block_lt_of_cell? _ _ y0
      have hon := ownT_one wt s0
      have hbm : Below wt.heap.size wt (wt.alloc (Obj.cells #[.string s0] 9)) := (Below.refl _ _).al _
      go_wp2_with fail
      have y1 := keepc hbm y0
      have Sm := St.below hbm
      have Um := Ut.trans (Upd.of_below (lo := g) (hi := g + 1) hbm)
      have hsm := hbm.size
      have hgt := St.lt
      obtain ⟨F, hF⟩ : ∃ F, wt.heap.size = F := ⟨_, rfl⟩
      have hbk : bl0 ≠ g := by have := hfar bl0 rfl; omega
      rw [hF] at hon hst hy0b hgt hsm ⊢
      generalize (wt.alloc (Obj.cells #[.string s0] 9)) = wm at *
      clear y0 St Ut hbm hF HT
      refine (c_spec_l00Src_pick W0 g kt bs 2 _ Sm (by omega) (by omega)).mono ?_; rintro e wn ⟨yn, kn, rfl, hyn0, hyn1, -, hkn, Sn, Un⟩
      have hyn := hyn1 (by omega)
      have hsn := Un.size
      have hon2 : OwnT F wm.heap.size wn (.slice (some ⟨F, 0, none⟩) 1 1) [s0] := OwnRow.upd (OwnRow.tight hon) Un (Or.inr (by omega))
      have y2 := (Un.cell bl0 of0 (by omega) (World.block_lt_of_cell? _ _ y1)).trans y1
      have Un := Um.trans Un
      obtain ⟨N, hN⟩ : ∃ N : Nat, 58 + yn = (N : Int) := ⟨(58 + yn).toNat, by omega⟩
      have hw1 : IntKind.i64.wrap (60 + yn) = 60 + yn := IntWalk.i64_in _ (by omega)
      have hw2 : IntKind.i64.wrap (60 + yn - 2) = (N : Int) := by rw [show 60 + yn - 2 = (N : Int) by omega]; exact IntWalk.i64_in _ (by omega)
      have hNb : N ≤ 59 := by omega
      clear hN Sm Um y1 hyn1 hon
      go_wp2_with fail
      go_loopw [5, 6] (fun mv i wr => ∃ (j : Nat) (v : Value) (Z : List ByteArray), j ≤ N ∧ i = .int .i64 j ∧ mv = v ∧ Z.length + j = N + 1 ∧ OwnT F wr.heap.size wr v Z ∧ (∀ s ∈ Z, s.size ≤ 1006) ∧ (∃ a n c, v = .slice a n c) ∧ Below F wn wr) (fun _ i _ => (intOf i).toNat)
      case atStart => exact ⟨N, _, [s0], by omega, by go_num, rfl, by simp; omega, hon2.tight, (fun s hs => by rw [List.mem_singleton.1 hs]; omega), ⟨_, _, _, rfl⟩, Below.refl _ _⟩
      case round =>
        clear hon2
        obtain ⟨j, v, Z, hj, rfl, rfl, hZl, hoZ, hZz, ⟨av, LZ, cv, hvv⟩, BZ⟩ := hrel
        subst hvv
        obtain ⟨wo, rfl⟩ : ∃ wo : World, wo = wr := ⟨_, rfl⟩
        have hwo := BZ.size
        have y3 := keepF BZ y2 hy0b
        have hZl2 : Z.length < 1000000000 := by omega
        have hbw : bl0 < wo.heap.size := by omega
        by_cases hj0 : 0 < j
        · have hj1 : (0 : Int) < (j : Int) := by omega
          go_wp2_with fail
          refine (c_spec_l27After s0 ⟨#[115, 116, 97, 114, 116]⟩ _ (by omega) (by decide) (by decide)).mono ?_; rintro e wa ⟨t, bb, rfl, hy, hno, rfl⟩
          have htz : t.size ≤ 1000 := by
            cases bb
            · rw [(hno rfl).1]; decide
            · have := (hy rfl).2; omega
          clear hy hno
          have l1 : ¬ 9223372036854775807 < 6 + t.size := by omega
          go_wp2_with (at_builtin; refine push_row_at (row := rowT) rfl _ _ _ _ rfl Tryz.underlying29 (.string ⟨#[]⟩) 16 infoTx rfl (by decide) (by decide) rowT_len F wo.heap.size (.slice av LZ cv) Z ((⟨#[99, 104, 101, 99, 107, 32]⟩ : ByteArray) ++ t) #[.string ((⟨#[99, 104, 101, 99, 107, 32]⟩ : ByteArray) ++ t)] wo rfl (rowT_ones _) rfl rfl (by exact hoZ) hZl2 (by omega) ?_; intro v' w' ho' hbel' hs' hg' hat'; refine stop_of ?_)
          unfold Stopped
          have Bz := hbel' wn BZ
          obtain ⟨a9, c9, hv9, -⟩ := (OwnRow.rdtc ho').2
          obtain ⟨L9, hL9⟩ : ∃ L9, (Z ++ [(⟨#[99, 104, 101, 99, 107, 32]⟩ : ByteArray) ++ t]).length = L9 := ⟨_, rfl⟩
          rw [hL9] at hv9
          subst hv9
          clear hg' hat' hbel'
          go_wp2
          go_roundw
          case rel => exact ⟨j - 1, _, Z ++ [(⟨#[99, 104, 101, 99, 107, 32]⟩ : ByteArray) ++ t], by omega, by rw [show ((j - 1 : Nat) : Int) = (j : Int) - 1 by omega], rfl, by simp; omega, ho', (fun s hs => by rcases List.mem_append.1 hs with hs | hs; exact hZz s hs; rw [List.mem_singleton.1 hs, ByteArray.size_append]; show 6 + t.size ≤ 1006; omega), ⟨_, _, _, rfl⟩, Bz⟩
          case measure => (simp [intOf] <;> omega)
        · have hj1 : ¬ (0 : Int) < (j : Int) := by omega
          go_wp2_with (at_builtin; refine push_row_at (row := rowT) rfl _ _ _ _ rfl Tryz.underlying29 (.string ⟨#[]⟩) 16 infoTx rfl (by decide) (by decide) rowT_len F wo.heap.size (.slice av LZ cv) Z (⟨#[101, 110, 100]⟩ : ByteArray) #[.string (⟨#[101, 110, 100]⟩ : ByteArray)] wo rfl (rowT_ones _) rfl rfl (by exact hoZ) hZl2 (by omega) ?_; intro v' w' ho' hbel' hs' hg' hat'; refine stop_of ?_)
          unfold Stopped
          have Bz := hbel' wn BZ
          have Sz := Sn.upd (upd_ofB Bz) (by have := Sn.hg; omega) (Or.inl (by omega))
          have Uz := upd_belowF Un Bz (by omega)
          have hrz := OwnRow.rdtc ho'
          obtain ⟨a9, c9, hv9, -⟩ := (OwnRow.rdtc ho').2
          obtain ⟨L9, hL9⟩ : ∃ L9, (Z ++ [(⟨#[101, 110, 100]⟩ : ByteArray)]).length = L9 := ⟨_, rfl⟩
          rw [hL9] at hv9
          subst hv9
          clear hg' hat' hbel'
          go_wp2
          go_ret
          exact ⟨_, Z ++ [(⟨#[101, 110, 100]⟩ : ByteArray)], kn, rfl, hrz, (fun s hs => by rcases List.mem_append.1 hs with hs | hs; exact hZz s hs; rw [List.mem_singleton.1 hs]; decide), by omega, Sz, Uz⟩
set_option maxHeartbeats 16000000 in
set_option maxRecDepth 100000 in
theorem c_spec_DrawCheckedLines (bs : List Int) (v : Value) (w : World) (h : RdB w v bs) (hT : Tab w) :
    Calls Tryz.prog 18 #[v] w fun e w' => ∃ (u : Value) (X : List ByteArray), e = .returned u ∧ RdTC w' u X ∧ (∀ s ∈ X, s.size ≤ 1006) ∧ Below w.heap.size w w' := by
  go_enter Tryz.func18, Tryz.ntmps18
  go_wp2_with fail
  refine (c_spec_l00From bs v _ h).mono ?_; rintro e w1 ⟨rfl, S1, hb1⟩
  have hg1 := S1.lt
  go_wp2_with fail
  refine (c_spec_l00Src_one w w.heap.size 0 bs 20 _ S1 (by omega) (by omega)).mono ?_; rintro e w2 ⟨b2, k2, rfl, hk2, S2, U2⟩
  have hs2 := U2.size
  cases b2
  · go_wp2_with fail
    refine (c_spec_l27Bent w w.heap.size k2 bs _ S2 (by omega) hT).mono ?_; rintro e w3 ⟨u, X, k3, rfl, hr, hz, hk3, S3, U3⟩
    obtain ⟨au, cu, hu, -⟩ := hr.2
    obtain ⟨n, hn⟩ : ∃ n, X.length = n := ⟨_, rfl⟩
    rw [hn] at hu
    subst hu
    clear hn
    go_wp2
    go_ret
    exact ⟨_, X, rfl, hr, hz, S3.hb⟩
  · have T4 := VBox.new w2 25 (.int .i64 3) (.int .i64 7)
    have ha1 : Below w2.heap.size w2 (w2.alloc (Obj.cells #[.int .i64 3, .int .i64 7] 25)) := (Below.refl _ _).al _
    obtain ⟨w3, hw3⟩ : ∃ w3, w3 = (w2.alloc (Obj.cells #[.int .i64 3, .int .i64 7] 25)).alloc (Obj.cells #[] 2) := ⟨_, rfl⟩
    have ha2 : Below w2.heap.size w2 w3 := by rw [hw3]; exact ha1.al _
    have T3 : VBox w3 w2.heap.size (.int .i64 3) (.int .i64 7) := by rw [hw3]; exact T4.below ((Below.refl _ _).al _)
    have hO : OwnI 2 (w2.heap.size + 1) w3 (.slice (some ⟨w2.heap.size + 1, 0, none⟩) 0 0) [] := by rw [hw3]; exact OwnI.made rfl (by rw [World.size_alloc]) (by rw [World.size_alloc]; omega)
    have hs3 : w2.heap.size + 2 ≤ w3.heap.size := by rw [hw3, World.size_alloc, World.size_alloc]; omega
    go_wp2_with fail
    rw [← hw3]
    clear hw3 T4 ha1
    have S3 := S2.below ha2
    obtain ⟨G, hG⟩ : ∃ G, w2.heap.size = G := ⟨_, rfl⟩
    have hgG : w.heap.size < G := by have := S2.lt; omega
    rw [hG] at T3 hO hs3 ⊢
    clear ha2 S2 hG
    refine (c_spec_l00Src_pick w w.heap.size k2 bs 2 _ S3 (by omega) (by omega)).mono ?_; rintro e w4 ⟨y, k4, rfl, hy0, hy1, -, hk4, S4, U4⟩
    have hy := hy1 (by omega)
    have hs4 := U4.size
    replace T3 := T3.upd U4 (by omega)
    replace hO := (OwnIR.upd hO.ir U4 (Or.inr (by omega))).1
    obtain ⟨N, hN⟩ : ∃ N : Nat, 12 * (29 + y) = (N : Int) := ⟨(12 * (29 + y)).toNat, by omega⟩
    have hw1 : IntKind.i64.wrap (29 + y) = 29 + y := IntWalk.i64_in _ (by omega)
    have hw2 : IntKind.i64.wrap (12 * (29 + y)) = (N : Int) := by rw [hN]; exact IntWalk.i64_in _ (by omega)
    have hNb : N ≤ 400 := by omega
    have B4 := S4.hb
    clear hN hy1 S3 U4
    go_wp2_with fail
    go_loopw [5, 6] (fun s i wr => ∃ (j : Nat) (v : Value) (xs : List Int), j ≤ N ∧ i = .int .i64 j ∧ s = v ∧ xs.length + j = N ∧ VBox wr G (.int .i64 3) (.int .i64 7) ∧ OwnI 2 (G + 1) wr v xs ∧ (∃ a n c, v = .slice a n c) ∧ Below w.heap.size w wr) (fun _ i _ => (intOf i).toNat)
    case atStart => exact ⟨N, _, [], by omega, by go_num, rfl, by simp, T3, hO, ⟨_, _, _, rfl⟩, B4⟩
    case round =>
      clear T3 hO B4
      obtain ⟨j, v, xs, hj, rfl, rfl, hxl, T3, hO, ⟨av, LX, cv, hvv⟩, BR⟩ := hrel
      subst hvv
      obtain ⟨wo, rfl⟩ : ∃ wo : World, wo = wr := ⟨_, rfl⟩
      have hgo := T3.lt
      have hwo := BR.size
      by_cases hj0 : 0 < j
      · have hj1 : (0 : Int) < (j : Int) := by omega
        have hlen2 : xs.length < 1000000000 := by omega
        go_wp2_with (at_builtin; refine push_int_at rfl _ _ _ _ rfl Tryz.underlying26 infoI (G + 1) (.slice av LX cv) xs 3 wo rfl rfl (by exact hO) hlen2 (by omega) ?_; intro v' w' ho' hg' hat' hs'; refine stop_of ?_)
        unfold Stopped
        have hlv : ∀ n, Value.ownBlock (.slice av LX cv) = some n → G + 1 ≤ n := fun n e => OwnI.gt hO n e
        have Tz := T3.grown hg' (fun e => by have := hlv G e; omega)
        have Bz := BR.grown hg' BR.size (fun n e => by have := hlv n e; omega)
        obtain ⟨a9, c9, hv9, -⟩ := ho'.rd
        obtain ⟨L9, hL9⟩ : ∃ L9, (xs ++ [(3 : Int)]).length = L9 := ⟨_, rfl⟩
        rw [hL9] at hv9
        subst hv9
        clear hg' hat'
        go_wp2
        go_roundw
        case rel => exact ⟨j - 1, _, xs ++ [3], by omega, by rw [show ((j - 1 : Nat) : Int) = (j : Int) - 1 by omega], rfl, by simp; omega, Tz, ho', ⟨_, _, _, rfl⟩, Bz⟩
        case measure => (simp [intOf] <;> omega)
      · have hj1 : ¬ (0 : Int) < (j : Int) := by omega
        have t30 := T3.c0
        have t31 := T3.c1
        go_wp2_with fail
        refine (c_spec_LinesOf 3 7 xs _ _ (OwnI.rdc hO) (by omega)).mono ?_; rintro e wl ⟨ul, rfl, hL, hbl⟩
        have hr := OwnRow.rdtc hL
        have hz := linL_sz (h := 3) (m := 7) (by decide) xs
        obtain ⟨aL, cL, hrL, -⟩ := hr.2
        have Bl := BR.tr hbl
        obtain ⟨LL, hLL⟩ : ∃ L, linL 3 7 xs = L := ⟨_, rfl⟩
        rw [hLL] at hr hrL hz
        obtain ⟨nL, hnL⟩ : ∃ l, LL.length = l := ⟨_, rfl⟩
        rw [hnL] at hrL
        subst hrL
        clear hLL hL hnL
        go_wp2
        go_ret
        exact ⟨_, LL, rfl, hr, (fun s hs => Nat.le_trans (hz s hs) (by decide)), Bl⟩
end Go.Proofs.YtioemkdapoombaaGreatDoor
