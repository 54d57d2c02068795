/- Contracts: FramesOf. -/
import Derived.Test.YtpcaaohdlcoplaaFrM
import Derived.Test.YtpcaaohdlcoplaaMemF
namespace Go.Proofs.Ytpcaaohdlcoplaa
open Go.ChangeShapes Go.WideShapes Go.ChangeAt Go.RowKit
set_option linter.unusedVariables false
set_option linter.unusedSimpArgs false
def fsOk (f s n : Int) : Prop := inB s 1 100 = true ∧ inB n 0 40 = true ∧ ¬ (0 < n ∧ 3000 < f + (n - 1) * s)
instance (f s n : Int) : Decidable (fsOk f s n) := by unfold fsOk; infer_instance
def fsN (p : List Int) (B D x f s : Int) (k : Nat) : List Fr := (List.range k).map (fun i : Nat => ((f + (i : Int) * s, dotsF p B D x (f + (i : Int) * s)) : Fr))
def fsC (p : List Int) (B D x f s n : Int) : Int := if frCode p B D x f ≠ 0 then frCode p B D x f else if fsOk f s n then 0 else 2
def fsL (p : List Int) (B D x f s n : Int) : List Fr := if frCode p B D x f ≠ 0 then [] else if fsOk f s n then fsN p B D x f s n.toNat else []
theorem fsN_len (p : List Int) (B D x f s : Int) (k : Nat) : (fsN p B D x f s k).length = k := by simp [fsN]
theorem fsN_succ (p : List Int) (B D x f s : Int) (k : Nat) : fsN p B D x f s (k + 1) = fsN p B D x f s k ++ [(f + (k : Int) * s, dotsF p B D x (f + (k : Int) * s))] := by simp [fsN, List.range_succ]
theorem fs_mul {n s : Int} (hn : 0 ≤ n ∧ n ≤ 40) (hs : 1 ≤ s ∧ s ≤ 100) : -100 ≤ (n - 1) * s ∧ (n - 1) * s ≤ 3900 := by
  have h1 : (n - 1) * s ≤ 39 * s := Int.mul_le_mul_of_nonneg_right (by omega) (by omega)
  have h2 : (-1) * s ≤ (n - 1) * s := Int.mul_le_mul_of_nonneg_right (by omega) (by omega)
  omega
theorem fs_mulk {n s : Int} {k : Nat} (hs : 1 ≤ s ∧ s ≤ 100) (hk : (k : Int) < n) (hn : n ≤ 40) : 0 ≤ (k : Int) * s ∧ (k : Int) * s ≤ (n - 1) * s ∧ (k : Int) * s ≤ 4000 := by
  have h1 : (k : Int) * s ≤ (n - 1) * s := Int.mul_le_mul_of_nonneg_right (by omega) (by omega)
  have h2 : (k : Int) * s ≤ 39 * s := Int.mul_le_mul_of_nonneg_right (by omega) (by omega)
  have h3 := Int.mul_nonneg (show 0 ≤ (k : Int) by omega) (show 0 ≤ s by omega)
  exact ⟨h3, h1, by omega⟩
theorem infoFr : (Try.prog.info? 64).map (fun i => (i.zero, i.size, i.bytes)) = some (some (.agg #[.int .i64 0, .slice none 0 0]), 2, 32) := by kernel_rfl
set_option maxHeartbeats 8000000 in
set_option maxRecDepth 100000 in
theorem c_impl_FramesOf (p : List Int) (B D x f s n : Int) (v : Value) (w : World) (hr : RdI w v p) (hs0 : -9223372036854775808 ≤ s ∧ s ≤ 9223372036854775807) (hn0 : -9223372036854775808 ≤ n ∧ n ≤ 9223372036854775807) :
    Calls Try.prog 43 #[v, .agg #[.int .i64 B, .int .i64 D], .int .i64 x, .int .i64 f, .int .i64 s, .int .i64 n] w fun e w' => ∃ u, e = .returned (.tuple #[u, .int .i64 (fsC p B D x f s n)]) ∧ OwnF w.heap.size w'.heap.size w' u (fsL p B D x f s n) ∧ Below w.heap.size w w' := by
  obtain ⟨W0, hW0, k0, k1, B0⟩ := oneState w 58 B D
  have HR : Hid (RdI W0 v p) := Lib.hid (hr.below B0)
  clear hr
  by_cases hL : frCode p B D x f = 0
  · obtain ⟨hv, hvt, hx, ht⟩ := frCode_ok hL
    obtain ⟨hB, hD⟩ := validT_bd hvt
    have hD2 : 1 ≤ D ∧ D ≤ 60 := by omega
    have HV := Lib.hid hv
    have HL := Lib.hid hL
    clear hv hvt
    by_cases hok : fsOk f s n
    · have eC : fsC p B D x f s n = 0 := by unfold fsC; rw [if_neg (by simp [hL]), if_pos hok]
      have eL : fsL p B D x f s n = fsN p B D x f s n.toNat := by unfold fsL; rw [if_neg (by simp [hL]), if_pos hok]
      rw [eC, eL]
      obtain ⟨h1, h2, h3⟩ := hok
      have hsb := inB_iff.1 h1
      have hnb := inB_iff.1 h2
      obtain ⟨N, rfl⟩ : ∃ N : Nat, n = (N : Int) := ⟨n.toNat, by omega⟩
      rw [show ((N : Int)).toNat = N by omega]
      have hM := fs_mul hnb hsb
      have HMK := Lib.hid (fun (k : Nat) (hk : (k : Int) < (N : Int)) => fs_mulk (n := (N : Int)) hsb hk (by omega))
      obtain ⟨E, HE⟩ : ∃ E, Hid (((N : Int) - 1) * s = E) := ⟨_, Lib.hid rfl⟩
      rw [HE.out] at hM h3 HMK
      have hwE : IntKind.i64.wrap (((N : Int) - 1) * s) = E := by rw [HE.out]; exact IntWalk.i64_in _ (by omega)
      have hwT : IntKind.i64.wrap (f + E) = f + E := IntWalk.i64_in _ (by omega)
      have HFS := Lib.hid (fsN_succ p B D x f s)
      have HFL := Lib.hid (fsN_len p B D x f s)
      clear eC eL hL
      go_enter Try.func43, Try.ntmps43
      go_wp2_with fail
      rw [← hW0]
      clear hW0
      refine (c_impl_frameCode p B D x f _ _ HR.out).mono ?_; rintro e w2 ⟨rfl, hb2⟩; rw [HL.out]
      go_wp2_with fail
      refine (c_impl_between s 1 100 _).mono ?_; rintro e w3 ⟨rfl, rfl⟩; rw [h1]
      go_wp2_with fail
      refine (c_impl_between (N : Int) 0 40 _).mono ?_; rintro e w3 ⟨rfl, rfl⟩; rw [h2]
      have k0 := keepc hb2 k0
      have k1 := keepc hb2 k1
      have B2 := B0.tr hb2
      by_cases hN : N = 0
      · subst hN
        have t0 : decide ((0 : Int) < ((0 : Nat) : Int)) = false := by decide
        go_wp2
        refine wp_loop_rounds 1 ?_
        rw [rounds_succ]
        go_wp2
        go_ret2
        exact ⟨_, rfl, ((OwnF.made (w := w2) rfl (Nat.le_refl _)).tight).wide (by have := B2.size; omega) (Nat.le_refl _), B2.al _⟩
      · have t0 : decide ((0 : Int) < (N : Int)) = true := by simp; omega
        have t1 : decide ((3000 : Int) < f + E) = false := by simp; omega
        go_wp2
        go_loopw [15, 48] (fun out i wr => ∃ k : Nat, k ≤ N ∧ i = .int .i64 k ∧ (∃ ad m cap, out = .slice (some ad) m cap) ∧ OwnF w2.heap.size wr.heap.size wr out (fsN p B D x f s k) ∧ Below w2.heap.size w2 wr) (fun _ i _ => N - (intOf i).toNat)
        case atStart => exact ⟨0, by omega, by go_num, ⟨_, _, _, rfl⟩, by first | exact (OwnF.made rfl (Nat.le_refl _)).tight | exact OwnF.tight (hi := w2.heap.size + 1) (OwnF.made rfl (Nat.le_refl _)), (Below.refl _ _).al _⟩
        case round =>
          obtain ⟨k, hk, rfl, ⟨ad, m, cap, rfl⟩, hout, BR⟩ := hrel
          have hszr := BR.size
          have k0 := keepc BR k0
          have k1 := keepc BR k1
          by_cases hlt : k < N
          · obtain ⟨m1, m2, m3⟩ := HMK.out k (by omega)
            obtain ⟨M, HM⟩ : ∃ M, Hid ((k : Int) * s = M) := ⟨_, Lib.hid rfl⟩
            rw [HM.out] at m1 m2 m3
            have hwM : IntKind.i64.wrap ((k : Int) * s) = M := by rw [HM.out]; exact IntWalk.i64_in _ (by omega)
            have hwF : IntKind.i64.wrap (f + M) = f + M := IntWalk.i64_in _ (by omega)
            have hft : 0 ≤ f + M ∧ f + M ≤ 3000 := by omega
            have HFk := Lib.hid (HFS.out k)
            have HLk := Lib.hid (HFL.out k)
            rw [HM.out] at HFk
            go_wp2_with fail
            refine (c_impl_frameO p B D x (f + M) _ _ (HR.out.below (hb2.tr BR)) HV.out hB hD2 hx hft).mono ?_; rintro e w5 ⟨u, rfl, hu, hb5⟩
            obtain ⟨au, cu, rfl⟩ := own_sl hu
            have hs5 := hb5.size
            go_wp2_with (at_builtin; refine push_f rfl _ _ _ rfl Try.underlying75 _ _ infoFr rfl (by decide) w2.heap.size wr.heap.size (.slice (some ad) m cap) (fsN p B D x f s k) (f + M) (.slice au (dotsF p B D x (f + M)).length cu) (dotsF p B D x (f + M)) w5 rfl rfl (by exact hout.below hb5) (by exact hu) rfl hszr (by rw [HLk.out]; omega) (Nat.le_trans hszr hs5) ?_; intro v6 w6 ho6 hbel6 hsz6 hsome6)
            go_roundw
            case rel => exact ⟨k + 1, by omega, by go_num, hsome6, by rw [HFk.out]; exact ho6, hbel6 _ (BR.tr hb5)⟩
            case measure => simp [intOf]; omega
          · obtain rfl : k = N := by omega
            go_wp2
            go_ret2
            exact ⟨_, rfl, hout.wide (by have := B2.size; omega) (Nat.le_refl _), B2.tr BR⟩
    · have eC : fsC p B D x f s n = 2 := by unfold fsC; rw [if_neg (by simp [hL]), if_neg hok]
      have eL : fsL p B D x f s n = [] := by unfold fsL; rw [if_neg (by simp [hL]), if_neg hok]
      rw [eC, eL]
      clear eC eL hL
      cases h1 : inB s 1 100
      · go_enter Try.func43, Try.ntmps43
        go_wp2_with fail
        rw [← hW0]
        clear hW0
        refine (c_impl_frameCode p B D x f _ _ HR.out).mono ?_; rintro e w2 ⟨rfl, hb2⟩; rw [HL.out]
        go_wp2_with fail
        refine (c_impl_between s 1 100 _).mono ?_; rintro e w3 ⟨rfl, rfl⟩; rw [h1]
        go_wp2
        go_ret2
        exact ⟨_, rfl, OwnF.nil _, by first | exact B0.tr hb2 | exact (B0.tr hb2).drew⟩
      · cases h2 : inB n 0 40
        · go_enter Try.func43, Try.ntmps43
          go_wp2_with fail
          rw [← hW0]
          clear hW0
          refine (c_impl_frameCode p B D x f _ _ HR.out).mono ?_; rintro e w2 ⟨rfl, hb2⟩; rw [HL.out]
          go_wp2_with fail
          refine (c_impl_between s 1 100 _).mono ?_; rintro e w3 ⟨rfl, rfl⟩; rw [h1]
          go_wp2_with fail
          refine (c_impl_between n 0 40 _).mono ?_; rintro e w3 ⟨rfl, rfl⟩; rw [h2]
          go_wp2
          go_ret2
          exact ⟨_, rfl, OwnF.nil _, by first | exact B0.tr hb2 | exact (B0.tr hb2).drew⟩
        · have h3 : 0 < n ∧ 3000 < f + (n - 1) * s := by
            by_cases h : 0 < n ∧ 3000 < f + (n - 1) * s
            · exact h
            · exact absurd ⟨h1, h2, h⟩ hok
          have hsb := inB_iff.1 h1
          have hnb := inB_iff.1 h2
          have hM := fs_mul hnb hsb
          obtain ⟨E, HE⟩ : ∃ E, Hid ((n - 1) * s = E) := ⟨_, Lib.hid rfl⟩
          rw [HE.out] at hM h3
          have hwE : IntKind.i64.wrap ((n - 1) * s) = E := by rw [HE.out]; exact IntWalk.i64_in _ (by omega)
          have hwT : IntKind.i64.wrap (f + E) = f + E := IntWalk.i64_in _ (by omega)
          have t0 : decide ((0 : Int) < n) = true := by simp; omega
          have t1 : decide ((3000 : Int) < f + E) = true := by simp; omega
          clear hok
          go_enter Try.func43, Try.ntmps43
          go_wp2_with fail
          rw [← hW0]
          clear hW0
          refine (c_impl_frameCode p B D x f _ _ HR.out).mono ?_; rintro e w2 ⟨rfl, hb2⟩; rw [HL.out]
          go_wp2_with fail
          refine (c_impl_between s 1 100 _).mono ?_; rintro e w3 ⟨rfl, rfl⟩; rw [h1]
          go_wp2_with fail
          refine (c_impl_between n 0 40 _).mono ?_; rintro e w3 ⟨rfl, rfl⟩; rw [h2]
          go_wp2
          go_ret2
          exact ⟨_, rfl, OwnF.nil _, by first | exact B0.tr hb2 | exact (B0.tr hb2).drew⟩
  · have eC : fsC p B D x f s n = frCode p B D x f := by unfold fsC; rw [if_pos hL]
    have eL : fsL p B D x f s n = [] := by unfold fsL; rw [if_pos hL]
    rw [eC, eL]
    clear eC eL
    have t0 : (frCode p B D x f != 0) = true := by simpa using hL
    obtain ⟨L, HL⟩ : ∃ L, Hid (frCode p B D x f = L) := ⟨_, Lib.hid rfl⟩
    rw [HL.out] at t0 ⊢
    clear hL
    go_enter Try.func43, Try.ntmps43
    go_wp2_with fail
    rw [← hW0]
    clear hW0
    refine (c_impl_frameCode p B D x f _ _ HR.out).mono ?_; rintro e w2 ⟨rfl, hb2⟩; rw [HL.out]
    go_wp2
    go_ret2
    exact ⟨_, rfl, OwnF.nil _, by first | exact B0.tr hb2 | exact (B0.tr hb2).drew⟩
end Go.Proofs.Ytpcaaohdlcoplaa
