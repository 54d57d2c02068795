/- Walks: EventsOf of the program. -/
import Derived.Test.YtgcmnpimkfmccaaDoorEvM
import Derived.Test.YtgcmnpimkfmccaaDoorArgsF
namespace Go.Proofs.YtgcmnpimkfmccaaDoor
open Go.ChangeShapes Go.WideShapes Go.ChangeAt Go.RowKit Go.Sort
set_option linter.unusedSimpArgs false
set_option linter.unusedVariables false
theorem evL_none {p : List Int} {B D f t : Int} {b : Nat} (h : atP p b = 0) : Hid (evL p B D f t (b + 1) = evL p B D f t b) := by
  unfold Hid; rw [evL]
  have : evB p B D f t b = [] := by unfold evB; rw [h]; rfl
  rw [this, List.append_nil]
theorem evL_some {p : List Int} {B D f t T O : Int} {b : Nat} (h : atP p b ≠ 0) (hT : (b : Int) * B = T) (hO : ordA p b = O) :
    Hid (evL p B D f t (b + 1) = (evL p B D f t b ++ (bif inB T f t then [⟨T, true, (b : Int) % 2, O⟩] else [])) ++ (bif inB (T - D) f t then [⟨T - D, false, (b : Int) % 2, O⟩] else [])) := by
  unfold Hid; rw [evL]
  have : evB p B D f t b = (bif inB T f t then [⟨T, true, (b : Int) % 2, O⟩] else []) ++ (bif inB (T - D) f t then [⟨T - D, false, (b : Int) % 2, O⟩] else []) := by
    unfold evB inB
    rw [beq_eq_false_iff_ne.2 h, cond_false, hT, hO]
  rw [this, List.append_assoc]
theorem evB_len (p : List Int) (B D f t : Int) (b : Nat) : (evB p B D f t b).length ≤ 2 := by
  unfold evB
  cases (atP p b == 0)
  · rw [cond_false, List.length_append]
    cases decide (f ≤ (b : Int) * B ∧ (b : Int) * B ≤ t) <;> cases decide (f ≤ (b : Int) * B - D ∧ (b : Int) * B - D ≤ t) <;> simp
  · simp
theorem evL_len (p : List Int) (B D f t : Int) : ∀ n, (evL p B D f t n).length ≤ 2 * n
  | 0 => by simp [evL]
  | n + 1 => by have h1 := evL_len p B D f t n; have h2 := evB_len p B D f t n; simp only [evL, List.length_append]; omega
def evC (p : List Int) (B D f t : Int) : Int := if frCode p B D 0 f ≠ 0 then frCode p B D 0 f else if inB t f (min (f + 400) 3000) = false then 2 else 0
def evP (p : List Int) (B D f t : Int) : List Ev := if frCode p B D 0 f ≠ 0 then [] else if inB t f (min (f + 400) 3000) = false then [] else evS p B D f t (t / B + 4).toNat
theorem ev_c1 {p : List Int} {B D f : Int} (t : Int) (h : frCode p B D 0 f ≠ 0) : Hid (evC p B D f t = frCode p B D 0 f) ∧ Hid (evP p B D f t = []) := ⟨by unfold Hid evC; rw [if_pos h], by unfold Hid evP; rw [if_pos h]⟩
theorem ev_c2 {p : List Int} {B D f t : Int} (h : frCode p B D 0 f = 0) (h2 : inB t f (min (f + 400) 3000) = false) : Hid (evC p B D f t = 2) ∧ Hid (evP p B D f t = []) := ⟨by unfold Hid evC; rw [if_neg (by simp [h]), if_pos h2], by unfold Hid evP; rw [if_neg (by simp [h]), if_pos h2]⟩
theorem ev_c3 {p : List Int} {B D f t : Int} {N : Nat} (h : frCode p B D 0 f = 0) (h2 : inB t f (min (f + 400) 3000) = true) (hN : t / B + 4 = (N : Int)) : Hid (evC p B D f t = 0) ∧ Hid (evP p B D f t = evS p B D f t N) := ⟨by unfold Hid evC; rw [if_neg (by simp [h]), if_neg (by simp [h2])], by unfold Hid evP; rw [if_neg (by simp [h]), if_neg (by simp [h2]), hN]; rfl⟩
theorem below_upd {lo : Nat} {w a b : World} {D : Nat → Prop} (h : Below lo w a) (u : UpdS D a b) (hD : ∀ k, k < a.heap.size → D k → lo ≤ k) (hl : lo ≤ a.heap.size) : Below lo w b :=
  ⟨u.os.trans h.os, u.tape.trans h.tape, u.output.trans h.output, Nat.le_trans h.size u.size, fun k hk => (u.block k (Nat.lt_of_lt_of_le hk hl) (fun d => by have := hD k (Nat.lt_of_lt_of_le hk hl) d; omega)).trans (h.block k hk)⟩
set_option maxHeartbeats 8000000 in
set_option maxRecDepth 100000 in
theorem c_impl_EventsOf (p : List Int) (B D f t : Int) (v : Value) (w : World) (hr : RdI w v p) :
    Calls Tryd.prog 8 #[v, .agg #[.int .i64 B, .int .i64 D], .int .i64 f, .int .i64 t] w fun e w' => ∃ u, e = .returned (.tuple #[u, .int .i64 (evC p B D f t)]) ∧ EvAt w.heap.size w' u (evP p B D f t) ∧ Below w.heap.size w w' := by
  have HR := Lib.hid hr
  clear hr
  by_cases hL : frCode p B D 0 f = 0
  · obtain ⟨hv, hvt, hx, ht⟩ := frCode_ok hL
    have HL := Lib.hid hL
    have HV := Lib.hid hv
    clear hL hv
    obtain ⟨W0, hW0⟩ : ∃ W0, W0 = w.alloc (Obj.cells #[Value.int IntKind.i64 B, Value.int IntKind.i64 D] 26) := ⟨_, rfl⟩
    have k0 : W0.cell? ⟨w.heap.size, 0, none⟩ = some (.int .i64 B) := by rw [hW0]; exact World.cell?_alloc_at _ _ _ _ rfl
    have k1 : W0.cell? ⟨w.heap.size, 1, none⟩ = some (.int .i64 D) := by rw [hW0]; exact World.cell?_alloc_at _ _ _ _ rfl
    have B0 : Below w.heap.size w W0 := by rw [hW0]; exact (Below.refl _ _).al _
    obtain ⟨hB, hD⟩ := validT_bd hvt
    go_enter Tryd.func8, Tryd.ntmps8
    go_wp2_with fail
    rw [← hW0]
    clear hW0
    refine (c_impl_frameCode p B D 0 f _ _ (HR.out.below B0)).mono ?_; rintro e w2 ⟨rfl, hb2⟩; rw [HL.out]
    have k0 := keepc hb2 k0
    have k1 := keepc hb2 k1
    have B2 := B0.tr hb2
    go_wp2_with fail
    refine (c_impl_between t f (min (f + 400) 3000) _).mono ?_; rintro e w3 ⟨rfl, rfl⟩
    cases hin : inB t f (min (f + 400) 3000)
    · obtain ⟨HC, HP⟩ := ev_c2 HL.out hin
      go_wp2
      exact bodyPost_ret (v := .tuple #[.slice none 0 0, .int .i64 2]) (by simp [results, Tryd.results8, go_sem]) rfl ⟨_, by rw [HC.out], Or.inl ⟨rfl, HP.out⟩, B2⟩
    · have hin1 := inB_iff.1 hin
      have hin' := hin
      have hB0 : B ≠ 0 := by omega
      have hB1 : (B == 0) = false := by simpa using hB0
      have hdiv1 : 0 ≤ t / B := Int.ediv_nonneg (by omega) (by omega)
      have hdiv2 : t / B ≤ 1500 := by
        have : t / B < 1501 := Int.ediv_lt_of_lt_mul (by omega) (by omega)
        omega
      obtain ⟨N, hN⟩ : ∃ N : Nat, t / B + 4 = (N : Int) := ⟨(t / B + 4).toNat, by omega⟩
      have hNb : N ≤ 1504 := by omega
      have HN := Lib.hid hN
      have hwN : wrap64 (t / B + 4) = (N : Int) := by rw [hN]; unfold wrap64; omega
      clear hdiv1 hdiv2 hN
      obtain ⟨W3, hW3⟩ : ∃ W3, W3 = (w2.alloc (Obj.cells #[] 36)).alloc (Obj.cells #[Value.slice (some ⟨w2.heap.size, 0, none⟩) 0 0] 32) := ⟨_, rfl⟩
      have B3 : Below w.heap.size w W3 := by rw [hW3]; exact (B2.al _).al _
      have b23 : Below w2.heap.size w2 W3 := by rw [hW3]; exact ((Below.refl _ _).al _).al _
      have k0' := k0
      have k0 := keepc b23 k0
      have k1 := keepc b23 k1
      have ho0 : W3.cell? ⟨w2.heap.size + 1, 0, none⟩ = some (.slice (some ⟨w2.heap.size, 0, none⟩) 0 0) := by rw [hW3, show w2.heap.size + 1 = (w2.alloc (Obj.cells #[] 36)).heap.size by simp]; exact World.cell?_alloc_at _ _ _ _ rfl
      have hf0 : W3.frozen? ⟨w2.heap.size + 1, 0, none⟩ = false := by rw [hW3, show w2.heap.size + 1 = (w2.alloc (Obj.cells #[] 36)).heap.size by simp]; exact World.frozen?_alloc_at _ _ _ _ rfl
      have how : OwnRow 36 4 rowE w2.heap.size W3.heap.size W3 (.slice (some ⟨w2.heap.size, 0, none⟩) 0 0) [] := by
        rw [hW3]
        exact ((OwnRow.made (lo := w2.heap.size) rfl rfl (Nat.le_refl _)).al _).tight
      rw [hW3] at k0 k1
      go_wp2_with fail
      rw [← hW3] at k0 k1 ⊢
      have hs3 : W3.heap.size = w2.heap.size + 2 := by rw [hW3]; simp
      clear hW3
      (try rw [hwN])
      refine (c_impl_propsAt p N _ _ (HR.out.below B3) HV.out (by omega)).mono ?_; rintro e w4 ⟨u4, rfl, hu4, hb4⟩
      have hs4 := hb4.size
      have M4 : EvM w4 w2.heap.size (w2.heap.size + 1) w4 (.slice (some ⟨w2.heap.size, 0, none⟩) 0 0) [] := ⟨keepc hb4 ho0, frozenc hb4 ho0 hf0, (how.below hb4).wide (Nat.le_refl _) hb4.size, fun k hk => by cases hk; exact Or.inl rfl, UpdS.refl _ _⟩
      have k0'' := keepc hb4 k0
      have k1'' := keepc hb4 k1
      have B4 := B3.tr hb4
      have hlt4 := World.ownsRow.lt hu4
      obtain ⟨au, cu, rfl, hul, huc⟩ := hu4.rd
      have HUC : Hid (∀ b, b < N → ∃ bu ou, au = some ⟨bu, ou, none⟩ ∧ W3.heap.size ≤ bu ∧ w4.cell? ⟨bu, ou + b, none⟩ = some (.int .i64 (ordA p b))) := fun b hb => by
        obtain ⟨bu, ou, hau, hc⟩ := huc b (by rw [ordL_len]; exact hb)
        refine ⟨bu, ou, hau, ?_, by rw [← ordL_get p hb]; exact hc⟩
        subst hau
        exact (hlt4 bu rfl).1
      obtain ⟨LL, HLL⟩ : ∃ LL, Hid ((ordL p N).length = LL) := ⟨_, Lib.hid rfl⟩
      have hLL : LL = N := by rw [← HLL.out]; exact ordL_len _ _
      rw [show (ordL p N).length = LL from HLL.out]
      subst hLL
      obtain ⟨g0, hg0⟩ : ∃ g0, w2.heap.size = g0 := ⟨_, rfl⟩
      obtain ⟨bo, hbo⟩ : ∃ bo, w2.heap.size + 1 = bo := ⟨_, rfl⟩
      have hb1 : g0 + 1 = bo := by omega
      have hb2' : bo + 1 = W3.heap.size := by omega
      have hwg : w.heap.size < g0 := by rw [← hg0]; exact World.block_lt_of_cell? _ _ k0'
      rw [hbo, hg0] at M4
      (try rw [hbo])
      clear hul huc HLL hlt4 hu4 how ho0 hf0 hwN hg0 hbo hs3 hb2 hB0 hB1 hin
      go_wp2_with fail
      go_loopw [40] (fun i wr => ∃ (b : Nat) (a : Option Addr) (n c : Nat), b ≤ LL ∧ i = .int .i64 b ∧ EvM w4 g0 bo wr (.slice a n c) (evL p B D f t b)) (fun i _ => LL - (intOf i).toNat)
      case atStart => exact ⟨0, _, _, _, Nat.zero_le _, rfl, M4⟩
      case round =>
        clear M4
        obtain ⟨b, ao, no, co, hb, rfl, M⟩ := hrel
        have k0 : wr.cell? ⟨w.heap.size, 0, none⟩ = some (.int .i64 B) := M.upd.cell k0'' (by omega)
        have k1 : wr.cell? ⟨w.heap.size, 1, none⟩ = some (.int .i64 D) := M.upd.cell k1'' (by omega)
        by_cases hlt : b < LL
        · obtain ⟨bu, ou, rfl, hbu, hx0⟩ := HUC.out b hlt
          have hx1 : wr.cell? ⟨bu, ou + b, none⟩ = some (.int .i64 (ordA p b)) := M.upd.cell hx0 (by omega)
          by_cases ha : atP p b = 0
          · rw [ord_none ha] at hx1
            have HE := evL_none (B := B) (D := D) (f := f) (t := t) ha
            clear ha
            go_wp2
            exact ⟨⟨b + 1, _, _, _, hlt, by go_num, by rw [HE.out]; exact M⟩, by simp [intOf]; omega⟩
          · have hob := ord_lt HV.out ha
            obtain ⟨O, hO⟩ : ∃ O, Hid (ordA p b = O) := ⟨_, Lib.hid rfl⟩
            rw [hO.out] at hx1 hob
            have hO0 : ¬ O < 0 := by omega
            obtain ⟨T, HT⟩ : ∃ T, Hid ((b : Int) * B = T) := ⟨_, Lib.hid rfl⟩
            have hTb := bt_bd (b := (b : Int)) (B := B) (M := 1504) (by omega) hB
            rw [HT.out] at hTb
            have hwT : IntKind.i64.wrap ((b : Int) * B) = T := by rw [HT.out]; exact IntWalk.i64_in _ (by omega)
            have HE := evL_some (D := D) (f := f) (t := t) ha HT.out hO.out
            clear ha
            go_wp2_with fail
            go_region_held3 (fun w' => w'.cell? ⟨w.heap.size, 0, none⟩ = some (.int .i64 B))
              (go_keep)
              (((go_at_call 19; refine (c_impl_HandOf b _ (by omega)).mono ?_; rintro e w5 ⟨rfl, rfl⟩)))
            go_wp2_with fail
            refine (c_impl_between T f t _).mono ?_; rintro e w5 ⟨rfl, rfl⟩
            have MD : EvM w4 g0 bo wr.drew (.slice ao no co) (evL p B D f t b) := M.below ((Below.refl _ _).dr)
            obtain ⟨wd, hwd⟩ : ∃ wd, wr.drew = wd := ⟨_, rfl⟩
            rw [hwd] at MD ⊢
            clear hwd M k0 k1 hx1
            have k0 : wd.cell? ⟨w.heap.size, 0, none⟩ = some (.int .i64 B) := MD.upd.cell k0'' (by omega)
            have k1 : wd.cell? ⟨w.heap.size, 1, none⟩ = some (.int .i64 D) := MD.upd.cell k1'' (by omega)
            have hLb := evL_len p B D f t b
            cases hi1 : inB T f t
            · rw [hi1, cond_false, List.append_nil] at HE
              have hll : (evL p B D f t b).length < 1000000000 := by omega
              go_wp2_with fail
              refine (c_impl_between (T - D) f t _).mono ?_; rintro e w7 ⟨rfl, rfl⟩
              cases hi2 : inB (T - D) f t
              · rw [hi2, cond_false, List.append_nil] at HE
                have HE2 := Lib.hid HE.out
                clear HE
                go_wp2
                exact ⟨⟨b + 1, _, _, _, hlt, by go_num, by rw [show evL p B D f t (b + 1) = _ from HE2.out]; exact MD⟩, by simp [intOf]; omega⟩
              · rw [hi2, cond_true] at HE
                obtain ⟨L2, HL2⟩ : ∃ L2, Hid (evL p B D f t b ++ [⟨T - D, false, (b : Int) % 2, O⟩] = L2) := ⟨_, Lib.hid rfl⟩
                have HE2 := Lib.hid (HE.out.trans HL2.out)
                clear HE
                have cb := MD.cb
                have fb := MD.fb
                go_wp2_with (at_builtin; refine push_row_at (row := rowE) rfl _ _ _ _ rfl Tryd.underlying32 _ _ infoE rfl (by decide) (by decide) rowE_len g0 _ _ (evL p B D f t b) ⟨T - D, false, (b : Int) % 2, O⟩ #[.int .i64 (T - D), .bool false, .int .i64 ((b : Int) % 2), .int .i64 O] wd rfl (rowE_one _) rfl rfl (by exact MD.own) (by omega) (by have := MD.upd.size; omega) ?_; intro v8 w8 hown8 hbel8 hs8 hg8 hat8; rw [HL2.out] at hown8; obtain ⟨cb8, fb8, M8⟩ := MD.next (by omega) (by omega) hown8 hg8 hat8; obtain ⟨a8, c8, rfl, -, -⟩ := OwnRow.rd rowE_len hown8)
                exact ⟨⟨b + 1, _, _, _, hlt, by go_num, by rw [show evL p B D f t (b + 1) = _ from HE2.out]; exact M8⟩, by simp [intOf]; omega⟩
            · rw [hi1, cond_true] at HE
              obtain ⟨L1, HL1⟩ : ∃ L1, Hid (evL p B D f t b ++ [⟨T, true, (b : Int) % 2, O⟩] = L1) := ⟨_, Lib.hid rfl⟩
              have hl1 : L1.length < 1000000000 := by rw [← HL1.out, List.length_append, List.length_singleton]; omega
              rw [HL1.out] at HE
              have cb := MD.cb
              have fb := MD.fb
              go_wp2_with (at_builtin; refine push_row_at (row := rowE) rfl _ _ _ _ rfl Tryd.underlying32 _ _ infoE rfl (by decide) (by decide) rowE_len g0 _ _ (evL p B D f t b) ⟨T, true, (b : Int) % 2, O⟩ #[.int .i64 T, .bool true, .int .i64 ((b : Int) % 2), .int .i64 O] wd rfl (rowE_one _) rfl rfl (by exact MD.own) (by omega) (by have := MD.upd.size; omega) ?_; intro v6 w6 hown6 hbel6 hs6 hg6 hat6; rw [HL1.out] at hown6; obtain ⟨cb6, fb6, MZ⟩ := MD.next (by omega) (by omega) hown6 hg6 hat6; obtain ⟨a6, c6, rfl, -, -⟩ := OwnRow.rd rowE_len hown6; have kz1 := MZ.upd.cell k1'' (by omega))
              obtain ⟨wz, hwz⟩ : ∃ wz, w6.setCell ⟨bo, 0, none⟩ (.slice a6 L1.length c6) = wz := ⟨_, rfl⟩
              rw [hwz] at MZ kz1 ⊢
              clear hwz cb6 fb6 hown6 cb fb hbel6 hs6 hg6 hat6 MD k0 k1
              refine (c_impl_between (T - D) f t _).mono ?_; rintro e w7 ⟨rfl, rfl⟩
              cases hi2 : inB (T - D) f t
              · rw [hi2, cond_false, List.append_nil] at HE
                have HE2 := Lib.hid HE.out
                clear HE
                go_wp2
                exact ⟨⟨b + 1, _, _, _, hlt, by go_num, by rw [show evL p B D f t (b + 1) = _ from HE2.out]; exact MZ⟩, by simp [intOf]; omega⟩
              · rw [hi2, cond_true] at HE
                obtain ⟨L2, HL2⟩ : ∃ L2, Hid (L1 ++ [⟨T - D, false, (b : Int) % 2, O⟩] = L2) := ⟨_, Lib.hid rfl⟩
                have HE2 := Lib.hid (HE.out.trans HL2.out)
                clear HE
                have cb := MZ.cb
                have fb := MZ.fb
                go_wp2_with (at_builtin; refine push_row_at (row := rowE) rfl _ _ _ _ rfl Tryd.underlying32 _ _ infoE rfl (by decide) (by decide) rowE_len g0 _ _ (L1) ⟨T - D, false, (b : Int) % 2, O⟩ #[.int .i64 (T - D), .bool false, .int .i64 ((b : Int) % 2), .int .i64 O] wz rfl (rowE_one _) rfl rfl (by exact MZ.own) (by omega) (by have := MZ.upd.size; omega) ?_; intro v8 w8 hown8 hbel8 hs8 hg8 hat8; rw [HL2.out] at hown8; obtain ⟨cb8, fb8, M8⟩ := MZ.next (by omega) (by omega) hown8 hg8 hat8; obtain ⟨a8, c8, rfl, -, -⟩ := OwnRow.rd rowE_len hown8)
                exact ⟨⟨b + 1, _, _, _, hlt, by go_num, by rw [show evL p B D f t (b + 1) = _ from HE2.out]; exact M8⟩, by simp [intOf]; omega⟩
        · have hbe : b = LL := by omega
          subst hbe
          have hwz : w.heap.size ≤ w4.heap.size := by omega
          have BR : Below w.heap.size w wr := below_upd B4 M.upd (fun k _ hk => by rcases hk with rfl | rfl <;> omega) hwz
          have hLb := evL_len p B D f t b
          obtain ⟨LS, HLS⟩ : ∃ LS, Hid (evL p B D f t b = LS) := ⟨_, Lib.hid rfl⟩
          rw [HLS.out] at M hLb
          obtain ⟨g, hg⟩ : ∃ g, no = LS.length ∧ ((ao = none ∧ co = 0 ∧ LS.length = 0) ∨ ao = some ⟨g, 0, none⟩) ∧ HoE wr g LS.toArray ∧ g < wr.heap.size ∧ g ≠ bo ∧ w.heap.size ≤ g := by
            have hs4r := M.upd.size
            rcases M.own.1.2 with ⟨hnil, hn⟩ | ⟨g, cap, cur, hve, -, -, -, -, -, -⟩
            · cases hnil
              have : LS = [] := List.eq_nil_of_length_eq_zero hn
              subst this
              exact ⟨g0, rfl, Or.inl ⟨rfl, rfl, rfl⟩, fun j hj => absurd hj (by simp [flatK]), by omega, by omega, by omega⟩
            · have hof := M.off g (by rw [hve]; rfl)
              have hlo := World.ownsRow.lt M.own.1 g (by rw [hve]; rfl)
              have hx := M.own
              cases hve
              exact ⟨g, rfl, Or.inr rfl, ownrow_hoE hx, hlo.2, by omega, by omega⟩
          obtain ⟨hno, hpg, hHo, hgs, hgb, hgw⟩ := hg
          subst hno
          have cb := M.cb
          have hls : LessE Tryd.prog 21 #[.pointer (some ⟨bo, 0, none⟩)] wr g LS.length := fun W d U hH hd i j hi hj => by
            have hao : ao = some ⟨g, 0, none⟩ := by
              rcases hpg with ⟨-, -, h⟩ | h
              · omega
              · exact h
            subst hao
            exact c_less g bo LS.length co i j d W (U.cell cb (fun e => hgb e.symm)) hH hd (by omega) hi hj
          have hst := c_SliceStable 21 g LS.length co #[.pointer (some ⟨bo, 0, none⟩)] ao (enters_of Tryd.func21 (by kernel_rfl) rfl) LS.toArray wr (hpg.imp (fun h => h.2.2) id) hls (by omega) (by simp) hHo hgs
          obtain ⟨HC, HP⟩ := ev_c3 HL.out hin' HN.out
          have HLS' := HLS
          clear hls hHo k0 k1 M HLS
          go_wp2_with fail
          refine hst.mono ?_; rintro e w9 ⟨rfl, d9, hH9, U9, hp9, hs9⟩
          have cb9 := U9.cell cb (fun e => hgb e.symm)
          have B9 : Below w.heap.size w w9 := below_upd BR U9 (fun k _ hk => by have hk' : k = g := hk; omega) BR.size
          have HPM : Hid (d9.toList = evS p B D f t b) := by
            have hperm := perm_of_in (d := LS.toArray) (n := LS.length) (by simp) hp9
            have hsz : d9.size = LS.length := by have := hp9.1; simpa using this
            refine ev_same (by omega) ?_ (by rw [hsz]; exact hs9)
            rw [HLS'.out]; simpa using hperm
          have HE : Hid (EvAt w.heap.size w9 (.slice ao LS.length co) (evS p B D f t b)) := by
            have hsz : d9.size = LS.length := by have := hp9.1; simpa using this
            have hlen : (evS p B D f t b).length = LS.length := by rw [← HPM.out, Array.length_toList, hsz]
            rcases hpg with ⟨h1, h2, h3⟩ | h
            · left
              rw [h1, h2, h3]
              exact ⟨rfl, List.eq_nil_of_length_eq_zero (by omega)⟩
            · right
              refine ⟨g, co, by rw [h, hlen], hgw, Nat.lt_of_lt_of_le hgs U9.size, ?_⟩
              rw [← HPM.out]
              exact hH9
          clear hst hH9 U9 hp9 hs9
          go_wp2
          exact bodyPost_ret (v := .tuple #[.slice ao LS.length co, .int .i64 0]) (by simp [results, Tryd.results8, go_sem]) rfl ⟨_, by rw [HC.out], by rw [HP.out]; exact HE.out, B9⟩
  · obtain ⟨HC, HP⟩ := ev_c1 t hL
    obtain ⟨C, HCC⟩ : ∃ C, Hid (frCode p B D 0 f = C) := ⟨_, Lib.hid rfl⟩
    rw [HCC.out] at hL HC
    obtain ⟨W0, hW0⟩ : ∃ W0, W0 = w.alloc (Obj.cells #[Value.int IntKind.i64 B, Value.int IntKind.i64 D] 26) := ⟨_, rfl⟩
    have B0 : Below w.heap.size w W0 := by rw [hW0]; exact (Below.refl _ _).al _
    go_enter Tryd.func8, Tryd.ntmps8
    go_wp2_with fail
    rw [← hW0]
    clear hW0
    refine (c_impl_frameCode p B D 0 f _ _ (HR.out.below B0)).mono ?_; rintro e w2 ⟨rfl, hb2⟩; rw [HCC.out]
    have tC : (C != 0) = true := by simpa using hL
    go_wp2
    exact bodyPost_ret (v := .tuple #[.slice none 0 0, .int .i64 C]) (by simp [results, Tryd.results8, go_sem]) rfl ⟨_, by rw [HC.out], Or.inl ⟨rfl, HP.out⟩, B0.tr hb2⟩
end Go.Proofs.YtgcmnpimkfmccaaDoor
