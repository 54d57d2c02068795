/- Contracts of FollowGroups. -/
import Derived.Test.YtjjghmmpfnlpaaaTab5
import Derived.Test.YtjjghmmpfnlpaaaTrans
namespace Go.Proofs.Ytjjghmmpfnlpaaa
open Go.ChangeShapes Go.WideShapes Go.ChangeAt Go.RowKit
set_option linter.unusedVariables false
set_option linter.unusedSimpArgs false
def hitG (D : Nat → Nat → Int) (i : Nat) (g : List Int) : Bool := D (g.getD 0 0).toNat i == 0
def fK (D : Nat → Nat → Int) (i : Nat) (G : List (List Int)) : Nat := G.findIdx (hitG D i)
def fgrp (D : Nat → Nat → Int) (G : List (List Int)) (i : Nat) : List (List Int) :=
  if fK D i G < G.length then G.set (fK D i G) (G.getD (fK D i G) [] ++ [(i : Int)]) else G ++ [[(i : Int)]]
def grpTo (D : Nat → Nat → Int) : Nat → List (List Int)
  | 0 => []
  | n + 1 => fgrp D (grpTo D n) n
theorem grpTo_succ (D : Nat → Nat → Int) (n : Nat) : grpTo D (n + 1) = fgrp D (grpTo D n) n := rfl
theorem fK_le (D : Nat → Nat → Int) (i : Nat) (G : List (List Int)) : fK D i G ≤ G.length := List.findIdx_le_length
theorem fK_yes {D : Nat → Nat → Int} {i : Nat} {G : List (List Int)} {k : Nat} (hk : k < G.length) (h1 : k ≤ fK D i G) (h : hitG D i (G.getD k []) = true) : fK D i G = k := by
  rcases Nat.lt_or_ge k (fK D i G) with h2 | h2
  · have h3 := List.not_of_lt_findIdx (p := hitG D i) (xs := G) h2
    have e : G.getD k [] = G[k] := by simp [List.getD, hk]
    rw [e] at h
    rw [h] at h3
    simp at h3
  · omega
theorem fK_no {D : Nat → Nat → Int} {i : Nat} {G : List (List Int)} {k : Nat} (hk : k < G.length) (h1 : k ≤ fK D i G) (h : hitG D i (G.getD k []) = false) : k + 1 ≤ fK D i G := by
  rcases Nat.lt_or_ge k (fK D i G) with h2 | h2
  · exact h2
  · have e0 : fK D i G = k := by omega
    have h3 := List.findIdx_getElem (p := hitG D i) (xs := G) (w := by show fK D i G < _; omega)
    have e : G.getD k [] = G[k] := by simp [List.getD, hk]
    rw [e] at h
    have h4 : hitG D i G[k] = true := by
      have : G.findIdx (hitG D i) = k := e0
      simpa [this] using h3
    rw [h] at h4
    cases h4
theorem sumLen_set (x : Int) : ∀ (G : List (List Int)) (k : Nat), k < G.length → sumLen (G.set k (G.getD k [] ++ [x])) = sumLen G + 1
  | [], _, h => by simp at h
  | g :: G, 0, _ => by
    simp [sumLen]
    omega
  | g :: G, k + 1, h => by
    have h1 := sumLen_set x G k (by simpa using h)
    unfold sumLen at h1 ⊢
    simp only [List.set_cons_succ, List.map_cons, List.sum_cons, List.getD_cons_succ] at h1 ⊢
    omega
def grpI (G : List (List Int)) (n : Nat) : Prop :=
  G.length ≤ n ∧ sumLen G ≤ n ∧ ∀ k, k < G.length → 0 < (G.getD k []).length ∧ (∃ a : Nat, (G.getD k []).getD 0 0 = (a : Int) ∧ a < n)
theorem grp_inv {D : Nat → Nat → Int} {G : List (List Int)} {n : Nat} (h : grpI G n) : grpI (fgrp D G n) (n + 1) := by
  obtain ⟨h1, h2, h3⟩ := h
  unfold fgrp
  by_cases hk : fK D n G < G.length
  · rw [if_pos hk]
    generalize fK D n G = k at *
    refine ⟨by rw [List.length_set]; omega, by rw [sumLen_set _ _ _ hk]; omega, fun j hj => ?_⟩
    rw [List.length_set] at hj
    obtain ⟨p1, a, p2, p3⟩ := h3 j hj
    by_cases hjk : j = k
    · subst hjk
      have e : (G.set j (G.getD j [] ++ [(n : Int)])).getD j [] = G.getD j [] ++ [(n : Int)] := by simp [List.getD, hk]
      rw [e]
      refine ⟨by simp, a, ?_, by omega⟩
      rw [List.getD_eq_getElem?_getD, List.getElem?_append_left p1, ← List.getD_eq_getElem?_getD]
      exact p2
    · have e : (G.set k (G.getD k [] ++ [(n : Int)])).getD j [] = G.getD j [] := by simp [List.getD, Ne.symm hjk]
      rw [e]
      exact ⟨p1, a, p2, by omega⟩
  · rw [if_neg hk]
    refine ⟨by simp; omega, by rw [sumLen_push]; simp; omega, fun j hj => ?_⟩
    rw [List.length_append, List.length_singleton] at hj
    by_cases hjk : j < G.length
    · have e : (G ++ [[(n : Int)]]).getD j [] = G.getD j [] := by rw [List.getD_eq_getElem?_getD, List.getElem?_append_left hjk, ← List.getD_eq_getElem?_getD]
      rw [e]
      obtain ⟨p1, a, p2, p3⟩ := h3 j hjk
      exact ⟨p1, a, p2, by omega⟩
    · obtain rfl : j = G.length := by omega
      have e : (G ++ [[(n : Int)]]).getD G.length [] = [(n : Int)] := by simp [List.getD]
      rw [e]
      exact ⟨by simp, n, rfl, by omega⟩
theorem grpTo_inv (D : Nat → Nat → Int) : ∀ n, grpI (grpTo D n) n
  | 0 => ⟨by simp [grpTo], by simp [grpTo, sumLen], fun k hk => by simp [grpTo] at hk⟩
  | n + 1 => grp_inv (grpTo_inv D n)
noncomputable def fgL (X : List (List Int)) (h : Int) : List (List Int) := if tabC X h = 0 then grpTo (tabD X h) X.length else []
theorem fgL_len (X : List (List Int)) (h : Int) : (fgL X h).length + sumLen (fgL X h) ≤ 1000000 := by
  unfold fgL
  by_cases hc : tabC X h = 0
  · rw [if_pos hc]
    have h8 := (tab_ok hc).2.1
    obtain ⟨h1, h2, _⟩ := grpTo_inv (tabD X h) X.length
    omega
  · rw [if_neg hc]
    simp [sumLen]
theorem OwnI.sl {E : TypeId} {B : Nat} {w : World} {v : Value} {xs : List Int} (h : OwnI E B w v xs) : ∃ a n c, v = .slice a n c := by
  obtain ⟨a, c, hv, _⟩ := h.rd
  exact ⟨a, _, c, hv⟩
def atF (K j : Nat) : Int := if K < j then (K : Int) else -1
set_option maxHeartbeats 4000000 in
set_option maxRecDepth 100000 in
theorem c_impl_FollowGroups (X : List (List Int)) (h : Int) (v : Value) (w : World) (hr : RdG w v X) :
    Calls Try.prog 24 #[v, .int .i64 h] w fun e w' => ∃ r, e = .returned (.tuple #[r, .int .i64 (tabC X h)]) ∧ OwnGT w.heap.size w'.heap.size w' r (fgL X h) ∧ Below w.heap.size w w' := by
  have HR := Lib.hid hr
  obtain ⟨ax, capx, rfl, -, -⟩ := hr
  cases hc : (tabC X h != 0)
  · have hc0 : tabC X h = 0 := by simpa using hc
    have HX : Hid (fgL X h = grpTo (tabD X h) X.length) := by unfold Hid fgL; rw [if_pos hc0]
    have HC := Lib.hid hc0
    have hl8 := (tab_ok hc0).2.1
    have HGI := Lib.hid (grpTo_inv (tabD X h))
    have HGS := Lib.hid (grpTo_succ (tabD X h))
    clear hc0
    go_enter Try.func24, Try.ntmps24
    go_wp2_with fail
    refine (c_impl_tableCode X h _ _ HR.out).mono ?_; rintro e w1 ⟨rfl, hb1⟩
    go_wp2_with fail
    refine (c_impl_table X h _ _ (HR.out.below hb1) HC.out).mono ?_; rintro e w2 ⟨u2, rfl, ho2, hb2⟩
    obtain ⟨a2, cap2, rfl, hc2⟩ := tab_rd ho2.rd
    have HC2 := Lib.hid hc2
    have B2 := hb1.tr hb2
    have hs2 := B2.size
    clear hc2 ho2
    generalize tabD X h = D at *
    go_wp2
    go_loopw [8, 25] (fun out i wr => ∃ k : Nat, k ≤ X.length ∧ i = .int .i64 k ∧ OwnGT w2.heap.size wr.heap.size wr out (grpTo D k) ∧ Below w2.heap.size w2 wr) (fun _ i _ => X.length - (intOf i).toNat)
    case atStart => exact ⟨0, by omega, rfl, (OwnG.made rfl (Nat.le_refl _)).tight, by (repeat (first | (with_reducible assumption) | (with_reducible exact Below.refl _ _) | (with_reducible refine Below.setCell ?_ (by first | (simp; done) | (simp; omega)) _) | (with_reducible refine Below.al ?_ _) | (with_reducible refine Below.dr ?_) | (with_reducible refine Below.drN ?_ _) | (with_reducible refine Below.tr ?_ (by with_reducible assumption))))⟩
    case round =>
      obtain ⟨k, hk, rfl, hG, hbr⟩ := hrel
      have hbs := hbr.size
      by_cases hlt : k < X.length
      · have HI := Lib.hid (HGI.out k)
        have HS := Lib.hid (HGS.out k)
        have hk0 : (0 : Int) ≤ (k : Int) := Int.natCast_nonneg _
        have hk1 : (k : Int) < (X.length : Int) := by omega
        generalize grpTo D k = G at *
        have hGl := HI.out.1
        have hKle := fK_le D k G
        have HKY := Lib.hid (fun j hj h1 h2 => fK_yes (D := D) (i := k) (G := G) (k := j) hj h1 h2)
        have HKN := Lib.hid (fun j hj h1 h2 => fK_no (D := D) (i := k) (G := G) (k := j) hj h1 h2)
        have HHD : Hid (∀ g, hitG D k g = (D (g.getD 0 0).toNat k == 0)) := fun _ => rfl
        have HGD : Hid (∀ K, fK D k G = K → fgrp D G k = if K < G.length then G.set K (G.getD K [] ++ [(k : Int)]) else G ++ [[(k : Int)]]) := fun K hK => by subst hK; rfl
        obtain ⟨K, HK⟩ : ∃ K, Hid (fK D k G = K) := ⟨_, rfl⟩
        rw [HK.out] at hKle HKY HKN
        have HGD := Lib.hid (HGD.out K HK.out)
        clear HK
        have hGr := hG.rd
        obtain ⟨ag, cg, rfl, -, -⟩ := hGr
        obtain ⟨wo, rfl⟩ : ∃ wo : World, wo = wr := ⟨_, rfl⟩
        go_wp2
        go_loopw [10, 30] (fun x i wr => ∃ j : Nat, j ≤ G.length ∧ i = .int .i64 j ∧ x = .int .i64 (atF K j) ∧ wo = wr) (fun _ i _ => G.length - (intOf i).toNat)
        case atStart => exact ⟨0, by omega, rfl, rfl, by trivial⟩
        case round =>
          obtain ⟨j, hj, rfl, rfl, rfl⟩ := hrel
          by_cases hjl : j < G.length
          · obtain ⟨g, n', cap', he, hn', -, -, -, -, -⟩ := hG.shape (fun e => by rw [e] at hjl; simp at hjl)
            cases he
            obtain ⟨u, hu, huf, hur, hug, -⟩ := hG.get j hjl
            obtain ⟨hpos, a, ha0, han⟩ := HI.out.2.2 j hjl
            have HHj := Lib.hid (HHD.out (G.getD j []))
            have HYj := Lib.hid (HKY.out j hjl)
            have HNj := Lib.hid (HKN.out j hjl)
            generalize G.getD j [] = gr at *
            rcases hur.1.shape with ⟨h0, h0'⟩ | ⟨g', cap2', rfl, _, _, _, _, hcell, _⟩
            · rw [h0'] at hpos; simp at hpos
            · have hc0 := hcell 0 hpos
              rw [ha0] at hc0
              rw [ha0, Int.toNat_natCast] at HHj
              obtain ⟨bt, ot, bi, oi, ci, rfl, hx, hrow⟩ := HC2.out a (by omega)
              have y1 := keepc hbr hx
              have z1 := keepc hbr (hrow k hlt)
              have ha1 : (0 : Int) ≤ (a : Int) := Int.natCast_nonneg _
              have ha2 : (a : Int) < (X.length : Int) := by omega
              have hg1 : (0 : Int) < (gr.length : Int) := by omega
              clear hx hrow hcell hn'
              obtain ⟨d, Hd⟩ : ∃ d, Hid (D a k = d) := ⟨_, rfl⟩
              rw [Hd.out] at z1 HHj
              by_cases hKj : K < j
              · have HA : Hid (atF K j = (K : Int)) := if_pos hKj
                have HA2 : Hid (atF K (j + 1) = (K : Int)) := if_pos (by omega)
                rw [HA.out]
                have hng : ¬ ((K : Int) < 0) := by omega
                go_wp2
                go_roundw
                case rel => exact ⟨j + 1, by omega, by go_num, by rw [HA2.out], by trivial⟩
                case measure => simp [intOf]; omega
              · have HA : Hid (atF K j = -1) := if_neg hKj
                rw [HA.out]
                by_cases hd : d = 0
                · have hKe : K = j := HYj.out (by omega) (by rw [HHj.out, hd]; rfl)
                  have HA2 : Hid (atF K (j + 1) = (j : Int)) := by unfold Hid atF; rw [if_pos (by omega), hKe]
                  have hd1 : (d == 0) = true := by simp [hd]
                  clear hd
                  go_wp2
                  go_roundw
                  case rel => exact ⟨j + 1, by omega, by go_num, by rw [HA2.out], by trivial⟩
                  case measure => simp [intOf]; omega
                · have hd1 : (d == 0) = false := by simp [hd]
                  have hKe : j + 1 ≤ K := HNj.out (by omega) (by rw [HHj.out, hd1])
                  have HA2 : Hid (atF K (j + 1) = -1) := by unfold Hid atF; rw [if_neg (by omega)]
                  go_wp2
                  go_roundw
                  case rel => exact ⟨j + 1, by omega, by go_num, by rw [HA2.out], by trivial⟩
                  case measure => simp [intOf]; omega
          · obtain rfl : j = G.length := by omega
            by_cases hKl : K < G.length
            · have HA : Hid (atF K G.length = (K : Int)) := if_pos hKl
              rw [if_pos hKl] at HGD
              rw [HA.out]
              have hng : ¬ ((K : Int) < 0) := by omega
              obtain ⟨g, n', cap', he, hn', -, -, hg0, -, -⟩ := hG.shape (fun e => by rw [e] at hKl; simp at hKl)
              cases he
              obtain ⟨u, hu, huf, hur, hug, hback⟩ := hG.get K hKl
              have hk0' : (0 : Int) ≤ (K : Int) := Int.natCast_nonneg _
              have hk1' : (K : Int) < (G.length : Int) := by omega
              have hll : (G.getD K []).length < 1000000000 := by
                have h1 := sumLen_at G K hKl
                have h2 := HI.out.2.1
                omega
              have hlo := World.ownsRow.lt hur.1
              have hurr := hur.rd
              generalize G.getD K [] = gr at *
              obtain ⟨au, cu, rfl, -, -⟩ := hurr
              clear hn'
              go_wp2_with (at_builtin; refine push_int_at rfl _ _ _ _ rfl Try.underlying28 infoI w2.heap.size _ _ _ wo rfl rfl (by exact hur.1) hll (by omega) ?_; intro v7 w7 ho7 hg7 hat7 hs7; have g0 := grown_c hg7 hu hug; have gf := grown_f hg7 hu huf hug; obtain ⟨a7, n7, c7, hv7⟩ := OwnI.sl ho7; subst hv7)
              have hd := hback w7 _ _ ho7 hg7 (hat7.imp id (fun e => ⟨_, e, Nat.le_succ _⟩)) hg0
              rw [← HGD.out, ← HS.out] at hd
              go_roundw
              case rel => exact ⟨k + 1, by omega, by go_num, hd.tight, (hbr.grown hg7 hbs (fun q hq => (hlo q hq).1)).setCell hg0 _⟩
              case measure => simp [intOf]; omega
            · have HA : Hid (atF K G.length = -1) := if_neg hKl
              rw [if_neg hKl] at HGD
              rw [HA.out]
              have hll : G.length < 1000000000 := by omega
              have hnew : OwnI 2 w2.heap.size (wo.alloc (Obj.cells #[Value.int IntKind.i64 (k : Int)] 2)) (.slice (some ⟨wo.heap.size, 0, none⟩) 1 1) [(k : Int)] := World.ownsRow_lit (w := wo) #[Value.int IntKind.i64 (k : Int)] 1 (by omega) (by decide) rfl
              have hGa := hG.al (Obj.cells #[Value.int IntKind.i64 (k : Int)] 2)
              go_wp2_with (at_builtin; refine push_g rfl _ _ _ rfl Try.underlying43 infoG1 _ _ (.slice (some ⟨wo.heap.size, 0, none⟩) 1 1) [(k : Int)] (wo.alloc (Obj.cells #[Value.int IntKind.i64 (k : Int)] 2)) rfl (by rw [World.size_alloc]; rfl) (by exact hGa) (by exact hnew) (fun b hb => by simp only [Value.ownBlock, Option.some.injEq] at hb; omega) rfl hll (by rw [World.size_alloc]; omega) ?_; intro v' w9 hG9 hg9 hat9 hs9)
              rw [← HGD.out, ← HS.out] at hG9
              go_roundw
              case rel => exact ⟨k + 1, by omega, by go_num, hG9, (hbr.al _).grown hg9 (hbr.al _).size (fun q hq => (OwnG.lt hG q hq).1)⟩
              case measure => simp [intOf]; omega
      · obtain rfl : k = X.length := by omega
        rw [← HX.out] at hG
        go_wp2
        go_ret2
        exact ⟨_, by rw [HC.out]; rfl, hG.wide hs2 (Nat.le_refl _), B2.tr hbr⟩
  · have hc0 : ¬ tabC X h = 0 := by simpa using hc
    have HX : Hid (fgL X h = []) := by unfold Hid fgL; rw [if_neg hc0]
    clear hc0
    go_enter Try.func24, Try.ntmps24
    go_wp2_with fail
    refine (c_impl_tableCode X h _ _ HR.out).mono ?_; rintro e w1 ⟨rfl, hb1⟩
    go_wp2
    go_ret2
    exact ⟨_, rfl, by rw [HX.out]; exact OwnG.nil _, hb1⟩
set_option maxHeartbeats 4000000 in
set_option maxRecDepth 100000 in
theorem c_spec_FollowGroups (X : List (List Int)) (h : Int) (v : Value) (w : World) (hr : RdG w v X) :
    Calls Try.prog 25 #[v, .int .i64 h] w fun e w' => ∃ r, e = .returned (.tuple #[r, .int .i64 (tabC X h)]) ∧ OwnGT w.heap.size w'.heap.size w' r (fgL X h) ∧ Below w.heap.size w w' := by
  have HR := Lib.hid hr
  obtain ⟨ax, capx, rfl, -, -⟩ := hr
  cases hc : (tabC X h != 0)
  · have hc0 : tabC X h = 0 := by simpa using hc
    have HX : Hid (fgL X h = grpTo (tabD X h) X.length) := by unfold Hid fgL; rw [if_pos hc0]
    have HC := Lib.hid hc0
    have hl8 := (tab_ok hc0).2.1
    have HGI := Lib.hid (grpTo_inv (tabD X h))
    have HGS := Lib.hid (grpTo_succ (tabD X h))
    clear hc0
    go_enter Try.func25, Try.ntmps25
    go_wp2_with fail
    refine (c_spec_l23Code X h _ _ HR.out).mono ?_; rintro e w1 ⟨rfl, hb1⟩
    go_wp2_with fail
    refine (c_spec_l23Table X h _ _ (HR.out.below hb1) HC.out).mono ?_; rintro e w2 ⟨u2, rfl, ho2, hb2⟩
    obtain ⟨a2, cap2, rfl, hc2⟩ := tab_rd ho2.rd
    have HC2 := Lib.hid hc2
    have B2 := hb1.tr hb2
    have hs2 := B2.size
    clear hc2 ho2
    generalize tabD X h = D at *
    go_wp2
    go_loopw [8, 9] (fun out i wr => ∃ k : Nat, k ≤ X.length ∧ i = .int .i64 k ∧ OwnGT w2.heap.size wr.heap.size wr out (grpTo D k) ∧ Below w2.heap.size w2 wr) (fun _ i _ => X.length - (intOf i).toNat)
    case atStart => exact ⟨0, by omega, rfl, (OwnG.made rfl (Nat.le_refl _)).tight, by (repeat (first | (with_reducible assumption) | (with_reducible exact Below.refl _ _) | (with_reducible refine Below.setCell ?_ (by first | (simp; done) | (simp; omega)) _) | (with_reducible refine Below.al ?_ _) | (with_reducible refine Below.dr ?_) | (with_reducible refine Below.drN ?_ _) | (with_reducible refine Below.tr ?_ (by with_reducible assumption))))⟩
    case round =>
      obtain ⟨k, hk, rfl, hG, hbr⟩ := hrel
      have hbs := hbr.size
      by_cases hlt : k < X.length
      · have HI := Lib.hid (HGI.out k)
        have HS := Lib.hid (HGS.out k)
        have hk0 : (0 : Int) ≤ (k : Int) := Int.natCast_nonneg _
        have hk1 : (k : Int) < (X.length : Int) := by omega
        generalize grpTo D k = G at *
        have hGl := HI.out.1
        have hKle := fK_le D k G
        have HKY := Lib.hid (fun j hj h1 h2 => fK_yes (D := D) (i := k) (G := G) (k := j) hj h1 h2)
        have HKN := Lib.hid (fun j hj h1 h2 => fK_no (D := D) (i := k) (G := G) (k := j) hj h1 h2)
        have HHD : Hid (∀ g, hitG D k g = (D (g.getD 0 0).toNat k == 0)) := fun _ => rfl
        have HGD : Hid (∀ K, fK D k G = K → fgrp D G k = if K < G.length then G.set K (G.getD K [] ++ [(k : Int)]) else G ++ [[(k : Int)]]) := fun K hK => by subst hK; rfl
        obtain ⟨K, HK⟩ : ∃ K, Hid (fK D k G = K) := ⟨_, rfl⟩
        rw [HK.out] at hKle HKY HKN
        have HGD := Lib.hid (HGD.out K HK.out)
        clear HK
        have hGr := hG.rd
        obtain ⟨ag, cg, rfl, -, -⟩ := hGr
        obtain ⟨wo, rfl⟩ : ∃ wo : World, wo = wr := ⟨_, rfl⟩
        go_wp2
        go_loopw [10, 11] (fun f i wr => ∃ j : Nat, j ≤ G.length ∧ i = .int .i64 j ∧ ((f = .bool false ∧ wo = wr ∧ j ≤ K) ∨ (f = .bool true ∧ OwnGT w2.heap.size wr.heap.size wr (.slice ag G.length cg) (grpTo D (k + 1)) ∧ Below w2.heap.size w2 wr))) (fun _ i _ => G.length - (intOf i).toNat)
        case atStart => exact ⟨0, by omega, rfl, Or.inl ⟨rfl, rfl, Nat.zero_le _⟩⟩
        case round =>
          obtain ⟨j, hj, rfl, hcase⟩ := hrel
          rcases hcase with ⟨rfl, rfl, hjK⟩ | ⟨rfl, hG2, hb2'⟩
          · by_cases hjl : j < G.length
            · obtain ⟨g, n', cap', he, hn', -, -, hg0, -, -⟩ := hG.shape (fun e => by rw [e] at hjl; simp at hjl)
              cases he
              obtain ⟨u, hu, huf, hur, hug, hback⟩ := hG.get j hjl
              obtain ⟨hpos, a, ha0, han⟩ := HI.out.2.2 j hjl
              have HHj := Lib.hid (HHD.out (G.getD j []))
              have HYj := Lib.hid (HKY.out j hjl hjK)
              have HNj := Lib.hid (HKN.out j hjl hjK)
              have HGDj : Hid (K = j → fgrp D G k = G.set j (G.getD j [] ++ [(k : Int)])) := fun hKj => by
                have h1 := HGD.out
                rw [hKj, if_pos hjl] at h1
                exact h1
              have hll : (G.getD j []).length < 1000000000 := by
                have h1 := sumLen_at G j hjl
                have h2 := HI.out.2.1
                omega
              have hlo := World.ownsRow.lt hur.1
              generalize G.getD j [] = gr at *
              have hin0 : (0 : Int) ≤ (j : Int) := Int.natCast_nonneg _
              have hin1 : (j : Int) < (G.length : Int) := by omega
              have hur1 := hur.1
              rcases hur.1.shape with ⟨h0, h0'⟩ | ⟨g', cap2', rfl, _, _, _, _, hcell, _⟩
              · rw [h0'] at hpos; simp at hpos
              · have hc0 := hcell 0 hpos
                rw [ha0] at hc0
                rw [ha0, Int.toNat_natCast] at HHj
                obtain ⟨bt, ot, bi, oi, ci, rfl, hx, hrow⟩ := HC2.out a (by omega)
                have y1 := keepc hbr hx
                have z1 := keepc hbr (hrow k hlt)
                have ha1 : (0 : Int) ≤ (a : Int) := Int.natCast_nonneg _
                have ha2 : (a : Int) < (X.length : Int) := by omega
                have hg1 : (0 : Int) < (gr.length : Int) := by omega
                clear hx hrow hcell hn'
                obtain ⟨d, Hd⟩ : ∃ d, Hid (D a k = d) := ⟨_, rfl⟩
                rw [Hd.out] at z1 HHj
                by_cases hd : d = 0
                · have hKe : K = j := HYj.out (by rw [HHj.out, hd]; rfl)
                  have HGj := Lib.hid (HGDj.out hKe)
                  have hd1 : (d == 0) = true := by simp [hd]
                  clear hd
                  go_wp2_with (at_builtin; refine push_int_at rfl _ _ _ _ rfl Try.underlying28 infoI w2.heap.size _ _ _ wo rfl rfl (by exact hur1) hll (by omega) ?_; intro v7 w7 ho7 hg7 hat7 hs7; have g0 := grown_c hg7 hu hug; have gf := grown_f hg7 hu huf hug; obtain ⟨a7, n7, c7, hv7⟩ := OwnI.sl ho7; subst hv7)
                  have hd := hback w7 _ _ ho7 hg7 (hat7.imp id (fun e => ⟨_, e, Nat.le_succ _⟩)) hg0
                  rw [← HGj.out, ← HS.out] at hd
                  go_roundw
                  case rel => exact ⟨j + 1, by omega, by go_num, Or.inr ⟨rfl, hd.tight, (hbr.grown hg7 hbs (fun q hq => (hlo q hq).1)).setCell hg0 _⟩⟩
                  case measure => simp [intOf]; omega
                · have hd1 : (d == 0) = false := by simp [hd]
                  have hKe : j + 1 ≤ K := HNj.out (by rw [HHj.out, hd1])
                  go_wp2
                  go_roundw
                  case rel => exact ⟨j + 1, by omega, by go_num, Or.inl ⟨rfl, trivial, hKe⟩⟩
                  case measure => simp [intOf]; omega
            · obtain rfl : j = G.length := by omega
              have hKl : ¬ K < G.length := by omega
              rw [if_neg hKl] at HGD
              have hll : G.length < 1000000000 := by omega
              have hnew : OwnI 2 w2.heap.size (wo.alloc (Obj.cells #[Value.int IntKind.i64 (k : Int)] 2)) (.slice (some ⟨wo.heap.size, 0, none⟩) 1 1) [(k : Int)] := World.ownsRow_lit (w := wo) #[Value.int IntKind.i64 (k : Int)] 1 (by omega) (by decide) rfl
              have hGa := hG.al (Obj.cells #[Value.int IntKind.i64 (k : Int)] 2)
              go_wp2_with (at_builtin; refine push_g rfl _ _ _ rfl Try.underlying43 infoG1 _ _ (.slice (some ⟨wo.heap.size, 0, none⟩) 1 1) [(k : Int)] (wo.alloc (Obj.cells #[Value.int IntKind.i64 (k : Int)] 2)) rfl (by rw [World.size_alloc]; rfl) (by exact hGa) (by exact hnew) (fun b hb => by simp only [Value.ownBlock, Option.some.injEq] at hb; omega) rfl hll (by rw [World.size_alloc]; omega) ?_; intro v' w9 hG9 hg9 hat9 hs9)
              rw [← HGD.out, ← HS.out] at hG9
              go_roundw
              case rel => exact ⟨k + 1, by omega, by go_num, hG9, (hbr.al _).grown hg9 (hbr.al _).size (fun q hq => (OwnG.lt hG q hq).1)⟩
              case measure => simp [intOf]; omega
          · by_cases hjl : j < G.length
            · have hin1 : (j : Int) < (G.length : Int) := by omega
              go_wp2
              go_roundw
              case rel => exact ⟨k + 1, by omega, by go_num, hG2, hb2'⟩
              case measure => simp [intOf]; omega
            · have hin1 : ¬ (j : Int) < (G.length : Int) := by omega
              go_wp2
              go_roundw
              case rel => exact ⟨k + 1, by omega, by go_num, hG2, hb2'⟩
              case measure => simp [intOf]; omega
      · obtain rfl : k = X.length := by omega
        rw [← HX.out] at hG
        go_wp2
        go_ret2
        exact ⟨_, by rw [HC.out]; rfl, hG.wide hs2 (Nat.le_refl _), B2.tr hbr⟩
  · have hc0 : ¬ tabC X h = 0 := by simpa using hc
    have HX : Hid (fgL X h = []) := by unfold Hid fgL; rw [if_neg hc0]
    clear hc0
    go_enter Try.func25, Try.ntmps25
    go_wp2_with fail
    refine (c_spec_l23Code X h _ _ HR.out).mono ?_; rintro e w1 ⟨rfl, hb1⟩
    go_wp2
    go_ret2
    exact ⟨_, rfl, by rw [HX.out]; exact OwnG.nil _, hb1⟩
end Go.Proofs.Ytjjghmmpfnlpaaa
