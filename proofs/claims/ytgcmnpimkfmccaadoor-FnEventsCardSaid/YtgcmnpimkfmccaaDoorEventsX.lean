/- The law FnEvents returns true for all slices of bytes. The row lists strconv's tables as the program's text lays them (the card ties them). -/
import Derived.Test.YtgcmnpimkfmccaaDoorFrT
import Derived.Test.YtgcmnpimkfmccaaDoorEvX
import Derived.Test.YtgcmnpimkfmccaaDoorEvT
import Derived.Deep.RegionHeld3
namespace Go.Proofs.YtgcmnpimkfmccaaDoor
open Go.ChangeShapes Go.WideShapes Go.ChangeAt Go.RowKit Go.Sort
set_option linter.unusedSimpArgs false
set_option linter.unusedVariables false
namespace fnEvents
theorem c_spec_PropsOfE (p : List Int) (v : Value) (w : World) (hr : RdI w v p) (hv : validP p = true) :
    Calls Tryd.prog 6 #[v] w fun e w' => e = .returned (.tuple #[.int .i64 (propsP p), .int .i64 0]) ∧ Below w.heap.size w w' := by
  have HR := Lib.hid hr
  have HV := Lib.hid hv
  clear hr hv
  go_enter Tryd.func6, Tryd.ntmps6
  go_wp2_with fail
  refine (c_spec_l02Ok p _ _ HR.out).mono ?_; rintro e w1 ⟨rfl, hb1⟩; rw [HV.out]
  go_wp2_with fail
  refine (c_spec_l02Props p _ _ (HR.out.below hb1) HV.out).mono ?_; rintro e w2 ⟨rfl, rfl⟩
  go_wp2
  go_ret2
  exact ⟨rfl, hb1⟩
theorem fC_okE {p : List Int} {B D x : Int} (h : fCode p B D x = 0) : validP p = true ∧ validT B D = true ∧ fitsP p B D = true ∧ fCode p B D 0 = 0 := by
  unfold fCode at *
  split at h
  · omega
  · rename_i h1
    split at h
    · omega
    · rename_i h2
      split at h
      · omega
      · rename_i h3
        refine ⟨by cases hv : validP p; exact absurd hv h1; rfl, by cases ht : validT B D; exact absurd (Or.inl ht) h2; rfl, by cases hf : fitsP p B D; exact absurd (Or.inl hf) h3; rfl, ?_⟩
        rw [if_neg h1, if_neg (by rintro (h | h); exact h2 (Or.inl h); exact absurd h (by decide)), if_neg h3]
/-- what the law asks of an event and of the one behind it -/
theorem ev_facts {p : List Int} {B D f t : Int} {N : Nat} (hv : validP p = true) (hB : 0 < B) (hD : 1 ≤ D) (hf : fitsP p B D = true) (i : Nat) (hi : i < (evS p B D f t N).length) :
    (f ≤ (evS p B D f t N)[i].tick ∧ (evS p B D f t N)[i].tick ≤ t) ∧ ((evS p B D f t N)[i].hand = 0 ∨ (evS p B D f t N)[i].hand = 1) ∧ (0 ≤ (evS p B D f t N)[i].prop ∧ (evS p B D f t N)[i].prop < propsP p) ∧
    lastK (evS p B D f t N)[i].prop ((evS p B D f t N).take i) ≠ kindE (evS p B D f t N)[i] := by
  have hm := (evS_perm p B D f t N).mem_iff.1 (List.getElem_mem hi)
  obtain ⟨b, hb, hx⟩ := evL_mem.1 hm
  obtain ⟨x0, x1, x2, x3, x4, x5⟩ := evB_mem hx
  refine ⟨⟨x4, x5⟩, by rw [x1]; omega, ?_, ev_turn hv hB hD (fits_yes.1 hf) hi⟩
  rw [x2]
  exact ord_lt hv x0
theorem ev_order {p : List Int} {B D f t : Int} {N : Nat} (i : Nat) (hi : i + 1 < (evS p B D f t N).length) :
    (evS p B D f t N)[i].tick < (evS p B D f t N)[i + 1].tick ∨ ((evS p B D f t N)[i + 1].tick = (evS p B D f t N)[i].tick ∧ (evS p B D f t N)[i].hand ≤ (evS p B D f t N)[i + 1].hand) := by
  have h := List.pairwise_iff_getElem.1 (evS_so p B D f t N) i (i + 1) (by omega) hi (by omega)
  rcases ltE_no.1 h with h | ⟨h1, h2⟩
  · exact Or.inl h
  · refine Or.inr ⟨h1, ?_⟩
    rcases h2 with h2 | ⟨h2, -⟩ <;> omega
/-- ints in a made slice -/
def IntsAt (w : World) (g n : Nat) (f : Nat → Int) : Prop := ∀ k, k < n → w.cell? ⟨g, k, none⟩ = some (.int .i64 (f k)) ∧ w.frozen? ⟨g, k, none⟩ = false
theorem IntsAt.below {a b : World} {g n : Nat} {f : Nat → Int} (h : IntsAt a g n f) (hb : Below a.heap.size a b) : IntsAt b g n f := fun k hk => ⟨keepc hb (h k hk).1, frozenc hb (h k hk).1 (h k hk).2⟩
theorem IntsAt.store {a : World} {g n : Nat} {f : Nat → Int} (h : IntsAt a g n f) (j : Nat) (hj : j < n) (u : Int) : IntsAt (a.setCell ⟨g, j, none⟩ (.int .i64 u)) g n (fun k => if j = k then u else f k) := fun k hk => by
  refine ⟨?_, by rw [World.frozen?_setCell]; exact (h k hk).2⟩
  by_cases e : j = k
  · subst e
    have e2 := World.cell?_setCell_same (v := .int .i64 u) a _ (h j hk).1
    simp only [if_true]; exact e2
  · simp only [if_neg e]
    exact (World.cell?_setCell_other _ _ _ _ (fun e2 => by cases e2; exact e rfl)).trans (h k hk).1
def lastF (L : List Ev) (k q : Nat) : Int := lastK (q : Int) (L.take k)
theorem lastF_succ {L : List Ev} {k : Nat} (hk : k < L.length) (Q : Nat) (hQ : L[k].prop = (Q : Int)) (q : Nat) : (if Q = q then kindE L[k] else lastF L k q) = lastF L (k + 1) q := by
  unfold lastF
  have e : L.take (k + 1) = L.take k ++ [L[k]] := by rw [List.take_add_one, List.getElem?_eq_getElem hk]; rfl
  rw [e, lastK_snoc, hQ]
  by_cases h : Q = q
  · rw [if_pos h, if_pos (by omega)]
  · rw [if_neg h, if_neg (by omega)]
theorem evAt_slX {lo : Nat} {w : World} {v : Value} {X : List Ev} (h : EvAt lo w v X) : ∃ a cap, v = .slice a X.length cap := by
  rcases h with ⟨h1, h2⟩ | ⟨g, c, h1, -⟩
  · subst h2; exact ⟨none, 0, h1⟩
  · exact ⟨_, _, h1⟩
theorem rdE_atX {w : World} {a : Option Addr} {n cap : Nat} {L : List Ev} (h : RdRow 4 rowE w (.slice a n cap) L) (k : Nat) (hk : k < L.length) : ∃ b off, a = some ⟨b, off, none⟩ ∧
    w.cell? ⟨b, off + k * 4, none⟩ = some (.int .i64 L[k].tick) ∧ w.cell? ⟨b, off + k * 4 + 1, none⟩ = some (.bool L[k].thr) ∧ w.cell? ⟨b, off + k * 4 + 2, none⟩ = some (.int .i64 L[k].hand) ∧ w.cell? ⟨b, off + k * 4 + 3, none⟩ = some (.int .i64 L[k].prop) := by
  obtain ⟨a', cap', he, _, hc⟩ := h
  cases he
  obtain ⟨b, off, ha, hx⟩ := hc k hk
  refine ⟨b, off, ha, ?_, hx 1 _ rfl, hx 2 _ rfl, hx 3 _ rfl⟩
  have h0 := hx 0 _ rfl
  rw [Nat.add_zero] at h0; exact h0
theorem sum01 (F : Nat → Bool) : ∀ n, 0 ≤ sumN (fun t => if F t = true then (1 : Int) else 0) n ∧ sumN (fun t => if F t = true then (1 : Int) else 0) n ≤ n
  | 0 => by simp [sumN]
  | n + 1 => by
    have ih := sum01 F n
    simp only [sumN]
    split <;> omega
theorem props_bdE {p : List Int} (hv : validP p = true) : 0 ≤ propsP p ∧ propsP p ≤ 16 := by
  have h := air_sum hv 0 (H := 16) (fun x hx => by have := (validP_iff.1 hv).1.1 _ hx; omega)
  have h2 := sum01 (stB p 0) 16
  rw [h] at h2
  exact h2
/-- the events from f to f + 120 -/
theorem ev_said {p : List Int} {B D x f : Int} (hc : fCode p B D x = 0) (hB : 2 ≤ B) (hf : 0 ≤ f ∧ f < 200) : evC p B D f (f + 120) = 0 ∧ ∃ N, evP p B D f (f + 120) = evS p B D f (f + 120) N ∧ (evS p B D f (f + 120) N).length ≤ 4000 := by
  obtain ⟨-, -, -, hc0⟩ := fC_okE hc
  have h1 : frCode p B D 0 f = 0 := by
    unfold frCode
    rw [if_neg (by rw [hc0]; decide), if_neg (by rw [inB_iff.2 ⟨hf.1, by omega⟩]; decide)]
  have h2 : inB (f + 120) f (min (f + 400) 3000) = true := inB_iff.2 ⟨by omega, by omega⟩
  refine ⟨by unfold evC; rw [if_neg (by simp [h1]), if_neg (by simp [h2])], ((f + 120) / B + 4).toNat, by unfold evP; rw [if_neg (by simp [h1]), if_neg (by simp [h2])], ?_⟩
  have hlen := evS_len p B D f (f + 120) ((f + 120) / B + 4).toNat
  have : (f + 120) / B < 1501 := Int.ediv_lt_of_lt_mul (by omega) (by omega)
  omega
theorem ev_all {p : List Int} {B D x f : Int} {P : Nat} (hc : fCode p B D x = 0) (hB : 2 ≤ B) (hD : 1 ≤ D) (hf : 0 ≤ f ∧ f < 200) (hP : propsP p = (P : Int)) : evC p B D f (f + 120) = 0 ∧ ∃ L, evP p B D f (f + 120) = L ∧ L.length ≤ 4000 ∧
    (∀ i (hi : i < L.length), (f ≤ L[i].tick ∧ L[i].tick ≤ f + 120) ∧ (L[i].hand = 0 ∨ L[i].hand = 1) ∧ (0 ≤ L[i].prop ∧ L[i].prop < (P : Int)) ∧ lastK L[i].prop (L.take i) ≠ kindE L[i]) ∧
    ∀ i (hi : i + 1 < L.length), L[i].tick < L[i + 1].tick ∨ (L[i + 1].tick = L[i].tick ∧ L[i].hand ≤ L[i + 1].hand) := by
  obtain ⟨hv, hT, hfi, -⟩ := fC_okE hc
  obtain ⟨h1, N, h2, h3⟩ := ev_said hc hB hf
  refine ⟨h1, _, h2, h3, fun i hi => ?_, fun i hi => ev_order i hi⟩
  rw [← hP]
  exact ev_facts hv (by omega) hD hfi i hi
set_option maxHeartbeats 16000000 in
set_option maxRecDepth 100000 in
theorem walk (v0 v1 : Value) (w : World) (hTab : Tab w) (a0 : Arg_bytes w v0) (a1 : Arg_bytes w v1) : Calls Tryd.prog 3 #[v0, v1] w fun e w' => e = .returned (.bool true) ∧ Below w.heap.size w w' := by
  obtain ⟨bs, hb0⟩ := a0
  obtain ⟨ms, hb1⟩ := a1
  have HB0 := Lib.hid hb0
  have HB1 := Lib.hid hb1
  obtain ⟨aa, ca, rfl, hla, -, -⟩ := hb0
  obtain ⟨am, cm, rfl, hlm, -, -⟩ := hb1
  have HTB := Lib.hid hTab
  clear hTab
  cases hlong : (decide ((bs.length : Int) > 3000) || decide ((ms.length : Int) > 3000))
  rotate_left
  · go_enter Tryd.func3, Tryd.ntmps3
    go_wp2_with fail
    refine (c_laws_a2Long _ _ _ _ _ _ _ (by omega) (by omega)).mono ?_; rintro e w1 ⟨rfl, rfl⟩; rw [hlong]
    go_wp2
    go_ret
    exact ⟨rfl, by (repeat (first | (with_reducible assumption) | (with_reducible exact Below.refl _ _) | (with_reducible refine Below.setCell ?_ (by first | (simp; done) | (simp; omega)) _) | (with_reducible refine Below.al ?_ _) | (with_reducible refine Below.dr ?_) | (with_reducible refine Below.drN ?_ _) | (with_reducible refine Below.tr ?_ (by with_reducible assumption))))⟩
  go_enter Tryd.func3, Tryd.ntmps3
  go_wp2_with fail
  refine (c_laws_a2Long _ _ _ _ _ _ _ (by omega) (by omega)).mono ?_; rintro e w1 ⟨rfl, rfl⟩; rw [hlong]
  go_wp2_with fail
  refine (c_spec_A2Motion bs _ _ HB0.out).mono ?_; rintro e w1 ⟨u, p, B, D, x, rfl, HR1, hc, B1⟩
  obtain ⟨hv, hT, hf, hc0⟩ := fC_okE hc
  obtain ⟨hB, hD⟩ := validT_bd hT
  obtain ⟨W2, hW2, k0, k1, Q2⟩ := oneState w1 26 B D
  have HV := Lib.hid hv
  have HTT := Lib.hid hT
  have HFF := Lib.hid hf
  have HC := Lib.hid hc
  have HR := Lib.hid (HR1.below Q2)
  obtain ⟨au, cu, rfl, -, -⟩ := HR1
  clear hv hT hf hc hc0
  go_wp2_with fail
  rw [← hW2]
  clear hW2
  refine (c_spec_PropsOfE p _ _ HR.out HV.out).mono ?_; rintro e w3 ⟨rfl, Q3⟩
  replace k0 := keepc Q3 k0
  replace k1 := keepc Q3 k1
  obtain ⟨hPn, hPx⟩ := props_bdE HV.out
  obtain ⟨P, hP⟩ : ∃ P : Nat, propsP p = (P : Int) := ⟨(propsP p).toNat, by omega⟩
  have HP := Lib.hid hP
  have hP16 : P ≤ 16 := by omega
  rw [hP]
  clear hPn hPx hP
  go_wp2_with fail
  refine (c_laws_a2At ms 0 0 200 _ _ (HB1.out.below (B1.tr (Q2.tr Q3))) (by omega) rfl).mono ?_; rintro e w4 ⟨f, rfl, hf0, hf1, rfl⟩
  have hf := hf1 (by omega)
  clear hf1
  obtain ⟨hcc, L, hL, hLn, hev, hor⟩ := ev_all HC.out hB.1 hD.1 ⟨hf0, hf⟩ HP.out
  have HEV := Lib.hid hev
  have HOR := Lib.hid hor
  have HL := Lib.hid hL
  have HCC := Lib.hid hcc
  have hw120 : IntKind.i64.wrap (f + 120) = f + 120 := IntWalk.i64_in _ (by omega)
  have B3 := B1.tr (Q2.tr Q3)
  have HR3 := Lib.hid (HR.out.below Q3)
  have HTB3 := Lib.hid (tab_below HTB.out B3)
  clear hcc hL HR Q2 Q3 B1 HTB hev hor
  go_wp2_with fail
  refine (c_impl_EventsOf p B D f (f + 120) _ _ HR3.out).mono ?_; rintro e w5 ⟨u5, rfl, ho5, Q5⟩
  rw [HCC.out]
  rw [HL.out] at ho5
  obtain ⟨a5, c5, rfl⟩ := evAt_slX ho5
  replace k0 := keepc Q5 k0
  replace k1 := keepc Q5 k1
  go_wp2_with fail
  refine (c_spec_EventsOf p B D f (f + 120) _ _ (HR3.out.below Q5)).mono ?_; rintro e w6 ⟨u6, rfl, ho6, Q6⟩
  rw [HCC.out]
  rw [HL.out] at ho6
  obtain ⟨a6, c6, rfl⟩ := evAt_slX ho6
  replace k0 := keepc Q6 k0
  replace k1 := keepc Q6 k1
  have HRL := Lib.hid ((ho5.rd (by omega)).below Q6)
  have HTB6 := Lib.hid (tab_below (tab_below HTB3.out Q5) Q6)
  have BB6 := (B3.tr Q5).tr Q6
  obtain ⟨M, hM⟩ : ∃ M, L.length = M := ⟨_, rfl⟩
  have HM := Lib.hid hM
  rw [hM] at hLn HRL ⊢
  clear ho5 ho6 Q5 Q6 B3 HR3 HTB3 hM HL HCC HC
  go_wp2_with (at_make; refine make_int rfl _ _ _ _ rfl Tryd.underlying24 infoI w6.heap.size _ _ _ _ _ P rfl rfl rfl rfl (by omega) (Nat.le_refl _) ?_; intro w7 hown hbel hsz)
  have hb7 : Below w6.heap.size w6 w7 := hbel w6 (Below.refl _ _)
  obtain ⟨G, hG⟩ : ∃ G, w6.heap.size = G := ⟨_, rfl⟩
  have HI0 : IntsAt w7 G P (lastF L 0) := fun q hq => by
    obtain ⟨h1, h2⟩ := hown.cell q (by simpa using hq)
    rw [← hG]
    refine ⟨?_, h2⟩
    rw [h1]
    simp [lastF, lastK, List.getD, hq]
  rw [hG] at hb7 hsz ⊢
  have hG6 := Lib.hid hG
  replace k0 := keepc (by rw [hG]; exact hb7) k0
  replace k1 := keepc (by rw [hG]; exact hb7) k1
  clear hbel hown
  go_loopw [16] (fun i wr => ∃ k : Nat, k ≤ M ∧ i = .int .i64 k ∧ IntsAt wr G P (lastF L k) ∧ Upd G (G + 1) w7 wr) (fun i _ => M - (intOf i).toNat)
  case atStart => exact ⟨0, by omega, by go_num, HI0, Upd.of_below (Below.refl _ _)⟩
  case round =>
    clear HI0
    obtain ⟨k, hk, rfl, hI, UR⟩ := hrel
    obtain ⟨wo, rfl⟩ : ∃ wo : World, wo = wr := ⟨_, rfl⟩
    have BR : Below G w6 wo := hb7.trans (UR.below (Nat.le_refl _) (by omega))
    have BR6 : Below w6.heap.size w6 wo := by rw [hG]; exact BR
    have hso := UR.size
    by_cases hlt : k < M
    · have hkL : k < L.length := by rw [HM.out]; exact hlt
      obtain ⟨b1, o1, rfl, x0, x1, x2, x3⟩ := rdE_atX (HRL.out.below BR6) k hkL
      obtain ⟨hti, hha, hpr, hla2⟩ := HEV.out k hkL
      have hsuc := fun Q h q => lastF_succ hkL Q h q
      have hprev : k = 0 ∨ ∃ j, ∃ hj : j < L.length, Hid (j + 1 = k) ∧ (L[j].tick < L[k].tick ∨ (L[k].tick = L[j].tick ∧ L[j].hand ≤ L[k].hand)) := by
        cases k with
        | zero => exact Or.inl rfl
        | succ j => exact Or.inr ⟨j, by omega, Lib.hid rfl, HOR.out j hkL⟩
      obtain ⟨e, he⟩ : ∃ e, L[k] = e := ⟨_, rfl⟩
      rw [he] at x0 x1 x2 x3 hti hha hpr hla2 hsuc hprev
      obtain ⟨T, b, h, q⟩ := e
      obtain ⟨Q, rfl⟩ : ∃ Q : Nat, q = (Q : Int) := ⟨q.toNat, by have := hpr.1; dsimp only at this; omega⟩
      dsimp only at x0 x1 x2 x3 hti hha hpr hla2 hsuc hprev
      replace hsuc := Lib.hid (hsuc Q rfl)
      have hQP : Q < P := by have := hpr.2; omega
      obtain ⟨sQ, fQ⟩ := hI Q hQP
      have hlK : lastF L k Q ≠ kindE ⟨T, b, h, (Q : Int)⟩ := hla2
      obtain ⟨V, hV⟩ : ∃ V, lastF L k Q = V := ⟨_, rfl⟩
      rw [hV] at sQ hlK
      have hz1 : b1 < wo.heap.size := World.block_lt_of_cell? _ _ x0
      have hz3 : G < wo.heap.size := by omega
      have nz1 : ¬ wo.heap.size = b1 := by omega
      have nz3 : ¬ wo.heap.size = G := by omega
      have hb1G : b1 < G := by
        obtain ⟨b1', o1', he1, x0', -⟩ := rdE_atX HRL.out k hkL
        cases he1
        rw [← hG]
        exact World.block_lt_of_cell? _ _ x0'
      have nz4 : ¬ G = b1 := by omega
      have hin0 : (0 : Int) ≤ (k : Int) := Int.natCast_nonneg _
      have hin1 : (k : Int) < (M : Int) := by omega
      have hin2 : (0 : Int) ≤ (Q : Int) := Int.natCast_nonneg _
      have hin3 : (Q : Int) < (P : Int) := by omega
      have Q8 : Below wo.heap.size wo (wo.alloc (Obj.cells #[.int .i64 T, .bool b, .int .i64 h, .int .i64 Q] 36)) := (Below.refl _ _).al _
      have d0 : (wo.alloc (Obj.cells #[.int .i64 T, .bool b, .int .i64 h, .int .i64 Q] 36)).cell? ⟨wo.heap.size, 0, none⟩ = some (.int .i64 T) := World.cell?_alloc_at _ _ _ _ rfl
      have d1 : (wo.alloc (Obj.cells #[.int .i64 T, .bool b, .int .i64 h, .int .i64 Q] 36)).cell? ⟨wo.heap.size, 1, none⟩ = some (.bool b) := World.cell?_alloc_at _ _ _ _ rfl
      have d2 : (wo.alloc (Obj.cells #[.int .i64 T, .bool b, .int .i64 h, .int .i64 Q] 36)).cell? ⟨wo.heap.size, 2, none⟩ = some (.int .i64 h) := World.cell?_alloc_at _ _ _ _ rfl
      have d3 : (wo.alloc (Obj.cells #[.int .i64 T, .bool b, .int .i64 h, .int .i64 Q] 36)).cell? ⟨wo.heap.size, 3, none⟩ = some (.int .i64 Q) := World.cell?_alloc_at _ _ _ _ rfl
      clear he hla2
      go_wp2_with fail
      generalize (wo.alloc (Obj.cells #[.int .i64 T, .bool b, .int .i64 h, .int .i64 Q] 36)) = W8 at *
      refine (c_impl_EventText T b h Q W8 (by unfold inI; omega) (by unfold inI; omega) (tab_below (tab_below HTB6.out BR6) Q8)).mono ?_; rintro e w9 ⟨rfl, Q9⟩
      obtain ⟨tb, tc⟩ := ev_pos (t := T) (b := b) (p := (Q : Int)) hha
      obtain ⟨S, hS⟩ : ∃ S, evT T b h Q = S := ⟨_, rfl⟩
      rw [hS] at tb tc ⊢
      have B9 := (BR6.tr Q8).tr Q9
      have U9 := UR.trans (Upd.of_below (Q8.tr Q9))
      have hI9 := (hI.below Q8).below Q9
      replace d0 := keepc Q9 d0
      replace d1 := keepc Q9 d1
      replace d2 := keepc Q9 d2
      replace d3 := keepc Q9 d3
      obtain ⟨sQ, fQ⟩ := hI9 Q hQP
      rw [hV] at sQ
      have hz9 : wo.heap.size < w9.heap.size := World.block_lt_of_cell? _ _ d0
      obtain ⟨F, hF⟩ : ∃ F, wo.heap.size = F := ⟨_, rfl⟩
      rw [hF] at d0 d1 d2 d3 hz9 nz1 nz3 hz1 hz3 ⊢
      have nz5 : ¬ G = F := by omega
      have nz6 : ¬ b1 = F := by omega
      have nz7 : ¬ b1 = G := by omega
      clear x0 x1 x2 x3 Q8 Q9 BR BR6 UR hI hS hF k0 k1 HV HTT HFF HP hG hG6 HB0 HB1 hla hlm hlong hb7 hsz HEV HOR
      have hlN := Lib.hid hlK
      clear hlK
      cases b
      · have tV : (V == 1) = false := beq_eq_false_iff_ne.2 hlN.out
        have HK : Hid (∀ q, (if Q = q then (1 : Int) else lastF L k q) = lastF L (k + 1) q) := fun q => hsuc.out q
        have hrl : ∀ n : Nat, IntsAt ((w9.drewN n).setCell ⟨G, Q, none⟩ (.int .i64 1)) G P (lastF L (k + 1)) := fun n q hq => by rw [← HK.out q]; exact IntsAt.store (a := w9.drewN n) hI9 Q hQP 1 q hq
        have hUU : ∀ n : Nat, Upd G (G + 1) w7 ((w9.drewN n).setCell ⟨G, Q, none⟩ (.int .i64 1)) := fun n => (U9.trans (Upd.of_below ((Below.refl _ _).drN n))).trans (Upd.of_grown (lo := G) (hi := G + 1) (grownBy_setCells (w9.drewN n) G [.int .i64 1] Q) (fun q hq => by simp only [Option.some.injEq] at hq; omega))
        clear HK hsuc hI9 U9 hV hlN
        rcases hprev with hz | ⟨j, hj, hjk, hp⟩
        · subst hz
          go_wp2_with fail
          go_quiet (fail)
          go_wp2_with fail
          go_roundw
          case rel => exact ⟨0 + 1, by omega, by go_num, hrl _, hUU _⟩
          case measure => simp [intOf]; omega
        · obtain ⟨b1', o1', he1, y0, -, y2, -⟩ := rdE_atX (HRL.out.below B9) j hj
          cases he1
          obtain ⟨e2, he2⟩ : ∃ e2, L[j] = e2 := ⟨_, rfl⟩
          rw [he2] at y0 y2 hp
          obtain ⟨T2, b2, h2, q2⟩ := e2
          dsimp only at y0 y2 hp
          have hjk2 := hjk.out
          have hjM : (j : Int) < (M : Int) := by omega
          have hj0 : (0 : Int) ≤ (j : Int) := Int.natCast_nonneg _
          have hk0 : (0 : Int) < (k : Int) := by omega
          have hkn : 0 < k := by omega
          have hwj : IntKind.i64.wrap ((k : Int) - 1) = (j : Int) := by rw [show (k : Int) - 1 = (j : Int) by omega]; exact IntWalk.i64_in _ (by omega)
          clear hjk2 he2
          rcases hp with hp | ⟨rfl, hp⟩
          · have c1 : decide (T < T2) = false := decide_eq_false (by omega)
            have c2 : (T == T2) = false := beq_eq_false_iff_ne.2 (by omega)
            clear hp
            go_wp2_with fail
            go_quiet (fail)
            go_wp2_with fail
            go_roundw
            case rel => exact ⟨k + 1, by omega, by go_num, hrl _, hUU _⟩
            case measure => simp [intOf]; omega
          · have c3 : decide (h < h2) = false := decide_eq_false (by omega)
            clear hp
            go_wp2_with fail
            go_quiet (fail)
            go_wp2_with fail
            go_roundw
            case rel => exact ⟨k + 1, by omega, by go_num, hrl _, hUU _⟩
            case measure => simp [intOf]; omega
      · have tV : (V == 2) = false := beq_eq_false_iff_ne.2 hlN.out
        have HK : Hid (∀ q, (if Q = q then (2 : Int) else lastF L k q) = lastF L (k + 1) q) := fun q => hsuc.out q
        have hrl : ∀ n : Nat, IntsAt ((w9.drewN n).setCell ⟨G, Q, none⟩ (.int .i64 2)) G P (lastF L (k + 1)) := fun n q hq => by rw [← HK.out q]; exact IntsAt.store (a := w9.drewN n) hI9 Q hQP 2 q hq
        have hUU : ∀ n : Nat, Upd G (G + 1) w7 ((w9.drewN n).setCell ⟨G, Q, none⟩ (.int .i64 2)) := fun n => (U9.trans (Upd.of_below ((Below.refl _ _).drN n))).trans (Upd.of_grown (lo := G) (hi := G + 1) (grownBy_setCells (w9.drewN n) G [.int .i64 2] Q) (fun q hq => by simp only [Option.some.injEq] at hq; omega))
        clear HK hsuc hI9 U9 hV hlN
        rcases hprev with hz | ⟨j, hj, hjk, hp⟩
        · subst hz
          go_wp2_with fail
          go_quiet (fail)
          go_wp2_with fail
          go_roundw
          case rel => exact ⟨0 + 1, by omega, by go_num, hrl _, hUU _⟩
          case measure => simp [intOf]; omega
        · obtain ⟨b1', o1', he1, y0, -, y2, -⟩ := rdE_atX (HRL.out.below B9) j hj
          cases he1
          obtain ⟨e2, he2⟩ : ∃ e2, L[j] = e2 := ⟨_, rfl⟩
          rw [he2] at y0 y2 hp
          obtain ⟨T2, b2, h2, q2⟩ := e2
          dsimp only at y0 y2 hp
          have hjk2 := hjk.out
          have hjM : (j : Int) < (M : Int) := by omega
          have hj0 : (0 : Int) ≤ (j : Int) := Int.natCast_nonneg _
          have hk0 : (0 : Int) < (k : Int) := by omega
          have hkn : 0 < k := by omega
          have hwj : IntKind.i64.wrap ((k : Int) - 1) = (j : Int) := by rw [show (k : Int) - 1 = (j : Int) by omega]; exact IntWalk.i64_in _ (by omega)
          clear hjk2 he2
          rcases hp with hp | ⟨rfl, hp⟩
          · have c1 : decide (T < T2) = false := decide_eq_false (by omega)
            have c2 : (T == T2) = false := beq_eq_false_iff_ne.2 (by omega)
            clear hp
            go_wp2_with fail
            go_quiet (fail)
            go_wp2_with fail
            go_roundw
            case rel => exact ⟨k + 1, by omega, by go_num, hrl _, hUU _⟩
            case measure => simp [intOf]; omega
          · have c3 : decide (h < h2) = false := decide_eq_false (by omega)
            clear hp
            go_wp2_with fail
            go_quiet (fail)
            go_wp2_with fail
            go_roundw
            case rel => exact ⟨k + 1, by omega, by go_num, hrl _, hUU _⟩
            case measure => simp [intOf]; omega
    · have hkM : M = k := by omega
      subst hkM
      go_wp2
      go_ret
      exact ⟨rfl, BB6.trans ((hb7.trans (UR.below (Nat.le_refl _) (by omega))).mono (by rw [← hG]; exact BB6.size))⟩
theorem own : ownKnob Tryd.prog.godebug = none := by kernel_rfl
theorem laidOut : laidOutB Tryd.prog = true := by kernel_rfl
theorem door_met (os : Os) (args : Array Value) : laidMetH Tryd.prog Rows.fnEventsRow.laid ((World.doorLaid Tryd.prog 24 os).forCall (fun _ _ => 0) ⟨#[], args, []⟩).memory :=
  laidMetH_of_parts3 (fuel := 8) (laidMet_of_run' 8 (by kernel_rfl) (by kernel_rfl)) (by kernel_rfl) (by kernel_rfl)
set_option maxRecDepth 100000 in
theorem lifted (os : Os) (started : os.Started) (H : Type) (enc : TypeId × Value → H) :
    ReturnsInHanded {} Tryd.checked os 3 .any (fun w args => (Rows.fnEventsSpec.pre enc Tryd.prog Tryd.f3 [] false w args ∧ laidMetH Tryd.prog Rows.fnEventsRow.laid w) ∧ sizedMet enc Tryd.prog Tryd.f3 (OpenSpec.ofChange Rows.fnEventsSpec) false w args)
      (Rows.fnEventsSpec.post enc Tryd.prog Tryd.f3 false true false false) := by
  refine returnsInHanded_of_change_and (C := Tryd.checked) (X := fun w _ => laidMetH Tryd.prog Rows.fnEventsRow.laid w) (fun _ _ _ hh h => h.of_heap hh) own started (by kernel_rfl) Tryd.func3
    (ChangeSpec.witness_shaped (enc := enc) (C := Tryd.checked) (os := os) (X := fun w _ => laidMetH Tryd.prog Rows.fnEventsRow.laid w) false (World.doorLaid Tryd.prog 24 os) #[.slice none 0 0, .slice none 0 0] 8 rfl (World.shaped_of_RefB (by kernel_rfl) (by kernel_rfl)) (by kernel_rfl) (by kernel_rfl) (by kernel_rfl) (door_met os _)) ?_
  intro W base args ds gs before hval0 hW _ _ hL _
  have hval : ∀ (j : Nat) t v, Tryd.f3.params[j]? = some t → args[j]? = some v → Value.okWide Tryd.prog W .any base t v := hval0
  have hW' := hW
  obtain ⟨p, q, hA0, hV, rfl, hfz, hnd⟩ := hW
  have hA : DataW.TrodAll enc Tryd.prog W 0 (fun _ => true) true Tryd.f3.params.toList args.toList ds p := hA0
  rw [Tryd.params3] at hA hval
  obtain ⟨v0, vs0, d0, ds0, p0, q0, hargs, rfl, rfl, h0, r0⟩ := trodAll_cons hA
  obtain ⟨v1, vs1, d1, ds1, p1, q1, rfl, rfl, rfl, h1, r1⟩ := trodAll_cons r0
  obtain ⟨rfl, rfl, rfl⟩ := trodAll_nil r1
  obtain rfl : args = #[v0, v1] := by cases args; simp_all
  obtain ⟨rfl, rfl⟩ := trodVars_none hV
  have k0 := h0
  have lt0 : ∀ x ∈ p0, x.block < W.heap.size := by obtain ⟨m, hm⟩ := k0; exact DataW.trod_lt m _ _ _ hm
  have a0 := open_bytes (hval 0 22 v0 rfl rfl) h0
  have k1 := h1
  have lt1 : ∀ x ∈ p1, x.block < W.heap.size := by obtain ⟨m, hm⟩ := k1; exact DataW.trod_lt m _ _ _ hm
  have a1 := open_bytes (hval 1 22 v1 rfl rfl) h1
  clear hA0 hval0
  refine (walk v0 v1 W (tab_of hL) a0 a1).mono fun e W' ⟨he, bel⟩ => ?_
  subst he
  exact ⟨_, rfl, _, _, _, [], _, [], hW', trodAll_mk1 (shut_bool Tryd.underlying4 _), (trodAll_cons_mk (Below.trod laidOut (by kernel_rfl) (of_decide_eq_true (by kernel_rfl)) k0 bel lt0) (trodAll_cons_mk (Below.trod laidOut (by kernel_rfl) (of_decide_eq_true (by kernel_rfl)) k1 bel lt1) trodAll_mk0)), rfl, bel.frame _, fun h => by cases h⟩
theorem over : Rows.fnEventsRow.holds Tryd.pinned (OpenSpec.ofChange Rows.fnEventsSpec) :=
  OpenClaim.holds_of_wide 3 Tryd.f3 rfl rfl rfl rfl rfl rfl rfl ⟨rfl, rfl, rfl, rfl, rfl⟩ rfl rfl rfl rfl rfl (by kernel_rfl) Tryd.func3 (by kernel_rfl)
    (of_decide_eq_true (by kernel_rfl)) (by unfold Func.isWrapper; first | (rw [if_pos (by decide +kernel)]; kernel_rfl) | (rw [if_neg (by decide +kernel)]; exact ⟨rfl, rfl⟩))
    (fun os started H enc _ => lifted os started H enc)
theorem proved : Rows.FnEventsCardSaid :=
  Claim7.holds_tied_plain_at .later [] Rows.fnEventsCard.laidKinds true Rows.fnEventsCard.stood.harness false
    over (fun _ h => by cases h) (by kernel_rfl) (fun _ h => by cases h) fnEvents_row_tie rfl ⟨rfl, rfl⟩ (by kernel_rfl) rfl
    (fun f fn hf hfn => by
      obtain rfl : f = 3 := Option.some.inj ((show Tryd.prog.funcNamed Rows.fnEventsRow.func = some 3 by kernel_rfl).symm.trans hf) |>.symm
      obtain rfl : fn = Tryd.f3 := (Option.some.inj (Tryd.func3.symm.trans hfn)).symm
      exact ⟨by kernel_rfl, fun j t ht => by
        rw [Tryd.params3] at ht
        have hm : t ∈ [22, 22] := by simpa using Array.mem_of_getElem? ht
        have hall : ([22, 22].all fun u => !Tryd.prog.wantsStandIn u) = true := by kernel_rfl
        exact (show Tryd.prog.wantsStandIn t = false by simpa using List.all_eq_true.1 hall t hm)⟩)
    (by kernel_rfl)
end fnEvents
end Go.Proofs.YtgcmnpimkfmccaaDoor
