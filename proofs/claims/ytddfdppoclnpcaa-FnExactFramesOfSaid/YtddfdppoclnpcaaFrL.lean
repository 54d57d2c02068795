/- Contracts: the reference's dots of a frame. -/
import Derived.Test.YtddfdppoclnpcaaFrK
import Derived.Test.YtddfdppoclnpcaaFrG
namespace Go.Proofs.Ytddfdppoclnpcaa
open Go.ChangeShapes Go.WideShapes Go.ChangeAt Go.RowKit
set_option linter.unusedVariables false
set_option linter.unusedSimpArgs false
def dW (p : List Int) (B D x t : Int) (F n : Nat) : List Dot5 := (winS p F n).map (fun b : Nat => dotP p B D x t (ordA p b) b)
theorem dotP_prop (p : List Int) (B D x t q b : Int) : (dotP p B D x t q b).1 = q := by unfold dotP; split <;> rfl
theorem dW_len (p : List Int) (B D x t : Int) (F n : Nat) : (dW p B D x t F n).length = (winS p F n).length := by unfold dW; simp
theorem dW_prop {p : List Int} {B D x t : Int} {F n k : Nat} (hk : k < (dW p B D x t F n).length) : (dW p B D x t F n)[k].1 = ((winS p F n).map (ordA p)).getD k 0 := by
  have h : k < (winS p F n).length := by rw [dW_len] at hk; exact hk
  simp only [dW, List.getElem_map, dotP_prop]
  simp [List.getD, h]
theorem dW_skip {p : List Int} {B D x t : Int} {F n : Nat} (h : nxB p F (F + n) = false) : dW p B D x t F (n + 1) = dW p B D x t F n := by
  unfold dW
  simp only [winS]
  rw [if_neg (by simp [h])]
theorem dW_put {p : List Int} {B D x t : Int} {F n : Nat} (h : nxB p F (F + n) = true) {k : Nat} (hk : k = posI (ordA p (F + n)) ((winS p F n).map (ordA p)) (winS p F n).length) :
    dW p B D x t F (n + 1) = (dW p B D x t F n).take k ++ [dotP p B D x t (ordA p (F + n)) ((F + n : Nat) : Int)] ++ (dW p B D x t F n).drop k := by
  unfold dW
  simp only [winS]
  rw [if_pos h]
  unfold insN
  rw [List.map_append, List.map_append, List.map_take, List.map_drop, ← hk]
  rfl
theorem dW_end {p : List Int} (hv : validP p = true) (B D x t : Int) : dW p B D x t (t / B + 1).toNat 16 = dotsF p B D x t := by
  have hl := win_full hv (t / B + 1).toNat
  apply List.ext_getElem
  · rw [dW_len, dotsF_len]; omega
  · intro k h1 h2
    rw [dotsF_at h2]
    have h3 : k < (winS p (t / B + 1).toNat 16).length := by rw [dW_len] at h1; exact h1
    have e1 : (winS p (t / B + 1).toNat 16)[k] = bqP p (t / B + 1).toNat k := by unfold bqP; simp [List.getD, h3]
    simp only [dW, List.getElem_map]
    rw [e1, (bq_ok hv (t / B + 1).toNat k (by omega)).2.2.2]
theorem nx_iff {p : List Int} {B t : Int} {b : Nat} (hB : 2 ≤ B) (ht : 0 ≤ t) : nxB p (t / B + 1).toNat b = true ↔ frP p b * B ≤ t := by
  constructor
  · exact nx_time hB ht
  · intro h
    have h1 : frP p b ≤ t / B := (Int.le_ediv_iff_mul_le (by omega)).2 h
    have h2 : 0 ≤ t / B := Int.ediv_nonneg ht (by omega)
    unfold nxB
    rw [decide_eq_true_eq]
    omega
theorem own_shape {α : Type} {sz : Nat} {row : α → List Value} {e : TypeId} {lo hi : Nat} {w : World} {v : Value} {xs : List α} (h : OwnRow e sz row lo hi w v xs) (hv : ∃ ad n cap, v = .slice (some ad) n cap) :
    ∃ g cap, v = .slice (some ⟨g, 0, none⟩) xs.length cap ∧ xs.length ≤ cap ∧ lo ≤ g ∧ g < hi := by
  obtain ⟨ad, n0, cap0, hvv⟩ := hv
  have hlt := World.ownsRow.lt h.1
  rcases h.1.2 with ⟨hnil, _⟩ | ⟨g, cap, cur, hve, hg, hh, hn, hm, hcs, hcells⟩
  · rw [hvv] at hnil; cases hnil
  · exact ⟨g, cap, hve, by omega, (hlt g (by rw [hve]; rfl)).1, h.2 g (by rw [hve]; rfl)⟩
structure DBox (w : World) (g : Nat) (a b c d e : Int) : Prop where
  c0 : w.cell? ⟨g, 0, none⟩ = some (.int .i64 a)
  c1 : w.cell? ⟨g, 1, none⟩ = some (.int .i64 b)
  c2 : w.cell? ⟨g, 2, none⟩ = some (.int .i64 c)
  c3 : w.cell? ⟨g, 3, none⟩ = some (.int .i64 d)
  c4 : w.cell? ⟨g, 4, none⟩ = some (.int .i64 e)
  f1 : w.frozen? ⟨g, 1, none⟩ = false
  f2 : w.frozen? ⟨g, 2, none⟩ = false
  f3 : w.frozen? ⟨g, 3, none⟩ = false
  f4 : w.frozen? ⟨g, 4, none⟩ = false
theorem DBox.below {w w' : World} {g : Nat} {a b c d e : Int} (h : DBox w g a b c d e) (hb : Below w.heap.size w w') : DBox w' g a b c d e :=
  ⟨keepc hb h.c0, keepc hb h.c1, keepc hb h.c2, keepc hb h.c3, keepc hb h.c4, frozenc hb h.c1 h.f1, frozenc hb h.c2 h.f2, frozenc hb h.c3 h.f3, frozenc hb h.c4 h.f4⟩
theorem dBox_new (w : World) (a b c d e : Int) : DBox (w.alloc (Obj.cells #[.int .i64 a, .int .i64 b, .int .i64 c, .int .i64 d, .int .i64 e] 51)) w.heap.size a b c d e := by
  constructor <;> go_simp
theorem DBox.setX {w : World} {g : Nat} {a b c d e : Int} (h : DBox w g a b c d e) (c' d' : Int) : DBox ((w.setCell ⟨g, 2, none⟩ (.int .i64 c')).setCell ⟨g, 3, none⟩ (.int .i64 d')) g a b c' d' e := by
  have s2 := World.cell?_setCell_same (v := .int .i64 c') w _ h.c2
  have s3 := World.cell?_setCell_same (v := .int .i64 d') (w.setCell ⟨g, 2, none⟩ (.int .i64 c')) _ ((grown_c1 w g 2 3 _ (by decide)).trans h.c3)
  refine ⟨?_, ?_, ?_, s3, ?_, ?_, ?_, ?_, ?_⟩
  · rw [grown_c1 _ g 3 0 _ (by decide), grown_c1 _ g 2 0 _ (by decide)]; exact h.c0
  · rw [grown_c1 _ g 3 1 _ (by decide), grown_c1 _ g 2 1 _ (by decide)]; exact h.c1
  · rw [grown_c1 _ g 3 2 _ (by decide)]; exact s2
  · rw [grown_c1 _ g 3 4 _ (by decide), grown_c1 _ g 2 4 _ (by decide)]; exact h.c4
  · rw [World.frozen?_setCell, World.frozen?_setCell]; exact h.f1
  · rw [World.frozen?_setCell, World.frozen?_setCell]; exact h.f2
  · rw [World.frozen?_setCell, World.frozen?_setCell]; exact h.f3
  · rw [World.frozen?_setCell, World.frozen?_setCell]; exact h.f4
theorem DBox.setY {w : World} {g : Nat} {a b c d e : Int} (h : DBox w g a b c d e) (e' : Int) : DBox (w.setCell ⟨g, 4, none⟩ (.int .i64 e')) g a b c d e' := by
  have s4 := World.cell?_setCell_same (v := .int .i64 e') w _ h.c4
  refine ⟨?_, ?_, ?_, ?_, s4, ?_, ?_, ?_, ?_⟩
  · rw [grown_c1 _ g 4 0 _ (by decide)]; exact h.c0
  · rw [grown_c1 _ g 4 1 _ (by decide)]; exact h.c1
  · rw [grown_c1 _ g 4 2 _ (by decide)]; exact h.c2
  · rw [grown_c1 _ g 4 3 _ (by decide)]; exact h.c3
  · rw [World.frozen?_setCell]; exact h.f1
  · rw [World.frozen?_setCell]; exact h.f2
  · rw [World.frozen?_setCell]; exact h.f3
  · rw [World.frozen?_setCell]; exact h.f4
theorem DBox.setH {w : World} {g : Nat} {a b c d e : Int} (h : DBox w g a b c d e) (b' : Int) : DBox (w.setCell ⟨g, 1, none⟩ (.int .i64 b')) g a b' c d e := by
  have s1 := World.cell?_setCell_same (v := .int .i64 b') w _ h.c1
  refine ⟨?_, s1, ?_, ?_, ?_, ?_, ?_, ?_, ?_⟩
  · rw [grown_c1 _ g 1 0 _ (by decide)]; exact h.c0
  · rw [grown_c1 _ g 1 2 _ (by decide)]; exact h.c2
  · rw [grown_c1 _ g 1 3 _ (by decide)]; exact h.c3
  · rw [grown_c1 _ g 1 4 _ (by decide)]; exact h.c4
  · rw [World.frozen?_setCell]; exact h.f1
  · rw [World.frozen?_setCell]; exact h.f2
  · rw [World.frozen?_setCell]; exact h.f3
  · rw [World.frozen?_setCell]; exact h.f4
theorem rowD_one : ∀ (x : Dot5), ∀ u ∈ rowD x, u.oneCell' = true := by
  intro x u hu
  simp only [rowD, List.mem_cons, List.not_mem_nil, or_false] at hu
  rcases hu with rfl | rfl | rfl | rfl | rfl <;> rfl
theorem cutE_r {w : World} {g cap : Nat} {L : List Dot5} (h : RdRow 5 rowD w (.slice (some ⟨g, 0, none⟩) L.length cap) L) (k : Nat) (hk : k ≤ L.length) : RdRow 5 rowD w (.slice (some ⟨g, 0, none⟩) k cap) (L.take k) := by
  obtain ⟨a1, c1, e1, hl, hc⟩ := h
  cases e1
  have hlen : (L.take k).length = k := by rw [List.length_take]; omega
  refine ⟨some ⟨g, 0, none⟩, cap, by rw [hlen], by omega, fun i hi => ?_⟩
  obtain ⟨b, off, hb, hx⟩ := hc i (by omega)
  refine ⟨b, off, hb, fun c u hu => hx c u ?_⟩
  rw [List.getElem_take] at hu
  exact hu
theorem cutE_l {w : World} {g cap m : Nat} {L : List Dot5} (h : RdRow 5 rowD w (.slice (some ⟨g, 0, none⟩) L.length cap) L) (k : Nat) (hk : k ≤ L.length) : RdRow 5 rowD w (.slice (some ⟨g, k * 5, none⟩) (L.length - k) m) (L.drop k) := by
  obtain ⟨a1, c1, e1, hl, hc⟩ := h
  cases e1
  refine ⟨some ⟨g, k * 5, none⟩, m, by rw [List.length_drop], by rw [List.length_drop]; omega, fun i hi => ?_⟩
  rw [List.length_drop] at hi
  obtain ⟨b, off, hb, hx⟩ := hc (k + i) (by omega)
  cases hb
  refine ⟨g, k * 5, rfl, fun c u hu => ?_⟩
  have e : k * 5 + i * 5 + c = 0 + (k + i) * 5 + c := by omega
  rw [e]
  refine hx c u ?_
  rw [← hu]; simp
theorem cutE_nil {w : World} {a : Addr} {m : Nat} {L : List Dot5} {k : Nat} (hk : L.length ≤ k) : RdRow 5 rowD w (.slice (some a) (L.length - k) m) (L.drop k) :=
  ⟨some a, m, by rw [List.length_drop], by rw [List.length_drop]; omega, fun i hi => by rw [List.length_drop] at hi; omega⟩
theorem le_alloc (W : World) (m : Nat) (o : Obj) : W.heap.size ≤ ((W.drewN m).alloc o).heap.size := by rw [World.size_alloc]; exact Nat.le_succ _
theorem nb1 {n S m : Nat} {x : Value} (h : x.ownBlock = some n ∨ x.ownBlock = some m) (h1 : S ≤ n) (h2 : S ≤ m) : ∀ b, x.ownBlock = some b → S ≤ b := fun b hb => by
  rcases h with h | h
  · rw [h] at hb; simp only [Option.some.injEq] at hb; omega
  · rw [h] at hb; simp only [Option.some.injEq] at hb; omega
theorem nb2 {S m : Nat} {x y : Value} (h : x.ownBlock = y.ownBlock ∨ x.ownBlock = some m) (hy : ∀ b, y.ownBlock = some b → S ≤ b) (hm : S ≤ m) : ∀ b, x.ownBlock = some b → S ≤ b := fun b hb => by
  rcases h with h | h
  · exact hy b (h ▸ hb)
  · rw [h] at hb; simp only [Option.some.injEq] at hb; omega
theorem b13 {W w13 : World} {m : Nat} {o : Obj} (hg : ((W.drewN m).alloc o).grownBy w13 (some W.heap.size)) : Below W.heap.size W w13 :=
  (((Below.refl _ _).drN m).al o).grown hg (le_alloc W m o) (fun b hb => by simp only [Option.some.injEq] at hb; omega)
theorem own_some {α : Type} {sz : Nat} {row : α → List Value} {e : TypeId} {lo hi : Nat} {w : World} {v : Value} {xs : List α} (h : OwnRow e sz row lo hi w v xs) (hx : 0 < xs.length) : ∃ ad n cap, v = .slice (some ad) n cap := by
  rcases h.1.2 with ⟨h1, h2⟩ | ⟨g, cap, cur, hve, -⟩
  · omega
  · exact ⟨_, _, _, hve⟩
set_option maxHeartbeats 8000000 in
set_option maxRecDepth 100000 in
theorem c_spec_l26DotsO (p : List Int) (B D x t : Int) (v : Value) (w : World) (hr : RdI w v p) (hv : validP p = true) (hB : 2 ≤ B ∧ B ≤ 30) (hD : 1 ≤ D ∧ D ≤ 60) (hx : 0 ≤ x ∧ x ≤ 16) (ht : 0 ≤ t ∧ t ≤ 3000) :
    Calls Try.prog 67 #[v, .agg #[.int .i64 B, .int .i64 D], .int .i64 x, .int .i64 t] w fun e w' => ∃ u, e = .returned u ∧ OwnRow 51 5 rowD w.heap.size w'.heap.size w' u (dotsF p B D x t) ∧ Below w.heap.size w w' := by
  obtain ⟨W0, hW0, k0, k1, B0⟩ := oneState w 54 B D
  have HR : Hid (RdI w v p) := Lib.hid hr
  have HV := Lib.hid hv
  have hdiv : 0 ≤ t / B := Int.ediv_nonneg ht.1 (by omega)
  have hdiv2 : t / B ≤ t := Int.ediv_le_self B ht.1
  obtain ⟨q, hq⟩ : ∃ q : Nat, t / B = (q : Int) := ⟨(t / B).toNat, by omega⟩
  have hqb : q ≤ 3000 := by omega
  have HFN : Hid ((t / B + 1).toNat = q + 1) := by unfold Hid; omega
  have HEND := Lib.hid (dW_end hv B D x t)
  rw [HFN.out] at HEND
  have HNX := Lib.hid (fun b => nx_iff (p := p) (B := B) (t := t) (b := b) hB.1 ht.1)
  rw [HFN.out] at HNX
  rw [← HEND.out]
  have HLN := Lib.hid (validP_iff.1 hv).1.2
  clear hr hv hdiv hdiv2
  go_enter Try.func67, Try.ntmps67
  go_wp2_with fail
  rw [← hW0]
  clear hW0
  rw [show (q : Int) + 15 + 1 + 1 = ((q + 17 : Nat) : Int) by omega]
  refine (c_spec_l13Order p (q + 17) _ _ (HR.out.below B0) HV.out (by omega)).mono ?_; rintro e w2 ⟨u2, rfl, ho2, hb2⟩
  have k0 := keepc hb2 k0
  have k1 := keepc hb2 k1
  have B2 := B0.tr hb2
  obtain ⟨au, cu, hue, hul, huc⟩ := ho2.rd
  subst hue
  have HUC : Hid (∀ b, b < q + 17 → ∃ bu ou, au = some ⟨bu, ou, none⟩ ∧ w2.cell? ⟨bu, ou + b, none⟩ = some (.int .i64 (ordA p b))) := fun b hb => by
    obtain ⟨bu, ou, hau, hc⟩ := huc b (by rw [ordL_len]; exact hb)
    exact ⟨bu, ou, hau, by rw [← ordL_get p hb]; exact hc⟩
  have hll : (ordL p (q + 17)).length = q + 17 := ordL_len _ _
  obtain ⟨LL, HLL⟩ : ∃ LL, Hid ((ordL p (q + 17)).length = LL) := ⟨_, Lib.hid rfl⟩
  have hLL : LL = q + 17 := by rw [← HLL.out]; exact hll
  rw [show (ordL p (q + 17)).length = LL from HLL.out]
  subst hLL
  clear huc hul hll HLL ho2
  have hz2 : w.heap.size < w2.heap.size := World.block_lt_of_cell? _ _ k0
  have hne1 : ¬ w2.heap.size = w.heap.size := by omega
  have hne2 : ¬ w.heap.size = w2.heap.size := by omega
  go_wp2
  rw [hq]
  clear hq
  go_loopw [11, 12] (fun out i wr => ∃ n : Nat, n ≤ 16 ∧ i = .int .i64 ((q + 1 + n : Nat)) ∧ (∃ ad m cap, out = .slice (some ad) m cap) ∧ OwnRow 51 5 rowD w2.heap.size wr.heap.size wr out (dW p B D x t (q + 1) n) ∧ Below w2.heap.size w2 wr) (fun _ i _ => q + 17 - (intOf i).toNat)
  case atStart => exact ⟨0, by omega, by go_num, ⟨_, _, _, rfl⟩, (OwnRow.made rfl rfl (Nat.le_refl _)).tight, (Below.refl _ _).al _⟩
  case round =>
    obtain ⟨n, hn, rfl, hsh, hout, BR⟩ := hrel
    have k0 := keepc BR k0
    have k1 := keepc BR k1
    have BW := B2.tr BR
    have hszr := BR.size
    by_cases hlt : n < 16
    · obtain ⟨bu, ou, rfl, hx0⟩ := HUC.out (q + 1 + n) (by omega)
      have hx1 := keepc BR hx0
      have hwl := win_short p (q + 1) n
      have hfb := fr_le HV.out ((q + 1 + n : Nat) : Int)
      by_cases ha : atP p ((q + 1 + n : Nat) : Int) = 0
      · have hnx : nxB p (q + 1) (q + 1 + n) = false := by
          cases h : nxB p (q + 1) (q + 1 + n)
          · rfl
          · exact absurd ha (nx_at HV.out (by omega) h)
        have HD1 := Lib.hid (dW_skip (B := B) (D := D) (x := x) (t := t) hnx)
        have HA : Hid (p.getD (((q + 1 + n : Nat) : Int) % (p.length : Int)).toNat 0 = 0) := ha
        clear ha hnx
        go_wp2_with fail
        refine (c_spec_l02At p ((q + 1 + n : Nat) : Int) _ _ (HR.out.below BW) HLN.out (by omega)).mono ?_; rintro e w3 ⟨rfl, rfl⟩
        rw [HA.out]
        go_wp2
        go_roundw
        case rel => exact ⟨n + 1, by omega, by go_num, hsh, by rw [HD1.out]; exact hout, BR⟩
        case measure => simp [intOf]; omega
      · have ta : (p.getD (((q + 1 + n : Nat) : Int) % (p.length : Int)).toNat 0 == 0) = false := beq_eq_false_iff_ne.2 ha
        have HF : Hid (((q + 1 + n : Nat) : Int) - p.getD (liN p (((q + 1 + n : Nat) : Int) % (p.length : Int))) 0 = frP p ((q + 1 + n : Nat) : Int)) := rfl
        have hn0 := HNX.out (q + 1 + n)
        obtain ⟨A, HA⟩ : ∃ A, Hid (p.getD (((q + 1 + n : Nat) : Int) % (p.length : Int)).toNat 0 = A) := ⟨_, Lib.hid rfl⟩
        rw [HA.out] at ta
        have hm := bt_bd (b := frP p ((q + 1 + n : Nat) : Int)) (M := 3200) (by omega) hB
        obtain ⟨f, Hf⟩ : ∃ f, Hid (frP p ((q + 1 + n : Nat) : Int) = f) := ⟨_, Lib.hid rfl⟩
        rw [Hf.out] at hm HF hn0 hfb
        obtain ⟨T1, HT1⟩ : ∃ M, Hid (f * B = M) := ⟨_, Lib.hid rfl⟩
        rw [HT1.out] at hm hn0
        have hw1 : IntKind.i64.wrap (f * B) = T1 := by rw [HT1.out]; exact IntWalk.i64_in _ (by omega)
        have HN0 := Lib.hid hn0
        have HAT := Lib.hid ha
        clear ha hn0
        by_cases hnt : T1 ≤ t
        · have hnx := HN0.out.2 hnt
          have hob := ord_lt HV.out (HAT.out)
          have hpl := props_le HV.out
          have hfl := fr_le HV.out ((q + 1 + n : Nat) : Int)
          obtain ⟨O, HO⟩ : ∃ O, Hid (ordA p (q + 1 + n) = O) := ⟨_, Lib.hid rfl⟩
          rw [HO.out] at hx1 hob
          obtain ⟨g, cap, hue, hcap, hg1, hg2⟩ := own_shape hout hsh
          subst hue
          have HPR := Lib.hid (fun k hk => dW_prop (p := p) (B := B) (D := D) (x := x) (t := t) (F := q + 1) (n := n) (k := k) hk)
          have HPUT := Lib.hid (fun k hk => dW_put (p := p) (B := B) (D := D) (x := x) (t := t) hnx (k := k) hk)
          have hLl : (dW p B D x t (q + 1) n).length = (winS p (q + 1) n).length := dW_len _ _ _ _ _ _ _
          rw [← hLl] at HPUT
          have hLb : (dW p B D x t (q + 1) n).length ≤ 16 := by omega
          obtain ⟨L, HL⟩ : ∃ L, Hid (dW p B D x t (q + 1) n = L) := ⟨_, Lib.hid rfl⟩
          rw [HL.out] at hout HPR HPUT hLb hcap
          rw [show dW p B D x t (q + 1) n = L from HL.out]
          obtain ⟨PL, HPL⟩ : ∃ PL, Hid ((winS p (q + 1) n).map (ordA p) = PL) := ⟨_, Lib.hid rfl⟩
          rw [HPL.out] at HPR HPUT
          rw [HO.out] at HPUT
          clear hLl hsh
          have b1 := bt_bd (b := ((q + 1 + n : Nat) : Int)) (M := 3200) (by omega) hB
          obtain ⟨T, HT⟩ : ∃ M, Hid (((q + 1 + n : Nat) : Int) * B = M) := ⟨_, Lib.hid rfl⟩
          rw [HT.out] at b1
          obtain ⟨X1, HX1⟩ : ∃ M, Hid (sideP (f % 2) x = M) := ⟨_, Lib.hid rfl⟩
          obtain ⟨X2, HX2⟩ : ∃ M, Hid (sideP (((q + 1 + n : Nat) : Int) % 2) (3 * x) = M) := ⟨_, Lib.hid rfl⟩
          have hX1 := sideP_bd (f % 2) (x := x) (M := 16) (by omega)
          have hX2 := sideP_bd (((q + 1 + n : Nat) : Int) % 2) (x := 3 * x) (M := 48) (by omega)
          have HCF : Hid (∀ (w7 : World), RdI w7 v p → Calls Try.prog 104 #[v, .agg #[.int .i64 B, .int .i64 D], .int .i64 x, .int .i64 f] w7 fun e w' => e = .returned (.agg #[.int .i64 X1, .int .i64 X2, .int .i64 T1, .int .i64 (T - D)]) ∧ Below w7.heap.size w7 w') := fun w7 h7 => by
            have h := c_spec_l16Of p B D x f v w7 h7 HV.out hB hD hx (by omega)
            have e : f + atP p f = ((q + 1 + n : Nat) : Int) := by rw [← Hf.out]; exact at_fr HV.out _
            rw [e, HX1.out, HX2.out, HT1.out, HT.out] at h
            exact h
          rw [HX1.out] at hX1
          rw [HX2.out] at hX2
          have hw2 : IntKind.i64.wrap (T - D) = T - D := IntWalk.i64_in _ (by omega)
          have hfb2 : flB X1 X2 T1 (T - D) t := ⟨by omega, by omega, by omega, by omega, by omega⟩
          obtain ⟨-, -, ha3, hhi⟩ := alongP_bd hfb2
          obtain ⟨AL, HAL⟩ : ∃ A, Hid (alongP X1 X2 T1 (T - D) t = A) := ⟨_, Lib.hid rfl⟩
          obtain ⟨Y, HY⟩ : ∃ A, Hid (highP T1 (T - D) t = A) := ⟨_, Lib.hid rfl⟩
          rw [HAL.out] at ha3
          rw [HY.out] at hhi
          by_cases hair : t < T - D
          · have HDX : Hid (dotP p B D x t O ((q + 1 + n : Nat) : Int) = (O, -1, fraN AL (T - D - T1), fraD AL (T - D - T1), Y)) := by
              have h := dotP_air (p := p) (B := B) (D := D) (x := x) (t := t) (b := ((q + 1 + n : Nat) : Int)) O (by rw [HT.out]; exact hair)
              unfold airX at h
              rw [Hf.out, HX1.out, HX2.out, HT1.out, HT.out, HAL.out, HY.out] at h
              exact h
            have hL : 0 < T - D - T1 ∧ T - D - T1 ≤ 1000000000000 := by omega
            have hAb : -1000000000000 ≤ AL ∧ AL ≤ 1000000000000 := by omega
            have hw4 : IntKind.i64.wrap (T - D - T1) = T - D - T1 := IntWalk.i64_in _ (by omega)
            go_wp2_with fail
            refine (c_spec_l02At p ((q + 1 + n : Nat) : Int) _ _ (HR.out.below BW) HLN.out (by omega)).mono ?_; rintro e w3 ⟨rfl, rfl⟩
            rw [HA.out]
            go_wp2_with fail
            refine (c_spec_l02From p ((q + 1 + n : Nat) : Int) _ _ (HR.out.below BW) HV.out (by omega)).mono ?_; rintro e w3 ⟨rfl, hs3, hb3⟩
            rw [HF.out]
            have k0 := keepc hb3 k0
            have k1 := keepc hb3 k1
            have hx1 := keepc hb3 hx1
            have hz3 : w.heap.size < w3.heap.size := World.block_lt_of_cell? _ _ k0
            have hne3 : ¬ w3.heap.size = w.heap.size := by omega
            have hne4 : ¬ w.heap.size = w3.heap.size := by omega
            have hbz : bu < w3.heap.size := World.block_lt_of_cell? _ _ hx1
            have hne5 : ¬ w3.heap.size = bu := by omega
            go_wp2_with fail
            obtain ⟨W4, hW4⟩ : ∃ W4, W4 = w3.alloc (Obj.cells #[.int .i64 O, .int .i64 (-1), .int .i64 0, .int .i64 0, .int .i64 0] 51) := ⟨_, rfl⟩
            have DB : DBox W4 w3.heap.size O (-1) 0 0 0 := by rw [hW4]; exact dBox_new _ _ _ _ _ _
            have B34 : Below w3.heap.size w3 W4 := by rw [hW4]; exact (Below.refl _ _).al _
            rw [← hW4]
            clear hW4
            have R4 : Below wr.heap.size wr W4 := hb3.tr B34
            have hzr3 : wr.heap.size ≤ w3.heap.size := hb3.size
            have k0 := keepc B34 k0
            have k1 := keepc B34 k1
            refine (HCF.out _ (HR.out.below (BW.tr R4))).mono ?_; rintro e w5 ⟨rfl, hb5⟩
            have k0 := keepc hb5 k0
            have k1 := keepc hb5 k1
            have DB := DB.below hb5
            have hz5 : w3.heap.size < w5.heap.size := World.block_lt_of_cell? _ _ DB.c0
            have hne6 : ¬ w5.heap.size = w3.heap.size := by omega
            have hne7 : ¬ w3.heap.size = w5.heap.size := by omega
            go_wp2_with fail
            obtain ⟨W6, hW6⟩ : ∃ W6, W6 = w5.alloc (Obj.cells #[.int .i64 X1, .int .i64 X2, .int .i64 T1, .int .i64 (T - D)] 117) := ⟨_, rfl⟩
            have G0 : W6.cell? ⟨w5.heap.size, 0, none⟩ = some (.int .i64 X1) := by rw [hW6]; exact World.cell?_alloc_at _ _ _ _ rfl
            have G1 : W6.cell? ⟨w5.heap.size, 1, none⟩ = some (.int .i64 X2) := by rw [hW6]; exact World.cell?_alloc_at _ _ _ _ rfl
            have G2 : W6.cell? ⟨w5.heap.size, 2, none⟩ = some (.int .i64 T1) := by rw [hW6]; exact World.cell?_alloc_at _ _ _ _ rfl
            have G3 : W6.cell? ⟨w5.heap.size, 3, none⟩ = some (.int .i64 (T - D)) := by rw [hW6]; exact World.cell?_alloc_at _ _ _ _ rfl
            have B56 : Below w5.heap.size w5 W6 := by rw [hW6]; exact (Below.refl _ _).al _
            rw [← hW6]
            clear hW6
            have k0 := keepc B56 k0
            have k1 := keepc B56 k1
            have DB6 := DB.below B56
            have R6 := (R4.tr hb5).tr B56
            clear DB
            go_region_held3 (fun w' => w'.cell? ⟨w5.heap.size, 0, none⟩ = some (.int .i64 X1) ∧ w'.cell? ⟨w5.heap.size, 1, none⟩ = some (.int .i64 X2) ∧ w'.cell? ⟨w5.heap.size, 2, none⟩ = some (.int .i64 T1) ∧ w'.cell? ⟨w5.heap.size, 3, none⟩ = some (.int .i64 (T - D)))
              (go_keep)
              (first
              | ((go_at_call 106; refine (c_spec_l16Side X1 X2 T1 (T - D) t _ _ hfb2 (by exact G0) (by exact G1) (by exact G2) (by exact G3)).mono ?_; rintro e w7 ⟨rfl, hb7⟩; rw [HAL.out]; have hb7' := below_drew hb7; have a0 := keepc hb7' G0; have a1 := keepc hb7' G1; have a2 := keepc hb7' G2; have a3 := keepc hb7' G3))
              | ((go_at_call 105; (with_reducible refine (c_spec_l16Make AL (T - D - T1) _ hAb hL).mono ?_); rintro e w8 ⟨rfl, hb8⟩; have c0 := keepc hb8 a0; have c1 := keepc hb8 a1; have c2 := keepc hb8 a2; have c3 := keepc hb8 a3; have DB8 := DB6.below (hb7'.tr hb8); have z2 := DB8.c2; have z3 := DB8.c3; have y2 := DB8.f2; have y3 := DB8.f3)))
            have DB9 := DB8.setX (fraN AL (T - D - T1)) (fraD AL (T - D - T1))
            have R9 := ((R6.tr (hb7'.tr hb8)).setCell (p := ⟨w3.heap.size, 2, none⟩) hzr3 (.int .i64 (fraN AL (T - D - T1)))).setCell (p := ⟨w3.heap.size, 3, none⟩) hzr3 (.int .i64 (fraD AL (T - D - T1)))
            have e2 : ((w8.setCell ⟨w3.heap.size, 2, none⟩ (.int .i64 (fraN AL (T - D - T1)))).setCell ⟨w3.heap.size, 3, none⟩ (.int .i64 (fraD AL (T - D - T1)))).cell? ⟨w5.heap.size, 2, none⟩ = some (.int .i64 T1) := cell_setF (by omega) (cell_setF (by omega) c2)
            have e3 : ((w8.setCell ⟨w3.heap.size, 2, none⟩ (.int .i64 (fraN AL (T - D - T1)))).setCell ⟨w3.heap.size, 3, none⟩ (.int .i64 (fraD AL (T - D - T1)))).cell? ⟨w5.heap.size, 3, none⟩ = some (.int .i64 (T - D)) := cell_setF (by omega) (cell_setF (by omega) c3)
            clear DB8 z2 z3 y2 y3
            generalize ((w8.setCell ⟨w3.heap.size, 2, none⟩ (.int .i64 (fraN AL (T - D - T1)))).setCell ⟨w3.heap.size, 3, none⟩ (.int .i64 (fraD AL (T - D - T1)))) = W9 at *
            go_wp2_with fail
            refine (c_spec_l16Height X1 X2 T1 (T - D) t w5.heap.size _ hfb2 (by exact e2) (by exact e3)).mono ?_; rintro e w10 ⟨rfl, hb10⟩
            rw [HY.out]
            have hb10 : Below W9.heap.size W9 w10 := by first | exact hb10 | exact below_drew hb10
            have DB10 := DB9.below hb10
            have z4 := DB10.c4
            have y4 := DB10.f4
            have DB11 := DB10.setY Y
            have R11 := (R9.tr hb10).setCell (p := ⟨w3.heap.size, 4, none⟩) hzr3 (.int .i64 Y)
            go_wp2
            clear DB10 z4 y4 DB9 DB6
            generalize (w10.setCell ⟨w3.heap.size, 4, none⟩ (.int .i64 Y)) = W11 at *
            have hrd := (hout.below R11).rd rowD_len
            have HOW := Lib.hid (hout.below R11)
            rw [HDX.out] at HPUT
            have HCL : Hid (∀ k, k < L.length → W11.cell? ⟨g, k * 5, none⟩ = some (.int .i64 (PL.getD k 0))) := fun k hk => by
              obtain ⟨a9, c9, e9, -, hc9⟩ := hrd
              cases e9
              obtain ⟨b9, o9, h9, hcc⟩ := hc9 k hk
              cases h9
              have := hcc 0 _ rfl
              rw [HPR.out k hk, Nat.zero_add, Nat.add_zero] at this
              exact this
            have HRD := Lib.hid hrd
            clear hrd hout
            go_loopw [16] (fun i wz => ∃ k : Nat, k ≤ L.length ∧ i = .int .i64 k ∧ Hid (posI O PL k = posI O PL L.length) ∧ ∃ m, wz = W11.drewN m) (fun i _ => (intOf i).toNat)
            case atStart => exact ⟨L.length, Nat.le_refl _, rfl, Lib.hid rfl, 0, rfl⟩
            case round =>
              obtain ⟨k, hk, rfl, HPO, m, rfl⟩ := hrel
              have hbx := DB11.c0
              rcases k with _ | j
              · have HPO : Hid (0 = posI O PL L.length) := HPO
                have t0 : decide ((0 : Int) < ((0 : Nat) : Int)) = false := by decide
                have hz11 : w2.heap.size ≤ W11.heap.size := Nat.le_trans hszr R11.size
                have hr1 := cutE_r HRD.out 0 hk
                have hr2 : RdRow 5 rowD W11 (.slice (some ⟨g, 0, none⟩) L.length cap) (L.drop 0) := HRD.out
                have HR1 := Lib.hid hr1
                have HR2 := Lib.hid hr2
                have HPT := Lib.hid (HPUT.out 0 HPO.out)
                have hlt1 : ([] : List Dot5).length + (L.take 0).length < 1000000000 := by rw [List.length_take]; simp; (try omega)
                have hlt2 : (([] : List Dot5) ++ L.take 0).length < 1000000000 := by rw [List.nil_append, List.length_take]; omega
                have hlt3 : (([] : List Dot5) ++ L.take 0 ++ [(O, -1, fraN AL (T - D - T1), fraD AL (T - D - T1), Y)]).length + (L.drop 0).length < 1000000000 := by simp; omega
                clear hr1 hr2
                go_wp2_with fail
                go_quiet (fail)
                go_wp2_with (at_builtin; first
                  | (refine push_rowsN rfl _ _ _ _ rfl Try.underlying60 _ _ infoDotF rfl (by decide) (by decide) rowD_len rowD_one w2.heap.size (W11.heap.size + 1) (.slice (some ⟨W11.heap.size, 0, none⟩) 0 0) (.slice (some ⟨g, 0, none⟩) 0 cap) ([] : List Dot5) (L.take 0) _ rfl rfl (by exact OwnRow.made rfl rfl hz11) ⟨_, _, _, rfl⟩ (by exact HR1.out.below ((((Below.refl _ _).drN _).al _))) hlt1 (by exact Nat.le_trans hz11 (by simp)) ?_; intro x1 w13 ho13 hg13 hat13 hs13; have hat13' := nb1 hat13 (Nat.le_refl _) (le_alloc _ _ _); have B13 := b13 hg13; have DB13 := DB11.below B13; obtain ⟨q0, q1, q2, q3, q4, -, -, -, -⟩ := DB13; have hz13 := Nat.le_trans hz11 B13.size; clear hat13 hs13)
                  | (refine push_row_at rfl _ _ _ _ rfl Try.underlying60 _ _ infoDotF rfl (by decide) (by decide) rowD_len w2.heap.size w13.heap.size x1 (([] : List Dot5) ++ L.take 0) (O, -1, fraN AL (T - D - T1), fraD AL (T - D - T1), Y) _ w13 rfl (rowD_one _) rfl rfl (by exact ho13) hlt2 hz13 ?_; intro x2 w14 ho14 hbel14 hs14 hg14 hat14; have hat14' := nb2 hat14 hat13' (Nat.le_trans B13.size (Nat.le_succ _)); have B14 : Below W11.heap.size W11 w14 := B13.grown hg14 B13.size hat13'; have hz14 := Nat.le_trans hz11 B14.size; clear hat14 hbel14 hs14)
                  | (refine push_rowsN rfl _ _ _ _ rfl Try.underlying60 _ _ infoDotF rfl (by decide) (by decide) rowD_len rowD_one w2.heap.size w14.heap.size x2 (.slice (some ⟨g, 0, none⟩) L.length cap) (([] : List Dot5) ++ L.take 0 ++ [(O, -1, fraN AL (T - D - T1), fraD AL (T - D - T1), Y)]) (L.drop 0) w14 rfl rfl (by exact ho14) (own_some ho14 (by simp)) (by exact HR2.out.below B14) hlt3 hz14 ?_; intro x3 w15 ho15 hg15 hat15 hs15; have B15 : Below W11.heap.size W11 w15 := B14.grown hg15 B14.size hat14'))
                go_roundw
                case rel => exact ⟨n + 1, by omega, by go_num, own_some ho15 (by simp), by rw [HPT.out]; exact ho15, BR.tr (R11.tr B15)⟩
                case measure => simp [intOf]; omega
              · have hcj := HCL.out j (by omega)
                have hwj : IntKind.i64.wrap (((j + 1 : Nat) : Int) - 1) = (j : Int) := by rw [show ((j + 1 : Nat) : Int) - 1 = (j : Int) by omega]; exact wraps_i64 _ (by omega) (by omega)
                have hwj2 : IntKind.i64.wrap ((j : Int) + 1 - 1) = (j : Int) := by rw [show (j : Int) + 1 - 1 = (j : Int) by omega]; exact wraps_i64 _ (by omega) (by omega)
                have hj0 : (0 : Int) ≤ (j : Int) := by omega
                have hj1 : (j : Int) < (L.length : Int) := by omega
                have tp : decide ((0 : Int) < ((j + 1 : Nat) : Int)) = true := by simp; (try omega)
                have tp2 : decide ((0 : Int) < (j : Int) + 1) = true := by simp; (try omega)
                obtain ⟨y, Hy⟩ : ∃ y, Hid (PL.getD j 0 = y) := ⟨_, Lib.hid rfl⟩
                rw [Hy.out] at hcj
                by_cases hc : O < y
                · have HPO2 : Hid (posI O PL j = posI O PL L.length) := by
                    unfold Hid
                    rw [← HPO.out]
                    show _ = (if O < PL.getD j 0 then posI O PL j else j + 1)
                    rw [if_pos (by rw [Hy.out]; exact hc)]
                  have tc : decide (O < y) = true := by simpa using hc
                  go_wp2_with fail
                  go_quiet (fail)
                  go_wp2
                  go_roundw
                  case rel => exact ⟨j, by omega, by go_num, HPO2, _, rfl⟩
                  case measure => simp [intOf]
                · have HPO2 : Hid (j + 1 = posI O PL L.length) := by
                    unfold Hid
                    rw [← HPO.out]
                    show _ = (if O < PL.getD j 0 then posI O PL j else j + 1)
                    rw [if_neg (by rw [Hy.out]; exact hc)]
                  have tc : decide (O < y) = false := by simpa using hc
                  have hz11 : w2.heap.size ≤ W11.heap.size := Nat.le_trans hszr R11.size
                  have hr1 := cutE_r HRD.out (j + 1) hk
                  have hr2 := fun mm : Nat => cutE_l (m := mm) HRD.out (j + 1) hk
                  have HR1 := Lib.hid hr1
                  have HR2 := Lib.hid hr2
                  have HPT := Lib.hid (HPUT.out (j + 1) HPO2.out)
                  have hlt1 : ([] : List Dot5).length + (L.take (j + 1)).length < 1000000000 := by rw [List.length_take]; simp; (try omega)
                  have hlt2 : (([] : List Dot5) ++ L.take (j + 1)).length < 1000000000 := by rw [List.nil_append, List.length_take]; omega
                  have hlt3 : (([] : List Dot5) ++ L.take (j + 1) ++ [(O, -1, fraN AL (T - D - T1), fraD AL (T - D - T1), Y)]).length + (L.drop (j + 1)).length < 1000000000 := by simp; omega
                  clear hr1 hr2
                  go_wp2_with fail
                  go_quiet (fail)
                  go_wp2_with (at_builtin; first
                    | (refine push_rowsN rfl _ _ _ _ rfl Try.underlying60 _ _ infoDotF rfl (by decide) (by decide) rowD_len rowD_one w2.heap.size (W11.heap.size + 1) (.slice (some ⟨W11.heap.size, 0, none⟩) 0 0) (.slice (some ⟨g, 0, none⟩) (j + 1) cap) ([] : List Dot5) (L.take (j + 1)) _ rfl rfl (by exact OwnRow.made rfl rfl hz11) ⟨_, _, _, rfl⟩ (by exact HR1.out.below ((((Below.refl _ _).drN _).al _))) hlt1 (by exact Nat.le_trans hz11 (by simp)) ?_; intro x1 w13 ho13 hg13 hat13 hs13; have hat13' := nb1 hat13 (Nat.le_refl _) (le_alloc _ _ _); have B13 := b13 hg13; have DB13 := DB11.below B13; obtain ⟨q0, q1, q2, q3, q4, -, -, -, -⟩ := DB13; have hz13 := Nat.le_trans hz11 B13.size; clear hat13 hs13)
                    | (refine push_row_at rfl _ _ _ _ rfl Try.underlying60 _ _ infoDotF rfl (by decide) (by decide) rowD_len w2.heap.size w13.heap.size x1 (([] : List Dot5) ++ L.take (j + 1)) (O, -1, fraN AL (T - D - T1), fraD AL (T - D - T1), Y) _ w13 rfl (rowD_one _) rfl rfl (by exact ho13) hlt2 hz13 ?_; intro x2 w14 ho14 hbel14 hs14 hg14 hat14; have hat14' := nb2 hat14 hat13' (Nat.le_trans B13.size (Nat.le_succ _)); have B14 : Below W11.heap.size W11 w14 := B13.grown hg14 B13.size hat13'; have hz14 := Nat.le_trans hz11 B14.size; clear hat14 hbel14 hs14)
                    | (refine stop_of ?_))
                  all_goals (unfold Stopped; refine push_rowsN rfl _ _ _ _ rfl Try.underlying60 _ _ infoDotF rfl (by decide) (by decide) rowD_len rowD_one w2.heap.size w14.heap.size x2 _ (([] : List Dot5) ++ L.take (j + 1) ++ [(O, -1, fraN AL (T - D - T1), fraD AL (T - D - T1), Y)]) (L.drop (j + 1)) w14 rfl rfl (by exact ho14) (own_some ho14 (by simp)) (by first | exact (HR2.out _).below B14 | exact (cutE_nil (by omega)).below B14) hlt3 hz14 ?_; intro x3 w15 ho15 hg15 hat15 hs15; have B15 : Below W11.heap.size W11 w15 := B14.grown hg15 B14.size hat14')
                  all_goals go_wp2
                  all_goals go_roundw
                  all_goals (first | exact ⟨n + 1, by omega, by go_num, own_some ho15 (by rw [List.length_append, List.length_append]; show 0 < _ + 1 + _; omega), by rw [HPT.out]; exact ho15, BR.tr (R11.tr B15)⟩ | (simp [intOf]; omega))
          · obtain ⟨R, HRR⟩ : ∃ R, Hid (((q + 1 + n : Nat) : Int) % 2 = R) := ⟨_, Lib.hid rfl⟩
            obtain ⟨HX, HHX⟩ : ∃ H, Hid (heldX B D x t ((q + 1 + n : Nat) : Int) = H) := ⟨_, Lib.hid rfl⟩
            have HDX : Hid (dotP p B D x t O ((q + 1 + n : Nat) : Int) = (O, R, fraN HX D, fraD HX D, 0)) := by
              have h := dotP_held (p := p) (B := B) (D := D) (x := x) (t := t) (b := ((q + 1 + n : Nat) : Int)) O (by rw [HT.out]; exact hair)
              rw [HRR.out, HHX.out] at h
              exact h
            go_wp2_with fail
            refine (c_spec_l02At p ((q + 1 + n : Nat) : Int) _ _ (HR.out.below BW) HLN.out (by omega)).mono ?_; rintro e w3 ⟨rfl, rfl⟩
            rw [HA.out]
            go_wp2_with fail
            refine (c_spec_l02From p ((q + 1 + n : Nat) : Int) _ _ (HR.out.below BW) HV.out (by omega)).mono ?_; rintro e w3 ⟨rfl, hs3, hb3⟩
            rw [HF.out]
            have k0 := keepc hb3 k0
            have k1 := keepc hb3 k1
            have hx1 := keepc hb3 hx1
            have hz3 : w.heap.size < w3.heap.size := World.block_lt_of_cell? _ _ k0
            have hne3 : ¬ w3.heap.size = w.heap.size := by omega
            have hne4 : ¬ w.heap.size = w3.heap.size := by omega
            have hbz : bu < w3.heap.size := World.block_lt_of_cell? _ _ hx1
            have hne5 : ¬ w3.heap.size = bu := by omega
            go_wp2_with fail
            obtain ⟨W4, hW4⟩ : ∃ W4, W4 = w3.alloc (Obj.cells #[.int .i64 O, .int .i64 (-1), .int .i64 0, .int .i64 0, .int .i64 0] 51) := ⟨_, rfl⟩
            have DB : DBox W4 w3.heap.size O (-1) 0 0 0 := by rw [hW4]; exact dBox_new _ _ _ _ _ _
            have B34 : Below w3.heap.size w3 W4 := by rw [hW4]; exact (Below.refl _ _).al _
            rw [← hW4]
            clear hW4
            have R4 : Below wr.heap.size wr W4 := hb3.tr B34
            have hzr3 : wr.heap.size ≤ w3.heap.size := hb3.size
            have k0 := keepc B34 k0
            have k1 := keepc B34 k1
            refine (HCF.out _ (HR.out.below (BW.tr R4))).mono ?_; rintro e w5 ⟨rfl, hb5⟩
            have k0 := keepc hb5 k0
            have k1 := keepc hb5 k1
            have DB := DB.below hb5
            have hz5 : w3.heap.size < w5.heap.size := World.block_lt_of_cell? _ _ DB.c0
            have hne6 : ¬ w5.heap.size = w3.heap.size := by omega
            have hne7 : ¬ w3.heap.size = w5.heap.size := by omega
            go_wp2_with fail
            obtain ⟨W6, hW6⟩ : ∃ W6, W6 = w5.alloc (Obj.cells #[.int .i64 X1, .int .i64 X2, .int .i64 T1, .int .i64 (T - D)] 117) := ⟨_, rfl⟩
            have G0 : W6.cell? ⟨w5.heap.size, 0, none⟩ = some (.int .i64 X1) := by rw [hW6]; exact World.cell?_alloc_at _ _ _ _ rfl
            have G1 : W6.cell? ⟨w5.heap.size, 1, none⟩ = some (.int .i64 X2) := by rw [hW6]; exact World.cell?_alloc_at _ _ _ _ rfl
            have G2 : W6.cell? ⟨w5.heap.size, 2, none⟩ = some (.int .i64 T1) := by rw [hW6]; exact World.cell?_alloc_at _ _ _ _ rfl
            have G3 : W6.cell? ⟨w5.heap.size, 3, none⟩ = some (.int .i64 (T - D)) := by rw [hW6]; exact World.cell?_alloc_at _ _ _ _ rfl
            have B56 : Below w5.heap.size w5 W6 := by rw [hW6]; exact (Below.refl _ _).al _
            rw [← hW6]
            clear hW6
            have k0 := keepc B56 k0
            have k1 := keepc B56 k1
            have DB6 := DB.below B56
            have R6 := (R4.tr hb5).tr B56
            clear DB
            refine (c_spec_l02Mod ((q + 1 + n : Nat) : Int) 2 _ (by omega) (by omega)).mono ?_; rintro e w7 ⟨rfl, rfl⟩
            rw [HRR.out]
            have z1 := DB6.c1
            have y1 := DB6.f1
            have DB7 := DB6.setH R
            have R7 := R6.setCell (p := ⟨w3.heap.size, 1, none⟩) hzr3 (.int .i64 R)
            have k0 : (W6.setCell ⟨w3.heap.size, 1, none⟩ (.int .i64 R)).cell? ⟨w.heap.size, 0, none⟩ = some (.int .i64 B) := cell_setF (by omega) k0
            have k1 : (W6.setCell ⟨w3.heap.size, 1, none⟩ (.int .i64 R)).cell? ⟨w.heap.size, 1, none⟩ = some (.int .i64 D) := cell_setF (by omega) k1
            go_wp2_with fail
            clear z1 y1 DB6
            generalize (W6.setCell ⟨w3.heap.size, 1, none⟩ (.int .i64 R)) = W7 at *
            refine (c_spec_l26Hold B D x ((q + 1 + n : Nat) : Int) t _ hB hD hx (by omega) ht).mono ?_; rintro e w8 ⟨rfl, hb8⟩
            rw [HHX.out]
            have DB8 := DB7.below hb8
            have z2 := DB8.c2
            have z3 := DB8.c3
            have y2 := DB8.f2
            have y3 := DB8.f3
            have DB11 := DB8.setX (fraN HX D) (fraD HX D)
            have R11 := ((R7.tr hb8).setCell (p := ⟨w3.heap.size, 2, none⟩) hzr3 (.int .i64 (fraN HX D))).setCell (p := ⟨w3.heap.size, 3, none⟩) hzr3 (.int .i64 (fraD HX D))
            go_wp2
            clear DB8 DB7 z2 z3 y2 y3
            generalize ((w8.setCell ⟨w3.heap.size, 2, none⟩ (.int .i64 (fraN HX D))).setCell ⟨w3.heap.size, 3, none⟩ (.int .i64 (fraD HX D))) = W11 at *
            have hrd := (hout.below R11).rd rowD_len
            have HOW := Lib.hid (hout.below R11)
            rw [HDX.out] at HPUT
            have HCL : Hid (∀ k, k < L.length → W11.cell? ⟨g, k * 5, none⟩ = some (.int .i64 (PL.getD k 0))) := fun k hk => by
              obtain ⟨a9, c9, e9, -, hc9⟩ := hrd
              cases e9
              obtain ⟨b9, o9, h9, hcc⟩ := hc9 k hk
              cases h9
              have := hcc 0 _ rfl
              rw [HPR.out k hk, Nat.zero_add, Nat.add_zero] at this
              exact this
            have HRD := Lib.hid hrd
            clear hrd hout
            go_loopw [16] (fun i wz => ∃ k : Nat, k ≤ L.length ∧ i = .int .i64 k ∧ Hid (posI O PL k = posI O PL L.length) ∧ ∃ m, wz = W11.drewN m) (fun i _ => (intOf i).toNat)
            case atStart => exact ⟨L.length, Nat.le_refl _, rfl, Lib.hid rfl, 0, rfl⟩
            case round =>
              obtain ⟨k, hk, rfl, HPO, m, rfl⟩ := hrel
              have hbx := DB11.c0
              rcases k with _ | j
              · have HPO : Hid (0 = posI O PL L.length) := HPO
                have t0 : decide ((0 : Int) < ((0 : Nat) : Int)) = false := by decide
                have hz11 : w2.heap.size ≤ W11.heap.size := Nat.le_trans hszr R11.size
                have hr1 := cutE_r HRD.out 0 hk
                have hr2 : RdRow 5 rowD W11 (.slice (some ⟨g, 0, none⟩) L.length cap) (L.drop 0) := HRD.out
                have HR1 := Lib.hid hr1
                have HR2 := Lib.hid hr2
                have HPT := Lib.hid (HPUT.out 0 HPO.out)
                have hlt1 : ([] : List Dot5).length + (L.take 0).length < 1000000000 := by rw [List.length_take]; simp; (try omega)
                have hlt2 : (([] : List Dot5) ++ L.take 0).length < 1000000000 := by rw [List.nil_append, List.length_take]; omega
                have hlt3 : (([] : List Dot5) ++ L.take 0 ++ [(O, R, fraN HX D, fraD HX D, 0)]).length + (L.drop 0).length < 1000000000 := by simp; omega
                clear hr1 hr2
                go_wp2_with fail
                go_quiet (fail)
                go_wp2_with (at_builtin; first
                  | (refine push_rowsN rfl _ _ _ _ rfl Try.underlying60 _ _ infoDotF rfl (by decide) (by decide) rowD_len rowD_one w2.heap.size (W11.heap.size + 1) (.slice (some ⟨W11.heap.size, 0, none⟩) 0 0) (.slice (some ⟨g, 0, none⟩) 0 cap) ([] : List Dot5) (L.take 0) _ rfl rfl (by exact OwnRow.made rfl rfl hz11) ⟨_, _, _, rfl⟩ (by exact HR1.out.below ((((Below.refl _ _).drN _).al _))) hlt1 (by exact Nat.le_trans hz11 (by simp)) ?_; intro x1 w13 ho13 hg13 hat13 hs13; have hat13' := nb1 hat13 (Nat.le_refl _) (le_alloc _ _ _); have B13 := b13 hg13; have DB13 := DB11.below B13; obtain ⟨q0, q1, q2, q3, q4, -, -, -, -⟩ := DB13; have hz13 := Nat.le_trans hz11 B13.size; clear hat13 hs13)
                  | (refine push_row_at rfl _ _ _ _ rfl Try.underlying60 _ _ infoDotF rfl (by decide) (by decide) rowD_len w2.heap.size w13.heap.size x1 (([] : List Dot5) ++ L.take 0) (O, R, fraN HX D, fraD HX D, 0) _ w13 rfl (rowD_one _) rfl rfl (by exact ho13) hlt2 hz13 ?_; intro x2 w14 ho14 hbel14 hs14 hg14 hat14; have hat14' := nb2 hat14 hat13' (Nat.le_trans B13.size (Nat.le_succ _)); have B14 : Below W11.heap.size W11 w14 := B13.grown hg14 B13.size hat13'; have hz14 := Nat.le_trans hz11 B14.size; clear hat14 hbel14 hs14)
                  | (refine push_rowsN rfl _ _ _ _ rfl Try.underlying60 _ _ infoDotF rfl (by decide) (by decide) rowD_len rowD_one w2.heap.size w14.heap.size x2 (.slice (some ⟨g, 0, none⟩) L.length cap) (([] : List Dot5) ++ L.take 0 ++ [(O, R, fraN HX D, fraD HX D, 0)]) (L.drop 0) w14 rfl rfl (by exact ho14) (own_some ho14 (by simp)) (by exact HR2.out.below B14) hlt3 hz14 ?_; intro x3 w15 ho15 hg15 hat15 hs15; have B15 : Below W11.heap.size W11 w15 := B14.grown hg15 B14.size hat14'))
                go_roundw
                case rel => exact ⟨n + 1, by omega, by go_num, own_some ho15 (by simp), by rw [HPT.out]; exact ho15, BR.tr (R11.tr B15)⟩
                case measure => simp [intOf]; omega
              · have hcj := HCL.out j (by omega)
                have hwj : IntKind.i64.wrap (((j + 1 : Nat) : Int) - 1) = (j : Int) := by rw [show ((j + 1 : Nat) : Int) - 1 = (j : Int) by omega]; exact wraps_i64 _ (by omega) (by omega)
                have hwj2 : IntKind.i64.wrap ((j : Int) + 1 - 1) = (j : Int) := by rw [show (j : Int) + 1 - 1 = (j : Int) by omega]; exact wraps_i64 _ (by omega) (by omega)
                have hj0 : (0 : Int) ≤ (j : Int) := by omega
                have hj1 : (j : Int) < (L.length : Int) := by omega
                have tp : decide ((0 : Int) < ((j + 1 : Nat) : Int)) = true := by simp; (try omega)
                have tp2 : decide ((0 : Int) < (j : Int) + 1) = true := by simp; (try omega)
                obtain ⟨y, Hy⟩ : ∃ y, Hid (PL.getD j 0 = y) := ⟨_, Lib.hid rfl⟩
                rw [Hy.out] at hcj
                by_cases hc : O < y
                · have HPO2 : Hid (posI O PL j = posI O PL L.length) := by
                    unfold Hid
                    rw [← HPO.out]
                    show _ = (if O < PL.getD j 0 then posI O PL j else j + 1)
                    rw [if_pos (by rw [Hy.out]; exact hc)]
                  have tc : decide (O < y) = true := by simpa using hc
                  go_wp2_with fail
                  go_quiet (fail)
                  go_wp2
                  go_roundw
                  case rel => exact ⟨j, by omega, by go_num, HPO2, _, rfl⟩
                  case measure => simp [intOf]
                · have HPO2 : Hid (j + 1 = posI O PL L.length) := by
                    unfold Hid
                    rw [← HPO.out]
                    show _ = (if O < PL.getD j 0 then posI O PL j else j + 1)
                    rw [if_neg (by rw [Hy.out]; exact hc)]
                  have tc : decide (O < y) = false := by simpa using hc
                  have hz11 : w2.heap.size ≤ W11.heap.size := Nat.le_trans hszr R11.size
                  have hr1 := cutE_r HRD.out (j + 1) hk
                  have hr2 := fun mm : Nat => cutE_l (m := mm) HRD.out (j + 1) hk
                  have HR1 := Lib.hid hr1
                  have HR2 := Lib.hid hr2
                  have HPT := Lib.hid (HPUT.out (j + 1) HPO2.out)
                  have hlt1 : ([] : List Dot5).length + (L.take (j + 1)).length < 1000000000 := by rw [List.length_take]; simp; (try omega)
                  have hlt2 : (([] : List Dot5) ++ L.take (j + 1)).length < 1000000000 := by rw [List.nil_append, List.length_take]; omega
                  have hlt3 : (([] : List Dot5) ++ L.take (j + 1) ++ [(O, R, fraN HX D, fraD HX D, 0)]).length + (L.drop (j + 1)).length < 1000000000 := by simp; omega
                  clear hr1 hr2
                  go_wp2_with fail
                  go_quiet (fail)
                  go_wp2_with (at_builtin; first
                    | (refine push_rowsN rfl _ _ _ _ rfl Try.underlying60 _ _ infoDotF rfl (by decide) (by decide) rowD_len rowD_one w2.heap.size (W11.heap.size + 1) (.slice (some ⟨W11.heap.size, 0, none⟩) 0 0) (.slice (some ⟨g, 0, none⟩) (j + 1) cap) ([] : List Dot5) (L.take (j + 1)) _ rfl rfl (by exact OwnRow.made rfl rfl hz11) ⟨_, _, _, rfl⟩ (by exact HR1.out.below ((((Below.refl _ _).drN _).al _))) hlt1 (by exact Nat.le_trans hz11 (by simp)) ?_; intro x1 w13 ho13 hg13 hat13 hs13; have hat13' := nb1 hat13 (Nat.le_refl _) (le_alloc _ _ _); have B13 := b13 hg13; have DB13 := DB11.below B13; obtain ⟨q0, q1, q2, q3, q4, -, -, -, -⟩ := DB13; have hz13 := Nat.le_trans hz11 B13.size; clear hat13 hs13)
                    | (refine push_row_at rfl _ _ _ _ rfl Try.underlying60 _ _ infoDotF rfl (by decide) (by decide) rowD_len w2.heap.size w13.heap.size x1 (([] : List Dot5) ++ L.take (j + 1)) (O, R, fraN HX D, fraD HX D, 0) _ w13 rfl (rowD_one _) rfl rfl (by exact ho13) hlt2 hz13 ?_; intro x2 w14 ho14 hbel14 hs14 hg14 hat14; have hat14' := nb2 hat14 hat13' (Nat.le_trans B13.size (Nat.le_succ _)); have B14 : Below W11.heap.size W11 w14 := B13.grown hg14 B13.size hat13'; have hz14 := Nat.le_trans hz11 B14.size; clear hat14 hbel14 hs14)
                    | (refine stop_of ?_))
                  all_goals (unfold Stopped; refine push_rowsN rfl _ _ _ _ rfl Try.underlying60 _ _ infoDotF rfl (by decide) (by decide) rowD_len rowD_one w2.heap.size w14.heap.size x2 _ (([] : List Dot5) ++ L.take (j + 1) ++ [(O, R, fraN HX D, fraD HX D, 0)]) (L.drop (j + 1)) w14 rfl rfl (by exact ho14) (own_some ho14 (by simp)) (by first | exact (HR2.out _).below B14 | exact (cutE_nil (by omega)).below B14) hlt3 hz14 ?_; intro x3 w15 ho15 hg15 hat15 hs15; have B15 : Below W11.heap.size W11 w15 := B14.grown hg15 B14.size hat14')
                  all_goals go_wp2
                  all_goals go_roundw
                  all_goals (first | exact ⟨n + 1, by omega, by go_num, own_some ho15 (by rw [List.length_append, List.length_append]; show 0 < _ + 1 + _; omega), by rw [HPT.out]; exact ho15, BR.tr (R11.tr B15)⟩ | (simp [intOf]; omega))
        · have hnx : nxB p (q + 1) (q + 1 + n) = false := by
            cases h : nxB p (q + 1) (q + 1 + n)
            · rfl
            · exact absurd (HN0.out.1 h) hnt
          have HD1 := Lib.hid (dW_skip (B := B) (D := D) (x := x) (t := t) hnx)
          clear hnx
          go_wp2_with fail
          refine (c_spec_l02At p ((q + 1 + n : Nat) : Int) _ _ (HR.out.below BW) HLN.out (by omega)).mono ?_; rintro e w3 ⟨rfl, rfl⟩
          rw [HA.out]
          go_wp2_with fail
          refine (c_spec_l02From p ((q + 1 + n : Nat) : Int) _ _ (HR.out.below BW) HV.out (by omega)).mono ?_; rintro e w3 ⟨rfl, hs3, hb3⟩
          rw [HF.out]
          have k0 := keepc hb3 k0
          have k1 := keepc hb3 k1
          go_wp2
          go_roundw
          case rel => exact ⟨n + 1, by omega, by go_num, hsh, by rw [HD1.out]; exact (hout.below hb3).tight, BR.tr hb3⟩
          case measure => simp [intOf]; omega
    · obtain rfl : n = 16 := by omega
      go_wp2
      go_ret
      exact ⟨_, rfl, hout.wide (by omega) (Nat.le_refl _), BW⟩
theorem c_spec_l26Dots (p : List Int) (B D x t : Int) (v : Value) (w : World) (hr : RdI w v p) (hv : validP p = true) (hB : 2 ≤ B ∧ B ≤ 30) (hD : 1 ≤ D ∧ D ≤ 60) (hx : 0 ≤ x ∧ x ≤ 16) (ht : 0 ≤ t ∧ t ≤ 3000) :
    Calls Try.prog 67 #[v, .agg #[.int .i64 B, .int .i64 D], .int .i64 x, .int .i64 t] w fun e w' => ∃ u, e = .returned u ∧ RdRow 5 rowD w' u (dotsF p B D x t) ∧ Below w.heap.size w w' := by
  refine (c_spec_l26DotsO p B D x t v w hr hv hB hD hx ht).mono ?_
  rintro e w' ⟨u, rfl, ho, hb⟩
  exact ⟨u, rfl, ho.rd rowD_len, hb⟩
end Go.Proofs.Ytddfdppoclnpcaa
