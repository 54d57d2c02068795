/- Contracts of TourPattern, the program's and the reference's. -/
import Derived.Test.YtjjghmmpfnlpaaaTourP
import Derived.Deep.QuietTactic
namespace Go.Proofs.Ytjjghmmpfnlpaaa
open Go.ChangeShapes Go.WideShapes Go.ChangeAt Go.RowKit
set_option linter.unusedSimpArgs false
set_option linter.unusedVariables false
theorem tp_ok {X : List (List Int)} {h : Int} (hs : someC X h = 0) : tpC X h = (if (tpL X h).length > 12 then 5 else 0) ∧ tpX X h = (if (tpL X h).length > 12 then [] else tpL X h) := by
  unfold tpC tpX; rw [if_pos hs, if_pos hs]; exact ⟨rfl, rfl⟩
theorem tp_not {X : List (List Int)} {h : Int} (hs : ¬ someC X h = 0) : tpC X h = someC X h ∧ tpX X h = [] := by
  unfold tpC tpX; rw [if_neg hs, if_neg hs]; exact ⟨rfl, rfl⟩
theorem rdG_at {w : World} {a : Option Addr} {n cap : Nat} {X : List (List Int)} (h : RdG w (.slice a n cap) X) (k : Nat) (hk : k < X.length) : ∃ b off u, a = some ⟨b, off, none⟩ ∧ w.cell? ⟨b, off + k, none⟩ = some u ∧ RdI w u (X.getD k []) := by
  obtain ⟨a', cap', he, _, hc⟩ := h
  cases he
  exact hc k hk
theorem some_sliceT {E : TypeId} {B k : Nat} {w : World} {v : Value} {xs : List Int} (h : OwnI E B w v xs) (hb : v.ownBlock = some k) : ∃ ad n cap, v = .slice (some ad) n cap := by
  rcases h.2 with ⟨rfl, _⟩ | ⟨g, cap, cur, rfl, _⟩
  · cases hb
  · exact ⟨_, _, _, rfl⟩
theorem wp_push_ints {P : Program} {o : Oper} {a : Act} {K : Act → World → Prop} {Q : Exit → Act → World → Prop} {e : TypeId} (hgd : o.guard = none) (s x : Operand) (t : TypeId)
    (ho : o.op = .call { callee := .builtin .append, args := #[s, x], argTypes := #[t, t] })
    (ht : P.underlying t = some (.slice e)) (hinfo : (P.info? e).map (fun i => (i.zero, i.size, i.bytes)) = some (some (.int .i64 0), 1, 8))
    (B : Nat) (v u : Value) (xs ys : List Int) (w0 : World) (hs : a.eval s = v) (hx : a.eval x = u)
    (hown : OwnI e B w0 v xs) (hv : ∃ ad n cap, v = .slice (some ad) n cap) (hr : RdI w0 u ys) (hlen : xs.length + ys.length < 1000000000) (hB : B ≤ w0.heap.size)
    (h : ∀ v' w', OwnI e B w' v' (xs ++ ys) → w0.grownBy w' v.ownBlock → (∃ ad n cap, v' = .slice (some ad) n cap) → w0.heap.size ≤ w'.heap.size → K (a.put o.dst v') w') :
    Oper.wp P o a w0 K Q := by
  have h9 := step_push_ints (ops := #[]) (Q := Q) (Ep := True) hgd s x t ho ht hinfo B v u xs ys w0 hs hx hown hv hr hlen hB h
  rw [if_pos (by simp [Region.wanted, hgd])] at h9
  exact h9
set_option maxHeartbeats 1000000 in
set_option maxRecDepth 100000 in
theorem c_impl_TourPattern (X : List (List Int)) (h : Int) (v : Value) (w : World) (hr : RdG w v X) :
    Calls Try.prog 20 #[v, .int .i64 h] w fun e w' => ∃ u, e = .returned (.tuple #[u, .int .i64 (tpC X h)]) ∧ OwnI1 w.heap.size w' u (tpX X h) ∧ Below w.heap.size w w' := by
  have HR := Lib.hid hr
  cases hc : (someC X h != 0)
  · have hc0 : someC X h = 0 := by simpa using hc
    obtain ⟨hp, hlen, -, -⟩ := st_facts hc0
    have HX := Lib.hid (stO_zero hc0)
    have HC := Lib.hid hc0
    have HK := Lib.hid (some_okT hc0)
    have HT := Lib.hid (tp_ok hc0)
    have HBD := Lib.hid (tp_bd hc0)
    have HP := Lib.hid hp
    have hn8 : X.length ≤ 8 := (tab_ok HK.out.1).2.1
    have hn1 : 1 ≤ X.length := by have := HK.out.2; omega
    have HL : Hid (tpL X h = tpTo X h (stO X h) X.length) := by unfold Hid tpL; rw [hlen]
    obtain ⟨O, HO⟩ : ∃ O, Hid (stO X h = O) := ⟨_, rfl⟩
    have hX1 := HX.out.1
    rw [HO.out] at hX1 hlen
    rw [HO.out] at HP HBD HL
    have HX1 := Lib.hid hX1
    clear hX1
    have HLN := Lib.hid hlen
    have HST : Hid (∀ k, tpTo X h O (k + 1) = tpTo X h O k ++ X.getD (oI O k) [] ++ bridgeL (X.getD (oI O k) []) (X.getD (oI O ((k + 1) % O.length)) []) h) := fun k => rfl
    clear hc0 hp
    obtain ⟨a1, cap1, rfl, -, -⟩ := hr
    obtain ⟨n, Hn⟩ : ∃ n, Hid (X.length = n) := ⟨_, rfl⟩
    rw [Hn.out] at hn8 hn1 HL HLN ⊢
    clear hlen
    go_enter Try.func20, Try.ntmps20
    go_wp2_with fail
    refine (c_impl_someCode X h _ _ (by rw [← Hn.out]; exact HR.out)).mono ?_; rintro e w1 ⟨rfl, hb1⟩; rw [HC.out]
    go_wp2_with fail
    refine (c_impl_tour X h _ _ (by rw [← Hn.out]; exact HR.out.below hb1) HK.out.1 (by have := HK.out.2; omega)).mono ?_; rintro e w2 ⟨u2, rfl, ho2, -, hb2⟩
    rw [← HX1.out] at ho2
    have BB := Lib.hid (hb1.tr hb2)
    have HRD := Lib.hid ho2.rd
    obtain ⟨ao, co, rfl, -, -⟩ := ho2.rd
    rw [HLN.out]
    clear ho2 hb1 hb2
    go_wp2_with fail
    go_loopw [9, 28] (fun out kv wr => ∃ k : Nat, k ≤ n ∧ kv = .int .i64 k ∧ OwnI1 w2.heap.size wr out (tpTo X h O k) ∧ (∃ ad m c, out = .slice (some ad) m c) ∧ Below w2.heap.size w2 wr) (fun _ kv _ => n - (intOf kv).toNat)
    case atStart => exact ⟨0, by omega, rfl, OwnI.made rfl rfl (Nat.le_refl _), ⟨_, _, _, rfl⟩, by (repeat (first | (with_reducible assumption) | (with_reducible exact Below.refl _ _) | (with_reducible refine Below.setCell ?_ (by first | (simp; done) | (simp; omega)) _) | (with_reducible refine Below.al ?_ _) | (with_reducible refine Below.dr ?_) | (with_reducible refine Below.drN ?_ _) | (with_reducible refine Below.tr ?_ (by with_reducible assumption))))⟩
    case round =>
      obtain ⟨k, hk, rfl, hown, ⟨ad, m, c, rfl⟩, hb⟩ := hrel
      by_cases hlt : k < n
      · obtain ⟨hk1, hk2⟩ := oI_lt HP.out (i := k) (by rw [HLN.out]; exact hlt)
        obtain ⟨J, HJ⟩ : ∃ J, Hid ((k + 1) % n = J) := ⟨_, rfl⟩
        have hJn : J < n := by rw [← HJ.out]; exact Nat.mod_lt _ (by omega)
        obtain ⟨hj1, hj2⟩ := oI_lt HP.out (i := J) (by rw [HLN.out]; exact hJn)
        obtain ⟨bo, oo, hbo, zk⟩ := (RdI.get HRD.out).2.2 k (by rw [HLN.out]; exact hlt)
        subst hbo
        obtain ⟨bo', oo', hbo', zj⟩ := (RdI.get HRD.out).2.2 J (by rw [HLN.out]; exact hJn)
        cases hbo'
        rw [hk2] at zk
        rw [hj2] at zj
        have hS := Lib.hid (HST.out k)
        rw [HLN.out, HJ.out] at hS
        obtain ⟨p, Hp⟩ : ∃ p, Hid (oI O k = p) := ⟨_, rfl⟩
        obtain ⟨q, Hq⟩ : ∃ q, Hid (oI O J = q) := ⟨_, rfl⟩
        rw [Hp.out] at zk hk1 hS
        rw [Hq.out] at zj hj1 hS
        have hx2 := (by rw [← Hn.out]; exact (HR.out.below BB.out) : RdG w2 (.slice a1 n cap1) X)
        obtain ⟨bx, ox, up, rfl, xp, hup⟩ := rdG_at hx2 p hk1
        obtain ⟨bx', ox', uq, he', xq, huq⟩ := rdG_at hx2 q hj1
        cases he'
        have HBR := Lib.hid (tab_br HK.out.1 hk1 hj1)
        have hb0 := HBD.out k (by rw [Hn.out]; exact hk)
        have hb3 := HBD.out (k + 1) (by rw [Hn.out]; exact hlt)
        rw [hS.out, List.length_append, List.length_append] at hb3
        rw [Hn.out] at hk1 hj1
        have HXPQ := Lib.hid (And.intro xp xq)
        have zk := cellB hb zk
        have zj := cellB hb zj
        have xp := cellB hb xp
        have xq := cellB hb xq
        have HUP := Lib.hid hup
        have HUQ := Lib.hid huq
        have hj0 : (0 : Int) ≤ (J : Int) := by omega
        have hjn : (J : Int) < (n : Int) := by omega
        have hp0 : (0 : Int) ≤ (p : Int) := by omega
        have hpn : (p : Int) < (n : Int) := by omega
        have hq0 : (0 : Int) ≤ (q : Int) := by omega
        have hqn : (q : Int) < (n : Int) := by omega
        have hk0 : (0 : Int) ≤ (k : Int) := by omega
        have hkn : (k : Int) < (n : Int) := by omega
        have hmod : ((k : Int) + 1) % (n : Int) = (J : Int) := by rw [← HJ.out]; push_cast; rfl
        have hnz : ((n : Int) == 0) = false := by rw [beq_eq_false_iff_ne]; omega
        have hnz2 : 0 < (n : Int) := by omega
        have hs := hb.size
        have HOWN := Lib.hid hown
        have HBW := Lib.hid hb
        have HLEN : Hid ((tpTo X h O k).length + (X.getD p []).length < 1000000000 ∧ (tpTo X h O k ++ X.getD p []).length + (bridgeL (X.getD p []) (X.getD q []) h).length < 1000000000) := by
          rw [List.length_append]; unfold Hid; constructor <;> omega
        clear hx2 hup huq hown hb hb0 hb3 hk2 hj2
        go_wp2_with fail
        refine wp_region_noPanic ?_
        refine wp_region_held_drew (S := fun w' => w'.cell? ⟨bx, ox + p, none⟩ = some up ∧ w'.cell? ⟨bx, ox + q, none⟩ = some uq) (by kernel_rfl) ?_ (fun hHeld => ?_)
        · exact ⟨xp, xq⟩
        (refine wpAnyH_take (i := 0) (v := ?tv1) rfl (by kernel_rfl) (by kernel_rfl) (by kernel_rfl) (fun _ _ _ h => h) (Or.inl ⟨by rfl, ?thy1⟩) (by assumption) ?trest1; case thy1 => (intro w hSw; (try dsimp only at hSw); go_simp; (try with_reducible rfl)); (try simp only [Act.put, List.getElem_toArray, List.getElem_cons_zero, List.getElem_cons_succ, List.setIfInBounds_toArray, List.set_cons_zero, List.set_cons_succ])); (refine wpAnyH_take (i := 1) (v := ?tv2) rfl (by kernel_rfl) (by kernel_rfl) (by kernel_rfl) (fun _ _ _ h => h) (Or.inl ⟨by rfl, ?thy2⟩) (by assumption) ?trest2; case thy2 => (intro w hSw; (try dsimp only at hSw); go_simp; (try with_reducible rfl)); (try simp only [Act.put, List.getElem_toArray, List.getElem_cons_zero, List.getElem_cons_succ, List.setIfInBounds_toArray, List.set_cons_zero, List.set_cons_succ])); (refine wpAnyH_take (i := 2) (v := ?tv3) rfl (by kernel_rfl) (by kernel_rfl) (by kernel_rfl) (fun _ _ _ h => h) (Or.inl ⟨by rfl, ?thy3⟩) (by assumption) ?trest3; case thy3 => (intro w hSw; (try dsimp only at hSw); go_simp; (try with_reducible rfl)); (try simp only [Act.put, List.getElem_toArray, List.getElem_cons_zero, List.getElem_cons_succ, List.setIfInBounds_toArray, List.set_cons_zero, List.set_cons_succ])); (refine wpAnyH_take (i := 3) (v := ?tv4) rfl (by kernel_rfl) (by kernel_rfl) (by kernel_rfl) (fun _ _ _ h => h) (Or.inl ⟨by rfl, ?thy4⟩) (by assumption) ?trest4; case thy4 => (intro w hSw; (try dsimp only at hSw); go_simp; (try with_reducible rfl)); (try simp only [Act.put, List.getElem_toArray, List.getElem_cons_zero, List.getElem_cons_succ, List.setIfInBounds_toArray, List.set_cons_zero, List.set_cons_succ])); (refine wpAnyH_take (i := 4) (v := ?tv5) rfl (by kernel_rfl) (by kernel_rfl) (by kernel_rfl) (fun _ _ _ h => h) (Or.inl ⟨by rfl, ?thy5⟩) (by assumption) ?trest5; case thy5 => (intro w hSw; (try dsimp only at hSw); go_simp; (try with_reducible rfl)); (try simp only [Act.put, List.getElem_toArray, List.getElem_cons_zero, List.getElem_cons_succ, List.setIfInBounds_toArray, List.set_cons_zero, List.set_cons_succ])); (refine wpAnyH_take (i := 6) (v := ?tv6) rfl (by kernel_rfl) (by kernel_rfl) (by kernel_rfl) (fun _ _ _ h => h) (Or.inl ⟨by rfl, ?thy6⟩) (by assumption) ?trest6; case thy6 => (intro w hSw; (try dsimp only at hSw); go_simp; (try with_reducible rfl)); (try simp only [Act.put, List.getElem_toArray, List.getElem_cons_zero, List.getElem_cons_succ, List.setIfInBounds_toArray, List.set_cons_zero, List.set_cons_succ])); (refine wpAnyH_take (i := 7) (v := ?tv7) rfl (by kernel_rfl) (by kernel_rfl) (by kernel_rfl) (fun _ _ _ h => h) (Or.inl ⟨by rfl, ?thy7⟩) (by assumption) ?trest7; case thy7 => (intro w hSw; (try dsimp only at hSw); go_simp; (try with_reducible rfl)); (try simp only [Act.put, List.getElem_toArray, List.getElem_cons_zero, List.getElem_cons_succ, List.setIfInBounds_toArray, List.set_cons_zero, List.set_cons_succ])); (refine wpAnyH_take (i := 8) (v := ?tv8) rfl (by kernel_rfl) (by kernel_rfl) (by kernel_rfl) (fun _ _ _ h => h) (Or.inl ⟨by rfl, ?thy8⟩) (by assumption) ?trest8; case thy8 => (intro w hSw; (try dsimp only at hSw); go_simp; (try with_reducible rfl)); (try simp only [Act.put, List.getElem_toArray, List.getElem_cons_zero, List.getElem_cons_succ, List.setIfInBounds_toArray, List.set_cons_zero, List.set_cons_succ])); (refine wpAnyH_take (i := 9) (v := ?tv9) rfl (by kernel_rfl) (by kernel_rfl) (by kernel_rfl) (fun _ _ _ h => h) (Or.inl ⟨by rfl, ?thy9⟩) (by assumption) ?trest9; case thy9 => (intro w hSw; (try dsimp only at hSw); go_simp; (try with_reducible rfl)); (try simp only [Act.put, List.getElem_toArray, List.getElem_cons_zero, List.getElem_cons_succ, List.setIfInBounds_toArray, List.set_cons_zero, List.set_cons_succ])); (refine wpAnyH_take (i := 10) (v := ?tv10) rfl (by kernel_rfl) (by kernel_rfl) (by kernel_rfl) (fun _ _ _ h => h) (Or.inl ⟨by rfl, ?thy10⟩) (by assumption) ?trest10; case thy10 => (intro w hSw; (try dsimp only at hSw); go_simp; (try with_reducible rfl)); (try simp only [Act.put, List.getElem_toArray, List.getElem_cons_zero, List.getElem_cons_succ, List.setIfInBounds_toArray, List.set_cons_zero, List.set_cons_succ])); (refine wpAnyH_take (i := 11) (v := ?tv11) rfl (by kernel_rfl) (by kernel_rfl) (by kernel_rfl) (fun _ _ _ h => h) (Or.inl ⟨by rfl, ?thy11⟩) (by assumption) ?trest11; case thy11 => (intro w hSw; (try dsimp only at hSw); go_simp; (try with_reducible rfl)); (try simp only [Act.put, List.getElem_toArray, List.getElem_cons_zero, List.getElem_cons_succ, List.setIfInBounds_toArray, List.set_cons_zero, List.set_cons_succ])); (refine wpAnyH_take (i := 12) (v := ?tv12) rfl (by kernel_rfl) (by kernel_rfl) (by kernel_rfl) (fun _ _ _ h => h) (Or.inl ⟨by rfl, ?thy12⟩) (by assumption) ?trest12; case thy12 => (intro w hSw; (try dsimp only at hSw); go_simp; (try with_reducible rfl)); (try simp only [Act.put, List.getElem_toArray, List.getElem_cons_zero, List.getElem_cons_succ, List.setIfInBounds_toArray, List.set_cons_zero, List.set_cons_succ])); (refine wpAnyH_take (i := 13) (v := ?tv13) rfl (by kernel_rfl) (by kernel_rfl) (by kernel_rfl) (fun _ _ _ h => h) (Or.inl ⟨by rfl, ?thy13⟩) (by assumption) ?trest13; case thy13 => (intro w hSw; (try dsimp only at hSw); go_simp; (try with_reducible rfl)); (try simp only [Act.put, List.getElem_toArray, List.getElem_cons_zero, List.getElem_cons_succ, List.setIfInBounds_toArray, List.set_cons_zero, List.set_cons_succ])); (refine wpAnyH_take (i := 14) (v := ?tv14) rfl (by kernel_rfl) (by kernel_rfl) (by kernel_rfl) (fun _ _ _ h => h) (Or.inl ⟨by rfl, ?thy14⟩) (by assumption) ?trest14; case thy14 => (intro w hSw; (try dsimp only at hSw); go_simp; (try with_reducible rfl)); (try simp only [Act.put, List.getElem_toArray, List.getElem_cons_zero, List.getElem_cons_succ, List.setIfInBounds_toArray, List.set_cons_zero, List.set_cons_succ]))
        refine wpAnyH_ready (rs := [5]) (by kernel_rfl) (by simp) ?_; refine AllReadyH.cons (i := 5) rfl (fun K hK => ?_) AllReadyH.nil
        (try simp only [Act.put, List.getElem_toArray, List.getElem_cons_zero, List.getElem_cons_succ, List.setIfInBounds_toArray, List.set_cons_zero, List.set_cons_succ])
        rw [if_pos (by rfl)]
        refine wp_push_ints rfl _ _ _ rfl Try.underlying28 infoI w2.heap.size (.slice (some ad) m c) up (tpTo X h O k) (X.getD p []) wr.drew (by rfl) (by rfl) (by exact HOWN.out.dr) ⟨ad, m, c, rfl⟩ (by exact (HUP.out.below HBW.out).below ((Below.refl _ _).dr)) HLEN.out.1 (by exact hs) ?_
        intro v3 w3 ho3 hg3 hv3 hs3
        have hlt3 : ∀ j, (Value.slice (some ad) m c).ownBlock = some j → w2.heap.size ≤ j := fun j hj => (World.ownsRow.lt HOWN.out j hj).1
        have B3 : Below w2.heap.size w2 w3 := (HBW.out.dr).grown hg3 (by exact hs) (by exact hlt3)
        have xp3 := cellB B3 HXPQ.out.1
        have xq3 := cellB B3 HXPQ.out.2
        refine hK.out _ _ ⟨xp3, xq3⟩ (fun hHeld => ?_)
        clear hK K
        (try simp only [Act.put, List.getElem_toArray, List.getElem_cons_zero, List.getElem_cons_succ, List.setIfInBounds_toArray, List.set_cons_zero, List.set_cons_succ])
        refine wpAnyH_ready (rs := [15]) (by kernel_rfl) (by simp) ?_; refine AllReadyH.cons (i := 15) rfl (fun K hK => ?_) AllReadyH.nil
        go_simp
        refine (c_impl_bridge (X.getD p []) (X.getD q []) h _ _ _ (HUP.out.below B3) (HUQ.out.below B3) HBR.out).mono ?_; rintro e w4 ⟨u4, rfl, ho4, hb4⟩
        have xp4 := cellB hb4 xp3
        have xq4 := cellB hb4 xq3
        have ho34 := ho3.below hb4
        have B4 := B3.tr hb4
        refine hK.out _ _ ⟨xp4, xq4⟩ (fun hHeld => ?_)
        clear hK K
        (try simp only [Act.put, List.getElem_toArray, List.getElem_cons_zero, List.getElem_cons_succ, List.setIfInBounds_toArray, List.set_cons_zero, List.set_cons_succ])
        refine wpAnyH_ready (rs := [16]) (by kernel_rfl) (by simp) ?_; refine AllReadyH.cons (i := 16) rfl (fun K hK => ?_) AllReadyH.nil
        (try simp only [Act.put, List.getElem_toArray, List.getElem_cons_zero, List.getElem_cons_succ, List.setIfInBounds_toArray, List.set_cons_zero, List.set_cons_succ])
        rw [if_pos (by rfl)]
        refine wp_push_ints rfl _ _ _ rfl Try.underlying28 infoI w2.heap.size v3 u4 (tpTo X h O k ++ X.getD p []) (bridgeL (X.getD p []) (X.getD q []) h) w4 (by rfl) (by rfl) (by exact ho34) hv3 (by exact ho4.rd) HLEN.out.2 (by exact B4.size) ?_
        intro v5 w5 ho5 hg5 hv5 hs5
        have hlt5 := fun j hj => (World.ownsRow.lt ho34 j hj).1
        have B5 : Below w2.heap.size w2 w5 := B4.grown hg5 (by exact B4.size) (by exact hlt5)
        have xp5 := cellB B5 HXPQ.out.1
        have xq5 := cellB B5 HXPQ.out.2
        refine hK.out _ _ ⟨xp5, xq5⟩ (fun hHeld => ?_)
        clear hK K
        (try simp only [Act.put, List.getElem_toArray, List.getElem_cons_zero, List.getElem_cons_succ, List.setIfInBounds_toArray, List.set_cons_zero, List.set_cons_succ])
        (refine wpAnyH_take (i := 17) (v := ?tv15) rfl (by kernel_rfl) (by kernel_rfl) (by kernel_rfl) (fun _ _ _ h => h) (Or.inl ⟨by rfl, ?thy15⟩) (by assumption) ?trest15; case thy15 => (intro w hSw; (try dsimp only at hSw); go_simp; (try with_reducible rfl)); (try simp only [Act.put, List.getElem_toArray, List.getElem_cons_zero, List.getElem_cons_succ, List.setIfInBounds_toArray, List.set_cons_zero, List.set_cons_succ]))
        refine wpAnyH_done (by kernel_rfl) ?_ _
        refine NoPanic.normal ?_
        have HF := Lib.hid (And.intro ho5 (And.intro hv5 B5))
        clear ho5 hg5 hv5 hs5 hlt5 B5 xp5 xq5 ho34 B4 xp4 xq4 hb4 ho4 B3 xp3 xq3 hlt3 ho3 hg3 hv3 hs3 xp xq zk zj
        go_wp2_with fail
        go_roundw
        case rel => exact ⟨k + 1, by omega, by go_num, by rw [hS.out]; exact HF.out.1, HF.out.2.1, HF.out.2.2⟩
        case measure => simp [intOf]; omega
      · obtain rfl : k = n := by omega
        rw [← HL.out] at hown
        have hs0 := BB.out.size
        have hs := hb.size
        have hlx : (Value.slice (some ad) m c) = Value.slice (some ad) (tpL X h).length c := by
          obtain ⟨a9, c9, he, -, -⟩ := hown.rd
          cases he; rfl
        rw [hlx] at hown ⊢
        have HF9 := Lib.hid (And.intro (hown.base hs0) (BB.out.tr hb))
        have hBD := HBD.out k (by rw [Hn.out]; exact Nat.le_refl _)
        rw [← HL.out] at hBD
        obtain ⟨N, HN⟩ : ∃ N, Hid ((tpL X h).length = N) := ⟨_, rfl⟩
        rw [HN.out] at hBD ⊢
        have ht1 : tpC X h = if N > 12 then 5 else 0 := by rw [← HN.out]; exact HT.out.1
        have ht2 : tpX X h = if N > 12 then [] else tpL X h := by rw [← HN.out]; exact HT.out.2
        have hN : N ≤ 100000 := by omega
        have HF : Hid (OwnI1 w.heap.size wr (.slice (some ad) N c) (tpL X h) ∧ Below w.heap.size w wr) := by rw [← HN.out]; exact HF9.out
        clear hown hb hlx hBD
        by_cases hbig : N > 12
        · have hbi : (N : Int) > 12 := by omega
          rw [if_pos hbig] at ht1 ht2
          have HT1 := Lib.hid ht1
          have HT2 := Lib.hid ht2
          clear hbig ht1 ht2
          go_wp2
          go_ret2
          exact ⟨_, by rw [HT1.out]; rfl, by rw [HT2.out]; exact OwnI.nil _ rfl, HF.out.2⟩
        · have hbi : ¬ (N : Int) > 12 := by omega
          rw [if_neg hbig] at ht1 ht2
          have HT1 := Lib.hid ht1
          have HT2 := Lib.hid ht2
          clear hbig ht1 ht2
          go_wp2
          go_ret2
          exact ⟨_, by rw [HT1.out]; rfl, by rw [HT2.out]; exact HF.out.1, HF.out.2⟩
  · have hc0 : ¬ someC X h = 0 := by simpa using hc
    have HX := Lib.hid (tp_not hc0)
    clear hc0
    go_enter Try.func20, Try.ntmps20
    go_wp2_with fail
    refine (c_impl_someCode X h _ _ HR.out).mono ?_; rintro e w1 ⟨rfl, hb1⟩
    go_wp2
    go_ret2
    exact ⟨_, by rw [HX.out.1]; rfl, by rw [HX.out.2]; exact OwnI.nil _ rfl, hb1⟩
theorem sumLen_bd {X : List (List Int)} {h : Int} (hc : tabC X h = 0) : ∀ k, k ≤ X.length → 0 ≤ sumN (fun i => ((X.getD i []).length : Int)) k ∧ sumN (fun i => ((X.getD i []).length : Int)) k ≤ 12 * k := by
  intro k
  induction k with
  | zero => intro _; simp [sumN]
  | succ k ih =>
    intro hk
    have h0 := ih (by omega)
    have h4 := (validP_iff.1 ((tab_ok hc).2.2 k (by omega)).1).1.2
    simp only [sumN]
    omega
theorem stL_bd {X : List (List Int)} {h : Int} (hs : someC X h = 0) : 0 ≤ stL X h ∧ stL X h ≤ 100000000 := by
  obtain ⟨hc, hl⟩ := some_okT hs
  obtain ⟨q, hq, -, -, h0, h1⟩ := tour_some (D := tabD X h) (n := X.length) ⟨by omega, (tab_ok hc).2.1⟩ (tab_far hc)
  rw [(stO_zero hs).2, hq]
  exact ⟨h0, h1⟩
set_option maxHeartbeats 2000000 in
set_option maxRecDepth 100000 in
theorem c_spec_TourPattern (X : List (List Int)) (h : Int) (v : Value) (w : World) (hr : RdG w v X) :
    Calls Try.prog 21 #[v, .int .i64 h] w fun e w' => ∃ u, e = .returned (.tuple #[u, .int .i64 (tpC X h)]) ∧ OwnI1 w.heap.size w' u (tpX X h) ∧ Below w.heap.size w w' := by
  have HR := Lib.hid hr
  cases hc : (someC X h != 0)
  · have hc0 : someC X h = 0 := by simpa using hc
    obtain ⟨hp, hlen, -, -⟩ := st_facts hc0
    have HC := Lib.hid hc0
    have HK := Lib.hid (some_okT hc0)
    have HT := Lib.hid (tp_ok hc0)
    have HBD := Lib.hid (tp_bd hc0)
    have HTT := Lib.hid (tp_total hc0)
    have HSB := Lib.hid (sumLen_bd HK.out.1)
    have hL := stL_bd hc0
    have HP := Lib.hid hp
    have hn8 : X.length ≤ 8 := (tab_ok HK.out.1).2.1
    have hn1 : 1 ≤ X.length := by have := HK.out.2; omega
    have HL : Hid (tpL X h = tpTo X h (stO X h) X.length) := by unfold Hid tpL; rw [hlen]
    obtain ⟨O, HO⟩ : ∃ O, Hid (stO X h = O) := ⟨_, rfl⟩
    rw [HO.out] at hlen
    rw [HO.out] at HP HBD HL
    have HLN := Lib.hid hlen
    have HST : Hid (∀ k, tpTo X h O (k + 1) = tpTo X h O k ++ X.getD (oI O k) [] ++ bridgeL (X.getD (oI O k) []) (X.getD (oI O ((k + 1) % O.length)) []) h) := fun k => rfl
    obtain ⟨SL, HSL⟩ : ∃ SL, Hid (stL X h = SL) := ⟨_, rfl⟩
    rw [HSL.out] at hL HTT
    have HHV : Hid (∀ k, k < X.length → (X.getD k []).length ≤ 12) := fun k hk => by have := (validP_iff.1 ((tab_ok HK.out.1).2.2 k hk).1).1.2; omega
    clear hc0 hp
    obtain ⟨a1, cap1, rfl, -, -⟩ := hr
    obtain ⟨n, Hn⟩ : ∃ n, Hid (X.length = n) := ⟨_, rfl⟩
    rw [Hn.out] at hn8 hn1 HL HLN HTT ⊢
    clear hlen
    go_enter Try.func21, Try.ntmps21
    go_wp2_with fail
    refine (c_spec_ShortestTour X h _ _ (by rw [← Hn.out]; exact HR.out)).mono ?_; rintro e w2 ⟨u2, rfl, ho2, hb2⟩; rw [HC.out, HSL.out]
    rw [HO.out] at ho2
    have BB := Lib.hid hb2
    have HRD := Lib.hid ho2.rd
    obtain ⟨ao, co, rfl, -, -⟩ := ho2.rd
    rw [HLN.out]
    clear ho2 hb2
    have hnl : (n : Int) ≤ 8 := by omega
    go_wp2_with fail
    go_loopw [9, 10] (fun al kv wr => ∃ k : Nat, k ≤ n ∧ kv = .int .i64 k ∧ al = .int .i64 (SL + sumN (fun i => ((X.getD i []).length : Int)) k) ∧ wr = w2) (fun _ kv _ => n - (intOf kv).toNat)
    case atStart => exact ⟨0, by omega, rfl, by simp [sumN], rfl⟩
    case round =>
      obtain ⟨k, hk, rfl, rfl, rfl⟩ := hrel
      have hsb := HSB.out k (by rw [Hn.out]; exact hk)
      by_cases hlt : k < n
      · have hx2 := (by rw [← Hn.out]; exact (HR.out.below BB.out) : RdG wr (.slice a1 n cap1) X)
        obtain ⟨bx, ox, up, rfl, xp, hup⟩ := rdG_at hx2 k (by rw [Hn.out]; exact hlt)
        obtain ⟨au, cu, rfl, -, -⟩ := hup
        have hv := HHV.out k (by rw [Hn.out]; exact hlt)
        have HS1 : Hid (sumN (fun i => ((X.getD i []).length : Int)) (k + 1) = sumN (fun i => ((X.getD i []).length : Int)) k + ((X.getD k []).length : Int)) := rfl
        obtain ⟨Sk, HSk⟩ : ∃ Sk, Hid (sumN (fun i => ((X.getD i []).length : Int)) k = Sk) := ⟨_, rfl⟩
        rw [HSk.out] at hsb HS1
        rw [HSk.out]
        obtain ⟨lk, Hlk⟩ : ∃ lk : Nat, Hid ((X.getD k []).length = lk) := ⟨_, rfl⟩
        rw [Hlk.out] at xp hv HS1
        have hk0 : (0 : Int) ≤ (k : Int) := by omega
        have hkn : (k : Int) < (n : Int) := by omega
        clear hx2
        go_wp2_with fail
        go_roundw
        case rel => exact ⟨k + 1, by omega, by go_num, by rw [HS1.out]; go_num, (by first | rfl | trivial)⟩
        case measure => simp [intOf]; omega
      · obtain rfl : k = n := by omega
        rw [← HTT.out]
        obtain ⟨N, HN⟩ : ∃ N, Hid ((tpL X h).length = N) := ⟨_, rfl⟩
        have ht1 : tpC X h = if N > 12 then 5 else 0 := by rw [← HN.out]; exact HT.out.1
        have ht2 : tpX X h = if N > 12 then [] else tpL X h := by rw [← HN.out]; exact HT.out.2
        rw [HN.out]
        by_cases hbig : N > 12
        · have hbi : (N : Int) > 12 := by omega
          rw [if_pos hbig] at ht1 ht2
          have HT1 := Lib.hid ht1
          have HT2 := Lib.hid ht2
          clear hbig ht1 ht2
          go_wp2
          go_ret2
          exact ⟨_, by rw [HT1.out]; rfl, by rw [HT2.out]; exact OwnI.nil _ rfl, BB.out⟩
        · have hbi : ¬ (N : Int) > 12 := by omega
          rw [if_neg hbig] at ht1 ht2
          have HT1 := Lib.hid ht1
          have HT2 := Lib.hid ht2
          clear hbig ht1 ht2
          obtain ⟨wo, hwo⟩ : ∃ wo : World, wo = wr := ⟨_, rfl⟩
          subst hwo
          go_wp2_with fail
          go_loopw [11, 12] (fun out kv wr => ∃ j : Nat, j ≤ k ∧ kv = .int .i64 j ∧ OwnI1 wo.heap.size wr out (tpTo X h O j) ∧ (∃ ad m c, out = .slice (some ad) m c) ∧ Below wo.heap.size wo wr) (fun _ kv _ => k - (intOf kv).toNat)
          case atStart => exact ⟨0, by omega, rfl, OwnI.made rfl rfl (Nat.le_refl _), ⟨_, _, _, rfl⟩, by (repeat (first | (with_reducible assumption) | (with_reducible exact Below.refl _ _) | (with_reducible refine Below.setCell ?_ (by first | (simp; done) | (simp; omega)) _) | (with_reducible refine Below.al ?_ _) | (with_reducible refine Below.dr ?_) | (with_reducible refine Below.drN ?_ _) | (with_reducible refine Below.tr ?_ (by with_reducible assumption))))⟩
          case round =>
            obtain ⟨j, hj, rfl, hown, ⟨ad, m, c, rfl⟩, hb⟩ := hrel
            by_cases hlt : j < k
            · obtain ⟨hk1, hk2⟩ := oI_lt HP.out (i := j) (by rw [HLN.out]; exact hlt)
              obtain ⟨J, HJ⟩ : ∃ J, Hid ((j + 1) % k = J) := ⟨_, rfl⟩
              have hJn : J < k := by rw [← HJ.out]; exact Nat.mod_lt _ (by omega)
              obtain ⟨hj1, hj2⟩ := oI_lt HP.out (i := J) (by rw [HLN.out]; exact hJn)
              obtain ⟨bo, oo, hbo, zk⟩ := (RdI.get HRD.out).2.2 j (by rw [HLN.out]; exact hlt)
              subst hbo
              obtain ⟨bo', oo', hbo', zj⟩ := (RdI.get HRD.out).2.2 J (by rw [HLN.out]; exact hJn)
              cases hbo'
              rw [hk2] at zk
              rw [hj2] at zj
              have hS := Lib.hid (HST.out j)
              rw [HLN.out, HJ.out] at hS
              obtain ⟨p, Hp⟩ : ∃ p, Hid (oI O j = p) := ⟨_, rfl⟩
              obtain ⟨q, Hq⟩ : ∃ q, Hid (oI O J = q) := ⟨_, rfl⟩
              rw [Hp.out] at zk hk1 hS
              rw [Hq.out] at zj hj1 hS
              have hx2 := (by rw [← Hn.out]; exact (HR.out.below BB.out) : RdG wo (.slice a1 k cap1) X)
              obtain ⟨bx, ox, up, rfl, xp, hup⟩ := rdG_at hx2 p hk1
              obtain ⟨bx', ox', uq, he', xq, huq⟩ := rdG_at hx2 q hj1
              cases he'
              have HBR := Lib.hid (tab_br HK.out.1 hk1 hj1)
              have hb0 := HBD.out j (by rw [Hn.out]; exact hj)
              have hb3 := HBD.out (j + 1) (by rw [Hn.out]; exact hlt)
              rw [hS.out, List.length_append, List.length_append] at hb3
              rw [Hn.out] at hk1 hj1
              have zk := cellB hb zk
              have zj0 := zj
              have xq0 := xq
              have xp := cellB hb xp
              have HUP := Lib.hid hup
              have HUQ := Lib.hid huq
              have hj0 : (0 : Int) ≤ (J : Int) := by omega
              have hjn : (J : Int) < (k : Int) := by omega
              have hp0 : (0 : Int) ≤ (p : Int) := by omega
              have hpn : (p : Int) < (k : Int) := by omega
              have hq0 : (0 : Int) ≤ (q : Int) := by omega
              have hqn : (q : Int) < (k : Int) := by omega
              have hk0 : (0 : Int) ≤ (j : Int) := by omega
              have hkn : (j : Int) < (k : Int) := by omega
              have hmod : ((j : Int) + 1) % (k : Int) = (J : Int) := by rw [← HJ.out]; push_cast; rfl
              have hnz : ((k : Int) == 0) = false := by rw [beq_eq_false_iff_ne]; omega
              have hnz2 : 0 < (k : Int) := by omega
              have hs := hb.size
              have HOWN := Lib.hid hown
              have HBW := Lib.hid hb
              have HLEN : Hid ((tpTo X h O j).length + (X.getD p []).length < 1000000000 ∧ (tpTo X h O j ++ X.getD p []).length + (bridgeL (X.getD p []) (X.getD q []) h).length < 1000000000) := by
                rw [List.length_append]; unfold Hid; constructor <;> omega
              have HZJ := Lib.hid (And.intro zj0 xq0)
              clear hx2 hup huq hown hb hb0 hb3 hk2 hj2 zj xq zj0 xq0
              go_wp2_with (at_builtin; refine push_ints rfl _ _ _ _ rfl Try.underlying28 infoI wo.heap.size (.slice (some ad) m c) up (tpTo X h O j) (X.getD p []) wr rfl rfl (by exact HOWN.out) ⟨ad, m, c, rfl⟩ (by exact HUP.out.below HBW.out) HLEN.out.1 (by exact hs) ?_; intro v3 w3 ho3 hg3 hat3 hs3; refine stop_of ?_)
              unfold Stopped
              have hlt3 : ∀ i, (Value.slice (some ad) m c).ownBlock = some i → wo.heap.size ≤ i := fun i hi => (World.ownsRow.lt HOWN.out i hi).1
              have B3 : Below wo.heap.size wo w3 := HBW.out.grown hg3 (by exact hs) (by exact hlt3)
              have hv3 : ∃ ad n cap, v3 = Value.slice (some ad) n cap := by
                rcases hat3 with e | e
                · exact some_sliceT ho3 (e.trans rfl)
                · exact some_sliceT ho3 e
              have zj := cellB B3 HZJ.out.1
              have xq := cellB B3 HZJ.out.2
              clear zk xp
              go_wp2_with fail
              refine (c_spec_l10Bridge (X.getD p []) (X.getD q []) h _ _ _ (HUP.out.below B3) (HUQ.out.below B3) HBR.out).mono ?_; rintro e w4 ⟨u4, rfl, ho4, hb4⟩
              have ho34 := ho3.below hb4
              have B4 := B3.tr hb4
              have hB4s := B4.size
              go_wp2_with (at_builtin; refine push_ints rfl _ _ _ _ rfl Try.underlying28 infoI wo.heap.size v3 u4 (tpTo X h O j ++ X.getD p []) (bridgeL (X.getD p []) (X.getD q []) h) w4 rfl rfl (by exact ho34) hv3 (by exact ho4.rd) HLEN.out.2 (by exact hB4s) ?_; intro v5 w5 ho5 hg5 hat5 hs5; refine stop_of ?_)
              unfold Stopped
              have hlt5 := fun i hi => (World.ownsRow.lt ho34 i hi).1
              have B5 : Below wo.heap.size wo w5 := B4.grown hg5 (by exact hB4s) (by exact hlt5)
              have hv5 : ∃ ad n cap, v5 = Value.slice (some ad) n cap := by
                obtain ⟨ad3, n3, c3, e3⟩ := hv3
                rcases hat5 with e | e
                · rw [e3] at e
                  exact some_sliceT ho5 (e.trans rfl)
                · exact some_sliceT ho5 e
              have HF := Lib.hid (And.intro ho5 (And.intro hv5 B5))
              clear ho5 hg5 hat5 hv5 hs5 hlt5 B5 ho34 B4 hb4 ho4 B3 hlt3 ho3 hg3 hat3 hv3 hs3
              go_wp2_with fail
              go_roundw
              case rel => exact ⟨j + 1, by omega, by go_num, by rw [hS.out]; exact HF.out.1, HF.out.2.1, HF.out.2.2⟩
              case measure => simp [intOf]; omega
            · obtain rfl : j = k := by omega
              rw [← HL.out] at hown
              have hs0 := BB.out.size
              have HF := Lib.hid (And.intro (hown.base hs0) (BB.out.tr hb))
              clear hown hb
              go_wp2
              go_ret2
              exact ⟨_, by rw [HT1.out]; rfl, by rw [HT2.out]; exact HF.out.1, HF.out.2⟩
  · have hc0 : ¬ someC X h = 0 := by simpa using hc
    have HX := Lib.hid (tp_not hc0)
    have HS := Lib.hid (stO_not hc0)
    clear hc0
    go_enter Try.func21, Try.ntmps21
    go_wp2_with fail
    refine (c_spec_ShortestTour X h _ _ HR.out).mono ?_; rintro e w1 ⟨u1, rfl, ho1, hb1⟩
    rw [HS.out.1] at ho1
    obtain ⟨ao, co, rfl, -, -⟩ := ho1.rd
    go_wp2
    go_ret2
    exact ⟨_, by rw [HX.out.1]; rfl, by rw [HX.out.2]; exact OwnI.nil _ rfl, hb1⟩
end Go.Proofs.Ytjjghmmpfnlpaaa
