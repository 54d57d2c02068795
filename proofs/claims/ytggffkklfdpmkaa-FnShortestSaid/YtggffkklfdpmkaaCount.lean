/- Contract of impl.CountShortest. -/
import Derived.Test.YtggffkklfdpmkaaShort
import Derived.Test.YtggffkklfdpmkaaDist2
import Derived.Test.YtggffkklfdpmkaaPlainL
import Derived.Test.YtggffkklfdpmkaaMemMF
namespace Go.Proofs.Ytggffkklfdpmkaa
open Go.ChangeShapes Go.WideShapes Go.ChangeAt Go.RowKit
set_option linter.unusedVariables false
set_option linter.unusedSimpArgs false
noncomputable def countC (h m h2 m2 : Int) : Int := bif linkC h m h2 m2 == 0 then wrap64 (waysN (adjM h) (farM h m m2).toNat m m2) else 0
theorem upd_of_grown1 {a b : World} {g : Nat} (h : a.grownBy b (some g)) : Upd g (g + 1) a b := Upd.of_grown h (fun k hk => by cases hk; omega)
theorem upd_grown {a b : World} {g : Nat} (h : Upd g (g + 1) a b) : a.grownBy b (some g) := ⟨h.os, h.tape, h.output, h.size, fun k hk hne => h.block k (by
  rcases Nat.lt_or_ge k g with h1 | h1
  · exact Or.inl h1
  · right
    have : k ≠ g := fun e => hne (by rw [e])
    omega) hk⟩
set_option maxHeartbeats 8000000 in
set_option maxRecDepth 100000 in
theorem c_impl_CountShortest (h m h2 m2 : Int) (w : World) :
    Calls Try.prog 42 #[.agg #[.int .i64 h, .int .i64 m], .agg #[.int .i64 h2, .int .i64 m2]] w fun e w' => e = .returned (.tuple #[.int .i64 (countC h m h2 m2), .int .i64 (linkC h m h2 m2)]) ∧ Below w.heap.size w w' := by
  obtain ⟨W0, hW0, k0, k1, k2, k3, B0⟩ := twoStates w 36 h m h2 m2
  cases hc : (linkC h m h2 m2 != 0)
  · have hc0 : linkC h m h2 m2 = 0 := by simpa using hc
    have hdv : Hid (countC h m h2 m2 = wrap64 (waysN (adjM h) (farM h m m2).toNat m m2)) := by unfold Hid countC; rw [hc0, beq_self_eq_true, cond_true]
    have HC := Lib.hid hc0
    obtain ⟨hv, hv2, hh, hp⟩ := linkC_ok hc0
    subst hh
    have ha : m ∈ maskL (popI m) h := mem_maskL.2 ⟨(valid_iff hv).2, rfl⟩
    have hb : m2 ∈ maskL (popI m) h := mem_maskL.2 ⟨(valid_iff hv2).2, hp.symm⟩
    have hh1 : 1 ≤ h ∧ h ≤ 10 := (valid_iff hv).1
    have hbq := (valid_iff hv2).2
    have HPB : Hid (popI m2 = popI m) := hp.symm
    have hmq := mask_bd hh1 ha
    have hm2q := mask_bd hh1 hb
    have hhb : 0 ≤ h ∧ h ≤ 10 := by omega
    have HFR : Hid (∀ y ∈ maskL (popI m) h, (dist (adjG (maskL (popI m) h) h) m2 y).getD 0 = farM h y m2) := fun y hy => by rw [dist_rev hh1 hb hy]; rfl
    have HFB := Lib.hid (fun x hx => farM_bd (n := popI m) (a := x) (b := m2) hh1 hx hb)
    have HBD := Lib.hid (fun x => fun hx => mask_bd (n := popI m) (h := h) (m := x) hh1 hx)
    have HNM := Lib.hid (fun x t => fun hx hc => next_mem (n := popI m) (h := h) (m := x) (t := t) hh1 hx hc)
    have HAL := Lib.hid ha
    have HBL := Lib.hid hb
    have HND := Lib.hid (nodup_of_sorted (maskL_sorted (popI m) h))
    have hlen := maskL_len (popI m) h hh1
    have hfd := farM_bd hh1 ha hb
    have HNXT := Lib.hid (fun j todo f g hL ht hA => Lay.next (n := popI m) (h := h) (a := m) (b := m2) (j := j) (todo := todo) (f := f) (g := g) hh1 ha hb hL ht hA)
    have HST := Lib.hid (Lay.start (n := popI m) (h := h) (a := m) (b := m2) ha)
    clear hp hc0 hv hv2 ha hb
    have hmm := @run_makeMap Try.prog
    go_enter Try.func42, Try.ntmps42
    go_wp2_with fail
    rw [← hW0]
    refine (c_impl_linked _ _ _ _ _).mono ?_; rintro e w1 ⟨rfl, hb1⟩
    have k0 := keepc hb1 k0
    have k1 := keepc hb1 k1
    have k2 := keepc hb1 k2
    have k3 := keepc hb1 k3
    have B1 : Below w.heap.size w w1 := B0.tr hb1
    have hz1 : w.heap.size + 1 < w1.heap.size := World.block_lt_of_cell? w1 _ k2
    clear hW0 hb1
    go_wp2_with fail
    refine (c_impl_distancesTo h m2 _ hh1 hbq).mono ?_; rintro e w2 ⟨bm, nm, rfl, hom, hb2⟩
    rw [HPB.out] at hom
    have k0 := keepc hb2 k0
    have k1 := keepc hb2 k1
    have k2 := keepc hb2 k2
    have k3 := keepc hb2 k3
    have B2 : Below w.heap.size w w2 := B1.tr hb2
    have hs12 := hb2.size
    have k1' := al_c (Obj.map #[] 0) k1
    clear hb2
    have hM0 : OwnM1 w2.heap.size (w2.heap.size + 1) (w2.alloc (Obj.map #[] 0)) w2.heap.size 0 (fun _ => none) := OwnM.made rfl (Nat.le_refl _)
    obtain ⟨w3, hrun3, hM3, hu3, hg3⟩ := hM0.run_put Try.underlying74 Try.underlying2 Try.underlying2 m 1 (by omega) (by omega) (by omega)
    have hs3 : w2.heap.size + 1 ≤ w3.heap.size := by have := hu3.size; simpa using this
    have B3 : Below w2.heap.size w2 w3 := Below.trans (((Below.refl _ _).al _)) (hu3.below (Nat.le_refl _) (by simp))
    have k0 := keepc B3 k0
    have k1 := keepc B3 k1
    have k2 := keepc B3 k2
    have k3 := keepc B3 k3
    have hom3 := OwnM.below hom B3
    have HG0 : Hid ((dist (adjG (maskL (popI m) h) h) m2 m).getD 0 = farM h m m2) := HFR.out m HAL.out
    have B3w : Below w.heap.size w w3 := B2.tr B3
    go_wp2_with (at_lookup; refine map_get rfl _ _ _ rfl Try.underlying74 Try.underlying2 Try.underlying2 zeroI w1.heap.size w2.heap.size bm nm (dist (adjG (maskL (popI m) h) h) m2) m _ rfl rfl (by exact hom3) (by omega) ?_; rw [HG0.out])
    have HS3 := Lib.hid hs3
    have hz2 : w.heap.size + 1 < w2.heap.size := by omega
    have hM3' : OwnM1 w2.heap.size w3.heap.size w3 w2.heap.size 1024 (fput (fun _ => none) m 1) := ((OwnM.wide hM3 (Nat.le_refl _) hs3).more (by omega))
    clear hom hM0 hrun3 hM3 hu3 hg3 B3 hs3
    obtain ⟨D, HD⟩ : ∃ D, Hid (farM h m m2 = D) := ⟨_, rfl⟩
    rw [HD.out] at hfd HNXT hdv
    rw [HD.out]
    go_loopw [8, 9] (fun c l wr => ∃ (j : Nat) (cb : Nat) (f : Int → Option Int), (j : Int) ≤ D ∧ l = .int .i64 (D - j) ∧ c = .map (some cb) ∧ OwnM1 w2.heap.size wr.heap.size wr cb 1024 f ∧ Hid (Lay h m m2 (maskL (popI m) h) j f) ∧ Below w3.heap.size w3 wr) (fun _ l _ => (intOf l).toNat)
    case atStart => exact ⟨0, w2.heap.size, _, by omega, by simp, rfl, hM3', HST, Below.refl _ _⟩
    case round =>
      clear hM3'
      obtain ⟨j, cb, f, hjD, rfl, rfl, hMf, HLf, hbr⟩ := hrel
      have hbrs := hbr.size
      have hs3 := HS3.out
      by_cases hlt : (j : Int) < D
      · obtain ⟨wo, rfl⟩ : ∃ wo : World, wo = wr := ⟨_, rfl⟩
        have q0 := keepc hbr k0
        have homo := OwnM.below hom3 hbr
        have hNM : OwnM1 wo.heap.size (wo.heap.size + 1) (wo.alloc (Obj.map #[] 0)) wo.heap.size 0 (fun _ => none) := OwnM.made rfl (Nat.le_refl _)
        have hcbl := hMf.lt
        have hMfa := hMf.al (Obj.map #[] 0)
        have hmm := @run_makeMap Try.prog
        go_wp2_with (at_range; refine map_range rfl _ _ rfl Try.underlying74 Try.underlying2 _ _ cb _ f (wo.alloc (Obj.map #[] 0)) rfl hMfa ?_; intro w4 cnt4 hrg hb4 hs4)
        go_frame
        simp only [World.size_alloc]
        clear hmm
        rw [World.size_alloc] at hrg hs4
        have hg4 := OwnM.below hNM hb4
        have B4 : Below wo.heap.size wo w4 := Below.tr ((Below.refl _ _).al _) hb4
        have HA0 : Hid (Acc h m2 (D - j - 1) (maskL (popI m) h) (fun _ => none) (doneS h (maskL (popI m) h) f (fun k => (f k).isSome))) := Acc.start _ _ _ _ _
        go_loopw [40] (fun _ wr => ∃ (todo : Int → Bool) (g : Int → Option Int) (c : Nat), RangeM Try.prog 2 2 wr cb (wo.heap.size + 1) 1024 f todo c ∧ OwnM1 wo.heap.size (wo.heap.size + 1) wr wo.heap.size 1024 g ∧
          Hid (Acc h m2 (D - j - 1) (maskL (popI m) h) g (doneS h (maskL (popI m) h) f todo)) ∧ Below wo.heap.size wo wr ∧ wo.heap.size + 2 ≤ wr.heap.size) (fun _ wr => wr.rangeLeft cb (wo.heap.size + 1))
        case atStart => exact ⟨_, _, cnt4, hrg, hg4.more (by omega), HA0, B4, by omega⟩
        case round =>
          clear hrg hg4 HA0 B4 hs4 hb4 hNM hMfa
          obtain ⟨todo, g, c0, hrg, hMg, HA, hb5, hs5⟩ := hrel
          obtain ⟨wq, rfl⟩ : ∃ wq : World, wq = wr := ⟨_, rfl⟩
          go_wp2_with (at_next; refine map_next rfl _ rfl Try.underlying2 Try.underlying2 cb (wo.heap.size + 1) _ _ _ _ _ rfl hrg ?_ ?_)
          · intro htd
            go_wp2
            go_roundw
            case rel => exact ⟨j + 1, wo.heap.size, g, by omega, by congr 1; omega, rfl, OwnM.wide hMg (by omega) (by omega), HNXT.out j todo f g HLf.out htd HA.out, hbr.tr hb5⟩
            case measure => simp [intOf]; omega
          · intro x cv w6 cnt6 hx1 hx2 htx hfx hrg6 hlt6 hg6 hs6 hen
            obtain ⟨hxL, hxF⟩ := HLf.out.1 x (by rw [hfx]; rfl)
            have hxq := HBD.out x hxL
            have HXL := Lib.hid hxL
            have HTX := Lib.hid htx
            have HFX := Lib.hid hfx
            have B6 : Below wo.heap.size wo w6 := hb5.grown hg6 (by omega) (fun q hq => by cases hq; omega)
            have hMg6 := OwnM.upd hMg (upd_of_grown1 hg6) (Or.inl (Nat.le_refl _))
            have q6 := keepc B6 q0
            go_wp2_with fail
            refine (c_impl_State_throws h x _ hhb hxq).mono ?_; rintro e w7 ⟨tv, rfl, hot, hb7⟩
            have hlt7 := World.ownsRow.lt hot
            obtain ⟨att, capt, rfl, hlT, hcT⟩ := hot.rd
            have hs7 := hb7.size
            rw [World.size_alloc] at hs7 hlt7
            have s0 : w7.cell? ⟨wq.heap.size, 0, none⟩ = some (.int .i64 h) := by rw [← hs6]; exact keepc hb7 (World.cell?_alloc_at _ _ _ _ rfl)
            have s1 : w7.cell? ⟨wq.heap.size, 1, none⟩ = some (.int .i64 x) := by rw [← hs6]; exact keepc hb7 (World.cell?_alloc_at _ _ _ _ rfl)
            have hMg7 := OwnM.below (hMg6.al _) hb7
            have hrg7 := (hrg6.below ((Below.refl _ _).al _)).below hb7
            have B7 : Below wo.heap.size wo w7 := Below.tr (B6.al _) hb7
            have HIS := Lib.hid (fun i hi y => inS_succ (h := h) (L := maskL (popI m) h) (f := f) (todo := todo) (x := x) (c := cv) (T := throwsL h x) (i := i) hi y)
            have HIE := Lib.hid (fun i hi y => inS_all (h := h) (f := f) HND.out (todo := todo) (c := cv) HXL.out htx hfx (i := i) hi y)
            have HI0 : Hid (Acc h m2 (D - j - 1) (maskL (popI m) h) g (inS h (maskL (popI m) h) f todo x cv (throwsL h x) 0)) := HA.out.congr fun y _ => (inS_zero _ _ _ _ _ _ _ _).symm
            have HT := Lib.hid (fun t => fun ht => (mem_throwsL (m := x) (t := t) (show 0 ≤ h by omega)).1 ht)
            have hTl : (throwsL h x).length ≤ 11 := by have := throwsTo_len h x (h + 1).toNat; unfold throwsL; omega
            have hs6' : wo.heap.size + 2 ≤ w6.heap.size := by omega
            have HLE := Lib.hid hrg.left_eq
            clear hrg hMg HA hrg6 hMg6 hot hb7 hxL htx hfx
            generalize throwsL h x = T at *
            go_wp2
            go_loopw [52] (fun iv wr => ∃ (i : Nat) (g : Int → Option Int), i ≤ T.length ∧ iv = .int .i64 i ∧ RangeM Try.prog 2 2 wr cb (wo.heap.size + 1) 1024 f (fun z => todo z && !(z == x)) cnt6 ∧ OwnM1 wo.heap.size (wo.heap.size + 1) wr wo.heap.size 1024 g ∧
              Hid (Acc h m2 (D - j - 1) (maskL (popI m) h) g (inS h (maskL (popI m) h) f todo x cv T i)) ∧ Same (wo.heap.size + 2) w7.heap.size w7 wr ∧ Below wo.heap.size wo wr) (fun iv _ => T.length - (intOf iv).toNat)
            case atStart => exact ⟨0, g, by omega, rfl, hrg7, hMg7, HI0, Same.refl (Nat.le_refl _), B7⟩
            case round =>
              clear hrg7 hMg7 HI0 B7
              obtain ⟨i, g, hi, rfl, hrg, hMg, HA, hsm, hb8⟩ := hrel
              have hsm1 := hsm.1
              by_cases hil : i < T.length
              · obtain ⟨b2, o2, rfl, hy⟩ := hcT i hil
                have hb2r := hlt7 b2 rfl
                have hy' : wr.cell? ⟨b2, o2 + i, none⟩ = some (.int .i64 (T.getD i 0)) := by rw [hsm.cell (by omega) hb2r.2]; exact hy
                have p0 : wr.cell? ⟨wq.heap.size, 0, none⟩ = some (.int .i64 h) := by rw [hsm.cell (by omega) (by omega)]; exact s0
                have p1 : wr.cell? ⟨wq.heap.size, 1, none⟩ = some (.int .i64 x) := by rw [hsm.cell (by omega) (by omega)]; exact s1
                have htm := HT.out _ (getD_mem hil)
                have hnx := HNM.out x (T.getD i 0) HXL.out htm.2
                have hnb := HBD.out _ hnx
                have htb := htm.1
                have HISi := Lib.hid (HIS.out i hil)
                have HF1 := Lib.hid (HFR.out _ hnx)
                have HNX := Lib.hid hnx
                have hfn := HFB.out _ hnx
                obtain ⟨t, Ht⟩ : ∃ t, Hid (T.getD i 0 = t) := ⟨_, rfl⟩
                rw [Ht.out] at hy' hnb htb HISi HF1 HNX hfn
                have hzr : wq.heap.size < wr.heap.size := by omega
                clear hy htm hnx hcT HT
                have homr := OwnM.below homo hb8
                obtain ⟨y, Hy⟩ : ∃ y, Hid (nextM x t = y) := ⟨_, rfl⟩
                rw [Hy.out] at hnb HISi HF1 HNX hfn
                have hfld := fld1
                by_cases hok : farM h y m2 = D - j - 1
                · go_wp2_with (first
                    | (go_at_call 80; refine (c_impl_State_next h x t _ hxq (by omega)).mono ?_; rintro e w9 ⟨rfl, hb9⟩; rw [Hy.out]; have homr9 := OwnM.below homr hb9; have hMg9 := OwnM.below hMg hb9)
                    | (at_lookup; refine map_get rfl _ _ _ rfl Try.underlying74 Try.underlying2 Try.underlying2 zeroI w1.heap.size w2.heap.size bm nm (dist (adjG (maskL (popI m) h) h) m2) y _ rfl rfl (by exact homr9) (by omega) ?_; rw [HF1.out])
                    | (at_lookup; refine map_get rfl _ _ _ rfl Try.underlying74 Try.underlying2 Try.underlying2 zeroI wo.heap.size (wo.heap.size + 1) wo.heap.size 1024 g y _ rfl rfl (by exact hMg9) (by omega) ?_)
                    | (at_mapUpdate; refine map_put rfl _ _ _ _ rfl Try.underlying74 Try.underlying2 Try.underlying2 wo.heap.size (wo.heap.size + 1) wo.heap.size 1024 g y (wrap64 ((g y).getD 0 + cv)) _ rfl rfl rfl (by exact hMg9) (by omega) (by omega) (wrap_bd _) ?_; intro w10 hM10 hu10))
                  have hs10 := hu10.size
                  have hs9 := hb9.size
                  have hrg10 := (hrg.below hb9).kept (upd_grown hu10) (fun e => by simp only [Option.some.injEq] at e; omega) (fun e => by simp only [Option.some.injEq] at e; omega)
                  have HA10 : Hid (Acc h m2 (D - j - 1) (maskL (popI m) h) (fput g y (wrap64 ((g y).getD 0 + cv))) (inS h (maskL (popI m) h) f todo x cv T (i + 1))) := by
                    have h1 := (HA.out.add (c := cv) HNX.out hok).congr (S' := inS h (maskL (popI m) h) f todo x cv T (i + 1)) (fun z _ => (HISi.out z).symm)
                    exact h1
                  have hM11 := (OwnM.fit Try.underlying2 hM10 (fun z hz => (HA10.out.1 z hz).1)).more hlen
                  go_roundw
                  case rel => exact ⟨i + 1, _, by omega, by go_num, hrg10, hM11, HA10, (hsm.below hb9).upd hu10 (Or.inl (by omega)), (hb8.tr hb9).grown (upd_grown hu10) (by omega) (fun q hq => by cases hq; omega)⟩
                  case measure => simp [intOf]; omega
                · have hok2 : (farM h y m2 == D - j - 1) = false := by simp [hok]
                  go_wp2_with (first
                    | (go_at_call 80; refine (c_impl_State_next h x t _ hxq (by omega)).mono ?_; rintro e w9 ⟨rfl, hb9⟩; rw [Hy.out]; have homr9 := OwnM.below homr hb9; have hMg9 := OwnM.below hMg hb9)
                    | (at_lookup; refine map_get rfl _ _ _ rfl Try.underlying74 Try.underlying2 Try.underlying2 zeroI w1.heap.size w2.heap.size bm nm (dist (adjG (maskL (popI m) h) h) m2) y _ rfl rfl (by exact homr9) (by omega) ?_; rw [HF1.out]))
                  have HA10 : Hid (Acc h m2 (D - j - 1) (maskL (popI m) h) g (inS h (maskL (popI m) h) f todo x cv T (i + 1))) := by
                    have h1 := (HA.out.skip (x := y) (c := cv) hok).congr (S' := inS h (maskL (popI m) h) f todo x cv T (i + 1)) (fun z _ => (HISi.out z).symm)
                    exact h1
                  go_roundw
                  case rel => exact ⟨i + 1, g, by omega, by go_num, hrg.below hb9, hMg9, HA10, hsm.below hb9, hb8.tr hb9⟩
                  case measure => simp [intOf]; omega
              · have HIEi := Lib.hid (HIE.out i hil)
                clear hcT
                go_wp2
                go_roundw
                case rel => exact ⟨_, g, cnt6, hrg, hMg, HA.out.congr (fun y _ => HIEi.out y), hb8, by omega⟩
                case measure => rw [hrg.left_eq, HLE.out]; omega
      · have hjD2 : (j : Int) = D := by omega
        have hjn : j = D.toNat := by omega
        have q2 := keepc hbr k2
        have q3 := keepc hbr k3
        have HE : Hid ((f m2).getD 0 = wrap64 (waysN (adjM h) D.toNat m m2)) := by
          have h1 := HLf.out
          rw [hjn, ← HD.out] at h1
          have h2 := h1.end HBL.out (by rw [HD.out]; omega)
          rw [HD.out] at h2
          exact h2
        have hDj : D - (j : Int) = 0 := by omega
        rw [hDj]
        go_wp2_with (at_lookup; refine map_get rfl _ _ _ rfl Try.underlying74 Try.underlying2 Try.underlying2 zeroI w2.heap.size wr.heap.size cb 1024 f m2 _ rfl rfl (by exact hMf) (by omega) ?_; rw [HE.out])
        go_ret2
        exact ⟨by rw [hdv.out, HC.out]; rfl, B3w.tr hbr⟩
  · have hdv : Hid (countC h m h2 m2 = 0) := by
      have : (linkC h m h2 m2 == 0) = false := by simpa using hc
      unfold Hid countC; rw [this, cond_false]
    go_enter Try.func42, Try.ntmps42
    go_wp2_with fail
    rw [← hW0]
    refine (c_impl_linked _ _ _ _ _).mono ?_; rintro e w1 ⟨rfl, hb1⟩
    go_wp2
    go_ret2
    exact ⟨by rw [hdv.out]; rfl, by (repeat (first | (with_reducible assumption) | (with_reducible exact Below.refl _ _) | (with_reducible refine Below.setCell ?_ (by first | (simp; done) | (simp; omega)) _) | (with_reducible refine Below.al ?_ _) | (with_reducible refine Below.dr ?_) | (with_reducible refine Below.drN ?_ _) | (with_reducible refine Below.tr ?_ (by with_reducible assumption))))⟩
end Go.Proofs.Ytggffkklfdpmkaa
