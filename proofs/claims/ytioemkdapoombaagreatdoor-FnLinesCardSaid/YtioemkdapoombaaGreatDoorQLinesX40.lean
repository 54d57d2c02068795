/- The law LinesX: what it rests on, part 40 of 46. -/
import Derived.Test.YtioemkdapoombaaGreatDoorQLinesX39
namespace Go.Proofs.YtioemkdapoombaaGreatDoor
open Go.ChangeShapes Go.WideShapes Go.ChangeAt Go.RowKit
set_option linter.unusedSimpArgs false
set_option linter.unusedVariables false
theorem RecM.rebase {o : Nat} {st : StK} {B g : Nat} {w : World} {R : Rc} {vc vo : Value} (h : RecM o st B g w R vc vo) (K : Nat → Prop) (hK : ∀ k, K k → k < w.heap.size ∧ k ≠ g ∧ vo.ownBlock ≠ some k) : RecM o ⟨st.l, K, fun k => w.heap[k]?⟩ B g w R vc vo :=
  ⟨h.hB, h.hg, h.cs, h.c0, h.c1, h.c2, h.c3, h.fz, h.own, h.ne, h.sh, fun k hk => ⟨(hK k hk).1, (hK k hk).2.1, (hK k hk).2.2, rfl⟩⟩
theorem RecM.free {o : Nat} {st : StK} {B g : Nat} {w : World} {R : Rc} {vc vo : Value} (h : RecM o st B g w R vc vo) : RecM o (stk st.l) B g w R vc vo :=
  ⟨h.hB, h.hg, h.cs, h.c0, h.c1, h.c2, h.c3, h.fz, h.own, h.ne, h.sh, fun k hk => hk.elim⟩
theorem RecM.grown {o : Nat} {l : List Value} {B g : Nat} {w w' : World} {R : Rc} {vc vo : Value} {r : Option Nat} (h : RecM o (stk l) B g w R vc vo) (hg : w.grownBy w' r) (h1 : r ≠ some g) (h2 : ∀ k, vo.ownBlock = some k → r ≠ some k) : RecM o (stk l) B g w' R vc vo :=
  h.block hg.size (hg.block g h.hg (fun e => h1 e.symm)) (fun k hk => hg.block k (World.ownsRow.lt h.own k hk).2 (fun e => h2 k hk e.symm)) (fun k _ hk => hk.elim)
def outI (s0 : ByteArray) (R : Rc) (pl : List ByteArray) (i : Nat) : List ByteArray := if i = 0 then [] else if i ≤ pl.length then ckO s0 R pl (i - 1) else ckO s0 R pl (pl.length - 1) ++ [endT]
theorem outI_one (s0 : ByteArray) (R : Rc) (pl : List ByteArray) (h : 0 < pl.length) : outI s0 R pl 1 = [s0] := by
  unfold outI; rw [if_neg (by decide), if_pos (by omega)]; rfl
theorem outI_step (s0 : ByteArray) (R : Rc) (pl : List ByteArray) (i : Nat) (h0 : 0 < i) (h : i < pl.length) : outI s0 R pl (i + 1) = (outI s0 R pl i ++ [pl.getD (i - 1) ⟨#[]⟩]) ++ [chkT (folR R pl i)] := by
  unfold outI
  rw [if_neg (by omega), if_pos (by omega), if_neg (by omega), if_pos (by omega)]
  obtain ⟨k, rfl⟩ : ∃ k, i = k + 1 := ⟨i - 1, by omega⟩
  rw [Nat.add_sub_cancel, Nat.add_sub_cancel]
  show ckO s0 R pl k ++ [pl.getD k ⟨#[]⟩, chkT (folR R pl (k + 1))] = _
  rw [List.append_assoc]; rfl
theorem outI_last (s0 : ByteArray) (R : Rc) (pl : List ByteArray) (h0 : 0 < pl.length) : outI s0 R pl (pl.length + 1) = outI s0 R pl pl.length ++ [endT] := by
  unfold outI
  rw [if_neg (by omega), if_neg (by omega), if_neg (by omega), if_pos (Nat.le_refl _)]
theorem outI_all (s0 : ByteArray) (R : Rc) (pl : List ByteArray) : outI s0 R pl (pl.length + 1) = ckO s0 R pl (pl.length - 1) ++ [endT] := by
  unfold outI
  rw [if_neg (by omega), if_neg (by omega)]
theorem outI_len (s0 : ByteArray) (R : Rc) (pl : List ByteArray) (i : Nat) (h : pl.length < 60) : (outI s0 R pl i).length ≤ 200 := by
  unfold outI
  split
  · simp
  · split
    · rw [ckO_len]; omega
    · rw [List.length_append, ckO_len]; simp; omega
theorem recAgain (W : World) (h m : Int) : RecM 2 (stk [.int .i64 h, .int .i64 m]) W.heap.size (W.heap.size + 1) ((W.alloc (.cells #[] 9)).alloc (.cells #[.int .i64 h, .int .i64 m, .int .i64 h, .int .i64 m, .slice none 0 0, .bool false] 79)).drew (startR h m) (.slice none 0 0) (.slice none 0 0) := by
  refine ⟨by omega, by simp, fun j hj => ?_, by go_simp; rfl, by go_simp; rfl, by go_simp, by go_simp; rfl, fun j hj => ?_, OwnI.nil _ rfl, by simp [Value.ownBlock], ⟨_, _, _, rfl⟩, fun k hk => hk.elim⟩
  · match j, hj with
    | 0, _ => (go_simp; rfl)
    | 1, _ => (go_simp; rfl)
  · match j, hj with
    | 0, _ => go_simp
    | 1, _ => go_simp
    | 2, _ => go_simp
    | 3, _ => go_simp
    | 4, _ => go_simp
    | 5, _ => go_simp
def agI (pl : List ByteArray) (i : Nat) : Nat := min (i - 1) (pl.length - 1)
set_option maxHeartbeats 16000000 in
set_option maxRecDepth 100000 in
theorem c_impl_CheckedLines (X : List ByteArray) (v : Value) (w : World) (hr : RdTC w v X) (hz : ∀ s ∈ X, s.size ≤ 2000000) (ht : Tab w) :
    Calls Tryz.prog 23 #[v] w fun e w' => ∃ u, e = .returned (.tuple #[u, .int .i64 (ckdC X)]) ∧ OwnT w.heap.size w'.heap.size w' u (ckL X) ∧ Below w.heap.size w w' := by
  have HR := Lib.hid hr
  have HZ := Lib.hid hz
  have HT := Lib.hid ht
  clear hr hz ht
  by_cases hz0 : askC X = 0
  · obtain ⟨s0, pl, h, m, PW⟩ := plW_of hz0
    have HPW := Lib.hid PW
    have hlen := ask_len hz0
    have HC0 := Lib.hid hz0
    have hpl60 := PW.len
    have hpl0 := PW.pos
    clear PW
    go_enter Tryz.func23, Tryz.ntmps23
    go_wp2_with fail
    refine (ask_impl X _ _ HR.out HZ.out HT.out).mono ?_; rintro e w1 ⟨p, rfl, hb1, hm1⟩
    obtain ⟨g, v', rfl, hv, M⟩ := hm1 hz0
    rw [hz0]
    clear hm1 hv hz0
    rw [HPW.out.stc] at M
    go_wp2_with fail
    refine (plain_impl X _ _ (HR.out.below hb1) (by omega) HZ.out HC0.out).mono ?_; rintro e w2 ⟨u, rfl, hu, hb2⟩
    rw [HPW.out.eq] at hu
    have M2 := M.below hb2
    have e0 : w2.cell? ⟨g, 0, none⟩ = some (.int .i64 h) := M2.cs 0 (by omega)
    have e1 : w2.cell? ⟨g, 1, none⟩ = some (.int .i64 m) := M2.cs 1 (by omega)
    have hgw := M2.hg
    have hs2 := hb2.size
    have B2 := hb1.tr hb2
    have T2 := Lib.hid (tab_below HT.out B2)
    have hur := OwnRow.rd rowT_len hu
    have HUR := Lib.hid hur
    obtain ⟨au, cu, rfl, hul, -⟩ := hur
    clear M M2 hb1 hu
    obtain ⟨N, hN⟩ : ∃ N, Hid ((s0 :: pl).length = N) := ⟨_, Lib.hid rfl⟩
    rw [hN.out] at hul ⊢
    have a0 := al_c (Obj.cells #[] 9) e0
    have a1 := al_c (Obj.cells #[] 9) e1
    go_wp2_with fail
    obtain ⟨W3, hW3⟩ : ∃ W3, W3 = w2.alloc (Obj.cells #[] 9) := ⟨_, rfl⟩
    rw [← hW3] at a0 a1 ⊢
    go_region_held3 (fun w' => w'.cell? ⟨g, 0, none⟩ = some (.int .i64 h) ∧ w'.cell? ⟨g, 1, none⟩ = some (.int .i64 m))
      (go_keep)
      (fail)
    have M5 := Lib.hid (recAgain w2 h m)
    have O5 : OwnT w2.heap.size (w2.heap.size + 1) ((w2.alloc (.cells #[] 9)).alloc (.cells #[.int .i64 h, .int .i64 m, .int .i64 h, .int .i64 m, .slice none 0 0, .bool false] 79)).drew (.slice (some ⟨w2.heap.size, 0, none⟩) 0 0) [] := (((OwnRow.made rfl rfl (Nat.le_refl _)).al _).drN 1)
    have B5 : Below w2.heap.size w2 ((w2.alloc (.cells #[] 9)).alloc (.cells #[.int .i64 h, .int .i64 m, .int .i64 h, .int .i64 m, .slice none 0 0, .bool false] 79)).drew := (((Below.refl _ _).al _).al _).dr
    have HO5 := Lib.hid O5
    have HB5 := Lib.hid B5
    have HNN : Hid (N = pl.length + 1) := by unfold Hid; rw [← hN.out]; rfl
    clear O5 B5 a0 a1 e0 e1
    (try rw [hW3])
    go_wp2_with fail
    clear hW3
    generalize ((w2.alloc (Obj.cells #[] 9)).alloc (Obj.cells #[.int .i64 h, .int .i64 m, .int .i64 h, .int .i64 m, .slice none 0 0, .bool false] 79)).drew = W5 at *
    obtain ⟨g2, hg2⟩ : ∃ g2, w2.heap.size + 1 = g2 := ⟨_, rfl⟩
    have hg2n : w2.heap.size < g2 := by omega
    rw [hg2] at M5 HO5 ⊢
    clear hg2
    obtain ⟨lo, hlo⟩ : ∃ lo, w2.heap.size = lo := ⟨_, rfl⟩
    rw [hlo] at M5 HO5 HB5 hg2n ⊢
    have HLO := Lib.hid hlo
    go_loopw [7, 34] (fun o i wr => ∃ k : Nat, k ≤ pl.length + 1 ∧ i = .int .i64 k ∧ OwnT lo wr.heap.size wr o (outI s0 (startR h m) pl k) ∧ (∃ a n c, o = .slice a n c) ∧ o.ownBlock ≠ some g2 ∧ (∃ v', RecM 2 (stk [.int .i64 h, .int .i64 m]) lo g2 wr (folR (startR h m) pl (agI pl k)) v' v' ∧ ∀ q, v'.ownBlock = some q → o.ownBlock ≠ some q) ∧ Below lo w2 wr) (fun _ i _ => pl.length + 1 - (intOf i).toNat)
    case atStart => exact ⟨0, by omega, rfl, HO5.out.wide (Nat.le_refl _) (by have := M5.out.hg; omega), ⟨_, _, _, rfl⟩, (by simp [Value.ownBlock]; omega), ⟨_, M5.out, fun q hq => by simp [Value.ownBlock] at hq⟩, HB5.out⟩
    case round =>
      clear M5 HO5 HB5
      obtain ⟨k, hk, rfl, ho, ⟨ao, no, co, rfl⟩, hog, ⟨v', M, hov⟩, BR⟩ := hrel
      have HBR := Lib.hid BR
      have hbs := BR.size
      have hlo2 := HLO.out
      have hgw := M.hg
      have hll := outI_len s0 (startR h m) pl k hpl60
      have hNN := HNN.out
      have HOG := Lib.hid hog
      by_cases hend : k = pl.length + 1
      · have hkN : ¬ (k : Int) < (N : Int) := by omega
        have HOA := Lib.hid (outI_all s0 (startR h m) pl)
        have HCP := Lib.hid (ckP_eq HPW.out.eq HPW.out.st)
        rw [hend, HOA.out, ← HCP.out] at ho
        have HLN := Lib.hid ((OwnRow.rd rowT_len ho))
        obtain ⟨a', c', he', -, -⟩ := HLN.out
        cases he'
        have B5 : Below w.heap.size w wr := B2.trans (HBR.out.mono (by have := HLO.out; have := B2.size; omega))
        have how : OwnT w.heap.size wr.heap.size wr (.slice ao (ckP X).length co) (ckP X) := ho.wide (by have := HLO.out; have := B2.size; omega) (Nat.le_refl _)
        clear hNN HLN
        by_cases hfull : 60 < (ckP X).length
        · have H1 : Hid (ckL X = []) := by unfold Hid ckL; rw [HC0.out, decide_eq_true hfull]; rfl
          have H2 : Hid (ckdC X = 5) := by unfold Hid ckdC; rw [HC0.out, decide_eq_true hfull]; rfl
          obtain ⟨L, hL⟩ : ∃ L, Hid ((ckP X).length = L) := ⟨_, Lib.hid rfl⟩
          rw [hL.out] at hfull ⊢
          have hf2 : (60 : Int) < (L : Int) := by omega
          clear how ho M
          go_wp2
          go_ret2
          exact ⟨.slice none 0 0, by rw [H2.out]; rfl, by rw [H1.out]; exact OwnRow.nil _ rfl, B5⟩
        · have H1 : Hid (ckL X = ckP X) := by unfold Hid ckL; rw [HC0.out, decide_eq_false hfull]; rfl
          have H2 : Hid (ckdC X = 0) := by unfold Hid ckdC; rw [HC0.out, decide_eq_false hfull]; rfl
          have HOW := Lib.hid how
          obtain ⟨L, hL⟩ : ∃ L, Hid ((ckP X).length = L) := ⟨_, Lib.hid rfl⟩
          rw [hL.out] at hfull HOW ⊢
          have hf2 : ¬ (60 : Int) < (L : Int) := by omega
          clear how ho M
          go_wp2
          go_ret2
          exact ⟨_, by rw [H2.out]; rfl, by rw [H1.out]; exact HOW.out, B5⟩
      · have hk0 : (0 : Int) ≤ (k : Int) := by omega
        have hkN : (k : Int) < (N : Int) := by omega
        have hkl : k < (s0 :: pl).length := by rw [List.length_cons]; omega
        obtain ⟨bq, oq, rfl, y⟩ := rdT_at HUR.out k hkl
        have y' := keepc (by rw [hlo2]; exact BR) y
        obtain ⟨sk, hsk⟩ : ∃ sk, (s0 :: pl)[k] = sk := ⟨_, rfl⟩
        have hskz : sk.size ≤ 2000000 := by rw [← hsk]; exact HZ.out _ (HPW.out.bd _ (List.getElem_mem hkl))
        rw [hsk] at y'
        have HSK := Lib.hid hsk
        clear hsk y
        obtain ⟨D0, hD0⟩ : ∃ D0, Hid (outI s0 (startR h m) pl k = D0) := ⟨_, Lib.hid rfl⟩
        rw [hD0.out] at ho hll
        have hll2 : D0.length < 1000000000 := by omega
        clear hNN hlo2
        by_cases hmid : 0 < k ∧ k < pl.length
        · have hc1 : (0 : Int) < (k : Int) := by omega
          have hc2 : (k : Int) < (N : Int) - 1 := by have := HNN.out; omega
          go_wp2_with (at_builtin; refine push_row_at (row := rowT) rfl _ _ _ _ rfl Tryz.underlying29 (.string ⟨#[]⟩) 16 infoTx rfl (by decide) (by decide) rowT_len lo _ _ _ sk #[.string sk] _ rfl (rowT_ones _) rfl rfl (by exact ho) hll2 (by omega) ?_; intro v6 w6 hown6 hbel6 hs6 hg6 hat6)
          have hg6' : wr.grownBy w6 (Value.slice ao no co).ownBlock := hg6
          have hat6' : v6.ownBlock = (Value.slice ao no co).ownBlock ∨ v6.ownBlock = some (wr.heap.size + 1) := hat6
          have M6 := M.grown hg6' HOG.out hov
          have h6g : v6.ownBlock ≠ some g2 := fun e => by
            rcases hat6' with e2 | e2
            · exact HOG.out (e2.symm.trans e)
            · rw [e2] at e; simp only [Option.some.injEq] at e; omega
          have h6v : ∀ q, v'.ownBlock = some q → v6.ownBlock ≠ some q := fun q hq e => by
            have hlq := (World.ownsRow.lt M.own q hq).2
            rcases hat6' with e2 | e2
            · exact hov q hq (e2.symm.trans e)
            · rw [e2] at e; simp only [Option.some.injEq] at e; omega
          have BR6 := hbel6 _ HBR.out
          obtain ⟨a6, n6, c6, rfl⟩ : ∃ a n c, v6 = .slice a n c := by obtain ⟨g', n', c', e⟩ := hown6.form (by simp); exact ⟨_, _, _, e⟩
          clear hg6 hat6 hat6' M hov hbel6 ho
          have M7 := M6.rebase (fun q => (Value.slice a6 n6 c6).ownBlock = some q) (fun q hq => ⟨(World.ownsRow.lt hown6.1 q hq).2, fun e => h6g (by rw [hq, e]), fun e => h6v q e hq⟩)
          have hpk : pl.getD (k - 1) ⟨#[]⟩ = sk := by
            rw [← HSK.out]
            obtain ⟨j, rfl⟩ : ∃ j, k = j + 1 := ⟨k - 1, by omega⟩
            simp [List.getD, show j < pl.length by omega]
          have hag : agI pl k = k - 1 := by unfold agI; omega
          have hok := HPW.out.ok (k - 1) (by omega)
          have hval := HPW.out.val (k - 1) (by omega)
          have hfs : folR (startR h m) pl k = (lineF (folR (startR h m) pl (k - 1)) sk).2 := by
            obtain ⟨j, rfl⟩ : ∃ j, k = j + 1 := ⟨k - 1, by omega⟩
            rw [Nat.add_sub_cancel] at hpk ⊢
            rw [← hpk]; rfl
          have hval2 := HPW.out.val k (by omega)
          have hag2 : agI pl (k + 1) = k := by unfold agI; omega
          have HST := Lib.hid (outI_step s0 (startR h m) pl k hmid.1 hmid.2)
          rw [hpk] at hok HST
          rw [hD0.out] at HST
          rw [hag] at M7
          have HAG2 := Lib.hid hag2
          have HFS := Lib.hid hfs
          have hT6 := tab_below T2.out (show Below w2.heap.size w2 w6 by rw [HLO.out]; exact BR6)
          have hs26 : lo ≤ w6.heap.size := by have := BR6.size; have := HLO.out; omega
          refine (c_impl_record_line ⟨[.int .i64 h, .int .i64 m], fun q => (Value.slice a6 n6 c6).ownBlock = some q, fun q => w6.heap[q]?⟩ lo g2 (folR (startR h m) pl (k - 1)) sk v' w6 M7 hval.1 hskz (by omega) hs26 hT6).mono ?_; rintro e w7 ⟨rfl, hb7, hm7⟩
          obtain ⟨v7, M8⟩ := hm7 hok
          have BR7 := BR6.trans hb7
          have hs67 := hb7.size
          rw [hok]
          rw [← HFS.out] at M8
          have hkp := M8.kp
          have ho7 : OwnT lo w7.heap.size w7 (.slice a6 n6 c6) (D0 ++ [sk]) := ⟨owns_block hown6.1 (fun q hq => (hkp q hq).2.2.2), fun q hq => (hkp q hq).1⟩
          have M9 := M8.free
          have h7v : ∀ q, v7.ownBlock = some q → (Value.slice a6 n6 c6).ownBlock ≠ some q := fun q hq e => (hkp q e).2.2.1 hq
          clear M8 M7 M6 hm7 hkp hok hpk hag hfs hag2 hown6 h6v hval y'
          obtain ⟨R7, hR7⟩ : ∃ R7, Hid (folR (startR h m) pl k = R7) := ⟨_, Lib.hid rfl⟩
          rw [hR7.out] at M9 HST hval2
          have c2 : w7.cell? ⟨g2, 2, none⟩ = some (.int .i64 R7.h) := M9.c0
          have c3 : w7.cell? ⟨g2, 3, none⟩ = some (.int .i64 R7.m) := M9.c1
          go_wp2_with fail
          refine (c_impl_StateText R7.h R7.m _ hval2.1).mono ?_; rintro e w8 ⟨rfl, hb8⟩
          have hvb := (validB_iff.1 hval2.1).1
          have hst := stT_size R7.h R7.m
          have HCT : Hid (chkT R7 = ⟨#[99, 104, 101, 99, 107, 32]⟩ ++ stT R7.h R7.m) := rfl
          obtain ⟨S, hS⟩ : ∃ S, Hid (stT R7.h R7.m = S) := ⟨_, Lib.hid rfl⟩
          rw [hS.out] at hst HCT ⊢
          have hSz : S.size ≤ 10 := by rw [hst]; omega
          have hSs2 : ((⟨#[99, 104, 101, 99, 107, 32]⟩ : ByteArray) ++ S).size ≤ 16 := by rw [ByteArray.size_append]; show 6 + S.size ≤ 16; omega
          rw [HCT.out] at HST
          have M10 := M9.below hb8
          have ho8 := ho7.below hb8
          have BR8 := BR7.trans (hb8.mono (by have := BR7.size; have := HLO.out; omega))
          have hs78 := hb8.size
          have hg8 := M10.hg
          have hll8 : (D0 ++ [sk]).length < 1000000000 := by simp; omega
          clear c2 c3 M9 ho7 hst
          have hlo8 : lo ≤ w8.heap.size := by have := BR8.size; have := HLO.out; omega
          go_wp2_with (at_builtin; refine push_row_at (row := rowT) rfl _ _ _ _ rfl Tryz.underlying29 (.string ⟨#[]⟩) 16 infoTx rfl (by decide) (by decide) rowT_len lo _ _ _ ((⟨#[99, 104, 101, 99, 107, 32]⟩ : ByteArray) ++ S) #[.string ((⟨#[99, 104, 101, 99, 107, 32]⟩ : ByteArray) ++ S)] _ rfl (rowT_ones _) rfl rfl (by exact ho8) hll8 (by omega) ?_; intro v9 w9 hown9 hbel9 hs9 hg9 hat9)
          have hg9' : w8.grownBy w9 (Value.slice a6 n6 c6).ownBlock := hg9
          have hat9' : v9.ownBlock = (Value.slice a6 n6 c6).ownBlock ∨ v9.ownBlock = some (w8.heap.size + 1) := hat9
          have M11 := M10.grown hg9' h6g h7v
          have h9g : v9.ownBlock ≠ some g2 := fun e => by
            rcases hat9' with e2 | e2
            · exact h6g (e2.symm.trans e)
            · rw [e2] at e; simp only [Option.some.injEq] at e; omega
          have h9v : ∀ q, v7.ownBlock = some q → v9.ownBlock ≠ some q := fun q hq e => by
            have hlq := (World.ownsRow.lt M10.own q hq).2
            rcases hat9' with e2 | e2
            · exact h7v q hq (e2.symm.trans e)
            · rw [e2] at e; simp only [Option.some.injEq] at e; omega
          have BR9 := hbel9 _ BR8
          obtain ⟨a9, n9, c9, rfl⟩ : ∃ a n c, v9 = .slice a n c := by obtain ⟨g', n', c', e⟩ := hown9.form (by simp); exact ⟨_, _, _, e⟩
          rw [← HST.out] at hown9
          clear hg9 hat9 hat9' M10 hbel9
          go_roundw
          case rel => exact ⟨k + 1, by omega, by go_num, hown9, ⟨_, _, _, rfl⟩, h9g, ⟨v7, by rw [HAG2.out, hR7.out]; exact M11, h9v⟩, BR9⟩
          case measure => simp [intOf]; omega
        · have HAG2 : Hid (agI pl (k + 1) = agI pl k) := by unfold Hid agI; omega
          have HST : Hid (outI s0 (startR h m) pl (k + 1) = D0 ++ [sk]) := by
            unfold Hid
            by_cases h0 : k = 0
            · subst h0
              rw [outI_one s0 (startR h m) pl hpl0, ← hD0.out, ← HSK.out]; rfl
            · have hke : k = pl.length := by omega
              have hse : sk = endT := by
                rw [← HSK.out, ← HPW.out.last]
                simp only [hke]
                obtain ⟨j, hj⟩ : ∃ j, pl.length = j + 1 := ⟨pl.length - 1, by omega⟩
                simp only [hj, List.getElem_cons_succ, Nat.add_sub_cancel]
                simp [List.getD, hj]
              rw [hse, ← hD0.out, hke, outI_last s0 (startR h m) pl hpl0]
          have hlow := HBR.out.size
          by_cases h0 : k = 0
          · have hc1 : ¬ (0 : Int) < (k : Int) := by omega
            have H0 := Lib.hid h0
            clear h0 hmid
            go_wp2_with (at_builtin; refine push_row_at (row := rowT) rfl _ _ _ _ rfl Tryz.underlying29 (.string ⟨#[]⟩) 16 infoTx rfl (by decide) (by decide) rowT_len lo _ _ _ sk #[.string sk] _ rfl (rowT_ones _) rfl rfl (by exact ho) hll2 (by omega) ?_; intro v6 w6 hown6 hbel6 hs6 hg6 hat6; refine stop_of ?_)
            unfold Stopped
            have hg6' : wr.grownBy w6 (Value.slice ao no co).ownBlock := hg6
            have hat6' : v6.ownBlock = (Value.slice ao no co).ownBlock ∨ v6.ownBlock = some (wr.heap.size + 1) := hat6
            have M6 := M.grown hg6' HOG.out hov
            have h6g : v6.ownBlock ≠ some g2 := fun e => by
              rcases hat6' with e2 | e2
              · exact HOG.out (e2.symm.trans e)
              · rw [e2] at e; simp only [Option.some.injEq] at e; omega
            have h6v : ∀ q, v'.ownBlock = some q → v6.ownBlock ≠ some q := fun q hq e => by
              have hlq := (World.ownsRow.lt M.own q hq).2
              rcases hat6' with e2 | e2
              · exact hov q hq (e2.symm.trans e)
              · rw [e2] at e; simp only [Option.some.injEq] at e; omega
            have BR6 := hbel6 _ HBR.out
            obtain ⟨a6, n6, c6, rfl⟩ : ∃ a n c, v6 = .slice a n c := by obtain ⟨g', n', c', e⟩ := hown6.form (by simp); exact ⟨_, _, _, e⟩
            clear hg6 hat6 hat6' M hov hbel6 ho
            rw [← HST.out] at hown6
            have HP := Lib.hid (And.intro hown6 (And.intro h6g (And.intro h6v (And.intro BR6 M6))))
            clear HST hD0 y' hskz HSK hll hll2 hown6 h6g h6v BR6 M6 HOG hog
            go_wp2_with fail
            go_roundw
            case rel => exact ⟨k + 1, by have := H0.out; omega, by go_num, HP.out.1, ⟨_, _, _, rfl⟩, HP.out.2.1, ⟨v', by rw [HAG2.out]; exact HP.out.2.2.2.2, HP.out.2.2.1⟩, HP.out.2.2.2.1⟩
            case measure => simp [intOf]; omega
          · have hc1 : (0 : Int) < (k : Int) := by omega
            have hc2 : ¬ (k : Int) < (N : Int) - 1 := by have := HNN.out; omega
            clear hmid
            go_wp2_with (at_builtin; refine push_row_at (row := rowT) rfl _ _ _ _ rfl Tryz.underlying29 (.string ⟨#[]⟩) 16 infoTx rfl (by decide) (by decide) rowT_len lo _ _ _ sk #[.string sk] _ rfl (rowT_ones _) rfl rfl (by exact ho) hll2 (by omega) ?_; intro v6 w6 hown6 hbel6 hs6 hg6 hat6; refine stop_of ?_)
            unfold Stopped
            have hg6' : wr.grownBy w6 (Value.slice ao no co).ownBlock := hg6
            have hat6' : v6.ownBlock = (Value.slice ao no co).ownBlock ∨ v6.ownBlock = some (wr.heap.size + 1) := hat6
            have M6 := M.grown hg6' HOG.out hov
            have h6g : v6.ownBlock ≠ some g2 := fun e => by
              rcases hat6' with e2 | e2
              · exact HOG.out (e2.symm.trans e)
              · rw [e2] at e; simp only [Option.some.injEq] at e; omega
            have h6v : ∀ q, v'.ownBlock = some q → v6.ownBlock ≠ some q := fun q hq e => by
              have hlq := (World.ownsRow.lt M.own q hq).2
              rcases hat6' with e2 | e2
              · exact hov q hq (e2.symm.trans e)
              · rw [e2] at e; simp only [Option.some.injEq] at e; omega
            have BR6 := hbel6 _ HBR.out
            obtain ⟨a6, n6, c6, rfl⟩ : ∃ a n c, v6 = .slice a n c := by obtain ⟨g', n', c', e⟩ := hown6.form (by simp); exact ⟨_, _, _, e⟩
            clear hg6 hat6 hat6' M hov hbel6 ho
            rw [← HST.out] at hown6
            have HP := Lib.hid (And.intro hown6 (And.intro h6g (And.intro h6v (And.intro BR6 M6))))
            clear HST hD0 y' hskz HSK hll hll2 hown6 h6g h6v BR6 M6 HOG hog
            go_wp2_with fail
            go_roundw
            case rel => exact ⟨k + 1, by omega, by go_num, HP.out.1, ⟨_, _, _, rfl⟩, HP.out.2.1, ⟨v', by rw [HAG2.out]; exact HP.out.2.2.2.2, HP.out.2.2.1⟩, HP.out.2.2.2.1⟩
            case measure => simp [intOf]; omega
  · have hzb : (askC X == 0) = false := beq_eq_false_iff_ne.2 hz0
    have H1 : Hid (ckL X = []) := by unfold Hid ckL; rw [hzb]; rfl
    have H2 : Hid (ckdC X = askC X) := by unfold Hid ckdC; rw [hzb]; rfl
    go_enter Tryz.func23, Tryz.ntmps23
    go_wp2_with fail
    refine (ask_impl X _ _ HR.out HZ.out HT.out).mono ?_; rintro e w1 ⟨p, rfl, hb1, hm1⟩
    clear hm1
    obtain ⟨C, hC⟩ : ∃ C, Hid (askC X = C) := ⟨_, Lib.hid rfl⟩
    rw [hC.out] at hzb hz0 H2 ⊢
    go_wp2
    go_ret2
    exact ⟨.slice none 0 0, by rw [H2.out]; rfl, by rw [H1.out]; exact OwnRow.nil _ rfl, hb1⟩
theorem step_push2 {P : Program} {ops : Array Oper} {o : Oper} {a : Act} {K : Act → World → Prop} {Q : Exit → Act → World → Prop} {Ep : Prop} (hgd : o.guard = none) (s x : Operand) (t e : TypeId)
    (ho : o.op = .call { callee := .builtin .append, args := #[s, x], argTypes := #[t, t] })
    (ht : P.underlying t = some (.slice e)) (z : Value) (bytes : Nat) (hinfo : (P.info? e).map (fun i => (i.zero, i.size, i.bytes)) = some (some z, 1, bytes)) (hzs : z.cells.size = 1) (hby : bytes ≤ 1000)
    (lo hi g : Nat) (v : Value) (xs : List ByteArray) (y1 y2 : ByteArray) (w1 : World)
    (hs : a.eval s = v) (hx : a.eval x = .slice (some ⟨g, 0, none⟩) 2 2) (hblk : w1.heap[g]? = some (.cells #[.string y1, .string y2] e (0, 0)))
    (hown : OwnRow e 1 rowT lo hi w1 v xs) (hlen : xs.length < 1000000000) (hB : lo ≤ w1.heap.size)
    (h : ∀ v' w', OwnRow e 1 rowT lo w'.heap.size w' v' (xs ++ [y1, y2]) → w1.grownBy w' v.ownBlock → (v'.ownBlock = v.ownBlock ∨ v'.ownBlock = some w1.heap.size) → w1.heap.size ≤ w'.heap.size → K (a.put o.dst v') w') :
    if Region.wanted o (yielded ops a.tmps) = true then Oper.wp P o a w1 K Q else Ep := by
  obtain ⟨i0, hi0, hz0, hz1, hz2⟩ := info_parts hinfo
  refine step_append_lies (w := w1) hgd s x t ho lo e i0 z 1 bytes ht hi0 hz0 hz1 hz2 hzs (by decide) v xs.length (xs.flatMap rowT) hs hown.1 ⟨g, 0, none⟩ 2 2 [.string y1, .string y2] hx rfl ?_ ?_ (by decide) ?_ ?_ hB _ rfl ?_
  · intro j u hj
    exact World.news_of_block hblk j u hj
  · intro u hu
    simp only [List.mem_cons, List.not_mem_nil, or_false] at hu
    rcases hu with rfl | rfl <;> rfl
  · unfold maxLen; omega
  · have h1 : (xs.length + 2) * bytes ≤ 1000000001 * 1000 := Nat.mul_le_mul (by omega) hby
    omega
  · intro g' cap w' ho' hg hat _
    refine h _ w' ⟨?_, fun k hk => (World.ownsRow.lt ho' k hk).2⟩ hg ?_ hg.size
    · have e1 : (xs ++ [y1, y2]).length = xs.length + 2 := by simp
      have e2 : (xs ++ [y1, y2]).flatMap rowT = xs.flatMap rowT ++ [.string y1, .string y2] := by simp [rowT]
      rw [e1, e2]; exact ho'
    · rcases hat with hat | hat
      · left; rw [hat]; rfl
      · right; rw [hat]; rfl
set_option maxHeartbeats 16000000 in
set_option maxRecDepth 100000 in
theorem c_spec_CheckedLines (X : List ByteArray) (v : Value) (w : World) (hr : RdTC w v X) (hz : ∀ s ∈ X, s.size ≤ 2000000) (ht : Tab w) :
    Calls Tryz.prog 24 #[v] w fun e w' => ∃ u, e = .returned (.tuple #[u, .int .i64 (ckdC X)]) ∧ OwnT w.heap.size w'.heap.size w' u (ckL X) ∧ Below w.heap.size w w' := by
  have HR := Lib.hid hr
  have HZ := Lib.hid hz
  have HT := Lib.hid ht
  clear hr hz ht
  by_cases hz0 : askC X = 0
  · obtain ⟨s0, pl, h, m, PW⟩ := plW_of hz0
    have HPW := Lib.hid PW
    have hlen := ask_len hz0
    have HC0 := Lib.hid hz0
    have hpl60 := PW.len
    have hpl0 := PW.pos
    clear PW
    go_enter Tryz.func24, Tryz.ntmps24
    go_wp2_with fail
    refine (ask_spec X _ _ HR.out HZ.out HT.out).mono ?_; rintro e w1 ⟨p, rfl, hb1, hm1⟩
    rw [hz0]
    clear hm1 hz0
    go_wp2_with fail
    refine (plain_spec X _ _ (HR.out.below hb1) (by omega) HZ.out HC0.out).mono ?_; rintro e w2 ⟨u, rfl, hu, hb2⟩
    rw [HPW.out.eq] at hu
    have hs2 := hb2.size
    have B2 := hb1.tr hb2
    have hrtc := OwnRow.rdtc hu
    have HRTC := Lib.hid hrtc
    have HUR := Lib.hid hrtc.1
    obtain ⟨⟨au, cu, rfl, hul, -⟩, -⟩ := hrtc
    clear hb1 hu
    have hkl0 : 0 < (s0 :: pl).length := by simp
    obtain ⟨bq, oq, rfl, y0⟩ := rdT_at HUR.out 0 hkl0
    have y0 : w2.cell? ⟨bq, oq, none⟩ = some (.string s0) := y0
    have HNE : Hid ((s0 :: pl).length = pl.length + 1) := rfl
    obtain ⟨N, hN⟩ : ∃ N, Hid ((s0 :: pl).length = N) := ⟨_, Lib.hid rfl⟩
    rw [hN.out] at hul HNE hkl0 ⊢
    have hkl0' : (0 : Int) < (N : Int) := by omega
    clear hkl0
    go_wp2_with fail
    have HO3 : Hid (OwnT w2.heap.size (w2.heap.size + 1) (w2.alloc (Obj.cells #[.string s0] 9)) (.slice (some ⟨w2.heap.size, 0, none⟩) 1 1) [s0]) := Lib.hid ⟨World.ownsRow_lit w2 #[.string s0] 1 (Nat.le_refl _) (by decide) rfl, fun q hq => by simp only [Value.ownBlock, Option.some.injEq] at hq; omega⟩
    have HB3 : Hid (Below w2.heap.size w2 (w2.alloc (Obj.cells #[.string s0] 9))) := Lib.hid ((Below.refl _ _).al _)
    have hs3 : w2.heap.size < (w2.alloc (Obj.cells #[.string s0] 9)).heap.size := by simp
    generalize (w2.alloc (Obj.cells #[.string s0] 9)) = W3 at *
    obtain ⟨lo, hlo⟩ : ∃ lo, Hid (w2.heap.size = lo) := ⟨_, Lib.hid rfl⟩
    rw [hlo.out] at HO3 HB3 hs3 ⊢
    go_loopw [7, 8] (fun o i wr => ∃ k : Nat, k < pl.length ∧ i = .int .i64 ((k : Int) + 1) ∧ OwnT lo wr.heap.size wr o (ckO s0 (startR h m) pl k) ∧ (∃ a n c, o = .slice a n c) ∧ Below lo w2 wr) (fun _ i _ => N - (intOf i).toNat)
    case atStart => exact ⟨0, by omega, by go_num, HO3.out.wide (Nat.le_refl _) (by omega), ⟨_, _, _, rfl⟩, HB3.out⟩
    case round =>
      clear HO3 HB3
      obtain ⟨k, hk, rfl, ho, ⟨ao, no, co, rfl⟩, BR⟩ := hrel
      have HBR := Lib.hid BR
      have hlow : lo ≤ wr.heap.size := by have := BR.size; have := hlo.out; omega
      have BR2 : Below w2.heap.size w2 wr := by rw [hlo.out]; exact BR
      have hNN := HNE.out
      have hll : (ckO s0 (startR h m) pl k).length < 1000000000 := by rw [ckO_len]; omega
      by_cases hlt : k + 1 < pl.length
      · have hkN : (k : Int) + 1 < (N : Int) - 1 := by omega
        have hk2 : (k : Int) + 1 + 1 ≤ (N : Int) := by omega
        have hk1 : (k : Int) + 1 < (N : Int) := by omega
        have hk0 : (0 : Int) ≤ (k : Int) + 1 := by omega
        have hkl : k + 1 < (s0 :: pl).length := by rw [List.length_cons]; omega
        obtain ⟨bq', oq', he', y⟩ := rdT_at HUR.out (k + 1) hkl
        cases he'
        have y' := keepc BR2 y
        have HGL : Hid ((s0 :: pl)[k + 1] = pl.getD k ⟨#[]⟩) := by unfold Hid; simp [List.getD, show k < pl.length by omega]
        obtain ⟨sk, hsk⟩ : ∃ sk, (s0 :: pl)[k + 1] = sk := ⟨_, rfl⟩
        have hskz : sk.size ≤ 2000000 := by rw [← hsk]; exact HZ.out _ (HPW.out.bd _ (List.getElem_mem hkl))
        rw [hsk] at y' HGL
        clear hsk y hNN
        have hcr := HRTC.out.below BR2
        obtain ⟨u, hsl, hru⟩ := cutT_r hcr ((k : Int) + 1 + 1) (by omega) (by rw [hN.out]; omega)
        rw [hN.out] at hsl
        rw [show ((k : Int) + 1 + 1).toNat = k + 1 + 1 by omega] at hru
        have HRU := Lib.hid hru
        have HRUN := Lib.hid (HPW.out.run (k + 1) hlt)
        have HTL : Hid (((s0 :: pl).take (k + 1 + 1)).length = k + 1 + 1) := by unfold Hid; rw [List.length_take, List.length_cons]; omega
        have HTZ : Hid (∀ s ∈ (s0 :: pl).take (k + 1 + 1), s.size ≤ 2000000) := fun s hs => HZ.out _ (HPW.out.bd _ (List.mem_of_mem_take hs))
        have hval := HPW.out.val (k + 1) (by omega)
        have HST : Hid (ckO s0 (startR h m) pl (k + 1) = ckO s0 (startR h m) pl k ++ [sk, chkT (folR (startR h m) pl (k + 1))]) := by unfold Hid; rw [HGL.out]; rfl
        obtain ⟨D0, hD0⟩ : ∃ D0, Hid (ckO s0 (startR h m) pl k = D0) := ⟨_, Lib.hid rfl⟩
        rw [hD0.out] at ho HST hll
        clear hru hcr
        go_wp2_with (rw [hsl _])
        refine (c_spec_l27Run ((s0 :: pl).take (k + 1 + 1)) u _ HRU.out.1 (by rw [HTL.out]; omega) HTZ.out).mono ?_; rintro e w5 ⟨g, rfl, hb5, hm5⟩
        rw [HRUN.out] at hm5 ⊢
        obtain ⟨hv5, v5, M5⟩ := hm5 (Or.inr ⟨rfl, by show (((k + 1 : Nat) : Int) + 1) = _; rw [HTL.out]; push_cast; rfl⟩)
        clear hm5 hsl
        obtain ⟨R7, hR7⟩ : ∃ R7, Hid (folR (startR h m) pl (k + 1) = R7) := ⟨_, Lib.hid rfl⟩
        have M5 : RecM 0 (startC ((s0 :: pl).take (k + 1 + 1))) wr.heap.size g w5 (folR (startR h m) pl (k + 1)) v5 v5 := M5
        rw [hR7.out] at M5 HST hval
        have c0 : w5.cell? ⟨g, 0, none⟩ = some (.int .i64 R7.h) := M5.c0
        have c1 : w5.cell? ⟨g, 1, none⟩ = some (.int .i64 R7.m) := M5.c1
        have y5 := keepc hb5 y'
        have hs5 := hb5.size
        have ho5 := ho.below hb5
        have BR5 := BR.trans (hb5.mono hlow)
        have hvb := (validB_iff.1 hval.1).1
        have hst := stT_size R7.h R7.m
        have HCT : Hid (chkT R7 = ⟨#[99, 104, 101, 99, 107, 32]⟩ ++ stT R7.h R7.m) := rfl
        have HVV := Lib.hid hval.1
        obtain ⟨S, hS⟩ : ∃ S, Hid (stT R7.h R7.m = S) := ⟨_, Lib.hid rfl⟩
        rw [hS.out] at hst HCT
        have hSz : S.size ≤ 10 := by rw [hst]; omega
        have hSs2 : ((⟨#[99, 104, 101, 99, 107, 32]⟩ : ByteArray) ++ S).size ≤ 16 := by rw [ByteArray.size_append]; show 6 + S.size ≤ 16; omega
        rw [HCT.out] at HST
        have hgB := M5.hB
        have hneg : (Value.slice ao no co).ownBlock ≠ some g := fun e => by have := (World.ownsRow.lt ho.1 g e).2; omega
        have hneb : (Value.slice ao no co).ownBlock ≠ some bq := fun e => by
          have h1 := (World.ownsRow.lt ho.1 bq e).1
          have h2 := World.block_lt_of_cell? w2 _ y0
          have h3 : bq < w2.heap.size := h2
          have := hlo.out
          omega
        clear M5 y' BR hv5 hst hval HRU HRUN HTZ
        have hns : ¬ (9223372036854775807 < 6 + S.size) := by omega
        have hns2 : ¬ (9223372036854775807 < ((⟨#[99, 104, 101, 99, 107, 32]⟩ : ByteArray) ++ S).size) := by omega
        go_wp2_with fail
        go_region_held3 (fun w' => w'.cell? ⟨g, 0, none⟩ = some (.int .i64 R7.h) ∧ w'.cell? ⟨g, 1, none⟩ = some (.int .i64 R7.m) ∧ w'.cell? ⟨bq, oq + (k + 1), none⟩ = some (.string sk))
          (go_keep)
          (first
            | ((go_at_call 64; refine (c_spec_l08Text R7.h R7.m _ HVV.out).mono ?_; rintro e w6 ⟨rfl, hb6⟩; rw [hS.out]; have hb6' := below_drew hb6; have z0 := keepc hb6' c0; have z1 := keepc hb6' c1; have z2 := keepc hb6' y5; have ho6 := ho5.below hb6'; have BR6 := BR5.trans (hb6'.mono (Nat.le_trans hlow hs5)); have hs6 := hb6'.size))
            | ((refine step_push2 (by exact rfl) _ _ _ _ (by exact rfl) Tryz.underlying29 (.string ⟨#[]⟩) 16 infoTx rfl (by decide) lo wr.heap.size w6.heap.size (.slice ao no co) D0 sk ((⟨#[99, 104, 101, 99, 107, 32]⟩ : ByteArray) ++ S) _ (by exact rfl) (by exact rfl) (heap_alloc_new w6 _) (by exact OwnRow.al ho6 _) hll ?_ ?_; exact (Nat.le_trans (Nat.le_trans (Nat.le_trans hlow hs5) hs6) (Nat.le_of_lt (Nat.lt_of_lt_of_le (Nat.lt_succ_self _) (Nat.le_of_eq (World.size_alloc w6 _).symm)))); intro v7 w7 hown7 hg7 hat7 hs7; have q0 := grown_c hg7 (al_c _ z0) hneg; have q1 := grown_c hg7 (al_c _ z1) hneg; have q2 := grown_c hg7 (al_c _ z2) hneb)))
        have BR7 : Below lo w2 w7 := (BR6.alloc (Nat.le_trans (Nat.le_trans hlow hs5) hs6) _).grown hg7 (Nat.le_trans (Nat.le_trans (Nat.le_trans hlow hs5) hs6) (by simp)) (fun q hq => (World.ownsRow.lt ho.1 q hq).1)
        obtain ⟨a7, n7, c7, rfl⟩ : ∃ a n c, v7 = .slice a n c := by obtain ⟨g', n', c', e⟩ := hown7.form (by simp); exact ⟨_, _, _, e⟩
        rw [← HST.out] at hown7
        have HP := Lib.hid (And.intro hown7 BR7)
        rename_i hHeldX
        clear hHeldX
        clear hown7 BR7 hat7 hg7 hs7 ho ho5 ho6 q0 q1 q2 z0 z1 z2 c0 c1 y5 HST HCT
        go_wp2
        go_roundw
        case rel => exact ⟨k + 1, hlt, by go_num, HP.out.1, ⟨_, _, _, rfl⟩, HP.out.2⟩
        case measure => simp [intOf]; omega
      · have hke : k = pl.length - 1 := by omega
        have hkN : ¬ (k : Int) + 1 < (N : Int) - 1 := by omega
        have HCP := Lib.hid (ckP_eq HPW.out.eq HPW.out.st)
        rw [← hke] at HCP
        have hll2 := hll
        obtain ⟨D0, hD0⟩ : ∃ D0, Hid (ckO s0 (startR h m) pl k = D0) := ⟨_, Lib.hid rfl⟩
        rw [hD0.out] at ho HCP hll2
        clear hNN hke hll hlt hk
        go_wp2_with (at_builtin; refine push_row_at (row := rowT) rfl _ _ _ _ rfl Tryz.underlying29 (.string ⟨#[]⟩) 16 infoTx rfl (by decide) (by decide) rowT_len lo _ _ _ (⟨#[101, 110, 100]⟩ : ByteArray) #[.string (⟨#[101, 110, 100]⟩ : ByteArray)] _ rfl (rowT_ones _) rfl rfl (by exact ho) hll2 (by omega) ?_; intro v6 w6 hown6 hbel6 hs6 hg6 hat6; refine stop_of ?_)
        unfold Stopped
        have BR6 := hbel6 _ HBR.out
        have hown6 : OwnT lo w6.heap.size w6 v6 (ckP X) := by rw [HCP.out]; exact hown6
        clear hg6 hat6 hbel6
        obtain ⟨a6, c6, rfl, -, -⟩ := OwnRow.rd rowT_len hown6
        have B5 : Below w.heap.size w w6 := B2.trans (BR6.mono (by have := hlo.out; have := B2.size; omega))
        have HOW := Lib.hid (hown6.wide (lo' := w.heap.size) (hi' := w6.heap.size) (by have := hlo.out; have := B2.size; omega) (Nat.le_refl _))
        clear hown6 BR6 HCP ho
        by_cases hfull : 60 < (ckP X).length
        · have H1 : Hid (ckL X = []) := by unfold Hid ckL; rw [HC0.out, decide_eq_true hfull]; rfl
          have H2 : Hid (ckdC X = 5) := by unfold Hid ckdC; rw [HC0.out, decide_eq_true hfull]; rfl
          obtain ⟨L, hL⟩ : ∃ L, Hid ((ckP X).length = L) := ⟨_, Lib.hid rfl⟩
          rw [hL.out] at hfull HOW ⊢
          have hf2 : (60 : Int) < (L : Int) := by omega
          go_wp2
          go_ret2
          exact ⟨.slice none 0 0, by rw [H2.out]; rfl, by rw [H1.out]; exact OwnRow.nil _ rfl, B5⟩
        · have H1 : Hid (ckL X = ckP X) := by unfold Hid ckL; rw [HC0.out, decide_eq_false hfull]; rfl
          have H2 : Hid (ckdC X = 0) := by unfold Hid ckdC; rw [HC0.out, decide_eq_false hfull]; rfl
          obtain ⟨L, hL⟩ : ∃ L, Hid ((ckP X).length = L) := ⟨_, Lib.hid rfl⟩
          rw [hL.out] at hfull HOW ⊢
          have hf2 : ¬ (60 : Int) < (L : Int) := by omega
          go_wp2
          go_ret2
          exact ⟨_, by rw [H2.out]; rfl, by rw [H1.out]; exact HOW.out, B5⟩
  · have hzb : (askC X == 0) = false := beq_eq_false_iff_ne.2 hz0
    have H1 : Hid (ckL X = []) := by unfold Hid ckL; rw [hzb]; rfl
    have H2 : Hid (ckdC X = askC X) := by unfold Hid ckdC; rw [hzb]; rfl
    go_enter Tryz.func24, Tryz.ntmps24
    go_wp2_with fail
    refine (ask_spec X _ _ HR.out HZ.out HT.out).mono ?_; rintro e w1 ⟨p, rfl, hb1, hm1⟩
    clear hm1
    obtain ⟨C, hC⟩ : ∃ C, Hid (askC X = C) := ⟨_, Lib.hid rfl⟩
    rw [hC.out] at hzb hz0 H2 ⊢
    go_wp2
    go_ret2
    exact ⟨.slice none 0 0, by rw [H2.out]; rfl, by rw [H1.out]; exact OwnRow.nil _ rfl, hb1⟩
end Go.Proofs.YtioemkdapoombaaGreatDoor
