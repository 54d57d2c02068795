/- The law LinesX: what it rests on, part 13 of 46. -/
import Derived.Test.YtioemkdapoombaaGreatDoorQLinesX08
import Derived.Test.YtioemkdapoombaaGreatDoorQLinesX12
section
section
set_option linter.unusedVariables false
namespace Go.Proofs.YtioemkdapoombaaGreatDoor
open Go.ChangeShapes Go.WideShapes Go.ChangeAt Go.RowKit
set_option linter.unusedSimpArgs false
theorem updFresh' {lo hi : Nat} {a b c : World} {r : Option Nat} (h : Upd lo hi a b) (hg : b.grownBy c r) (hn : ∀ n, r = some n → a.heap.size ≤ n) : Upd lo hi a c :=
  ⟨hg.os.trans h.os, hg.tape.trans h.tape, hg.output.trans h.output, Nat.le_trans h.size hg.size, fun k hk hl => (hg.block k (Nat.lt_of_lt_of_le hl h.size) (fun e => by have := hn k e.symm; omega)).trans (h.block k hk hl)⟩
theorem Src.grown {W0 a c : World} {g k : Nat} {bs : List Int} {r : Option Nat} (h : Src W0 g bs k a) (hg : a.grownBy c r) (hn : ∀ n, r = some n → g < n) : Src W0 g bs k c := by
  have hne : r ≠ some g := fun e => by have := hn g e; omega
  obtain ⟨h1, h2, ad, cap, seed, rr, c0, c1, c2, f1, f2, sb⟩ := h
  exact ⟨h1.grown hg h1.size (fun n e => by have := hn n e; omega), h2, ad, cap, seed, rr, grown_c hg c0 hne, grown_c hg c1 hne, grown_c hg c2 hne, grown_f hg c1 f1 hne, grown_f hg c2 f2 hne, sb⟩
theorem OwnI.gt {E : TypeId} {B : Nat} {w : World} {v : Value} {xs : List Int} (h : OwnI E B w v xs) : ∀ n, v.ownBlock = some n → B ≤ n := fun n e => (World.ownsRow.lt h n e).1
theorem c_spec_l00Src_one (W0 : World) (g k : Nat) (bs : List Int) (n : Int) (w : World) (h : Src W0 g bs k w) (hk : k < 1000000) (hn : n ≤ 100000) :
    Calls Tryz.prog 34 #[.pointer (some ⟨g, 0, none⟩), .int .i64 n] w fun e w' => ∃ (b : Bool) (k' : Nat), e = .returned (.bool b) ∧ k' ≤ k + 2 ∧ Src W0 g bs k' w' ∧ Upd g (g + 1) w w' := by
  go_enter Tryz.func34, Tryz.ntmps34
  go_wp2_with fail
  refine (c_spec_l00Src_pick W0 g k bs n _ h hk hn).mono ?_; rintro e w1 ⟨x, k1, rfl, -, -, -, hk1, S1, U1⟩
  go_wp2
  go_ret
  exact ⟨_, k1, rfl, hk1, S1, U1⟩
end Go.Proofs.YtioemkdapoombaaGreatDoor
end
section
set_option linter.unusedVariables false
namespace Go.Proofs.YtioemkdapoombaaGreatDoor
open Go.ChangeShapes Go.WideShapes Go.ChangeAt Go.RowKit
set_option linter.unusedSimpArgs false
theorem c_spec_l00Src_text (W0 : World) (g k : Nat) (bs : List Int) (b n : Nat) (ts : Nat → ByteArray) (w : World) (h : Src W0 g bs k w) (hk : k < 1000000) (hn : 1 ≤ n ∧ n ≤ 1000) (hb : b ≠ g) (hc : Hid (∀ i, i < n → w.cell? ⟨b, i, none⟩ = some (.string (ts i)))) :
    Calls Tryz.prog 95 #[.pointer (some ⟨g, 0, none⟩), .slice (some ⟨b, 0, none⟩) n n] w fun e w' => ∃ (i k' : Nat), i < n ∧ e = .returned (.string (ts i)) ∧ k' ≤ k + 2 ∧ Src W0 g bs k' w' ∧ Upd g (g + 1) w w' := by
  go_enter Tryz.func95, Tryz.ntmps95
  go_wp2_with fail
  refine (c_spec_l00Src_pick W0 g k bs (n : Int) _ h hk (by omega)).mono ?_; rintro e w1 ⟨x, k1, rfl, hx0, hx1, -, hk1, S1, U1⟩
  have hx := hx1 (by omega)
  clear hx1
  obtain ⟨X, rfl⟩ := Int.eq_ofNat_of_zero_le hx0
  have hcell := hc.out X (by omega)
  have hcell := (U1.cell b X (by omega) (World.block_lt_of_cell? _ _ hcell)).trans hcell
  go_wp2
  go_ret
  exact ⟨X, k1, by omega, rfl, hk1, S1, U1⟩
/-- the number of a digit of a throw -/
def digC (c : Int) : Int := if 48 ≤ c ∧ c ≤ 57 then c - 48 else if 97 ≤ c ∧ c ≤ 102 then c - 87 else -1
theorem digC_bd (c : Int) : -1 ≤ digC c ∧ digC c ≤ 15 := by
  unfold digC
  split
  · omega
  · split <;> omega
set_option maxRecDepth 100000 in
theorem c_spec_l02Digit (c : Int) (w : World) (hc : 0 ≤ c ∧ c ≤ 255) :
    Calls Tryz.prog 163 #[.int .u8 c] w fun e w' => e = .returned (.int .i64 (digC c)) ∧ w = w' := by
  by_cases h1 : 48 ≤ c
  · by_cases h2 : c ≤ 57
    · have e : digC c = c - 48 := by unfold digC; rw [if_pos ⟨h1, h2⟩]
      have hw : IntKind.u8.wrap (c - 48) = c - 48 := by rw [show IntKind.u8.wrap (c - 48) = (c - 48) % 256 by simp [IntKind.wrap, IntKind.bits, IntKind.signed]]; omega
      rw [e]
      go_enter Tryz.func163, Tryz.ntmps163
      go_wp2
      go_ret
      exact ⟨rfl, rfl⟩
    · by_cases h3 : 97 ≤ c
      · by_cases h4 : c ≤ 102
        · have e : digC c = c - 87 := by unfold digC; rw [if_neg (by omega), if_pos ⟨h3, h4⟩]
          have hw : IntKind.u8.wrap (c - 97) = c - 97 := by rw [show IntKind.u8.wrap (c - 97) = (c - 97) % 256 by simp [IntKind.wrap, IntKind.bits, IntKind.signed]]; omega
          rw [e]
          go_enter Tryz.func163, Tryz.ntmps163
          go_wp2
          go_ret
          exact ⟨by rw [show c - 87 = c - 97 + 10 by omega]; rfl, rfl⟩
        · have e : digC c = -1 := by unfold digC; rw [if_neg (by omega), if_neg (by omega)]
          rw [e]
          go_enter Tryz.func163, Tryz.ntmps163
          go_wp2
          go_ret
          exact ⟨rfl, rfl⟩
      · have e : digC c = -1 := by unfold digC; rw [if_neg (by omega), if_neg (by omega)]
        rw [e]
        go_enter Tryz.func163, Tryz.ntmps163
        go_wp2
        go_ret
        exact ⟨rfl, rfl⟩
  · have e : digC c = -1 := by unfold digC; rw [if_neg (by omega), if_neg (by omega)]
    have h3 : ¬ 97 ≤ c := by omega
    rw [e]
    go_enter Tryz.func163, Tryz.ntmps163
    go_wp2
    go_ret
    exact ⟨rfl, rfl⟩
def chr (s : ByteArray) (i : Nat) : Int := ((s.get! i).toNat : Int)
theorem chr_bd (s : ByteArray) (i : Nat) : 0 ≤ chr s i ∧ chr s i ≤ 255 := by
  have := (s.get! i).toNat_lt
  unfold chr
  omega
theorem chr_at {s : ByteArray} {i : Nat} (h : i < s.size) : ((s[i].toNat : Nat) : Int) = chr s i := by
  unfold chr
  congr 2
  simp [ByteArray.get!, h]
  rfl
def digsTo (s : ByteArray) (k : Nat) : List Int := (List.range k).map fun i => digC (chr s i)
theorem digsTo_succ (s : ByteArray) (k : Nat) : digsTo s (k + 1) = digsTo s k ++ [digC (chr s k)] := by simp [digsTo, List.range_succ]
theorem digsTo_len (s : ByteArray) (k : Nat) : (digsTo s k).length = k := by simp [digsTo]
theorem digsTo_bd (s : ByteArray) (k : Nat) : ∀ x ∈ digsTo s k, -1 ≤ x ∧ x ≤ 15 := fun x hx => by
  simp only [digsTo, List.mem_map] at hx
  obtain ⟨i, -, rfl⟩ := hx
  exact digC_bd _
set_option maxHeartbeats 2000000 in
set_option maxRecDepth 100000 in
theorem c_spec_l02Read (s : ByteArray) (w : World) (hs : s.size ≤ 100000000) :
    Calls Tryz.prog 151 #[.string s] w fun e w' => ∃ v, e = .returned v ∧ OwnI1 w.heap.size w' v (digsTo s s.size) ∧ Below w.heap.size w w' := by
  have HSU := Lib.hid (digsTo_succ s)
  have HLN := Lib.hid (digsTo_len s)
  go_enter Tryz.func151, Tryz.ntmps151
  go_wp2
  go_loopw [3, 4] (fun out i wr => ∃ k : Nat, k ≤ s.size ∧ i = .int .i64 k ∧ (∃ ad m cap, out = .slice (some ad) m cap) ∧ OwnI1 w.heap.size wr out (digsTo s k) ∧ Below w.heap.size w wr) (fun _ i _ => s.size - (intOf i).toNat)
  case atStart => exact ⟨0, by omega, by go_num, ⟨_, _, _, rfl⟩, OwnI.made rfl rfl (Nat.le_refl _), (Below.refl _ _).al _⟩
  case round =>
    obtain ⟨k, hk, rfl, ⟨ad, m, cap, rfl⟩, hown, BR⟩ := hrel
    by_cases hlt : k < s.size
    · have hin0 : (0 : Int) ≤ (k : Int) := by omega
      have hin1 : (k : Int) < (s.size : Int) := by omega
      have hcd := chr_bd s k
      have hix : ∀ w', (Instr.index 9 (.string s) (.int .i64 (k : Int))).run Tryz.prog w' = .ok (.int .u8 (chr s k)) w' := fun w' => by
        rw [run_index_string _ _ _ _ _ Tryz.underlying9, dif_pos ⟨hin0, hin1⟩]
        congr 2
        exact chr_at (s := s) (i := k) hlt
      have HSk := Lib.hid (HSU.out k)
      have HLk := Lib.hid (HLN.out k)
      go_wp2_with (first | ((rw [hix _])) | (go_at_call 163; refine (c_spec_l02Digit (chr s k) _ hcd).mono ?_; rintro e w2 ⟨rfl, rfl⟩) | (at_builtin; refine push_int rfl _ _ _ _ rfl Tryz.underlying26 infoI w.heap.size (.slice (some ad) m cap) (digsTo s k) (digC (chr s k)) wr rfl rfl (by exact hown) (by rw [HLk.out]; omega) BR.size ?_; intro v3 w3 ho3 hb3 hs3))
      go_roundw
      case rel => exact ⟨k + 1, by omega, by go_num, (by obtain ⟨b3, cap4, e3, -⟩ := OwnI.some_of ho3 (by simp); exact ⟨_, _, _, e3⟩), by rw [HSk.out]; exact ho3, hb3 _ BR⟩
      case measure => simp [intOf]; omega
    · obtain rfl : k = s.size := by omega
      go_wp2
      go_ret
      exact ⟨_, rfl, hown, BR⟩
end Go.Proofs.YtioemkdapoombaaGreatDoor
end
section
set_option linter.unusedVariables false
namespace Go.Proofs.YtioemkdapoombaaGreatDoor
open Go.ChangeShapes Go.WideShapes Go.ChangeAt Go.RowKit
set_option linter.unusedSimpArgs false
end Go.Proofs.YtioemkdapoombaaGreatDoor
end
section
set_option linter.unusedVariables false
namespace Go.Proofs.YtioemkdapoombaaGreatDoor
open Go.ChangeShapes Go.WideShapes Go.ChangeAt Go.RowKit
set_option linter.unusedSimpArgs false
end Go.Proofs.YtioemkdapoombaaGreatDoor
end
end
section
namespace Go.Proofs.YtioemkdapoombaaGreatDoor
open Go.ChangeShapes Go.WideShapes Go.ChangeAt Go.RowKit
set_option linter.unusedVariables false
set_option linter.unusedSimpArgs false
set_option maxHeartbeats 1000000 in
set_option maxRecDepth 100000 in
theorem c_spec_l08Code (a : List Int) (h : Int) (v : Value) (w : World) (hr : RdI w v a) :
    Calls Tryz.prog 119 #[v, .int .i64 0, .int .i64 h] w fun e w' => e = .returned (.int .i64 (brC a a h)) ∧ Below w.heap.size w w' := by
  have HR1 := Lib.hid hr
  have h0 : inB 0 (-1000) 1000 = true := by decide
  clear hr
  rcases brC_cases a a h with ⟨h1, hc⟩ | ⟨h1, h2, hc⟩ | ⟨h1, h2, h3, hc⟩ | ⟨h1, h2, h3, h4, hc⟩ | ⟨h1, h2, h3, h4, h5, hc⟩ | ⟨h1, h2, h3, h4, h5, h6, hc⟩ | ⟨h1, h2, h3, h4, h5, h6, hc⟩
  · have HC := Lib.hid hc
    go_enter Tryz.func119, Tryz.ntmps119
    go_wp2_with fail
    refine (c_spec_l02Ok a _ _ HR1.out).mono ?_; rintro e w1 ⟨rfl, hb1⟩
    rw [h1]
    go_wp2
    go_ret
    exact ⟨by rw [HC.out]; rfl, hb1⟩
  · rw [h1] at h2; cases h2
  · have HC := Lib.hid hc
    go_enter Tryz.func119, Tryz.ntmps119
    go_wp2_with fail
    refine (c_spec_l02Ok a _ _ HR1.out).mono ?_; rintro e w1 ⟨rfl, hb1⟩
    rw [h1]
    clear h1 h2
    go_wp2_with fail
    refine (c_spec_l00In _ _ _ _).mono ?_; rintro e w2 ⟨rfl, rfl⟩; rw [h0]
    go_wp2_with fail
    refine (c_spec_l08Height h _).mono ?_; rintro e w3 ⟨rfl, rfl⟩; rw [h3]
    go_wp2
    go_ret
    exact ⟨by rw [HC.out]; rfl, hb1⟩
  · have HC := Lib.hid hc
    go_enter Tryz.func119, Tryz.ntmps119
    go_wp2_with fail
    refine (c_spec_l02Ok a _ _ HR1.out).mono ?_; rintro e w1 ⟨rfl, hb1⟩
    rw [h1]
    clear h1 h2
    go_wp2_with fail
    refine (c_spec_l00In _ _ _ _).mono ?_; rintro e w2 ⟨rfl, rfl⟩; rw [h0]
    go_wp2_with fail
    refine (c_spec_l08Height h _).mono ?_; rintro e w3 ⟨rfl, rfl⟩; rw [h3]
    go_wp2_with fail
    refine (c_spec_l02High a _ _ (HR1.out.below hb1)).mono ?_; rintro e w3 ⟨rfl, rfl⟩
    go_wp2
    go_ret
    exact ⟨by rw [HC.out]; rfl, hb1⟩
  · exact absurd h5 h4
  · simp at h6
  · have HC := Lib.hid hc
    go_enter Tryz.func119, Tryz.ntmps119
    go_wp2_with fail
    refine (c_spec_l02Ok a _ _ HR1.out).mono ?_; rintro e w1 ⟨rfl, hb1⟩
    rw [h1]
    clear h1 h2
    go_wp2_with fail
    refine (c_spec_l00In _ _ _ _).mono ?_; rintro e w2 ⟨rfl, rfl⟩; rw [h0]
    go_wp2_with fail
    refine (c_spec_l08Height h _).mono ?_; rintro e w3 ⟨rfl, rfl⟩; rw [h3]
    go_wp2_with fail
    refine (c_spec_l02High a _ _ (HR1.out.below hb1)).mono ?_; rintro e w3 ⟨rfl, rfl⟩
    go_wp2
    go_ret
    exact ⟨by rw [HC.out]; rfl, hb1⟩
theorem c_spec_l08Ground (n : Int) (w : World) (hn : 0 ≤ n ∧ n ≤ 10) :
    Calls Tryz.prog 53 #[.int .i64 n] w fun e w' => e = .returned (.int .i64 (groundI n)) ∧ w = w' := by
  have HG : Hid (groundI n = 2 ^ n.toNat - 1) := rfl
  have hp1 := pow_le_1024 n.toNat (by omega)
  have hp2 := pow_pos_int n.toNat
  go_enter Tryz.func53, Tryz.ntmps53
  go_wp2
  go_ret
  exact ⟨by rw [HG.out]; rfl, rfl⟩
set_option maxHeartbeats 1000000 in
set_option maxRecDepth 100000 in
theorem c_spec_l10Ground (h m : Int) (w : World) (hm : 0 ≤ m ∧ m < 1024) :
    Calls Tryz.prog 122 #[.agg #[.int .i64 h, .int .i64 m]] w fun e w' => e = .returned (.agg #[.int .i64 h, .int .i64 (groundI (popI m))]) ∧ Below w.heap.size w w' := by
  have hpb := popTo_bd m 10
  have hpi : 0 ≤ popI m ∧ popI m ≤ 10 := by unfold popI; omega
  obtain ⟨W0, hW0⟩ : ∃ W0, W0 = (w.alloc (Obj.cells #[Value.int IntKind.i64 h, Value.int IntKind.i64 m] 25)).alloc (Obj.cells #[Value.int IntKind.i64 0, Value.int IntKind.i64 0] 25) := ⟨_, rfl⟩
  have k0 : W0.cell? ⟨w.heap.size, 0, none⟩ = some (.int .i64 h) := by rw [hW0]; go_simp
  have k1 : W0.cell? ⟨w.heap.size, 1, none⟩ = some (.int .i64 m) := by rw [hW0]; go_simp
  have k2 : W0.cell? ⟨w.heap.size + 1, 0, none⟩ = some (.int .i64 0) := by rw [hW0]; go_simp
  have k3 : W0.cell? ⟨w.heap.size + 1, 1, none⟩ = some (.int .i64 0) := by rw [hW0]; go_simp
  have f2 : W0.frozen? ⟨w.heap.size + 1, 0, none⟩ = false := by rw [hW0]; go_simp
  have f3 : W0.frozen? ⟨w.heap.size + 1, 1, none⟩ = false := by rw [hW0]; go_simp
  have B0 : Below w.heap.size w W0 := by rw [hW0]; (repeat (first | (with_reducible assumption) | (with_reducible exact Below.refl _ _) | (with_reducible refine Below.setCell ?_ (by first | (simp; done) | (simp; omega)) _) | (with_reducible refine Below.al ?_ _) | (with_reducible refine Below.dr ?_) | (with_reducible refine Below.drN ?_ _) | (with_reducible refine Below.tr ?_ (by with_reducible assumption))))
  have hne : ¬ w.heap.size = w.heap.size + 1 := by omega
  have hne2 : ¬ w.heap.size + 1 = w.heap.size := by omega
  go_enter Tryz.func122, Tryz.ntmps122
  go_wp2_with fail
  rw [← hW0]
  clear hW0
  go_region_held3 (fun w' => w'.cell? ⟨w.heap.size, 0, none⟩ = some (.int .i64 h) ∧ w'.cell? ⟨w.heap.size, 1, none⟩ = some (.int .i64 m))
    (go_keep)
    (first
      | ((go_at_call 147; refine (c_spec_l08Count m _ hm).mono ?_; rintro e w2 ⟨rfl, rfl⟩))
      | ((go_at_call 53; refine (c_spec_l08Ground (popI m) _ hpi).mono ?_; rintro e w3 ⟨rfl, rfl⟩)))
  obtain ⟨X0, X1, -, hg⟩ := set2 W0 (w.heap.size + 1) (.int .i64 h) (.int .i64 (groundI (popI m))) _ _ k2 k3
  have BZ := (B0.setCell (p := ⟨w.heap.size + 1, 0, none⟩) (Nat.le_succ _) (.int .i64 h)).setCell (p := ⟨w.heap.size + 1, 1, none⟩) (Nat.le_succ _) (.int .i64 (groundI (popI m)))
  generalize ((W0.setCell ⟨w.heap.size + 1, 0, none⟩ (.int .i64 h)).setCell ⟨w.heap.size + 1, 1, none⟩ (.int .i64 (groundI (popI m)))) = wz at *
  go_wp2
  refine bodyPost_ret (v := .agg #[.int .i64 h, .int .i64 (groundI (popI m))]) (by simp [results, Tryz.results122, go_sem, X0, X1]) rfl ⟨rfl, by first | exact BZ | exact BZ.drew⟩
end Go.Proofs.YtioemkdapoombaaGreatDoor
end
