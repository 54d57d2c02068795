/- The draws of the laws, further: patterns that are seldom wrong, numbers of texts, drawn pairs of patterns. -/
import Derived.Test.YtpcaaohdlcoplaaDrP
namespace Go.Proofs.Ytpcaaohdlcoplaa
open Go.ChangeShapes Go.WideShapes Go.ChangeAt Go.RowKit
set_option linter.unusedVariables false
set_option linter.unusedSimpArgs false
def lenW : Value → Nat
  | .slice _ n _ => n
  | _ => 0
theorem rd4 (w : World) (a b c d : Int) : RdI (w.alloc (Obj.cells #[.int .i64 a, .int .i64 b, .int .i64 c, .int .i64 d] 2)) (.slice (some ⟨w.heap.size, 0, none⟩) 4 4) [a, b, c, d] := by
  refine ⟨_, _, rfl, by simp, fun k hk => ⟨w.heap.size, 0, rfl, ?_⟩⟩
  have hk' : k < 4 := by simpa using hk
  have : k = 0 ∨ k = 1 ∨ k = 2 ∨ k = 3 := by omega
  rcases this with rfl | rfl | rfl | rfl <;> exact World.cell?_alloc_at _ _ _ _ rfl
set_option maxHeartbeats 8000000 in
set_option maxRecDepth 100000 in
theorem c_spec_l02Bent (W0 : World) (g k : Nat) (bs : List Int) (w : World) (h : Src W0 g bs k w) (hk : k < 590000) :
    Calls Try.prog 109 #[.pointer (some ⟨g, 0, none⟩)] w fun e w' => ∃ (v : Value) (xs : List Int) (k' : Nat), e = .returned v ∧ OwnIR 2 w.heap.size w'.heap.size w' v xs ∧ xs.length ≤ 13 ∧ (∀ x ∈ xs, -1 ≤ x ∧ x ≤ 31) ∧ k' ≤ k + 3000 ∧ Src W0 g bs k' w' ∧ Upd g (g + 1) w w' := by
  have hgl := h.lt
  have HH := Lib.hid h
  go_enter Try.func109, Try.ntmps109
  go_wp2_with fail
  refine (c_spec_l02Draw W0 g k bs 7 _ HH.out (by omega) (by omega)).mono ?_; rintro e w1 ⟨v, xs, k1, rfl, ho, hl, hb, hk1, S1, U1⟩
  obtain ⟨b, cap, rfl, hcap⟩ := OwnI.some_of ho.1 (by intro e; rw [e] at hl; simp at hl)
  have hbl := OwnI.gt ho.1 b rfl
  have hbh := ho.2 b rfl
  have hs1 := U1.size
  go_wp2_with fail
  refine (c_spec_l00Src_pick W0 g k1 bs (xs.length : Int) _ S1 (by omega) (by omega)).mono ?_; rintro e w2 ⟨y, k2, rfl, hy0, hy1, -, hk2, S2, U2⟩
  have hy := hy1 (by omega)
  clear hy1
  obtain ⟨Y, rfl⟩ := Int.eq_ofNat_of_zero_le hy0
  have hs2 := U2.size
  go_wp2_with fail
  refine (c_spec_l00Src_pick W0 g k2 bs 14 _ S2 (by omega) (by omega)).mono ?_; rintro e w3 ⟨z, k3, rfl, hz0, hz1, -, hk3, S3, U3⟩
  clear hz1
  have hs3 := U3.size
  have ho3 := (ho.upd U2 (Or.inr (by omega))).upd U3 (Or.inr (by omega))
  have UA := (U1.trans U2).trans U3
  have hin1 : (Y : Int) < (xs.length : Int) := by omega
  have hin0 : (0 : Int) ≤ (Y : Int) := by omega
  have hset : ∀ u : Int, -1 ≤ u → u ≤ 31 → ∀ x ∈ xs.set Y u, -1 ≤ x ∧ x ≤ 31 := fun u h1 h2 x hx => by
    rcases List.mem_or_eq_of_mem_set hx with hx | rfl
    · have := hb x hx; omega
    · exact ⟨h1, h2⟩
  have t0 : ((0 : Int) == 0) = true := by decide
  have hc := OwnI.cell ho3.1 Y (by omega)
  have hpb := hb _ (getD_mem' (L := xs) (k := Y) (by omega))
  obtain ⟨P, hP⟩ : ∃ P, xs.getD Y 0 = P := ⟨_, rfl⟩
  rw [hP] at hc hpb
  obtain ⟨hcY, hfY⟩ := hc
  by_cases h0 : z = 0
  · subst h0
    go_wp2_with fail
    refine (c_spec_l00Src_among W0 g k3 bs [-1, 15, 16, P + 1] _ _ (S3.below ((Below.refl _ _).al _)) (rd4 _ _ _ _ _) (by omega) (by simp) (fun n e => by simp only [Value.ownBlock, Option.some.injEq] at e; omega)).mono ?_; rintro e w4 ⟨x, k4, rfl, hx, hk4, S4, U4⟩
    have hxb : -1 ≤ x ∧ x ≤ 31 := by
      simp only [List.mem_cons, List.not_mem_nil, or_false] at hx
      omega
    have hs4 := U4.size
    have ho4 := (ho3.al (Obj.cells #[.int .i64 (-1), .int .i64 15, .int .i64 16, .int .i64 (P + 1)] 2)).upd U4 (Or.inr (by omega))
    obtain ⟨⟨old, hco⟩, hfo⟩ := OwnI.at ho4.1 Y (by omega)
    have s1 := OwnI.store ho4.1 Y x
    have S5 := Lib.hid (S4.grown s1.2 (fun n e => by simp only [Option.some.injEq] at e; omega))
    have U5 := Lib.hid (updFresh' ((UA.trans (Upd.of_below ((Below.refl _ _).al (Obj.cells #[.int .i64 (-1), .int .i64 15, .int .i64 16, .int .i64 (P + 1)] 2)))).trans U4) s1.2 (fun n e => by simp only [Option.some.injEq] at e; omega))
    have O5 := Lib.hid s1.1.ir
    clear s1 hcY hfY
    go_wp2
    go_ret
    exact ⟨_, xs.set Y x, k4, rfl, O5.out, by rw [List.length_set]; omega, hset x hxb.1 hxb.2, by omega, S5.out, U5.out⟩
  · have t1 : (z == 0) = false := beq_eq_false_iff_ne.2 h0
    by_cases h1 : z = 1
    · subst h1
      go_wp2_with fail
      refine (c_spec_l00Src_pick W0 g k3 bs 10 _ S3 (by omega) (by omega)).mono ?_; rintro e w4 ⟨x, k4, rfl, hx0, hx1, -, hk4, S4, U4⟩
      have hx := hx1 (by omega)
      clear hx1
      have hs4 := U4.size
      have ho4 := ho3.upd U4 (Or.inr (by omega))
      obtain ⟨⟨old, hco⟩, hfo⟩ := OwnI.at ho4.1 Y (by omega)
      have s1 := OwnI.store ho4.1 Y x
      have S5 := Lib.hid (S4.grown s1.2 (fun n e => by simp only [Option.some.injEq] at e; omega))
      have U5 := Lib.hid (updFresh' (UA.trans U4) s1.2 (fun n e => by simp only [Option.some.injEq] at e; omega))
      have O5 := Lib.hid s1.1.ir
      clear s1 hcY hfY
      go_wp2
      go_ret
      exact ⟨_, xs.set Y x, k4, rfl, O5.out, by rw [List.length_set]; omega, hset x (by omega) (by omega), by omega, S5.out, U5.out⟩
    · have t2 : (z == 1) = false := beq_eq_false_iff_ne.2 h1
      by_cases h2 : z = 2
      · subst h2
        go_wp2
        go_ret
        exact ⟨_, [], k3, rfl, (OwnI.made (B := w.heap.size) rfl rfl (by omega)).ir, by simp, by simp, by omega, S3.below ((Below.refl _ _).al _), UA.trans (Upd.of_below ((Below.refl _ _).al _))⟩
      · have t3 : (z == 2) = false := beq_eq_false_iff_ne.2 h2
        by_cases h3 : z = 3
        · subst h3
          go_wp2_with fail
          refine (c_spec_l00Src_pick W0 g k3 bs 2 _ (S3.below ((Below.refl _ _).al _)) (by omega) (by omega)).mono ?_; rintro e w4 ⟨x, k4, rfl, hx0, hx1, -, hk4, S4, U4⟩
          have hx := hx1 (by omega)
          clear hx1
          obtain ⟨X, rfl⟩ := Int.eq_ofNat_of_zero_le hx0
          have hs4 := U4.size
          have hs4' : w3.heap.size < w4.heap.size := by have : (w3.alloc (Obj.cells #[] 2)).heap.size = w3.heap.size + 1 := World.size_alloc _ _; omega
          have O4 : OwnI 2 w.heap.size w4 (.slice (some ⟨w3.heap.size, 0, none⟩) 0 0) [] := ((OwnI.made (xs := ([] : List Int)) rfl rfl (show w.heap.size ≤ w3.heap.size by omega)).ir.upd U4 (Or.inr (by omega))).1
          have U44 := (UA.trans (Upd.of_below ((Below.refl _ _).al (Obj.cells #[] 2)))).trans U4
          go_wp2
          go_loopw [3] (fun p wr => ∃ ys : List Int, (∀ y ∈ ys, -1 ≤ y ∧ y ≤ 31) ∧ ys.length ≤ 12 + X ∧ (∃ ad cap, p = .slice (some ad) ys.length cap) ∧ OwnI 2 w.heap.size wr p ys ∧ Src W0 g bs k4 wr ∧ Upd g (g + 1) w wr) (fun p _ => 14 - lenW p)
          case atStart => exact ⟨[], by simp, by simp, ⟨_, _, rfl⟩, O4, S4, U44⟩
          case round =>
            obtain ⟨ys, hyb, hyl, ⟨ad, cap5, rfl⟩, hown, SR, UR⟩ := hrel
            have hlo := OwnI.gt hown
            have hUs := UR.size
            by_cases hlt : ys.length < 12 + X
            · have tl : decide ((ys.length : Int) < 12 + (X : Int)) = true := by simp; omega
              go_wp2_with (at_builtin; refine push_int_at rfl _ _ _ _ rfl Try.underlying24 infoI w.heap.size (.slice (some ad) ys.length cap5) ys 3 wr rfl rfl hown (by omega) hUs ?_; intro v6 w6 ho6 hg6 hat6 hs6)
              go_roundw
              case rel => exact ⟨ys ++ [3], (fun y hy => by rcases List.mem_append.1 hy with hy | hy; exact hyb y hy; rw [List.mem_singleton.1 hy]; omega), by simp; omega, (by obtain ⟨b3, cap4, e3, -⟩ := OwnI.some_of ho6 (by simp); exact ⟨_, _, e3⟩), ho6, SR.grown hg6 (fun n e => by have := hlo n e; omega), updFresh' UR hg6 hlo⟩
              case measure =>
                obtain ⟨b3, cap4, e3, -⟩ := OwnI.some_of ho6 (by simp)
                rw [e3]
                simp [lenW]; omega
            · have tl : decide ((ys.length : Int) < 12 + (X : Int)) = false := by simp; omega
              go_wp2
              go_ret
              exact ⟨_, ys, k4, rfl, hown.ir, by omega, hyb, by omega, SR, UR⟩
        · have t4 : (z == 3) = false := beq_eq_false_iff_ne.2 h3
          go_wp2
          go_ret
          exact ⟨_, xs, k3, rfl, ho3.wide (Nat.le_refl _) (by omega), by omega, fun x hx => by have := hb x hx; omega, by omega, S3, UA⟩
theorem c_spec_l00Src_text (W0 : World) (g k : Nat) (bs : List Int) (b n : Nat) (ts : Nat → ByteArray) (w : World) (h : Src W0 g bs k w) (hk : k < 1000000) (hn : 1 ≤ n ∧ n ≤ 1000) (hb : b ≠ g) (hc : Hid (∀ i, i < n → w.cell? ⟨b, i, none⟩ = some (.string (ts i)))) :
    Calls Try.prog 111 #[.pointer (some ⟨g, 0, none⟩), .slice (some ⟨b, 0, none⟩) n n] w fun e w' => ∃ (i k' : Nat), i < n ∧ e = .returned (.string (ts i)) ∧ k' ≤ k + 2 ∧ Src W0 g bs k' w' ∧ Upd g (g + 1) w w' := by
  go_enter Try.func111, Try.ntmps111
  go_wp2_with fail
  refine (c_spec_l00Src_pick W0 g k bs (n : Int) _ h hk (by omega)).mono ?_; rintro e w1 ⟨x, k1, rfl, hx0, hx1, -, hk1, S1, U1⟩
  have hx := hx1 (by omega)
  clear hx1
  obtain ⟨X, rfl⟩ := Int.eq_ofNat_of_zero_le hx0
  have hcell := hc.out X (by omega)
  have hcell := (U1.cell b X (by omega) (World.block_lt_of_cell? _ _ hcell)).trans hcell
  go_wp2
  go_ret
  exact ⟨X, k1, by omega, rfl, hk1, S1, U1⟩
/-- the number of a digit of a throw -/
def digC (c : Int) : Int := if 48 ≤ c ∧ c ≤ 57 then c - 48 else if 97 ≤ c ∧ c ≤ 102 then c - 87 else -1
theorem digC_bd (c : Int) : -1 ≤ digC c ∧ digC c ≤ 15 := by
  unfold digC
  split
  · omega
  · split <;> omega
set_option maxRecDepth 100000 in
theorem c_spec_l02Digit (c : Int) (w : World) (hc : 0 ≤ c ∧ c ≤ 255) :
    Calls Try.prog 128 #[.int .u8 c] w fun e w' => e = .returned (.int .i64 (digC c)) ∧ w = w' := by
  by_cases h1 : 48 ≤ c
  · by_cases h2 : c ≤ 57
    · have e : digC c = c - 48 := by unfold digC; rw [if_pos ⟨h1, h2⟩]
      have hw : IntKind.u8.wrap (c - 48) = c - 48 := by rw [show IntKind.u8.wrap (c - 48) = (c - 48) % 256 by simp [IntKind.wrap, IntKind.bits, IntKind.signed]]; omega
      rw [e]
      go_enter Try.func128, Try.ntmps128
      go_wp2
      go_ret
      exact ⟨rfl, rfl⟩
    · by_cases h3 : 97 ≤ c
      · by_cases h4 : c ≤ 102
        · have e : digC c = c - 87 := by unfold digC; rw [if_neg (by omega), if_pos ⟨h3, h4⟩]
          have hw : IntKind.u8.wrap (c - 97) = c - 97 := by rw [show IntKind.u8.wrap (c - 97) = (c - 97) % 256 by simp [IntKind.wrap, IntKind.bits, IntKind.signed]]; omega
          rw [e]
          go_enter Try.func128, Try.ntmps128
          go_wp2
          go_ret
          exact ⟨by rw [show c - 87 = c - 97 + 10 by omega]; rfl, rfl⟩
        · have e : digC c = -1 := by unfold digC; rw [if_neg (by omega), if_neg (by omega)]
          rw [e]
          go_enter Try.func128, Try.ntmps128
          go_wp2
          go_ret
          exact ⟨rfl, rfl⟩
      · have e : digC c = -1 := by unfold digC; rw [if_neg (by omega), if_neg (by omega)]
        rw [e]
        go_enter Try.func128, Try.ntmps128
        go_wp2
        go_ret
        exact ⟨rfl, rfl⟩
  · have e : digC c = -1 := by unfold digC; rw [if_neg (by omega), if_neg (by omega)]
    have h3 : ¬ 97 ≤ c := by omega
    rw [e]
    go_enter Try.func128, Try.ntmps128
    go_wp2
    go_ret
    exact ⟨rfl, rfl⟩
def chr (s : ByteArray) (i : Nat) : Int := ((s.get! i).toNat : Int)
theorem chr_bd (s : ByteArray) (i : Nat) : 0 ≤ chr s i ∧ chr s i ≤ 255 := by
  have := (s.get! i).toNat_lt
  unfold chr
  omega
theorem chr_at {s : ByteArray} {i : Nat} (h : i < s.size) : ((s[i].toNat : Nat) : Int) = chr s i := by
  unfold chr
  congr 2
  simp [ByteArray.get!, h]
  rfl
def digsTo (s : ByteArray) (k : Nat) : List Int := (List.range k).map fun i => digC (chr s i)
theorem digsTo_succ (s : ByteArray) (k : Nat) : digsTo s (k + 1) = digsTo s k ++ [digC (chr s k)] := by simp [digsTo, List.range_succ]
theorem digsTo_len (s : ByteArray) (k : Nat) : (digsTo s k).length = k := by simp [digsTo]
theorem digsTo_bd (s : ByteArray) (k : Nat) : ∀ x ∈ digsTo s k, -1 ≤ x ∧ x ≤ 15 := fun x hx => by
  simp only [digsTo, List.mem_map] at hx
  obtain ⟨i, -, rfl⟩ := hx
  exact digC_bd _
set_option maxHeartbeats 2000000 in
set_option maxRecDepth 100000 in
theorem c_spec_l02Read (s : ByteArray) (w : World) (hs : s.size ≤ 100000000) :
    Calls Try.prog 110 #[.string s] w fun e w' => ∃ v, e = .returned v ∧ OwnI1 w.heap.size w' v (digsTo s s.size) ∧ Below w.heap.size w w' := by
  have HSU := Lib.hid (digsTo_succ s)
  have HLN := Lib.hid (digsTo_len s)
  go_enter Try.func110, Try.ntmps110
  go_wp2
  go_loopw [3, 4] (fun out i wr => ∃ k : Nat, k ≤ s.size ∧ i = .int .i64 k ∧ (∃ ad m cap, out = .slice (some ad) m cap) ∧ OwnI1 w.heap.size wr out (digsTo s k) ∧ Below w.heap.size w wr) (fun _ i _ => s.size - (intOf i).toNat)
  case atStart => exact ⟨0, by omega, by go_num, ⟨_, _, _, rfl⟩, OwnI.made rfl rfl (Nat.le_refl _), (Below.refl _ _).al _⟩
  case round =>
    obtain ⟨k, hk, rfl, ⟨ad, m, cap, rfl⟩, hown, BR⟩ := hrel
    by_cases hlt : k < s.size
    · have hin0 : (0 : Int) ≤ (k : Int) := by omega
      have hin1 : (k : Int) < (s.size : Int) := by omega
      have hcd := chr_bd s k
      have hix : ∀ w', (Instr.index 9 (.string s) (.int .i64 (k : Int))).run Try.prog w' = .ok (.int .u8 (chr s k)) w' := fun w' => by
        rw [run_index_string _ _ _ _ _ Try.underlying9, dif_pos ⟨hin0, hin1⟩]
        congr 2
        exact chr_at (s := s) (i := k) hlt
      have HSk := Lib.hid (HSU.out k)
      have HLk := Lib.hid (HLN.out k)
      go_wp2_with (first | ((rw [hix _])) | (go_at_call 128; refine (c_spec_l02Digit (chr s k) _ hcd).mono ?_; rintro e w2 ⟨rfl, rfl⟩) | (at_builtin; refine push_int rfl _ _ _ _ rfl Try.underlying24 infoI w.heap.size (.slice (some ad) m cap) (digsTo s k) (digC (chr s k)) wr rfl rfl (by exact hown) (by rw [HLk.out]; omega) BR.size ?_; intro v3 w3 ho3 hb3 hs3))
      go_roundw
      case rel => exact ⟨k + 1, by omega, by go_num, (by obtain ⟨b3, cap4, e3, -⟩ := OwnI.some_of ho3 (by simp); exact ⟨_, _, _, e3⟩), by rw [HSk.out]; exact ho3, hb3 _ BR⟩
      case measure => simp [intOf]; omega
    · obtain rfl : k = s.size := by omega
      go_wp2
      go_ret
      exact ⟨_, rfl, hown, BR⟩
end Go.Proofs.Ytpcaaohdlcoplaa
