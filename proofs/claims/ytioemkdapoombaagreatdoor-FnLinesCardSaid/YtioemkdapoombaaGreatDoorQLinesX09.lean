/- The law LinesX: what it rests on, part 9 of 46. -/
import Derived.Test.YtioemkdapoombaaGreatDoorQLinesX03
namespace Go.Proofs.YtioemkdapoombaaGreatDoor
open Go.ChangeShapes Go.WideShapes Go.ChangeAt Go.RowKit
set_option linter.unusedVariables false
theorem RdI.get {w : World} {a : Option Addr} {n cap : Nat} {xs : List Int} (h : RdI w (.slice a n cap) xs) : n = xs.length ∧ xs.length ≤ 9223372036854775807 ∧ ∀ k, k < xs.length → ∃ b off, a = some ⟨b, off, none⟩ ∧ w.cell? ⟨b, off + k, none⟩ = some (.int .i64 (xs.getD k 0)) := by
  obtain ⟨a', cap', he, hl, hc⟩ := h
  cases he
  exact ⟨rfl, hl, hc⟩
set_option maxHeartbeats 1000000 in
theorem c_impl_areThrows (xs : List Int) (v : Value) (w : World) (h : RdI w v xs) :
    Calls Tryz.prog 135 #[v] w fun e w' => e = .returned (.bool (okThrows xs)) ∧ w = w' := by
  obtain ⟨a1, cap1, rfl, hl1, hc1⟩ := h
  go_enter Tryz.func135, Tryz.ntmps135
  go_wp2
  go_loop [4, 7] (fun _ i => ∃ k : Nat, k ≤ xs.length ∧ i = .int .i64 k ∧ Hid ((xs.take k).all (fun x => inB x 0 15) = true)) (fun _ i => xs.length - (intOf i).toNat)
  case atStart => exact ⟨0, by omega, rfl, rfl⟩
  case round =>
    obtain ⟨k, hk, rfl, hall⟩ := hrel
    by_cases hlt : k < xs.length
    · obtain ⟨b1, o1, rfl, hx⟩ := hc1 k hlt
      obtain ⟨x, Hx⟩ : ∃ x, Hid (xs.getD k 0 = x) := ⟨_, rfl⟩
      rw [Hx.out] at hx
      cases hin : inB x 0 15
      · have hbad := Lib.hid (okThrows_bad k hlt (by rw [Hx.out]; exact hin))
        go_wp2_with (go_at_call 65; refine (c_impl_between _ _ _ _).mono ?_; rintro e w1 ⟨rfl, rfl⟩)
        go_ret
        exact ⟨by rw [hbad.out]; rfl, rfl⟩
      · have hin' := Lib.hid hin
        go_wp2_with (go_at_call 65; refine (c_impl_between _ _ _ _).mono ?_; rintro e w1 ⟨rfl, rfl⟩)
        go_round
        case rel => exact ⟨k + 1, by omega, by go_num, all_take_succ hlt hall.out (by rw [Hx.out]; exact hin'.out)⟩
        case measure => simp [intOf]; omega
    · obtain rfl : k = xs.length := by omega
      have H : Hid (okThrows xs = inB xs.length 1 12) := by
        have h := hall.out
        rw [List.take_length] at h
        unfold Hid okThrows
        rw [h]; rfl
      go_wp2_with (go_at_call 65; refine (c_impl_between _ _ _ _).mono ?_; rintro e w1 ⟨rfl, rfl⟩)
      go_ret
      exact ⟨by rw [H.out]; rfl, rfl⟩
set_option maxHeartbeats 1000000 in
theorem c_spec_l02List (xs : List Int) (v : Value) (w : World) (h : RdI w v xs) :
    Calls Tryz.prog 141 #[v] w fun e w' => e = .returned (.bool (okThrows xs)) ∧ w = w' := by
  obtain ⟨a1, cap1, rfl, hl1, hc1⟩ := h
  go_enter Tryz.func141, Tryz.ntmps141
  go_wp2
  go_loop [3] (fun i => ∃ k : Nat, k ≤ xs.length ∧ i = .int .i64 k ∧ Hid ((xs.take k).all (fun x => inB x 0 15) = true)) (fun i => xs.length - (intOf i).toNat)
  case atStart => exact ⟨0, by omega, rfl, rfl⟩
  case round =>
    obtain ⟨k, hk, rfl, hall⟩ := hrel
    by_cases hlt : k < xs.length
    · obtain ⟨b1, o1, rfl, hx⟩ := hc1 k hlt
      obtain ⟨x, Hx⟩ : ∃ x, Hid (xs.getD k 0 = x) := ⟨_, rfl⟩
      rw [Hx.out] at hx
      cases hin : inB x 0 15
      · have hbad := Lib.hid (okThrows_bad k hlt (by rw [Hx.out]; exact hin))
        go_wp2_with (go_at_call 66; refine (c_spec_l00In _ _ _ _).mono ?_; rintro e w1 ⟨rfl, rfl⟩)
        go_ret
        exact ⟨by rw [hbad.out]; rfl, rfl⟩
      · have hin' := Lib.hid hin
        go_wp2_with (go_at_call 66; refine (c_spec_l00In _ _ _ _).mono ?_; rintro e w1 ⟨rfl, rfl⟩)
        go_round
        case rel => exact ⟨k + 1, by omega, by go_num, all_take_succ hlt hall.out (by rw [Hx.out]; exact hin'.out)⟩
        case measure => simp [intOf]; omega
    · obtain rfl : k = xs.length := by omega
      have H : Hid (okThrows xs = inB xs.length 1 12) := by
        have h := hall.out
        rw [List.take_length] at h
        unfold Hid okThrows
        rw [h]; rfl
      go_wp2_with (go_at_call 66; refine (c_spec_l00In _ _ _ _).mono ?_; rintro e w1 ⟨rfl, rfl⟩)
      go_ret
      exact ⟨by rw [H.out]; rfl, rfl⟩
theorem c_impl_period (n : Nat) (a : Option Addr) (cap : Nat) (w : World) (hn : (n : Int) ≤ 9223372036854775807) :
    Calls Tryz.prog 111 #[.slice a n cap] w fun e w' => e = .returned (.int .i64 n) ∧ w = w' := by
  go_enter Tryz.func111, Tryz.ntmps111
  go_wp2
  go_ret
  exact ⟨rfl, rfl⟩
set_option maxHeartbeats 1000000 in
theorem c_impl_landings (xs : List Int) (v : Value) (w : World) (h : RdI w v xs) (hok : okThrows xs = true) :
    Calls Tryz.prog 136 #[v] w fun e w' => ∃ v', e = .returned v' ∧ OwnI1 w.heap.size w' v' (landL xs) ∧ Below w.heap.size w w' := by
  obtain ⟨a1, cap1, rfl, hl1, hc1⟩ := h
  have hlen := (okThrows_iff.1 hok).2
  go_enter Tryz.func136, Tryz.ntmps136
  go_wp2
  go_loopw [3, 4, 5, 9] (fun u _ _ i wr => ∃ k : Nat, k ≤ xs.length ∧ i = .int .i64 k ∧ OwnI1 w.heap.size wr u (landTo xs k) ∧ Below w.heap.size w wr) (fun _ _ _ i _ => xs.length - (intOf i).toNat)
  case atStart => exact ⟨0, by omega, rfl, OwnI.made rfl rfl (Nat.le_refl _), (Below.refl _ _).al _⟩
  case round =>
    obtain ⟨k, hk, rfl, hown, hb0⟩ := hrel
    have hll := landTo_length xs k
    by_cases hlt : k < xs.length
    · obtain ⟨b1, o1, rfl, hx⟩ := hc1 k hlt
      have hx' : wr.cell? ⟨b1, o1 + k, none⟩ = some (.int .i64 (xs.getD k 0)) := by rw [hb0.cell (p := ⟨b1, o1 + k, none⟩) (World.block_lt_of_cell? w _ hx)]; exact hx
      have hbd := okThrows_at hok k hlt
      have Hs := Lib.hid (landTo_succ xs k)
      have hpos : (0 : Int) < xs.length := by omega
      obtain ⟨x, Hx⟩ : ∃ x, Hid (xs.getD k 0 = x) := ⟨_, rfl⟩
      have Hl : Hid (landAt xs k = ((k : Int) + x) % (xs.length : Int)) := by unfold Hid landAt; rw [Hx.out]
      rw [Hx.out] at hx' hbd
      have hll' : (landTo xs k).length < 1000000000 := by omega
      have hsz := hb0.size
      clear hx hc1 hll
      go_wp2_with (first | (go_at_call 111; refine (c_impl_period _ _ _ _ (by omega)).mono ?_; rintro e w1 ⟨rfl, rfl⟩) | (at_builtin; refine push_int rfl _ _ _ _ rfl Tryz.underlying26 infoI w.heap.size _ _ _ _ rfl rfl (by exact hown) hll' hsz ?_; intro v' w2 hown2 hb2 hs2))
      go_roundw
      case rel => exact ⟨k + 1, by omega, by go_num, by rw [Hs.out, Hl.out]; exact hown2, hb2 _ hb0⟩
      case measure => simp [intOf]; omega
    · obtain rfl : k = xs.length := by omega
      go_wp2
      go_ret
      exact ⟨_, rfl, hown, hb0⟩
/-- what CollisionOf answers: two throws, and a code -/
def CollPost (c : Int) (e : Ending) : Prop := ∃ a b : Int, e = .returned (.tuple #[.int .i64 a, .int .i64 b, .int .i64 c])
set_option maxHeartbeats 2000000 in
theorem c_impl_CollisionOf (xs : List Int) (v : Value) (w : World) (h : RdI w v xs) :
    Calls Tryz.prog 115 #[v] w fun e w' => CollPost (collCode xs) e ∧ Below w.heap.size w w' := by
  cases hok : okThrows xs
  · have H : Hid (collCode xs = 1) := by unfold Hid collCode; rw [hok]; rfl
    go_enter Tryz.func115, Tryz.ntmps115
    go_wp2_with (go_at_call 135; refine (c_impl_areThrows xs _ _ h).mono ?_; rintro e w1 ⟨rfl, rfl⟩)
    go_ret3
    exact ⟨⟨_, _, by rw [H.out]; rfl⟩, by (repeat (first | (with_reducible assumption) | (with_reducible exact Below.refl _ _) | (with_reducible refine Below.setCell ?_ (by first | (simp; done) | (simp; omega)) _) | (with_reducible refine Below.al ?_ _) | (with_reducible refine Below.dr ?_) | (with_reducible refine Below.drN ?_ _) | (with_reducible refine Below.tr ?_ (by with_reducible assumption))))⟩
  · go_enter Tryz.func115, Tryz.ntmps115
    go_wp2_with (first | (go_at_call 135; refine (c_impl_areThrows xs _ _ h).mono ?_; rintro e w1 ⟨rfl, rfl⟩) | (go_at_call 136; refine (c_impl_landings xs _ _ h hok).mono ?_; rintro e w1 ⟨vl, rfl, hown, hb1⟩; obtain ⟨aL, capL, rfl, hlL, hcL⟩ := hown.rd))
    have hn : (landL xs).length = xs.length := landTo_length xs _
    have h12 := (okThrows_iff.1 hok).2
    have hL12 : (landL xs).length ≤ 12 := by omega
    have HOK := Lib.hid hok
    clear hn h12 hok
    generalize hLn : landL xs = L at hlL hcL hL12
    have HL := Lib.hid hLn
    clear hown hLn h hlL
    go_loopw [6, 7, 15, 19] (fun _ _ i _ wr => ∃ k : Nat, k ≤ L.length ∧ i = .int .i64 k ∧ Hid (clashTo L k 0) ∧ Below w1.heap.size w1 wr) (fun _ _ i _ _ => L.length - (intOf i).toNat)
    case atStart => exact ⟨0, by omega, rfl, clashTo_zero L, Below.refl _ _⟩
    case round =>
      obtain ⟨i, hi, rfl, hcl, hb⟩ := hrel
      obtain ⟨wo, rfl⟩ : ∃ wo : World, wo = wr := ⟨_, rfl⟩
      by_cases hlt : i < L.length
      · obtain ⟨bb, oo, rfl, hx⟩ := hcL i hlt
        obtain ⟨y, Hy⟩ : ∃ y, Hid (L.getD i 0 = y) := ⟨_, rfl⟩
        rw [Hy.out] at hx
        have hlx := World.block_lt_of_cell? w1 _ hx
        go_wp2
        go_loopw [7, 19] (fun _ k wr2 => ∃ j : Nat, j ≤ i ∧ k = .int .i64 j ∧ Hid (clashTo L i j) ∧ Below w1.heap.size w1 wr2) (fun _ k _ => i - (intOf k).toNat)
        case atStart => exact ⟨0, by omega, rfl, hcl, hb⟩
        case round =>
          obtain ⟨j, hj, rfl, hcj, hb2⟩ := hrel
          by_cases hji : j < i
          · obtain ⟨b2, o2, he, hz⟩ := hcL j (by omega)
            cases he
            obtain ⟨x, Hx⟩ : ∃ x, Hid (L.getD j 0 = x) := ⟨_, rfl⟩
            rw [Hx.out] at hz
            have hx' : wr.cell? ⟨bb, oo + i, none⟩ = some (.int .i64 y) := by rw [hb2.cell (p := ⟨bb, oo + i, none⟩) hlx]; exact hx
            have hz' : wr.cell? ⟨bb, oo + j, none⟩ = some (.int .i64 x) := by rw [hb2.cell (p := ⟨bb, oo + j, none⟩) hlx]; exact hz
            clear hx hz hcL
            by_cases hxy : x = y
            · have ht : (x == y) = true := by simp [hxy]
              have HC : Hid (collCode xs = 9) := by
                unfold Hid collCode
                rw [HOK.out, HL.out, clash_at hlt hji (by rw [Hx.out, Hy.out]; exact hxy)]; rfl
              clear hxy
              go_wp2
              go_quiet (fail)
              go_wp2
              go_ret3
              exact ⟨⟨_, _, by rw [HC.out]; rfl⟩, by (repeat (first | (with_reducible assumption) | (with_reducible exact Below.refl _ _) | (with_reducible refine Below.setCell ?_ (by first | (simp; done) | (simp; omega)) _) | (with_reducible refine Below.al ?_ _) | (with_reducible refine Below.dr ?_) | (with_reducible refine Below.drN ?_ _) | (with_reducible refine Below.tr ?_ (by with_reducible assumption))))⟩
            · have ht : (x == y) = false := by simp [hxy]
              have hst : Hid (clashTo L i (j + 1)) := clashTo_step hcj.out (by rw [Hx.out, Hy.out]; exact hxy)
              clear hxy
              go_wp2
              go_quiet (fail)
              go_wp2
              go_roundw
              case rel => exact ⟨j + 1, by omega, by go_num, hst, by (repeat (first | (with_reducible assumption) | (with_reducible exact Below.refl _ _) | (with_reducible refine Below.setCell ?_ (by first | (simp; done) | (simp; omega)) _) | (with_reducible refine Below.al ?_ _) | (with_reducible refine Below.dr ?_) | (with_reducible refine Below.drN ?_ _) | (with_reducible refine Below.tr ?_ (by with_reducible assumption))))⟩
              case measure => simp [intOf]; omega
          · obtain rfl : j = i := by omega
            have hst : Hid (clashTo L (j + 1) 0) := clashTo_next hcj.out
            clear hx hcL
            go_wp2
            go_roundw
            case rel => exact ⟨j + 1, by omega, by go_num, hst, hb2⟩
            case measure => simp [intOf]; omega
      · obtain rfl : i = L.length := by omega
        have HC : Hid (collCode xs = 0) := by
          unfold Hid collCode
          rw [HOK.out, HL.out, clashTo_all hcl.out]; rfl
        go_wp2
        go_ret3
        exact ⟨⟨_, _, by rw [HC.out]; rfl⟩, by (repeat (first | (with_reducible assumption) | (with_reducible exact Below.refl _ _) | (with_reducible refine Below.setCell ?_ (by first | (simp; done) | (simp; omega)) _) | (with_reducible refine Below.al ?_ _) | (with_reducible refine Below.dr ?_) | (with_reducible refine Below.drN ?_ _) | (with_reducible refine Below.tr ?_ (by with_reducible assumption))))⟩
/-- what l02Clash answers: two throws; the first is negative where there is no clash -/
def ClashPost (B : Bool) (e : Ending) : Prop := ∃ a b : Int, e = .returned (.tuple #[.int .i64 a, .int .i64 b]) ∧ (B = true → a = -1) ∧ (B = false → 0 ≤ a)
set_option maxHeartbeats 2000000 in
theorem c_spec_l02Clash (xs : List Int) (v : Value) (w : World) (h : RdI w v xs) (hok : okThrows xs = true) :
    Calls Tryz.prog 142 #[v] w fun e w' => ClashPost (clashB (landL xs)) e ∧ Below w.heap.size w w' := by
  obtain ⟨aL, capL, rfl, hlL, hcL⟩ := h
  have h12 := (okThrows_iff.1 hok).2
  have hpos : (0 : Int) < xs.length := by omega
  have hL : ∀ k, k < xs.length → (landL xs).getD k 0 = ((k : Int) + xs.getD k 0) % (xs.length : Int) := fun k hk => landTo_get xs _ k hk
  have HL := Lib.hid hL
  have hbd := okThrows_at hok
  have HB := Lib.hid hbd
  have hn := Lib.hid (landTo_length xs xs.length)
  clear hL hbd hok
  go_enter Tryz.func142, Tryz.ntmps142
  go_wp2
  go_loopw [5, 6] (fun i _ wr => ∃ k : Nat, 1 ≤ k ∧ k ≤ xs.length ∧ i = .int .i64 k ∧ Hid (clashTo (landL xs) k 0) ∧ Below w.heap.size w wr) (fun i _ _ => xs.length - (intOf i).toNat)
  case atStart => exact ⟨1, by omega, by omega, rfl, clashTo_one _, Below.refl _ _⟩
  case round =>
    obtain ⟨i, hi1, hi, rfl, hcl, hb⟩ := hrel
    obtain ⟨wo, rfl⟩ : ∃ wo : World, wo = wr := ⟨_, rfl⟩
    by_cases hlt : i < xs.length
    · obtain ⟨bb, oo, rfl, hx⟩ := hcL i hlt
      have hyb := HB.out i hlt
      have Ly := Lib.hid (HL.out i hlt)
      obtain ⟨y, Hy⟩ : ∃ y, Hid (xs.getD i 0 = y) := ⟨_, rfl⟩
      rw [Hy.out] at hx hyb
      have hlx := World.block_lt_of_cell? w _ hx
      go_wp2
      go_loopw [6] (fun k wr2 => ∃ j : Nat, j ≤ i ∧ k = .int .i64 j ∧ Hid (clashTo (landL xs) i j) ∧ Below w.heap.size w wr2) (fun k _ => i - (intOf k).toNat)
      case atStart => exact ⟨0, by omega, rfl, hcl, hb⟩
      case round =>
        obtain ⟨j, hj, rfl, hcj, hb2⟩ := hrel
        by_cases hji : j < i
        · obtain ⟨b2, o2, he, hz⟩ := hcL j (by omega)
          cases he
          have hxb := HB.out j (by omega)
          have Lx := Lib.hid (HL.out j (by omega))
          obtain ⟨x, Hx⟩ : ∃ x, Hid (xs.getD j 0 = x) := ⟨_, rfl⟩
          rw [Hx.out] at hz hxb
          have hx' : wr.cell? ⟨bb, oo + i, none⟩ = some (.int .i64 y) := by rw [hb2.cell (p := ⟨bb, oo + i, none⟩) hlx]; exact hx
          have hz' : wr.cell? ⟨bb, oo + j, none⟩ = some (.int .i64 x) := by rw [hb2.cell (p := ⟨bb, oo + j, none⟩) hlx]; exact hz
          have hin1 : (i : Int) < xs.length := by omega
          have hin2 : (j : Int) < xs.length := by omega
          have e1 : IntKind.i64.wrap ((j : Int) + x) = (j : Int) + x := IntWalk.i64_in _ (by omega)
          have e2 : IntKind.i64.wrap ((i : Int) + y) = (i : Int) + y := IntWalk.i64_in _ (by omega)
          clear hx hz hcL
          by_cases hxy : ((j : Int) + x) % (xs.length : Int) = ((i : Int) + y) % (xs.length : Int)
          · have ht : (((j : Int) + x) % (xs.length : Int) == ((i : Int) + y) % (xs.length : Int)) = true := by simp [hxy]
            have HC : Hid (clashB (landL xs) = false) := clash_at (i := i) (k := j) (by rw [show (landL xs).length = xs.length from hn.out]; exact hlt) hji (by rw [Lx.out, Ly.out, Hx.out, Hy.out]; exact hxy)
            clear hxy
            go_wp2
            go_quiet (fail)
            go_wp2
            go_ret2
            exact ⟨⟨_, _, rfl, fun h => by rw [HC.out] at h; (cases h), fun _ => by omega⟩, by (repeat (first | (with_reducible assumption) | (with_reducible exact Below.refl _ _) | (with_reducible refine Below.setCell ?_ (by first | (simp; done) | (simp; omega)) _) | (with_reducible refine Below.al ?_ _) | (with_reducible refine Below.dr ?_) | (with_reducible refine Below.drN ?_ _) | (with_reducible refine Below.tr ?_ (by with_reducible assumption))))⟩
          · have ht : (((j : Int) + x) % (xs.length : Int) == ((i : Int) + y) % (xs.length : Int)) = false := by simp [hxy]
            have hst : Hid (clashTo (landL xs) i (j + 1)) := clashTo_step hcj.out (by rw [Lx.out, Ly.out, Hx.out, Hy.out]; exact hxy)
            clear hxy
            go_wp2
            go_quiet (fail)
            go_wp2
            go_roundw
            case rel => exact ⟨j + 1, by omega, by go_num, hst, by (repeat (first | (with_reducible assumption) | (with_reducible exact Below.refl _ _) | (with_reducible refine Below.setCell ?_ (by first | (simp; done) | (simp; omega)) _) | (with_reducible refine Below.al ?_ _) | (with_reducible refine Below.dr ?_) | (with_reducible refine Below.drN ?_ _) | (with_reducible refine Below.tr ?_ (by with_reducible assumption))))⟩
            case measure => simp [intOf]; omega
        · obtain rfl : j = i := by omega
          have hst : Hid (clashTo (landL xs) (j + 1) 0) := clashTo_next hcj.out
          clear hx hcL
          go_wp2
          go_roundw
          case rel => exact ⟨j + 1, by omega, by omega, by go_num, hst, hb2⟩
          case measure => simp [intOf]; omega
    · obtain rfl : i = xs.length := by omega
      have HC : Hid (clashB (landL xs) = true) := by
        have h := hcl.out
        rw [← (show (landL xs).length = xs.length from hn.out)] at h
        exact clashTo_all h
      go_wp2
      go_ret2
      exact ⟨⟨_, _, rfl, fun _ => rfl, fun h => by rw [HC.out] at h; (cases h)⟩, by (repeat (first | (with_reducible assumption) | (with_reducible exact Below.refl _ _) | (with_reducible refine Below.setCell ?_ (by first | (simp; done) | (simp; omega)) _) | (with_reducible refine Below.al ?_ _) | (with_reducible refine Below.dr ?_) | (with_reducible refine Below.drN ?_ _) | (with_reducible refine Below.tr ?_ (by with_reducible assumption))))⟩
theorem validP_of {xs : List Int} (h : okThrows xs = true) : validP xs = clashB (landL xs) := by unfold validP; rw [h]; rfl
theorem validP_not {xs : List Int} (h : okThrows xs = false) : validP xs = false := by unfold validP; rw [h]; rfl
theorem collCode_eq (xs : List Int) : (collCode xs == 0) = validP xs := by
  unfold collCode validP
  cases okThrows xs <;> cases clashB (landL xs) <;> rfl
theorem c_impl_ValidPattern (xs : List Int) (v : Value) (w : World) (h : RdI w v xs) :
    Calls Tryz.prog 85 #[v] w fun e w' => e = .returned (.bool (validP xs)) ∧ Below w.heap.size w w' := by
  have HC := Lib.hid (collCode_eq xs)
  go_enter Tryz.func85, Tryz.ntmps85
  go_wp2_with (go_at_call 115; refine (c_impl_CollisionOf xs _ _ h).mono ?_; rintro e w1 ⟨⟨a, b, rfl⟩, hb⟩)
  go_ret
  exact ⟨by rw [← HC.out]; rfl, hb⟩
theorem c_spec_l02Ok (xs : List Int) (v : Value) (w : World) (h : RdI w v xs) :
    Calls Tryz.prog 117 #[v] w fun e w' => e = .returned (.bool (validP xs)) ∧ Below w.heap.size w w' := by
  cases hok : okThrows xs
  · have HC := Lib.hid (validP_not hok)
    go_enter Tryz.func117, Tryz.ntmps117
    go_wp2_with (go_at_call 141; refine (c_spec_l02List xs _ _ h).mono ?_; rintro e w1 ⟨rfl, rfl⟩)
    go_ret
    exact ⟨by rw [HC.out]; rfl, by (repeat (first | (with_reducible assumption) | (with_reducible exact Below.refl _ _) | (with_reducible refine Below.setCell ?_ (by first | (simp; done) | (simp; omega)) _) | (with_reducible refine Below.al ?_ _) | (with_reducible refine Below.dr ?_) | (with_reducible refine Below.drN ?_ _) | (with_reducible refine Below.tr ?_ (by with_reducible assumption))))⟩
  · have HC := Lib.hid (validP_of hok)
    have HOK := Lib.hid hok
    cases hcl : clashB (landL xs)
    · go_enter Tryz.func117, Tryz.ntmps117
      go_wp2_with (first | (go_at_call 141; refine (c_spec_l02List xs _ _ h).mono ?_; rintro e w1 ⟨rfl, rfl⟩) | (go_at_call 142; refine (c_spec_l02Clash xs _ _ h HOK.out).mono ?_; rintro e w1 ⟨⟨a, b, rfl, ha, hb0⟩, hb⟩; have ht : ¬ a < 0 := by (have := hb0 hcl; omega)))
      go_ret
      exact ⟨by rw [HC.out, hcl]; simp; omega, hb⟩
    · go_enter Tryz.func117, Tryz.ntmps117
      go_wp2_with (first | (go_at_call 141; refine (c_spec_l02List xs _ _ h).mono ?_; rintro e w1 ⟨rfl, rfl⟩) | (go_at_call 142; refine (c_spec_l02Clash xs _ _ h HOK.out).mono ?_; rintro e w1 ⟨⟨a, b, rfl, ha, hb0⟩, hb⟩; have ht : a < 0 := by (have := ha hcl; omega)))
      go_ret
      exact ⟨by rw [HC.out, hcl]; rfl, hb⟩
end Go.Proofs.YtioemkdapoombaaGreatDoor
