/- The law LinesX: what it rests on, part 19 of 46. -/
import Derived.Test.YtioemkdapoombaaGreatDoorQLinesX18
import Derived.Laws.BytesArg
import Derived.Deep.RegionHeld3
import Derived.Test.YtioemkdapoombaaGreatDoorQLinesX03
import Derived.Test.YtioemkdapoombaaGreatDoorQLinesX04
section
namespace Go.Proofs.YtioemkdapoombaaGreatDoor
open Go.ChangeShapes Go.WideShapes Go.ChangeAt Go.RowKit
set_option linter.unusedSimpArgs false
set_option linter.unusedVariables false
section
variable {lo hi b n c : Nat} {w : World} {X : List Part2}
theorem DrwP.zero (h : DrwP lo hi w (.slice (some ⟨b, 0, none⟩) n c) X) (hX : 0 < X.length) : ∃ u, w.cell? ⟨b, 0, none⟩ = some u ∧ w.cell? ⟨b, 1, none⟩ = some (.int .i64 (X.getD 0 pZ).2) ∧ w.frozen? ⟨b, 0, none⟩ = false ∧ w.frozen? ⟨b, 1, none⟩ = false ∧ RdI w u (X.getD 0 pZ).1 ∧ ∀ k, u.ownBlock = some k → (lo ≤ k ∧ k < hi) ∧ k ≠ b := by
  obtain ⟨Y, h1, h2, h3⟩ := h
  have hY : 0 < Y.length := by omega
  obtain ⟨a, cap, e, hl, hc⟩ := h2.rd rowQ_len
  cases e
  obtain ⟨b', off, ha, hx⟩ := hc 0 hY
  cases ha
  obtain ⟨j1, j2, j3⟩ := h3 0 hX
  have eY : Y.getD 0 qZ = Y[0] := by simp [List.getD, hY]
  rw [eY] at j1 j2 j3
  have f0 := (OwnRow.at rowQ_len h2 0 0 hY (by decide)).2
  have f1 := (OwnRow.at rowQ_len h2 0 1 hY (by decide)).2
  have c0 := hx 0 _ rfl
  have c1 := hx 1 _ rfl
  simp only [Nat.zero_mul, Nat.zero_add, Nat.add_zero] at c0 c1 f0 f1
  refine ⟨Y[0].1, c0, by rw [← j1]; exact c1, f0, f1, j2, fun k hk => ?_⟩
  obtain ⟨q1, q2⟩ := j3 k hk
  exact ⟨q1, fun e => q2 (by rw [e]; rfl)⟩
end
end Go.Proofs.YtioemkdapoombaaGreatDoor
end
section
namespace Go.Proofs.YtioemkdapoombaaGreatDoor
open Go.ChangeShapes Go.WideShapes Go.ChangeAt Go.RowKit
set_option linter.unusedVariables false
def rowT (s : ByteArray) : List Value := [.string s]
theorem rowT_len : ∀ x, (rowT x).length = 1 := fun _ => rfl
abbrev OwnT (lo hi : Nat) (w : World) (v : Value) (xs : List ByteArray) : Prop := OwnRow 9 1 rowT lo hi w v xs
theorem rdT_at {w : World} {a : Option Addr} {n cap : Nat} {xs : List ByteArray} (h : RdRow 1 rowT w (.slice a n cap) xs) (k : Nat) (hk : k < xs.length) : ∃ b off, a = some ⟨b, off, none⟩ ∧ w.cell? ⟨b, off + k, none⟩ = some (.string xs[k]) := by
  obtain ⟨a', cap', he, _, hc⟩ := h
  cases he
  obtain ⟨b, off, ha, hx⟩ := hc k hk
  refine ⟨b, off, ha, ?_⟩
  have h0 := hx 0 _ rfl
  rw [Nat.add_zero, Nat.mul_one] at h0; exact h0
end Go.Proofs.YtioemkdapoombaaGreatDoor
end
section
section
set_option linter.unusedVariables false
namespace Go.Proofs.YtioemkdapoombaaGreatDoor
open Go.ChangeShapes Go.WideShapes Go.ChangeAt Go.RowKit
def rowB (n : Int) : List Value := [.int .u8 n]
theorem rowB_len (n : Int) : (rowB n).length = 1 := rfl
theorem rowB_one (n : Int) : ∀ u ∈ rowB n, u.oneCell' = true := by
  intro u hu
  simp only [rowB, List.mem_singleton] at hu
  subst hu; rfl
theorem infoB : (Tryz.prog.info? 5).map (fun i => (i.zero, i.size, i.bytes)) = some (some (.int .u8 0), 1, 1) := by kernel_rfl
abbrev OwnB (lo hi : Nat) (w : World) (v : Value) (xs : List Int) : Prop := OwnRow 5 1 rowB lo hi w v xs
theorem conv_own {lo hi : Nat} {w : World} {v : Value} {xs : List Int} (h : OwnB lo hi w v xs) : (convert 22 9 v).run Tryz.prog w = .ok (.string (strOfNums xs)) w := by
  obtain ⟨a, cap, hv, _, hc⟩ := OwnRow.rd rowB_len h
  rcases h.1.2 with ⟨hv2, hn⟩ | ⟨g, cap2, cur, hv2, _⟩
  · have hx : xs = [] := List.eq_nil_of_length_eq_zero hn
    subst hx; subst hv2
    exact run_convert_bytes_nil _ _ _ Tryz.underlying22 Tryz.underlying5 _ _ _ Tryz.underlying9
  · subst hv2
    refine run_convert_bytes_arg _ _ _ Tryz.underlying22 Tryz.underlying5 g 0 xs.length cap2 xs rfl (fun i hi => ?_) _ Tryz.underlying9
    injection hv with e1 e2 e3
    obtain ⟨b, off, ha, hx⟩ := hc i hi
    rw [← e1] at ha
    cases ha
    have h0 := hx 0 _ rfl
    rw [List.getD_eq_getElem?_getD, List.getElem?_eq_getElem hi, Option.getD_some]
    simpa [rowB] using h0
end Go.Proofs.YtioemkdapoombaaGreatDoor
end
section
set_option linter.unusedVariables false
namespace Go.Proofs.YtioemkdapoombaaGreatDoor
open Go.ChangeShapes Go.WideShapes Go.ChangeAt Go.RowKit
/-- the code of a throw's character -/
def hexC (n : Int) : Int := if n < 10 then 48 + n else 87 + n
def hexT (xs : List Int) : ByteArray := strOfNums (xs.map hexC)
theorem hexT_size (xs : List Int) : (hexT xs).size = xs.length := by unfold hexT; rw [strOfNums_size, List.length_map]
theorem strOfNums_append (a b : List Int) : strOfNums (a ++ b) = strOfNums a ++ strOfNums b := by
  apply ByteArray.ext
  rw [ByteArray.data_append]
  simp [strOfNums]
theorem hexT_take (xs : List Int) (i : Nat) (h : i < xs.length) : hexT (xs.take (i + 1)) = hexT (xs.take i) ++ strOfNums [hexC xs[i]] := by
  unfold hexT
  rw [List.take_succ_eq_append_getElem h, List.map_append, strOfNums_append]; rfl
def digs : ByteArray := ⟨#[48, 49, 50, 51, 52, 53, 54, 55, 56, 57, 97, 98, 99, 100, 101, 102]⟩
theorem digs_at (n : Int) (h : 0 ≤ n ∧ n < 16) : digs.extract n.toNat (n + 1).toNat = strOfNums [hexC n] := by
  have : n = 0 ∨ n = 1 ∨ n = 2 ∨ n = 3 ∨ n = 4 ∨ n = 5 ∨ n = 6 ∨ n = 7 ∨ n = 8 ∨ n = 9 ∨ n = 10 ∨ n = 11 ∨ n = 12 ∨ n = 13 ∨ n = 14 ∨ n = 15 := by omega
  rcases this with rfl | rfl | rfl | rfl | rfl | rfl | rfl | rfl | rfl | rfl | rfl | rfl | rfl | rfl | rfl | rfl <;> decide
set_option maxHeartbeats 2000000 in
set_option maxRecDepth 100000 in
theorem c_spec_l02Text (xs : List Int) (v : Value) (w : World) (h : RdI w v xs) (hx : ∀ x ∈ xs, 0 ≤ x ∧ x < 16) :
    Calls Tryz.prog 51 #[v] w fun e w' => e = .returned (.string (hexT xs)) ∧ Below w.heap.size w w' := by
  have h' := h
  obtain ⟨a1, cap1, rfl, hl1, _⟩ := h'
  go_enter Tryz.func51, Tryz.ntmps51
  go_wp2
  go_loopw [4, 5] (fun s i wr => ∃ k : Nat, k ≤ xs.length ∧ i = .int .i64 k ∧ s = .string (hexT (xs.take k)) ∧ Below w.heap.size w wr) (fun _ i _ => xs.length - (intOf i).toNat)
  case atStart => exact ⟨0, by omega, rfl, rfl, Below.refl _ _⟩
  case round =>
    obtain ⟨k, hk, rfl, rfl, hb⟩ := hrel
    by_cases hlt : k < xs.length
    · obtain ⟨_, _, e, _, hc⟩ := h.below hb
      cases e
      obtain ⟨b1, o1, rfl, x0⟩ := hc k hlt
      have hxk := hx xs[k] (List.getElem_mem hlt)
      have HT := Lib.hid (hexT_take xs k hlt)
      have hsz : (hexT (xs.take k)).size = k := by rw [hexT_size, List.length_take]; omega
      rw [List.getD_eq_getElem?_getD, List.getElem?_eq_getElem hlt, Option.getD_some] at x0
      obtain ⟨n, Hn⟩ : ∃ n : Int, Hid (xs[k] = n) := ⟨xs[k], Lib.hid rfl⟩
      rw [Hn.out] at x0 hxk HT
      have hd := digs_at n hxk
      unfold digs at hd
      have hd1 : (strOfNums [hexC n]).size = 1 := rfl
      obtain ⟨S, HS⟩ : ∃ S, Hid (hexT (xs.take k) = S) := ⟨_, Lib.hid rfl⟩
      rw [HS.out] at HT hsz ⊢
      obtain ⟨D, HD⟩ : ∃ D, Hid (strOfNums [hexC n] = D) := ⟨_, Lib.hid rfl⟩
      rw [HD.out] at HT hd hd1
      have hsa : (S ++ D).size = k + 1 := by rw [ByteArray.size_append, hsz, hd1]
      clear h hc
      have hw : IntKind.i64.wrap (n + 1) = n + 1 := by unfold IntKind.wrap; simp [IntKind.bits, IntKind.signed]; omega
      have hsl : ∀ w', (Instr.slice 9 (.string ⟨#[48, 49, 50, 51, 52, 53, 54, 55, 56, 57, 97, 98, 99, 100, 101, 102]⟩) (some (.int .i64 n)) (some (.int .i64 (n + 1))) none).run Tryz.prog w' = .ok (.string D) w' := fun w' => by
        rw [run_slice_string w' _ _ _ _ _ _ Tryz.underlying9 (by omega) (by omega) (by show n + 1 ≤ 16; omega), hd]
      have hac : ¬ (9223372036854775807 < k + 1) := by omega
      go_wp2
      go_quiet ((rw [hsl _]; exact ⟨rfl, rfl⟩))
      go_wp2
      go_roundw
      case rel => exact ⟨k + 1, by omega, by go_num, by rw [HT.out], by (repeat (first | (with_reducible assumption) | (with_reducible exact Below.refl _ _) | (with_reducible refine Below.setCell ?_ (by first | (simp; done) | (simp; omega)) _) | (with_reducible refine Below.al ?_ _) | (with_reducible refine Below.dr ?_) | (with_reducible refine Below.drN ?_ _) | (with_reducible refine Below.tr ?_ (by with_reducible assumption))))⟩
      case measure => simp [intOf]; omega
    · obtain rfl : k = xs.length := by omega
      go_wp2
      go_ret
      exact ⟨by rw [List.take_length]; rfl, hb⟩
end Go.Proofs.YtioemkdapoombaaGreatDoor
end
section
set_option linter.unusedVariables false
namespace Go.Proofs.YtioemkdapoombaaGreatDoor
open Go.ChangeShapes Go.WideShapes Go.ChangeAt Go.RowKit
theorem digs_ix (n : Int) (h : 0 ≤ n ∧ n < 16) (w : World) : (Instr.index 9 (.string ⟨#[48, 49, 50, 51, 52, 53, 54, 55, 56, 57, 97, 98, 99, 100, 101, 102]⟩) (.int .i64 n)).run Tryz.prog w = .ok (.int .u8 (hexC n)) w := by
  have : n = 0 ∨ n = 1 ∨ n = 2 ∨ n = 3 ∨ n = 4 ∨ n = 5 ∨ n = 6 ∨ n = 7 ∨ n = 8 ∨ n = 9 ∨ n = 10 ∨ n = 11 ∨ n = 12 ∨ n = 13 ∨ n = 14 ∨ n = 15 := by omega
  rcases this with rfl | rfl | rfl | rfl | rfl | rfl | rfl | rfl | rfl | rfl | rfl | rfl | rfl | rfl | rfl | rfl <;> (rw [run_index_string w _ _ _ _ Tryz.underlying9, dif_pos (by decide)]; rfl)
end Go.Proofs.YtioemkdapoombaaGreatDoor
end
end
