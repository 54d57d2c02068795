/- Contracts of the laws' helpers on slices of strings: eq, mark, held. -/
import Derived.Test.YtjokodlappeapaaGreatDoorStates
import Derived.Test.YtjokodlappeapaaGreatDoorMemR
import Derived.Laws.BytesArg
import Derived.Deep.RegionHeld3
namespace Go.Proofs.YtjokodlappeapaaGreatDoor
open Go.ChangeShapes Go.WideShapes Go.ChangeAt Go.RowKit
set_option linter.unusedVariables false
/-- one digit -/
def digT (n : Nat) : ByteArray := strOfNums [48 + (n : Int) % 10]
theorem digT_size (n : Nat) : (digT n).size = 1 := rfl
/-- the decimal digits of n ahead of the text acc -/
def digitsT (n : Nat) (acc : ByteArray) : ByteArray := if n = 0 then acc else digitsT (n / 10) (digT n ++ acc)
termination_by n
decreasing_by omega
theorem digitsT_step {n : Nat} (h : 0 < n) (acc : ByteArray) : digitsT n acc = digitsT (n / 10) (digT n ++ acc) := by
  rw [digitsT, if_neg (by omega)]
def mText (k : Nat) : ByteArray := if k = 0 then ⟨#[109, 48]⟩ else ⟨#[109]⟩ ++ digitsT k ⟨#[]⟩
set_option maxHeartbeats 2000000 in
set_option maxRecDepth 4000 in
theorem c_laws_markText (k : Nat) (w : World) (hk : 0 < k ∧ k < 4611686018427387904) :
    Calls Tryz.prog 57 #[.int .i64 k] w fun e w' => e = .returned (.string (mText k)) ∧ Below w.heap.size w w' := by
  have HM : Hid (mText k = ⟨#[109]⟩ ++ digitsT k ⟨#[]⟩) := by unfold Hid mText; rw [if_neg (by omega)]
  go_enter Tryz.func57, Tryz.ntmps57
  go_wp2
  go_loopw [0, 3] (fun a s wr => ∃ (n : Nat) (acc : ByteArray), a = .int .i64 n ∧ s = .string acc ∧ acc.size + n ≤ k ∧ Hid (digitsT n acc = digitsT k ⟨#[]⟩) ∧ Below w.heap.size w wr) (fun a _ _ => (intOf a).toNat)
  case atStart => exact ⟨k, _, rfl, rfl, by show 0 + k ≤ k; omega, rfl, by (repeat (first | (with_reducible assumption) | (with_reducible exact Below.refl _ _) | (with_reducible refine Below.setCell ?_ (by first | (simp; done) | (simp; omega)) _) | (with_reducible refine Below.al ?_ _) | (with_reducible refine Below.dr ?_) | (with_reducible refine Below.drN ?_ _) | (with_reducible refine Below.tr ?_ (by with_reducible assumption))))⟩
  case round =>
    obtain ⟨n, acc, rfl, rfl, hn, HE, hb⟩ := hrel
    by_cases h0 : 0 < n
    · have HD := Lib.hid (digitsT_step h0 acc)
      have hcv : (convert 38 9 (.slice (some ⟨wr.heap.size, 0, none⟩) 1 1)).run Tryz.prog (wr.alloc (.cells #[.int .u8 (48 + (n : Int) % 10)] 5)) = .ok (.string (digT n)) (wr.alloc (.cells #[.int .u8 (48 + (n : Int) % 10)] 5)) :=
        run_convert_bytes_arg _ _ _ Tryz.underlying38 Tryz.underlying5 _ 0 1 1 [48 + (n : Int) % 10] rfl (fun i hi => by obtain rfl : i = 0 := (by omega); rw [World.cell?_alloc_at _ _ _ _ rfl]; rfl) _ Tryz.underlying9
      have hsz := digT_size n
      have hsa : (digT n ++ acc).size = 1 + acc.size := by rw [ByteArray.size_append, hsz]
      generalize digT n = d at hcv hsz hsa HD
      have hdv : n / 10 < n := by omega
      go_wp2
      go_roundw
      case rel => exact ⟨n / 10, _, by go_num, rfl, by omega, by unfold Hid; rw [← HD.out]; exact HE.out, by (repeat (first | (with_reducible assumption) | (with_reducible exact Below.refl _ _) | (with_reducible refine Below.setCell ?_ (by first | (simp; done) | (simp; omega)) _) | (with_reducible refine Below.al ?_ _) | (with_reducible refine Below.dr ?_) | (with_reducible refine Below.drN ?_ _) | (with_reducible refine Below.tr ?_ (by with_reducible assumption))))⟩
      case measure => simp [intOf]; omega
    · obtain rfl : n = 0 := by omega
      have HZ : Hid (digitsT 0 acc = acc) := by unfold Hid; rw [digitsT]; rfl
      have hacc : ¬ (9223372036854775807 < 1 + acc.size) := by omega
      go_wp2
      go_ret
      exact ⟨by rw [HM.out, ← HE.out, HZ.out]; rfl, hb⟩
theorem c_laws_markTextI (n : Int) (k : Nat) (w : World) (hn : n = k) (hk : 0 < k ∧ k < 4611686018427387904) :
    Calls Tryz.prog 57 #[.int .i64 n] w fun e w' => e = .returned (.string (mText k)) ∧ Below w.heap.size w w' := by
  subst hn; exact c_laws_markText k w hk
def rowT (s : ByteArray) : List Value := [.string s]
theorem rowT_len : ∀ x, (rowT x).length = 1 := fun _ => rfl
abbrev OwnT (lo hi : Nat) (w : World) (v : Value) (xs : List ByteArray) : Prop := OwnRow 9 1 rowT lo hi w v xs
theorem rdT_at {w : World} {a : Option Addr} {n cap : Nat} {xs : List ByteArray} (h : RdRow 1 rowT w (.slice a n cap) xs) (k : Nat) (hk : k < xs.length) : ∃ b off, a = some ⟨b, off, none⟩ ∧ w.cell? ⟨b, off + k, none⟩ = some (.string xs[k]) := by
  obtain ⟨a', cap', he, _, hc⟩ := h
  cases he
  obtain ⟨b, off, ha, hx⟩ := hc k hk
  refine ⟨b, off, ha, ?_⟩
  have h0 := hx 0 _ rfl
  rw [Nat.add_zero, Nat.mul_one] at h0; exact h0
set_option maxHeartbeats 1000000 in
set_option maxRecDepth 100000 in
theorem c_laws_eqStringS (xs : List ByteArray) (v1 v2 : Value) (w : World) (h1 : RdRow 1 rowT w v1 xs) (h2 : RdRow 1 rowT w v2 xs) :
    Calls Tryz.prog 10 #[v1, v2] w fun e w' => e = .returned (.bool true) ∧ Below w.heap.size w w' := by
  have h1' := h1
  have h2' := h2
  obtain ⟨a1, cap1, rfl, hl1, _⟩ := h1'
  obtain ⟨a2, cap2, rfl, _, _⟩ := h2'
  have hb0 : ((xs.length : Int) != (xs.length : Int)) = false := by simp
  go_enter Tryz.func10, Tryz.ntmps10
  go_wp2
  go_loopw [5] (fun i wr => ∃ k : Nat, k ≤ xs.length ∧ i = .int .i64 k ∧ Below w.heap.size w wr) (fun i _ => xs.length - (intOf i).toNat)
  case atStart => exact ⟨0, by omega, rfl, Below.refl _ _⟩
  case round =>
    obtain ⟨k, hk, rfl, hb⟩ := hrel
    by_cases hlt : k < xs.length
    · obtain ⟨b1, o1, rfl, x0⟩ := rdT_at (h1.below hb) k hlt
      obtain ⟨b2, o2, rfl, y0⟩ := rdT_at (h2.below hb) k hlt
      generalize xs[k] = f at x0 y0
      clear h1 h2
      go_wp2
      go_quiet (fail)
      go_wp2
      go_roundw
      case rel => exact ⟨k + 1, by omega, by go_num, by (repeat (first | (with_reducible assumption) | (with_reducible exact Below.refl _ _) | (with_reducible refine Below.setCell ?_ (by first | (simp; done) | (simp; omega)) _) | (with_reducible refine Below.al ?_ _) | (with_reducible refine Below.dr ?_) | (with_reducible refine Below.drN ?_ _) | (with_reducible refine Below.tr ?_ (by with_reducible assumption))))⟩
      case measure => simp [intOf]; omega
    · go_wp2
      go_ret
      exact ⟨rfl, hb⟩
/-- the texts of q, q + 1, .. -/
def marksT (q : Nat) (n : Nat) : List ByteArray := (List.range n).map fun i : Nat => mText (q + i)
@[simp] theorem marksT_length (q n : Nat) : (marksT q n).length = n := by simp [marksT]
theorem marksT_succ (q n : Nat) : marksT q (n + 1) = marksT q n ++ [mText (q + n)] := by simp [marksT, List.range_succ]
theorem marksT_get (q n i : Nat) (h : i < (marksT q n).length) : (marksT q n)[i] = mText (q + i) := by simp [marksT]
def markedT (q : Nat) (xs : List ByteArray) (i : Nat) : List ByteArray := marksT q i ++ xs.drop i
theorem markedT_zero (q : Nat) (xs : List ByteArray) : markedT q xs 0 = xs := by simp [markedT, marksT]
theorem markedT_all (q : Nat) (xs : List ByteArray) : markedT q xs xs.length = marksT q xs.length := by simp [markedT]
theorem markedT_length (q : Nat) (xs : List ByteArray) (i : Nat) (h : i ≤ xs.length) : (markedT q xs i).length = xs.length := by simp [markedT]; omega
theorem markedT_set (q : Nat) (xs : List ByteArray) (i : Nat) (h : i < xs.length) : ((markedT q xs i).flatMap rowT).set i (.string (mText (q + i))) = (markedT q xs (i + 1)).flatMap rowT := by
  have e1 : xs.drop i = xs[i] :: xs.drop (i + 1) := by simp
  unfold markedT
  rw [marksT_succ, e1, List.flatMap_append, List.flatMap_append, List.flatMap_append, List.flatMap_cons]
  have hp : ((marksT q i).flatMap rowT).length = i := by rw [flat_len rowT_len, marksT_length, Nat.mul_one]
  rw [List.set_append_right _ _ (by omega), hp, Nat.sub_self]
  simp [rowT]
set_option maxHeartbeats 2000000 in
set_option maxRecDepth 100000 in
theorem c_laws_heldStringS (n q : Nat) (v : Value) (w : World) (h : RdRow 1 rowT w v (marksT q n)) (hq : 0 < q) (hq2 : q + n < 4611686018427387904) :
    Calls Tryz.prog 14 #[v, .int .i64 q] w fun e w' => e = .returned (.int .i64 ((q + n : Nat) : Int)) ∧ Below w.heap.size w w' := by
  have h' := h
  obtain ⟨a1, cap1, rfl, hl1, _⟩ := h'
  simp only [marksT_length] at hl1 h ⊢
  go_enter Tryz.func14, Tryz.ntmps14
  go_wp2
  go_loopw [1, 5] (fun c i wr => ∃ k : Nat, k ≤ n ∧ i = .int .i64 k ∧ c = .int .i64 ((q : Int) + k) ∧ Below w.heap.size w wr) (fun _ i _ => n - (intOf i).toNat)
  case atStart => exact ⟨0, by omega, rfl, by simp, Below.refl _ _⟩
  case round =>
    obtain ⟨k, hk, rfl, rfl, hb⟩ := hrel
    obtain ⟨wo, rfl⟩ : ∃ wo : World, wo = wr := ⟨_, rfl⟩
    by_cases hlt : k < n
    · obtain ⟨b1, o1, rfl, x0⟩ := rdT_at (h.below hb) k (by rw [marksT_length]; exact hlt)
      rw [marksT_get] at x0
      have hkq : 0 < q + k ∧ q + k < 4611686018427387904 := by omega
      have hs1 : b1 < wo.heap.size := World.block_lt_of_cell? wo _ x0
      have hin0 : (0 : Int) ≤ (k : Int) := Int.natCast_nonneg _
      have hin1 : (k : Int) < (n : Int) := by omega
      obtain ⟨M, HM⟩ : ∃ M, Hid (mText (q + k) = M) := ⟨_, rfl⟩
      rw [HM.out] at x0
      clear h
      go_wp2_with fail
      go_region_held3 (fun w' => w'.cell? ⟨b1, o1 + k, none⟩ = some (.string M))
        (go_keep)
        ((go_at_call 57; refine (c_laws_markTextI _ (q + k) _ (by omega) hkq).mono ?_; rintro e w4 ⟨rfl, hb4⟩; rw [HM.out]; have hb4' := below_drew hb4; obtain ⟨hc4, _⟩ := bcell hb4'))
      go_wp2
      go_roundw
      case rel => exact ⟨k + 1, by omega, by go_num, by go_num, hb.tr hb4'⟩
      case measure => simp [intOf]; omega
    · obtain rfl : k = n := by omega
      go_wp2
      go_ret
      exact ⟨by simp, hb⟩
set_option maxHeartbeats 2000000 in
set_option maxRecDepth 100000 in
theorem c_laws_markStringS (lo hi : Nat) (xs : List ByteArray) (q : Nat) (v : Value) (w : World) (h : OwnT lo hi w v xs) (hiw : hi ≤ w.heap.size) (hq : 0 < q) (hq2 : q + xs.length < 4611686018427387904) :
    Calls Tryz.prog 13 #[v, .int .i64 q] w fun e w' => e = .returned (.int .i64 ((q + xs.length : Nat) : Int)) ∧ OwnT lo hi w' v (marksT q xs.length) ∧ Upd lo hi w w' := by
  have h0 := h
  rcases h0.1.2 with ⟨hv, hn⟩ | ⟨g, cap, cur, hv, hlo, hh, hnc, hcm, _⟩
  · subst hv
    have hx : xs = [] := List.eq_nil_of_length_eq_zero hn
    subst hx
    go_enter Tryz.func13, Tryz.ntmps13
    go_wp2
    refine wp_loop_rounds 1 ?_
    rw [rounds_succ]
    go_wp2
    go_ret
    exact ⟨by simp, h, Upd.of_below (Below.refl _ _)⟩
  · subst hv
    have hghi : g < hi := h.2 g rfl
    have hlm : (xs.length : Int) ≤ 9223372036854775807 := by unfold maxLen at hcm; omega
    clear hh h0
    go_enter Tryz.func13, Tryz.ntmps13
    go_wp2
    go_loopw [1, 5] (fun c i wr => ∃ k : Nat, k ≤ xs.length ∧ i = .int .i64 k ∧ c = .int .i64 ((q : Int) + k) ∧ wr.ownsRow lo 9 1 (.slice (some ⟨g, 0, none⟩) xs.length cap) xs.length ((markedT q xs k).flatMap rowT) ∧ Upd lo hi w wr) (fun _ i _ => xs.length - (intOf i).toNat)
    case atStart => exact ⟨0, by omega, rfl, by simp, by rw [markedT_zero]; exact h.1, Upd.of_below (Below.refl _ _)⟩
    case round =>
      obtain ⟨k, hk, rfl, rfl, hown, hu⟩ := hrel
      by_cases hlt : k < xs.length
      · have hml := markedT_length q xs k hk
        have hkq : 0 < q + k ∧ q + k < 4611686018427387904 := by omega
        have hin0 : (0 : Int) ≤ (k : Int) := Int.natCast_nonneg _
        have hin1 : (k : Int) < (xs.length : Int) := by omega
        have HMS := Lib.hid (markedT_set q xs k hlt)
        have HML := Lib.hid hml
        clear hml
        go_wp2_with (go_at_call 57; refine (c_laws_markTextI _ (q + k) _ (by omega) hkq).mono ?_; rintro e w4 ⟨rfl, hb4⟩; have hown4 := owns_below hown hb4; have hA : OwnT lo hi w4 (.slice (some ⟨g, 0, none⟩) xs.length cap) (markedT q xs k) := ⟨by rw [HML.out]; exact hown4, h.2⟩; obtain ⟨⟨old0, k0⟩, f0⟩ := OwnRow.at rowT_len hA k 0 (by rw [HML.out]; exact hlt) (by decide); rw [Nat.add_zero, Nat.mul_one] at k0 f0; have s1 := World.ownsRow.stored hown4 k (.string (mText (q + k))); have s4 := s1.1; rw [HMS.out] at s4; have HS := Lib.hid s4; have HU : Hid (Upd lo hi w4 _) := Lib.hid (Upd.of_grown s1.2 (fun b hb => by cases hb; exact ⟨hlo, hghi⟩)); clear s1 s4 hA hown4)
        go_roundw
        case rel => exact ⟨k + 1, by omega, by go_num, by go_num, HS.out, (hu.trans (Upd.of_below hb4)).trans HU.out⟩
        case measure => simp [intOf]; omega
      · obtain rfl : k = xs.length := by omega
        go_wp2
        go_ret
        exact ⟨by simp, ⟨by rw [marksT_length, ← markedT_all]; exact hown, h.2⟩, hu⟩
end Go.Proofs.YtjokodlappeapaaGreatDoor
