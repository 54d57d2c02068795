/- The law LinesX: what it rests on, part 22 of 46. -/
import Derived.Laws.Strings3
import Derived.Laws.DeepStrings4
import Derived.Test.YtioemkdapoombaaGreatDoorQLinesX02
import Derived.Test.YtioemkdapoombaaGreatDoorQLinesX13
import Derived.Test.YtioemkdapoombaaGreatDoorQLinesX19
import Derived.Test.YtioemkdapoombaaGreatDoorQLinesX21
section
namespace Go.Proofs.YtioemkdapoombaaGreatDoor
set_option linter.unusedVariables false
/-- the parts of a text between blanks -/
def spl : List UInt8 → List (List UInt8)
  | [] => [[]]
  | c :: cs => if c = 32 then [] :: spl cs else
    match spl cs with
    | [] => [[c]]
    | w :: ws => (c :: w) :: ws
theorem spl_ne : ∀ l, spl l ≠ []
  | [] => by simp [spl]
  | c :: cs => by
    unfold spl
    split
    · simp
    · split <;> simp
theorem spl_cons {c : UInt8} (h : c ≠ 32) (cs : List UInt8) : ∃ w ws, spl cs = w :: ws ∧ spl (c :: cs) = (c :: w) :: ws := by
  cases hs : spl cs with
  | nil => exact absurd hs (spl_ne cs)
  | cons w ws => exact ⟨w, ws, rfl, by rw [spl, if_neg h, hs]⟩
theorem spl_cut : ∀ {l : List UInt8} {r : List UInt8}, (∀ c ∈ l, c ≠ 32) → spl (l ++ 32 :: r) = l :: spl r
  | [], r, _ => by simp [spl]
  | c :: l, r, h => by
    have ih := spl_cut (l := l) (r := r) (fun x hx => h x (List.mem_cons_of_mem _ hx))
    show spl (c :: (l ++ 32 :: r)) = _
    rw [spl, if_neg (h c (List.mem_cons_self ..)), ih]
theorem spl_end : ∀ {l : List UInt8}, (∀ c ∈ l, c ≠ 32) → spl l = [l]
  | [], _ => rfl
  | c :: l, h => by
    have ih := spl_end (l := l) (fun x hx => h x (List.mem_cons_of_mem _ hx))
    rw [spl, if_neg (h c (List.mem_cons_self ..)), ih]
/-- words with a blank between each two -/
def unw : List (List UInt8) → List UInt8
  | [] => []
  | w :: ws => match ws with
    | [] => w
    | _ :: _ => w ++ 32 :: unw ws
theorem unw_one (w : List UInt8) : unw [w] = w := rfl
theorem unw_cons (w x : List UInt8) (ws : List (List UInt8)) : unw (w :: x :: ws) = w ++ 32 :: unw (x :: ws) := rfl
theorem unw_spl : ∀ l, unw (spl l) = l
  | [] => rfl
  | c :: l => by
    have ih := unw_spl l
    by_cases h : c = 32
    · rw [spl, if_pos h]
      cases hs : spl l with
      | nil => exact absurd hs (spl_ne l)
      | cons w ws => rw [hs] at ih; rw [unw_cons, ih, h]; rfl
    · obtain ⟨v, vs, h1, h2⟩ := spl_cons h l
      rw [h2]
      rw [h1] at ih
      cases vs with
      | nil => rw [unw_one] at ih ⊢; rw [ih]
      | cons x xs => rw [unw_cons] at ih ⊢; rw [List.cons_append, ih]
/-- a text of bytes -/
def bsT (l : List UInt8) : ByteArray := ⟨l.toArray⟩
theorem bsT_of (s : ByteArray) : s = bsT s.data.toList := by unfold bsT; simp
theorem bsT_size (l : List UInt8) : (bsT l).size = l.length := by unfold bsT; simp [ByteArray.size]
theorem bsT_extract (l : List UInt8) (a b : Nat) : (bsT l).extract a b = bsT ((l.take b).drop a) := by
  apply ByteArray.ext
  simp [bsT, List.drop_take]
end Go.Proofs.YtioemkdapoombaaGreatDoor
end
section
namespace Go.Proofs.YtioemkdapoombaaGreatDoor
open Go.ChangeShapes Go.WideShapes Go.ChangeAt Go.RowKit
set_option linter.unusedSimpArgs false
set_option linter.unusedVariables false
theorem digC_hex {k : Int} (h : 0 ≤ k ∧ k < 16) : digC (hexC k) = k := by
  unfold hexC digC
  split
  · rw [if_pos (by omega)]; omega
  · rw [if_neg (by omega), if_pos (by omega)]; omega
theorem digC_none {c : Int} (h : ∀ k : Nat, k < 16 → hexC k ≠ c) : digC c = -1 := by
  unfold digC
  split
  · rename_i h1
    have := h (c - 48).toNat (by omega)
    unfold hexC at this
    rw [if_pos (by omega)] at this
    omega
  · split
    · rename_i h1 h2
      have := h (c - 87).toNat (by omega)
      unfold hexC at this
      rw [if_neg (by omega)] at this
      omega
    · rfl
theorem hexC_bd {k : Int} (h : 0 ≤ k ∧ k < 16) : 0 ≤ hexC k ∧ hexC k ≤ 255 := by unfold hexC; split <;> omega
set_option maxHeartbeats 2000000 in
theorem c_impl_hexOf (c : Int) (w : World) (hc : 0 ≤ c ∧ c ≤ 255) :
    Calls Tryz.prog 126 #[.int .u8 c] w fun e w' => e = .returned (.int .i64 (digC c)) ∧ w = w' := by
  go_enter Tryz.func126, Tryz.ntmps126
  go_wp2
  go_loopw [4] (fun i wr => ∃ k : Nat, k ≤ 16 ∧ i = .int .i64 k ∧ Hid (∀ j : Nat, j < k → hexC j ≠ c) ∧ w = wr) (fun i _ => 16 - (intOf i).toNat)
  case atStart => exact ⟨0, by omega, by go_num, fun j hj => by omega, rfl⟩
  case round =>
    obtain ⟨k, hk, rfl, HN, rfl⟩ := hrel
    by_cases hlt : k < 16
    · have hix := fun w' => digs_ix (k : Int) (by omega) w'
      by_cases he : hexC (k : Int) = c
      · have HD : Hid (digC c = (k : Int)) := by unfold Hid; rw [← he]; exact digC_hex (by omega)
        have hb := hexC_bd (k := (k : Int)) (by omega)
        obtain ⟨d, hd⟩ : ∃ d, hexC (k : Int) = d := ⟨_, rfl⟩
        rw [hd] at he hix hb
        subst he
        clear hd
        go_wp2
        go_ret
        exact ⟨by rw [HD.out]; rfl, rfl⟩
      · have HN2 : Hid (∀ j : Nat, j < k + 1 → hexC j ≠ c) := fun j hj => by
          by_cases e : j = k
          · subst e; exact he
          · exact HN.out j (by omega)
        have hb := hexC_bd (k := (k : Int)) (by omega)
        obtain ⟨d, hd⟩ : ∃ d, hexC (k : Int) = d := ⟨_, rfl⟩
        rw [hd] at he hix hb
        have te : (d == c) = false := beq_eq_false_iff_ne.2 he
        clear hd he
        go_wp2
        go_roundw
        case rel => exact ⟨k + 1, by omega, by go_num, HN2, by trivial⟩
        case measure => simp [intOf]; omega
    · have HD : Hid (digC c = -1) := digC_none (fun j hj => HN.out j (by omega))
      have hk16 : ¬ (k : Int) < 16 := by omega
      go_wp2
      go_ret
      exact ⟨by rw [HD.out]; rfl, rfl⟩
def okDig (s : ByteArray) : Bool := (digsTo s s.size).all (fun x => decide (0 ≤ x)) && inB (s.size : Int) 1 12
theorem okTo (s : ByteArray) (k : Nat) (h : (digsTo s k).all (fun x => decide (0 ≤ x)) = true) (h2 : 0 ≤ digC (chr s k)) : (digsTo s (k + 1)).all (fun x => decide (0 ≤ x)) = true := by
  rw [digsTo_succ, List.all_append, h]
  simp [h2]
theorem ok_bad {s : ByteArray} {k : Nat} (hk : k < s.size) (h : digC (chr s k) < 0) : okDig s = false := by
  unfold okDig
  rw [Bool.and_eq_false_iff]
  left
  rw [List.all_eq_false]
  exact ⟨digC (chr s k), List.mem_map.2 ⟨k, List.mem_range.2 hk, rfl⟩, by simp; omega⟩
set_option maxHeartbeats 2000000 in
theorem c_impl_isDigits (s : ByteArray) (w : World) (hs : s.size ≤ 9223372036854775807) :
    Calls Tryz.prog 103 #[.string s] w fun e w' => e = .returned (.bool (okDig s)) ∧ w = w' := by
  go_enter Tryz.func103, Tryz.ntmps103
  go_wp2
  go_loopw [6] (fun i wr => ∃ k : Nat, k ≤ s.size ∧ i = .int .i64 k ∧ Hid ((digsTo s k).all (fun x => decide (0 ≤ x)) = true) ∧ w = wr) (fun i _ => s.size - (intOf i).toNat)
  case atStart => exact ⟨0, by omega, by go_num, rfl, rfl⟩
  case round =>
    obtain ⟨k, hk, rfl, HA, rfl⟩ := hrel
    by_cases hlt : k < s.size
    · have hin0 : (0 : Int) ≤ (k : Int) := by omega
      have hin1 : (k : Int) < (s.size : Int) := by omega
      have hcd := chr_bd s k
      have hix : ∀ w', (Instr.index 9 (.string s) (.int .i64 (k : Int))).run Tryz.prog w' = .ok (.int .u8 (chr s k)) w' := fun w' => by
        rw [run_index_string _ _ _ _ _ Tryz.underlying9, dif_pos ⟨hin0, hin1⟩]
        congr 2
        exact chr_at (s := s) (i := k) hlt
      have HX := Lib.hid (okTo s k HA.out)
      have HY := Lib.hid (fun h => ok_bad (s := s) (k := k) hlt h)
      have hdb := digC_bd (chr s k)
      go_wp2_with (first | ((rw [hix _])) | (go_at_call 126; refine (c_impl_hexOf (chr s k) _ hcd).mono ?_; rintro e w2 ⟨rfl, rfl⟩; refine stop_of ?_))
      unfold Stopped
      obtain ⟨d, hd⟩ : ∃ d, digC (chr s k) = d := ⟨_, rfl⟩
      rw [hd] at HX HY hdb ⊢
      clear hd hix
      by_cases h0 : d < 0
      · have HF := Lib.hid (HY.out h0)
        go_wp2
        go_ret
        exact ⟨by rw [HF.out]; rfl, rfl⟩
      · have HT := Lib.hid (HX.out (by omega))
        go_wp2
        go_roundw
        case rel => exact ⟨k + 1, by omega, by go_num, HT, by trivial⟩
        case measure => simp [intOf]; omega
    · have hks : k = s.size := by omega
      have HE : Hid (okDig s = inB (s.size : Int) 1 12) := by
        have h := HA.out
        rw [hks] at h
        unfold Hid okDig
        rw [h]; rfl
      have hkn : ¬ (k : Int) < (s.size : Int) := by omega
      go_wp2_with fail
      refine (c_impl_between (s.size : Int) 1 12 _).mono ?_; rintro e w2 ⟨rfl, rfl⟩
      go_wp2
      go_ret
      exact ⟨by rw [HE.out]; rfl, rfl⟩
set_option maxHeartbeats 2000000 in
theorem c_impl_readDigits (s : ByteArray) (w : World) (hs : s.size ≤ 100000000) :
    Calls Tryz.prog 105 #[.string s] w fun e w' => ∃ v, e = .returned v ∧ OwnI1 w.heap.size w' v (digsTo s s.size) ∧ Below w.heap.size w w' := by
  have HSU := Lib.hid (digsTo_succ s)
  have HLN := Lib.hid (digsTo_len s)
  go_enter Tryz.func105, Tryz.ntmps105
  go_wp2
  go_loopw [3, 8] (fun out i wr => ∃ k : Nat, k ≤ s.size ∧ i = .int .i64 k ∧ (∃ ad m cap, out = .slice (some ad) m cap) ∧ OwnI1 w.heap.size wr out (digsTo s k) ∧ Below w.heap.size w wr) (fun _ i _ => s.size - (intOf i).toNat)
  case atStart => exact ⟨0, by omega, by go_num, ⟨_, _, _, rfl⟩, OwnI.made rfl rfl (Nat.le_refl _), (Below.refl _ _).al _⟩
  case round =>
    obtain ⟨k, hk, rfl, ⟨ad, m, cap, rfl⟩, hown, BR⟩ := hrel
    by_cases hlt : k < s.size
    · have hin0 : (0 : Int) ≤ (k : Int) := by omega
      have hin1 : (k : Int) < (s.size : Int) := by omega
      have hcd := chr_bd s k
      have hix : ∀ w', (Instr.index 9 (.string s) (.int .i64 (k : Int))).run Tryz.prog w' = .ok (.int .u8 (chr s k)) w' := fun w' => by
        rw [run_index_string _ _ _ _ _ Tryz.underlying9, dif_pos ⟨hin0, hin1⟩]
        congr 2
        exact chr_at (s := s) (i := k) hlt
      have HSk := Lib.hid (HSU.out k)
      have HLk := Lib.hid (HLN.out k)
      go_wp2_with (first | ((rw [hix _])) | (go_at_call 126; refine (c_impl_hexOf (chr s k) _ hcd).mono ?_; rintro e w2 ⟨rfl, rfl⟩) | (at_builtin; refine push_int rfl _ _ _ _ rfl Tryz.underlying26 infoI w.heap.size (.slice (some ad) m cap) (digsTo s k) (digC (chr s k)) _ rfl rfl (by exact hown) (by rw [HLk.out]; omega) (by exact BR.size) ?_; intro v3 w3 ho3 hb3 hs3))
      go_roundw
      case rel => exact ⟨k + 1, by omega, by go_num, (by obtain ⟨b3, cap4, e3, -⟩ := OwnI.some_of ho3 (by simp); exact ⟨_, _, _, e3⟩), by rw [HSk.out]; exact ho3, hb3 _ BR⟩
      case measure => simp [intOf]; omega
    · obtain rfl : k = s.size := by omega
      go_wp2
      go_ret
      exact ⟨_, rfl, hown, BR⟩
theorem ext_one {s : ByteArray} {k : Nat} (hk : k < s.size) : ((s.extract k (k + 1)).toList == [32]) = decide (chr s k = 32) := by
  have h1 : (s.extract k (k + 1)).toList = [s.data[k]'hk] := by
    rw [ByteArray.toList_eq, ByteArray.data_extract]
    apply List.ext_getElem
    · simp only [Array.length_toList, Array.size_extract, List.length_cons, List.length_nil]
      have : s.data.size = s.size := rfl
      omega
    · intro i h1 h2
      have : i = 0 := by simpa using h2
      subst this
      simp
  have h2 : chr s k = ((s.data[k]'hk).toNat : Int) := by rw [← chr_at hk]; rfl
  rw [h1, h2]
  by_cases e : s.data[k]'hk = 32
  · rw [e]; rfl
  · have e2 : ¬ (((s.data[k]'hk).toNat : Int) = 32) := fun h => e (UInt8.toNat_inj.1 (by show _ = 32; omega))
    rw [decide_eq_false e2]
    simpa using e
set_option maxHeartbeats 4000000 in
theorem c_impl_cut (s : ByteArray) (w : World) (hs : s.size ≤ 9223372036854775000) :
    Calls Tryz.prog 97 #[.string s, .string ⟨#[32]⟩] w fun e w' => ∃ k : Nat, k ≤ s.size ∧ (∀ j : Nat, j < k → chr s j ≠ 32) ∧ ((k < s.size ∧ chr s k = 32 ∧ e = .returned (.tuple #[.string (s.extract 0 k), .string (s.extract (k + 1) s.size), .bool true])) ∨ (k = s.size ∧ e = .returned (.tuple #[.string s, .string ⟨#[]⟩, .bool false]))) ∧ Below w.heap.size w w' := by
  go_enter Tryz.func97, Tryz.ntmps97
  go_wp2
  go_loopw [7] (fun i wr => ∃ k : Nat, k ≤ s.size ∧ i = .int .i64 k ∧ Hid (∀ j : Nat, j < k → chr s j ≠ 32) ∧ w = wr) (fun i _ => s.size - (intOf i).toNat)
  case atStart => exact ⟨0, by omega, by go_num, fun j hj => by omega, rfl⟩
  case round =>
    obtain ⟨k, hk, rfl, HN, rfl⟩ := hrel
    by_cases hlt : k < s.size
    · have hsl : ∀ w', (Instr.slice 9 (.string s) (some (.int .i64 (k : Int))) (some (.int .i64 ((k : Int) + 1))) none).run Tryz.prog w' = .ok (.string (s.extract k (k + 1))) w' := fun w' => by
        rw [run_slice_string_if (h := Tryz.underlying9), if_pos (by omega), if_pos (by omega)]
        congr 3
      have hs1 : ∀ w', (Instr.slice 9 (.string s) none (some (.int .i64 (k : Int))) none).run Tryz.prog w' = .ok (.string (s.extract 0 k)) w' := fun w' => by
        rw [run_slice_string_to_if (h := Tryz.underlying9), if_pos (by omega)]
        congr 3
      have hs2 : ∀ w', (Instr.slice 9 (.string s) (some (.int .i64 ((k : Int) + 1))) none none).run Tryz.prog w' = .ok (.string (s.extract (k + 1) s.size)) w' := fun w' => by
        rw [run_slice_string_from_if (h := Tryz.underlying9), if_pos (by omega)]
        congr 3
      have hx := ext_one hlt
      have hlek : (k : Int) + 1 ≤ (s.size : Int) := by omega
      by_cases hc : chr s k = 32
      · rw [decide_eq_true hc] at hx
        have HC := Lib.hid hc
        clear hc
        go_wp2
        go_quiet (first | ((rw [hs1 _]; exact ⟨rfl, rfl⟩)) | ((rw [hs2 _]; exact ⟨rfl, rfl⟩)))
        go_wp2
        go_ret3
        exact ⟨k, by omega, HN.out, Or.inl ⟨hlt, HC.out, rfl⟩, (Below.refl _ _).drN _⟩
      · rw [decide_eq_false hc] at hx
        have HN2 : Hid (∀ j : Nat, j < k + 1 → chr s j ≠ 32) := fun j hj => by
          by_cases e : j = k
          · subst e; exact hc
          · exact HN.out j (by omega)
        clear hc
        go_wp2
        go_roundw
        case rel => exact ⟨k + 1, by omega, by go_num, HN2, by trivial⟩
        case measure => simp [intOf]; omega
    · obtain rfl : k = s.size := by omega
      have hgt : ¬ (s.size : Int) + 1 ≤ (s.size : Int) := by omega
      go_wp2
      go_ret3
      exact ⟨s.size, Nat.le_refl _, HN.out, Or.inr ⟨rfl, rfl⟩, Below.refl _ _⟩
end Go.Proofs.YtioemkdapoombaaGreatDoor
end
section
namespace Go.Proofs.YtioemkdapoombaaGreatDoor
open Go.ChangeShapes Go.WideShapes Go.ChangeAt Go.RowKit
set_option linter.unusedSimpArgs false
set_option linter.unusedVariables false
def bl (s : ByteArray) : List UInt8 := s.data.toList
theorem bl_len (s : ByteArray) : (bl s).length = s.size := rfl
theorem bl_bsT (l : List UInt8) : bl (bsT l) = l := by simp [bl, bsT]
theorem bsT_bl (s : ByteArray) : bsT (bl s) = s := (bsT_of s).symm
theorem bl_ext (s : ByteArray) (a b : Nat) : bl (s.extract a b) = ((bl s).take b).drop a := by
  conv => lhs; rw [bsT_of s]
  rw [bsT_extract, bl_bsT]; rfl
theorem bl_app (s t : ByteArray) : bl (s ++ t) = bl s ++ bl t := by simp [bl]
theorem bl_chr {s : ByteArray} {i : Nat} (h : i < (bl s).length) : chr s i = (((bl s)[i]).toNat : Int) := by
  rw [← chr_at (s := s) (i := i) h]; rfl
theorem bl_32 {s : ByteArray} {i : Nat} (h : i < (bl s).length) : chr s i = 32 ↔ (bl s)[i] = 32 := by
  rw [bl_chr h]
  constructor
  · intro e; exact UInt8.toNat_inj.1 (by show _ = 32; omega)
  · intro e; rw [e]; rfl
theorem bl_inj {s t : ByteArray} (h : bl s = bl t) : s = t := by rw [← bsT_bl s, ← bsT_bl t, h]
/-- the words of a text, single blanks between them -/
def words (s : ByteArray) : List ByteArray := (spl (bl s)).map bsT
theorem words_ne (s : ByteArray) : words s ≠ [] := fun h => spl_ne _ (List.map_eq_nil_iff.1 h)
theorem split_at' {l : List UInt8} {f i : Nat} (h : f ≤ i) (hi : i < l.length) (hc : l[i] = 32) (hn : ∀ j, f ≤ j → (hj : j < i) → l[j]'(by omega) ≠ 32) :
    spl (l.drop f) = (l.take i).drop f :: spl (l.drop (i + 1)) := by
  have e1 : l.drop f = (l.take i).drop f ++ 32 :: l.drop (i + 1) := by
    have h1 : l.drop i = 32 :: l.drop (i + 1) := by rw [List.drop_eq_getElem_cons hi, hc]
    rw [← h1]
    conv => lhs; rw [← List.take_append_drop i l]
    rw [List.drop_append_of_le_length (by rw [List.length_take]; omega)]
  rw [e1, spl_cut]
  intro c hcm
  obtain ⟨j, hj, rfl⟩ := List.getElem_of_mem hcm
  rw [List.getElem_drop, List.getElem_take]
  rw [List.length_drop, List.length_take] at hj
  exact hn (f + j) (by omega) (by omega)
theorem split_end' {l : List UInt8} {f : Nat} (hn : ∀ j, f ≤ j → (hj : j < l.length) → l[j] ≠ 32) : spl (l.drop f) = [l.drop f] := by
  apply spl_end
  intro c hcm
  obtain ⟨j, hj, rfl⟩ := List.getElem_of_mem hcm
  rw [List.getElem_drop]
  rw [List.length_drop] at hj
  exact hn (f + j) (by omega) (by omega)
theorem words_from {s : ByteArray} {f i : Nat} (h : f ≤ i) (hi : i < s.size) (hc : chr s i = 32) (hn : ∀ j, f ≤ j → j < i → chr s j ≠ 32) :
    words (s.extract f s.size) = s.extract f i :: words (s.extract (i + 1) s.size) := by
  unfold words
  have hl : s.size = (bl s).length := rfl
  rw [bl_ext, bl_ext, hl, List.take_length]
  rw [split_at' (l := bl s) h hi ((bl_32 hi).1 hc) (fun j h1 h2 e => hn j h1 h2 ((bl_32 (by rw [← hl]; omega)).2 e))]
  rw [List.map_cons, ← bl_ext, bsT_bl]
theorem words_last {s : ByteArray} {f : Nat} (hn : ∀ j, f ≤ j → j < s.size → chr s j ≠ 32) : words (s.extract f s.size) = [s.extract f s.size] := by
  unfold words
  have hl : s.size = (bl s).length := rfl
  have h1 : bl (s.extract f s.size) = (bl s).drop f := by rw [bl_ext, hl, List.take_length]
  rw [h1, split_end' (l := bl s) (fun j h1 h2 e => hn j h1 (by rw [hl]; exact h2) ((bl_32 h2).2 e)), ← h1]
  simp [bsT_bl]
theorem ext_all (s : ByteArray) : s.extract 0 s.size = s := bl_inj (by rw [bl_ext, show s.size = (bl s).length from rfl, List.take_length]; rfl)
theorem words_cut {s : ByteArray} {i : Nat} (hi : i < s.size) (hc : chr s i = 32) (hn : ∀ j, j < i → chr s j ≠ 32) :
    words s = s.extract 0 i :: words (s.extract (i + 1) s.size) := by
  have := words_from (s := s) (Nat.zero_le i) hi hc (fun j _ h => hn j h)
  rwa [ext_all] at this
theorem words_end {s : ByteArray} (hn : ∀ j, j < s.size → chr s j ≠ 32) : words s = [s] := by
  have := words_last (s := s) (f := 0) (fun j _ h => hn j h)
  rwa [ext_all] at this
theorem ext_size (s : ByteArray) (a b : Nat) (h : b ≤ s.size) : (s.extract a b).size = b - a := by
  rw [← bl_len, bl_ext, List.length_drop, List.length_take, bl_len]; omega
/-- one word: the text itself -/
theorem words_one {s x : ByteArray} (h : words s = [x]) : s = x := by
  have h1 : spl (bl s) = [bl x] := by
    unfold words at h
    have h2 := congrArg (List.map bl) h
    rw [List.map_map, show bl ∘ bsT = id from funext bl_bsT, List.map_id] at h2
    exact h2
  have h2 := unw_spl (bl s)
  rw [h1, unw_one] at h2
  exact bl_inj h2.symm
theorem words_spl {s : ByteArray} {ws : List ByteArray} (h : words s = ws) : spl (bl s) = ws.map bl := by
  unfold words at h
  rw [← h, List.map_map, show bl ∘ bsT = id from funext bl_bsT, List.map_id]
theorem words_cons {s x y : ByteArray} {ws : List ByteArray} (h : words s = x :: y :: ws) : bl s = bl x ++ 32 :: unw ((y :: ws).map bl) := by
  have h1 := words_spl h
  have h2 := unw_spl (bl s)
  rw [h1] at h2
  rw [← h2]; rfl
theorem words_blank {s x y : ByteArray} {ws : List ByteArray} (h : words s = x :: y :: ws) : ∃ j, j < s.size ∧ chr s j = 32 := by
  have h1 := words_cons h
  have h2 : (bl x).length < (bl s).length := by rw [h1]; simp
  refine ⟨(bl x).length, h2, (bl_32 h2).2 ?_⟩
  simp [h1]
theorem words_in {s : ByteArray} : ∀ w ∈ words s, w.size ≤ s.size := by
  have key : ∀ l : List UInt8, ∀ w ∈ spl l, w.length ≤ l.length := by
    intro l
    induction l with
    | nil => intro w hw; simp [spl] at hw; subst hw; simp
    | cons c l ih =>
      intro w hw
      by_cases h : c = 32
      · rw [spl, if_pos h] at hw
        rcases List.mem_cons.1 hw with rfl | hw
        · simp
        · have := ih w hw; simp; omega
      · obtain ⟨v, vs, h1, h2⟩ := spl_cons h l
        rw [h2] at hw
        rcases List.mem_cons.1 hw with rfl | hw
        · have := ih v (by rw [h1]; simp); simp; omega
        · have := ih w (by rw [h1]; exact List.mem_cons_of_mem _ hw); simp; omega
  intro w hw
  obtain ⟨l, hl, rfl⟩ := List.mem_map.1 hw
  rw [bsT_size]
  exact key _ l hl
def strV : Value → Nat
  | .string s => s.size
  | _ => 0
set_option maxHeartbeats 4000000 in
set_option maxRecDepth 100000 in
theorem c_impl_parts (s : ByteArray) (w : World) (hs : s.size ≤ 10000000) :
    Calls Tryz.prog 102 #[.string s] w fun e w' => ∃ u, e = .returned u ∧ OwnT w.heap.size w'.heap.size w' u (words s) ∧ Below w.heap.size w w' := by
  go_enter Tryz.func102, Tryz.ntmps102
  go_wp2
  go_loopw [0, 3] (fun t o wr => ∃ (t' : ByteArray) (D : List ByteArray), t = .string t' ∧ D.length + t'.size ≤ s.size ∧ Hid (words s = D ++ words t') ∧ OwnT w.heap.size wr.heap.size wr o D ∧ Below w.heap.size w wr) (fun t _ _ => strV t)
  case atStart => exact ⟨s, [], rfl, by simp, rfl, (OwnRow.made rfl rfl (Nat.le_refl _)).tight, by (repeat (first | (with_reducible assumption) | (with_reducible exact Below.refl _ _) | (with_reducible refine Below.setCell ?_ (by first | (simp; done) | (simp; omega)) _) | (with_reducible refine Below.al ?_ _) | (with_reducible refine Below.dr ?_) | (with_reducible refine Below.drN ?_ _) | (with_reducible refine Below.tr ?_ (by with_reducible assumption))))⟩
  case round =>
    obtain ⟨t, D, rfl, hD, HW, ho, hb⟩ := hrel
    have hbs := hb.size
    go_wp2_with fail
    refine (c_impl_cut t _ (by omega)).mono ?_; rintro e w5 ⟨k, hk, hn, hh, hb5⟩
    have HN := Lib.hid hn
    clear hn
    have ho5 := ho.below hb5
    have hs5 := hb5.size
    have hDl : D.length < 1000000000 := by omega
    rcases hh with ⟨hkl, hc, rfl⟩ | ⟨rfl, rfl⟩
    · have HC := Lib.hid (words_cut hkl hc HN.out)
      have HZ := Lib.hid (ext_size t (k + 1) t.size (Nat.le_refl _))
      have HX : Hid (strV (.string t) = t.size) := rfl
      have HY : Hid (strV (.string (t.extract (k + 1) t.size)) = t.size - (k + 1)) := HZ.out
      obtain ⟨a1, ha1⟩ : ∃ a1, t.extract 0 k = a1 := ⟨_, rfl⟩
      obtain ⟨a2, ha2⟩ : ∃ a2, t.extract (k + 1) t.size = a2 := ⟨_, rfl⟩
      rw [ha1, ha2] at HC ⊢
      rw [ha2] at HZ HY
      clear ha1 ha2
      go_wp2_with (at_builtin; refine push_row (row := rowT) rfl _ _ _ _ rfl Tryz.underlying29 (.string ⟨#[]⟩) 16 infoTx rfl (by decide) (by decide) rowT_len w.heap.size _ _ _ a1 #[.string a1] _ rfl (rowT_ones _) rfl rfl (by exact ho5) hDl (by omega) ?_; intro v' w6 hown6 hbel6 hs6)
      go_roundw
      case rel => exact ⟨a2, D ++ [a1], rfl, by rw [HZ.out]; simp; omega, by rw [HW.out, HC.out]; simp [Hid], hown6, hbel6 _ (hb.tr hb5)⟩
      case measure => rw [HX.out, HY.out]; omega
    · have HC := Lib.hid (words_end HN.out)
      go_wp2_with (at_builtin; refine push_row (row := rowT) rfl _ _ _ _ rfl Tryz.underlying29 (.string ⟨#[]⟩) 16 infoTx rfl (by decide) (by decide) rowT_len w.heap.size _ _ _ t #[.string t] _ rfl (rowT_ones _) rfl rfl (by exact ho5) hDl (by omega) ?_; intro v' w6 hown6 hbel6 hs6)
      go_ret
      exact ⟨_, rfl, by rw [HW.out, HC.out]; exact hown6, hbel6 _ (hb.tr hb5)⟩
set_option maxHeartbeats 4000000 in
set_option maxRecDepth 100000 in
theorem c_spec_l01Split (s : ByteArray) (w : World) (hs : s.size ≤ 10000000) :
    Calls Tryz.prog 152 #[.string s, .int .u8 32] w fun e w' => ∃ u, e = .returned u ∧ OwnT w.heap.size w'.heap.size w' u (words s) ∧ Below w.heap.size w w' := by
  go_enter Tryz.func152, Tryz.ntmps152
  go_wp2
  go_loopw [5, 6, 7] (fun o f i wr => ∃ (D : List ByteArray) (q k : Nat), f = .int .i64 q ∧ i = .int .i64 k ∧ q ≤ k ∧ k ≤ s.size ∧ D.length ≤ k ∧ Hid (words s = D ++ words (s.extract q s.size)) ∧ Hid (∀ j, q ≤ j → j < k → chr s j ≠ 32) ∧ OwnT w.heap.size wr.heap.size wr o D ∧ Below w.heap.size w wr) (fun _ _ i _ => s.size - (intOf i).toNat)
  case atStart => exact ⟨[], 0, 0, by go_num, by go_num, by omega, by omega, by simp, by rw [ext_all]; rfl, fun j _ h => by omega, (OwnRow.made rfl rfl (Nat.le_refl _)).tight, by (repeat (first | (with_reducible assumption) | (with_reducible exact Below.refl _ _) | (with_reducible refine Below.setCell ?_ (by first | (simp; done) | (simp; omega)) _) | (with_reducible refine Below.al ?_ _) | (with_reducible refine Below.dr ?_) | (with_reducible refine Below.drN ?_ _) | (with_reducible refine Below.tr ?_ (by with_reducible assumption))))⟩
  case round =>
    obtain ⟨D, q, k, rfl, rfl, hqk, hk, hD, HW, HN, ho, hb⟩ := hrel
    have hbs := hb.size
    have hDl : D.length < 1000000000 := by omega
    by_cases hlt : k < s.size
    · have hin0 : (0 : Int) ≤ (k : Int) := by omega
      have hin1 : (k : Int) < (s.size : Int) := by omega
      have hcd := chr_bd s k
      have hix : ∀ w', (Instr.index 9 (.string s) (.int .i64 (k : Int))).run Tryz.prog w' = .ok (.int .u8 (chr s k)) w' := fun w' => by
        rw [run_index_string _ _ _ _ _ Tryz.underlying9, dif_pos ⟨hin0, hin1⟩]
        congr 2
        exact chr_at (s := s) (i := k) hlt
      have hsl : ∀ w', (Instr.slice 9 (.string s) (some (.int .i64 (q : Int))) (some (.int .i64 (k : Int))) none).run Tryz.prog w' = .ok (.string (s.extract q k)) w' := fun w' => by
        rw [run_slice_string_if (h := Tryz.underlying9), if_pos (by omega), if_pos (by omega)]
        congr 3
      by_cases hc : chr s k = 32
      · have HC := Lib.hid (words_from hqk hlt hc HN.out)
        rw [hc] at hix
        clear hc
        obtain ⟨a1, ha1⟩ : ∃ a1, s.extract q k = a1 := ⟨_, rfl⟩
        rw [ha1] at HC hsl
        clear ha1
        go_wp2_with (first | ((rw [hix _])) | ((rw [hsl _])) | (at_builtin; refine push_row (row := rowT) rfl _ _ _ _ rfl Tryz.underlying29 (.string ⟨#[]⟩) 16 infoTx rfl (by decide) (by decide) rowT_len w.heap.size _ _ _ a1 #[.string a1] _ rfl (rowT_ones _) rfl rfl (by exact ho) hDl (by omega) ?_; intro v' w6 hown6 hbel6 hs6))
        go_roundw
        case rel => exact ⟨D ++ [a1], k + 1, k + 1, by go_num, by go_num, by omega, by omega, by simp; omega, by rw [HW.out, HC.out]; simp [Hid], fun j h1 h2 => by omega, hown6, hbel6 _ hb⟩
        case measure => simp [intOf]; omega
      · have HC := Lib.hid hc
        have tc : (chr s k == 32) = false := beq_eq_false_iff_ne.2 hc
        obtain ⟨c, hcc⟩ : ∃ c, Hid (chr s k = c) := ⟨_, Lib.hid rfl⟩
        rw [hcc.out] at hix hcd tc
        clear hc
        go_wp2_with (first | ((rw [hix _])))
        go_roundw
        case rel => exact ⟨D, q, k + 1, rfl, by go_num, by omega, by omega, by omega, HW, (fun j h1 h2 => by
          by_cases e : j = k
          · subst e; exact HC.out
          · exact HN.out j h1 (by omega)), ho, hb⟩
        case measure => simp [intOf]; omega
    · obtain rfl : k = s.size := by omega
      have HC := Lib.hid (words_last HN.out)
      have hsl : ∀ w', (Instr.slice 9 (.string s) (some (.int .i64 (q : Int))) none none).run Tryz.prog w' = .ok (.string (s.extract q s.size)) w' := fun w' => by
        rw [run_slice_string_from_if (h := Tryz.underlying9), if_pos (by omega)]
        congr 3
      obtain ⟨a1, ha1⟩ : ∃ a1, s.extract q s.size = a1 := ⟨_, rfl⟩
      rw [ha1] at HC hsl HW
      clear ha1
      go_wp2_with (first | ((rw [hsl _])) | (at_builtin; refine push_row (row := rowT) rfl _ _ _ _ rfl Tryz.underlying29 (.string ⟨#[]⟩) 16 infoTx rfl (by decide) (by decide) rowT_len w.heap.size _ _ _ a1 #[.string a1] _ rfl (rowT_ones _) rfl rfl (by exact ho) hDl (by omega) ?_; intro v' w6 hown6 hbel6 hs6))
      go_ret
      exact ⟨_, rfl, by rw [HW.out, HC.out]; exact hown6, hbel6 _ hb⟩
theorem after_yes {s p : ByteArray} (hn : p.size + 1 ≤ s.size) (hp : ∀ c ∈ bl p, c ≠ 32) (h : ((s.extract 0 (p.size + 1)).toList == (p ++ ⟨#[32]⟩).toList) = true) : words s = p :: words (s.extract (p.size + 1) s.size) := by
  rw [ByteArray.toList_eq, ByteArray.toList_eq, beq_iff_eq] at h
  have h1 : bl (s.extract 0 (p.size + 1)) = bl p ++ [32] := by
    have h0 : bl (s.extract 0 (p.size + 1)) = bl (p ++ ⟨#[32]⟩) := h
    rw [h0, bl_app]; rfl
  rw [bl_ext, List.drop_zero] at h1
  have h2 : bl s = bl p ++ 32 :: bl (s.extract (p.size + 1) s.size) := by
    rw [bl_ext, show s.size = (bl s).length from rfl, List.take_length]
    conv => lhs; rw [← List.take_append_drop (p.size + 1) (bl s), h1]
    simp
  unfold words
  rw [h2, spl_cut hp, List.map_cons, bsT_bl]
theorem after_no {s p : ByteArray} (h : p.size + 1 ≤ s.size → ((s.extract 0 (p.size + 1)).toList == (p ++ ⟨#[32]⟩).toList) = false) : ∀ x ws, words s ≠ p :: x :: ws := by
  intro x ws hw
  have h1 := words_cons hw
  have h2 : p.size + 1 ≤ s.size := by rw [← bl_len s, h1, ← bl_len p]; simp
  have h3 := h h2
  rw [ByteArray.toList_eq, ByteArray.toList_eq, beq_eq_false_iff_ne] at h3
  apply h3
  show bl (s.extract 0 (p.size + 1)) = bl (p ++ ⟨#[32]⟩)
  rw [bl_ext, bl_app, h1, List.drop_zero, ← bl_len p]
  rw [show bl (⟨#[32]⟩ : ByteArray) = [32] from rfl]
  rw [List.take_append]
  simp
  exact List.take_of_length_le (by omega)
def AfterP (s p : ByteArray) (w : World) (e : Ending) (w' : World) : Prop := ∃ (t : ByteArray) (b : Bool), e = .returned (.tuple #[.string t, .bool b]) ∧ (b = true → words s = p :: words t ∧ t.size ≤ s.size) ∧ (b = false → t = ⟨#[]⟩ ∧ ∀ x ws, words s ≠ p :: x :: ws) ∧ w = w'
set_option maxHeartbeats 4000000 in
set_option maxRecDepth 100000 in
theorem c_spec_l27After (s p : ByteArray) (w : World) (hs : s.size ≤ 10000000) (hps : p.size ≤ 20) (hp : ∀ c ∈ bl p, c ≠ 32) :
    Calls Tryz.prog 96 #[.string s, .string p] w fun e w' => AfterP s p w e w' := by
  have HY := Lib.hid (fun h1 h2 => after_yes (s := s) (p := p) h1 hp h2)
  have HN := Lib.hid (fun h => after_no (s := s) (p := p) h)
  clear hp
  go_enter Tryz.func96, Tryz.ntmps96
  by_cases hlt : p.size + 1 ≤ s.size
  · have hlI : ¬ (s.size : Int) < (p.size : Int) + 1 := by omega
    have hs1 : ∀ w', (Instr.slice 9 (.string s) none (some (.int .i64 ((p.size : Int) + 1))) none).run Tryz.prog w' = .ok (.string (s.extract 0 (p.size + 1))) w' := fun w' => by
      rw [run_slice_string_to_if (h := Tryz.underlying9), if_pos (by omega)]
      congr 3
    have hs2 : ∀ w', (Instr.slice 9 (.string s) (some (.int .i64 ((p.size : Int) + 1))) none none).run Tryz.prog w' = .ok (.string (s.extract (p.size + 1) s.size)) w' := fun w' => by
      rw [run_slice_string_from_if (h := Tryz.underlying9), if_pos (by omega)]
      congr 3
    have HZ := Lib.hid (ext_size s (p.size + 1) s.size (Nat.le_refl _))
    cases hb : ((s.extract 0 (p.size + 1)).toList == (p ++ ⟨#[32]⟩).toList)
    · have HR := Lib.hid (HN.out (fun _ => hb))
      go_wp2_with (first | ((rw [hs1 _])))
      go_ret2
      exact ⟨⟨#[]⟩, false, rfl, by simp, fun _ => ⟨rfl, HR.out⟩, rfl⟩
    · have HR := Lib.hid (HY.out hlt hb)
      go_wp2_with (first | ((rw [hs1 _])) | ((rw [hs2 _])))
      go_ret2
      exact ⟨s.extract (p.size + 1) s.size, true, rfl, fun _ => ⟨HR.out, by rw [HZ.out]; omega⟩, by simp, rfl⟩
  · have hlI : (s.size : Int) < (p.size : Int) + 1 := by omega
    have HR := Lib.hid (HN.out (fun h => absurd h hlt))
    go_wp2
    go_ret2
    exact ⟨⟨#[]⟩, false, rfl, by simp, fun _ => ⟨rfl, HR.out⟩, rfl⟩
end Go.Proofs.YtioemkdapoombaaGreatDoor
end
