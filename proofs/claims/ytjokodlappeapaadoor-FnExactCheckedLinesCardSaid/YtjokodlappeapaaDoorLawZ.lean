/- The laws' helpers on arguments that are slices of strings: how they read, sizes, copies. -/
import Derived.Test.YtjokodlappeapaaDoorLawT
import Derived.Test.YtjokodlappeapaaDoorArgsF
import Derived.Test.YtjokodlappeapaaDoorMemC
import Derived.Test.YtjokodlappeapaaDoorLawG
namespace Go.Proofs.YtjokodlappeapaaDoor
open Go.ChangeShapes Go.WideShapes Go.ChangeAt Go.RowKit
set_option linter.unusedSimpArgs false
set_option linter.unusedVariables false
section
variable {H : Type} {enc : TypeId × Value → H} {W : World} {base : Nat} {v : Value} {d : DataW H} {p : List MemPlace}
theorem cells_string : Tryd.prog.cellsOf 9 = 1 := by kernel_rfl
theorem text_of {n : Nat} {cs : List Value} {y : DataW H × List MemPlace} (h : DataW.trod enc Tryd.prog W 0 (fun _ => true) true n 9 cs = some y) : ∃ a : ByteArray, cs = rowT a ∧ a.size ≤ maxLen := by
  obtain ⟨s, rfl, -, hm⟩ := DataW.trod_string Tryd.underlying9 h
  exact ⟨s, rfl, hm⟩
def Arg_texts (w : World) (v : Value) : Prop := ∃ X : List ByteArray, RdRow 1 rowT w v X ∧ ∀ s ∈ X, s.size ≤ maxLen
set_option maxRecDepth 100000 in
theorem open_texts (hv : Value.okWide Tryd.prog W .any base 22 v) (h : DataW.Trod enc Tryd.prog W 0 (fun _ => true) true 22 v d p) : Arg_texts W v := by
  obtain ⟨a0, len, cap, rfl⟩ := okWide_slice Tryd.underlying22 hv
  obtain ⟨fuel, hf⟩ := h
  exact rows_of (row := rowT) (Q := fun s => s.size ≤ maxLen) Tryd.underlying22 cells_string (by decide) rowT_len (fun n cs y hl h => text_of h) hf
end
def sumZ (X : List ByteArray) : Nat := (X.map (fun s => s.size)).sum
theorem sumZ_snoc (X : List ByteArray) (k : Nat) (hk : k < X.length) : sumZ (X.take (k + 1)) = sumZ (X.take k) + (X[k]).size := by
  unfold sumZ; rw [List.take_add_one, List.getElem?_eq_getElem hk, List.map_append, List.sum_append]; simp
theorem sumZ_le (X : List ByteArray) (k : Nat) : sumZ (X.take k) ≤ sumZ X := by
  conv => rhs; rw [← List.take_append_drop k X]
  unfold sumZ; rw [List.map_append, List.sum_append]; omega
theorem sumZ_mem : ∀ {X : List ByteArray} {s : ByteArray}, s ∈ X → s.size ≤ sumZ X
  | x :: X, s, h => by
    unfold sumZ
    rw [List.map_cons, List.sum_cons]
    rcases List.mem_cons.1 h with rfl | h
    · omega
    · have := sumZ_mem h
      unfold sumZ at this
      omega
set_option maxHeartbeats 1000000 in
theorem c_laws_szStringS (X : List ByteArray) (left : Int) (v : Value) (w : World) (h : RdRow 1 rowT w v X) (hz : ∀ s ∈ X, s.size ≤ maxLen) (h0 : 0 ≤ left ∧ left ≤ 1048576) :
    Calls Tryd.prog 9 #[v, .int .i64 left] w fun e w' => e = .returned (.int .i64 (szLeftG left ((X.length + sumZ X : Nat) : Int))) ∧ w = w' := by
  have HR := Lib.hid h
  obtain ⟨a1, cap1, rfl, hl1, hc1⟩ := h
  have HZ := Lib.hid hz
  clear hc1 hz
  by_cases hneg : left - (X.length : Int) < 0
  · have HN : Hid (szLeftG left ((X.length + sumZ X : Nat) : Int) = -1) := if_pos (by omega)
    go_enter Tryd.func9, Tryd.ntmps9
    go_wp2
    go_ret
    exact ⟨by rw [HN.out]; rfl, rfl⟩
  · have HSN := Lib.hid (fun k hk => sumZ_snoc X k hk)
    have HSL := Lib.hid (sumZ_le X)
    go_enter Tryd.func9, Tryd.ntmps9
    go_wp2
    go_loopw [1, 5] (fun l i wr => ∃ k : Nat, k ≤ X.length ∧ i = .int .i64 k ∧ l = .int .i64 (left - X.length - sumZ (X.take k)) ∧ 0 ≤ left - X.length - sumZ (X.take k) ∧ w = wr) (fun _ i _ => X.length - (intOf i).toNat)
    case atStart => exact ⟨0, by omega, rfl, by simp [sumZ], by simp [sumZ]; omega, by trivial⟩
    case round =>
      obtain ⟨k, hk, rfl, rfl, hp, rfl⟩ := hrel
      by_cases hlt : k < X.length
      · obtain ⟨b1, o1, rfl, hx⟩ := rdT_at HR.out k hlt
        have hsn := HSN.out k hlt
        have hsl := HSL.out (k + 1)
        have hxz := HZ.out _ (List.getElem_mem hlt)
        unfold maxLen at hxz
        obtain ⟨s, Hs⟩ : ∃ s, X[k] = s := ⟨_, rfl⟩
        rw [Hs] at hx hsn hxz
        clear Hs
        generalize hs0 : sumZ (X.take k) = s0 at *
        generalize hs1 : sumZ (X.take (k + 1)) = s1 at *
        have HS1 := Lib.hid hs1
        clear hs0 hs1
        by_cases hn2 : left - (X.length : Int) - (s0 : Int) - (s.size : Int) < 0
        · have HN : Hid (szLeftG left ((X.length + sumZ X : Nat) : Int) = -1) := if_pos (by omega)
          go_wp2
          go_ret
          exact ⟨by rw [HN.out]; rfl, rfl⟩
        · go_wp2
          go_roundw
          case rel => exact ⟨k + 1, by omega, by go_num, by rw [HS1.out, hsn]; congr 1; omega, by rw [HS1.out]; omega, by trivial⟩
          case measure => simp [intOf]; omega
      · obtain rfl : k = X.length := by omega
        rw [List.take_length] at hp
        rw [List.take_length]
        have HN : Hid (szLeftG left ((X.length + sumZ X : Nat) : Int) = left - X.length - sumZ X) := by
          unfold Hid szLeftG
          rw [if_neg (by omega)]
          omega
        go_wp2
        go_ret
        exact ⟨by rw [HN.out]; rfl, rfl⟩
def noT : ByteArray := ⟨#[]⟩
def fillT (X : List ByteArray) (k : Nat) : List ByteArray := X.take k ++ List.replicate (X.length - k) noT
theorem fillT_zero (X : List ByteArray) : fillT X 0 = List.replicate X.length noT := by simp [fillT]
theorem fillT_all (X : List ByteArray) : fillT X X.length = X := by simp [fillT]
theorem fillT_len (X : List ByteArray) (k : Nat) (hk : k ≤ X.length) : (fillT X k).length = X.length := by simp [fillT]; omega
theorem fillT_set (X : List ByteArray) (k : Nat) (hk : k < X.length) : ((fillT X k).flatMap rowT).set k (.string X[k]) = (fillT X (k + 1)).flatMap rowT := by
  unfold fillT
  have e1 : List.replicate (X.length - k) noT = noT :: List.replicate (X.length - (k + 1)) noT := by
    rw [show X.length - k = X.length - (k + 1) + 1 by omega, List.replicate_succ]
  have e2 : X.take (k + 1) = X.take k ++ [X[k]] := by rw [List.take_add_one, List.getElem?_eq_getElem hk]; rfl
  rw [e1, e2, List.flatMap_append, List.flatMap_append, List.flatMap_append, List.flatMap_cons]
  have hp : ((X.take k).flatMap rowT).length = k := by rw [flat_len rowT_len, List.length_take]; omega
  rw [List.set_append_right _ _ (by omega), hp, Nat.sub_self]
  simp [rowT]
theorem infoTz : (Tryd.prog.info? 9).map (fun i => (i.zero, i.size, i.bytes)) = some (some (.string noT), 1, 16) := by kernel_rfl
theorem make_texts {P : Program} {ops : Array Oper} {rest : List Oper} {o : Oper} {a : Act} {Q : Exit → Act → World → Prop} (hgd : o.guard = none) (x y : Operand) (t e : TypeId)
    (ho : o.op = .makeSlice t x y) (ht : P.underlying t = some (.slice e)) (hinfo : (P.info? e).map (fun i => (i.zero, i.size, i.bytes)) = some (some (.string noT), 1, 16))
    (B : Nat) (w0 : World) (kx ky : IntKind) (L C : Int) (n : Nat) (hx : a.eval x = .int kx L) (hy : a.eval y = .int ky C) (hL : L = (n : Int)) (hC : C = (n : Int)) (hn : n ≤ 1000000000) (hB : B ≤ w0.heap.size)
    (h : ∀ w', w'.ownsRow B e 1 (.slice (some ⟨w0.heap.size, 0, none⟩) n n) n ((List.replicate n noT).flatMap rowT) → (∀ A, Below B A w0 → Below B A w') → w0.heap.size < w'.heap.size → wpList P ops Q rest (a.put o.dst (.slice (some ⟨w0.heap.size, 0, none⟩) n n)) w') :
    wpList P ops Q (o :: rest) a w0 := by
  obtain ⟨i0, hi, hz0, hz1, hz2⟩ := info_parts hinfo
  refine wpList_make_full w0 hgd x y t ho B e i0 (.string noT) 1 ht hi hz0 hz1 kx ky L C n hx hy hL hC (by rw [hz2]; omega) (by unfold maxLen; omega) hB fun w' ho' hg => ?_
  refine h w' ?_ (fun A hA => hA.grown hg hB (fun k hk => by cases hk)) (World.ownsRow.lt ho' _ rfl).2
  have e1 : (madeCells (Value.cells (.string noT)) (n * 1)).toList = (List.replicate n noT).flatMap rowT := by
    rw [Nat.mul_one]
    simp [Value.cells, toList_madeCells_one]
    apply List.ext_getElem?
    intro i
    by_cases hi : i < n
    · have := flat_get (row := rowT) rowT_len (List.replicate n noT) i 0 (by simpa using hi) (by decide)
      rw [Nat.mul_one, Nat.add_zero] at this
      rw [this]
      simp [rowT, hi]
    · rw [List.getElem?_eq_none (by simp; omega), List.getElem?_eq_none (by rw [flat_len rowT_len]; simp; omega)]
  rw [← e1]; exact ho'
set_option maxHeartbeats 1000000 in
theorem c_laws_toStringS (X : List ByteArray) (v : Value) (w : World) (h : RdRow 1 rowT w v X) (hn : X.length + sumZ X ≤ 1048576) :
    Calls Tryd.prog 11 #[v] w fun e w' => ∃ u, e = .returned u ∧ OwnT w.heap.size w'.heap.size w' u X ∧ Below w.heap.size w w' := by
  have HR := Lib.hid h
  obtain ⟨a1, cap1, rfl, hl1, hc1⟩ := h
  clear hc1
  go_enter Tryd.func11, Tryd.ntmps11
  go_wp2_with (at_make; refine make_texts rfl _ _ _ _ rfl Tryd.underlying22 infoTz w.heap.size _ _ _ _ _ X.length rfl rfl rfl rfl (by omega) (Nat.le_refl _) ?_; intro w1 hown hbel hsz)
  have hb1 := hbel w (Below.refl _ _)
  clear hbel hn hsz
  rw [← fillT_zero] at hown
  have HF := Lib.hid (fillT_all X)
  go_loopw [4] (fun i wr => ∃ k : Nat, k ≤ X.length ∧ i = .int .i64 k ∧ wr.ownsRow w.heap.size 9 1 (.slice (some ⟨w.heap.size, 0, none⟩) X.length X.length) X.length ((fillT X k).flatMap rowT) ∧ Below w.heap.size w wr) (fun i _ => X.length - (intOf i).toNat)
  case atStart => exact ⟨0, by omega, rfl, hown, hb1⟩
  case round =>
    clear hown hb1
    obtain ⟨k, hk, rfl, hown, hb⟩ := hrel
    by_cases hlt : k < X.length
    · obtain ⟨b1, o1, rfl, hx⟩ := rdT_at HR.out k hlt
      have hx' := keepc hb hx
      have HFL := Lib.hid (fillT_len X k hk)
      have HFS := Lib.hid (fillT_set X k hlt)
      have hA : OwnT w.heap.size wr.heap.size wr (.slice (some ⟨w.heap.size, 0, none⟩) X.length X.length) (fillT X k) := ⟨by rw [HFL.out]; exact hown, fun q hq => (World.ownsRow.lt hown q hq).2⟩
      obtain ⟨⟨old0, k0⟩, f0⟩ := OwnRow.at rowT_len hA k 0 (by rw [HFL.out]; exact hlt) (by decide)
      rw [Nat.add_zero, Nat.mul_one] at k0 f0
      have s1 := World.ownsRow.stored hown k (.string X[k])
      have s4 := s1.1
      rw [HFS.out] at s4
      have HS := Lib.hid s4
      have HG := Lib.hid s1.2
      obtain ⟨s, Hs⟩ : ∃ s, X[k] = s := ⟨_, rfl⟩
      rw [Hs] at hx' HS HG
      clear s1 s4 hA hown hx HFS HFL Hs
      go_wp2
      go_roundw
      case rel => exact ⟨k + 1, by omega, by go_num, HS.out, hb.grown HG.out (by have := hb.size; omega) (fun j hj => by simp only [Value.ownBlock, Option.some.injEq] at hj; omega)⟩
      case measure => simp [intOf]; omega
    · obtain rfl : k = X.length := by omega
      rw [HF.out] at hown
      go_wp2
      go_ret
      exact ⟨_, rfl, ⟨hown, fun q hq => (World.ownsRow.lt hown q hq).2⟩, hb⟩
end Go.Proofs.YtjokodlappeapaaDoor
