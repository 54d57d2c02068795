/- Contracts on tables of patterns: the program's table. -/
import Derived.Test.YtjokodlappeapaaDoorTab
import Derived.Test.YtjokodlappeapaaDoorBest
import Derived.Test.YtjokodlappeapaaDoorShort
namespace Go.Proofs.YtjokodlappeapaaDoor
open Go.ChangeShapes Go.WideShapes Go.ChangeAt Go.RowKit
set_option linter.unusedVariables false
set_option linter.unusedSimpArgs false
abbrev OwnGT (lo hi : Nat) (w : World) (v : Value) (X : List (List Int)) : Prop := OwnG 34 2 lo hi w v X
/-- the states of the first k patterns -/
def fstTo (X : List (List Int)) (h : Int) (k : Nat) : List Int := (List.range k).map fun i => stM (X.getD i []) 0 h
def fstL (X : List (List Int)) (h : Int) : List Int := fstTo X h X.length
theorem fstTo_len (X : List (List Int)) (h : Int) (k : Nat) : (fstTo X h k).length = k := by simp [fstTo]
theorem fstTo_succ (X : List (List Int)) (h : Int) (k : Nat) : fstTo X h (k + 1) = fstTo X h k ++ [stM (X.getD k []) 0 h] := by simp [fstTo, List.range_succ]
theorem fstL_len (X : List (List Int)) (h : Int) : (fstL X h).length = X.length := fstTo_len _ _ _
theorem fstL_at {X : List (List Int)} {h : Int} {k : Nat} (hk : k < X.length) : (fstL X h).getD k 0 = stM (X.getD k []) 0 h := by simp [fstL, fstTo, List.getD, hk]
/-- the distances of some states among one another, row by row -/
noncomputable def rowTo (h : Int) (S : List Int) (i k : Nat) : List Int := (S.take k).map fun t => farM h (S.getD i 0) t
noncomputable def amongTo (h : Int) (S : List Int) (k : Nat) : List (List Int) := (List.range k).map fun i => rowTo h S i S.length
noncomputable def amongL (h : Int) (S : List Int) : List (List Int) := amongTo h S S.length
theorem rowTo_succ {h : Int} {S : List Int} {i k : Nat} (hk : k < S.length) : rowTo h S i (k + 1) = rowTo h S i k ++ [farM h (S.getD i 0) (S.getD k 0)] := by
  unfold rowTo
  rw [take_snoc _ _ hk, List.map_append]
  simp [List.getD, hk]
theorem rowTo_len (h : Int) (S : List Int) (i k : Nat) : (rowTo h S i k).length ≤ k := by
  unfold rowTo
  rw [List.length_map, List.length_take]
  omega
theorem amongTo_succ (h : Int) (S : List Int) (k : Nat) : amongTo h S (k + 1) = amongTo h S k ++ [rowTo h S k S.length] := by simp [amongTo, List.range_succ]
theorem amongTo_len (h : Int) (S : List Int) (k : Nat) : (amongTo h S k).length = k := by simp [amongTo]
noncomputable def tabL (X : List (List Int)) (h : Int) : List (List Int) := amongL h (fstL X h)
set_option maxHeartbeats 1000000 in
theorem c_impl_firstStates (X : List (List Int)) (h : Int) (v : Value) (w : World) (hr : RdG w v X) (hc : tabC X h = 0) :
    Calls Tryd.prog 88 #[v, .int .i64 h] w fun e w' => ∃ u, e = .returned u ∧ OwnS w.heap.size w'.heap.size h w' u (fstL X h) ∧ Below w.heap.size w w' := by
  obtain ⟨hh, hl8, hall⟩ := tab_ok hc
  have HV := Lib.hid (fun k hk => (hall k hk).1)
  obtain ⟨a1, cap1, rfl, hl1, hc1⟩ := hr
  have HC := Lib.hid hc1
  clear hc1 hall
  go_enter Tryd.func88, Tryd.ntmps88
  go_wp2
  go_loopw [5, 11] (fun u i wr => ∃ k : Nat, k ≤ X.length ∧ i = .int .i64 k ∧ OwnS w.heap.size wr.heap.size h wr u (fstTo X h k) ∧ Below w.heap.size w wr) (fun _ i _ => X.length - (intOf i).toNat)
  case atStart => exact ⟨0, by omega, rfl, (OwnRow.made rfl rfl (Nat.le_refl _)).tight, by (repeat (first | (with_reducible assumption) | (with_reducible exact Below.refl _ _) | (with_reducible refine Below.setCell ?_ (by first | (simp; done) | (simp; omega)) _) | (with_reducible refine Below.al ?_ _) | (with_reducible refine Below.dr ?_) | (with_reducible refine Below.drN ?_ _) | (with_reducible refine Below.tr ?_ (by with_reducible assumption))))⟩
  case round =>
    obtain ⟨k, hk, rfl, hown, hb0⟩ := hrel
    have hsl := fstTo_len X h k
    have hs0 := hb0.size
    by_cases hlt : k < X.length
    · obtain ⟨b1, o1, u1, rfl, hx, hu⟩ := HC.out k hlt
      have hx' := keepc hb0 hx
      have huu := Lib.hid (hu.below hb0)
      have HM := Lib.hid (fstTo_succ X h k)
      have HVk := Lib.hid (HV.out k hlt)
      have hll : (fstTo X h k).length < 1000000000 := by omega
      clear hsl hx hu
      obtain ⟨p, Hp⟩ : ∃ p, Hid (X.getD k [] = p) := ⟨_, rfl⟩
      rw [Hp.out] at huu HM HVk
      go_wp2_with fail
      refine (c_impl_stateOf p 0 h _ _ huu.out HVk.out (by omega) hh).mono ?_; rintro e w2 ⟨rfl, hb2⟩
      have hown2 := hown.below hb2
      have hs2 := hb2.size
      have B2 := hb0.tr hb2
      go_wp2_with (at_builtin; refine push_row (row := rowS h) rfl _ _ _ _ rfl Tryd.underlying102 (.agg #[.int .i64 0, .int .i64 0]) 16 infoS rfl (by decide) (by decide) (rowS_len h) w.heap.size _ _ _ (stM p 0 h) #[.int .i64 h, .int .i64 (stM p 0 h)] _ rfl (rowS_one h _) rfl rfl (by exact hown2) hll (by omega) ?_; intro v' w3 hown3 hb3 hs3)
      go_roundw
      case rel => exact ⟨k + 1, by omega, by go_num, by rw [HM.out]; exact hown3, hb3 _ B2⟩
      case measure => simp [intOf]; omega
    · obtain rfl : k = X.length := by omega
      have HK : Hid (fstTo X h X.length = fstL X h) := rfl
      go_wp2
      go_ret
      exact ⟨_, rfl, by rw [← HK.out]; exact hown, hb0⟩
end Go.Proofs.YtjokodlappeapaaDoor
