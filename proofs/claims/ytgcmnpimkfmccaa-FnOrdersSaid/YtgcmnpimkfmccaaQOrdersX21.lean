/- The law OrdersX: what it rests on, part 21 of 48. -/
import Derived.Deep.RegionHeld3
import Derived.Test.YtgcmnpimkfmccaaRows
import Derived.ProofKit
import Derived.OpenShut
import Derived.ChangeOld
import Derived.Lib.SmallJoins
import Derived.Laws.ResultCell
import Derived.Deep.Slices
import Derived.Test.YtgcmnpimkfmccaaQOrdersX01
import Derived.Test.YtgcmnpimkfmccaaQOrdersX02
import Derived.Test.YtgcmnpimkfmccaaQOrdersX04
import Derived.BigQuiet
import Derived.Test.YtgcmnpimkfmccaaQOrdersX20
import Derived.Test.YtgcmnpimkfmccaaQOrdersX19
import Derived.Test.YtgcmnpimkfmccaaQOrdersX16
import Derived.Test.YtgcmnpimkfmccaaQOrdersX05
import Derived.Deep.QuietTactic
section
section
set_option linter.unusedVariables false
namespace Go.Proofs.Ytgcmnpimkfmccaa
open Go.ChangeShapes Go.WideShapes Go.ChangeAt Go.RowKit
section
variable {H : Type} {enc : TypeId × Value → H} {W : World} {base : Nat} {v : Value} {d : DataW H} {p : List MemPlace}
end
end Go.Proofs.Ytgcmnpimkfmccaa
end
section
set_option linter.unusedVariables false
namespace Go.Proofs.Ytgcmnpimkfmccaa
open Go.ChangeShapes Go.WideShapes Go.ChangeAt Go.RowKit
set_option linter.unusedSimpArgs false
abbrev OwnGG (lo hi : Nat) (w : World) (v : Value) (X : List (List Int)) : Prop := OwnG 28 2 lo hi w v X
theorem infoG1 : (Try.prog.info? 28).map (fun i => (i.zero, i.size, i.bytes)) = some (some (.slice none 0 0), 1, 24) := by kernel_rfl
end Go.Proofs.Ytgcmnpimkfmccaa
end
end
section
namespace Go.Proofs.Ytgcmnpimkfmccaa
open Go.ChangeShapes Go.WideShapes Go.ChangeAt Go.RowKit
set_option linter.unusedVariables false
set_option linter.unusedSimpArgs false
theorem quiet_p {P : Program} {f : FuncId} {args : Array Value} {w : World} {n : Nat} {v : Value} (h : Calls P f args (w.drewN n) fun e w' => e = .returned v ∧ w.drewN n = w') : Calls P f args (w.drewN n) fun e w'' => e = .returned v ∧ ∃ m, w'' = w.drewN m :=
  Calls.quiet_of_same (h.mono fun _ _ ⟨h1, h2⟩ => ⟨h1, h2.symm⟩)
end Go.Proofs.Ytgcmnpimkfmccaa
end
section
namespace Go.Proofs.Ytgcmnpimkfmccaa
open Go.ChangeShapes Go.WideShapes Go.ChangeAt Go.RowKit
set_option linter.unusedVariables false
set_option linter.unusedSimpArgs false
abbrev C3 : Type := Int × Int × Int
end Go.Proofs.Ytgcmnpimkfmccaa
end
section
namespace Go.Proofs.Ytgcmnpimkfmccaa
open Go.ChangeShapes Go.WideShapes Go.ChangeAt Go.RowKit
set_option linter.unusedVariables false
set_option linter.unusedSimpArgs false
abbrev OwnGT (lo hi : Nat) (w : World) (v : Value) (X : List (List Int)) : Prop := OwnG 28 2 lo hi w v X
/-- the distances of some states among one another, row by row -/
noncomputable def rowTo (h : Int) (S : List Int) (i k : Nat) : List Int := (S.take k).map fun t => farM h (S.getD i 0) t
noncomputable def amongTo (h : Int) (S : List Int) (k : Nat) : List (List Int) := (List.range k).map fun i => rowTo h S i S.length
noncomputable def amongL (h : Int) (S : List Int) : List (List Int) := amongTo h S S.length
theorem rowTo_succ {h : Int} {S : List Int} {i k : Nat} (hk : k < S.length) : rowTo h S i (k + 1) = rowTo h S i k ++ [farM h (S.getD i 0) (S.getD k 0)] := by
  unfold rowTo
  rw [take_snoc _ _ hk, List.map_append]
  simp [List.getD, hk]
theorem rowTo_len (h : Int) (S : List Int) (i k : Nat) : (rowTo h S i k).length ≤ k := by
  unfold rowTo
  rw [List.length_map, List.length_take]
  omega
theorem amongTo_succ (h : Int) (S : List Int) (k : Nat) : amongTo h S (k + 1) = amongTo h S k ++ [rowTo h S k S.length] := by simp [amongTo, List.range_succ]
theorem amongTo_len (h : Int) (S : List Int) (k : Nat) : (amongTo h S k).length = k := by simp [amongTo]
end Go.Proofs.Ytgcmnpimkfmccaa
end
section
namespace Go.Proofs.Ytgcmnpimkfmccaa
open Go.ChangeShapes Go.WideShapes Go.ChangeAt Go.RowKit
set_option linter.unusedVariables false
set_option linter.unusedSimpArgs false
theorem getD_mem0 {S : List Int} {k : Nat} (hk : k < S.length) : S.getD k 0 ∈ S := by
  have e : S.getD k 0 = S[k] := by simp [List.getD, hk]
  rw [e]; exact List.getElem_mem hk
set_option maxHeartbeats 4000000 in
set_option maxRecDepth 100000 in
theorem c_impl_distancesAmong (n h : Int) (S : List Int) (v : Value) (w : World) (hh : 1 ≤ h ∧ h ≤ 10) (hr : RdRow 2 (rowS h) w v S) (hS : ∀ x ∈ S, x ∈ maskL n h) (hl : S.length ≤ 1000000) :
    Calls Try.prog 34 #[v] w fun e w' => ∃ u, e = .returned u ∧ OwnGT w.heap.size w'.heap.size w' u (amongL h S) ∧ Below w.heap.size w w' := by
  obtain ⟨a1, cap1, rfl, hl1, hc1⟩ := hr
  have HC : Hid (∀ k, k < S.length → ∃ b off, a1 = some ⟨b, off, none⟩ ∧ b < w.heap.size ∧ w.cell? ⟨b, off + k * 2, none⟩ = some (.int .i64 h) ∧ w.cell? ⟨b, off + k * 2 + 1, none⟩ = some (.int .i64 (S.getD k 0))) := fun k hk => by
    obtain ⟨b, off, ha, hc⟩ := hc1 k hk
    have h0 := hc 0 (.int .i64 h) rfl
    have h1 := hc 1 (.int .i64 S[k]) rfl
    have e : S.getD k 0 = S[k] := by simp [List.getD, hk]
    exact ⟨b, off, ha, World.block_lt_of_cell? w _ h0, h0, by rw [e]; exact h1⟩
  have HM := Lib.hid (fun k hk => hS _ (getD_mem0 (S := S) (k := k) hk))
  have HBD := Lib.hid (fun x => fun hx => mask_bd (n := n) (h := h) (m := x) hh hx)
  clear hc1 hS
  go_enter Try.func34, Try.ntmps34
  go_wp2
  go_loopw [3, 13] (fun out i wr => ∃ k : Nat, k ≤ S.length ∧ i = .int .i64 k ∧ OwnGT w.heap.size wr.heap.size wr out (amongTo h S k) ∧ Below w.heap.size w wr) (fun _ i _ => S.length - (intOf i).toNat)
  case atStart => exact ⟨0, by omega, rfl, (OwnG.made rfl (Nat.le_refl _)).tight, by (repeat (first | (with_reducible assumption) | (with_reducible exact Below.refl _ _) | (with_reducible refine Below.setCell ?_ (by first | (simp; done) | (simp; omega)) _) | (with_reducible refine Below.al ?_ _) | (with_reducible refine Below.dr ?_) | (with_reducible refine Below.drN ?_ _) | (with_reducible refine Below.tr ?_ (by with_reducible assumption))))⟩
  case round =>
    obtain ⟨k, hk, rfl, hout, hbr⟩ := hrel
    have hbs := hbr.size
    by_cases hlt : k < S.length
    · obtain ⟨b1, o1, rfl, hb1, hx0, hx1⟩ := HC.out k hlt
      have y0 := keepc hbr hx0
      have y1 := keepc hbr hx1
      have hxm := mem_maskL.1 (HM.out k hlt)
      have hxq := hxm.1
      have HA := Lib.hid (amongTo_succ h S k)
      have HRS := Lib.hid (fun j hj => rowTo_succ (h := h) (S := S) (i := k) (k := j) hj)
      have HR0 : Hid (rowTo h S k 0 = []) := by unfold Hid rowTo; simp
      have HRL := Lib.hid (fun j => rowTo_len h S k j)
      have hal := amongTo_len h S k
      have hneb : ¬ wr.heap.size = b1 := by omega
      clear hx0 hx1 hxm
      obtain ⟨s, Hs⟩ : ∃ s, Hid (S.getD k 0 = s) := ⟨_, rfl⟩
      rw [Hs.out] at y1 hxq HRS
      obtain ⟨wo, rfl⟩ : ∃ wo : World, wo = wr := ⟨_, rfl⟩
      go_wp2_with fail
      refine (c_impl_distancesFrom h s _ hh hxq).mono ?_; rintro e w4 ⟨bm, rfl, hom, hb4⟩
      have B4 : Below w.heap.size w w4 := Below.tr (hbr.al _) hb4
      have hs4 := hb4.size
      rw [World.size_alloc] at hs4
      have B4r : Below wo.heap.size wo w4 := Below.tr ((Below.refl _ _).al _) hb4
      have hout4 := hout.below B4r
      clear hout
      go_wp2
      go_loopw [7, 22] (fun row i w5 => ∃ j : Nat, j ≤ S.length ∧ i = .int .i64 j ∧ OwnI1 w4.heap.size w5 row (rowTo h S k j) ∧ Below w4.heap.size w4 w5) (fun _ i _ => S.length - (intOf i).toNat)
      case atStart => exact ⟨0, by omega, rfl, by rw [HR0.out]; exact OwnI.made rfl rfl (Nat.le_refl _), by (repeat (first | (with_reducible assumption) | (with_reducible exact Below.refl _ _) | (with_reducible refine Below.setCell ?_ (by first | (simp; done) | (simp; omega)) _) | (with_reducible refine Below.al ?_ _) | (with_reducible refine Below.dr ?_) | (with_reducible refine Below.drN ?_ _) | (with_reducible refine Below.tr ?_ (by with_reducible assumption))))⟩
      case round =>
        obtain ⟨j, hj, rfl, hrow, hb6⟩ := hrel
        have hs6 := hb6.size
        by_cases hjl : j < S.length
        · obtain ⟨b3, o3, hae, hb3, hx0, hx1⟩ := HC.out j hjl
          cases hae
          have B6 : Below w.heap.size w wr := B4.tr hb6
          have z0 := keepc B6 hx0
          have z1 := keepc B6 hx1
          have hneb3 : ¬ wr.heap.size = b1 := by omega
          have htq := HBD.out _ (HM.out j hjl)
          have HRj := Lib.hid (HRS.out j hjl)
          have hll : (rowTo h S k j).length < 1000000000 := by have := HRL.out j; omega
          clear hx0 hx1
          obtain ⟨t, Ht⟩ : ∃ t, Hid (S.getD j 0 = t) := ⟨_, rfl⟩
          rw [Ht.out] at z1 htq HRj
          have hom6 := (OwnM.below hom hb6).al (Obj.cells #[Value.int IntKind.i64 h, Value.int IntKind.i64 t] 63)
          have HG : Hid ((dist (adjM h) s t).getD 0 = farM h s t) := rfl
          have hrow6 := hrow.al (Obj.cells #[Value.int IntKind.i64 h, Value.int IntKind.i64 t] 63)
          have B6a := hb6.al (Obj.cells #[Value.int IntKind.i64 h, Value.int IntKind.i64 t] 63)
          have hlo := World.ownsRow.lt hrow6
          go_wp2_with (first
            | (at_lookup; refine map_get rfl _ _ _ rfl Try.underlying71 Try.underlying2 Try.underlying2 zeroI _ _ bm _ (dist (adjM h) s) t _ rfl rfl (by exact hom6) (by omega) ?_; rw [HG.out])
            | (at_builtin; refine push_int_at rfl _ _ _ _ rfl Try.underlying28 infoI w4.heap.size _ _ _ (wr.alloc (Obj.cells #[Value.int IntKind.i64 h, Value.int IntKind.i64 t] 63)) rfl (by rw [World.size_alloc]; rfl) (by exact hrow6) hll (by rw [World.size_alloc]; omega) ?_; intro v7 w7 ho7 hg7 hat7 hs7))
          go_roundw
          case rel => exact ⟨j + 1, by omega, by go_num, by rw [HRj.out]; exact ho7, B6a.grown hg7 B6a.size (fun q hq => (hlo q hq).1)⟩
          case measure => simp [intOf]; omega
        · obtain rfl : j = S.length := by omega
          have hout6 := hout4.below hb6
          have hlo := World.ownsRow.lt hrow
          have hrr := hrow.rd
          obtain ⟨ar, capr, rfl, -, -⟩ := hrr
          go_wp2_with (at_builtin; refine push_g rfl _ _ _ rfl Try.underlying67 infoG1 _ _ _ _ _ rfl rfl (by exact hout6) (by exact hrow.base (by omega)) (fun b hb => by have := (hlo b hb).1; omega) (by exact OwnI.one hrow) (by omega) (by omega) ?_; intro v' w9 hG hg9 hat9 hs9)
          go_roundw
          case rel => exact ⟨k + 1, by omega, by go_num, by rw [HA.out]; exact hG, (B4.tr hb6).grown hg9 (B4.tr hb6).size (fun q hq => (OwnG.lt hout6 q hq).1)⟩
          case measure => simp [intOf]; omega
    · obtain rfl : k = S.length := by omega
      have HK : Hid (amongTo h S S.length = amongL h S) := rfl
      go_wp2
      go_ret
      exact ⟨_, rfl, by rw [← HK.out]; exact hout, hbr⟩
end Go.Proofs.Ytgcmnpimkfmccaa
end
section
namespace Go.Proofs.Ytgcmnpimkfmccaa
open Go.ChangeShapes Go.WideShapes Go.ChangeAt Go.RowKit
set_option linter.unusedVariables false
set_option linter.unusedSimpArgs false
/-- how a square table of numbers reads -/
def RdTab (n : Nat) (D : Nat → Nat → Int) (w : World) (v : Value) : Prop :=
  ∃ a cap, v = .slice a n cap ∧ ∀ i, i < n → ∃ b off bi oi ci, a = some ⟨b, off, none⟩ ∧ w.cell? ⟨b, off + i, none⟩ = some (.slice (some ⟨bi, oi, none⟩) n ci) ∧ ∀ j, j < n → w.cell? ⟨bi, oi + j, none⟩ = some (.int .i64 (D i j))
theorem RdTab.below {n : Nat} {D : Nat → Nat → Int} {a b : World} {v : Value} (h : RdTab n D a v) (hb : Below a.heap.size a b) : RdTab n D b v := by
  obtain ⟨ad, cap, hv, hc⟩ := h
  refine ⟨ad, cap, hv, fun i hi => ?_⟩
  obtain ⟨bl, off, bi, oi, ci, ha, h1, h2⟩ := hc i hi
  exact ⟨bl, off, bi, oi, ci, ha, keepc hb h1, fun j hj => keepc hb (h2 j hj)⟩
end Go.Proofs.Ytgcmnpimkfmccaa
end
