/- Contracts on the index of a state. -/
import Derived.Test.YtggffkklfdpmkaaArcs
namespace Go.Proofs.Ytggffkklfdpmkaa
open Go.ChangeShapes Go.WideShapes Go.ChangeAt Go.RowKit
set_option linter.unusedVariables false
theorem valid_iff {h m : Int} (hv : validB h m = true) : (1 ≤ h ∧ h ≤ 10) ∧ (0 ≤ m ∧ m < 2 ^ h.toNat) := by
  have h1 := validB_iff.1 hv
  exact ⟨h1.1, by omega⟩
theorem mem_own {h m : Int} (hv : validB h m = true) : m ∈ maskL (popI m) h := mem_maskL.2 ⟨(valid_iff hv).2, rfl⟩
def stateIdx (h m : Int) : Int := bif validB h m then ((idx (maskL (popI m) h) m : Nat) : Int) else 0
def validC (h m : Int) : Int := bif validB h m then 0 else 1
set_option maxHeartbeats 2000000 in
set_option maxRecDepth 100000 in
theorem c_impl_StateIndex (h m : Int) (w : World) :
    Calls Try.prog 22 #[.agg #[.int .i64 h, .int .i64 m]] w fun e w' => e = .returned (.tuple #[.int .i64 (stateIdx h m), .int .i64 (validC h m)]) ∧ Below w.heap.size w w' := by
  cases hv : validB h m
  · have HS : Hid (stateIdx h m = 0) := by unfold Hid stateIdx; rw [hv]; rfl
    have HV : Hid (validC h m = 1) := by unfold Hid validC; rw [hv]; rfl
    go_enter Try.func22, Try.ntmps22
    go_wp2_with (go_at_call 62; refine (c_impl_ValidState _ _ _).mono ?_; rintro e w1 ⟨rfl, hb⟩; obtain ⟨hc, hf⟩ := bcell hb)
    go_ret2
    exact ⟨by rw [HS.out, HV.out]; rfl, by (repeat (first | (with_reducible assumption) | (with_reducible exact Below.refl _ _) | (with_reducible refine Below.setCell ?_ (by first | (simp; done) | (simp; omega)) _) | (with_reducible refine Below.al ?_ _) | (with_reducible refine Below.dr ?_) | (with_reducible refine Below.drN ?_ _) | (with_reducible refine Below.tr ?_ (by with_reducible assumption))))⟩
  · have hk := valid_iff hv
    have hmem := mem_own hv
    have hb10 := valid_bd hv
    have HS : Hid (stateIdx h m = ((idx (maskL (popI m) h) m : Nat) : Int)) := by unfold Hid stateIdx; rw [hv]; rfl
    have HV : Hid (validC h m = 0) := by unfold Hid validC; rw [hv]; rfl
    have HI := Lib.hid (idxM_get hmem)
    have hnd := nodup_of_sorted (maskL_sorted (popI m) h)
    have hlen := maskL_len (popI m) h hk.1
    have hbd : ∀ x ∈ maskL (popI m) h, 0 ≤ x ∧ x < 1024 := fun x hx => mask_bd hk.1 hx
    have HK := Lib.hid hk
    have HND := Lib.hid hnd
    have HBD := Lib.hid hbd
    have hlen' : (maskL (popI m) h).length ≤ 1000000 := by omega
    clear hbd hnd hmem hk hlen
    have hmq : 0 ≤ m ∧ m < 2 ^ h.toNat := HK.out.2
    have hh : 0 ≤ h ∧ h ≤ 10 := by omega
    have hmwf : -9223372036854775808 ≤ m ∧ m ≤ 9223372036854775807 := by omega
    go_enter Try.func22, Try.ntmps22
    go_wp2_with (go_at_call 62; refine (c_impl_ValidState _ _ _).mono ?_; rintro e w1 ⟨rfl, hb⟩; obtain ⟨hc, hf⟩ := bcell hb)
    have hz1 : w.heap.size < w1.heap.size := Nat.lt_of_lt_of_le (by simp) hb.size
    have B1 : Below w.heap.size w w1 := by (repeat (first | (with_reducible assumption) | (with_reducible exact Below.refl _ _) | (with_reducible refine Below.setCell ?_ (by first | (simp; done) | (simp; omega)) _) | (with_reducible refine Below.al ?_ _) | (with_reducible refine Below.dr ?_) | (with_reducible refine Below.drN ?_ _) | (with_reducible refine Below.tr ?_ (by with_reducible assumption))))
    have k0 : w1.cell? ⟨w.heap.size, 0, none⟩ = some (.int .i64 h) := by go_simp
    have k1 : w1.cell? ⟨w.heap.size, 1, none⟩ = some (.int .i64 m) := by go_simp
    clear hc hf hb
    go_region_held3 (fun w' => w'.cell? ⟨w.heap.size, 0, none⟩ = some (.int .i64 h) ∧ w'.cell? ⟨w.heap.size, 1, none⟩ = some (.int .i64 m))
      (go_keep)
      (first
        | ((go_at_call 64; refine (c_impl_State_props h m _ hh hmq).mono ?_; rintro e w2 ⟨rfl, hb2⟩; have hb2' := below_drew hb2; have hz2 := Nat.lt_of_lt_of_le hz1 hb2'.size; obtain ⟨hc2, _⟩ := bcell hb2'))
        | ((go_at_call 61; refine (c_impl_allStates (popI m) h _ hh).mono ?_; rintro e w3 ⟨v3, rfl, ho3, hb3⟩; have hz3 := Nat.lt_of_lt_of_le hz2 hb3.size; obtain ⟨hc3, _⟩ := bcell hb3))
        | ((go_at_call 63; refine (c_impl_indices h (maskL (popI m) h) _ _ (OwnRow.rd (rowS_len h) ho3) HND.out hlen' HBD.out).mono ?_; rintro e w4 ⟨bm, rfl, hom, hb4⟩; have hz4 := Nat.lt_of_lt_of_le hz3 hb4.size; obtain ⟨hc4, _⟩ := bcell hb4; have hrun := OwnM.run_get hom Try.underlying74 Try.underlying2 Try.underlying2 zeroI m hmwf; rw [HI.out] at hrun)))
    have B4 : Below w.heap.size w w4 := by (repeat (first | (with_reducible assumption) | (with_reducible exact Below.refl _ _) | (with_reducible refine Below.setCell ?_ (by first | (simp; done) | (simp; omega)) _) | (with_reducible refine Below.al ?_ _) | (with_reducible refine Below.dr ?_) | (with_reducible refine Below.drN ?_ _) | (with_reducible refine Below.tr ?_ (by with_reducible assumption))))
    go_wp2
    go_ret2
    exact ⟨by rw [HS.out, HV.out]; rfl, B4⟩
/-- a and b, both less than c: the arcs into a state -/
def intoTo (X : List (Int × Int × Int)) (q : Int) (k : Nat) : List (Int × Int × Int) := (X.take k).filter fun a => a.2.2 == q
theorem intoTo_yes {X : List (Int × Int × Int)} {q : Int} {k : Nat} (hk : k < X.length) (h : (X[k].2.2 == q) = true) : intoTo X q (k + 1) = intoTo X q k ++ [X[k]] := by
  unfold intoTo
  rw [take_snoc _ _ hk, List.filter_append, List.filter_cons, h]; rfl
theorem intoTo_no {X : List (Int × Int × Int)} {q : Int} {k : Nat} (hk : k < X.length) (h : (X[k].2.2 == q) = false) : intoTo X q (k + 1) = intoTo X q k := by
  unfold intoTo
  rw [take_snoc _ _ hk, List.filter_append, List.filter_cons, h]; simp
theorem intoTo_len (X : List (Int × Int × Int)) (q : Int) (k : Nat) : (intoTo X q k).length ≤ X.length := by
  unfold intoTo
  have := List.length_filter_le (fun a : Int × Int × Int => a.2.2 == q) (X.take k)
  have h2 := List.length_take_le k X
  have h3 := List.length_take_le' k X
  omega
def intoX (h m : Int) : List (Int × Int × Int) := bif validB h m then (arcsL (maskL (popI m) h) h).filter (fun a => a.2.2 == stateIdx h m) else []
end Go.Proofs.Ytggffkklfdpmkaa
