/- Contracts: the codes of the functions on flights and frames, joined. -/
import Derived.Test.YtddfdppoclnpcaaFrF
import Derived.BigQuiet
import Derived.Deep.QuietTactic
namespace Go.Proofs.Ytddfdppoclnpcaa
open Go.ChangeShapes Go.WideShapes Go.ChangeAt Go.RowKit
set_option linter.unusedVariables false
set_option linter.unusedSimpArgs false
theorem quiet_q {P : Program} {f : FuncId} {args : Array Value} {w : World} {n : Nat} {v : Value} (h : Calls P f args (w.drewN n) fun e w' => e = .returned v ∧ w.drewN n = w') : Calls P f args (w.drewN n) fun e w'' => e = .returned v ∧ ∃ m, w'' = w.drewN m :=
  Calls.quiet_of_same (h.mono fun _ _ ⟨h1, h2⟩ => ⟨h1, h2.symm⟩)
set_option maxHeartbeats 2000000 in
theorem c_spec_l15Fits (p : List Int) (B D : Int) (v : Value) (w : World) (hr : RdI w v p) (hb : ∀ x ∈ p, 0 ≤ x ∧ x ≤ 15) (hB : 2 ≤ B ∧ B ≤ 30) (hD : D ≤ 2 * B) :
    Calls Try.prog 162 #[v, .agg #[.int .i64 B, .int .i64 D]] w fun e w' => e = .returned (.bool (fitsP p B D)) ∧ Below w.heap.size w w' := by
  obtain ⟨W0, hW0, k0, k1, B0⟩ := oneState w 54 B D
  have HR : Hid (RdI W0 v p) := Lib.hid (hr.below B0)
  have HB := Lib.hid hb
  have HF := Lib.hid (most_fits (p := p) hD)
  clear hr hb
  go_enter Try.func162, Try.ntmps162
  go_wp2_with fail
  rw [← hW0]
  clear hW0
  go_quiet ((go_at_call 166; exact quiet_q (c_spec_l15Most p B v _ HR.out HB.out hB)))
  go_wp2
  go_ret
  exact ⟨by rw [← HF.out]; rfl, by first | exact B0 | exact B0.drN _⟩
def lCode (p : List Int) (B D : Int) (c : Bool) : Int := if validP p = false then 1 else if validT B D = false ∨ c = false then 2 else if fitsP p B D = false then 6 else 0
theorem lc1 {p : List Int} {B D : Int} (c : Bool) (h : validP p = false) : Hid (lCode p B D c = 1) := by unfold Hid lCode; rw [if_pos h]
theorem lc2 {p : List Int} {B D : Int} {c : Bool} (h : validP p = true) (h2 : validT B D = false ∨ c = false) : Hid (lCode p B D c = 2) := by unfold Hid lCode; rw [if_neg (by simp [h]), if_pos h2]
theorem lc6 {p : List Int} {B D : Int} (h : validP p = true) (h2 : validT B D = true) (h4 : fitsP p B D = false) : Hid (lCode p B D true = 6) := by unfold Hid lCode; rw [if_neg (by simp [h]), if_neg (by simp [h2]), if_pos h4]
theorem lc0 {p : List Int} {B D : Int} (h : validP p = true) (h2 : validT B D = true) (h4 : fitsP p B D = true) : Hid (lCode p B D true = 0) := by unfold Hid lCode; rw [if_neg (by simp [h]), if_neg (by simp [h2]), if_neg (by simp [h4])]
set_option maxHeartbeats 2000000 in
theorem c_spec_l15Code (p : List Int) (B D : Int) (c : Bool) (v : Value) (w : World) (hr : RdI w v p) :
    Calls Try.prog 134 #[v, .agg #[.int .i64 B, .int .i64 D], .bool c] w fun e w' => e = .returned (.int .i64 (lCode p B D c)) ∧ Below w.heap.size w w' := by
  obtain ⟨W0, hW0, k0, k1, B0⟩ := oneState w 54 B D
  have HR : Hid (RdI W0 v p) := Lib.hid (hr.below B0)
  clear hr
  cases hv : validP p
  · have HC := lc1 (B := B) (D := D) c hv
    go_enter Try.func134, Try.ntmps134
    go_wp2_with fail
    rw [← hW0]
    clear hW0
    refine (c_spec_l02Ok p _ _ HR.out).mono ?_; rintro e w2 ⟨rfl, hb2⟩; rw [hv]
    go_wp2
    go_ret
    exact ⟨by rw [HC.out]; rfl, B0.tr hb2⟩
  · cases ht : validT B D
    · have HC := lc2 (c := c) hv (Or.inl ht)
      go_enter Try.func134, Try.ntmps134
      go_wp2_with fail
      rw [← hW0]
      clear hW0
      refine (c_spec_l02Ok p _ _ HR.out).mono ?_; rintro e w2 ⟨rfl, hb2⟩; rw [hv]
      have k0 := keepc hb2 k0
      have k1 := keepc hb2 k1
      go_wp2_with fail
      refine (c_spec_l15Ok B D _).mono ?_; rintro e w3 ⟨rfl, hb3⟩; rw [ht]
      go_wp2
      go_ret
      exact ⟨by rw [HC.out]; rfl, (B0.tr hb2).tr hb3⟩
    · cases c
      · have HC := lc2 (B := B) (D := D) (c := false) hv (Or.inr rfl)
        go_enter Try.func134, Try.ntmps134
        go_wp2_with fail
        rw [← hW0]
        clear hW0
        refine (c_spec_l02Ok p _ _ HR.out).mono ?_; rintro e w2 ⟨rfl, hb2⟩; rw [hv]
        have k0 := keepc hb2 k0
        have k1 := keepc hb2 k1
        go_wp2_with fail
        refine (c_spec_l15Ok B D _).mono ?_; rintro e w3 ⟨rfl, hb3⟩; rw [ht]
        go_wp2
        go_ret
        exact ⟨by rw [HC.out]; rfl, (B0.tr hb2).tr hb3⟩
      · obtain ⟨hB, hD⟩ := validT_bd ht
        have hbd := (validP_iff.1 hv).1.1
        cases hf : fitsP p B D
        · have HC := lc6 hv ht hf
          go_enter Try.func134, Try.ntmps134
          go_wp2_with fail
          rw [← hW0]
          clear hW0
          refine (c_spec_l02Ok p _ _ HR.out).mono ?_; rintro e w2 ⟨rfl, hb2⟩; rw [hv]
          have k0 := keepc hb2 k0
          have k1 := keepc hb2 k1
          go_wp2_with fail
          refine (c_spec_l15Ok B D _).mono ?_; rintro e w3 ⟨rfl, hb3⟩; rw [ht]
          have k0 := keepc hb3 k0
          have k1 := keepc hb3 k1
          go_wp2_with fail
          refine (c_spec_l15Fits p B D _ _ ((HR.out.below hb2).below hb3) hbd hB hD.2).mono ?_; rintro e w4 ⟨rfl, hb4⟩; rw [hf]
          go_wp2
          go_ret
          exact ⟨by rw [HC.out]; rfl, ((B0.tr hb2).tr hb3).tr hb4⟩
        · have HC := lc0 hv ht hf
          go_enter Try.func134, Try.ntmps134
          go_wp2_with fail
          rw [← hW0]
          clear hW0
          refine (c_spec_l02Ok p _ _ HR.out).mono ?_; rintro e w2 ⟨rfl, hb2⟩; rw [hv]
          have k0 := keepc hb2 k0
          have k1 := keepc hb2 k1
          go_wp2_with fail
          refine (c_spec_l15Ok B D _).mono ?_; rintro e w3 ⟨rfl, hb3⟩; rw [ht]
          have k0 := keepc hb3 k0
          have k1 := keepc hb3 k1
          go_wp2_with fail
          refine (c_spec_l15Fits p B D _ _ ((HR.out.below hb2).below hb3) hbd hB hD.2).mono ?_; rintro e w4 ⟨rfl, hb4⟩; rw [hf]
          go_wp2
          go_ret
          exact ⟨by rw [HC.out]; rfl, ((B0.tr hb2).tr hb3).tr hb4⟩
theorem fCode_l {p : List Int} {B D x : Int} : fCode p B D x = if lCode p B D (inB x 0 16) ≠ 0 then lCode p B D (inB x 0 16) else if 40 < mxF 0 p * B - D then 6 else 0 := by
  unfold fCode lCode
  cases validP p
  · simp
  · cases validT B D
    · simp
    · cases inB x 0 16
      · simp
      · cases fitsP p B D
        · simp
        · simp
theorem lCode_ok {p : List Int} {B D : Int} {c : Bool} (h : lCode p B D c = 0) : validP p = true ∧ validT B D = true := by
  unfold lCode at h
  cases hv : validP p
  · rw [hv] at h; simp at h
  · cases ht : validT B D
    · rw [hv, ht] at h; simp at h
    · exact ⟨rfl, rfl⟩
theorem lCode_bd (p : List Int) (B D : Int) (c : Bool) : 0 ≤ lCode p B D c ∧ lCode p B D c ≤ 6 := by
  unfold lCode
  split
  · omega
  · split
    · omega
    · split <;> omega
theorem fCode_ne {p : List Int} {B D x : Int} (h : lCode p B D (inB x 0 16) ≠ 0) : Hid (fCode p B D x = lCode p B D (inB x 0 16)) := by unfold Hid; rw [fCode_l, if_pos h]
theorem fCode_hi {p : List Int} {B D x : Int} (h : lCode p B D (inB x 0 16) = 0) (h2 : 40 < mxF 0 p * B - D) : Hid (fCode p B D x = 6) := by unfold Hid; rw [fCode_l, if_neg (by simp [h]), if_pos h2]
theorem fCode_lo {p : List Int} {B D x : Int} (h : lCode p B D (inB x 0 16) = 0) (h2 : ¬ 40 < mxF 0 p * B - D) : Hid (fCode p B D x = 0) := by unfold Hid; rw [fCode_l, if_neg (by simp [h]), if_neg h2]
set_option maxHeartbeats 2000000 in
set_option maxRecDepth 100000 in
theorem c_spec_l16Ask (p : List Int) (B D x : Int) (v : Value) (w : World) (hr : RdI w v p) :
    Calls Try.prog 101 #[v, .agg #[.int .i64 B, .int .i64 D], .int .i64 x, .bool true] w fun e w' => e = .returned (.int .i64 (fCode p B D x)) ∧ Below w.heap.size w w' := by
  obtain ⟨W0, hW0, k0, k1, B0⟩ := oneState w 54 B D
  have HR : Hid (RdI W0 v p) := Lib.hid (hr.below B0)
  have hlb := lCode_bd p B D (inB x 0 16)
  clear hr
  by_cases hL : lCode p B D (inB x 0 16) = 0
  · obtain ⟨hv, ht⟩ := lCode_ok hL
    obtain ⟨hB, hD⟩ := validT_bd ht
    have hmx := mx_bd (validP_iff.1 hv).1.1 (m := 0) (by omega)
    have hm := bt_bd (b := mxF 0 p) (M := 15) (by omega) hB
    by_cases hh : 40 < mxF 0 p * B - D
    · have HC := fCode_hi hL hh
      have HL := Lib.hid hL
      have hRd : RdI W0.drew v p := HR.out
      obtain ⟨H, HH⟩ : ∃ H, Hid (mxF 0 p = H) := ⟨_, Lib.hid rfl⟩
      rw [HH.out] at hm hmx hh
      obtain ⟨M, HM⟩ : ∃ M, Hid (H * B = M) := ⟨_, Lib.hid rfl⟩
      rw [HM.out] at hm hh
      have hw1 : IntKind.i64.wrap (H * B) = M := by rw [HM.out]; exact IntWalk.i64_in _ (by omega)
      have hw2 : IntKind.i64.wrap (M - D) = M - D := IntWalk.i64_in _ (by omega)
      have th : decide (40 < M - D) = true := by simpa using hh
      clear hL hv ht
      go_enter Try.func101, Try.ntmps101
      go_wp2_with fail
      rw [← hW0]
      clear hW0
      go_region_held3 (fun w' => w'.cell? ⟨w.heap.size, 0, none⟩ = some (.int .i64 B) ∧ w'.cell? ⟨w.heap.size, 1, none⟩ = some (.int .i64 D))
        (go_keep)
        (first
          | ((go_at_call 65; refine (c_spec_l00In x 0 16 _).mono ?_; rintro e w1 ⟨rfl, rfl⟩))
          | ((go_at_call 134; refine (c_spec_l15Code p B D _ _ _ hRd).mono ?_; rintro e w2 ⟨rfl, hb2⟩; rw [HL.out]; have hb2 := below_drew hb2; have k0 := keepc hb2 k0; have k1 := keepc hb2 k1)))
      go_wp2_with fail
      have hR2 : RdI w2 v p := HR.out.below hb2
      have HR2 := Lib.hid hR2
      have HQ : Hid (∀ n, Calls Try.prog 93 #[v] (w2.drewN n) fun e w'' => e = .returned (.int .i64 H) ∧ ∃ m, w'' = w2.drewN m) := fun n => quiet_q (by have h := c_spec_l02High p v (w2.drewN n) HR2.out; rw [HH.out] at h; exact h)
      go_quiet ((go_at_call 93; exact HQ.out _))
      go_wp2
      go_ret
      exact ⟨by rw [HC.out]; rfl, by first | exact B0.tr hb2 | exact (B0.tr hb2).drN _⟩
    · have HC := fCode_lo hL hh
      have HL := Lib.hid hL
      have hRd : RdI W0.drew v p := HR.out
      obtain ⟨H, HH⟩ : ∃ H, Hid (mxF 0 p = H) := ⟨_, Lib.hid rfl⟩
      rw [HH.out] at hm hmx hh
      obtain ⟨M, HM⟩ : ∃ M, Hid (H * B = M) := ⟨_, Lib.hid rfl⟩
      rw [HM.out] at hm hh
      have hw1 : IntKind.i64.wrap (H * B) = M := by rw [HM.out]; exact IntWalk.i64_in _ (by omega)
      have hw2 : IntKind.i64.wrap (M - D) = M - D := IntWalk.i64_in _ (by omega)
      have th : decide (40 < M - D) = false := by simpa using hh
      clear hL hv ht
      go_enter Try.func101, Try.ntmps101
      go_wp2_with fail
      rw [← hW0]
      clear hW0
      go_region_held3 (fun w' => w'.cell? ⟨w.heap.size, 0, none⟩ = some (.int .i64 B) ∧ w'.cell? ⟨w.heap.size, 1, none⟩ = some (.int .i64 D))
        (go_keep)
        (first
          | ((go_at_call 65; refine (c_spec_l00In x 0 16 _).mono ?_; rintro e w1 ⟨rfl, rfl⟩))
          | ((go_at_call 134; refine (c_spec_l15Code p B D _ _ _ hRd).mono ?_; rintro e w2 ⟨rfl, hb2⟩; rw [HL.out]; have hb2 := below_drew hb2; have k0 := keepc hb2 k0; have k1 := keepc hb2 k1)))
      go_wp2_with fail
      have hR2 : RdI w2 v p := HR.out.below hb2
      have HR2 := Lib.hid hR2
      have HQ : Hid (∀ n, Calls Try.prog 93 #[v] (w2.drewN n) fun e w'' => e = .returned (.int .i64 H) ∧ ∃ m, w'' = w2.drewN m) := fun n => quiet_q (by have h := c_spec_l02High p v (w2.drewN n) HR2.out; rw [HH.out] at h; exact h)
      go_quiet ((go_at_call 93; exact HQ.out _))
      go_wp2
      go_ret
      exact ⟨by rw [HC.out]; rfl, by first | exact B0.tr hb2 | exact (B0.tr hb2).drN _⟩
  · have HC := fCode_ne hL
    have t0 : (lCode p B D (inB x 0 16) == 0) = false := by simpa using hL
    obtain ⟨L, HL⟩ : ∃ L, Hid (lCode p B D (inB x 0 16) = L) := ⟨_, Lib.hid rfl⟩
    rw [HL.out] at t0 HC hlb
    clear hL
    have hRd : RdI W0.drew v p := HR.out
    go_enter Try.func101, Try.ntmps101
    go_wp2_with fail
    rw [← hW0]
    clear hW0
    go_region_held3 (fun w' => w'.cell? ⟨w.heap.size, 0, none⟩ = some (.int .i64 B) ∧ w'.cell? ⟨w.heap.size, 1, none⟩ = some (.int .i64 D))
      (go_keep)
      (first
        | ((go_at_call 65; refine (c_spec_l00In x 0 16 _).mono ?_; rintro e w1 ⟨rfl, rfl⟩))
        | ((go_at_call 134; refine (c_spec_l15Code p B D _ _ _ hRd).mono ?_; rintro e w2 ⟨rfl, hb2⟩; rw [HL.out]; have hb2 := below_drew hb2; have k0 := keepc hb2 k0; have k1 := keepc hb2 k1)))
    go_wp2_with fail
    go_quiet (fail)
    go_wp2
    go_ret
    exact ⟨by rw [HC.out]; rfl, by first | exact B0.tr hb2 | exact (B0.tr hb2).drN _⟩
end Go.Proofs.Ytddfdppoclnpcaa
