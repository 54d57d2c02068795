/- The law WrittenX: what it rests on, part 24 of 46. -/
import Derived.Test.YtioemkdapoombaaGreatDoorQWrittenX23
import Derived.Test.YtioemkdapoombaaGreatDoorQWrittenX05
import Derived.Test.YtioemkdapoombaaGreatDoorQWrittenX07
import Derived.Deep.RegionHeld3
import Derived.Laws.StructEq
import Derived.ChangeKeysEq
import Derived.Test.YtioemkdapoombaaGreatDoorQWrittenX03
section
namespace Go.Proofs.YtioemkdapoombaaGreatDoor
open Go.ChangeShapes Go.WideShapes Go.ChangeAt Go.RowKit
set_option linter.unusedSimpArgs false
set_option linter.unusedVariables false
theorem okDig_thr {s : ByteArray} : okThrows (digsTo s s.size) = okDig s := by
  unfold okThrows okDig
  rw [digsTo_len]
  congr 1
  rw [Bool.eq_iff_iff, List.all_eq_true, List.all_eq_true]
  constructor
  · intro h x hx
    have := h x hx
    exact decide_eq_true (inB_iff.1 this).1
  · intro h x hx
    have h1 := of_decide_eq_true (h x hx)
    exact inB_iff.2 ⟨h1, (digsTo_bd s s.size x hx).2⟩
theorem okDig_len {s : ByteArray} (h : okDig s = true) : 1 ≤ s.size ∧ s.size ≤ 12 := by
  unfold okDig at h
  rw [Bool.and_eq_true] at h
  have := inB_iff.1 h.2
  omega
theorem okDig_bd {s : ByteArray} (h : okDig s = true) : ∀ x ∈ digsTo s s.size, 0 ≤ x ∧ x ≤ 15 := by
  rw [← okDig_thr, okThrows_iff] at h
  exact h.1
set_option maxHeartbeats 2000000 in
theorem c_impl_readThrows (s : ByteArray) (w : World) (hs : s.size ≤ 12) :
    Calls Tryz.prog 155 #[.string s] w fun e w' => ∃ v, e = .returned (.tuple #[v, .bool (okDig s)]) ∧ OwnI1 w.heap.size w' v (digsTo s s.size) ∧ Below w.heap.size w w' := by
  have HSU := Lib.hid (digsTo_succ s)
  have HLN := Lib.hid (digsTo_len s)
  have HOK := Lib.hid (okDig_thr (s := s))
  have hsI : ¬ (12 : Int) < (s.size : Int) := by omega
  go_enter Tryz.func155, Tryz.ntmps155
  go_wp2
  go_loopw [4, 12] (fun out i wr => ∃ k : Nat, k ≤ s.size ∧ i = .int .i64 k ∧ (∃ ad m cap, out = .slice (some ad) m cap) ∧ OwnI1 w.heap.size wr out (digsTo s k) ∧ Below w.heap.size w wr) (fun _ i _ => s.size - (intOf i).toNat)
  case atStart => exact ⟨0, by omega, by go_num, ⟨_, _, _, rfl⟩, OwnI.made rfl rfl (Nat.le_refl _), (Below.refl _ _).al _⟩
  case round =>
    obtain ⟨k, hk, rfl, ⟨ad, m, cap, rfl⟩, hown, BR⟩ := hrel
    by_cases hlt : k < s.size
    · have hin0 : (0 : Int) ≤ (k : Int) := by omega
      have hin1 : (k : Int) < (s.size : Int) := by omega
      have hcd := chr_bd s k
      have hix : ∀ w', (Instr.index 9 (.string s) (.int .i64 (k : Int))).run Tryz.prog w' = .ok (.int .u8 (chr s k)) w' := fun w' => by
        rw [run_index_string _ _ _ _ _ Tryz.underlying9, dif_pos ⟨hin0, hin1⟩]
        congr 2
        exact chr_at (s := s) (i := k) hlt
      have HSk := Lib.hid (HSU.out k)
      have HLk := Lib.hid (HLN.out k)
      go_wp2_with (first | ((rw [hix _])) | (go_at_call 126; refine (c_impl_hexOf (chr s k) _ hcd).mono ?_; rintro e w2 ⟨rfl, rfl⟩) | (at_builtin; refine push_int rfl _ _ _ _ rfl Tryz.underlying26 infoI w.heap.size (.slice (some ad) m cap) (digsTo s k) (digC (chr s k)) _ rfl rfl (by exact hown) (by rw [HLk.out]; omega) (by exact BR.size) ?_; intro v3 w3 ho3 hb3 hs3))
      go_roundw
      case rel => exact ⟨k + 1, by omega, by go_num, (by obtain ⟨b3, cap4, e3, -⟩ := OwnI.some_of ho3 (by simp); exact ⟨_, _, _, e3⟩), by rw [HSk.out]; exact ho3, hb3 _ BR⟩
      case measure => simp [intOf]; omega
    · obtain rfl : k = s.size := by omega
      have hrd := OwnI.rd hown
      go_wp2_with fail
      refine (c_impl_areThrows (digsTo s s.size) _ _ hrd).mono ?_; rintro e w2 ⟨rfl, rfl⟩
      go_wp2
      go_ret2
      exact ⟨_, by rw [← HOK.out]; rfl, hown, BR⟩
set_option maxHeartbeats 2000000 in
theorem c_impl_ReadPattern (s : ByteArray) (w : World) (hs : s.size ≤ 12) :
    Calls Tryz.prog 128 #[.string s] w fun e w' => ∃ v, e = .returned (.tuple #[v, .bool (validP (digsTo s s.size))]) ∧ (validP (digsTo s s.size) = true → OwnI1 w.heap.size w' v (digsTo s s.size)) ∧ Below w.heap.size w w' := by
  obtain ⟨b, HB⟩ : ∃ b, Hid (validP (digsTo s s.size) = b) := ⟨_, Lib.hid rfl⟩
  rw [HB.out]
  go_enter Tryz.func128, Tryz.ntmps128
  go_wp2_with fail
  refine (c_impl_readThrows s _ hs).mono ?_; rintro e w1 ⟨v, rfl, ho1, hb1⟩
  have hrd := OwnI.rd ho1
  go_wp2_with fail
  refine (c_impl_ValidPattern (digsTo s s.size) _ _ hrd).mono ?_; rintro e w2 ⟨rfl, hb2⟩; rw [HB.out]
  have hv2 : OwnI1 w.heap.size w2 v (digsTo s s.size) := OwnI.below ho1 hb2
  have hb3 := hb1.tr hb2
  cases b
  · go_wp2
    go_ret2
    exact ⟨_, rfl, by simp, hb3⟩
  · go_wp2
    go_ret2
    exact ⟨_, rfl, hv2, hb3⟩
end Go.Proofs.YtioemkdapoombaaGreatDoor
end
section
namespace Go.Proofs.YtioemkdapoombaaGreatDoor
open Go.ChangeShapes Go.WideShapes Go.ChangeAt Go.RowKit
set_option linter.unusedSimpArgs false
set_option linter.unusedVariables false
def repL (p : List Int) (t : Nat) : List Int := (List.replicate t p).flatten
theorem repL_succ (p : List Int) (t : Nat) : repL p (t + 1) = repL p t ++ p := by
  unfold repL
  rw [List.replicate_succ', List.flatten_append]; simp
theorem repL_len (p : List Int) (t : Nat) : (repL p t).length = t * p.length := by
  induction t with
  | zero => simp [repL]
  | succ t ih => rw [repL_succ, List.length_append, ih, Nat.succ_mul]
theorem some_slice {E : TypeId} {B k : Nat} {w : World} {v : Value} {xs : List Int} (h : OwnI E B w v xs) (hb : v.ownBlock = some k) : ∃ ad n cap, v = .slice (some ad) n cap := by
  rcases h.2 with ⟨rfl, _⟩ | ⟨g, cap, cur, rfl, _⟩
  · cases hb
  · exact ⟨_, _, _, rfl⟩
theorem some_block {v : Value} (h : ∃ ad n cap, v = .slice (some ad) n cap) : ∃ k, v.ownBlock = some k := by
  obtain ⟨ad, n, cap, rfl⟩ := h
  exact ⟨ad.block, rfl⟩
theorem some_next {E : TypeId} {B m : Nat} {w : World} {v v' : Value} {xs : List Int} (hv : ∃ ad n cap, v = .slice (some ad) n cap) (h : OwnI E B w v' xs) (hat : v'.ownBlock = v.ownBlock ∨ v'.ownBlock = some m) : ∃ ad n cap, v' = .slice (some ad) n cap := by
  obtain ⟨k, hk⟩ := some_block hv
  rcases hat with h1 | h1
  · exact some_slice h (h1.trans hk)
  · exact some_slice h h1
set_option maxHeartbeats 2000000 in
set_option maxRecDepth 100000 in
theorem c_impl_repeated (p : List Int) (tm : Nat) (v : Value) (w : World) (hr : RdI w v p) (hp : p.length ≤ 1000) (ht : tm ≤ 1000) :
    Calls Tryz.prog 129 #[v, .int .i64 (tm : Int)] w fun e w' => ∃ u, e = .returned u ∧ OwnI1 w.heap.size w' u (repL p tm) ∧ Below w.heap.size w w' := by
  have HRW := Lib.hid hr
  have ho : OwnI1 w.heap.size (w.alloc (Obj.cells #[] 2)) (.slice (some ⟨w.heap.size, 0, none⟩) 0 0) (repL p 0) := OwnI.made rfl rfl (Nat.le_refl _)
  have hb0 : Below w.heap.size w (w.alloc (Obj.cells #[] 2)) := (Below.refl _ _).al _
  clear hr
  go_enter Tryz.func129, Tryz.ntmps129
  go_wp2_with fail
  go_loopw [5, 8] (fun out i wr => ∃ t : Nat, t ≤ tm ∧ i = .int .i64 t ∧ OwnI1 w.heap.size wr out (repL p t) ∧ (∃ ad n cap, out = .slice (some ad) n cap) ∧ Below w.heap.size w wr) (fun _ i _ => tm - (intOf i).toNat)
  case atStart => exact ⟨0, by omega, rfl, ho, ⟨_, _, _, rfl⟩, hb0⟩
  case round =>
    clear ho hb0
    obtain ⟨t, htt, rfl, hout, hso, hb⟩ := hrel
    obtain ⟨ad2, n2, cap2, hse⟩ := hso
    subst hse
    have hlo := World.ownsRow.lt hout
    have hbs := hb.size
    by_cases hlt : t < tm
    · have HRS := Lib.hid (repL_succ p t)
      have hll : (repL p t).length + p.length < 1000000000 := by
        rw [repL_len]
        have : t * p.length ≤ 1000 * 1000 := Nat.mul_le_mul (by omega) hp
        omega
      have hrr := HRW.out.below hb
      have ht0 : (0 : Int) ≤ (t : Int) := by omega
      go_wp2_with (at_builtin; refine push_ints rfl _ _ _ _ rfl Tryz.underlying26 infoI w.heap.size _ _ (repL p t) p _ rfl rfl (by exact hout) ⟨_, _, _, rfl⟩ (by exact hrr) hll hbs ?_; intro v9 w9 ho9 hg9 hat9 hs9; refine stop_of ?_)
      unfold Stopped
      have hso9 := some_next ⟨_, _, _, rfl⟩ ho9 hat9
      rw [← HRS.out] at ho9
      have HO9 := Lib.hid ho9
      have B9 : Below w.heap.size w w9 := hb.grown hg9 hbs (fun q hq => (hlo q hq).1)
      clear ho9
      go_wp2
      go_roundw
      case rel => exact ⟨t + 1, by omega, by go_num, HO9.out, hso9, B9⟩
      case measure => simp [intOf]; omega
    · obtain rfl : t = tm := by omega
      go_wp2
      go_ret
      exact ⟨_, rfl, hout, hb⟩
end Go.Proofs.YtioemkdapoombaaGreatDoor
end
section
namespace Go.RowKit
open Go.ChangeShapes Go.WideShapes Go.ChangeAt
set_option linter.unusedVariables false
section
variable {P : Program} {ops : Array Oper} {Q : Exit → Act → World → Prop} {md : Region.Mode} {S : Array Bool → World → Prop}
/-- whatever order is picked: behind each operation S holds of what has come up and of the world -/
def wpAnyL (P : Program) (md : Region.Mode) (ops : Array Oper) (Q : Exit → Act → World → Prop) (S : Array Bool → World → Prop) : Nat → Array Bool → Act → World → Prop
  | 0, L, a, w => Region.ready md ops L = [] ∧ Q .normal a w
  | m + 1, L, a, w => (Region.ready md ops L = [] → Q .normal a w) ∧
    ∀ i ∈ Region.ready md ops L, wpOp P ops Q i (fun a' w' => S (L.setIfInBounds i true) w' ∧ wpAnyL P md ops Q S m (L.setIfInBounds i true) a' w') a w
theorem wpAnyL.any : ∀ (m : Nat) (L : Array Bool) (a : Act) (w : World), wpAnyL P md ops Q S m L a w → wpAny P md ops Q m L a w
  | 0, _, _, _, h => h
  | m + 1, _, _, _, h => ⟨h.1, fun i hi => wpOp_mono (fun a' w' h' => wpAnyL.any m _ a' w' h'.2) (h.2 i hi)⟩
/-- operation i is taken first: as long as q, which waits for it, has not come up, S gives S0, under which i yields its value -/
theorem wpAnyL_first {S0 : World → Prop} {i q : Nat} {oi oq : Oper} {v : Value} (hi : ops[i]? = some oi) (hoq : ops[q]? = some oq) (hwt : ∃ e ∈ oq.after, Region.binds md e = true ∧ e.on = i)
    (hsel : ∀ (j : Nat) (o : Oper) cs b, ops[j]? = some o → o.op ≠ .select cs b)
    (hQ : ∀ c a w, Q (.panic c) (a.put oi.dst v) w → Q (.panic c) a w)
    (hS0 : ∀ L w, L.getD q true = false → S L w → S0 w) (hSi : ∀ L w, S (L.setIfInBounds i true) w ↔ S L w) :
    ∀ (m : Nat) (L : Array Bool) (a : Act) (w : World),
      (∀ j oj, ops[j]? = some oj → j ≠ i → L.getD j true = false → (∀ e ∈ oj.after, Region.binds md e = true → e.on ≠ i) → oi.apart ops oj = true) →
      i ∈ Region.ready md ops L → L.getD q true = false → YieldsIf P ops S0 oi v a → S L w →
      wpAnyL P md ops Q S m (L.setIfInBounds i true) (a.put oi.dst v) w → wpAnyL P md ops Q S (m + 1) L a w := by
  intro m
  induction m with
  | zero =>
    intro L a w _ hr hq hy hS H
    refine ⟨fun h => (by rw [h] at hr; cases hr), fun j hj => ?_⟩
    by_cases hji : j = i
    · subst hji
      exact hy.wpOp hi (hS0 L w hq hS) ⟨(hSi L w).2 hS, H⟩
    · have := ready_mono hj hji
      rw [H.1] at this
      cases this
  | succ m ih =>
    intro L a w hfree hr hq hy hS H
    refine ⟨fun h => (by rw [h] at hr; cases hr), fun j hj => ?_⟩
    by_cases hji : j = i
    · subst hji
      exact hy.wpOp hi (hS0 L w hq hS) ⟨(hSi L w).2 hS, H⟩
    · have h1 := H.2 j (ready_mono hj hji)
      obtain ⟨hjun, oj, hoj, hall⟩ := mem_ready.1 hj
      have hun := (mem_ready.1 hr).1
      have hnot : ∀ e ∈ oj.after, Region.binds md e = true → e.on ≠ i := fun e he hb heq => by
        have t1 := hall e he hb
        rw [heq] at t1
        rcases Nat.lt_or_ge i L.size with t2 | t2
        · simp [t2] at hun t1
          rw [hun] at t1
          cases t1
        · simp [Array.getElem?_eq_none t2] at t1
      have hjq : j ≠ q := fun e => by
        subst e
        rw [hoj] at hoq
        cases hoq
        obtain ⟨ed, he, hb, ho⟩ := hwt
        exact hnot ed he hb ho
      have h2 := wpOp_putIf hoj (hfree j oj hoj hji hjun hnot) (fun cs b => hsel i oi cs b hi) (fun cs b => hsel j oj cs b hoj) hQ hy h1
      have hfree' : ∀ k ok, ops[k]? = some ok → k ≠ i → (L.setIfInBounds j true).getD k true = false →
          (∀ e ∈ ok.after, Region.binds md e = true → e.on ≠ i) → oi.apart ops ok = true := fun k ok hk hki hku hno => by
        refine hfree k ok hk hki ?_ hno
        by_cases hjk : j = k
        · subst hjk; exact hjun
        · rw [getD_set_ne true hjk] at hku; exact hku
      refine wpOp_mono (fun a' w' h3 => ?_) h2
      obtain ⟨h4, h5, h6⟩ := h3
      rw [Array.setIfInBounds_comm _ _ (Ne.symm hji)] at h5 h6
      have h7 := (hSi _ _).1 h5
      exact ⟨h7, ih (L.setIfInBounds j true) a' w' hfree' (ready_mono hr (Ne.symm hji)) (by rw [getD_set_ne true hjq]; exact hq) h4 h7 h6⟩
theorem wpAnyL_take {S0 : World → Prop} {i q : Nat} {oi oq : Oper} {v : Value} {m : Nat} {L : Array Bool} {a : Act} {w : World} (hi : ops[i]? = some oi) (hoq : ops[q]? = some oq)
    (hwt : (oq.after.any fun e => Region.binds md e && e.on == i) = true)
    (hs : Region.noSelect ops = true) (hf : Region.free md ops L i = true) (hr : (Region.ready md ops L).contains i = true) (hq : L.getD q true = false)
    (hQ : ∀ c a w, Q (.panic c) (a.put oi.dst v) w → Q (.panic c) a w)
    (hS0 : ∀ L w, L.getD q true = false → S L w → S0 w) (hSi : ∀ L w, S (L.setIfInBounds i true) w ↔ S L w)
    (hy : YieldsIf P ops S0 oi v a) (hS : S L w)
    (h : wpAnyL P md ops Q S m (L.setIfInBounds i true) (a.put oi.dst v) w) : wpAnyL P md ops Q S (m + 1) L a w :=
  wpAnyL_first hi hoq (by
    obtain ⟨k, hk, he⟩ := Array.any_eq_true.1 hwt
    rw [Bool.and_eq_true] at he
    exact ⟨oq.after[k], Array.getElem_mem hk, he.1, by simpa using he.2⟩) (Region.noSelect_spec hs) hQ hS0 hSi m L a w (Region.free_spec hi hf) (by simpa using hr) hq hy hS h
def AllReadyL (P : Program) (md : Region.Mode) (ops : Array Oper) (Q : Exit → Act → World → Prop) (S : Array Bool → World → Prop) (m : Nat) (L : Array Bool) (a : Act) (w : World) (rs : List Nat) : Prop :=
  ∀ i ∈ rs, wpOp P ops Q i (fun a' w' => S (L.setIfInBounds i true) w' ∧ wpAnyL P md ops Q S m (L.setIfInBounds i true) a' w') a w
theorem AllReadyL.nil {m : Nat} {L : Array Bool} {a : Act} {w : World} : AllReadyL P md ops Q S m L a w [] := fun _ h => by cases h
theorem AllReadyL.cons {m : Nat} {L : Array Bool} {a : Act} {w : World} {i : Nat} {o : Oper} {rs : List Nat} (ho : ops[i]? = some o)
    (h : ∀ K' : Act → World → Prop, Shut (∀ a w, S (L.setIfInBounds i true) w → (S (L.setIfInBounds i true) w → wpAnyL P md ops Q S m (L.setIfInBounds i true) a w) → K' a w) → if Region.wanted o (yielded ops a.tmps) = true then Oper.wp P o a w K' Q else K' (a.put o.dst undef) w)
    (hs : AllReadyL P md ops Q S m L a w rs) : AllReadyL P md ops Q S m L a w (i :: rs) := fun j hj => by
  rcases List.mem_cons.1 hj with rfl | hj
  · exact wpOp_step ho (fun K' hK => h K' (fun a w hS hW => hK a w ⟨hS, hW hS⟩))
  · exact hs j hj
theorem wpAnyL_ready {rs : List Nat} {m : Nat} {L : Array Bool} {a : Act} {w : World} (hr : Region.ready md ops L = rs) (hne : rs ≠ [])
    (h : AllReadyL P md ops Q S m L a w rs) : wpAnyL P md ops Q S (m + 1) L a w := ⟨fun h0 => absurd (hr ▸ h0) hne, hr ▸ h⟩
theorem wpAnyL_done {L : Array Bool} {a : Act} {w : World} (hr : Region.ready md ops L = []) (h : Q .normal a w) : ∀ m, wpAnyL P md ops Q S m L a w
  | 0 => ⟨hr, h⟩
  | _ + 1 => ⟨fun _ => h, by rw [hr]; simp⟩
theorem wp_region_L {id : Nat} {a : Act} {w : World} (hm : P.follows .mixedOrders = true)
    (h : wpAnyL P .any ops Q S ops.size (Array.replicate ops.size false) a w.drew) : (Code.region id ops true).wp P Q a w :=
  wp_region_any hm (wpAnyL.any _ _ _ _ h)
end
/-- two conditions, each as long as an operation has not come up -/
def untilL (q1 q2 : Nat) (A B : World → Prop) (L : Array Bool) (w : World) : Prop := (L.getD q1 true = false → A w) ∧ (L.getD q2 true = false → B w)
theorem untilL_set {q1 q2 i : Nat} {A B : World → Prop} (h1 : i ≠ q1) (h2 : i ≠ q2) (L : Array Bool) (w : World) : untilL q1 q2 A B (L.setIfInBounds i true) w ↔ untilL q1 q2 A B L w := by
  unfold untilL
  rw [getD_set_ne true h1, getD_set_ne true h2]
end Go.RowKit
end
section
namespace Go.Proofs.YtioemkdapoombaaGreatDoor
open Go.ChangeShapes Go.WideShapes Go.ChangeAt Go.RowKit
set_option linter.unusedVariables false
theorem uState : Tryz.prog.underlying 25 = some (.struct (Tryz.prog.fieldsOf 25)) := by kernel_rfl
theorem sState : Tryz.prog.stoodInHeld 25 = false := by kernel_rfl
theorem gState : Tryz.prog.eqGuardType Tryz.prog.depth 25 = false := by kernel_rfl
theorem fState : (Tryz.prog.fieldsOf 25).toList.map (fun f => (f.name, f.type, f.offset)) = [("Height", 2, 0), ("Mask", 2, 1)] := by kernel_rfl
theorem two_fields {l : List Field} {a b : String × TypeId × Nat} (h : l.map (fun f => (f.name, f.type, f.offset)) = [a, b]) : ∃ f0 f1, l = [f0, f1] ∧ (f0.name, f0.type, f0.offset) = a ∧ (f1.name, f1.type, f1.offset) = b := by
  match l, h with
  | [f0, f1], h => simp at h; exact ⟨f0, f1, rfl, by simp [h], by simp [h]⟩
theorem pkI : Tryz.prog.plainKey 2 = true := by kernel_rfl
theorem run_part1 {w : World} {xs : Array Value} {off : Nat} {n : Int} (hx : xs[off]? = some (.int .i64 n)) : (part 2 xs off).run Tryz.prog w = .ok (.int .i64 n) w := run_part_plain w pkI hx
set_option maxRecDepth 100000 in
theorem eqState (w : World) (h m h' m' : Int) : (Op.equalIn 10000 25 (.agg #[.int .i64 h, .int .i64 m]) (.agg #[.int .i64 h', .int .i64 m'])).run Tryz.prog w = .ok (decide (h = h' ∧ m = m')) w := by
  obtain ⟨f0, f1, hf, h0, h1⟩ := two_fields fState
  simp only [Prod.mk.injEq] at h0 h1
  obtain ⟨n0, t0, o0⟩ := h0
  obtain ⟨n1, t1, o1⟩ := h1
  rw [run_equalIn_agg w 9999 _ _ _ uState sState, hf]
  simp only [Op.eqFields, n0, t0, o0, n1, t1, o1, ne_eq, String.reduceEq, not_false_eq_true, if_true, Sem.run_bind]
  rw [run_part1 (n := h) rfl, Result.andThen_ok, run_part1 (n := h') rfl, Result.andThen_ok, run_equalIn_int w 9998 _ .i64 .i64 _ _ Tryz.underlying2, Result.andThen_ok]
  by_cases hh : h = h'
  · subst hh
    simp only [beq_self_eq_true, Bool.not_true, Bool.false_eq_true, if_false, Sem.run_bind]
    rw [run_part1 (n := m) rfl, Result.andThen_ok, run_part1 (n := m') rfl, Result.andThen_ok, run_equalIn_int w 9998 _ .i64 .i64 _ _ Tryz.underlying2, Result.andThen_ok]
    by_cases hm : m = m'
    · subst hm; simp
    · simp [hm]
  · simp [hh]
theorem neState (w : World) (h m h' m' : Int) : (binOp .neq 25 (.agg #[.int .i64 h, .int .i64 m]) (.agg #[.int .i64 h', .int .i64 m'])).run Tryz.prog w = .ok (.bool (!decide (h = h' ∧ m = m'))) w := by
  rw [run_neq_struct, eqState]; rfl
theorem eqlState (w : World) (h m h' m' : Int) : (binOp .eql 25 (.agg #[.int .i64 h, .int .i64 m]) (.agg #[.int .i64 h', .int .i64 m'])).run Tryz.prog w = .ok (.bool (decide (h = h' ∧ m = m'))) w := by
  rw [run_eql_struct, eqState]; rfl
end Go.Proofs.YtioemkdapoombaaGreatDoor
end
