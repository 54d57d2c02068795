/- The law OrdersX: what it rests on, part 30 of 48. -/
import Derived.Test.YtgcmnpimkfmccaaQOrdersX22
import Derived.Test.YtgcmnpimkfmccaaQOrdersX28
import Derived.Deep.RegionLaw
import Derived.Deep.RegionHeld3
import Derived.Test.YtgcmnpimkfmccaaQOrdersX08
import Derived.Test.YtgcmnpimkfmccaaQOrdersX21
import Derived.Test.YtgcmnpimkfmccaaQOrdersX02
import Derived.Test.YtgcmnpimkfmccaaQOrdersX04
section
namespace Go.Proofs.Ytgcmnpimkfmccaa
open Go.ChangeShapes Go.WideShapes Go.ChangeAt Go.RowKit
set_option linter.unusedSimpArgs false
set_option linter.unusedVariables false
theorem take_row {L : List Int} {k : Nat} (hk : k < L.length) : L.take (k + 1) = L.take k ++ [L.getD k 0] := by
  rw [List.take_add_one, List.getElem?_eq_getElem hk]; simp [List.getD, hk]
end Go.Proofs.Ytgcmnpimkfmccaa
end
section
namespace Go.Proofs.Ytgcmnpimkfmccaa
open Go.ChangeShapes Go.WideShapes Go.ChangeAt Go.RowKit
set_option linter.unusedVariables false
theorem perm_sumG {n : Nat} {f : Nat → Nat} (g : Nat → Int) (hf : ∀ i, i < n → f i < n) (hi : ∀ i j, i < n → j < n → f i = f j → i = j) : sumN (fun i => g (f i)) n = sumN g n := by
  have h1 : sumN (fun i => g (f i)) n = sumN (fun i => sumN (fun v => if v = f i then g v else 0) n) n := sumN_congr fun i hin => by
    have e : sumN (fun v => if v = f i then g v else 0) n = sumN (fun v => if v = f i then g (f i) else 0) n := sumN_congr fun v _ => by
      by_cases h : v = f i
      · rw [if_pos h, if_pos h, h]
      · rw [if_neg h, if_neg h]
    rw [e, sumN_single, if_pos (hf i hin)]
  rw [h1, sumN_swap (fun i v => if v = f i then g v else 0) n n]
  refine sumN_congr fun v hv => ?_
  have e : sumN (fun i => if v = f i then g v else 0) n = sumN (fun i => g v * (if f i = v then 1 else 0)) n := sumN_congr fun i _ => by
    by_cases h : f i = v
    · rw [if_pos h.symm, if_pos h, Int.mul_one]
    · rw [if_neg (fun e => h e.symm), if_neg h, Int.mul_zero]
  rw [e, sumN_mul, hits_one hf hi v hv, Int.mul_one]
theorem sum_range (f : Nat → Int) (n : Nat) : ((List.range n).map f).sum = sumN f n := by
  induction n with
  | zero => rfl
  | succ n ih => rw [List.range_succ, List.map_append, List.sum_append, ih]; simp [sumN]
theorem lastI_take {O : List Int} {j : Nat} (hj : j < O.length) : lastI (O.take (j + 1)) = (O.getD j 0).toNat := by
  rw [take_row hj]; simp [lastI]
theorem lastI_full {O : List Int} (h : 0 < O.length) : lastI O = (O.getD (O.length - 1) 0).toNat := by
  have := lastI_take (O := O) (j := O.length - 1) (by omega)
  rw [show O.length - 1 + 1 = O.length by omega, List.take_length] at this
  exact this
def oI (O : List Int) (i : Nat) : Nat := (O.getD i 0).toNat
theorem oI_lt {n : Nat} {O : List Int} (h : PathO n O) {i : Nat} (hi : i < O.length) : oI O i < n ∧ O.getD i 0 = (oI O i : Int) := by
  have hm : O.getD i 0 ∈ O := by rw [List.getD_eq_getElem?_getD, List.getElem?_eq_getElem hi]; exact List.getElem_mem hi
  have := h.rg _ hm
  unfold oI
  omega
theorem oI_inj {n : Nat} {O : List Int} (h : PathO n O) {i j : Nat} (hi : i < O.length) (hj : j < O.length) (he : oI O i = oI O j) : i = j := by
  have e1 := (oI_lt h hi).2
  have e2 := (oI_lt h hj).2
  have e3 : O[i] = O[j] := by
    rw [List.getD_eq_getElem?_getD, List.getElem?_eq_getElem hi] at e1
    rw [List.getD_eq_getElem?_getD, List.getElem?_eq_getElem hj] at e2
    simp only [Option.getD_some] at e1 e2
    omega
  have hpw := List.pairwise_iff_getElem.1 h.nd
  rcases Nat.lt_trichotomy i j with hlt | hlt | hlt
  · exact absurd e3 (hpw i j hi hj hlt)
  · exact hlt
  · exact absurd e3.symm (hpw j i hj hi hlt)
end Go.Proofs.Ytgcmnpimkfmccaa
end
section
section
set_option linter.unusedVariables false
namespace Go.Proofs.Ytgcmnpimkfmccaa
section
variable {p : List Int}
end
end Go.Proofs.Ytgcmnpimkfmccaa
end
section
set_option linter.unusedVariables false
namespace Go.Proofs.Ytgcmnpimkfmccaa
/-- throws that are possible one behind the other, from one state to another -/
def Wk (h : Int) : Int → List Int → Int → Prop
  | m, [], m' => m = m'
  | m, t :: ts, m' => canB h m t = true ∧ Wk h (nextM m t) ts m'
theorem Wk.append {h : Int} : ∀ {xs : List Int} {m m1 m2 : Int} {ys : List Int}, Wk h m xs m1 → Wk h m1 ys m2 → Wk h m (xs ++ ys) m2
  | [], m, m1, m2, ys, h1, h2 => by have e : m = m1 := h1; subst e; exact h2
  | t :: ts, m, m1, m2, ys, h1, h2 => ⟨h1.1, Wk.append h1.2 h2⟩
theorem Wk.mem {n h : Int} (hh : 1 ≤ h ∧ h ≤ 10) : ∀ {xs : List Int} {m m' : Int}, m ∈ maskL n h → Wk h m xs m' → m' ∈ maskL n h
  | [], m, m', hm, h1 => by have e : m = m' := h1; subst e; exact hm
  | t :: ts, m, m', hm, h1 => Wk.mem hh (next_mem hh hm h1.1) h1.2
/-- the state behind the first k throws -/
def rnM (m : Int) (xs : List Int) (k : Nat) : Int := (xs.take k).foldl nextM m
theorem Wk.at {h : Int} : ∀ {xs : List Int} {m m' : Int}, Wk h m xs m' → (∀ k, k < xs.length → canB h (rnM m xs k) (xs.getD k 0) = true) ∧ rnM m xs xs.length = m'
  | [], m, m', h1 => ⟨fun k hk => by simp at hk, h1⟩
  | t :: ts, m, m', h1 => by
    obtain ⟨h2, h3⟩ := Wk.at h1.2
    refine ⟨fun k hk => ?_, ?_⟩
    · cases k with
      | zero => exact h1.1
      | succ k => exact h2 k (by simpa using hk)
    · exact h3
section
variable {n h m : Int} {xs : List Int}
end
end Go.Proofs.Ytgcmnpimkfmccaa
end
end
section
namespace Go.Proofs.Ytgcmnpimkfmccaa
open Go.ChangeShapes Go.WideShapes Go.ChangeAt Go.RowKit
set_option linter.unusedVariables false
set_option linter.unusedSimpArgs false
theorem OwnG.nil {ES e : TypeId} {lo hi : Nat} (w : World) : OwnG ES e lo hi w (.slice none 0 0) [] :=
  ⟨[], rfl, ⟨by simp, Or.inl ⟨rfl, rfl⟩⟩, fun k hk => by simp [Value.ownBlock] at hk, fun i hi => by simp at hi, fun i j hi => by simp at hi, fun i b hi => by simp at hi⟩
end Go.Proofs.Ytgcmnpimkfmccaa
end
section
namespace Go.Proofs.Ytgcmnpimkfmccaa
open Go.ChangeShapes Go.WideShapes Go.ChangeAt Go.RowKit
set_option linter.unusedVariables false
/-- what is still to come behind an order -/
def costR (F : Far) (O : List Int) : List Int → Int
  | [] => F.last.getD (lastI O) 0
  | k :: R => costO F O k.toNat + costR F (O ++ [k]) R
theorem costR_nonneg {F : Far} (hc : ∀ O k, 0 ≤ costO F O k) (hl : ∀ k, 0 ≤ F.last.getD k 0) : ∀ R O, 0 ≤ costR F O R
  | [], O => hl _
  | k :: R, O => by
    have h1 := hc O k.toNat
    have h2 := costR_nonneg hc hl R (O ++ [k])
    show 0 ≤ costO F O k.toNat + costR F (O ++ [k]) R
    omega
theorem foldO_keep (F : Far) (d : Nat) (O : List Int) (s : Int) (b : Option (List Int × Int)) {k : Nat} {q : List Int × Int} (h : foldO F d O s b k = some q) : ∀ j, ∃ r, foldO F d O s b (k + j) = some r ∧ r.2 ≤ q.2
  | 0 => ⟨q, h, Int.le_refl _⟩
  | j + 1 => by
    obtain ⟨r, hr, hl⟩ := foldO_keep F d O s b h j
    rw [← Nat.add_assoc, foldO_succ, hr]
    unfold roundO
    split
    · exact ⟨r, rfl, hl⟩
    · obtain ⟨r2, h2, hl2⟩ := walkO_some F d (O ++ [((k + j : Nat) : Int)]) (s + costO F O (k + j)) r
      exact ⟨r2, h2, by omega⟩
/-- what the search keeps is not longer than any order -/
theorem walkO_least {F : Far} (hc : ∀ O k, 0 ≤ costO F O k) (hl : ∀ k, 0 ≤ F.last.getD k 0) : ∀ d O s b R, PathO F.first.length (O ++ R) → R.length = d → ∃ q, walkO F d O s b = some q ∧ q.2 ≤ s + costR F O R
  | 0, O, s, b, R, hp, hR => by
    obtain rfl : R = [] := List.eq_nil_of_length_eq_zero hR
    have hl0 := hl (lastI O)
    show ∃ q : List Int × Int, walkO F 0 O s b = some q ∧ q.2 ≤ s + F.last.getD (lastI O) 0
    cases h : cutO b s
    · rw [walkO_zero F O s _ h]
      cases b with
      | none => exact ⟨_, rfl, Int.le_refl _⟩
      | some p =>
        unfold betO
        by_cases h2 : s + F.last.getD (lastI O) 0 < p.2
        · simp only [h2, if_true]; exact ⟨_, rfl, Int.le_refl _⟩
        · simp only [h2, if_false]; exact ⟨_, rfl, by omega⟩
    · rw [walkO_cut F _ O s _ h]
      cases b with
      | none => cases h
      | some p =>
        have h2 : p.2 ≤ s := by simpa [cutO] using h
        exact ⟨p, rfl, by omega⟩
  | d + 1, O, s, b, [], hp, hR => by simp at hR
  | d + 1, O, s, b, k :: R, hp, hR => by
    have hnn := costR_nonneg hc hl R (O ++ [k])
    have hck := hc O k.toNat
    show ∃ q : List Int × Int, walkO F (d + 1) O s b = some q ∧ q.2 ≤ s + (costO F O k.toNat + costR F (O ++ [k]) R)
    cases h : cutO b s
    · rw [walkO_succ F d O s _ h]
      have hrg := hp.rg k (by simp)
      have hnd : k ∉ O := by
        have h3 := hp.nd
        rw [List.nodup_append] at h3
        intro hm
        exact h3.2.2 k hm k (by simp) rfl
      have ek : (k.toNat : Int) = k := by omega
      obtain ⟨q, hq, hl2⟩ := walkO_least hc hl d (O ++ [k]) (s + costO F O k.toNat) (foldO F d O s b k.toNat) R (by rw [List.append_assoc]; exact hp) (by simpa using hR)
      have h4 : foldO F d O s b (k.toNat + 1) = some q := by
        rw [foldO_succ]
        unfold roundO
        rw [ek, if_neg hnd]
        exact hq
      obtain ⟨r, hr, hl3⟩ := foldO_keep F d O s b h4 (F.first.length - (k.toNat + 1))
      rw [show k.toNat + 1 + (F.first.length - (k.toNat + 1)) = F.first.length by omega] at hr
      exact ⟨r, hr, by omega⟩
    · rw [walkO_cut F _ O s _ h]
      cases b with
      | none => cases h
      | some p =>
        have h2 : p.2 ≤ s := by simpa [cutO] using h
        exact ⟨p, rfl, by omega⟩
/-- numbers from a on -/
def upL (a : Nat) : Nat → List Int
  | 0 => []
  | m + 1 => (a : Int) :: upL (a + 1) m
theorem upL_len : ∀ m a, (upL a m).length = m
  | 0, _ => rfl
  | m + 1, a => by show (upL (a + 1) m).length + 1 = m + 1; rw [upL_len m]
theorem upL_mem : ∀ m a x, x ∈ upL a m → ((a : Int) ≤ x ∧ x < (a : Int) + m)
  | 0, a, x, h => by simp [upL] at h
  | m + 1, a, x, h => by
    rcases List.mem_cons.1 h with rfl | h
    · omega
    · have := upL_mem m (a + 1) x h; omega
theorem upL_nd : ∀ m a, (upL a m).Nodup
  | 0, _ => List.nodup_nil
  | m + 1, a => List.nodup_cons.2 ⟨fun h => by have := upL_mem m (a + 1) _ h; omega, upL_nd m (a + 1)⟩
/-- the places that a tour has seen -/
def seenF (O : List Int) : Nat → Nat → Bool
  | 0, _ => false
  | k + 1, v => if v = oI O k then true else seenF O k v
theorem seenF_not {n : Nat} {O : List Int} (hp : PathO n O) {j : Nat} (hj : j < O.length) : ∀ k, k ≤ j → seenF O k (oI O j) = false
  | 0, _ => rfl
  | k + 1, h => by
    show (if oI O j = oI O k then true else seenF O k (oI O j)) = false
    rw [if_neg (fun e => by have := oI_inj hp hj (by omega) e; omega)]
    exact seenF_not hp hj k (by omega)
end Go.Proofs.Ytgcmnpimkfmccaa
end
section
namespace Go.Proofs.Ytgcmnpimkfmccaa
open Go.ChangeShapes Go.WideShapes Go.ChangeAt Go.RowKit
set_option linter.unusedSimpArgs false
set_option linter.unusedVariables false
def repL (p : List Int) (t : Nat) : List Int := (List.replicate t p).flatten
theorem repL_succ (p : List Int) (t : Nat) : repL p (t + 1) = repL p t ++ p := by
  unfold repL
  rw [List.replicate_succ', List.flatten_append]; simp
theorem repL_len (p : List Int) (t : Nat) : (repL p t).length = t * p.length := by
  induction t with
  | zero => simp [repL]
  | succ t ih => rw [repL_succ, List.length_append, ih, Nat.succ_mul]
theorem some_slice {E : TypeId} {B k : Nat} {w : World} {v : Value} {xs : List Int} (h : OwnI E B w v xs) (hb : v.ownBlock = some k) : ∃ ad n cap, v = .slice (some ad) n cap := by
  rcases h.2 with ⟨rfl, _⟩ | ⟨g, cap, cur, rfl, _⟩
  · cases hb
  · exact ⟨_, _, _, rfl⟩
theorem some_block {v : Value} (h : ∃ ad n cap, v = .slice (some ad) n cap) : ∃ k, v.ownBlock = some k := by
  obtain ⟨ad, n, cap, rfl⟩ := h
  exact ⟨ad.block, rfl⟩
theorem some_next {E : TypeId} {B m : Nat} {w : World} {v v' : Value} {xs : List Int} (hv : ∃ ad n cap, v = .slice (some ad) n cap) (h : OwnI E B w v' xs) (hat : v'.ownBlock = v.ownBlock ∨ v'.ownBlock = some m) : ∃ ad n cap, v' = .slice (some ad) n cap := by
  obtain ⟨k, hk⟩ := some_block hv
  rcases hat with h1 | h1
  · exact some_slice h (h1.trans hk)
  · exact some_slice h h1
set_option maxHeartbeats 2000000 in
set_option maxRecDepth 100000 in
theorem c_impl_repeated (p : List Int) (tm : Nat) (v : Value) (w : World) (hr : RdI w v p) (hp : p.length ≤ 1000) (ht : tm ≤ 1000) :
    Calls Try.prog 90 #[v, .int .i64 (tm : Int)] w fun e w' => ∃ u, e = .returned u ∧ OwnI1 w.heap.size w' u (repL p tm) ∧ Below w.heap.size w w' := by
  have HRW := Lib.hid hr
  have ho : OwnI1 w.heap.size (w.alloc (Obj.cells #[] 2)) (.slice (some ⟨w.heap.size, 0, none⟩) 0 0) (repL p 0) := OwnI.made rfl rfl (Nat.le_refl _)
  have hb0 : Below w.heap.size w (w.alloc (Obj.cells #[] 2)) := (Below.refl _ _).al _
  clear hr
  go_enter Try.func90, Try.ntmps90
  go_wp2_with fail
  go_loopw [5, 8] (fun out i wr => ∃ t : Nat, t ≤ tm ∧ i = .int .i64 t ∧ OwnI1 w.heap.size wr out (repL p t) ∧ (∃ ad n cap, out = .slice (some ad) n cap) ∧ Below w.heap.size w wr) (fun _ i _ => tm - (intOf i).toNat)
  case atStart => exact ⟨0, by omega, rfl, ho, ⟨_, _, _, rfl⟩, hb0⟩
  case round =>
    clear ho hb0
    obtain ⟨t, htt, rfl, hout, hso, hb⟩ := hrel
    obtain ⟨ad2, n2, cap2, hse⟩ := hso
    subst hse
    have hlo := World.ownsRow.lt hout
    have hbs := hb.size
    by_cases hlt : t < tm
    · have HRS := Lib.hid (repL_succ p t)
      have hll : (repL p t).length + p.length < 1000000000 := by
        rw [repL_len]
        have : t * p.length ≤ 1000 * 1000 := Nat.mul_le_mul (by omega) hp
        omega
      have hrr := HRW.out.below hb
      have ht0 : (0 : Int) ≤ (t : Int) := by omega
      go_wp2_with (at_builtin; refine push_ints rfl _ _ _ _ rfl Try.underlying28 infoI w.heap.size _ _ (repL p t) p _ rfl rfl (by exact hout) ⟨_, _, _, rfl⟩ (by exact hrr) hll hbs ?_; intro v9 w9 ho9 hg9 hat9 hs9; refine stop_of ?_)
      unfold Stopped
      have hso9 := some_next ⟨_, _, _, rfl⟩ ho9 hat9
      rw [← HRS.out] at ho9
      have HO9 := Lib.hid ho9
      have B9 : Below w.heap.size w w9 := hb.grown hg9 hbs (fun q hq => (hlo q hq).1)
      clear ho9
      go_wp2
      go_roundw
      case rel => exact ⟨t + 1, by omega, by go_num, HO9.out, hso9, B9⟩
      case measure => simp [intOf]; omega
    · obtain rfl : t = tm := by omega
      go_wp2
      go_ret
      exact ⟨_, rfl, hout, hb⟩
end Go.Proofs.Ytgcmnpimkfmccaa
end
