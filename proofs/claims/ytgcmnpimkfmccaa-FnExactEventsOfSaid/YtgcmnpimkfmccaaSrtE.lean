/- Walks: sort.SliceStable at a slice of events: the row holds a sorted permutation of what it held. -/
import Derived.Test.YtgcmnpimkfmccaaSrtS
import Derived.Lib.ReflectliteSwap
namespace Go.Proofs.Ytgcmnpimkfmccaa
open Go.ChangeShapes Go.WideShapes Go.ChangeAt Go.RowKit Go.Sort Go.Lib Go.Shelf
set_option linter.unusedSimpArgs false
set_option linter.unusedVariables false
noncomputable def siT : TypeInfo := (Try.prog.info? 45).get (by kernel_rfl)
noncomputable def siE : TypeInfo := (Try.prog.info? 100).get (by kernel_rfl)
theorem siK (n : Nat) (h2 : 2 ≤ n) : Lib.swapperK n siE 25 = 9 := by
  have a : siE.hasPointers = false := by kernel_rfl
  have b : siE.bytes = 32 := by kernel_rfl
  have c : (n == 0) = false := by simp; omega
  have d : (n == 1) = false := by simp; omega
  simp [Lib.swapperK, a, b, c, d]
theorem sw_find (n : Nat) : ∃ f, Try.prog.funcs.findIdx? (·.name == "internal/reflectlite" ++ ".Swapper$" ++ toString (Lib.swapperK n siE 25)) = some f ∧ (2 ≤ n → f = 130) := by
  rcases Nat.lt_or_ge n 2 with h | h
  · rcases (by omega : n = 0 ∨ n = 1) with rfl | rfl
    · exact ⟨122, by kernel_rfl, fun h => by omega⟩
    · exact ⟨123, by kernel_rfl, fun h => by omega⟩
  · exact ⟨130, by rw [siK n h]; kernel_rfl, fun _ => rfl⟩
theorem sw_swaps (g n c : Nat) : SwapSwapsK Try.prog 130 #[.slice (some ⟨g, 0, none⟩) n c, typeHandle Try.prog 100] rowE 4 g 0 n :=
  swapSwapsK_of_literal false 130 (fun args W => run_callFunc_extern Try.func130 (by kernel_rfl) (by kernel_rfl) (by kernel_rfl) (e := Extern.ReflectliteSwapper.swap false) (by kernel_rfl) args W)
    100 siE (by kernel_rfl) rowE 4 rowE_len (by kernel_rfl) (fun _ => by kernel_rfl) rowE_one g 0 n c
set_option maxHeartbeats 4000000 in
set_option maxRecDepth 100000 in
theorem c_SliceStable (gl g n c : Nat) (lb : Array Value) (p : Option Addr) (eg : ∀ args w, (callFunc gl args).run Try.prog w = .ok (.enter gl args) w) (d : Array Ev) (w : World) (hp : n = 0 ∨ p = some ⟨g, 0, none⟩) (hls : LessE Try.prog gl lb w g n) (hsz : n ≤ 1000000) (hdn : d.size = n) (hH : HoE w g d) (hg : g < w.heap.size) :
    Calls Try.prog 65 #[.iface 45 (.slice p n c), .func (.func gl) #[] lb] w fun e w' => e = .returned (.tuple #[]) ∧ ∃ d' : Array Ev, HoE w' g d' ∧ UpdS (fun x => x = g) w w' ∧ PermIn 0 n d d' ∧ SortedIn ltE 0 n d' := by
  obtain ⟨f, hf, hf2⟩ := sw_find n
  have hi : Try.prog.info? 45 = some siT := by kernel_rfl
  have hd : siT.desc = .slice 100 := by kernel_rfl
  have hpk : Try.prog.packed 45 = false := by kernel_rfl
  have hie : Try.prog.info? 100 = some siE := by kernel_rfl
  have hke : ∀ w, (Extern.Rtype.kind 100).run Try.prog w = .ok 25 w := fun _ => by kernel_rfl
  have hv := run_valueOf_slice (P := Try.prog) 45 100 siT hi hd p n c w
  have hs := fun w => run_swapper_slice (P := Try.prog) 45 100 siT siE hi hd hie 25 hke p n c f hf w
  have hl := fun a w ha => run_valueLen_slice (P := Try.prog) 45 100 siT hi hd hpk a p n c w ha
  obtain ⟨W2, hW2⟩ : ∃ W2, W2 = (w.alloc (.cells #[.slice p n c] 45)).alloc (.cells #[.pointer (some ⟨Try.prog.globals.size, 45, none⟩), .pointer (some ⟨w.heap.size, 0, none⟩), .int .u64 151] 127) := ⟨_, rfl⟩
  have B2 : Below w.heap.size w W2 := by rw [hW2]; exact ((Below.refl _ _).al _).al _
  have HU2 := Lib.hid (UpdS.of_below (D := fun x => x = g) B2)
  obtain ⟨B, hB⟩ : ∃ B, (if swapperK n siE 25 ≤ 2 then (#[] : Array Value) else #[.slice p n c, typeHandle Try.prog 100]) = B := ⟨_, rfl⟩
  have hsw : SwapE Try.prog f B g n := fun h2 => by
    have hp2 : p = some ⟨g, 0, none⟩ := by
      rcases hp with h | h
      · omega
      · exact h
    rw [← hB, if_neg (by rw [siK n h2]; omega), hf2 h2, hp2]
    exact sw_swaps g n c
  have hst := c_stable gl f g n lb B eg d W2 (fun W dk U => hls W dk (updS_tr HU2.out U)) hsw hsz hdn (hH.below B2) (by have := B2.size; omega)
  rw [hB] at hs
  clear hsw hB hf hf2 hH hls B2 hi hd hpk hie hke hp
  simp only [typeHandle] at hv hl
  (try simp only [show Try.prog.globals.size = 0 from by kernel_rfl] at hv hl hW2)
  go_enter Try.func65, Try.ntmps65
  go_wp2
  rw [run_callFunc_extern Try.func98 (by kernel_rfl) (by kernel_rfl) (by kernel_rfl) (e := fun args => Extern.ReflectliteValue.unpack (args.getD 0 (.tuple #[]))) (by kernel_rfl),
    show Sem.run Try.prog ((fun args : Array Value => Extern.ReflectliteValue.unpack (args.getD 0 (.tuple #[]))) #[.iface 45 (.slice p n c)]) w = _ from hv]
  simp only [Result.andThen]
  rw [Oper.upon_value]
  go_wp2
  rw [run_callFunc_extern Try.func99 (by kernel_rfl) (by kernel_rfl) (by kernel_rfl) (e := Extern.ReflectliteSwapper.swapper "internal/reflectlite" (Extern.ReflectliteValue.valueError "Swapper")) (by kernel_rfl), hs]
  simp only [Result.andThen]
  rw [Oper.upon_value]
  go_wp2
  rw [run_callFunc_extern Try.func101 (by kernel_rfl) (by kernel_rfl) (by kernel_rfl) (e := Extern.ReflectliteValue.method (Extern.ReflectliteValue.valueError "reflectlite.Value.Len" 0) Extern.ReflectliteValue.len) (by kernel_rfl),
    hl _ _ (by simp)]
  simp only [Result.andThen]
  rw [Oper.upon_value]
  rw [← hW2]
  clear hv hs hl hW2
  go_wp2_with fail
  refine hst.mono ?_; rintro e w' ⟨rfl, d', hH', U', hp', hs'⟩
  have HX : Hid (HoE w' g d' ∧ UpdS (fun x => x = g) w w' ∧ PermIn 0 n d d' ∧ SortedIn ltE 0 n d') := ⟨hH', updS_tr HU2.out U', hp', hs'⟩
  clear hst hH' U' hp' hs'
  go_wp2
  go_end0
  exact ⟨rfl, d', HX.out⟩
end Go.Proofs.Ytgcmnpimkfmccaa
