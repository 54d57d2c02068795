/- From the listed tables to strconv's table; how an event and a dot read. -/
import Derived.Test.YtddfdppoclnpcaaDoorDec
import Derived.Test.YtddfdppoclnpcaaDoorArgs
import Derived.Test.YtddfdppoclnpcaaDoorDot5
import Derived.Test.YtddfdppoclnpcaaDoorArgsF
import Derived.Test.YtddfdppoclnpcaaDoorCards
import Derived.Test.YtddfdppoclnpcaaDoorTie
import Derived.LaidMore
import Derived.Stop.Joined
import Derived.Stop.LaidErr
namespace Go.Proofs.YtddfdppoclnpcaaDoor
open Go.ChangeShapes Go.WideShapes Go.ChangeAt Go.RowKit
set_option linter.unusedVariables false
set_option maxRecDepth 100000 in
theorem tab_of {W : World} (h : laidMetH Tryd.prog [("math/bits.deBruijn32tab", Rows.laid_math_bits_deBruijn32tab), ("math/bits.deBruijn64tab", Rows.laid_math_bits_deBruijn64tab), ("internal/strconv.uint64pow10", Rows.laid_internal_strconv_uint64pow10)] W) : Tab W := by
  rw [MakeChecks.laidMetH_plain _ _ _ (by kernel_rfl)] at h
  have h3 : laidMet Tryd.prog [("internal/strconv.uint64pow10", Lib.tabData .u64 Lib.pow10Tab)] W := h.tail.tail
  exact Lib.tabIs_of_head gTab (by kernel_rfl) Tryd.underlying140 Tryd.underlying119 (by kernel_rfl) (by kernel_rfl) h3
theorem ap_size {a b : ByteArray} {m n : Nat} (ha : a.size ≤ m) (hb : b.size ≤ n) : (a ++ b).size ≤ m + n := by rw [ByteArray.size_append]; omega
def inI (n : Int) : Prop := -9223372036854775808 ≤ n ∧ n ≤ 9223372036854775807
section
variable {H : Type} {enc : TypeId × Value → H} {W : World} {base : Nat} {v : Value} {d : DataW H} {p : List MemPlace}
def Arg_Event (_w : World) (v : Value) : Prop := ∃ (t : Int) (b : Bool) (h q : Int), v = .agg #[.int .i64 t, .bool b, .int .i64 h, .int .i64 q] ∧ inI t ∧ inI h ∧ inI q
theorem cells_Event : Tryd.prog.cellsOf 23 = 4 := by kernel_rfl
theorem cells_bool : Tryd.prog.cellsOf 4 = 1 := by kernel_rfl
set_option maxRecDepth 100000 in
theorem open_Event (hv : Value.okWide Tryd.prog W .any base 23 v) (h : DataW.Trod enc Tryd.prog W 0 (fun _ => true) true 23 v d p) : Arg_Event W v := by
  obtain ⟨cs, hcs, hsz⟩ := okWide_struct Tryd.underlying23 hv
  obtain ⟨n, hn⟩ := trod_here hcs _ h
  obtain ⟨c0, c1, c2, c3, hl⟩ := list4 (cs := cs.toList) (by simpa using hsz.trans cells_Event)
  rw [hl] at hn
  obtain ⟨y0, n0, h0⟩ := field_of Tryd.underlying23 hn 0 2 0 1 rfl cells_int64
  obtain ⟨y1, n1, h1⟩ := field_of Tryd.underlying23 hn 1 4 1 1 rfl cells_bool
  obtain ⟨y2, n2, h2⟩ := field_of Tryd.underlying23 hn 2 2 2 1 rfl cells_int64
  obtain ⟨y3, n3, h3⟩ := field_of Tryd.underlying23 hn 3 2 3 1 rfl cells_int64
  obtain ⟨a, rfl, ha⟩ := isInt_of h0
  obtain ⟨b, hb, _⟩ := DataW.trod_bool Tryd.underlying4 h1
  obtain ⟨e, rfl, he⟩ := isInt_of h2
  obtain ⟨f, rfl, hf⟩ := isInt_of h3
  refine ⟨a, b, e, f, ?_, ha, he, hf⟩
  subst hcs
  congr 1
  apply Array.toList_inj.1
  rw [hl]
  simp at hb
  rw [hb]
def dotIn (a : Dot5) : Prop := inI a.1 ∧ inI a.2.1 ∧ inI a.2.2.1 ∧ inI a.2.2.2.1 ∧ inI a.2.2.2.2
set_option maxRecDepth 100000 in
theorem dot_in {n : Nat} {cs : List Value} {y : DataW H × List MemPlace} (hl : cs.length = 5) (h : DataW.trod enc Tryd.prog W 0 (fun _ => true) true n 31 cs = some y) : ∃ a : Dot5, cs = rowD a ∧ dotIn a := by
  obtain ⟨c0, c1, c2, c3, c4, rfl⟩ := list5 hl
  obtain ⟨y0, n0, h0⟩ := field_of Tryd.underlying31 h 0 2 0 1 rfl cells_int64
  obtain ⟨y1, n1, h1⟩ := field_of Tryd.underlying31 h 1 2 1 1 rfl cells_int64
  obtain ⟨y2, n2, h2⟩ := field_of Tryd.underlying31 h 2 29 2 2 rfl cells_Frac
  obtain ⟨y3, n3, h3⟩ := field_of Tryd.underlying31 h 3 2 4 1 rfl cells_int64
  obtain ⟨z0, m0, t0⟩ := field_of Tryd.underlying29 h2 0 2 0 1 rfl cells_int64
  obtain ⟨z1, m1, t1⟩ := field_of Tryd.underlying29 h2 1 2 1 1 rfl cells_int64
  obtain ⟨a, rfl, ha⟩ := isInt_of h0
  obtain ⟨b, rfl, hb⟩ := isInt_of h1
  obtain ⟨e, rfl, he⟩ := isInt_of t0
  obtain ⟨f, rfl, hf⟩ := isInt_of t1
  obtain ⟨g, rfl, hg⟩ := isInt_of h3
  exact ⟨(a, b, e, f, g), rfl, ha, hb, he, hf, hg⟩
def Arg_Dot (_w : World) (v : Value) : Prop := ∃ a : Dot5, v = .agg #[.int .i64 a.1, .int .i64 a.2.1, .int .i64 a.2.2.1, .int .i64 a.2.2.2.1, .int .i64 a.2.2.2.2] ∧ dotIn a
set_option maxRecDepth 100000 in
theorem open_Dot (hv : Value.okWide Tryd.prog W .any base 31 v) (h : DataW.Trod enc Tryd.prog W 0 (fun _ => true) true 31 v d p) : Arg_Dot W v := by
  obtain ⟨cs, hcs, hsz⟩ := okWide_struct Tryd.underlying31 hv
  obtain ⟨n, hn⟩ := trod_here hcs _ h
  have hl : cs.toList.length = 5 := by simpa using hsz.trans cells_Dot
  obtain ⟨a, ha, hq⟩ := dot_in hl hn
  refine ⟨a, ?_, hq⟩
  subst hcs
  congr 1
  exact Array.toList_inj.1 ha
def Arg_FrameB (w : World) (v : Value) : Prop := ∃ (v1 : Value) (xs : List Dot5) (t : Int), v = .agg #[.int .i64 t, v1] ∧ RdRow 5 rowD w v1 xs ∧ inI t ∧ ∀ x ∈ xs, dotIn x
set_option maxRecDepth 100000 in
theorem open_FrameB (hv : Value.okWide Tryd.prog W .any base 40 v) (h : DataW.Trod enc Tryd.prog W 0 (fun _ => true) true 40 v d p) : Arg_FrameB W v := by
  obtain ⟨cs, hcs, hsz⟩ := okWide_struct Tryd.underlying40 hv
  obtain ⟨n, hn⟩ := trod_here hcs _ h
  obtain ⟨c0, c1, hl⟩ := list2 (cs := cs.toList) (by simpa using hsz.trans cells_Frame)
  rw [hl] at hn
  obtain ⟨y0, n0, h0⟩ := field_of Tryd.underlying40 hn 0 2 0 1 rfl cells_int64
  obtain ⟨y1, n1, h1⟩ := field_of Tryd.underlying40 hn 1 38 1 1 rfl cells_Dots
  obtain ⟨t, rfl, ht⟩ := isInt_of h0
  obtain ⟨xs, hx, hq⟩ := rows_of (row := rowD) (Q := dotIn) Tryd.underlying38 cells_Dot (by decide) rowD_len (fun n cs y hl h => dot_in hl h) h1
  refine ⟨c1, xs, t, ?_, hx, ht, hq⟩
  subst hcs
  congr 1
  exact Array.toList_inj.1 hl
end
end Go.Proofs.YtddfdppoclnpcaaDoor
