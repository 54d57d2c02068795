/- A map whose keys lie in a list has no more entries than the list. No program. -/
import Derived.Test.YtggffkklfdpmkaaMemMR
import Derived.Test.YtggffkklfdpmkaaPlainD
namespace Go.RowKit
open Go.Maps (Keyed)
open Go.WideElems (Fit rd rg pl rd_val elemAt)
theorem OwnM.fit {P : Program} {K E : TypeId} {lo hi : Nat} {w : World} {b n : Nat} {f : Int → Option Int} (hK : P.underlying K = some (.int .i64)) {L : List Int} (h : OwnM P K E lo hi w b n f) (hL : ∀ k, (f k).isSome = true → k ∈ L) : OwnM P K E lo hi w b L.length f := by
  obtain ⟨h1, h2, D, hD, hI, hr⟩ := h
  refine ⟨h1, h2, D, ?_, hI, hr⟩
  obtain ⟨es, clock, hb, F, hs, rfl⟩ := hD
  refine ⟨es, clock, hb, F, ?_, rfl⟩
  let num : Lit → Int := fun l => match l with | .int _ a => a | _ => 0
  have hap := Maps.fit_apart (Maps.int_keyed hK) F
  have hint : ∀ p ∈ es.toList.map (rg P K (plainElem (H := Unit) P E)), p.1 = .int .i64 (num p.1) ∧ num p.1 ∈ L := fun p hp => by
    have hp' := hp
    obtain ⟨x, hx, rfl⟩ := List.mem_map.1 hp
    obtain ⟨y, hy⟩ := F.reads x hx
    have e1 : (rg P K (plainElem (H := Unit) P E) x).1 = y.1 := by rw [Go.WideElems.rg_of hy]
    obtain ⟨a, -, ha, -⟩ := Maps.keyOf_int_inv hK (Go.WideElems.rd_key hy)
    have e2 : (rg P K (plainElem (H := Unit) P E) x).1 = .int .i64 a := e1.trans ha
    rw [e2]
    refine ⟨rfl, hL a ?_⟩
    rw [← (hr a).1, Maps.has_eq, List.any_eq_true]
    exact ⟨_, mem_sorted.2 hp', by rw [e2]; exact (by rw [sameKey_i64]; simp)⟩
  have hn : ((es.toList.map (rg P K (plainElem (H := Unit) P E))).map fun p => num p.1).Nodup := by
    rw [List.nodup_iff_pairwise_ne, List.pairwise_map]
    refine hap.imp_of_mem fun {p q} hp hq hne e => hne ?_
    rw [(hint p hp).1, (hint q hq).1, e]
  have := Go.Proofs.Ytggffkklfdpmkaa.nodup_len hn (L := L) (fun y hy => by
    obtain ⟨p, hp, rfl⟩ := List.mem_map.1 hy
    exact (hint p hp).2)
  simpa using this
end Go.RowKit
