/- The chapter's examples: the walk. -/
import Derived.Test.YtegjphfkkafomaaDoorSha13
import Derived.Stop.BytesEq
namespace Go.Proofs.YtegjphfkkafomaaDoor.Sha
open Go.RowKit Go.Proofs Go.Proofs.YtegjphfkkafomaaDoor.Q Go.Proofs.YtegjphfkkafomaaDoorW.PrintWords Go.Proofs.YtegjphfkkafomaaDoorW.PrintLast Go.Proofs.YtegjphfkkafomaaDoorW.PrintMore

theorem cells8_bytes (l : List Nat) (h : ∀ x ∈ l, x < 256) : cells8 l = (l.map UInt8.ofNat).map Extern.Stop.cell := by
  unfold cells8
  rw [List.map_map]
  refine List.map_congr_left fun x hx => ?_
  show _ = Value.int .u8 (Int.ofNat (UInt8.ofNat x).toNat)
  rw [UInt8.toNat_ofNat_of_lt' (h x hx)]
  rfl
theorem bytes_beq (l m : List Nat) (hl : ∀ x ∈ l, x < 256) (hm : ∀ x ∈ m, x < 256) : (l.map UInt8.ofNat == m.map UInt8.ofNat) = (l == m) := by
  rw [Bool.eq_iff_iff, beq_iff_eq, beq_iff_eq]
  refine ⟨fun h => ?_, fun h => by rw [h]⟩
  have h1 : ∀ k : List Nat, (∀ x ∈ k, x < 256) → (k.map UInt8.ofNat).map UInt8.toNat = k := by
    intro k hk
    rw [List.map_map]
    calc k.map (UInt8.toNat ∘ UInt8.ofNat) = k.map id := List.map_congr_left fun x hx => UInt8.toNat_ofNat_of_lt' (hk x hx)
      _ = k := List.map_id k
  rw [← h1 l hl, ← h1 m hm, h]
theorem size5 : ∀ w, (sizeOf 5).run Tryd.prog w = .ok 1 w := fun _ => by kernel_rfl
theorem equalIn_dig (l m : List Nat) (h1 : l.length = 32) (h2 : m.length = 32) (hl : ∀ x ∈ l, x < 256) (hm : ∀ x ∈ m, x < 256) (w : World) :
    (Op.equalIn 10000 24 (.agg (cells8 l).toArray) (.agg (cells8 m).toArray)).run Tryd.prog w = .ok (l == m) w := by
  rw [cells8_bytes l hl, cells8_bytes m hm, run_equalIn_bytes w 9998 24 5 32 und24 Tryd.underlying5 size5 _ _ (by simpa using h1) (by simpa using h2), bytes_beq l m hl hm]
theorem guard_dig (op : BinOp) (x y : Operand) (l m : List Nat) (w : World) : (eqGuard op 24 x y (digV l) (digV m)).run Tryd.prog w = .ok () w :=
  run_eqGuard_agg w op 24 x y _ _ Tryd.eqGuardType24
theorem eql_dig (l m : List Nat) (h1 : l.length = 32) (h2 : m.length = 32) (hl : ∀ x ∈ l, x < 256) (hm : ∀ x ∈ m, x < 256) (w : World) :
    (Go.binOp .eql 24 (digV l) (digV m)).run Tryd.prog w = .ok (.bool (l == m)) w := by
  unfold digV
  rw [run_eql_struct, equalIn_dig l m h1 h2 hl hm]
  rfl
theorem neq_dig (l m : List Nat) (h1 : l.length = 32) (h2 : m.length = 32) (hl : ∀ x ∈ l, x < 256) (hm : ∀ x ∈ m, x < 256) (w : World) :
    (Go.binOp .neq 24 (digV l) (digV m)).run Tryd.prog w = .ok (.bool (!(l == m))) w := by
  unfold digV
  rw [run_neq_struct, equalIn_dig l m h1 h2 hl hm]
  rfl
end Go.Proofs.YtegjphfkkafomaaDoor.Sha
