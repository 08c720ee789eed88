/- bits.Put, bits.With and bits.Run as plain Lean functions, and that the calls answer as they do. -/
import Derived.Test.YtidnkckfkgaooaaWith
namespace Go.Proofs.Ytidnkckfkgaooaa.Q
open Go.RowKit Go.Shelf Go.Proofs Go.Proofs.YtidnkckfkgaooaaW.PrintWords Go.Proofs.YtidnkckfkgaooaaW.PrintLast Go.Proofs.YtidnkckfkgaooaaW.PrintMore

def bits_Put.f (a0 : Int) (a1 : Int) : Option (ByteArray) := if 0 ≤ a0 ∧ a0 < 18446744073709551616 then some (Ext.putS a0 a1) else none
theorem bits_Put.calls (a0 : Int) (a1 : Int) (r : ByteArray) (w : World) (h : bits_Put.f a0 a1 = some r) :
    Calls Try.prog 13 #[.int .u64 a0, .int .i64 a1] w fun e w' => e = .returned (.string r) ∧ Below w.heap.size w w' := by
  unfold bits_Put.f at h
  split at h
  · rename_i hb
    cases h
    unfold Ext.putS
    split
    · rename_i hs
      obtain ⟨c, rfl⟩ := Int.eq_ofNat_of_zero_le (show 0 ≤ a1 by omega)
      rw [Int.toNat_natCast]
      exact Ext.put_some a0 c w (by omega) (by omega) hb.1 hb.2
    · rename_i hs
      exact (Ext.put_none a0 a1 w hs).mono fun e w' ⟨he, hw⟩ => ⟨he, by rw [← hw]; exact Below.refl _ _⟩
  · cases h

def bits_With.f (a0 : ByteArray) (a1 : Int) (a2 : Bool) : Option (ByteArray) := if a1 ≤ 9223372036854775807 then some (if 0 ≤ a1 ∧ Ext.thereB a0 a1.toNat = true then Ext.withS a0 a1.toNat a2 else a0) else none
theorem bits_With.calls (a0 : ByteArray) (a1 : Int) (a2 : Bool) (r : ByteArray) (w : World) (h : bits_With.f a0 a1 a2 = some r) :
    Calls Try.prog 19 #[.string a0, .int .i64 a1, .bool a2] w fun e w' => e = .returned (.string r) ∧ Below w.heap.size w w' := by
  unfold bits_With.f at h
  split at h
  · rename_i hb
    cases h
    by_cases h0 : 0 ≤ a1
    · obtain ⟨c, rfl⟩ := Int.eq_ofNat_of_zero_le h0
      rw [Int.toNat_natCast]
      cases hc : Ext.thereB a0 c with
      | true =>
        rw [if_pos ⟨h0, rfl⟩]
        exact Ext.with_bit a0 c a2 w (by omega) hc
      | false =>
        rw [if_neg (by simp)]
        exact (Ext.with_not a0 c a2 w (fun w => by have := Ext.there_calls a0 c w (by omega); rw [hc] at this; exact this)).mono fun e w' ⟨he, hw⟩ => ⟨he, by rw [← hw]; exact Below.refl _ _⟩
    · rw [if_neg (fun z => h0 z.1)]
      exact (Ext.with_not a0 a1 a2 w (fun w => Ext.there_neg a0 a1 w (by omega))).mono fun e w' ⟨he, hw⟩ => ⟨he, by rw [← hw]; exact Below.refl _ _⟩
  · cases h

def bits_Run.f (a0 : ByteArray) (a1 : Int) (a2 : Int) : Option (Int) := if a0.size ≤ 140737488351232 ∧ -9223372036854775808 ≤ a1 ∧ a1 ≤ 9223372036854775807 then some (Ext.runS a0 a1 a2) else none
theorem bits_Run.calls (a0 : ByteArray) (a1 : Int) (a2 : Int) (r : Int) (w : World) (h : bits_Run.f a0 a1 a2 = some r) :
    Calls Try.prog 21 #[.string a0, .int .i64 a1, .int .i64 a2] w fun e w' => e = .returned (.int .i64 r) ∧ Below w.heap.size w w' := by
  unfold bits_Run.f at h
  split at h
  · rename_i hb
    cases h
    exact callsIn_wide.1 (Ext.run_in a0 a1 a2 w hb.1 hb.2.1 hb.2.2)
  · cases h

end Go.Proofs.Ytidnkckfkgaooaa.Q
