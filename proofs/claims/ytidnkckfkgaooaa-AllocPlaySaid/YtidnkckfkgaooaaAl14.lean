/- Maps of blocks: the chapter's blocks: the walk. -/
import Derived.Test.YtidnkckfkgaooaaAlC
namespace Go.Proofs.Ytidnkckfkgaooaa.Al
open Go.RowKit Go.Shelf Go.Proofs Go.Proofs.Ytidnkckfkgaooaa.Ext Go.Proofs.Ytidnkckfkgaooaa.Pure Go.Proofs.YtidnkckfkgaooaaW.PrintWords Go.Proofs.YtidnkckfkgaooaaW.PrintLast Go.Proofs.YtidnkckfkgaooaaW.PrintMore

theorem zero1 : zeroS ((8 + 7) / 8) = B1 0 := by kernel_rfl
theorem new8 (w : World) : Calls Try.prog 25 #[.int .i64 8] w fun e W => ∃ p, e = .returned (.tuple #[.pointer (some ⟨p, 0, none⟩), .int .i64 0]) ∧ TkI w p 8 (B1 0) [] W := by
  refine (new_some 8 w (by decide) (by decide)).mono ?_
  rintro e W ⟨p, rfl, hm, hp, hB⟩
  rw [zero1] at hm
  exact ⟨p, rfl, hB, hp, hm, fun x hx => by cases hx⟩
theorem TkI.look {w W : World} {p N : Nat} {s : ByteArray} {rows : List (Value × List (Int × Int))} (h : TkI w p N s rows W) {a : Addr} {n c : Nat} {L : List (Int × Int)} (hx : (.slice (some a) n c, L) ∈ rows) (hn : n = L.length) (i : Nat) (x : Int × Int) (hi : L[i]? = some x) :
    W.cell? (a.add (i * 2)) = some (.int .i64 x.1) ∧ W.cell? ⟨(a.add (i * 2)).block, (a.add (i * 2)).off + 1, none⟩ = some (.int .i64 x.2) := by
  subst hn
  obtain ⟨a', ha, h0, h1⟩ := (h.rows _ hx).1.at' i x hi
  obtain rfl := Option.some.inj ha
  rw [← Addr.add_twice] at h1
  refine ⟨h0, ?_⟩
  exact h1
theorem B1_size (b : UInt8) : (B1 b).size ≤ 1000 := by show 1 ≤ 1000; decide
theorem hb03 : ∀ x ∈ [((0 : Int), (3 : Int))], I64 x.1 ∧ I64 x.2 := by
  intro x hx
  obtain rfl := List.mem_singleton.1 hx
  unfold I64
  simp
theorem add_none (a : Addr) : a.add 0 = a := by unfold Addr.add; simp
theorem add_two (a : Addr) : a.add (1 * 2) = ⟨a.block, a.off + 2, none⟩ := by
  unfold Addr.add
  simp
attribute [local irreducible] B1
set_option maxRecDepth 100000 in
set_option maxHeartbeats 4000000 in
theorem took_calls (w : World) : Calls Try.prog 30 #[] w fun e W => e = .returned (.bool true) ∧ Below w.heap.size w W := by
  have H8 := Lib.hid (new8 w)
  go_enter Try.func30, Try.ntmps30
  go_wp2_with (first
    | (go_at_call 25; refine H8.out.mono ?_; rintro e W0 ⟨p, rfl, hT⟩)
    | (go_at_call 26; (refine (hT.take1 (by decide) (B1_size _) 3 (by unfold I64; omega) _ _ tk1 ts1).mono ?_; rintro e W1 ⟨a1, c1, rfl, hT1⟩; clear hT))
    | (go_at_call 26; (refine (hT1.take1 (by decide) (B1_size _) 2 (by unfold I64; omega) _ _ tk2 ts2).mono ?_; rintro e W2 ⟨a2, c2, rfl, hT2⟩; clear hT1))
    | (go_at_call 28; (refine (hT2.give (by decide) (by decide) (B1_size _) _ [(0, 3)] (by simp) (by decide) hb03 true (by rw [gv1]; rfl) (t := B1 24) (by rw [gv1]; rfl)).mono ?_; rintro e W3 ⟨rfl, hT3⟩; clear hT2))
    | (go_at_call 28; (refine (hT3.give (by decide) (by decide) (B1_size _) _ [(0, 3)] (by simp) (by decide) hb03 false (by rw [gv2]; rfl) (t := B1 24) (by rw [gv2]; rfl)).mono ?_; rintro e W4 ⟨rfl, hT4⟩; clear hT3))
    | (go_at_call 26; (refine (hT4.take1 (by decide) (B1_size _) 5 (by unfold I64; omega) _ _ tk3 ts3).mono ?_; rintro e W5 ⟨a3, c3, rfl, hT5⟩; clear hT4))
    | (go_at_call 26; (refine (hT5.take (by decide) (B1_size _) 2 (by unfold I64; omega) _ tk4 ts4).mono ?_; rintro e W6 ⟨o4, c4, rfl, hT6⟩; clear hT5))
    | (go_at_call 26; (refine (hT6.take1 (by decide) (B1_size _) 1 (by unfold I64; omega) _ _ tk5 ts5).mono ?_; rintro e W7 ⟨a5, c5, rfl, hT7⟩; clear hT6; have HBW := Lib.hid hT7.below; obtain ⟨f10, f11⟩ := hT7.look (a := a1) (n := 1) (c := c1) (L := [(0, 3)]) (by simp) rfl 0 (0, 3) rfl; obtain ⟨f20, f21⟩ := hT7.look (a := a2) (n := 1) (c := c2) (L := [(3, 2)]) (by simp) rfl 0 (3, 2) rfl; obtain ⟨f30, f31⟩ := hT7.look (a := a3) (n := 2) (c := c3) (L := [(0, 3), (5, 2)]) (by simp) rfl 0 (0, 3) rfl; obtain ⟨f40, f41⟩ := hT7.look (a := a3) (n := 2) (c := c3) (L := [(0, 3), (5, 2)]) (by simp) rfl 1 (5, 2) rfl; obtain ⟨f50, f51⟩ := hT7.look (a := a5) (n := 1) (c := c5) (L := [(7, 1)]) (by simp) rfl 0 (7, 1) rfl; rw [Nat.zero_mul, add_none] at f10 f20 f30 f50; rw [Nat.zero_mul, add_none] at f11 f21 f31 f51; rw [add_two] at f40 f41; clear hT7)))
  go_ret
  exact ⟨rfl, HBW.out⟩
end Go.Proofs.Ytidnkckfkgaooaa.Al
