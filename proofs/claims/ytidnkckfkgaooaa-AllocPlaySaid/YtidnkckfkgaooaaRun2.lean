/- What bits.Run comes to: for every text of at most 2 to 47 bytes, any place, any number. -/
import Derived.RangeFuncWrites
import Derived.RangeFuncBox
import Derived.Test.YtidnkckfkgaooaaRun
namespace Go.Proofs.Ytidnkckfkgaooaa.Ext
open Go.RowKit Go.Shelf Go.Proofs Go.Proofs.YtidnkckfkgaooaaW.PrintWords Go.Proofs.YtidnkckfkgaooaaW.PrintMore
attribute [local go_sem] Oper.semAt_some

/-- bits.clear: what it takes is boxed; the function value captures the boxes. -/
theorem clear_in (n : Nat) (s : ByteArray) (i : Int) (w : World) :
    CallsIn Fence.wide n Try.prog 43 #[.string s, .int .i64 i] w fun e w' => e = .returned (.func (.func 49) #[] #[.pointer (some ⟨w.heap.size + 1, 0, none⟩), .pointer (some ⟨w.heap.size, 0, none⟩)]) ∧ w' = (w.alloc (.cells #[.string s] 9)).alloc (.cells #[.int .i64 i] 3) := by
  refine callsIn_of_wp Try.func43 rfl trivial ?_ rfl
  simp only [Try.ntmps43, List.size_toArray, List.length_cons, List.length_nil, Nat.reduceAdd, Nat.reduceSub, Array.replicate_succ, Array.replicate_zero, List.push_toArray, List.append_toArray, List.nil_append, List.cons_append]
  gi_wp2
  go_ret
  exact ⟨rfl, rfl⟩

theorem clear_stops (n : Nat) (hn : 1 ≤ n) (Bs Bf n₀ : Nat) (s : ByteArray) (i : Int) (hs : s.size ≤ 140737488351232) (hi0 : -9223372036854775808 ≤ i) (hi1 : i ≤ 9223372036854775807) (w : World) (hBs : Bs < n₀) (hBf : Bf < w.heap.size) (hn₀ : n₀ ≤ w.heap.size)
    (hcs : w.cell? ⟨Bs, 0, none⟩ = some (.string s)) (hcf : w.cell? ⟨Bf, 0, none⟩ = some (.int .i64 i)) :
    SeqStopsK Fence.wide n Try.prog 49 #[.pointer (some ⟨Bf, 0, none⟩), .pointer (some ⟨Bs, 0, none⟩)] encs (Below n₀) (fun ys => ys = allRuns s i.toNat) (fun pre => pre <+: allRuns s i.toNat) (allRuns s i.toNat).length w := fun l J Jx W hW _ _ hY h0 =>
  clear1_in n hn l Bs Bf n₀ s i hs hi0 hi1 hBs J Jx hY W ((hW.cell (p := ⟨Bs, 0, none⟩) (Nat.lt_of_lt_of_le hBs hn₀)).trans hcs) ((hW.cell (p := ⟨Bf, 0, none⟩) hBf).trans hcf) h0

/-- The first run of so many. -/
def firstRun (n : Int) (l : List (Int × Int)) : Option (Int × Int) := l.find? fun p => decide (n ≤ p.2)
theorem firstRun_hit {n : Int} {pre : List (Int × Int)} {x : Int × Int} (h : firstRun n pre = none) (hx : n ≤ x.2) : firstRun n (pre ++ [x]) = some x := by
  unfold firstRun at *; rw [List.find?_append, h]; simp [hx]
theorem firstRun_miss {n : Int} {pre : List (Int × Int)} {x : Int × Int} (h : firstRun n pre = none) (hx : x.2 < n) : firstRun n (pre ++ [x]) = none := by
  unfold firstRun at *; rw [List.find?_append, h]; simp; omega
theorem firstRun_prefix {n : Int} {pre l : List (Int × Int)} {p : Int × Int} (h : pre <+: l) (hp : firstRun n pre = some p) : firstRun n l = some p := by
  obtain ⟨r, rfl⟩ := h
  unfold firstRun at *; rw [List.find?_append, hp]; rfl

/-- What Run answers. -/
def runS (s : ByteArray) (i n : Int) : Int := if n < 1 then -1 else ((firstRun n (allRuns s i.toNat)).map (·.1)).getD (-1)

set_option maxRecDepth 100000 in
set_option maxHeartbeats 2000000 in
theorem run_in (s : ByteArray) (i want : Int) (w : World) (hs : s.size ≤ 140737488351232) (hi0 : -9223372036854775808 ≤ i) (hi1 : i ≤ 9223372036854775807) :
    CallsIn Fence.wide 5 Try.prog 21 #[.string s, .int .i64 i, .int .i64 want] w fun e W' => e = .returned (.int .i64 (runS s i want)) ∧ Below w.heap.size w W' := by
  refine callsIn_of_wp_marks Try.func21 rfl trivial ?_ rfl
  simp only [Try.ntmps21, List.size_toArray, List.length_cons, List.length_nil, Nat.reduceAdd, Nat.reduceSub, Array.replicate_succ, Array.replicate_zero, List.push_toArray, List.append_toArray, List.nil_append, List.cons_append]
  by_cases hw : want < 1
  · have hdec : decide (want < 1) = true := decide_eq_true hw
    have Hr := Lib.hid (show runS s i want = -1 by unfold runS; rw [if_pos hw])
    gi_wp2
    refine ⟨.int .i64 (-1), ?_, ?_⟩
    · simp [results, Try.f21, go_sem]
    · rw [Hr.out]
      exact ⟨rfl, ((Below.refl _ _).alloc (Nat.le_refl _) _).alloc (by simp) _⟩
  · have hdec : decide (want < 1) = false := decide_eq_false hw
    have Hr := Lib.hid (show runS s i want = ((firstRun want (allRuns s i.toNat)).map (·.1)).getD (-1) by unfold runS; rw [if_neg hw])
    gi_wp2_with (refine ⟨trivial, ?_⟩; gi_at_call 43; refine (clear_in 4 s i _).mono ?_; rintro e w' ⟨rfl, rfl⟩)

    have bN := Boxed.new w 3 (.int .i64 want)
    have bR := Boxed.new (w.alloc (.cells #[.int .i64 want] 3)) 3 (.int .i64 0)
    have bS := Boxed.new ((w.alloc (.cells #[.int .i64 want] 3)).alloc (.cells #[.int .i64 0] 3)) 9 (.string s)
    have bF := Boxed.new (((w.alloc (.cells #[.int .i64 want] 3)).alloc (.cells #[.int .i64 0] 3)).alloc (.cells #[.string s] 9)) 3 (.int .i64 i)
    simp only [World.size_alloc] at bR bS bF
    have hB0 : Below w.heap.size w ((((w.alloc (.cells #[.int .i64 want] 3)).alloc (.cells #[.int .i64 0] 3)).alloc (.cells #[.string s] 9)).alloc (.cells #[.int .i64 i] 3)) :=
      ((((Below.refl _ w).alloc (Nat.le_refl _) _).alloc (by simp) _).alloc (by simp; omega) _).alloc (by simp; omega) _
    refine wpIn_rangeFunc_ownG rfl (show 1 ≤ 5 from by decide) (gf := 49) (lb := #[.pointer (some ⟨w.heap.size + 1 + 1 + 1, 0, none⟩), .pointer (some ⟨w.heap.size + 1 + 1, 0, none⟩)]) rfl trivial (enters_of Try.func49 (by kernel_rfl) rfl)
      (clear_stops 4 (by decide) (w.heap.size + 1 + 1) (w.heap.size + 1 + 1 + 1) (w.heap.size + 1 + 1 + 1 + 1) s i hs hi0 hi1 _ (by omega) (by simp) (by simp) (bS.alloc _).cell bF.cell) belowK_t (belowK_b (by simp)) (Below.refl _ _) (fun _ => rfl)
      (fun pre W => (firstRun want pre = none ∧ W.cell? ⟨w.heap.size, 0, none⟩ = some (.int .i64 want) ∧ W.cell? ⟨w.heap.size + 1, 0, none⟩ = some (.int .i64 0) ∧ W.frozen? ⟨w.heap.size + 1, 0, none⟩ = false) ∧ Below w.heap.size w W)
      (fun c pre W => (c = .ret ∧ ∃ p, firstRun want pre = some p ∧ W.cell? ⟨w.heap.size + 1, 0, none⟩ = some (.int .i64 p.1)) ∧ Below w.heap.size w W)
      (OwnFrom.and (Own.from (fun s A B row hs hg hr => ⟨hs.1, cell_kept hs.2.1 hg hr, cell_kept hs.2.2.1 hg hr, (frozen_kept hs.2.2.1 hg hr).trans hs.2.2.2⟩) _) (ownFrom_below (Nat.le_refl _) (by simp; omega)))
      (fun c => OwnFrom.and (Own.from (fun s A B row hs hg hr => by obtain ⟨hc, p, e1, e4⟩ := hs; exact ⟨hc, p, e1, cell_kept e4 hg hr⟩) _) (ownFrom_below (Nat.le_refl _) (by simp; omega)))
      ⟨⟨rfl, (((bN.alloc _).alloc _).alloc _).cell, ((bR.alloc _).alloc _).cell, ((bR.alloc _).alloc _).frozen⟩, hB0⟩
      (fun x => { tmps := #[.string s, .int .i64 i, .int .i64 want, undef, undef, .pointer (some ⟨w.heap.size, 0, none⟩), .pointer (some ⟨w.heap.size + 1, 0, none⟩), .int .i64 x.1, .int .i64 x.2, .int .i64 want, .bool false, .string s, .int .i64 i, .func (.func 49) #[] #[.pointer (some ⟨w.heap.size + 1 + 1 + 1, 0, none⟩), .pointer (some ⟨w.heap.size + 1 + 1, 0, none⟩)], .int .i64 x.1, .int .i64 x.2, undef, undef, undef, undef], defers := [] }) ?assign ?body ?done ?stop
    case assign =>
      intro l x W K hK
      gi_wp2
      exact hK
    case body =>
      rintro l pre x W ⟨⟨hp, hcn, hcr, hfr⟩, hB⟩ _
      gi_wp2
      · have hx : want ≤ x.2 := by assumption
        exact ⟨(KeepsOthers.setCell _ _ _).from _, ⟨rfl, x, firstRun_hit hp hx, World.cell?_setCell_same' _ _ _ (by rw [hcr]; rfl)⟩, hB.setCell (p := ⟨w.heap.size + 1, 0, none⟩) (by simp) _⟩
      · have hx : x.2 < want := by assumption
        exact ⟨KeepsFrom.refl _ _, Below.refl _ _, ⟨firstRun_miss hp hx, hcn, hcr, hfr⟩, hB⟩
    case done =>
      rintro D ys W hD rfl ⟨⟨hne, _, hcr, hfr⟩, hB⟩ hK
      gi_wp2
      have hK' := (KeepsOthers.setCell W ⟨w.heap.size + 1, 0, none⟩ (.int .i64 (-1))).same D _ hK rfl
      refine ⟨by simp, .inl ⟨_, _, rfl, run_takeDeferred hK', ?_⟩⟩
      have hc5 := cell_kept (World.cell?_setCell_same' W ⟨w.heap.size + 1, 0, none⟩ (.int .i64 (-1)) (by rw [hcr]; rfl)) (grownBy_putObj' _ D (.deferred none)) (fun r e => by cases e; exact ⟨_, hK', rfl⟩)
      refine ⟨.int .i64 (-1), ?_, by rw [Hr.out, hne]; rfl, (hB.setCell (p := ⟨w.heap.size + 1, 0, none⟩) (by simp) _).trans (belowK_b (w := w) (Nat.le_refl _) _ D _ _ (by simp at hD; omega) hK' rfl rfl)⟩
      simp [results, Try.f21, go_sem, hc5]
    case stop =>
      rintro D c pre W hD hpre ⟨⟨rfl, p, hp, hcr⟩, hB⟩ hK
      gi_wp2
      refine ⟨by simp, .inl ⟨_, _, rfl, run_takeDeferred hK, ?_⟩⟩
      have hc5 := cell_kept hcr (grownBy_putObj' _ D (.deferred none)) (fun r e => by cases e; exact ⟨_, hK, rfl⟩)
      refine ⟨.int .i64 p.1, ?_, by rw [Hr.out, firstRun_prefix hpre hp]; rfl, hB.trans (belowK_b (w := w) (Nat.le_refl _) W D _ _ (by simp at hD; omega) hK rfl rfl)⟩
      simp [results, Try.f21, go_sem, hc5]

end Go.Proofs.Ytidnkckfkgaooaa.Ext
