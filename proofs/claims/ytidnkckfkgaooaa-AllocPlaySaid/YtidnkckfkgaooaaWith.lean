/- What bits.With and bits.Put come to. -/
import Derived.Laws.IdiomStrings
import Derived.Laws.BytesArg
import Derived.Below
import Derived.Deep.Draws
import Derived.Deep.AppendLies
import Derived.Maps.AppendAt
import Derived.OwnWalk
import Derived.Laws.BytesArg
import Derived.Laws.MakeOwn
import Derived.Laws.OwnMore
import Derived.Deep.OwnRows
import Derived.Tactics
import Derived.Lib.ConvBytes
import Derived.Laws.Slices
import Derived.WalkKit
import Derived.KernelRfl
import Derived.RowKit3
import Derived.Deep.LoopGhost
import Derived.Deep.QuietTactic
import Derived.BigQuiet
import Derived.WideLaws
import Derived.Deep.DeepCutAuto
import Derived.Deep.CutBlock
import Derived.Deep.RegionHeld3
import Derived.Laws.Rows
import Derived.Lib.AppendStr
import Derived.ArgAppend
import Derived.Laws.IdiomCopy
import Derived.OrdersHeld
import Derived.Laws.BitsLemmas
import Derived.RowKit
import Derived.Test.YtidnkckfkgaooaaWWords
import Derived.Test.YtidnkckfkgaooaaWLast
import Derived.Test.YtidnkckfkgaooaaWTab
import Derived.Test.YtidnkckfkgaooaaWFour
import Derived.Test.YtidnkckfkgaooaaWQPut
import Derived.Test.YtidnkckfkgaooaaWApart
import Derived.Test.YtidnkckfkgaooaaWArr
import Derived.Test.YtidnkckfkgaooaaWZeros
import Derived.Test.YtidnkckfkgaooaaWFoot
import Derived.Test.YtidnkckfkgaooaaWKept
import Derived.Test.YtidnkckfkgaooaaWShare
import Derived.Test.YtidnkckfkgaooaaWN
import Derived.Test.YtidnkckfkgaooaaWFootNe
import Derived.Test.YtidnkckfkgaooaaWAt
import Derived.Test.YtidnkckfkgaooaaWEqStruct
import Derived.Test.YtidnkckfkgaooaaWRepsOne
import Derived.Test.YtidnkckfkgaooaaWInv
import Derived.Test.YtidnkckfkgaooaaWInvWords
import Derived.Test.YtidnkckfkgaooaaWGuard
import Derived.Test.YtidnkckfkgaooaaWNEv
import Derived.Test.YtidnkckfkgaooaaWMore
import Derived.Test.YtidnkckfkgaooaaRun2
namespace Go.Proofs.Ytidnkckfkgaooaa.Ext
open Go.RowKit Go.Shelf Go.Proofs Go.Proofs.YtidnkckfkgaooaaW.PrintWords Go.Proofs.YtidnkckfkgaooaaW.PrintLast Go.Proofs.YtidnkckfkgaooaaW.PrintMore

theorem there_neg (s : ByteArray) (i : Int) (w : World) (hi : i < 0) :
    Calls Try.prog 42 #[.string s, .int .i64 i] w fun e w' => e = .returned (.bool false) ∧ w = w' := by
  have h0 : decide (0 ≤ i) = false := decide_eq_false (by omega)
  go_enter Try.func42, Try.ntmps42
  go_wp2
  go_ret
  exact ⟨rfl, rfl⟩

/-- A text's bytes as numbers. -/
def nums (s : ByteArray) : List Int := s.data.toList.map fun b => (b.toNat : Int)

theorem with_not (s : ByteArray) (i : Int) (on : Bool) (w : World) (H : ∀ w, Calls Try.prog 42 #[.string s, .int .i64 i] w fun e w' => e = .returned (.bool false) ∧ w = w') :
    Calls Try.prog 19 #[.string s, .int .i64 i, .bool on] w fun e w' => e = .returned (.string s) ∧ w = w' := by
  have HH := Lib.hid H
  clear H
  go_enter Try.func19, Try.ntmps19
  go_wp2_with (go_at_call 42; refine (HH.out _).mono ?_; rintro e w' ⟨rfl, rfl⟩)
  go_ret
  exact ⟨rfl, rfl⟩

theorem bytesRow_get (s : ByteArray) (c j : Nat) (hj : j < s.size) : (bytesRow s c)[j]? = some (.int .u8 (bt s (j : Int))) := by
  unfold bytesRow bt
  have h1 : j < (s.data.map fun b => Value.int .u8 b.toNat).size := by simpa using hj
  rw [Array.getElem?_append_left h1]
  have h2 : ((j : Int)).toNat = j := by omega
  simp [h2, hj]
  rfl
theorem bytesRow_size (s : ByteArray) (c : Nat) : s.size ≤ (bytesRow s c).size := by
  unfold bytesRow
  simp

theorem row_cell (w : World) (s : ByteArray) (c j : Nat) (hj : j < s.size) (m : Nat × Nat) : (w.alloc (.cells (bytesRow s c) 5 m)).cell? ⟨w.heap.size, j, none⟩ = some (.int .u8 (bt s (j : Int))) := by
  have h : (w.alloc (.cells (bytesRow s c) 5 m)).heap[w.heap.size]? = some (.cells (bytesRow s c) 5 m) := World.alloc_heap_new w _
  simp only [World.cell?, h]
  exact bytesRow_get s c j hj
theorem row_free (w : World) (s : ByteArray) (c j : Nat) (hj : j < s.size) : (w.alloc (.cells (bytesRow s c) 5 ((bytesRow s c).size, (bytesRow s c).size + 1))).frozen? ⟨w.heap.size, j, none⟩ = false := by
  have h := World.alloc_heap_new w (.cells (bytesRow s c) 5 ((bytesRow s c).size, (bytesRow s c).size + 1))
  have := bytesRow_size s c
  simp only [World.frozen?, h]
  simp
  omega

theorem nums_length (s : ByteArray) : (nums s).length = s.size := by unfold nums; simp
theorem nums_get (s : ByteArray) (j : Nat) (hj : j < s.size) : (nums s).getD j 0 = bt s (j : Int) := by
  unfold nums bt
  have h2 : ((j : Int)).toNat = j := by omega
  simp [h2, hj, List.getD]
  rfl

/-- The row, one byte set, back as a text. -/
theorem row_back (w : World) (s : ByteArray) (c c' j : Nat) (hj : j < s.size) (x : Int) (m : Nat × Nat) :
    (convert 64 9 (.slice (some ⟨w.heap.size, 0, none⟩) s.size c')).run Try.prog (((w.alloc (.cells (bytesRow s c) 5 m)).setCell ⟨w.heap.size, j, none⟩ (.int .u8 x)).drew) =
      .ok (.string (strOfNums ((nums s).set j x))) (((w.alloc (.cells (bytesRow s c) 5 m)).setCell ⟨w.heap.size, j, none⟩ (.int .u8 x)).drew) := by
  refine run_convert_bytes_arg _ 64 5 Try.underlying64 Try.underlying5 w.heap.size 0 s.size c' ((nums s).set j x) (by rw [List.length_set, nums_length]) (fun q hq => ?_) 9 Try.underlying9
  rw [Nat.zero_add]
  show ((w.alloc (.cells (bytesRow s c) 5 m)).setCell ⟨w.heap.size, j, none⟩ (.int .u8 x)).cell? ⟨w.heap.size, q, none⟩ = _
  by_cases e : q = j
  · subst e
    rw [World.cell?_setCell_same' _ _ _ (by rw [row_cell w s c q hj m]; rfl)]
    congr 2
    rw [List.getD, List.getElem?_set_self (by rw [nums_length]; exact hj)]
    rfl
  · rw [World.cell?_setCell_other _ _ _ _ (by intro h; injection h; omega), row_cell w s c q hq m]
    congr 2
    rw [List.getD, List.getElem?_set_ne (by omega), ← List.getD, nums_get s q hq]

/-- The text with one bit set, or clear. -/
def withS (s : ByteArray) (i : Nat) (on : Bool) : ByteArray := strOfNums ((nums s).set (i / 8) (Go.bits (if on then BinOp.or else BinOp.andNot) .u8 (bt s ((i : Int) / 8)) (2 ^ (i % 8) % 256)))

theorem with_bit (s : ByteArray) (i : Nat) (on : Bool) (w : World) (hi : i ≤ 9223372036854775807) (hc : thereB s i = true) :
    Calls Try.prog 19 #[.string s, .int .i64 i, .bool on] w fun e w' => e = .returned (.string (withS s i on)) ∧ Below w.heap.size w w' := by
  have HT := there_calls s i w hi
  rw [hc] at HT
  have HH := Lib.hid HT
  clear HT
  have q1 : (i : Int) / 8 < (s.size : Int) := there_sub hc
  have q0 : 0 ≤ (i : Int) / 8 := by omega
  have hconv := fun w => run_bytes_of_string (P := Try.prog) w 9 64 5 s Try.underlying9 Try.underlying64 Try.underlying5
  have hj : i / 8 < s.size := by omega
  have hcell : ∀ c, (w.alloc (.cells (bytesRow s c) 5 ((bytesRow s c).size, (bytesRow s c).size + 1))).cell? ⟨w.heap.size, i / 8, none⟩ = some (.int .u8 (bt s ((i : Int) / 8))) := fun c => by
    have h := row_cell w s c (i / 8) hj ((bytesRow s c).size, (bytesRow s c).size + 1)
    rw [show ((i / 8 : Nat) : Int) = (i : Int) / 8 from by omega] at h
    exact h
  have hfree := fun c => row_free w s c (i / 8) hj
  have hback := fun c c' x => row_back w s c c' (i / 8) hj x ((bytesRow s c).size, (bytesRow s c).size + 1)
  cases on with
  | true =>
    have Hr := Lib.hid (show withS s i true = strOfNums ((nums s).set (i / 8) (Go.bits BinOp.or .u8 (bt s ((i : Int) / 8)) (2 ^ (i % 8) % 256))) from rfl)
    go_enter Try.func19, Try.ntmps19
    go_wp2_with (go_at_call 42; refine HH.out.mono ?_; rintro e w' ⟨rfl, rfl⟩)
    go_ret
    rw [Hr.out]
    exact ⟨rfl, (((Below.refl _ w).alloc (Nat.le_refl _) _).setCell (p := ⟨w.heap.size, i / 8, none⟩) (by simp) _).drew⟩
  | false =>
    have Hr := Lib.hid (show withS s i false = strOfNums ((nums s).set (i / 8) (Go.bits BinOp.andNot .u8 (bt s ((i : Int) / 8)) (2 ^ (i % 8) % 256))) from rfl)
    go_enter Try.func19, Try.ntmps19
    go_wp2_with (go_at_call 42; refine HH.out.mono ?_; rintro e w' ⟨rfl, rfl⟩)
    go_ret
    rw [Hr.out]
    exact ⟨rfl, (((Below.refl _ w).alloc (Nat.le_refl _) _).setCell (p := ⟨w.heap.size, i / 8, none⟩) (by simp) _).drew⟩


/-! ### Put -/

/-- The lowest bytes of a number, so many, the lowest first, behind others. -/
def putGo : Nat → Int → List Int → List Int
  | 0, _, acc => acc
  | k + 1, n, acc => putGo k (n / 256) (acc ++ [n % 256])
/-- What Put answers. -/
def putS (n size : Int) : ByteArray := if 1 ≤ size ∧ size ≤ 8 then strOfNums (putGo size.toNat n []) else ⟨#[]⟩


theorem info5 : (Try.prog.info? 5).map (fun i => (i.zero, i.size, i.bytes)) = some (some (.int .u8 0), 1, 1) := by kernel_rfl

theorem put_none (n size : Int) (w : World) (h : ¬ (1 ≤ size ∧ size ≤ 8)) :
    Calls Try.prog 13 #[.int .u64 n, .int .i64 size] w fun e w' => e = .returned (.string ⟨#[]⟩) ∧ w = w' := by
  by_cases h1 : size < 1
  · have d1 : decide (size < 1) = true := decide_eq_true h1
    clear h
    go_enter Try.func13, Try.ntmps13
    go_wp2
    go_ret
    exact ⟨rfl, rfl⟩
  · have d1 : decide (size < 1) = false := decide_eq_false h1
    have d2 : decide (8 < size) = true := decide_eq_true (by omega)
    clear h
    go_enter Try.func13, Try.ntmps13
    go_wp2
    go_ret
    exact ⟨rfl, rfl⟩

set_option maxHeartbeats 4000000 in
set_option maxRecDepth 100000 in
theorem put_some (n : Int) (c : Nat) (w : World) (h1 : 1 ≤ c) (h8 : c ≤ 8) (hn0 : 0 ≤ n) (hn1 : n < 18446744073709551616) :
    Calls Try.prog 13 #[.int .u64 n, .int .i64 c] w fun e w' => e = .returned (.string (strOfNums (putGo c n []))) ∧ Below w.heap.size w w' := by
  obtain ⟨i0, hi, hz0, hz1, hz2⟩ := info_parts info5
  have hmk : ∀ W : World, (Instr.makeSlice 64 (.int .i64 0) (.int .i64 (c : Int))).run Try.prog W = .ok (.slice (some ⟨W.heap.size, 0, none⟩) 0 c) (W.alloc (.cells (madeCells #[.int .u8 0] c) 5)) := fun W => by
    have h := run_make (P := Try.prog) W 64 5 i0 (.int .u8 0) Try.underlying64 hi hz0 .i64 .i64 0 c (by omega) (by omega) (by rw [hz2]; omega) (by omega)
    rw [hz1, Nat.mul_one] at h
    simpa [Value.cells] using h
  have d1 : decide ((c : Int) < 1) = false := decide_eq_false (by omega)
  have d2 : decide (8 < (c : Int)) = false := decide_eq_false (by omega)
  have hown : Kd.R (Kd.int .u8) 5 (w.alloc (.cells (madeCells #[.int .u8 0] c) 5)) w.heap.size (fun _ => True) (.slice (some ⟨w.heap.size, 0, none⟩) 0 c) ([] : List Int) :=
    Kd.R_of_own (World.ownsRow_made w _ c (Nat.le_refl _) (by unfold maxLen; omega) (by rw [size_madeCells, Nat.mul_one])) (fun _ _ => trivial)
  have HW := Aside0.mk hown
  clear hown hi hz0 hz1 hz2
  go_enter Try.func13, Try.ntmps13
  go_wp2
  clear hmk d1 d2
  go_loopw [0, 5, 15] (fun v0 v5 v15 w' => ∃ (k : Nat) (m : Int) (acc : List Int), v0 = .int .u64 m ∧ v15 = .int .i64 k ∧ k ≤ c ∧ 0 ≤ m ∧ m < 18446744073709551616 ∧ Aside0 (putGo c n [] = putGo (c - k) m acc) ∧ Aside0 (acc.length = k) ∧ Aside0 (Kd.R (Kd.int .u8) 5 w' w.heap.size (fun _ => True) v5 acc) ∧ Aside0 (Below w.heap.size w w')) (fun _ _ i _ => c - (intOf i).toNat)
  case atStart => exact ⟨0, n, [], rfl, rfl, by omega, hn0, hn1, ⟨by simp⟩, ⟨rfl⟩, HW, ⟨(Below.refl _ _).alloc (Nat.le_refl _) _⟩⟩
  case round =>
    clear HW
    obtain ⟨k, m, acc, rfl, rfl, hk, hm0, hm1, HG, HL, HO, HB⟩ := hrel
    by_cases hlt : k < c
    · have Hnext := Aside0.mk (show putGo c n [] = putGo (c - (k + 1)) (m / 256) (acc ++ [m % 256]) by
        rw [HG.out, show c - k = (c - (k + 1)) + 1 from by omega]
        rfl)
      go_wp2_with (first | ((with_reducible refine gate_builtin (b := .append) (xs := #[.tmp 17, .tmp 20]) rfl ?_); at_builtin; refine Kd.R_append (Kd.int .u8) (w0 := w) w.heap.size rfl (.tmp 17) (.tmp 20) 64 5 (.int .u8 0) 1 rfl Try.underlying64 info5 rfl (by decide) (by omega) u5 acc (m % 256) [.int .u8 (m % 256)] (fun _ => True) (fun _ => False) rfl rfl ?aP (fun _ hk => hk.elim) ?aF ?aO ?aB ?aS ?aL ?_; (case aP => exact rfl); (case aB => exact (by repeat (first | (with_reducible first | exact HB.out | apply below_alloc | apply pw_below_drewN | apply below_drew1) | exact HB.out))); (case aF => exact (fun _ _ => trivial)); (case aO => exact (by (with_reducible repeat (first | apply Kd.R_alloc | apply Kd.R_drewN | apply Kd.R_drew)); exact HO.out)); (case aS => exact (below_size (by repeat (first | (with_reducible first | exact HB.out | apply below_alloc | apply pw_below_drewN | apply below_drew1) | exact HB.out)))); (case aL => have := HL.out; omega); intro v105 w6 ho hb hg hat; have n0_ := Aside0.mk (hb); have n1_ := Aside0.mk (ho); clear HB; clear HO; have HB := n0_; have HO106 := n1_; clear n0_ n1_; clear ho hb hg hat))
      go_roundw
      case rel => exact ⟨k + 1, m / 256, acc ++ [m % 256], rfl, by go_num, by omega, by omega, by omega, Hnext, ⟨by rw [List.length_append, HL.out]; rfl⟩, HO106, HB⟩
      case measure => simp [intOf]; omega
    · have hfin : putGo c n [] = acc := by
        rw [HG.out, show c - k = 0 from by omega]
        rfl
      have Hfin := Lib.hid hfin
      clear hfin
      have hcv := own_string (P := Try.prog) Try.underlying64 Try.underlying5 Try.underlying9 (Kd.own_of_R HO.out)
      go_wp2
      go_ret
      rw [Hfin.out]
      exact ⟨rfl, HB.out⟩

end Go.Proofs.Ytidnkckfkgaooaa.Ext
