/- A disk: how many sectors, how many loose writes, is it up; a disk that is none. -/
import Derived.Test.YteblobookpldfaaSeA
namespace Go.Proofs.Yteblobookpldfaa.Se
open Go.RowKit Go.Shelf Go.Proofs

section
variable {W : World} {F : Nat → Prop} {p : Nat} {sv lv kv : Value} {d : Dk}
theorem DAt.c0 (h : DAt W F p sv lv kv d) : W.cell? ⟨p, 0, none⟩ = some sv := by rw [block_cell h.m]; rfl
theorem DAt.c1 (h : DAt W F p sv lv kv d) : W.cell? ⟨p, 1, none⟩ = some lv := by rw [block_cell h.m]; rfl
theorem DAt.c2 (h : DAt W F p sv lv kv d) : W.cell? ⟨p, 2, none⟩ = some (.bool d.down) := by rw [block_cell h.m]; rfl
theorem DAt.c3 (h : DAt W F p sv lv kv d) : W.cell? ⟨p, 3, none⟩ = some (.int .i64 d.starts) := by rw [block_cell h.m]; rfl
theorem DAt.c4 (h : DAt W F p sv lv kv d) : W.cell? ⟨p, 4, none⟩ = some (.bool d.fails) := by rw [block_cell h.m]; rfl
theorem DAt.c5 (h : DAt W F p sv lv kv d) : W.cell? ⟨p, 5, none⟩ = some (.int .i64 d.left) := by rw [block_cell h.m]; rfl
theorem DAt.c6 (h : DAt W F p sv lv kv d) : W.cell? ⟨p, 6, none⟩ = some kv := by rw [block_cell h.m]; rfl
theorem DAt.fz (h : DAt W F p sv lv kv d) (j : Nat) : W.frozen? ⟨p, j, none⟩ = false := block_frozen h.m j
end
set_option maxHeartbeats 1000000 in
theorem size_calls {W : World} {F : Nat → Prop} {p : Nat} {sv lv kv : Value} {d : Dk} (h : DAt W F p sv lv kv d) : Calls Try.prog 19 #[.pointer (some ⟨p, 0, none⟩)] W fun e w' => e = .returned (.int .i64 (d.sure.length : Int)) ∧ W = w' := by
  obtain ⟨o, c, rfl⟩ := ownsRow_form h.su
  have c0 := h.c0
  go_enter Try.func19, Try.ntmps19
  go_wp2
  go_ret
  exact ⟨rfl, rfl⟩
set_option maxHeartbeats 1000000 in
theorem size_nil (W : World) : Calls Try.prog 19 #[.pointer none] W fun e w' => e = .returned (.int .i64 0) ∧ W = w' := by
  go_enter Try.func19, Try.ntmps19
  go_wp2
  go_ret
  exact ⟨rfl, rfl⟩
set_option maxHeartbeats 1000000 in
theorem loose_calls {W : World} {F : Nat → Prop} {p : Nat} {sv lv kv : Value} {d : Dk} (h : DAt W F p sv lv kv d) : Calls Try.prog 20 #[.pointer (some ⟨p, 0, none⟩)] W fun e w' => e = .returned (.int .i64 (d.loose.length : Int)) ∧ W = w' := by
  obtain ⟨o, c, rfl⟩ := ownsRow_form h.lo
  have c1 := h.c1
  go_enter Try.func20, Try.ntmps20
  go_wp2
  go_ret
  exact ⟨rfl, rfl⟩
set_option maxHeartbeats 1000000 in
theorem loose_nil (W : World) : Calls Try.prog 20 #[.pointer none] W fun e w' => e = .returned (.int .i64 0) ∧ W = w' := by
  go_enter Try.func20, Try.ntmps20
  go_wp2
  go_ret
  exact ⟨rfl, rfl⟩
set_option maxHeartbeats 1000000 in
theorem starts_calls {W : World} {F : Nat → Prop} {p : Nat} {sv lv kv : Value} {d : Dk} (h : DAt W F p sv lv kv d) : Calls Try.prog 22 #[.pointer (some ⟨p, 0, none⟩)] W fun e w' => e = .returned (.int .i64 d.starts) ∧ W = w' := by
  have c3 := h.c3
  go_enter Try.func22, Try.ntmps22
  go_wp2
  go_ret
  exact ⟨rfl, rfl⟩
set_option maxHeartbeats 1000000 in
theorem starts_nil (W : World) : Calls Try.prog 22 #[.pointer none] W fun e w' => e = .returned (.int .i64 0) ∧ W = w' := by
  go_enter Try.func22, Try.ntmps22
  go_wp2
  go_ret
  exact ⟨rfl, rfl⟩
/-- What is wrong with asking it for something. -/
def chk (d : Dk) : Int := if d.sure.length = 0 then 1 else if d.down = true then 61 else 0
set_option maxHeartbeats 1000000 in
theorem check_calls {W : World} {F : Nat → Prop} {p : Nat} {sv lv kv : Value} {d : Dk} (h : DAt W F p sv lv kv d) : Calls Try.prog 32 #[.pointer (some ⟨p, 0, none⟩)] W fun e w' => e = .returned (.int .i64 (chk d)) ∧ W = w' := by
  have c2 := h.c2
  have HS := Lib.hid (size_calls h)
  unfold chk
  by_cases hn : d.sure.length = 0
  · rw [if_pos hn]
    rw [hn] at HS
    go_enter Try.func32, Try.ntmps32
    go_wp2_with (go_at_call 19; refine HS.out.mono ?_; rintro e w' ⟨rfl, rfl⟩)
    go_ret
    exact ⟨rfl, rfl⟩
  · rw [if_neg hn]
    have h1 : ¬ (d.sure.length : Int) = 0 := by omega
    have h2 : ((d.sure.length : Int) == 0) = false := beq_eq_false_iff_ne.mpr h1
    cases hd : d.down <;> rw [hd] at c2
    · go_enter Try.func32, Try.ntmps32
      go_wp2_with (go_at_call 19; refine HS.out.mono ?_; rintro e w' ⟨rfl, rfl⟩)
      go_ret
      exact ⟨rfl, rfl⟩
    · go_enter Try.func32, Try.ntmps32
      go_wp2_with (go_at_call 19; refine HS.out.mono ?_; rintro e w' ⟨rfl, rfl⟩)
      go_ret
      exact ⟨rfl, rfl⟩
set_option maxHeartbeats 1000000 in
theorem check_nil (W : World) : Calls Try.prog 32 #[.pointer none] W fun e w' => e = .returned (.int .i64 1) ∧ W = w' := by
  go_enter Try.func32, Try.ntmps32
  go_wp2_with (go_at_call 19; refine (size_nil _).mono ?_; rintro e w' ⟨rfl, rfl⟩)
  go_ret
  exact ⟨rfl, rfl⟩
/-- No disk: none, or the zero one. -/
def d0 : Dk := ⟨[], [], false, 0, false, 0, []⟩
def NoD (W : World) (v : Value) : Prop := v = .pointer none ∨ ∃ F p, v = .pointer (some ⟨p, 0, none⟩) ∧ DAt W F p (.slice none 0 0) (.slice none 0 0) (.slice none 0 0) d0
theorem NoD.keepB {W W' : World} {v : Value} (h : NoD W v) (hB : Below W.heap.size W W') : NoD W' v := by
  rcases h with h | ⟨F, p, h1, h2⟩
  · exact .inl h
  · exact .inr ⟨F, p, h1, h2.keepB hB⟩
theorem NoD.check {W : World} {v : Value} (h : NoD W v) : Calls Try.prog 32 #[v] W fun e w' => e = .returned (.int .i64 1) ∧ W = w' := by
  rcases h with rfl | ⟨F, p, rfl, h⟩
  · exact check_nil W
  · exact check_calls h
theorem NoD.size {W : World} {v : Value} (h : NoD W v) : Calls Try.prog 19 #[v] W fun e w' => e = .returned (.int .i64 0) ∧ W = w' := by
  rcases h with rfl | ⟨F, p, rfl, h⟩
  · exact size_nil W
  · exact size_calls h
theorem NoD.loose {W : World} {v : Value} (h : NoD W v) : Calls Try.prog 20 #[v] W fun e w' => e = .returned (.int .i64 0) ∧ W = w' := by
  rcases h with rfl | ⟨F, p, rfl, h⟩
  · exact loose_nil W
  · exact loose_calls h
theorem NoD.starts {W : World} {v : Value} (h : NoD W v) : Calls Try.prog 22 #[v] W fun e w' => e = .returned (.int .i64 0) ∧ W = w' := by
  rcases h with rfl | ⟨F, p, rfl, h⟩
  · exact starts_nil W
  · exact starts_calls h
set_option maxHeartbeats 1000000 in
theorem up_calls {W : World} {v : Value} {c : Int} (h : Calls Try.prog 32 #[v] W fun e w' => e = .returned (.int .i64 c) ∧ W = w') : Calls Try.prog 21 #[v] W fun e w' => e = .returned (.bool (c == 0)) ∧ W = w' := by
  go_enter Try.func21, Try.ntmps21
  go_wp2_with (go_at_call 32; refine h.mono ?_; rintro e w' ⟨rfl, rfl⟩)
  go_ret
  exact ⟨rfl, rfl⟩
/-! ### What a disk that is none does -/
set_option maxHeartbeats 2000000 in
theorem noRead {W : World} {v : Value} (h : NoD W v) (n : Int) : Calls Try.prog 13 #[v, .int .i64 n] W fun e w' => e = .returned (.tuple #[.string ⟨#[]⟩, .int .i64 1]) ∧ Below W.heap.size W w' := by
  have HB := Lib.hid (show ∀ o1 o2 o3 : Obj, Below W.heap.size W (((W.alloc o1).alloc o2).alloc o3) from fun o1 o2 o3 => (((Below.refl _ _).alloc (Nat.le_refl _) o1).alloc (by simp) o2).alloc (by simp; omega) o3)
  have HC := Lib.hid (show ∀ w', Below W.heap.size W w' → Calls Try.prog 32 #[v] w' fun e w2 => e = .returned (.int .i64 1) ∧ w' = w2 from fun w' hw => (h.keepB hw).check)
  go_enter Try.func13, Try.ntmps13
  go_wp2_with (go_at_call 32; refine (HC.out _ (HB.out _ _ _)).mono ?_; rintro e w' ⟨rfl, rfl⟩)
  (try simp only [Exit.inBlock, Exit.then])
  refine bodyPost_ret (v := .tuple #[.string ⟨#[]⟩, .int .i64 1]) (by simp [results, Try.f13, go_sem]) rfl ?_
  exact ⟨rfl, ((((Below.refl _ _).alloc (Nat.le_refl _) _).alloc (by simp) _).alloc (by simp; omega) _)⟩
set_option maxHeartbeats 2000000 in
theorem noWrite {W : World} {v : Value} (h : NoD W v) (n : Int) (s : ByteArray) : Calls Try.prog 14 #[v, .int .i64 n, .string s] W fun e w' => e = .returned (.int .i64 1) ∧ W = w' := by
  go_enter Try.func14, Try.ntmps14
  go_wp2_with (go_at_call 32; refine h.check.mono ?_; rintro e w' ⟨rfl, rfl⟩)
  go_ret
  exact ⟨rfl, rfl⟩
set_option maxHeartbeats 2000000 in
theorem noFlush {W : World} {v : Value} (h : NoD W v) : Calls Try.prog 15 #[v] W fun e w' => e = .returned (.int .i64 1) ∧ W = w' := by
  go_enter Try.func15, Try.ntmps15
  go_wp2_with (go_at_call 32; refine h.check.mono ?_; rintro e w' ⟨rfl, rfl⟩)
  go_ret
  exact ⟨rfl, rfl⟩
set_option maxHeartbeats 2000000 in
theorem noCrash {W : World} {v : Value} (h : NoD W v) (o : Option Addr) (l c : Nat) : Calls Try.prog 16 #[v, .slice o l c] W fun e w' => e = .returned (.int .i64 1) ∧ Below W.heap.size W w' := by
  have HB := Lib.hid (show ∀ o1 : Obj, Below W.heap.size W (W.alloc o1) from fun o1 => (Below.refl _ _).alloc (Nat.le_refl _) o1)
  have HC := Lib.hid (show ∀ w', Below W.heap.size W w' → Calls Try.prog 32 #[v] w' fun e w2 => e = .returned (.int .i64 1) ∧ w' = w2 from fun w' hw => (h.keepB hw).check)
  go_enter Try.func16, Try.ntmps16
  go_wp2_with (go_at_call 32; refine (HC.out _ (HB.out _)).mono ?_; rintro e w' ⟨rfl, rfl⟩)
  go_ret
  exact ⟨rfl, HB.out _⟩
set_option maxHeartbeats 2000000 in
theorem noStart {W : World} {v : Value} (h : NoD W v) : Calls Try.prog 17 #[v] W fun e w' => e = .returned (.int .i64 1) ∧ W = w' := by
  go_enter Try.func17, Try.ntmps17
  go_wp2_with (go_at_call 32; refine h.check.mono ?_; rintro e w' ⟨rfl, rfl⟩)
  go_ret
  exact ⟨rfl, rfl⟩
set_option maxHeartbeats 2000000 in
theorem noFail {W : World} {v : Value} (h : NoD W v) (n : Int) (k : Value) : Calls Try.prog 18 #[v, .int .i64 n, k] W fun e w' => e = .returned (.int .i64 1) ∧ W = w' := by
  go_enter Try.func18, Try.ntmps18
  go_wp2_with (go_at_call 32; refine h.check.mono ?_; rintro e w' ⟨rfl, rfl⟩)
  go_ret
  exact ⟨rfl, rfl⟩
end Go.Proofs.Yteblobookpldfaa.Se
