/- A sector read: the iterator as the loop takes it; a read that is refused. -/
import Derived.Test.YteblobookpldfaaSeL
namespace Go.Proofs.Yteblobookpldfaa.Se
open Go.RowKit Go.Shelf Go.Proofs
attribute [local go_sem] Oper.semAt_some

theorem back_made (n : Nat) (v : Value) (o : Option Addr) (m c : Nat) (hv : v = .slice o m c) (w : World) :
    CallsIn Fence.wide n Try.prog 33 #[v] w fun e w' => e = .returned (.func (.func 46) #[] #[.pointer (some ⟨w.heap.size, 0, none⟩)]) ∧ w' = w.alloc (.cells #[v] 45) := by
  subst hv
  refine callsIn_of_wp Try.func33 rfl trivial ?_ rfl
  simp only [Try.ntmps33, List.size_toArray, List.length_cons, List.length_nil, Nat.reduceAdd, Nat.reduceSub, Array.replicate_succ, Array.replicate_zero, List.push_toArray, List.append_toArray, List.nil_append, List.cons_append]
  gi_wp2
  go_ret
  exact ⟨rfl, rfl⟩
abbrev encX (L : List (Nat × ByteArray)) (i : Fin L.length) : Array Value := encW L i.val
theorem back_stops (n : Nat) (hn : 1 ≤ n) (g Bm : Nat) (v : Value) (L : List (Nat × ByteArray)) (hL : L.length ≤ 1000000) (w : World) (hm : LRow w g v L) (hb : w.heap[Bm]? = some (.cells #[v] 45 (0, 0))) :
    SeqStopsK Fence.wide n Try.prog 46 #[.pointer (some ⟨Bm, 0, none⟩)] (encX L) (KpM g Bm) (fun ys => ys.map (·.val) = (List.range L.length).reverse) (fun pre => pre.map (·.val) <+: (List.range L.length).reverse) L.length w := fun l J Jx W hW _ _ hY h0 => by
  refine (back_in n hn l g Bm v L hL (fun pre W => ∃ q : List (Fin L.length), q.map (·.val) = pre ∧ J q W) (fun pre W => ∃ q : List (Fin L.length), q.map (·.val) = pre ∧ Jx q W) ?_ W (hm.keepB hW) ((hW.block _ (lt_of_block hb)).trans hb) ⟨[], rfl, h0⟩).mono ?_
  · rintro pre x W1 hx ⟨q, rfl, hq⟩ hl
    obtain ⟨fn, tmps, assign, body, hy, hR⟩ := hY q ⟨x, hx⟩ W1 hq (by rw [List.length_map] at hl; exact hl)
    refine ⟨fn, tmps, assign, body, hy, hR.mono ?_⟩
    rintro e W2 (⟨he, hJ, hK⟩ | ⟨he, hJ⟩)
    · exact .inl ⟨he, ⟨q ++ [⟨x, hx⟩], by simp, hJ⟩, hK⟩
    · exact .inr ⟨he, ⟨q ++ [⟨x, hx⟩], by simp, hJ⟩⟩
  · rintro e W2 ⟨hv, ⟨ys, h1, q, h2, hJ⟩ | ⟨pre, h1, q, h2, hJ⟩⟩
    · exact ⟨hv, .inl ⟨q, h2.trans h1, hJ⟩⟩
    · exact ⟨hv, .inr ⟨q, (show q.map (·.val) <+: (List.range L.length).reverse from h2 ▸ h1), hJ⟩⟩
theorem wpQuiet_skip {P : Program} {ops : Array Oper} {C : World → Prop} {Q : Act → Prop} {a : Act} {o : Oper} {rest : List Oper} (hgd : Region.wanted o (yielded ops a.tmps) = false) (h : wpQuiet P ops C Q rest (a.put o.dst undef)) : wpQuiet P ops C Q (o :: rest) a := by
  unfold wpQuiet
  rw [if_neg (by rw [hgd]; decide)]
  exact h
theorem three_below (w : World) (o1 o2 o3 : Obj) : Below w.heap.size w (((w.alloc o1).alloc o2).alloc o3) := ((((Below.refl _ _).alloc (Nat.le_refl _) o1).alloc (by simp) o2).alloc (by simp; omega) o3)
set_option maxHeartbeats 2000000 in
theorem read_down {w : World} {F : Nat → Prop} {p : Nat} {sv lv kv : Value} {d : Dk} (h : DAt w F p sv lv kv d) (hc : chk d = 61) (n : Int) :
    Calls Try.prog 13 #[.pointer (some ⟨p, 0, none⟩), .int .i64 n] w fun e w' => e = .returned (.tuple #[.string ⟨#[]⟩, .int .i64 61]) ∧ Below w.heap.size w w' := by
  have HC := Lib.hid (fun o1 o2 o3 => check_calls (h.keepB (three_below w o1 o2 o3)))
  rw [hc] at HC
  go_enter Try.func13, Try.ntmps13
  go_wp2_with (go_at_call 32; refine (HC.out _ _ _).mono ?_; rintro e w' ⟨rfl, rfl⟩)
  (try simp only [Exit.inBlock, Exit.then])
  refine bodyPost_ret (v := .tuple #[.string ⟨#[]⟩, .int .i64 61]) (by simp [results, Try.f13, go_sem]) rfl ?_
  exact ⟨rfl, three_below w _ _ _⟩
attribute [local irreducible] Go.wpQuiet
set_option maxHeartbeats 2000000 in
theorem read_arg {w : World} {F : Nat → Prop} {p : Nat} {sv lv kv : Value} {d : Dk} (h : DAt w F p sv lv kv d) (hc : chk d = 0) (n : Int) (hn : n < 0 ∨ (d.sure.length : Int) ≤ n) :
    Calls Try.prog 13 #[.pointer (some ⟨p, 0, none⟩), .int .i64 n] w fun e w' => e = .returned (.tuple #[.string ⟨#[]⟩, .int .i64 2]) ∧ Below w.heap.size w w' := by
  obtain ⟨o, c, rfl⟩ := ownsRow_form h.su
  have HC := Lib.hid (fun o1 o2 o3 => check_calls (h.keepB (three_below w o1 o2 o3)))
  rw [hc] at HC
  have c0 := fun o1 o2 o3 => (h.keepB (three_below w o1 o2 o3)).c0
  clear h
  by_cases h1 : n < 0
  · go_enter Try.func13, Try.ntmps13
    go_wp2_with (go_at_call 32; refine (HC.out _ _ _).mono ?_; rintro e w' ⟨rfl, rfl⟩)
    have h3 : decide (n < 0) = true := decide_eq_true h1
    refine wp_region_quiet_lit (by kernel_rfl) (by kernel_rfl) ?_
    quiet_step (fail)
    quiet_step (fail)
    quiet_step (fail)
    refine wpQuiet_skip (by kernel_rfl) ?_
    refine wpQuiet_skip (by kernel_rfl) ?_
    refine wpQuiet_skip (by kernel_rfl) ?_
    refine wpQuiet_skip (by kernel_rfl) ?_
    refine wpQuiet_skip (by kernel_rfl) ?_
    refine wpQuiet_skip (by kernel_rfl) ?_
    refine wpQuiet_skip (by kernel_rfl) ?_
    quiet_step (fail)
    refine wpQuiet_nil ?_
    intro _ hw'
    obtain ⟨nq, hw''⟩ := hw'
    subst hw''
    go_wp2
    (try simp only [Exit.inBlock, Exit.then])
    refine bodyPost_ret (v := .tuple #[.string ⟨#[]⟩, .int .i64 2]) (by simp [results, Try.f13, go_sem]) rfl ?_
    exact ⟨rfl, ((below_drewN (three_below w _ _ _) nq).setCell (p := ⟨w.heap.size + 1, 0, none⟩) (by show w.heap.size ≤ w.heap.size + 1; omega) _).setCell (p := ⟨w.heap.size + 1 + 1, 0, none⟩) (by show w.heap.size ≤ w.heap.size + 1 + 1; omega) _⟩
  · have h2 : (d.sure.length : Int) ≤ n := by omega
    go_enter Try.func13, Try.ntmps13
    go_wp2_with (go_at_call 32; refine (HC.out _ _ _).mono ?_; rintro e w' ⟨rfl, rfl⟩)
    have h3 : decide (n < 0) = false := decide_eq_false (by omega)
    refine wp_region_quiet_lit (by kernel_rfl) (by kernel_rfl) ?_
    quiet_step (fail)
    quiet_step (fail)
    quiet_step (fail)
    quiet_step (fail)
    quiet_step (fail)
    quiet_step (fail)
    quiet_step (fail)
    quiet_step (fail)
    quiet_step (fail)
    quiet_step (fail)
    quiet_step (fail)
    refine wpQuiet_nil ?_
    intro _ hw'
    obtain ⟨nq, hw''⟩ := hw'
    subst hw''
    go_wp2
    (try simp only [Exit.inBlock, Exit.then])
    refine bodyPost_ret (v := .tuple #[.string ⟨#[]⟩, .int .i64 2]) (by simp [results, Try.f13, go_sem]) rfl ?_
    exact ⟨rfl, ((below_drewN (three_below w _ _ _) nq).setCell (p := ⟨w.heap.size + 1, 0, none⟩) (by show w.heap.size ≤ w.heap.size + 1; omega) _).setCell (p := ⟨w.heap.size + 1 + 1, 0, none⟩) (by show w.heap.size ≤ w.heap.size + 1 + 1; omega) _⟩
end Go.Proofs.Yteblobookpldfaa.Se
