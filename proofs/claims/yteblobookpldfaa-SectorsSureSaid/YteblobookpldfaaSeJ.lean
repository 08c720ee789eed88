/- A failure that is set. -/
import Derived.Test.YteblobookpldfaaSeI
namespace Go.Proofs.Yteblobookpldfaa.Se
open Go.RowKit Go.Shelf Go.Proofs

theorem info4 : (Try.prog.info? 4).map (fun i => (i.zero, i.size, i.bytes)) = some (some (.bool false), 1, 1) := by kernel_rfl
set_option maxHeartbeats 2000000 in
theorem clone_calls {w : World} {v : Value} {ks : List Bool} (h : KRow w v ks) (hn : ks.length ≤ 1000000) : Calls Try.prog 38 #[v] w fun e w' => ∃ v', e = .returned v' ∧ w'.ownsRow w.heap.size 4 1 v' ks.length (ks.map Value.bool) ∧ Below w.heap.size w w' := by
  have q32 : ∀ (w : World) (a : Option Addr) (n c n' c' : Nat), (binOp .eql 32 (.slice a n c) (.slice none n' c')).run Try.prog w = .ok (.bool a.isNone) w := fun w a n c n' c' => Lib.run_eql_slice_nil w _ _ a n c n' c' Try.underlying32
  rcases h with ⟨rfl, rfl⟩ | ⟨a, c, rfl, hc⟩
  · go_enter Try.func38, Try.ntmps38
    go_wp2
    go_ret
    exact ⟨_, rfl, World.ownsRow_nil _ _ _ _, Below.refl _ _⟩
  · obtain ⟨i0, hi, hz0, hz1, hz2⟩ := info_parts info4
    have HC := Lib.hid hc
    clear hc
    go_enter Try.func38, Try.ntmps38
    go_wp2_with (at_builtin; refine wpList_append_own _ rfl _ _ 32 rfl w.heap.size 4 i0 (.bool false) 1 1 Try.underlying32 hi hz0 hz1 hz2 rfl (by decide) _ _ _ rfl (World.ownsRow_made w #[] 0 (Nat.le_refl _) (Nat.zero_le _) rfl) a ks.length c (ks.map Value.bool) rfl ?qc1 ?qc2 ?qc3 ?qc4 ?qc5 ?qc6 ?_)
    case qc1 => simp
    case qc2 =>
      intro j u hj
      rw [List.getElem?_map, Option.map_eq_some_iff] at hj
      obtain ⟨x, hx, rfl⟩ := hj
      exact Lib.cell?_alloc_some _ (HC.out j x hx)
    case qc3 => intro u hu; obtain ⟨x, _, rfl⟩ := List.mem_map.1 hu; rfl
    case qc4 => unfold maxLen; omega
    case qc5 => omega
    case qc6 => simp
    intro v' w1 hown hgrow hnil
    go_wp2
    go_ret
    exact ⟨v', rfl, by simpa using hown, ((Below.refl _ w).alloc (Nat.le_refl _) _).grown hgrow (by simp) (by intro k hk; simp [Value.ownBlock] at hk; omega)⟩
def failD (n : Int) (ks : List Bool) (d : Dk) : Dk := { d with fails := true, left := n, keep := ks }
theorem DAt.kept {W : World} {F : Nat → Prop} {p : Nat} {sv lv kv : Value} {d : Dk} (h : DAt W F p sv lv kv d) (v : Value) (ks : List Bool) (hf : ∀ k, v.ownBlock = some k → F k) (ho : W.ownsRow 0 4 1 v ks.length (ks.map Value.bool)) : DAt (W.setCell ⟨p, 6, none⟩ v) F p sv lv v { d with keep := ks } := by
  obtain ⟨h1, h2⟩ := h.head 6 v
  refine ⟨h.fp, h.fs, h.fl, hf, h2, ?_, ?_, ?_⟩
  · exact ownsRow_block h.su fun k hk => h1 k fun e => h.ns (by rw [hk, e])
  · exact ownsRow_block h.lo fun k hk => h1 k fun e => h.nl (by rw [hk, e])
  · exact ownsRow_block ho fun k hk => h1 k fun e => ownsRow_ne ho h.m (by decide) (by rw [hk, e])
set_option maxHeartbeats 2000000 in
theorem fail_ok {w : World} {F : Nat → Prop} {p : Nat} {sv lv kv : Value} {d : Dk} (h : DAt w F p sv lv kv d) (hc : chk d = 0) (n : Int) (hn : 0 ≤ n) (v : Value) (ks : List Bool) (hkr : KRow w v ks) (hk : ks.length ≤ 1000000) :
    Calls Try.prog 18 #[.pointer (some ⟨p, 0, none⟩), .int .i64 n, v] w fun e w' => ∃ kv', e = .returned (.int .i64 0) ∧ DAt w' (grow F w w') p sv lv kv' (failD n ks d) ∧ OnlyF F w w' := by
  obtain ⟨o, c, rfl⟩ := hkr.form
  have HC := Lib.hid (check_calls h)
  rw [hc] at HC
  have HK := Lib.hid (clone_calls hkr hk)
  have n1 : ¬ n < 0 := by omega
  have HH := Lib.hid h
  clear h hkr
  go_enter Try.func18, Try.ntmps18
  go_wp2_with (first
    | (go_at_call 32; refine HC.out.mono ?_; rintro e w' ⟨rfl, rfl⟩)
    | (go_at_call 38; refine HK.out.mono ?_; rintro e w1 ⟨v', rfl, hO, hB⟩; obtain ⟨o2, c2, rfl⟩ := ownsRow_form hO; have hD := HH.out.keepB hB; have c4 := hD.c4; have c5 := hD.c5; have c6 := hD.c6; have f4 := hD.fz 4; have f5 := hD.fz 5; have f6 := hD.fz 6; have HD := Lib.hid hD; have HO := Lib.hid hO; have HB := Lib.hid hB; clear hD hO hB))
  go_ret
  have h1 := (HD.out.wider (G := grow F w w1) fun _ hx => .inl hx).putHead 4 (.bool true) { d with fails := true } rfl rfl rfl rfl
  have h2 := h1.putHead 5 (.int .i64 n) { d with fails := true, left := n } rfl rfl rfl rfl
  have ho : w1.ownsRow 0 4 1 (.slice o2 ks.length c2) ks.length (ks.map Value.bool) := ownsRow_base HO.out (Nat.zero_le _)
  have ho2 := ownsRow_block (w' := (w1.setCell ⟨p, 4, none⟩ (.bool true)).setCell ⟨p, 5, none⟩ (.int .i64 n)) ho fun k hk => by
    have hne : k ≠ p := fun e => ownsRow_ne ho HD.out.m (by decide) (by rw [hk, e])
    rw [Below.heap_setCell _ _ _ _ hne, Below.heap_setCell _ _ _ _ hne]
  have h3 := h2.kept (.slice o2 ks.length c2) ks (fun k hk => .inr (HO.out.lt k hk)) ho2
  exact ⟨_, rfl, h3.wider (fun x hx => hx.imp (fun h => h) (fun ⟨a, b⟩ => ⟨a, by simpa using b⟩)), ((OnlyF.of HB.out).set HD.out.fp 4 _ |>.set HD.out.fp 5 _).set HD.out.fp 6 _⟩
end Go.Proofs.Yteblobookpldfaa.Se
