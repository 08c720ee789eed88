/- The document's disk in memory; a whole slice copied. -/
import Derived.Test.YteblobookpldfaaSeT
import Derived.Laws.AppendOwnNone
namespace Go.Proofs.Yteblobookpldfaa.Se
open Go.RowKit Go.Shelf Go.Proofs
attribute [local go_sem] Oper.semAt_some

/-- A slice's cells, read. -/
def Src (w : World) (v : Value) (n size : Nat) (xs : List Value) : Prop := (v = .slice none 0 0 ∧ n = 0 ∧ xs = []) ∨ ∃ a c, v = .slice (some a) n c ∧ xs.length = n * size ∧ ∀ j u, xs[j]? = some u → w.cell? (a.add j) = some u
theorem ownsRow_src {w : World} {base size n : Nat} {e : TypeId} {v : Value} {xs : List Value} (h : w.ownsRow base e size v n xs) : Src w v n size xs := by
  rcases h.2 with ⟨h1, h2⟩ | ⟨g, cap, cur, h1, _, hg, _, _, _, h7⟩
  · refine .inl ⟨h1, h2, ?_⟩
    have := h.1
    rw [h2, Nat.zero_mul] at this
    exact List.eq_nil_of_length_eq_zero this
  · refine .inr ⟨_, cap, h1, h.1, fun j u hj => ?_⟩
    have hl := (List.getElem?_eq_some_iff.1 hj).1
    rw [add_zero, block_cell hg]
    rw [← h7, List.getElem?_take] at hj
    split at hj
    · simpa using hj
    · cases hj
theorem KRow.src {w : World} {v : Value} {ks : List Bool} (h : KRow w v ks) : Src w v ks.length 1 (ks.map Value.bool) := by
  rcases h with ⟨h1, rfl⟩ | ⟨a, c, h1, h2⟩
  · exact .inl ⟨h1, rfl, rfl⟩
  · refine .inr ⟨a, c, h1, by simp, fun j u hj => ?_⟩
    rw [List.getElem?_map, Option.map_eq_some_iff] at hj
    obtain ⟨x, hx, rfl⟩ := hj
    exact h2 j x hx
/-- append([]T(nil), x...): a copy. -/
theorem wpList_copy {P : Program} (w : World) {ops : Array Oper} {rest : List Oper} {o : Oper} {a : Act} {Q : Exit → Act → World → Prop} (hgd : o.guard = none) (x : Operand) (t : TypeId)
    (ho : o.op = .call { callee := .builtin .append, args := #[.const (.slice none 0 0), x], argTypes := #[t, t] })
    (e : TypeId) (i : TypeInfo) (z : Value) (size bytes : Nat) (ht : P.underlying t = some (.slice e)) (hi : P.info? e = some i) (hz : i.zero = some z)
    (hsize : i.size = size) (hby : i.bytes = bytes) (hzs : z.cells.size = size) (hsz : 0 < size)
    (v : Value) (n : Nat) (xs : List Value) (hx : a.eval x = v) (hs : Src w v n size xs) (h1 : ∀ u ∈ xs, u.oneCell' = true) (h63 : n ≤ maxLen) (hbytes : n * bytes ≤ 140737488355328)
    (h : ∀ v' w', w'.ownsRow w.heap.size e size v' n xs → Below w.heap.size w w' → wpList P ops Q rest (a.put o.dst v') w') : wpList P ops Q (o :: rest) a w := by
  rcases hs with ⟨rfl, rfl, rfl⟩ | ⟨ad, c, rfl, hl, hnews⟩
  · exact wpList_append_own_none hgd _ x t ho w.heap.size e i size ht hi (.slice none 0 0) 0 [] rfl (World.ownsRow_nil _ _ _ _) hx (h _ w (World.ownsRow_nil _ _ _ _) (Below.refl _ _))
  · refine wpList_append_own w hgd _ x t ho w.heap.size e i z size bytes ht hi hz hsize hby hzs hsz (.slice none 0 0) 0 [] rfl (World.ownsRow_nil _ _ _ _) ad n c xs hx hl hnews h1 (by omega) (by rw [Nat.zero_add]; exact hbytes) (Nat.le_refl _) ?_
    intro v' w' hown hgrow _
    rw [Nat.zero_add, List.nil_append] at hown
    exact h v' w' hown ((Below.refl _ _).grown hgrow (Nat.le_refl _) (fun k hk => by cases hk))
/-- The document's disk. -/
structure Rk where
  sure : List ByteArray
  loose : List (Nat × ByteArray)
  down : Bool
  starts : Int
  left : Int
  keep : List Bool
structure RAt (W : World) (F : Nat → Prop) (p : Nat) (sv lv kv : Value) (r : Rk) : Prop where
  fp : F p
  fs : ∀ k, sv.ownBlock = some k → F k
  fl : ∀ k, lv.ownBlock = some k → F k
  fk : ∀ k, kv.ownBlock = some k → F k
  m : W.heap[p]? = some (.cells #[sv, lv, .bool r.down, .int .i64 r.starts, .int .i64 r.left, kv] 61 (0, 0))
  su : W.ownsRow 0 9 1 sv r.sure.length (r.sure.map Value.string)
  lo : W.ownsRow 0 66 2 lv r.loose.length (looseV r.loose)
  ke : W.ownsRow 0 4 1 kv r.keep.length (r.keep.map Value.bool)
section
variable {W W' : World} {F G : Nat → Prop} {p : Nat} {sv lv kv : Value} {r : Rk}
theorem RAt.wider (h : RAt W F p sv lv kv r) (hG : ∀ x, F x → G x) : RAt W G p sv lv kv r :=
  ⟨hG _ h.fp, fun k hk => hG _ (h.fs k hk), fun k hk => hG _ (h.fl k hk), fun k hk => hG _ (h.fk k hk), h.m, h.su, h.lo, h.ke⟩
theorem RAt.keep (h : RAt W F p sv lv kv r) (hb : ∀ b, b < W.heap.size → F b → W'.heap[b]? = W.heap[b]?) : RAt W' F p sv lv kv r :=
  ⟨h.fp, h.fs, h.fl, h.fk, (hb p (lt_of_block h.m) h.fp).trans h.m, ownsRow_block h.su (fun k hk => hb k (h.su.lt k hk).2 (h.fs k hk)), ownsRow_block h.lo (fun k hk => hb k (h.lo.lt k hk).2 (h.fl k hk)), ownsRow_block h.ke (fun k hk => hb k (h.ke.lt k hk).2 (h.fk k hk))⟩
theorem RAt.keepB (h : RAt W F p sv lv kv r) (hB : Below W.heap.size W W') : RAt W' F p sv lv kv r := h.keep fun b hb _ => hB.block b hb
theorem RAt.ns (h : RAt W F p sv lv kv r) : sv.ownBlock ≠ some p := ownsRow_ne h.su h.m (by decide)
theorem RAt.nl (h : RAt W F p sv lv kv r) : lv.ownBlock ≠ some p := ownsRow_ne h.lo h.m (by decide)
theorem RAt.nk (h : RAt W F p sv lv kv r) : kv.ownBlock ≠ some p := ownsRow_ne h.ke h.m (by decide)
theorem RAt.c0 (h : RAt W F p sv lv kv r) : W.cell? ⟨p, 0, none⟩ = some sv := by rw [block_cell h.m]; rfl
theorem RAt.c1 (h : RAt W F p sv lv kv r) : W.cell? ⟨p, 1, none⟩ = some lv := by rw [block_cell h.m]; rfl
theorem RAt.c2 (h : RAt W F p sv lv kv r) : W.cell? ⟨p, 2, none⟩ = some (.bool r.down) := by rw [block_cell h.m]; rfl
theorem RAt.c3 (h : RAt W F p sv lv kv r) : W.cell? ⟨p, 3, none⟩ = some (.int .i64 r.starts) := by rw [block_cell h.m]; rfl
theorem RAt.c4 (h : RAt W F p sv lv kv r) : W.cell? ⟨p, 4, none⟩ = some (.int .i64 r.left) := by rw [block_cell h.m]; rfl
theorem RAt.c5 (h : RAt W F p sv lv kv r) : W.cell? ⟨p, 5, none⟩ = some kv := by rw [block_cell h.m]; rfl
theorem RAt.fz (h : RAt W F p sv lv kv r) (j : Nat) : W.frozen? ⟨p, j, none⟩ = false := block_frozen h.m j
/-- A store into the head block: whatever is stored, with the rows that it then names. -/
theorem RAt.put (h : RAt W F p sv lv kv r) (o : Nat) (v : Value) {sv' lv' kv' : Value} {r' : Rk} (hfs : ∀ k, sv'.ownBlock = some k → F k) (hfl : ∀ k, lv'.ownBlock = some k → F k) (hfk : ∀ k, kv'.ownBlock = some k → F k)
    (hm : #[sv, lv, .bool r.down, .int .i64 r.starts, .int .i64 r.left, kv].setIfInBounds o v = #[sv', lv', .bool r'.down, .int .i64 r'.starts, .int .i64 r'.left, kv'])
    (hs : W.ownsRow 0 9 1 sv' r'.sure.length (r'.sure.map Value.string)) (hl : W.ownsRow 0 66 2 lv' r'.loose.length (looseV r'.loose)) (hk : W.ownsRow 0 4 1 kv' r'.keep.length (r'.keep.map Value.bool)) :
    RAt (W.setCell ⟨p, o, none⟩ v) F p sv' lv' kv' r' := by
  have h1 : ∀ g, g ≠ p → (W.setCell ⟨p, o, none⟩ v).heap[g]? = W.heap[g]? := fun _ hg => Below.heap_setCell _ _ _ _ hg
  refine ⟨h.fp, hfs, hfl, hfk, (block_set h.m o v).trans (by rw [hm]), ?_, ?_, ?_⟩
  · exact ownsRow_block hs fun k hk => h1 k fun e => ownsRow_ne hs h.m (by decide) (by rw [hk, e])
  · exact ownsRow_block hl fun k hk => h1 k fun e => ownsRow_ne hl h.m (by decide) (by rw [hk, e])
  · exact ownsRow_block hk fun k hk' => h1 k fun e => ownsRow_ne hk h.m (by decide) (by rw [hk', e])
/-- .. a number or a bool. -/
theorem RAt.putHead (h : RAt W F p sv lv kv r) (o : Nat) (v : Value) (r' : Rk) (hs : r'.sure = r.sure) (hl : r'.loose = r.loose) (hk : r'.keep = r.keep)
    (hm : #[sv, lv, .bool r.down, .int .i64 r.starts, .int .i64 r.left, kv].setIfInBounds o v = #[sv, lv, .bool r'.down, .int .i64 r'.starts, .int .i64 r'.left, kv]) : RAt (W.setCell ⟨p, o, none⟩ v) F p sv lv kv r' :=
  h.put o v h.fs h.fl h.fk hm (by rw [hs]; exact h.su) (by rw [hl]; exact h.lo) (by rw [hk]; exact h.ke)
end
/-- Is the change that is done now the one that fails? -/
def failsR (r : Rk) : Rk := if 0 < r.left then { r with left := r.left - 1 } else r
set_option maxHeartbeats 2000000 in
theorem fails_calls {w : World} {F : Nat → Prop} {p : Nat} {sv lv kv : Value} {r : Rk} (h : RAt w F p sv lv kv r) (hb : r.left ≤ 1000000) : Calls Try.prog 45 #[.pointer (some ⟨p, 0, none⟩)] w fun e w' =>
    e = .returned (.bool (decide (r.left = 0))) ∧ RAt w' F p sv lv kv (failsR r) ∧ OnlyF F w w' := by
  have c4 := h.c4
  have f4 := h.fz 4
  unfold failsR
  by_cases h0 : 0 < r.left
  · have h1 : ¬ r.left = 0 := by omega
    have hw : IntKind.i64.wrap (r.left - 1) = r.left - 1 := by rw [IntKind.wrap_i64]; omega
    have hw2 : wrap64 (r.left - 1) = r.left - 1 := by unfold wrap64; omega
    have e1 : (r.left == 0) = false := beq_eq_false_iff_ne.mpr h1
    rw [if_pos h0, decide_eq_false h1]
    have HD := Lib.hid (h.putHead 4 (.int .i64 (r.left - 1)) { r with left := r.left - 1 } rfl rfl rfl rfl)
    have HO := Lib.hid ((OnlyF.refl F w).set h.fp 4 (.int .i64 (r.left - 1)))
    clear h
    go_enter Try.func45, Try.ntmps45
    go_wp2
    go_ret
    exact ⟨rfl, HD.out, HO.out⟩
  · rw [if_neg h0]
    by_cases h1 : r.left = 0
    · have e1 : (r.left == 0) = true := beq_iff_eq.mpr h1
      rw [decide_eq_true h1]
      have HH := Lib.hid h
      clear h
      rw [h1] at c4
      go_enter Try.func45, Try.ntmps45
      go_wp2
      go_ret
      exact ⟨rfl, HH.out, OnlyF.refl _ _⟩
    · have e1 : (r.left == 0) = false := beq_eq_false_iff_ne.mpr h1
      rw [decide_eq_false h1]
      have HH := Lib.hid h
      clear h
      go_enter Try.func45, Try.ntmps45
      go_wp2
      go_ret
      exact ⟨rfl, HH.out, OnlyF.refl _ _⟩
def startR (r : Rk) : Rk := { r with down := false, starts := wrap64 (r.starts + 1) }
set_option maxHeartbeats 2000000 in
theorem rStart_down {w : World} {F : Nat → Prop} {p : Nat} {sv lv kv : Value} {r : Rk} (h : RAt w F p sv lv kv r) (hd : r.down = true) : Calls Try.prog 29 #[.pointer (some ⟨p, 0, none⟩)] w fun e w' =>
    e = .returned (.int .i64 0) ∧ RAt w' F p sv lv kv (startR r) ∧ OnlyF F w w' := by
  have c2 := h.c2
  have c3 := h.c3
  have f2 := h.fz 2
  have f3 := h.fz 3
  rw [hd] at c2
  have h1 := h.putHead 2 (.bool false) { r with down := false } rfl rfl rfl rfl
  have h2 := h1.putHead 3 (.int .i64 (wrap64 (r.starts + 1))) (startR r) rfl rfl rfl rfl
  have HD := Lib.hid h2
  have HO := Lib.hid (((OnlyF.refl F w).set h.fp 2 (.bool false)).set h.fp 3 (.int .i64 (wrap64 (r.starts + 1))))
  clear h h1 h2
  generalize startR r = r' at HD ⊢
  go_enter Try.func29, Try.ntmps29
  go_wp2
  go_ret
  exact ⟨rfl, HD.out, HO.out⟩
set_option maxHeartbeats 2000000 in
theorem rStart_up {w : World} {F : Nat → Prop} {p : Nat} {sv lv kv : Value} {r : Rk} (h : RAt w F p sv lv kv r) (hd : r.down = false) : Calls Try.prog 29 #[.pointer (some ⟨p, 0, none⟩)] w fun e w' => e = .returned (.int .i64 2) ∧ w = w' := by
  have c2 := h.c2
  rw [hd] at c2
  clear h
  go_enter Try.func29, Try.ntmps29
  go_wp2
  go_ret
  exact ⟨rfl, rfl⟩
def failR (n : Int) (ks : List Bool) (r : Rk) : Rk := { r with left := n, keep := ks }
set_option maxHeartbeats 2000000 in
theorem rFail_down {w : World} {F : Nat → Prop} {p : Nat} {sv lv kv : Value} {r : Rk} (h : RAt w F p sv lv kv r) (hd : r.down = true) (n : Int) (v : Value) : Calls Try.prog 30 #[.pointer (some ⟨p, 0, none⟩), .int .i64 n, v] w fun e w' => e = .returned (.int .i64 61) ∧ w = w' := by
  have c2 := h.c2
  rw [hd] at c2
  clear h
  go_enter Try.func30, Try.ntmps30
  go_wp2
  go_ret
  exact ⟨rfl, rfl⟩
set_option maxHeartbeats 2000000 in
theorem rFail_arg {w : World} {F : Nat → Prop} {p : Nat} {sv lv kv : Value} {r : Rk} (h : RAt w F p sv lv kv r) (hd : r.down = false) (n : Int) (hn : n < 0) (v : Value) : Calls Try.prog 30 #[.pointer (some ⟨p, 0, none⟩), .int .i64 n, v] w fun e w' => e = .returned (.int .i64 2) ∧ w = w' := by
  have c2 := h.c2
  rw [hd] at c2
  clear h
  go_enter Try.func30, Try.ntmps30
  go_wp2
  go_ret
  exact ⟨rfl, rfl⟩
set_option maxHeartbeats 2000000 in
theorem rFail_ok {w : World} {F : Nat → Prop} {p : Nat} {sv lv kv : Value} {r : Rk} (h : RAt w F p sv lv kv r) (hd : r.down = false) (n : Int) (hn : ¬ n < 0) (v : Value) (ks : List Bool) (hk : KRow w v ks) (hkl : ks.length ≤ 1000000) :
    Calls Try.prog 30 #[.pointer (some ⟨p, 0, none⟩), .int .i64 n, v] w fun e w' => ∃ kv', e = .returned (.int .i64 0) ∧ RAt w' (grow F w w') p sv lv kv' (failR n ks r) ∧ OnlyF F w w' := by
  obtain ⟨i0, hi, hz0, hz1, hz2⟩ := info_parts info4
  obtain ⟨o, c, rfl⟩ := hk.form
  have c2 := h.c2
  rw [hd] at c2
  have HS := Lib.hid hk.src
  have HH := Lib.hid h
  clear h hk
  go_enter Try.func30, Try.ntmps30
  go_wp2_with (at_builtin; refine wpList_copy _ rfl (.tmp 16) 32 rfl 4 i0 (.bool false) 1 1 Try.underlying32 hi hz0 hz1 hz2 rfl (by decide) (.slice o ks.length c) ks.length (ks.map Value.bool) rfl HS.out (by intro u hu; obtain ⟨x, _, rfl⟩ := List.mem_map.1 hu; rfl) (by unfold maxLen; omega) (by omega) ?_
               intro v' w1 hO hB
               obtain ⟨o2, c2, rfl⟩ := ownsRow_form hO
               have hD := HH.out.keepB hB
               have c4 := hD.c4
               have c5 := hD.c5
               have f4 := hD.fz 4
               have f5 := hD.fz 5
               have HD := Lib.hid hD
               have HO := Lib.hid hO
               have HB := Lib.hid hB
               clear hD hO hB)
  go_ret
  have h1 := (HD.out.wider (G := grow F w w1) fun _ hx => .inl hx).putHead 4 (.int .i64 n) { r with left := n } rfl rfl rfl rfl
  have ho : w1.ownsRow 0 4 1 (.slice o2 ks.length c2) ks.length (ks.map Value.bool) := ownsRow_base HO.out (Nat.zero_le _)
  have ho2 := ownsRow_block (w' := w1.setCell ⟨p, 4, none⟩ (.int .i64 n)) ho fun k hk => by
    have hne : k ≠ p := fun e => ownsRow_ne ho HD.out.m (by decide) (by rw [hk, e])
    rw [Below.heap_setCell _ _ _ _ hne]
  have h3 := h1.put 5 (.slice o2 ks.length c2) (r' := failR n ks r) h1.fs h1.fl (fun k hk => .inr (HO.out.lt k hk)) rfl h1.su h1.lo ho2
  exact ⟨rfl, ⟨_, h3.wider (fun x hx => hx.imp (fun h => h) (fun ⟨a, b⟩ => ⟨a, by simpa using b⟩))⟩, ((OnlyF.of HB.out).set HD.out.fp 4 _).set HD.out.fp 5 _⟩
end Go.Proofs.Yteblobookpldfaa.Se
