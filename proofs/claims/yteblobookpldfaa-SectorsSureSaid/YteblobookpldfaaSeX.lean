/- The document's disk: a write, a read. -/
import Derived.Test.YteblobookpldfaaSeW
namespace Go.Proofs.Yteblobookpldfaa.Se
open Go.RowKit Go.Shelf Go.Proofs
attribute [local go_sem] Oper.semAt_some

def putR (n : Nat) (s : ByteArray) (r : Rk) : Rk := { r with loose := r.loose ++ [(n, s)] }
set_option maxHeartbeats 2000000 in
theorem rWrite_down {w : World} {F : Nat → Prop} {p : Nat} {sv lv kv : Value} {r : Rk} (h : RAt w F p sv lv kv r) (hd : r.down = true) (n : Int) (s : ByteArray) : Calls Try.prog 26 #[.pointer (some ⟨p, 0, none⟩), .int .i64 n, .string s] w fun e w' => e = .returned (.int .i64 61) ∧ w = w' := by
  have c2 := h.c2
  rw [hd] at c2
  clear h
  go_enter Try.func26, Try.ntmps26
  go_wp2
  go_ret
  exact ⟨rfl, rfl⟩
set_option maxHeartbeats 4000000 in
theorem rWrite_arg {w : World} {F : Nat → Prop} {p : Nat} {sv lv kv : Value} {r : Rk} (h : RAt w F p sv lv kv r) (hd : r.down = false) (n : Int) (s : ByteArray) (hb : n < 0 ∨ (r.sure.length : Int) ≤ n ∨ s.size ≠ 512) :
    Calls Try.prog 26 #[.pointer (some ⟨p, 0, none⟩), .int .i64 n, .string s] w fun e w' => e = .returned (.int .i64 2) ∧ w = w' := by
  obtain ⟨o, c, rfl⟩ := ownsRow_form h.su
  have c0 := h.c0
  have c2 := h.c2
  rw [hd] at c2
  clear h
  by_cases h1 : n < 0
  · go_enter Try.func26, Try.ntmps26
    go_wp2
    go_ret
    exact ⟨rfl, rfl⟩
  · by_cases h2 : (r.sure.length : Int) ≤ n
    · go_enter Try.func26, Try.ntmps26
      go_wp2
      go_ret
      exact ⟨rfl, rfl⟩
    · have h3 : ¬ (s.size : Int) = 512 := by omega
      have h4 : ((s.size : Int) == 512) = false := beq_eq_false_iff_ne.mpr h3
      have h5 : ((s.size : Int) != 512) = true := by rw [bne, h4]; rfl
      go_enter Try.func26, Try.ntmps26
      go_wp2
      go_ret
      exact ⟨rfl, rfl⟩
theorem looseV_one' (L : List (Nat × ByteArray)) : ∀ u ∈ looseV L, u.oneCell' = true := looseV_one L
theorem RAt.grownL {w1 w2 w3 : World} {F : Nat → Prop} {p : Nat} {sv lv kv v' v'' : Value} {r : Rk} {n : Nat} {s : ByteArray} {o : Obj} (h : RAt w1 F p sv lv kv r) (hB : Below w1.heap.size w1 w2)
    (hO : w2.ownsRow w1.heap.size 66 2 v' r.loose.length (looseV r.loose)) (hown : w3.ownsRow w1.heap.size 66 2 v'' (r.loose.length + 1) (looseV r.loose ++ [.int .i64 (n : Int), .string s])) (hg : (w2.alloc o).grownBy w3 v'.ownBlock) :
    w3.cell? ⟨p, 1, none⟩ = some lv ∧ w3.frozen? ⟨p, 1, none⟩ = false ∧ RAt (w3.setCell ⟨p, 1, none⟩ v'') (grow F w1 w3) p sv v'' kv (putR n s r) ∧ OnlyF F w1 (w3.setCell ⟨p, 1, none⟩ v'') := by
  have hB3 : Below w1.heap.size w1 w3 := (hB.alloc hB.size o).grown hg (Nat.le_trans hB.size (by simp)) (fun k hk => (hO.lt k hk).1)
  have h3 := (h.keepB hB3).wider (G := grow F w1 w3) fun _ hx => .inl hx
  refine ⟨h3.c1, h3.fz 1, h3.put 1 v'' (r' := putR n s r) h3.fs (fun k hk => .inr (hown.lt k hk)) h3.fk rfl h3.su ?_ h3.ke, (OnlyF.of hB3).set h.fp 1 v''⟩
  have e : (putR n s r).loose.length = r.loose.length + 1 := by unfold putR; simp
  rw [e, show looseV (putR n s r).loose = looseV r.loose ++ [.int .i64 (n : Int), .string s] from looseV_snoc _ _]
  exact ownsRow_base hown (Nat.zero_le _)
set_option maxHeartbeats 8000000 in
theorem rWrite_ok {w : World} {F : Nat → Prop} {p : Nat} {sv lv kv : Value} {r0 : Rk} (h : RAt w F p sv lv kv r0) (hd : r0.down = false) (h0 : ¬ r0.left = 0) (hb : r0.left ≤ 1000000) (n : Nat) (hn : n < r0.sure.length) (s : ByteArray) (hss : s.size = 512) (hl : r0.loose.length ≤ 1000000) :
    Calls Try.prog 26 #[.pointer (some ⟨p, 0, none⟩), .int .i64 (n : Int), .string s] w fun e w' => ∃ lv', e = .returned (.int .i64 0) ∧ RAt w' (grow F w w') p sv lv' kv (putR n s (failsR r0)) ∧ OnlyF F w w' := by
  obtain ⟨i0, hi, hz0, hz1, hz2⟩ := info_parts info66
  obtain ⟨o, c, rfl⟩ := ownsRow_form h.su
  obtain ⟨ol, cl, rfl⟩ := ownsRow_form h.lo
  have c0 := h.c0
  have c2 := h.c2
  rw [hd] at c2
  have HU := Lib.hid (fails_calls h hb)
  rw [decide_eq_false h0] at HU
  obtain ⟨t1, t2, t3, t4, t5⟩ := failsR_sure r0
  generalize failsR r0 = r at *
  rw [← t2] at hl HU
  have n1 : ¬ (n : Int) < 0 := by omega
  have n2 : (n : Int) < (r0.sure.length : Int) := by omega
  have n3 : (s.size : Int) = 512 := by omega
  clear h t1 t2 t3 t4 t5
  go_enter Try.func26, Try.ntmps26
  go_wp2_with (first
    | (go_at_call 45; refine HU.out.mono ?_; rintro e w1 ⟨rfl, hD1, hO1⟩; have c1 := hD1.c1; have HS := Lib.hid (ownsRow_src hD1.lo); have HD1 := Lib.hid hD1; have HO1 := Lib.hid hO1; clear hD1 hO1 HU)
    | (at_builtin; refine wpList_copy _ rfl (.tmp 34) 45 rfl 66 i0 (.agg #[.int .i64 0, .string ⟨#[]⟩]) 2 24 Try.underlying45 hi hz0 hz1 hz2 rfl (by decide) (.slice ol r.loose.length cl) r.loose.length (looseV r.loose) rfl HS.out (looseV_one _) (by unfold maxLen; omega) (by omega) ?_
       intro v' w2 hO hB
       obtain ⟨o2, c2, rfl⟩ := ownsRow_form hO
       have HO := Lib.hid hO
       have HB := Lib.hid hB
       clear hO hB)
    | (at_builtin; refine wpList_append_own_at _ rfl (.tmp 35) (.tmp 39) 45 rfl w1.heap.size 66 i0 (.agg #[.int .i64 0, .string ⟨#[]⟩]) 2 24 Try.underlying45 hi hz0 hz1 hz2 rfl (by decide) (.slice o2 r.loose.length c2) r.loose.length (looseV r.loose) rfl (HO.out.alloc _) ⟨w2.heap.size, 0, none⟩ 1 1 [.int .i64 (n : Int), .string s] rfl rfl (new_two w2 _ _ 66) (one_two _ _) (by unfold maxLen; omega) (by omega) (Nat.le_trans HB.out.size (by simp)) ?_
       intro v'' w3 hown hgrow hnil hob
       obtain ⟨o3, c3, rfl⟩ := ownsRow_form hown
       obtain ⟨g1, g2, g3, g4⟩ := HD1.out.grownL HB.out HO.out hown hgrow
       have G3 := Lib.hid g3
       have G4 := Lib.hid g4
       clear g3 g4 hown hgrow hnil hob))
  go_ret
  have hsz := HO1.out.size
  exact ⟨_, rfl, G3.out.wider (fun x hx => hx.imp (fun h => h) (fun ⟨a, b⟩ => ⟨by omega, by simpa using b⟩)), HO1.out.trans G4.out⟩
set_option maxHeartbeats 8000000 in
theorem rWrite_due {w : World} {F : Nat → Prop} {p : Nat} {sv lv kv : Value} {r : Rk} (h : RAt w F p sv lv kv r) (hF : ∀ x, F x → x < w.heap.size) (hd : r.down = false) (h0 : r.left = 0) (hin : InsideR r) (hmax : r.sure.length ≤ 1000000) (n : Nat) (hn : n < r.sure.length) (s : ByteArray) (hss : s.size = 512) (hl : r.loose.length ≤ 1000000) :
    Calls Try.prog 26 #[.pointer (some ⟨p, 0, none⟩), .int .i64 (n : Int), .string s] w fun e w' => ∃ sv', e = .returned (.int .i64 61) ∧ RAt w' (grow F w w') p sv' (.slice none 0 0) kv (crashR r.keep (putR n s r)) ∧ OnlyF F w w' := by
  obtain ⟨i0, hi, hz0, hz1, hz2⟩ := info_parts info66
  obtain ⟨o, c, rfl⟩ := ownsRow_form h.su
  obtain ⟨ol, cl, rfl⟩ := ownsRow_form h.lo
  obtain ⟨ok, ck, rfl⟩ := ownsRow_form h.ke
  have c0 := h.c0
  have c2 := h.c2
  rw [hd] at c2
  have e0 : failsR r = r := by unfold failsR; rw [if_neg (by omega)]
  have HU := Lib.hid (fails_calls h (by omega))
  rw [e0, decide_eq_true h0] at HU
  have hin2 : InsideR (putR n s r) := fun x hx => by
    rcases List.mem_append.1 hx with hx | hx
    · exact hin x hx
    · obtain rfl := List.mem_singleton.1 hx
      exact hn
  have HC := Lib.hid (fun (w1 : World) (F' : Nat → Prop) (lv' : Value) (h1 : RAt w1 F' p (.slice o r.sure.length c) lv' (.slice ok r.keep.length ck) (putR n s r)) (hw : ∀ x, F' x → x < w1.heap.size) =>
    rCrash_ok h1 hw hd (show 0 < r.sure.length by omega) hmax hin2 (.slice ok r.keep.length ck) r.keep (by have q := h1.ke; exact KRow.own q))
  have HF := Lib.hid hF
  have n1 : ¬ (n : Int) < 0 := by omega
  have n2 : (n : Int) < (r.sure.length : Int) := by omega
  have n3 : (s.size : Int) = 512 := by omega
  clear h hin2 hin hF
  go_enter Try.func26, Try.ntmps26
  go_wp2_with (first
    | (go_at_call 45; refine HU.out.mono ?_; rintro e w1 ⟨rfl, hD1, hO1⟩; have c1 := hD1.c1; have HS := Lib.hid (ownsRow_src hD1.lo); have HD1 := Lib.hid hD1; have HO1 := Lib.hid hO1; clear hD1 hO1 HU)
    | (at_builtin; refine wpList_copy _ rfl (.tmp 34) 45 rfl 66 i0 (.agg #[.int .i64 0, .string ⟨#[]⟩]) 2 24 Try.underlying45 hi hz0 hz1 hz2 rfl (by decide) (.slice ol r.loose.length cl) r.loose.length (looseV r.loose) rfl HS.out (looseV_one _) (by unfold maxLen; omega) (by omega) ?_
       intro v' w2 hO hB
       obtain ⟨o2, c2, rfl⟩ := ownsRow_form hO
       have HO := Lib.hid hO
       have HB := Lib.hid hB
       clear hO hB)
    | (at_builtin; refine wpList_append_own_at _ rfl (.tmp 35) (.tmp 39) 45 rfl w1.heap.size 66 i0 (.agg #[.int .i64 0, .string ⟨#[]⟩]) 2 24 Try.underlying45 hi hz0 hz1 hz2 rfl (by decide) (.slice o2 r.loose.length c2) r.loose.length (looseV r.loose) rfl (HO.out.alloc _) ⟨w2.heap.size, 0, none⟩ 1 1 [.int .i64 (n : Int), .string s] rfl rfl (new_two w2 _ _ 66) (one_two _ _) (by unfold maxLen; omega) (by omega) (Nat.le_trans HB.out.size (by simp)) ?_
       intro v'' w3 hown hgrow hnil hob
       obtain ⟨o3, c3, rfl⟩ := ownsRow_form hown
       obtain ⟨g1, g2, g3, g4⟩ := HD1.out.grownL HB.out HO.out hown hgrow
       have c5 := g3.c5
       have G3 := Lib.hid g3
       have G4 := Lib.hid g4
       clear g3 g4 hown hgrow hnil hob)
    | (go_at_call 28; refine (HC.out _ _ _ G3.out (fun x hx => hx.elim (fun hf => Nat.lt_of_lt_of_le (HF.out x hf) (Nat.le_trans HO1.out.size G4.out.size)) (fun ⟨_, b⟩ => by simpa using b))).mono ?_; rintro e w4 ⟨sv', rfl, hD4, hO4⟩))
  go_ret
  have hsz := HO1.out.size
  have hsz2 := hO4.size
  have hO2 := HO1.out.trans G4.out
  have hs3 : w1.heap.size ≤ w3.heap.size := by simpa using G4.out.size
  have hs4 : w3.heap.size ≤ w4.heap.size := by simpa using hsz2
  refine ⟨sv', rfl, hD4.wider (fun x hx => ?_), ⟨hO4.os.trans hO2.os, hO4.tape.trans hO2.tape, hO4.output.trans hO2.output, Nat.le_trans hO2.size hO4.size, fun b hb hn => ?_⟩⟩
  · rcases hx with (hx | ⟨a, b⟩) | ⟨a, b⟩
    · exact .inl hx
    · exact .inr ⟨by omega, by omega⟩
    · exact .inr ⟨by simp at a; omega, b⟩
  · rw [hO4.block b (Nat.lt_of_lt_of_le hb hO2.size) (fun hx => hx.elim hn (fun ⟨a, _⟩ => by omega))]
    exact hO2.block b hb hn
/-! ### Read -/
theorem lastW_snoc (n : Nat) (x : Nat × ByteArray) : ∀ L : List (Nat × ByteArray), lastW n (L ++ [x]) = if x.1 = n then some x.2 else lastW n L
  | [] => by
    show lastW n [x] = _
    unfold lastW
    simp [lastW]
  | y :: L => by
    rw [List.cons_append]
    unfold lastW
    rw [lastW_snoc n x L]
    split <;> rename_i h
    · split at h
      · next e => rw [if_pos e]; cases h; rfl
      · next e => rw [if_neg e, h]
    · split at h
      · cases h
      · next e => rw [if_neg e, h]
def readR (r : Rk) (n : Nat) (i : Nat) : ByteArray := match lastW n (r.loose.take i) with
  | some s => s
  | none => r.sure.getD n ⟨#[]⟩
theorem readR_yes {r : Rk} {n i : Nat} {x : Nat × ByteArray} (hx : r.loose[i]? = some x) (h : x.1 = n) : readR r n (i + 1) = x.2 := by
  unfold readR
  rw [List.take_add_one, hx]
  simp only [Option.toList]
  rw [lastW_snoc, if_pos h]
theorem readR_no {r : Rk} {n i : Nat} {x : Nat × ByteArray} (hx : r.loose[i]? = some x) (h : ¬ x.1 = n) : readR r n (i + 1) = readR r n i := by
  unfold readR
  rw [List.take_add_one, hx]
  simp only [Option.toList]
  rw [lastW_snoc, if_neg h]
set_option maxHeartbeats 2000000 in
theorem rRead_down {w : World} {F : Nat → Prop} {p : Nat} {sv lv kv : Value} {r : Rk} (h : RAt w F p sv lv kv r) (hd : r.down = true) (n : Int) : Calls Try.prog 31 #[.pointer (some ⟨p, 0, none⟩), .int .i64 n] w fun e w' => e = .returned (.tuple #[.string ⟨#[]⟩, .int .i64 61]) ∧ w = w' := by
  have c2 := h.c2
  rw [hd] at c2
  clear h
  go_enter Try.func31, Try.ntmps31
  go_wp2
  go_ret2
  exact ⟨rfl, rfl⟩
set_option maxHeartbeats 2000000 in
theorem rRead_arg {w : World} {F : Nat → Prop} {p : Nat} {sv lv kv : Value} {r : Rk} (h : RAt w F p sv lv kv r) (hd : r.down = false) (n : Int) (hb : n < 0 ∨ (r.sure.length : Int) ≤ n) :
    Calls Try.prog 31 #[.pointer (some ⟨p, 0, none⟩), .int .i64 n] w fun e w' => e = .returned (.tuple #[.string ⟨#[]⟩, .int .i64 2]) ∧ w = w' := by
  obtain ⟨o, c, rfl⟩ := ownsRow_form h.su
  have c0 := h.c0
  have c2 := h.c2
  rw [hd] at c2
  clear h
  by_cases h1 : n < 0
  · go_enter Try.func31, Try.ntmps31
    go_wp2
    go_ret2
    exact ⟨rfl, rfl⟩
  · have h2 : (r.sure.length : Int) ≤ n := by omega
    go_enter Try.func31, Try.ntmps31
    go_wp2
    go_ret2
    exact ⟨rfl, rfl⟩
set_option maxRecDepth 100000 in
set_option maxHeartbeats 4000000 in
theorem rRead_ok {w : World} {F : Nat → Prop} {p : Nat} {sv lv kv : Value} {r : Rk} (h : RAt w F p sv lv kv r) (hd : r.down = false) (n : Nat) (hn : n < r.sure.length) :
    Calls Try.prog 31 #[.pointer (some ⟨p, 0, none⟩), .int .i64 (n : Int)] w fun e w' => e = .returned (.tuple #[.string (readR r n r.loose.length), .int .i64 0]) ∧ w = w' := by
  obtain ⟨os, cs, rfl⟩ := ownsRow_form h.su
  obtain ⟨ol, cl, rfl⟩ := ownsRow_form h.lo
  obtain ⟨gs, rfl⟩ := ownsRow_at h.su (by omega)
  have c0 := h.c0
  have c1 := h.c1
  have c2 := h.c2
  rw [hd] at c2
  have s0 : w.cell? ((⟨gs, 0, none⟩ : Addr).add n) = some (.string (readR r n 0)) := by
    rw [add_zero, h.su.cellAt n (by omega), List.getElem?_map, List.getElem?_eq_getElem hn]
    unfold readR
    rw [List.take_zero]
    show some (Value.string _) = some (Value.string (r.sure.getD n ⟨#[]⟩))
    rw [List.getD_eq_getElem?_getD, List.getElem?_eq_getElem hn]
    rfl
  have hlen : r.loose.length ≤ 9223372036854775807 := by
    rcases h.lo.2 with ⟨_, h3⟩ | ⟨g', cap, cur, e, _, _, h4, h5, _⟩
    · omega
    · unfold maxLen at h5
      omega
  have HH := Lib.hid h
  have n1 : ¬ (n : Int) < 0 := by omega
  have n2 : ¬ (r.sure.length : Int) ≤ (n : Int) := by omega
  have n3 : ((n : Int)).toNat = n := by omega
  have n4 : (0 : Int) ≤ (n : Int) := by omega
  have n5 : (n : Int) < (r.sure.length : Int) := by omega
  clear h
  obtain ⟨ag, hag⟩ : ∃ ag, ag = (⟨gs, 0, none⟩ : Addr) := ⟨_, rfl⟩
  rw [← hag] at s0 c0
  clear hag
  go_enter Try.func31, Try.ntmps31
  go_wp2
  go_loopg [6, 7] r.loose.length (fun k v6 v7 wr => ∃ i : Nat, v7 = .int .i64 (i : Int) ∧ i ≤ r.loose.length ∧ v6 = .string (readR r n i) ∧ wr = w ∧ k = r.loose.length - i)
  case atStart => exact ⟨0, rfl, by omega, rfl, rfl, rfl⟩
  case round =>
    obtain ⟨i, rfl, hi, rfl, rfl, rfl⟩ := hrel
    have q3 : ((i : Int)).toNat = i := by omega
    have q4 : (0 : Int) ≤ (i : Int) := by omega
    by_cases hil : i < r.loose.length
    · have q1 : (i : Int) < (r.loose.length : Int) := by omega
      obtain ⟨x, hx⟩ : ∃ x, r.loose[i]? = some x := ⟨_, List.getElem?_eq_getElem hil⟩
      obtain ⟨gl, rfl⟩ := ownsRow_at HH.out.lo (by omega)
      obtain ⟨l0, l1⟩ := HH.out.loose_at rfl i x hx
      obtain ⟨al, hal⟩ : ∃ al, al = (⟨gl, 0, none⟩ : Addr) := ⟨_, rfl⟩
      rw [← hal] at l0 l1 c1
      clear hal
      by_cases e : x.1 = n
      · have hr := readR_yes hx e
        have e1 : ((x.1 : Int) == (n : Int)) = true := by simp [e]
        have HR := Lib.hid hr
        clear hx hr
        go_wp2
        go_roundg (r.loose.length - (i + 1))
        case measure => omega
        case rel => exact ⟨i + 1, by simp, by omega, by rw [HR.out], rfl, rfl⟩
      · have hr := readR_no hx e
        have e1 : ((x.1 : Int) == (n : Int)) = false := by simp; omega
        have HR := Lib.hid hr
        clear hx hr
        go_wp2
        go_roundg (r.loose.length - (i + 1))
        case measure => omega
        case rel => exact ⟨i + 1, by simp, by omega, by rw [HR.out], rfl, rfl⟩
    · obtain rfl : i = r.loose.length := by omega
      have q1 : ¬ (r.loose.length : Int) < (r.loose.length : Int) := by omega
      go_wp2
      go_ret2
      exact ⟨rfl, rfl⟩
end Go.Proofs.Yteblobookpldfaa.Se
