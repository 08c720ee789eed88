/- The document's disk: a new one; each act in one form; both disks alike. -/
import Derived.Test.YteblobookpldfaaSeX
namespace Go.Proofs.Yteblobookpldfaa.Se
open Go.RowKit Go.Shelf Go.Proofs
attribute [local go_sem] Oper.semAt_some

/-! ### A new one -/
def rN (n : Nat) : Rk := ⟨List.replicate n (secS 0), [], false, 0, -1, []⟩
theorem RAt.grownS {w1 w3 : World} {F : Nat → Prop} {p : Nat} {sv v' : Value} {r r' : Rk} {s : ByteArray} {o : Obj} (h : RAt w1 F p sv (.slice none 0 0) (.slice none 0 0) r)
    (e1 : r'.sure = r.sure ++ [s]) (e2 : r'.loose = [] ∧ r'.keep = [] ∧ r'.down = r.down ∧ r'.starts = r.starts ∧ r'.left = r.left)
    (hown : w3.ownsRow 0 9 1 v' (r.sure.length + 1) (r.sure.map Value.string ++ [.string s])) (hg : (w1.alloc o).grownBy w3 sv.ownBlock) (hob : v'.ownBlock = sv.ownBlock ∨ v'.ownBlock = some (w1.alloc o).heap.size) :
    w3.cell? ⟨p, 0, none⟩ = some sv ∧ w3.frozen? ⟨p, 0, none⟩ = false ∧ RAt (w3.setCell ⟨p, 0, none⟩ v') (grow F w1 w3) p v' (.slice none 0 0) (.slice none 0 0) r' ∧ OnlyF F w1 (w3.setCell ⟨p, 0, none⟩ v') := by
  have hA : Below w1.heap.size w1 (w1.alloc o) := (Below.refl _ _).alloc (Nat.le_refl _) o
  have h2 := h.keepB hA
  have hk : ∀ k, k < (w1.alloc o).heap.size → sv.ownBlock ≠ some k → w3.heap[k]? = (w1.alloc o).heap[k]? := fun k hk hn => hg.block k hk (fun e => hn e.symm)
  have hm := (hk p (lt_of_block h2.m) h2.ns).trans h2.m
  have hO : OnlyF F w1 w3 := ⟨hg.os, hg.tape, hg.output, Nat.le_trans (by simp) hg.size, fun b hb hn => (hk b (by simp; omega) (fun e => hn (h.fs b e))).trans (hA.block b hb)⟩
  have hv : v'.ownBlock ≠ some p := ownsRow_ne hown hm (by decide)
  have hset : ∀ k, k ≠ p → (w3.setCell ⟨p, 0, none⟩ v').heap[k]? = w3.heap[k]? := fun _ hk => Below.heap_setCell _ _ _ _ hk
  obtain ⟨q1, q2, q3, q4, q5⟩ := e2
  refine ⟨by rw [block_cell hm]; rfl, block_frozen hm 0, ⟨.inl h.fp, fun k hk' => ?_, fun k hk => (by cases hk), fun k hk => (by cases hk), ?_, ?_, ?_, ?_⟩, hO.set h.fp 0 v'⟩
  · rcases hob with e | e
    · exact .inl (h.fs k (by rw [← e]; exact hk'))
    · have e2 : k = (w1.alloc o).heap.size := by rw [hk'] at e; exact Option.some.inj e
      have := (hown.lt k hk').2
      rw [e2] at this ⊢
      exact .inr ⟨by simp, this⟩
  · have := block_set hm 0 v'
    rw [q3, q4, q5]
    exact this
  · rw [e1, List.length_append, List.map_append]
    exact ownsRow_block hown fun k hk' => hset k fun e => hv (by rw [hk', e])
  · rw [q1]; exact World.ownsRow_nil _ _ _ _
  · rw [q2]; exact World.ownsRow_nil _ _ _ _
set_option maxHeartbeats 2000000 in
theorem rNew_none (w : World) (n : Int) (h : n < 8 ∨ 4096 < n) : Calls Try.prog 10 #[.int .i64 n] w fun e w' => e = .returned (.tuple #[.pointer none, .int .i64 2]) ∧ w = w' := by
  rcases h with h | h
  · go_enter Try.func10, Try.ntmps10
    go_wp2
    go_ret2
    exact ⟨rfl, rfl⟩
  · have h1 : ¬ n < 8 := by omega
    go_enter Try.func10, Try.ntmps10
    go_wp2
    go_ret2
    exact ⟨rfl, rfl⟩
theorem new_one (W : World) (x : Value) (t : TypeId) : ∀ (j : Nat) (u : Value), [x][j]? = some u → (W.alloc (.cells #[x] t)).cell? ((⟨W.heap.size, 0, none⟩ : Addr).add j) = some u := by
  intro j u hj
  rw [add_zero, block_cell (alloc_new _ _ _ rfl)]
  simpa using hj
set_option maxRecDepth 100000 in
set_option maxHeartbeats 4000000 in
theorem rNew_some (w : World) (n : Nat) (h8 : 8 ≤ n) (hn : n ≤ 4096) : Calls Try.prog 10 #[.int .i64 (n : Int)] w fun e w' => ∃ p sv, e = .returned (.tuple #[.pointer (some ⟨p, 0, none⟩), .int .i64 0]) ∧ RAt w' (fun x => w.heap.size ≤ x ∧ x < w'.heap.size) p sv (.slice none 0 0) (.slice none 0 0) (rN n) ∧ Below w.heap.size w w' := by
  obtain ⟨i0, hi, hz0, hz1, hz2⟩ := info_parts info5
  obtain ⟨i9, gi, gz0, gz1, gz2⟩ := info_parts info9
  obtain ⟨Z, hZ⟩ : ∃ Z, Z = madeCells #[.int .u8 0] 512 := ⟨_, rfl⟩
  have hmk : ∀ W : World, (Instr.makeSlice 49 (.int .i64 512) (.int .i64 512)).run Try.prog W = .ok (.slice (some ⟨W.heap.size, 0, none⟩) 512 512) (W.alloc (.cells Z 5)) := fun W => by
    have h := run_make (P := Try.prog) W 49 5 i0 (.int .u8 0) Try.underlying49 hi hz0 .i64 .i64 512 512 (by omega) (by omega) (by rw [hz2]; omega) (by omega)
    rw [hz1, Nat.mul_one] at h
    rw [hZ]
    exact h
  have hx : ∀ W : World, (convert 49 9 (.slice (some ⟨W.heap.size, 0, none⟩) 512 512)).run Try.prog (W.alloc (.cells Z 5)) = .ok (.string (secS 0)) (W.alloc (.cells Z 5)) := fun W => by
    refine RowS.text ⟨_, alloc_new _ _ _ rfl, ?_, fun j hj => ?_⟩
    · rw [hZ]; exact made_size 512
    · rw [hZ, made_get 512 j hj]
      simp
  replace hx : ∀ o : Obj, (convert 49 9 (.slice (some ⟨w.heap.size + 1, 0, none⟩) 512 512)).run Try.prog ((w.alloc o).alloc (.cells Z 5)) = .ok (.string (secS 0)) ((w.alloc o).alloc (.cells Z 5)) := fun o => by
    have h := hx (w.alloc o)
    rw [World.size_alloc] at h
    exact h
  have h1 : ¬ (n : Int) < 8 := by omega
  have h2 : ¬ (4096 : Int) < (n : Int) := by omega
  clear hi hz0 hz1 hz2 hZ
  have hr0 : ∀ m, rN m = ⟨List.replicate m (secS 0), [], false, 0, -1, []⟩ := fun _ => rfl
  obtain ⟨R, hR⟩ : ∃ R : Nat → Rk, R = rN := ⟨_, rfl⟩
  rw [← hR] at hr0 ⊢
  clear hR
  generalize secS 0 = z at *
  have HR := Lib.hid hr0
  clear hr0
  go_enter Try.func10, Try.ntmps10
  go_wp2
  have hB0 : Below w.heap.size w ((w.alloc (.cells #[.slice none 0 0, .slice none 0 0, .bool false, .int .i64 0, .int .i64 (-1), .slice none 0 0] 61)).alloc (.cells Z 5)) := ((Below.refl _ _).alloc (Nat.le_refl _) _).alloc (by simp) _
  have hA0 : RAt ((w.alloc (.cells #[.slice none 0 0, .slice none 0 0, .bool false, .int .i64 0, .int .i64 (-1), .slice none 0 0] 61)).alloc (.cells Z 5)) (fun x => w.heap.size ≤ x ∧ x < ((w.alloc (.cells #[.slice none 0 0, .slice none 0 0, .bool false, .int .i64 0, .int .i64 (-1), .slice none 0 0] 61)).alloc (.cells Z 5)).heap.size) w.heap.size (.slice none 0 0) (.slice none 0 0) (.slice none 0 0) (R 0) := by
    refine ⟨⟨Nat.le_refl _, by simp; omega⟩, fun k hk => (by cases hk), fun k hk => (by cases hk), fun k hk => (by cases hk), ?_, ?_, ?_, ?_⟩
    · rw [HR.out, Below.heap_alloc _ _ _ (by simp)]
      exact alloc_new _ _ _ rfl
    · rw [HR.out]; exact World.ownsRow_nil _ _ _ _
    · rw [HR.out]; exact World.ownsRow_nil _ _ _ _
    · rw [HR.out]; exact World.ownsRow_nil _ _ _ _
  generalize (w.alloc (.cells #[.slice none 0 0, .slice none 0 0, .bool false, .int .i64 0, .int .i64 (-1), .slice none 0 0] 61)).alloc (.cells Z 5) = w0 at *
  clear hmk hx
  go_loopg [6] n (fun k v6 wr => ∃ i : Nat, v6 = .int .i64 (i : Int) ∧ i ≤ n ∧ (∃ sv, RAt wr (fun x => w.heap.size ≤ x ∧ x < wr.heap.size) w.heap.size sv (.slice none 0 0) (.slice none 0 0) (R i)) ∧ Below w.heap.size w wr ∧ k = n - i)
  case atStart => exact ⟨0, rfl, by omega, ⟨_, hA0⟩, hB0, rfl⟩
  case round =>
    clear hA0 hB0
    obtain ⟨i, rfl, hi, ⟨sv, hA⟩, hB, rfl⟩ := hrel
    by_cases hil : i < n
    · have q1 : (i : Int) < (n : Int) := by omega
      have hlen : (R i).sure.length = i := by rw [HR.out]; simp
      obtain ⟨os, cs, rfl⟩ := ownsRow_form hA.su
      have c0 := hA.c0
      have HA := Lib.hid hA
      have HB := Lib.hid hB
      rw [hlen] at c0
      have HN := Lib.hid hlen
      clear hA hB hlen
      go_wp2_with (at_builtin; refine wpList_append_own_at _ rfl (.tmp 26) (.tmp 28) 44 rfl 0 9 i9 (.string ⟨#[]⟩) 1 16 Try.underlying44 gi gz0 gz1 gz2 rfl (by decide) (.slice os i cs) (R i).sure.length ((R i).sure.map Value.string) rfl (by have := HA.out.su; rw [HN.out] at this ⊢; exact this.alloc _) ⟨wr.heap.size, 0, none⟩ 1 1 [.string z] rfl rfl (new_one wr _ 9) (by intro u hu; obtain rfl := List.mem_singleton.1 hu; rfl) (by rw [HN.out]; unfold maxLen; omega) (by rw [HN.out]; omega) (Nat.zero_le _) ?_
                   intro v' w3 hown hgrow hnil hob
                   obtain ⟨o3, c3, rfl⟩ := ownsRow_form hown
                   obtain ⟨g1, g2, g3, g4⟩ := HA.out.grownS (r' := R (i + 1)) (s := z) (by rw [HR.out, HR.out]; exact List.replicate_succ' (n := i)) (by rw [HR.out, HR.out]; exact ⟨rfl, rfl, rfl, rfl, rfl⟩) (o := .cells #[.string z] 9) hown (by rw [HN.out]; exact hgrow) (by rw [HN.out] at hob ⊢; exact hob)
                   have G3 := Lib.hid g3
                   have G4 := Lib.hid g4
                   clear g3 g4 hown hgrow hnil hob)
      go_roundg (n - (i + 1))
      case measure => omega
      case rel =>
        have hB3 := G4.out.below HB.out (fun x hx => hx.1) (Nat.le_refl _)
        have hsz := HB.out.size
        refine ⟨i + 1, by simp, by omega, ⟨_, G3.out.wider (fun x hx => ?_)⟩, hB3, rfl⟩
        have hs2 : wr.heap.size ≤ w3.heap.size := by simpa using G4.out.size
        rcases hx with ⟨a, b⟩ | ⟨a, b⟩
        · exact ⟨a, by simp; omega⟩
        · exact ⟨by omega, by simpa using b⟩
    · obtain rfl : i = n := by omega
      have q1 : ¬ (i : Int) < (i : Int) := by omega
      have HA := Lib.hid hA
      clear hA
      go_wp2
      go_ret2
      first | exact ⟨_, ⟨_, HA.out⟩, hB⟩ | exact ⟨rfl, ⟨_, HA.out⟩, hB⟩ | exact ⟨_, rfl, ⟨_, HA.out⟩, hB⟩
end Go.Proofs.Yteblobookpldfaa.Se
