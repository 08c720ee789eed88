/- New, Write, Copy, Size: the program's walks. -/
import Derived.Test.YtegjphfkkafomaaDoorSha5
import Derived.Laws.IdiomStrings
namespace Go.Proofs.YtegjphfkkafomaaDoor.Sha
open Go.RowKit Go.Proofs Go.Proofs.YtegjphfkkafomaaDoor.Q Go.Proofs.YtegjphfkkafomaaDoorW.PrintWords Go.Proofs.YtegjphfkkafomaaDoorW.PrintLast Go.Proofs.YtegjphfkkafomaaDoorW.PrintMore

/-- A text's bytes. -/
def byN (s : ByteArray) : List Nat := s.data.toList.map fun b => b.toNat
theorem byN_length (s : ByteArray) : (byN s).length = s.size := by unfold byN; simp
theorem byN_lt (s : ByteArray) : ∀ x ∈ byN s, x < 256 := by
  intro x hx
  obtain ⟨b, _, rfl⟩ := List.mem_map.1 hx
  exact b.toNat_lt

theorem bytesRow_cells (s : ByteArray) (c : Nat) : ∀ (j : Nat) (u : Value), (cells8 (byN s))[j]? = some u → (bytesRow s c)[j]? = some u := by
  intro j u hu
  have hj : j < s.size := by
    have := (List.getElem?_eq_some_iff.1 hu).1
    rwa [cells8_length, byN_length] at this
  rw [← hu]
  unfold bytesRow cells8 byN
  have h1 : j < (s.data.map fun b => Value.int .u8 b.toNat).size := by simpa using hj
  rw [Array.getElem?_append_left h1]
  simp [hj]

set_option maxHeartbeats 2000000 in
theorem size_calls (w : World) (p : Nat) (v : Value) (l : List Nat) (z : Int) (H : HAt w p v l z) :
    Calls Tryd.prog 16 #[.pointer (some ⟨p, 0, none⟩)] w fun e w' => e = .returned (.int .i64 z) ∧ w' = w := by
  have hz : w.cell? ⟨p, 10, none⟩ = some (.int .i64 z) := block_cell H.cells 10
  go_enter Tryd.func16, Tryd.ntmps16
  go_wp2
  go_ret
  exact ⟨rfl, rfl⟩

set_option maxHeartbeats 2000000 in
theorem new_calls (w : World) (hL : Laid w) :
    Calls Tryd.prog 12 #[] w fun e w' => e = .returned (.pointer (some ⟨w.heap.size, 0, none⟩)) ∧ HAt w' w.heap.size (.slice none 0 0) [] 0 ∧ Below w.heap.size w w' := by
  have hlt := hL.lt
  obtain ⟨tb, fb, hb⟩ := hL.b
  have b0 : w.cell? ⟨0, 0, none⟩ = some (.int .u32 (beginN.a : Int)) := block_cell hb 0
  have b1 : w.cell? ⟨0, 1, none⟩ = some (.int .u32 (beginN.b : Int)) := block_cell hb 1
  have b2 : w.cell? ⟨0, 2, none⟩ = some (.int .u32 (beginN.c : Int)) := block_cell hb 2
  have b3 : w.cell? ⟨0, 3, none⟩ = some (.int .u32 (beginN.d : Int)) := block_cell hb 3
  have b4 : w.cell? ⟨0, 4, none⟩ = some (.int .u32 (beginN.e : Int)) := block_cell hb 4
  have b5 : w.cell? ⟨0, 5, none⟩ = some (.int .u32 (beginN.f : Int)) := block_cell hb 5
  have b6 : w.cell? ⟨0, 6, none⟩ = some (.int .u32 (beginN.g : Int)) := block_cell hb 6
  have b7 : w.cell? ⟨0, 7, none⟩ = some (.int .u32 (beginN.h : Int)) := block_cell hb 7
  go_enter Tryd.func12, Tryd.ntmps12
  go_wp2
  go_ret
  refine ⟨rfl, ⟨alloc_new w _ _ rfl, World.ownsRow_nil _ _ _ _, by simp [Value.ownBlock], hlt, fun x hx => by cases hx⟩, (Below.refl _ _).alloc (Nat.le_refl _) _⟩

theorem HAt.fill {w2 : World} {q : Nat} {v : Value} {l : List Nat} {z : Int} (hq : w2.heap[q]? = some (.cells (hCells (stN (fB l) (l.length / 64)) v z) 39 (0, 0))) {o2 : Option Addr} {n c2 : Nat} (hn : n = l.length % 64)
    (hown : w2.ownsRow (q + 1) 5 1 (.slice o2 n c2) n (cells8 (l.drop (64 * (l.length / 64))))) (h2 : 2 ≤ q) (hs : ∀ x ∈ l, x < 256) : HAt (w2.setCell ⟨q, 9, none⟩ (.slice o2 n c2)) q (.slice o2 n c2) l z := by
  subst hn
  have hfresh : ∀ k, (Value.slice o2 (l.length % 64) c2).ownBlock = some k → q + 1 ≤ k := fun k hk => (hown.lt k hk).1
  have hne : (Value.slice o2 (l.length % 64) c2).ownBlock ≠ some q := fun e => by
    have := hfresh q e
    omega
  refine ⟨?_, ?_, hne, h2, hs⟩
  · have := block_set hq 9 (.slice o2 (l.length % 64) c2)
    simpa [hCells] using this
  · exact ownsRow_block (ownsRow_mono hown (by omega)) (fun k hk => Below.heap_setCell _ _ _ _ (fun e => hne (by rw [hk]; exact congrArg some e)))

set_option maxHeartbeats 2000000 in
set_option maxRecDepth 100000 in
theorem copy_calls (w : World) (p : Nat) (v : Value) (l : List Nat) (z : Int) (H : HAt w p v l z) :
    Calls Tryd.prog 13 #[.pointer (some ⟨p, 0, none⟩)] w fun e w' => e = .returned (.pointer (some ⟨w.heap.size, 0, none⟩)) ∧ ∃ u, HAt w' w.heap.size u l z ∧ (∀ g, u.ownBlock = some g → w.heap.size < g) ∧ Below w.heap.size w w' := by
  obtain ⟨i0, hi, hz0, hz1, hz2⟩ := info_parts info5
  have h0 : w.cell? ⟨p, 0, none⟩ = some (.bool true) := block_cell H.cells 0
  have h9 : w.cell? ⟨p, 9, none⟩ = some v := block_cell H.cells 9
  have h10 : w.cell? ⟨p, 10, none⟩ = some (.int .i64 z) := block_cell H.cells 10
  have hlt := H.lt
  have b0 : w.cell? ⟨p, 1, none⟩ = some (.int .u32 ((stN (fB l) (l.length / 64)).a : Int)) := block_cell H.cells 1
  have b1 : w.cell? ⟨p, 2, none⟩ = some (.int .u32 ((stN (fB l) (l.length / 64)).b : Int)) := block_cell H.cells 2
  have b2 : w.cell? ⟨p, 3, none⟩ = some (.int .u32 ((stN (fB l) (l.length / 64)).c : Int)) := block_cell H.cells 3
  have b3 : w.cell? ⟨p, 4, none⟩ = some (.int .u32 ((stN (fB l) (l.length / 64)).d : Int)) := block_cell H.cells 4
  have b4 : w.cell? ⟨p, 5, none⟩ = some (.int .u32 ((stN (fB l) (l.length / 64)).e : Int)) := block_cell H.cells 5
  have b5 : w.cell? ⟨p, 6, none⟩ = some (.int .u32 ((stN (fB l) (l.length / 64)).f : Int)) := block_cell H.cells 6
  have b6 : w.cell? ⟨p, 7, none⟩ = some (.int .u32 ((stN (fB l) (l.length / 64)).g : Int)) := block_cell H.cells 7
  have b7 : w.cell? ⟨p, 8, none⟩ = some (.int .u32 ((stN (fB l) (l.length / 64)).h : Int)) := block_cell H.cells 8
  obtain ⟨o, c, rfl, hnc, hform⟩ := own_form H.own
  have H2 := H.two
  have HS := Lib.hid H.small
  have HI := Lib.hid (And.intro hi (And.intro hz0 (And.intro hz1 hz2)))
  have HO := Lib.hid H.own
  clear hi hz0 hz1 hz2 H
  rcases hform with ⟨rfl, hn, rfl⟩ | ⟨g, rfl, hg2, hcells⟩
  · have HN := Lib.hid hn
    rw [hn] at h9
    go_enter Tryd.func13, Tryd.ntmps13
    go_wp2
    go_ret
    have e0 : l.drop (64 * (l.length / 64)) = [] := List.drop_eq_nil_of_le (by have := HN.out; omega)
    exact ⟨rfl, .slice none 0 0, ⟨alloc_new w _ _ rfl, by rw [HN.out, e0]; exact World.ownsRow_nil _ _ _ _, by simp [Value.ownBlock], by omega, HS.out⟩, fun k hk => by simp [Value.ownBlock] at hk, (Below.refl _ _).alloc (Nat.le_refl _) _⟩
  · have HX : ∀ o, ∀ i u, (cells8 (l.drop (64 * (l.length / 64))))[i]? = some u → (w.alloc o).cell? ((⟨g, 0, none⟩ : Addr).add i) = some u := fun o i u hu => by
      have hi : i < l.length % 64 := by
        have := (List.getElem?_eq_some_iff.1 hu).1
        rw [cells8_length, List.length_drop] at this
        omega
      rw [show (⟨g, 0, none⟩ : Addr).add i = ⟨g, i, none⟩ from by (unfold Addr.add; simp; intro h; exact h.symm), World.cell?_of_block (Below.heap_alloc w o g (block_lt_of_cell ((hcells i (by omega)).trans hu))), hcells i (by omega)]
      exact hu
    have HY := Lib.hid HX
    have HL : (cells8 (l.drop (64 * (l.length / 64)))).length = (l.length % 64) * 1 := by rw [cells8_length, List.length_drop]; omega
    have HZ := Lib.hid HL
    have hb64 : l.length % 64 < 64 := by omega
    clear HX HL hcells
    go_enter Tryd.func13, Tryd.ntmps13
    go_wp2_with ((with_reducible refine gate_builtin (b := .append) (xs := #[.const (.slice none 0 0), .tmp 19]) rfl ?_); at_builtin; refine wpList_append_own_at _ rfl (.const (.slice none 0 0)) (.tmp 19) 37 rfl (w.heap.size + 1) 5 i0 (.int .u8 0) 1 1 Tryd.underlying37 HI.out.1 HI.out.2.1 HI.out.2.2.1 HI.out.2.2.2 rfl (by decide) (.slice none 0 0) 0 [] rfl (World.ownsRow_nil _ _ _ _) ⟨g, 0, none⟩ (l.length % 64) c (cells8 (l.drop (64 * (l.length / 64)))) rfl HZ.out (HY.out _) (cells8_one _) (by unfold maxLen; omega) (by omega) (by simp) ?_; intro v2 w2 hown2 hgr2 hnil2 hat2; rw [Nat.zero_add, List.nil_append] at hown2; have hp2 := (hgr2.block w.heap.size (by simp) (by simp [Value.ownBlock])).trans (alloc_new w _ _ rfl); obtain ⟨o2, c2, rfl, hc2, hform2⟩ := own_form hown2; clear hform2 hnil2 hat2; have k92 := block_cell hp2 9; have kf2 := fun j => block_frozen hp2 j)
    go_ret
    refine ⟨rfl, _, HAt.fill hp2 rfl hown2 (by omega) HS.out, fun k hk => by have := (hown2.lt k hk).1; omega, ?_⟩
    exact (((Below.refl _ _).alloc (Nat.le_refl _) _).grown hgr2 (by simp) (fun k hk => by simp [Value.ownBlock] at hk)).setCell (by simp) _

theorem add_zero (g j : Nat) : (⟨g, 0, none⟩ : Addr).add j = ⟨g, j, none⟩ := by
  unfold Addr.add
  simp
  intro h
  exact h.symm
theorem take_at (w : World) (p : Nat) (v : Value) (l bl : List Nat) (z : Int) (ad : Addr) (c m : Nat) (e : bl.length = m) (hL : Laid w) (H : HAt w p v l z) (hm : m ≤ 1000000000)
    (hb : ∀ x ∈ bl, x < 256) (hc : ∀ (j : Nat) (u : Value), (cells8 bl)[j]? = some u → w.cell? (ad.add j) = some u) :
    Calls Tryd.prog 28 #[.pointer (some ⟨p, 0, none⟩), .slice (some ad) m c] w fun e w' => e = .returned (.tuple #[]) ∧ ∃ v', HAt w' p v' (l ++ bl) z ∧ (∀ g, v'.ownBlock = some g → w.heap.size ≤ g) ∧ Only p v w w' := by
  subst e
  exact take_calls w p v l bl z ad c hL H hm hb hc
theorem HAt.count {w : World} {p : Nat} {v : Value} {l : List Nat} {z : Int} (h : HAt w p v l z) (z' : Int) : HAt (w.setCell ⟨p, 10, none⟩ (.int .i64 z')) p v l z' := by
  refine ⟨?_, ?_, h.ne, h.two, h.small⟩
  · have := block_set h.cells 10 (.int .i64 z')
    simpa using this
  · exact ownsRow_block h.own (fun k hk => Below.heap_setCell _ _ _ _ (fun e => h.ne (by rw [hk]; exact congrArg some e)))

set_option maxHeartbeats 2000000 in
set_option maxRecDepth 100000 in
theorem write_calls (w : World) (p : Nat) (v : Value) (l : List Nat) (z : Nat) (s : ByteArray) (hL : Laid w) (H : HAt w p v l z) (hs : s.size ≤ 1000000000) (hz : z ≤ 1000000000000) :
    Calls Tryd.prog 14 #[.pointer (some ⟨p, 0, none⟩), .string s] w fun e w' => e = .returned (.int .i64 s.size) ∧ ∃ u, HAt w' p u (l ++ byN s) ((z + s.size : Nat) : Int) ∧ (∀ g, u.ownBlock = some g → w.heap.size ≤ g) ∧ Only p v w w' := by
  have h0 : w.cell? ⟨p, 0, none⟩ = some (.bool true) := block_cell H.cells 0
  have hconv := fun w => run_bytes_of_string (P := Tryd.prog) w 9 37 5 s Tryd.underlying9 Tryd.underlying37 Tryd.underlying5
  have hB : ∀ o, Below w.heap.size w (w.alloc o).drew := fun o => ((Below.refl _ _).alloc (Nat.le_refl _) o).drew
  have hlt := H.lt
  have HL := Lib.hid (show ∀ o, Laid (w.alloc o).drew from fun o => hL.of_below (hB o) (by have := hL.lt; omega))
  have HH := Lib.hid (show ∀ o, HAt (w.alloc o).drew p v l z from fun o => H.keepB (hB o))
  have HC := Lib.hid (show ∀ c fr, ∀ (j : Nat) (u : Value), (cells8 (byN s))[j]? = some u → ((w.alloc (.cells (bytesRow s c) 5 fr)).drew).cell? ((⟨w.heap.size, 0, none⟩ : Addr).add j) = some u from fun c fr j u hu => by
    rw [add_zero]
    exact (block_cell (w := (w.alloc (.cells (bytesRow s c) 5 fr)).drew) (alloc_new w _ _ rfl) j).trans (bytesRow_cells s c j u hu))
  have HS := Lib.hid (byN_length s)
  have HB := Lib.hid hB
  have HN := Lib.hid (H.own.lt)
  clear hB H
  go_enter Tryd.func14, Tryd.ntmps14
  go_wp2_with (go_at_call 28; refine (take_at _ p v l (byN s) z ⟨w.heap.size, 0, none⟩ _ s.size HS.out (HL.out _) (HH.out _) hs (byN_lt s) (HC.out _ _)).mono ?_; rintro e w2 ⟨rfl, u, Hu, hfr, hon⟩; have hz2 := block_cell Hu.cells 10; have hf2 := fun k => block_frozen Hu.cells k)
  go_ret
  refine ⟨rfl, u, by rw [Int.natCast_add]; exact Hu.count _, fun g hg => ?_, ((Only.of_below (HB.out _)).then hon).setCell _ _⟩
  have h1 := hfr g hg
  have h2 := (HB.out (.cells (bytesRow s (grownCap w s.size 0 5)) 5 ((bytesRow s (grownCap w s.size 0 5)).size, (bytesRow s (grownCap w s.size 0 5)).size + 1))).size
  omega

end Go.Proofs.YtegjphfkkafomaaDoor.Sha
