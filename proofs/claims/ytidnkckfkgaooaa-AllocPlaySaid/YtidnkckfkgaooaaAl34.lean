/- A map and the document's, played side by side: the state. -/
import Derived.Test.YtidnkckfkgaooaaAl33
import Derived.Test.YtidnkckfkgaooaaAlG
namespace Go.Proofs.Ytidnkckfkgaooaa.Al
open Go.RowKit Go.Shelf Go.Proofs Go.Proofs.Ytidnkckfkgaooaa.Ext Go.Proofs.Ytidnkckfkgaooaa.Pure Go.Proofs.YtidnkckfkgaooaaW.PrintWords Go.Proofs.YtidnkckfkgaooaaW.PrintLast Go.Proofs.YtidnkckfkgaooaaW.PrintMore

theorem RAt.only {W W' : World} {base q g cap N x : Nat} {f : Nat → Bool} (h : RAt W base q g cap N f) (k : OnlyAt x W W') (hq : q ≠ x) (hg : g ≠ x) : RAt W' base q g cap N f :=
  ⟨(k.block _ (lt_of_block h.m) hq).trans h.m, ownsRow_block h.row (fun j hj => k.block j (h.row.lt j hj).2 (fun e => hg (by
    have : g = j := by simpa [Value.ownBlock] using hj
    rw [this, e]))), h.hq⟩
theorem MapAt.only {W W' : World} {p N x : Nat} {s : ByteArray} (h : MapAt W p N s) (k : OnlyAt x W W') (hp : p ≠ x) : MapAt W' p N s := by
  unfold MapAt at *
  rw [k.block _ (lt_of_block h) hp]
  exact h
theorem block_ne {W : World} {a b : Nat} {c1 c2 : Array Value} {t1 t2 : TypeId} {f1 f2 : Nat × Nat} (h1 : W.heap[a]? = some (.cells c1 t1 f1)) (h2 : W.heap[b]? = some (.cells c2 t2 f2)) (h : t1 ≠ t2) : a ≠ b := by
  rintro rfl
  rw [h1] at h2
  simp at h2
  exact h h2.2.1
theorem RAt.gb {W : World} {base q g cap N : Nat} {f : Nat → Bool} (h : RAt W base q g cap N f) : ∃ cur, W.heap[g]? = some (.cells cur 4 (0, 0)) := by
  rcases h.row.2 with ⟨e, _⟩ | ⟨g', cap', cur, e, _, hg, _⟩
  · cases e
  · obtain ⟨e1, _, _⟩ := Value.slice.inj e
    obtain rfl : g = g' := by simpa using e1
    exact ⟨cur, hg⟩
/-- None of some blocks. -/
def FarV (v : Value) (bs : List Nat) : Prop := ∀ a l c, v = .slice (some a) l c → 0 < l → ∀ b ∈ bs, a.block ≠ b
/-- Two maps, rows of extents, a list of what was taken. -/
structure PlI (w : World) (p q g cap N : Nat) (sm sr : ByteArray) (tb tc : Nat) (T R : List (Value × List (Int × Int))) (W : World) : Prop where
  below : Below w.heap.size w W
  hp : w.heap.size ≤ p
  m : MapAt W p N sm
  r : RAt W w.heap.size q g cap N (hasB sr)
  tk : W.ownsRow w.heap.size 39 1 (.slice (some ⟨tb, 0, none⟩) T.length tc) T.length (T.map (·.1))
  rows : ∀ x ∈ R, ExRow W x.1 x.2 ∧ FarV x.1 [p, q, g, tb]
section
variable {w W W' : World} {p q g cap N : Nat} {sm sr : ByteArray} {tb tc : Nat} {T R : List (Value × List (Int × Int))}
theorem PlI.htb (h : PlI w p q g cap N sm sr tb tc T R W) : ∃ cur, W.heap[tb]? = some (.cells cur 39 (0, 0)) := by
  rcases h.tk.2 with ⟨e, _⟩ | ⟨g', cap', cur, e, _, hg, _⟩
  · cases e
  · obtain ⟨e1, _, _⟩ := Value.slice.inj e
    obtain rfl : tb = g' := by simpa using e1
    exact ⟨cur, hg⟩
theorem PlI.tb_ge (h : PlI w p q g cap N sm sr tb tc T R W) : w.heap.size ≤ tb ∧ tb < W.heap.size := h.tk.lt tb rfl
theorem PlI.pq (h : PlI w p q g cap N sm sr tb tc T R W) : p ≠ q := block_ne h.m h.r.m (by decide)
theorem PlI.pg (h : PlI w p q g cap N sm sr tb tc T R W) : p ≠ g := by obtain ⟨c, hc⟩ := h.r.gb; exact block_ne h.m hc (by decide)
theorem PlI.ptb (h : PlI w p q g cap N sm sr tb tc T R W) : p ≠ tb := by obtain ⟨c, hc⟩ := h.htb; exact block_ne h.m hc (by decide)
theorem PlI.qtb (h : PlI w p q g cap N sm sr tb tc T R W) : q ≠ tb := by obtain ⟨c, hc⟩ := h.htb; exact block_ne h.r.m hc (by decide)
theorem PlI.gtb (h : PlI w p q g cap N sm sr tb tc T R W) : g ≠ tb := by
  obtain ⟨c, hc⟩ := h.htb
  obtain ⟨c2, hc2⟩ := h.r.gb
  exact block_ne hc2 hc (by decide)
theorem PlI.keepB (h : PlI w p q g cap N sm sr tb tc T R W) (hB : Below W.heap.size W W') : PlI w p q g cap N sm sr tb tc T R W' :=
  ⟨h.below.trans (hB.mono h.below.size), h.hp, h.m.keepB hB, h.r.keepB hB, ownsRow_block h.tk (fun k hk => hB.block k (h.tk.lt k hk).2), fun x hx => ⟨(h.rows x hx).1.keepB hB, (h.rows x hx).2⟩⟩
theorem tk_only {x : Nat} (h : PlI w p q g cap N sm sr tb tc T R W) (k : OnlyAt x W W') (hx : tb ≠ x) : W'.ownsRow w.heap.size 39 1 (.slice (some ⟨tb, 0, none⟩) T.length tc) T.length (T.map (·.1)) :=
  ownsRow_block h.tk (fun j hj => k.block j (h.tk.lt j hj).2 (fun e => hx (by
    have : tb = j := by simpa [Value.ownBlock] using hj
    rw [this, e])))
theorem rows_only {x : Nat} (h : PlI w p q g cap N sm sr tb tc T R W) (k : OnlyAt x W W') (hx : x ∈ [p, q, g, tb]) : ∀ y ∈ R, ExRow W' y.1 y.2 ∧ FarV y.1 [p, q, g, tb] :=
  fun y hy => ⟨(h.rows y hy).1.keep (fun a l c e hl => (h.rows y hy).2 a l c e hl x hx) k, (h.rows y hy).2⟩
theorem PlI.atP {t : ByteArray} (h : PlI w p q g cap N sm sr tb tc T R W) (k : OnlyAt p W W') (hm : MapAt W' p N t) : PlI w p q g cap N t sr tb tc T R W' :=
  ⟨k.below h.below h.hp h.below.size, h.hp, hm, h.r.only k h.pq.symm h.pg.symm, tk_only h k h.ptb.symm, rows_only h k (by simp)⟩
theorem PlI.atG {t : ByteArray} (h : PlI w p q g cap N sm sr tb tc T R W) (k : OnlyAt g W W') (hr : RAt W' w.heap.size q g cap N (hasB t)) : PlI w p q g cap N sm t tb tc T R W' :=
  ⟨k.below h.below h.r.hg.1 h.below.size, h.hp, h.m.only k h.pg, hr, tk_only h k h.gtb.symm, rows_only h k (by simp)⟩
theorem PlI.atQ {t : ByteArray} {g' cap' : Nat} (h : PlI w p q g cap N sm sr tb tc T R W) (k : OnlyAt q W W') (hr : RAt W' w.heap.size q g' cap' N (hasB t)) (hg : g' = g ∨ W.heap.size ≤ g') : PlI w p q g' cap' N sm t tb tc T R W' := by
  refine ⟨k.below h.below h.r.hq h.below.size, h.hp, h.m.only k h.pq, hr, tk_only h k h.qtb.symm, fun y hy => ⟨(rows_only h k (by simp) y hy).1, fun a l c e hl b hb => ?_⟩⟩
  have hf := (h.rows y hy).2 a l c e hl
  rcases hg with rfl | hg
  · exact hf b hb
  · have hlt : a.block < W.heap.size := by
      have hr0 := (h.rows y hy).1
      rw [e] at hr0
      have hl2 : l = y.2.length := by
        obtain ⟨o, c', e2⟩ := hr0.form
        exact (Value.slice.inj e2).2.1
      obtain ⟨a', ha', h0, _⟩ := hr0.at' 0 _ (List.getElem?_eq_getElem (show 0 < y.2.length by omega))
      obtain rfl := Option.some.inj ha'
      have := block_lt_of_cell h0
      have e3 : (a.add (0 * 2)).block = a.block := by unfold Addr.add; split <;> rfl
      omega
    simp only [List.mem_cons, List.mem_nil_iff, or_false] at hb hf
    rcases hb with rfl | rfl | rfl | rfl
    · exact hf _ (.inl rfl)
    · exact hf _ (.inr (.inl rfl))
    · omega
    · exact hf _ (.inr (.inr (.inr rfl)))
/-- Another block of the call's own turns. -/
theorem PlI.atX {x : Nat} (h : PlI w p q g cap N sm sr tb tc T R W) (k : OnlyAt x W W') (hx : w.heap.size ≤ x) (h1 : p ≠ x) (h2 : q ≠ x) (h3 : g ≠ x) (h4 : tb ≠ x) (h5 : ∀ y ∈ R, FarV y.1 [x]) : PlI w p q g cap N sm sr tb tc T R W' :=
  ⟨k.below h.below hx h.below.size, h.hp, h.m.only k h1, h.r.only k h2 h3, tk_only h k h4, fun y hy => ⟨(h.rows y hy).1.keep (fun a l c e hl => h5 y hy a l c e hl x (by simp)) k, (h.rows y hy).2⟩⟩
theorem PlI.more (h : PlI w p q g cap N sm sr tb tc T R W) {v : Value} {L : List (Int × Int)} (hr : ExRow W v L) (hf : FarV v [p, q, g, tb]) : PlI w p q g cap N sm sr tb tc T (R ++ [(v, L)]) W :=
  ⟨h.below, h.hp, h.m, h.r, h.tk, fun x hx => by
    rcases List.mem_append.1 hx with hx | hx
    · exact h.rows x hx
    · obtain rfl := List.mem_singleton.1 hx
      exact ⟨hr, hf⟩⟩
theorem PlI.less {R' : List (Value × List (Int × Int))} (h : PlI w p q g cap N sm sr tb tc T R W) (hs : ∀ x ∈ R', x ∈ R) : PlI w p q g cap N sm sr tb tc T R' W :=
  ⟨h.below, h.hp, h.m, h.r, h.tk, fun x hx => h.rows x (hs x hx)⟩
/-- Give, of the map. -/
theorem PlI.give (h : PlI w p q g cap N sm sr tb tc T R W) (h1 : 1 ≤ N) (hN : N ≤ 4096) (hs : sm.size ≤ 1000) {v : Value} {L : List (Int × Int)} (hx : (v, L) ∈ R) (hL : L.length ≤ 1000000) (hb : ∀ x ∈ L, I64 x.1 ∧ I64 x.2) (hB : Below W.heap.size W W') :
    Calls Try.prog 28 #[.pointer (some ⟨p, 0, none⟩), v] W' fun e W2 => e = .returned (.bool (giveE N L sm).isSome) ∧ PlI w p q g cap N ((giveE N L sm).getD sm) sr tb tc T R W2 ∧ OnlyAt p W' W2 := by
  have h2 := h.keepB hB
  refine (give_calls W' p N sm v L h2.m h1 hN hs (h2.rows _ hx).1 hL hb).mono ?_
  rintro e W2 ⟨rfl, hm, hO⟩
  exact ⟨rfl, h2.atP hO hm, hO⟩
/-- Give, of the document's. -/
theorem PlI.rgive (h : PlI w p q g cap N sm sr tb tc T R W) (h1 : 1 ≤ N) (hN : N ≤ 4096) (hs : Bits sr N (hasB sr)) {v : Value} {L : List (Int × Int)} (hx : (v, L) ∈ R) (hL : L.length ≤ 1000000) (hb : ∀ x ∈ L, I64 x.1 ∧ I64 x.2) (hB : Below W.heap.size W W') :
    Calls Try.prog 33 #[.pointer (some ⟨q, 0, none⟩), v] W' fun e W2 => e = .returned (.bool (giveE N L sr).isSome) ∧ (∃ g' cap', PlI w p q g' cap' N sm ((giveE N L sr).getD sr) tb tc T R W2) ∧ OnlyAt q W' W2 := by
  have h2 := h.keepB hB
  refine (refGive_calls W' w.heap.size q g cap N sr v L h2.r hs h1 hN (h2.rows _ hx).1 hL hb h2.below.size).mono ?_
  rintro e W2 ⟨rfl, ⟨g', cap', hr, hg⟩, hO⟩
  exact ⟨rfl, ⟨g', cap', h2.atQ hO hr hg⟩, hO⟩
theorem far_new {v : Value} {W : World} (hv : ∀ a l c, v = .slice (some a) l c → 0 < l → W.heap.size ≤ a.block) {bs : List Nat} (hb : ∀ b ∈ bs, b < W.heap.size) : FarV v bs := fun a l c e hl b hbm => by
  have := hv a l c e hl
  have := hb b hbm
  omega
theorem PlI.old (h : PlI w p q g cap N sm sr tb tc T R W) : ∀ b ∈ [p, q, g, tb], b < W.heap.size := by
  intro b hb
  simp only [List.mem_cons, List.mem_nil_iff, or_false] at hb
  rcases hb with rfl | rfl | rfl | rfl
  · exact lt_of_block h.m
  · exact lt_of_block h.r.m
  · exact h.r.hg.2
  · exact h.tb_ge.2
/-- Take, of the map. -/
theorem PlI.take (h : PlI w p q g cap N sm sr tb tc T R W) (hN : N ≤ 4096) (hs : sm.size ≤ 1000) (n : Int) (hn : I64 n) :
    Calls Try.prog 26 #[.pointer (some ⟨p, 0, none⟩), .int .i64 n] W fun e W2 => ∃ o c, e = .returned (.tuple #[.slice o (takeL sm N n).length c, .bool (decide (0 < (takeL sm N n).length))]) ∧ PlI w p q g cap N (takeS sm N n) sr tb tc T (R ++ [(.slice o (takeL sm N n).length c, takeL sm N n)]) W2 := by
  refine (take_calls W p N sm n h.m hN hs hn).mono ?_
  rintro e W2 ⟨v, rfl, hr, hv, hm, hO⟩
  obtain ⟨o, c, rfl⟩ := hr.form
  exact ⟨o, c, rfl, (h.atP hO hm).more hr (far_new hv h.old)⟩
/-- Take, of the document's. -/
theorem PlI.rtake (h : PlI w p q g cap N sm sr tb tc T R W) (h1 : 1 ≤ N) (hN : N ≤ 4096) (hs : Bits sr N (hasB sr)) (n : Int) (hn : I64 n) :
    Calls Try.prog 34 #[.pointer (some ⟨q, 0, none⟩), .int .i64 n] W fun e W2 => ∃ o c, e = .returned (.tuple #[.slice o (takeL sr N n).length c, .bool (decide (0 < (takeL sr N n).length))]) ∧ PlI w p q g cap N sm (takeS sr N n) tb tc T (R ++ [(.slice o (takeL sr N n).length c, takeL sr N n)]) W2 := by
  refine (refTake_calls W w.heap.size q g cap N sr n h.r hs h1 hN hn).mono ?_
  rintro e W2 ⟨v, rfl, hr, hv, hR, hO⟩
  obtain ⟨o, c, rfl⟩ := hr.form
  exact ⟨o, c, rfl, (h.atG hO hR).more hr (far_new hv h.old)⟩
end
section
variable {w W W' : World} {p q g cap N : Nat} {sm sr : ByteArray} {tb tc : Nat} {T R : List (Value × List (Int × Int))}
theorem PlI.look (h : PlI w p q g cap N sm sr tb tc T R W) (k : Nat) (y : Value × List (Int × Int)) (hk : T[k]? = some y) : W.cell? ((⟨tb, 0, none⟩ : Addr).add k) = some y.1 := by
  have hlt := (List.getElem?_eq_some_iff.1 hk).1
  rw [add_zero, h.tk.cellAt k (by omega), List.getElem?_map, hk]
  rfl
theorem far_of_row {v : Value} {L : List (Int × Int)} (h : ExRow W v L) : ∀ a l c, v = .slice (some a) l c → 0 < l → a.block < W.heap.size := fun a l c e hl => by
  rw [e] at h
  have hl2 : l = L.length := by
    obtain ⟨o, c', e2⟩ := h.form
    exact (Value.slice.inj e2).2.1
  obtain ⟨a', ha', h0, _⟩ := h.at' 0 _ (List.getElem?_eq_getElem (show 0 < L.length by omega))
  obtain rfl := Option.some.inj ha'
  have := block_lt_of_cell h0
  have e3 : (a.add (0 * 2)).block = a.block := by unfold Addr.add; split <;> rfl
  omega
/-- A block that is made later turns. -/
theorem PlI.later {x : Nat} (h : PlI w p q g cap N sm sr tb tc T R W) (h' : PlI w p q g cap N sm sr tb tc T R W') (hx : W.heap.size ≤ x) {W2 : World} (k : OnlyAt x W' W2) : PlI w p q g cap N sm sr tb tc T R W2 := by
  have ho := h.old
  have hs := h.below.size
  simp only [List.mem_cons, List.mem_nil_iff, or_false, forall_eq_or_imp, forall_eq] at ho
  refine h'.atX k (by omega) (by omega) (by omega) (by omega) (by omega) (fun y hy a l c e hl b hb => ?_)
  obtain rfl := List.mem_singleton.1 hb
  have := far_of_row (h.rows y hy).1 a l c e hl
  omega
/-- What was taken, told. -/
theorem PlI.snoc {b : Value} {L : List (Int × Int)} {W2 : World} {v' : Value} (h : PlI w p q g cap N sm sr tb tc T R W) (hT : ∀ x ∈ T, x ∈ R) (hb : (b, L) ∈ R)
    (hg : (W.alloc (.cells #[b] 39)).grownBy W2 (some tb)) (ho : W2.ownsRow w.heap.size 39 1 v' (T.length + 1) (T.map (·.1) ++ [b])) (hat : v'.ownBlock = some tb ∨ v'.ownBlock = some (W.heap.size + 1)) :
    ∃ tb' tc', v' = .slice (some ⟨tb', 0, none⟩) (T.length + 1) tc' ∧ PlI w p q g cap N sm sr tb' tc' (T ++ [(b, L)]) (T ++ [(b, L)]) W2 := by
  obtain ⟨tb', tc', rfl⟩ := ownsRow_succ ho
  refine ⟨tb', tc', rfl, ?_⟩
  have hB : Below W.heap.size W (W.alloc (.cells #[b] 39)) := (Below.refl _ _).alloc (Nat.le_refl _) _
  have hk : OnlyAt tb W W2 := by
    refine ⟨hg.os.trans hB.os, hg.tape.trans hB.tape, hg.output.trans hB.output, Nat.le_trans hB.size hg.size, fun i hi hne => ?_⟩
    rw [hg.block i (Nat.lt_of_lt_of_le hi hB.size) (fun e => hne (by simpa using e)), hB.block i hi]
  have hsz := h.below.size
  have hold := h.old
  have htb : tb' = tb ∨ W.heap.size ≤ tb' := by
    rcases hat with hat | hat
    · left
      simpa [Value.ownBlock] using hat
    · right
      have : tb' = W.heap.size + 1 := by simpa [Value.ownBlock] using hat
      omega
  refine ⟨hk.below h.below h.tb_ge.1 hsz, h.hp, h.m.only hk h.ptb, h.r.only hk h.qtb h.gtb, ?_, fun x hx => ?_⟩
  · rw [List.length_append, List.length_singleton, List.map_append]
    exact ho
  · have hxR : x ∈ R := by
      rcases List.mem_append.1 hx with hx | hx
      · exact hT x hx
      · obtain rfl := List.mem_singleton.1 hx
        exact hb
    have hr := rows_only h hk (by simp) x hxR
    refine ⟨hr.1, fun a l c e hl b' hb' => ?_⟩
    have hf := hr.2 a l c e hl
    have hlt := far_of_row (h.rows x hxR).1 a l c e hl
    simp only [List.mem_cons, List.mem_nil_iff, or_false] at hb' hf
    rcases hb' with rfl | rfl | rfl | rfl
    · exact hf _ (.inl rfl)
    · exact hf _ (.inr (.inl rfl))
    · exact hf _ (.inr (.inr (.inl rfl)))
    · rcases htb with rfl | htb
      · exact hf _ (.inr (.inr (.inr rfl)))
      · omega
end
theorem and_mask (a : Int) (m : Nat) (hm : m < 4294967296) : ∃ k : Nat, Go.bits .and .i64 a (m : Int) = (k : Int) ∧ k ≤ m := by
  refine ⟨(BitVec.ofInt 64 a).toNat &&& m, ?_, Nat.and_le_right⟩
  have hle : (BitVec.ofInt 64 a).toNat &&& m ≤ m := Nat.and_le_right
  show IntKind.i64.wrap ((BitVec.ofInt 64 a &&& BitVec.ofInt 64 (m : Int)).toNat : Int) = _
  rw [BitVec.toNat_and, show (BitVec.ofInt 64 (m : Int)).toNat = m from by rw [BitVec.ofInt_natCast, BitVec.toNat_ofNat]; exact Nat.mod_eq_of_lt (by omega), IntKind.wrap_i64]
  omega
theorem info39 : (Try.prog.info? 39).map (fun i => (i.zero, i.size, i.bytes)) = some (some (.slice none 0 0), 1, 24) := by kernel_rfl
/-! ### What keeps the bits in their places -/
theorem take_bits {s : ByteArray} {N : Nat} (h : Bits s N (hasB s)) (n : Int) : Bits (takeS s N n) N (hasB (takeS s N n)) :=
  Bits.of (setE_bits true (takeL s N n) h (takeL_in s N n)).ok
theorem give_bits {N : Nat} : ∀ (L : List (Int × Int)) {s : ByteArray}, Bits s N (hasB s) → Bits ((giveE N L s).getD s) N (hasB ((giveE N L s).getD s)) := by
  have key : ∀ (L : List (Int × Int)) (s t : ByteArray), Bits s N (hasB s) → giveE N L s = some t → Bits t N (hasB t) := by
    intro L
    induction L with
    | nil =>
      intro s t h e
      rw [giveE_nil] at e
      obtain rfl := Option.some.inj e
      exact h
    | cons x r ih =>
      intro s t h e
      by_cases hx : exIn N x ∧ exUsed s x
      · rw [giveE_step N hx] at e
        have hin := hx.1
        unfold exIn at hin
        obtain ⟨F, hF⟩ := Int.eq_ofNat_of_zero_le hin.2.1
        rw [hF] at e
        exact ih _ t (Bits.of (setN_bits h false F x.2.toNat (by omega)).ok) e
      · rw [giveE_stop N hx] at e
        cases e
  intro L s h
  cases e : giveE N L s with
  | none => exact h
  | some t => exact key L s t h e
end Go.Proofs.Ytidnkckfkgaooaa.Al
