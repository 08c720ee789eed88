/- SHA-256 in numbers: a round, the numbers of a block, a block. -/
import Derived.Test.YtegjphfkkafomaaDoorSha1
namespace Go.Proofs.YtegjphfkkafomaaDoor.Sha
open Go.RowKit Go.Proofs Go.Proofs.YtegjphfkkafomaaDoor.Q Go.Proofs.YtegjphfkkafomaaDoorW.PrintWords Go.Proofs.YtegjphfkkafomaaDoorW.PrintLast Go.Proofs.YtegjphfkkafomaaDoorW.PrintMore

def rotN (x k : Nat) : Nat := x / 2 ^ k + x * 2 ^ (32 - k) % 4294967296
theorem rotN_cast (x k : Nat) : rot (x : Int) k = ((rotN x k : Nat) : Int) := rot_nat x k
theorem rotN_lt (x k : Nat) (hx : x < 4294967296) (hk : k ≤ 31) : rotN x k < 4294967296 := (rot_parts x k hx hk).2.2

theorem xor_lt32 {a b : Nat} (ha : a < 4294967296) (hb : b < 4294967296) : a ^^^ b < 4294967296 := Nat.xor_lt_two_pow (n := 32) ha hb
theorem or_lt32 {a b : Nat} (ha : a < 4294967296) (hb : b < 4294967296) : a ||| b < 4294967296 := Nat.or_lt_two_pow (n := 32) ha hb
theorem and_lt32 {a b : Nat} (ha : a < 4294967296) : a &&& b < 4294967296 := Nat.lt_of_le_of_lt Nat.and_le_left ha

/-- Eight numbers. -/
structure NS where
  a : Nat
  b : Nat
  c : Nat
  d : Nat
  e : Nat
  f : Nat
  g : Nat
  h : Nat
def NS.ok (s : NS) : Prop := s.a < 4294967296 ∧ s.b < 4294967296 ∧ s.c < 4294967296 ∧ s.d < 4294967296 ∧ s.e < 4294967296 ∧ s.f < 4294967296 ∧ s.g < 4294967296 ∧ s.h < 4294967296
def NS.st (s : NS) : St := ⟨s.a, s.b, s.c, s.d, s.e, s.f, s.g, s.h⟩
def NS.val (s : NS) : Value := .agg #[.int .u32 (s.a : Int), .int .u32 (s.b : Int), .int .u32 (s.c : Int), .int .u32 (s.d : Int), .int .u32 (s.e : Int), .int .u32 (s.f : Int), .int .u32 (s.g : Int), .int .u32 (s.h : Int)]
theorem NS.val_st (s : NS) : s.st.val = s.val := rfl
theorem NS.st_ok (s : NS) (h : s.ok) : s.st.ok := by
  obtain ⟨a, b, c, d, e, f, g, i⟩ := h
  exact ⟨⟨Int.natCast_nonneg _, by show (s.a : Int) < _; omega⟩, ⟨Int.natCast_nonneg _, by show (s.b : Int) < _; omega⟩, ⟨Int.natCast_nonneg _, by show (s.c : Int) < _; omega⟩, ⟨Int.natCast_nonneg _, by show (s.d : Int) < _; omega⟩,
    ⟨Int.natCast_nonneg _, by show (s.e : Int) < _; omega⟩, ⟨Int.natCast_nonneg _, by show (s.f : Int) < _; omega⟩, ⟨Int.natCast_nonneg _, by show (s.g : Int) < _; omega⟩, ⟨Int.natCast_nonneg _, by show (s.h : Int) < _; omega⟩⟩

def tN (s : NS) (k x : Nat) : Nat := s.h + ((rotN s.e 6 ^^^ rotN s.e 11) ^^^ rotN s.e 25) + (s.g ^^^ (s.e &&& (s.f ^^^ s.g))) + k + x
def uN (s : NS) : Nat := ((rotN s.a 2 ^^^ rotN s.a 13) ^^^ rotN s.a 22) + ((s.a &&& s.b) ||| (s.c &&& (s.a ||| s.b)))
/-- The numbers behind a round. -/
def roundN (s : NS) (k x : Nat) : NS := ⟨(tN s k x + uN s) % 4294967296, s.a, s.b, s.c, (s.d + tN s k x) % 4294967296, s.e, s.f, s.g⟩

theorem tN_cast (s : NS) (k x : Nat) (h : s.ok) : tP s.st k x = (tN s k x : Int) := by
  obtain ⟨ha, hb, hc, hd, he, hf, hg, hh⟩ := h
  unfold tP tN NS.st
  have r6 := rotN_lt s.e 6 he (by decide)
  have r11 := rotN_lt s.e 11 he (by decide)
  have r25 := rotN_lt s.e 25 he (by decide)
  simp only [rotN_cast]
  rw [u32_xor_nat _ _ r6 r11, u32_xor_nat _ _ (xor_lt32 r6 r11) r25, u32_xor_nat _ _ hf hg, u32_and_nat _ _ he (xor_lt32 hf hg), u32_xor_nat _ _ hg (and_lt32 he)]
  simp only [Int.natCast_add]
theorem uN_cast (s : NS) (h : s.ok) : uP s.st = (uN s : Int) := by
  obtain ⟨ha, hb, hc, hd, he, hf, hg, hh⟩ := h
  unfold uP uN NS.st
  have r2 := rotN_lt s.a 2 ha (by decide)
  have r13 := rotN_lt s.a 13 ha (by decide)
  have r22 := rotN_lt s.a 22 ha (by decide)
  simp only [rotN_cast]
  rw [u32_xor_nat _ _ r2 r13, u32_xor_nat _ _ (xor_lt32 r2 r13) r22, u32_and_nat _ _ ha hb, u32_or_nat _ _ ha hb, u32_and_nat _ _ hc (or_lt32 ha hb), u32_or_nat _ _ (and_lt32 ha) (and_lt32 hc)]
  simp only [Int.natCast_add]
theorem roundN_cast (s : NS) (k x : Nat) (h : s.ok) : roundP s.st k x = (roundN s k x).st := by
  unfold roundP
  rw [tN_cast s k x h, uN_cast s h]
  rfl
theorem roundN_ok (s : NS) (k x : Nat) (h : s.ok) : (roundN s k x).ok := by
  obtain ⟨ha, hb, hc, hd, he, hf, hg, hh⟩ := h
  exact ⟨Nat.mod_lt _ (by decide), ha, hb, hc, Nat.mod_lt _ (by decide), he, hf, hg⟩

theorem round_nat (s : NS) (k x : Nat) (w : World) (hs : s.ok) :
    Calls Tryd.prog 36 #[s.val, .int .u32 (k : Int), .int .u32 (x : Int)] w fun e w' => e = .returned (roundN s k x).val ∧ Below w.heap.size w w' := by
  have h := round_calls s.st k x w (s.st_ok hs)
  rw [roundN_cast s k x hs] at h
  exact h

def addN (s t : NS) : NS := ⟨(s.a + t.a) % 4294967296, (s.b + t.b) % 4294967296, (s.c + t.c) % 4294967296, (s.d + t.d) % 4294967296, (s.e + t.e) % 4294967296, (s.f + t.f) % 4294967296, (s.g + t.g) % 4294967296, (s.h + t.h) % 4294967296⟩
theorem addN_ok (s t : NS) : (addN s t).ok := ⟨Nat.mod_lt _ (by decide), Nat.mod_lt _ (by decide), Nat.mod_lt _ (by decide), Nat.mod_lt _ (by decide), Nat.mod_lt _ (by decide), Nat.mod_lt _ (by decide), Nat.mod_lt _ (by decide), Nat.mod_lt _ (by decide)⟩

theorem and_nat (s t : NS) (w : World) : Calls Tryd.prog 37 #[s.val, t.val] w fun e w' => e = .returned (addN s t).val ∧ Below w.heap.size w w' := by
  refine (sha_state_and.calls s.a s.b s.c s.d s.e s.f s.g s.h t.a t.b t.c t.d t.e t.f t.g t.h _ _ _ _ _ _ _ _ w rfl).mono fun e w' h => ⟨?_, ?_⟩
  · rw [h.1]
    unfold NS.val addN
    simp only [Int.natCast_emod, Int.natCast_add]
    first | rfl | simp
  · exact h.2

def s0 (x : Nat) : Nat := (rotN x 7 ^^^ rotN x 18) ^^^ (x / 8)
def s1 (y : Nat) : Nat := (rotN y 17 ^^^ rotN y 19) ^^^ (y / 1024)
theorem s0_lt (x : Nat) (h : x < 4294967296) : s0 x < 4294967296 := xor_lt32 (xor_lt32 (rotN_lt x 7 h (by decide)) (rotN_lt x 18 h (by decide))) (by omega)
theorem s1_lt (x : Nat) (h : x < 4294967296) : s1 x < 4294967296 := xor_lt32 (xor_lt32 (rotN_lt x 17 h (by decide)) (rotN_lt x 19 h (by decide))) (by omega)
def nextW (a x z y : Nat) : Nat := (a + s0 x + z + s1 y) % 4294967296
/-- A number of a block's bytes. -/
def word (b : Nat → Nat) (i : Nat) : Nat := b (4 * i) * 16777216 + b (4 * i + 1) * 65536 + b (4 * i + 2) * 256 + b (4 * i + 3)
/-- The numbers of the rounds, the last ahead. -/
def sch (b : Nat → Nat) : Nat → List Nat
  | 0 => []
  | n + 1 => (if n < 16 then word b n else nextW ((sch b n).getD 15 0) ((sch b n).getD 14 0) ((sch b n).getD 6 0) ((sch b n).getD 1 0)) :: sch b n
def W (b : Nat → Nat) (n : Nat) : Nat := (sch b (n + 1)).headD 0
theorem sch_cons (b : Nat → Nat) (n : Nat) : sch b (n + 1) = W b n :: sch b n := rfl
theorem sch_get (b : Nat → Nat) : ∀ (n k : Nat), k < n → (sch b n).getD k 0 = W b (n - 1 - k)
  | 0, k, h => by omega
  | n + 1, 0, h => by rw [sch_cons]; rfl
  | n + 1, k + 1, h => by
    rw [sch_cons, List.getD_cons_succ, sch_get b n k (by omega)]
    congr 1
    omega
theorem W_word (b : Nat → Nat) (n : Nat) (h : n < 16) : W b n = word b n := by
  show (if n < 16 then word b n else _) = _
  rw [if_pos h]
theorem W_next (b : Nat → Nat) (n : Nat) (h : 16 ≤ n) : W b n = nextW (W b (n - 16)) (W b (n - 15)) (W b (n - 7)) (W b (n - 2)) := by
  show (if n < 16 then word b n else nextW ((sch b n).getD 15 0) ((sch b n).getD 14 0) ((sch b n).getD 6 0) ((sch b n).getD 1 0)) = _
  rw [if_neg (by omega), sch_get _ _ _ (by omega), sch_get _ _ _ (by omega), sch_get _ _ _ (by omega), sch_get _ _ _ (by omega)]
  rw [show n - 1 - 15 = n - 16 from by omega, show n - 1 - 14 = n - 15 from by omega, show n - 1 - 6 = n - 7 from by omega, show n - 1 - 1 = n - 2 from by omega]
theorem word_lt (b : Nat → Nat) (i : Nat) (hb : ∀ j, b j < 256) : word b i < 4294967296 := by
  unfold word
  have := hb (4 * i)
  have := hb (4 * i + 1)
  have := hb (4 * i + 2)
  have := hb (4 * i + 3)
  omega
theorem W_lt (b : Nat → Nat) (n : Nat) (hb : ∀ j, b j < 256) : W b n < 4294967296 := by
  by_cases h : n < 16
  · rw [W_word b n h]; exact word_lt b n hb
  · rw [W_next b n (by omega)]; exact Nat.mod_lt _ (by decide)

def KS : List Nat := [
  0x428a2f98, 0x71374491, 0xb5c0fbcf, 0xe9b5dba5, 0x3956c25b, 0x59f111f1, 0x923f82a4, 0xab1c5ed5,
  0xd807aa98, 0x12835b01, 0x243185be, 0x550c7dc3, 0x72be5d74, 0x80deb1fe, 0x9bdc06a7, 0xc19bf174,
  0xe49b69c1, 0xefbe4786, 0x0fc19dc6, 0x240ca1cc, 0x2de92c6f, 0x4a7484aa, 0x5cb0a9dc, 0x76f988da,
  0x983e5152, 0xa831c66d, 0xb00327c8, 0xbf597fc7, 0xc6e00bf3, 0xd5a79147, 0x06ca6351, 0x14292967,
  0x27b70a85, 0x2e1b2138, 0x4d2c6dfc, 0x53380d13, 0x650a7354, 0x766a0abb, 0x81c2c92e, 0x92722c85,
  0xa2bfe8a1, 0xa81a664b, 0xc24b8b70, 0xc76c51a3, 0xd192e819, 0xd6990624, 0xf40e3585, 0x106aa070,
  0x19a4c116, 0x1e376c08, 0x2748774c, 0x34b0bcb5, 0x391c0cb3, 0x4ed8aa4a, 0x5b9cca4f, 0x682e6ff3,
  0x748f82ee, 0x78a5636f, 0x84c87814, 0x8cc70208, 0x90befffa, 0xa4506ceb, 0xbef9a3f7, 0xc67178f2]
def kk (i : Nat) : Nat := KS.getD i 0
/-- The numbers behind some rounds. -/
def nows (b : Nat → Nat) (s : NS) : Nat → NS
  | 0 => s
  | i + 1 => roundN (nows b s i) (kk i) (W b i)
theorem nows_ok (b : Nat → Nat) (s : NS) (h : s.ok) : ∀ i, (nows b s i).ok
  | 0 => h
  | i + 1 => roundN_ok _ _ _ (nows_ok b s h i)
def blockN (s : NS) (b : Nat → Nat) : NS := addN s (nows b s 64)
def beginN : NS := ⟨0x6a09e667, 0xbb67ae85, 0x3c6ef372, 0xa54ff53a, 0x510e527f, 0x9b05688c, 0x1f83d9ab, 0x5be0cd19⟩

end Go.Proofs.YtegjphfkkafomaaDoor.Sha
