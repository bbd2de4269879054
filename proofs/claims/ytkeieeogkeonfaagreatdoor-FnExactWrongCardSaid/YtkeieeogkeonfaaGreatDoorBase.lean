/- Plain facts on numbers written as bytes; no program in sight. -/
import Derived.WalkKit
import Derived.IntWalk
namespace Go.Proofs.YtkeieeogkeonfaaGreatDoor
open Go.RowKit
/-- integers of 64 bits -/
def i64ok (n : Int) : Prop := -9223372036854775808 ≤ n ∧ n ≤ 9223372036854775807
def strok (l : List UInt8) : Prop := l.length ≤ 9223372036854775807
theorem i64ok_wf {n : Int} (h : (Lit.int .i64 n).wf = true) : i64ok n := by
  simp [Lit.wf, IntKind.min, IntKind.max, IntKind.bits, IntKind.signed] at h; exact ⟨by omega, by omega⟩
/-- the lowest byte -/
def byteOf (m : Nat) : UInt8 := UInt8.ofNat (m % 256)
theorem byteOf_toNat (m : Nat) : (byteOf m).toNat = m % 256 := by simp [byteOf]
theorem byteOf_mod (m : Nat) : byteOf (m % 256) = byteOf m := by simp [byteOf]
theorem byte_val (m : Nat) : ((m : Nat) : Int) % 256 = ((byteOf m).toNat : Nat) := by rw [byteOf_toNat]; rfl
/-- 'k' bytes of n, the highest first. -/
def be : Nat → Nat → List UInt8
  | 0, _ => []
  | k + 1, n => be k (n / 256) ++ [byteOf n]

theorem be_length (k n : Nat) : (be k n).length = k := by
  induction k generalizing n with
  | zero => rfl
  | succ k ih => simp [be, ih]
attribute [go_sem] be_length

theorem be_cons (k n : Nat) : be (k + 1) n = byteOf (n / 256 ^ k) :: be k n := by
  induction k generalizing n with
  | zero => simp [be]
  | succ k ih =>
    rw [be, ih (n / 256), be]
    simp [Nat.div_div_eq_div_mul, Nat.pow_succ, Nat.mul_comm]

/-- the head of CBOR: a major type and a number -/
def hd (m n : Nat) : List UInt8 :=
  if n < 24 then be 1 (m * 32 + n)
  else if n < 256 then be 1 (m * 32 + 24) ++ be 1 n
  else if n < 65536 then be 1 (m * 32 + 25) ++ be 2 n
  else if n < 4294967296 then be 1 (m * 32 + 26) ++ be 4 n
  else be 1 (m * 32 + 27) ++ be 8 n

theorem hd_length (m n : Nat) : (hd m n).length ≤ 9 ∧ 1 ≤ (hd m n).length := by
  unfold hd; repeat' split
  all_goals simp [be_length]

theorem be_eq {k a b : Nat} (h : a = b) : be k a = be k b := by rw [h]
theorem app_eq {a b c d : List UInt8} (h : a = b) (k : c = d) : a ++ c = b ++ d := by rw [h, k]
theorem below2 {B : Nat} {a b c : World} (h : Below B a b) (k : Below b.heap.size b c) (hB : B ≤ a.heap.size) : Below B a c := h.trans (k.mono (Nat.le_trans hB h.size))
theorem below2a {B : Nat} {a b c : World} {o : Obj} (h : Below B a b) (k : Below (b.alloc o).heap.size (b.alloc o) c) (hB : B ≤ a.heap.size) : Below B a c := below2 (h.alloc (Nat.le_trans hB h.size) o) k hB

theorem bcell {W w1 : World} (hb : Below W.heap.size W w1) : (∀ b o, b < W.heap.size → w1.cell? ⟨b, o, none⟩ = W.cell? ⟨b, o, none⟩) ∧ (∀ b o, b < W.heap.size → w1.frozen? ⟨b, o, none⟩ = W.frozen? ⟨b, o, none⟩) :=
  ⟨fun b o h => hb.cell (p := ⟨b, o, none⟩) h, fun b o h => hb.frozen (p := ⟨b, o, none⟩) h⟩
theorem bytes_append (a b : List UInt8) : (ByteArray.mk a.toArray) ++ (ByteArray.mk b.toArray) = ByteArray.mk (a ++ b).toArray := by
  apply ByteArray.ext; simp [ByteArray.data_append]
attribute [go_sem] bytes_append

def crcBit (x : Nat) : Nat := if x % 2 = 1 then (x / 2) ^^^ 3988292384 else x / 2
def crcBits : Nat → Nat → Nat
  | 0, x => x
  | k + 1, x => crcBit (crcBits k x)
def crcByte (x : Nat) (b : UInt8) : Nat := crcBits 8 (x ^^^ b.toNat)
def crcRaw (l : List UInt8) : Nat := l.foldl crcByte 4294967295
def crc (l : List UInt8) : Nat := crcRaw l ^^^ 4294967295

theorem xor_lt32 {a b : Nat} (ha : a < 4294967296) (hb : b < 4294967296) : a ^^^ b < 4294967296 :=
  Nat.xor_lt_two_pow (n := 32) ha hb
theorem crcBit_lt {x : Nat} (h : x < 4294967296) : crcBit x < 4294967296 := by
  unfold crcBit; split
  · exact xor_lt32 (by omega) (by omega)
  · omega
theorem crcBits_lt {x : Nat} (h : x < 4294967296) : ∀ k, crcBits k x < 4294967296
  | 0 => h
  | k + 1 => crcBit_lt (crcBits_lt h k)
theorem crcByte_lt {x : Nat} (h : x < 4294967296) (b : UInt8) : crcByte x b < 4294967296 :=
  crcBits_lt (xor_lt32 h (by have := b.toNat_lt; omega)) 8
theorem foldl_lt (l : List UInt8) : ∀ x, x < 4294967296 → l.foldl crcByte x < 4294967296 := by
  induction l with
  | nil => intro x h; exact h
  | cons b l ih => intro x h; exact ih _ (crcByte_lt h b)
theorem crcRaw_lt (l : List UInt8) : crcRaw l < 4294967296 := foldl_lt l _ (by omega)
theorem crc_lt (l : List UInt8) : crc l < 4294967296 := xor_lt32 (crcRaw_lt l) (by omega)

/-- a frame: its length, its bytes, their sum -/
def frame (l : List UInt8) : List UInt8 := if l.length ≤ 100000 then hd 2 l.length ++ l ++ be 4 (crc l) else []
def letter (f v : Int) (b : List UInt8) : List UInt8 :=
  if 0 ≤ f ∧ f ≤ 6 ∧ 0 ≤ v ∧ v ≤ 40 ∧ b.length ≤ 60000 then frame (hd 0 f.toNat ++ hd 0 v.toNat ++ b) else []

theorem take_snoc (l : List UInt8) (k : Nat) (h : k < l.length) : l.take (k + 1) = l.take k ++ [l[k]] := by
  rw [List.take_succ_eq_append_getElem h]
theorem crcRaw_snoc (l : List UInt8) (k : Nat) (h : k < l.length) : crcRaw (l.take (k + 1)) = crcByte (crcRaw (l.take k)) l[k] := by
  unfold crcRaw; rw [take_snoc l k h, List.foldl_append]; rfl

/-- a byte of an int, by a shift -/
theorem wide_byte (n : Int) (q : Nat) (hq : q ≤ 7) (h1 : -9223372036854775808 ≤ n) (h2 : n ≤ 9223372036854775807) :
    n / 2 ^ (8 * q) % 256 = ((byteOf ((n % 18446744073709551616).toNat / 256 ^ q)).toNat : Nat) := by
  rw [byteOf_toNat]
  have : q = 0 ∨ q = 1 ∨ q = 2 ∨ q = 3 ∨ q = 4 ∨ q = 5 ∨ q = 6 ∨ q = 7 := by omega
  rcases this with rfl | rfl | rfl | rfl | rfl | rfl | rfl | rfl <;> simp <;> omega
/-- the low 64 bits of an int, as a number -/
def lo64 (n : Int) : Nat := (n % 18446744073709551616).toNat
theorem lo64_nat (n : Nat) (h : n < 18446744073709551616) : lo64 (n : Int) = n := by unfold lo64; omega
theorem lo64_lt (n : Int) : lo64 n < 18446744073709551616 := by unfold lo64; omega
theorem be_step (N j q : Nat) : be (j + 1) (N / 256 ^ q) = be j (N / 256 ^ (q + 1)) ++ [byteOf (N / 256 ^ q)] := by
  rw [be, Nat.div_div_eq_div_mul, ← Nat.pow_succ]
theorem lo64_wrap (n : Int) : lo64 (IntKind.i64.wrap n) = lo64 n := by unfold lo64; rw [IntKind.wrap_i64]; omega
theorem lo64_of (n : Int) (h : 0 ≤ n ∧ n ≤ 18446744073709551615) : lo64 n = n.toNat := by unfold lo64; omega
theorem wrap_bd (n : Int) : -9223372036854775808 ≤ IntKind.i64.wrap n ∧ IntKind.i64.wrap n ≤ 9223372036854775807 := by rw [IntKind.wrap_i64]; omega
theorem be1_wrap (m c : Int) (hm : 0 ≤ m ∧ m ≤ 7) (hc : 0 ≤ c) : [byteOf (IntKind.u8.wrap (32 * m + c)).toNat] = be 1 (m.toNat * 32 + c.toNat) := by
  have : (IntKind.u8.wrap (32 * m + c)).toNat = (m.toNat * 32 + c.toNat) % 256 := by rw [IntKind.wrap_u8]; omega
  rw [this, byteOf_mod]; rfl
theorem be1_plain (m c : Int) (hm : 0 ≤ m ∧ m ≤ 7) (hc : 0 ≤ c) : [byteOf (32 * m + c).toNat] = be 1 (m.toNat * 32 + c.toNat) := by
  rw [show (32 * m + c).toNat = m.toNat * 32 + c.toNat by omega]; rfl
theorem byteIdx (l : List UInt8) (k : Nat) (h : k < (ByteArray.mk l.toArray).size) : (ByteArray.mk l.toArray)[k] = l[k]'(by simpa [ByteArray.size] using h) := rfl
attribute [go_sem] byteIdx
theorem byte_mod32 (b : UInt8) : ((b.toNat : Nat) : Int) % 4294967296 = (b.toNat : Nat) := by have := b.toNat_lt; omega
attribute [go_sem] byte_mod32
theorem byte_wrap (b : UInt8) : IntKind.i64.wrap ((b.toNat : Nat) : Int) = (b.toNat : Nat) := by have := b.toNat_lt; exact IntWalk.i64_in _ (by omega)
attribute [go_sem] byte_wrap

theorem ret_int {k : IntKind} {a b : Int} (h : a = b) : Ending.returned (.int k a) = .returned (.int k b) := by rw [h]
theorem ret_bool {a b : Bool} (h : a = b) : Ending.returned (.bool a) = .returned (.bool b) := by rw [h]
theorem ret_str {a b : List UInt8} (h : a = b) : Ending.returned (.string ⟨a.toArray⟩) = .returned (.string ⟨b.toArray⟩) := by rw [h]
theorem val_str {a b : List UInt8} (h : a = b) : Value.string ⟨a.toArray⟩ = .string ⟨b.toArray⟩ := by rw [h]

theorem extract_list (l : List UInt8) (j x : Nat) : (ByteArray.mk l.toArray).extract j x = ByteArray.mk ((l.drop j).take (x - j)).toArray := by
  apply ByteArray.ext
  simp only [ByteArray.data_extract, List.extract_toArray, List.extract_eq_take_drop]
attribute [go_sem] extract_list
theorem take_drop_all (l : List UInt8) (j : Nat) : (l.drop j).take (l.length - j) = l.drop j := List.take_of_length_le (by simp)
attribute [go_sem] take_drop_all

end Go.Proofs.YtkeieeogkeonfaaGreatDoor
