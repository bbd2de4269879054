/- Part 3 of a proof: Text, TextS, ValueOkS, PvVok, PvG3, PvTrim, PvF1M, GetHead, MsgTop, At, Sgw, At2, DictDef, PvF1, PvF2, PvF3, PvG4M, PvG4, PvG5, PvLift, PvG6, PvG7, PvGot, PvG8, PvG9 -/
import Derived.Test.YtanlnhkagepniaaGreatDoorFb2
import Derived.Deep.RegionHeld3
import Derived.Lib.ConvBytes
/- Plain facts on UTF-8: a sign by its bytes, a text by its signs. No program in sight. -/
namespace Go.Proofs.YtanlnhkagepniaaGreatDoor
open Go.RowKit Go.Lib
def utf (n:Nat):List UInt8 :=
 if 1114111 < n \/ (55296 <= n /\ n <= 57343) then []
 else if n < 128 then [byteOf n]
 else if n < 2048 then [byteOf (192 + n / 64),byteOf (128 + n % 64)]
 else if n < 65536 then [byteOf (224 + n / 4096),byteOf (128 + n / 64 % 64),byteOf (128 + n % 64)]
 else [byteOf (240 + n / 262144),byteOf (128 + n / 4096 % 64),byteOf (128 + n / 64 % 64),byteOf (128 + n % 64)]
def many (b:Nat):Nat × Nat :=
 if b < 128 then (1,b) else if 192 <= b /\ b <= 223 then (2,b % 32) else if 224 <= b /\ b <= 239 then (3,b % 16) else if 240 <= b /\ b <= 247 then (4,b % 8) else (0,0)
def sgnV (n:Nat) (l:List UInt8):Nat:=l.foldl (fun n b => n * 64 + b.toNat % 64) n
def sgn (l:List UInt8):Option (Nat × Nat) :=
 if l = [] \/ ((decodeL l).1 = 65533 /\ (decodeL l).2 = 1) then none else some (decodeL l)
theorem byteOf_eq {m:Nat} {b:UInt8}:byteOf m = b ↔ m % 256 = b.toNat:=by
 rw [<- UInt8.toNat_inj,zaE]
theorem zds (b:Nat):(b < 128 /\ many b = (1,b)) \/ (192 <= b /\ b <= 223 /\ many b = (2,b % 32)) \/ (224 <= b /\ b <= 239 /\ many b = (3,b % 16)) \/ (240 <= b /\ b <= 247 /\ many b = (4,b % 8)) \/ ((128 <= b /\ b < 192 \/ 248 <= b) /\ many b = (0,0)):=by
 unfold many;by_cases h1:b < 128
 ·simp [h1]
 by_cases h2:192 <= b /\ b <= 223
 ·simp [h1,h2]
 by_cases h3:224 <= b /\ b <= 239
 ·rw [if_neg h1,if_neg h2,if_pos h3]; simp [h3]
 by_cases h4:240 <= b /\ b <= 247
 ·rw [if_neg h1,if_neg h2,if_neg h3,if_pos h4]; simp [h4]
 ·rw [if_neg h1,if_neg h2,if_neg h3,if_neg h4]; right; right; right; right; exact ⟨by omega,rfl⟩
theorem zdP {n b0 b1 b2 b3 v m:Nat} {u l:List UInt8} {p:Prop} [Decidable p] (hp:¬ p) (c:Prop)
  (hy:c -> decodeN n b0 b1 b2 b3 = (v,m) /\ ¬ (v = 65533 /\ m = 1) /\ u = l) (hn:¬ c -> decodeN n b0 b1 b2 b3 = (65533,1) /\ u ≠ l) :
  (if (decodeN n b0 b1 b2 b3).1 = 65533 /\ (decodeN n b0 b1 b2 b3).2 = 1 then none else some (decodeN n b0 b1 b2 b3)) = if p \/ u ≠ l then none else some (v,m):=by
 by_cases hc:c
 ·obtain ⟨h1,h2,h3⟩:=hy hc
  rw [h1,if_neg h2,if_neg]; intro h; rcases h with h | h
  ·exact hp h
  ·exact h h3
 ·obtain ⟨h1,h3⟩:=hn hc
  rw [h1,if_pos ⟨rfl,rfl⟩,if_pos (.inr h3)]
theorem zbX {n b0 b1 b2 b3:Nat} (hb:128 <= b0) (h:n < 2 \/ (n < 3 /\ 224 <= b0) \/ (n < 4 /\ 240 <= b0)):decodeN n b0 b1 b2 b3 = (65533,1):=by
 unfold decodeN; rw [if_neg (by omega),if_neg (by omega),if_neg (by omega),if_neg (by omega)]
theorem sgn_many (b0:UInt8) (t:List UInt8) :
  sgn (b0 :: t) = if ((many b0.toNat).1 = 0 \/ t.length + 1 < (many b0.toNat).1) \/ utf (sgnV (many b0.toNat).2 (t.take ((many b0.toNat).1 - 1))) ≠ (b0 :: t).take (many b0.toNat).1 then none
   else some (sgnV (many b0.toNat).2 (t.take ((many b0.toNat).1 - 1)),(many b0.toNat).1):=by
 have hb0:=b0.toNat_lt;unfold sgn;rw [decodeL_N];simp only [List.cons_ne_nil,false_or,List.length_cons,List.getD_cons_zero]
 rcases zds b0.toNat with ⟨h,e⟩ | ⟨h1,h2,e⟩ | ⟨h1,h2,e⟩ | ⟨h1,h2,e⟩ | ⟨h,e⟩
 ·rw [e]
  refine zdP (by simp) True (fun _ => ⟨?_,by simp [sgnV]; omega,?_⟩) (fun h => absurd trivial h)
  ·rw [decodeN_ascii _ _ _ _ _ h]; simp [sgnV]
  ·simp only [sgnV,List.take_zero,Nat.sub_self,List.foldl_nil,List.take_succ_cons]
   unfold utf; rw [if_neg (by omega),if_pos h,List.cons.injEq]; exact ⟨byteOf_eq.2 (by omega),rfl⟩
 ·rw [e]
  match t with
  | [] => rw [zbX (by omega) (by simp; try omega),if_pos ⟨rfl,rfl⟩,if_pos (by simp)]
  | b1 :: t =>
   have hb1:=b1.toNat_lt;simp only [List.getD_cons_succ,List.getD_cons_zero,sgnV,Nat.reduceSub,List.take_succ_cons,List.take_zero,List.foldl_cons,List.foldl_nil,List.length_cons];refine zdP (by omega) (b1.toNat / 64 = 2 /\ 128 <= b0.toNat % 32 * 64 + b1.toNat % 64) (fun hc => ⟨?_,by omega,?_⟩) (fun hc => ⟨?_,?_⟩)
   ·unfold decodeN; rw [if_neg (by omega),if_pos (by omega),if_pos (by omega)]
   ·unfold utf; rw [if_neg (by omega),if_neg (by omega),if_pos (by omega),List.cons.injEq,List.cons.injEq]
    exact ⟨byteOf_eq.2 (by omega),byteOf_eq.2 (by omega),rfl⟩
   ·unfold decodeN; rw [if_neg (by omega)]
    by_cases h:b1.toNat / 64 = 2
    ·rw [if_pos (by omega),if_neg (by omega)]
    ·rw [if_neg (by omega),if_neg (by omega),if_neg (by omega)]
   ·unfold utf; rw [if_neg (by omega)]
    by_cases h:128 <= b0.toNat % 32 * 64 + b1.toNat % 64
    ·rw [if_neg (by omega),if_pos (by omega)]
     intro he; simp only [List.cons.injEq,byteOf_eq,and_true] at he; omega
    ·rw [if_pos (by omega)]; simp
 ·rw [e]
  match t with
  | [] => rw [zbX (by omega) (by simp; try omega),if_pos ⟨rfl,rfl⟩,if_pos (by simp)]
  | [b1] => rw [zbX (by omega) (by simp; try omega),if_pos ⟨rfl,rfl⟩,if_pos (by simp)]
  | b1 :: b2 :: t =>
   have hb1:=b1.toNat_lt;have hb2:=b2.toNat_lt;simp only [List.getD_cons_succ,List.getD_cons_zero,sgnV,Nat.reduceSub,List.take_succ_cons,List.take_zero,List.foldl_cons,List.foldl_nil,List.length_cons];obtain ⟨v,hv⟩:∃ v,(b0.toNat % 16 * 64 + b1.toNat % 64) * 64 + b2.toNat % 64 = v:=⟨_,rfl⟩;refine zdP (by omega) (b1.toNat / 64 = 2 /\ b2.toNat / 64 = 2 /\ 2048 <= v /\ ¬ (55296 <= v /\ v <= 57343)) (fun hc => ⟨?_,by omega,?_⟩) (fun hc => ⟨?_,?_⟩)
   ·rw [hv]; unfold decodeN; rw [if_neg (by omega),if_neg (by omega),if_pos (by omega),if_pos (by omega)]; simp; omega
   ·rw [hv]; unfold utf; rw [if_neg (by omega),if_neg (by omega),if_neg (by omega),if_pos (by omega)]; simp only [List.cons.injEq,and_true]
    exact ⟨byteOf_eq.2 (by omega),byteOf_eq.2 (by omega),byteOf_eq.2 (by omega)⟩
   ·unfold decodeN; rw [if_neg (by omega),if_neg (by omega)]
    by_cases h:b1.toNat / 64 = 2 /\ b2.toNat / 64 = 2
    ·rw [if_pos (by omega),if_neg (by omega)]
    ·rw [if_neg (by omega),if_neg (by omega)]
   ·rw [hv]; unfold utf
    by_cases h:55296 <= v /\ v <= 57343
    ·rw [if_pos (by omega)]; simp
    by_cases h:2048 <= v
    ·rw [if_neg (by omega),if_neg (by omega),if_neg (by omega),if_pos (by omega)]
     intro he; simp only [List.cons.injEq,byteOf_eq,and_true] at he; omega
    ·rw [if_neg (by omega)]; split
     ·simp
     ·rw [if_pos (by omega)]; simp
 ·rw [e]
  match t with
  | [] => rw [zbX (by omega) (by simp; try omega),if_pos ⟨rfl,rfl⟩,if_pos (by simp)]
  | [b1] => rw [zbX (by omega) (by simp; try omega),if_pos ⟨rfl,rfl⟩,if_pos (by simp)]
  | [b1,b2] => rw [zbX (by omega) (by simp; try omega),if_pos ⟨rfl,rfl⟩,if_pos (by simp)]
  | b1 :: b2 :: b3 :: t =>
   have hb1:=b1.toNat_lt;have hb2:=b2.toNat_lt;have hb3:=b3.toNat_lt;simp only [List.getD_cons_succ,List.getD_cons_zero,sgnV,Nat.reduceSub,List.take_succ_cons,List.take_zero,List.foldl_cons,List.foldl_nil,List.length_cons];obtain ⟨v,hv⟩:∃ v,((b0.toNat % 8 * 64 + b1.toNat % 64) * 64 + b2.toNat % 64) * 64 + b3.toNat % 64 = v:=⟨_,rfl⟩;refine zdP (by omega) (b1.toNat / 64 = 2 /\ b2.toNat / 64 = 2 /\ b3.toNat / 64 = 2 /\ 65536 <= v /\ v <= 1114111) (fun hc => ⟨?_,by omega,?_⟩) (fun hc => ⟨?_,?_⟩)
   ·rw [hv]; unfold decodeN; rw [if_neg (by omega),if_neg (by omega),if_neg (by omega),if_pos (by omega),if_pos (by omega)]; simp; omega
   ·rw [hv]; unfold utf; rw [if_neg (by omega),if_neg (by omega),if_neg (by omega),if_neg (by omega)]; simp only [List.cons.injEq,and_true]
    exact ⟨byteOf_eq.2 (by omega),byteOf_eq.2 (by omega),byteOf_eq.2 (by omega),byteOf_eq.2 (by omega)⟩
   ·unfold decodeN; rw [if_neg (by omega),if_neg (by omega),if_neg (by omega)]
    by_cases h:b1.toNat / 64 = 2 /\ b2.toNat / 64 = 2 /\ b3.toNat / 64 = 2
    ·rw [if_pos (by omega),if_neg (by omega)]
    ·rw [if_neg (by omega)]
   ·rw [hv]; unfold utf
    by_cases h:1114111 < v \/ (55296 <= v /\ v <= 57343)
    ·rw [if_pos (by omega)]; simp
    by_cases h:65536 <= v
    ·rw [if_neg (by omega),if_neg (by omega),if_neg (by omega),if_neg (by omega)]
     intro he; simp only [List.cons.injEq,byteOf_eq,and_true] at he; omega
    ·rw [if_neg (by omega)]; split
     ·simp
     split
     ·simp
     ·rw [if_pos (by omega)]; simp
 ·rw [e,if_pos (by rw [decodeN_bad _ _ _ _ _ (by omega)]; simp),if_pos (by simp)]
theorem sgn_bd {l:List UInt8} {n m:Nat} (h:sgn l = some (n,m)):n <= 1114111 /\ 1 <= m /\ m <= l.length:=by
 unfold sgn at h; split at h
 ·cases h
 ·rename_i hc
  simp only [Option.some.injEq] at h;have h1:=decodeL_rune l; have h2:=decodeL_width l; have h3:=decodeL_le l (fun e => hc (.inl e))
  rw [h] at h1 h2 h3; exact ⟨h1,h2,h3⟩
theorem validD_sgn (l:List UInt8) (hne:l ≠ []):validD l = match sgn l with | none => false | some (_,m) => validD (l.drop m):=by
 rw [validD_step l hne]; unfold sgn
 by_cases h:(decodeL l).1 = 65533 /\ (decodeL l).2 = 1
 ·rw [if_pos h,if_pos (.inr h)]
 ·rw [if_neg h,if_neg (by simp [hne,h])]
theorem many_bd (b:Nat) (hb:b < 256):(many b).1 <= 4 /\ (many b).2 < 256:=by
 rcases zds b with ⟨_,e⟩ | ⟨_,_,e⟩ | ⟨_,_,e⟩ | ⟨_,_,e⟩ | ⟨_,e⟩ <;> rw [e] <;> simp <;> omega
theorem sgnV_snoc (v:Nat) (t:List UInt8) (j:Nat) (h:j < t.length):sgnV v (t.take (j + 1)) = sgnV v (t.take j) * 64 + t[j].toNat % 64:=by
 unfold sgnV; rw [zcY t j h,List.foldl_append]; rfl
theorem sgnV_lt (t:List UInt8):∀ v,sgnV v t < (v + 1) * 64 ^ t.length:=by
 induction t with
 | nil => intro v; simp [sgnV]
 | cons b t ih =>
  intro v;have h1:=ih (v * 64 + b.toNat % 64);have h2:(v * 64 + b.toNat % 64 + 1) <= (v + 1) * 64:=by omega
  have h3:=Nat.mul_le_mul_right (64 ^ t.length) h2;show sgnV (v * 64 + b.toNat % 64) t < _;rw [List.length_cons,Nat.pow_succ,Nat.mul_comm (64 ^ t.length) 64,<- Nat.mul_assoc]; omega
theorem sgnV_bd (v:Nat) (t:List UInt8) (j:Nat) (hv:v < 256) (hj:j <= 3):sgnV v (t.take j) < 67108864:=by
 have h1:=sgnV_lt (t.take j) v;have h2:(t.take j).length <= 3:=by rw [List.length_take]; omega
 have h3:64 ^ (t.take j).length <= 64 ^ 3:=Nat.pow_le_pow_right (by omega) h2;have h4:(v + 1) * 64 ^ (t.take j).length <= 256 * 64 ^ 3:=Nat.mul_le_mul (by omega) h3;omega
def signAt (l:List UInt8) (i:Int):Int × Int :=
 if 0 <= i /\ i < l.length then (match sgn (l.drop i.toNat) with | none => (-1,-1) | some (n,m) => ((n:Int),i + m)) else (-1,-1)
theorem signAt_far {l:List UInt8} {i:Int} (h:¬ (0 <= i /\ i < l.length)):signAt l i = (-1,-1):=by unfold signAt; rw [if_neg h]
theorem zcR {l:List UInt8} {k:Nat} (h:sgn (l.drop k) = none):signAt l k = (-1,-1):=by
 unfold signAt; split
 ·rw [Int.toNat_natCast,h]
 ·rfl
theorem zef {l:List UInt8} {k n m:Nat} (hk:k < l.length) (h:sgn (l.drop k) = some (n,m)):signAt l k = ((n:Int),(k:Int) + m):=by
 unfold signAt; rw [if_pos (by omega),Int.toNat_natCast,h]
end Go.Proofs.YtanlnhkagepniaaGreatDoor
/- Masks of integers of 64 bits and of bytes, as remainders. No program in sight. -/
namespace Go.Proofs.YtanlnhkagepniaaGreatDoor
open Go.RowKit
theorem zbE (x:Int) (k:Nat) (hk:k <= 62) (m:Int) (hm:m = 2 ^ k - 1):bits .and .i64 x m = x % 2 ^ k:=by
 subst hm;have hp:(2:Nat) ^ k <= 2 ^ 62:=Nat.pow_le_pow_right (by omega) hk;have h0:(1:Nat) <= 2 ^ k:=Nat.one_le_two_pow;have e:((2:Int) ^ k - 1) = ((2 ^ k - 1:Nat):Int):=by rw [Int.natCast_sub h0]; simp
 have hm:(BitVec.ofInt 64 ((2:Int) ^ k - 1)).toNat = 2 ^ k - 1:=by
  rw [e,BitVec.ofInt_natCast,BitVec.toNat_ofNat]; exact Nat.mod_eq_of_lt (by omega)
 show IntKind.i64.wrap ((BitVec.ofInt 64 x &&& BitVec.ofInt 64 ((2:Int) ^ k - 1)).toNat:Int) = _;rw [BitVec.toNat_and,hm,Nat.and_two_pow_sub_one_eq_mod,BitVec.toNat_ofInt]
 have hd:((2 ^ k:Nat):Int) ∣ ((2 ^ 64:Nat):Int):=by
  have:(2:Nat) ^ k ∣ 2 ^ 64:=Nat.pow_dvd_pow 2 (by omega)
  exact Int.natCast_dvd_natCast.2 this
 have h1:(((x % ((2 ^ 64:Nat):Int)).toNat % 2 ^ k:Nat):Int) = x % ((2 ^ k:Nat):Int):=by
  rw [Int.natCast_emod,Int.toNat_of_nonneg (Int.emod_nonneg _ (by decide)),Int.emod_emod_of_dvd _ hd]
 rw [h1];have h2:((2 ^ k:Nat):Int) = (2:Int) ^ k:=by simp
 have h3:(0:Int) < ((2 ^ k:Nat):Int):=by omega
 have h4:=Int.emod_nonneg x (show ((2 ^ k:Nat):Int) ≠ 0 by omega);have h5:=Int.emod_lt_of_pos x h3;rw [<- h2,IntKind.wrap_i64];omega
theorem m1 (x:Int):bits .and .i64 x 1 = x % 2:=zbE x 1 (by decide) 1 (by decide)
theorem m7 (x:Int):bits .and .i64 x 7 = x % 8:=zbE x 3 (by decide) 7 (by decide)
theorem m15 (x:Int):bits .and .i64 x 15 = x % 16:=zbE x 4 (by decide) 15 (by decide)
theorem m31 (x:Int):bits .and .i64 x 31 = x % 32:=zbE x 5 (by decide) 31 (by decide)
theorem m63 (x:Int):bits .and .i64 x 63 = x % 64:=zbE x 6 (by decide) 63 (by decide)
theorem m127 (x:Int):bits .and .i64 x 127 = x % 128:=zbE x 7 (by decide) 127 (by decide)
theorem m255 (x:Int):bits .and .i64 x 255 = x % 256:=zbE x 8 (by decide) 255 (by decide)
attribute [go_sem] m1 m7 m15 m31 m63 m127 m255
end Go.Proofs.YtanlnhkagepniaaGreatDoor
/- Whether a text is right: the contracts of PutSign, GetSign, Signs and TextOk of the reference. -/
namespace Go.Proofs.YtanlnhkagepniaaGreatDoor
open Go.RowKit Go.Lib
set_option maxRecDepth 10000 in
theorem zhd (b:UInt8) (w:World) :
  Calls Tryz.prog 243 #[.int .i64 (b.toNat:Nat)] w fun e w' => e = .returned (.tuple #[.int .i64 ((many b.toNat).1:Nat),.int .i64 ((many b.toNat).2:Nat)]) /\ w = w':=by
 have hb:=b.toNat_lt;generalize b.toNat = n at *;have h0:(0:Int) <= n:=by omega
 rcases zds n with ⟨h,e⟩ | ⟨h1,h2,e⟩ | ⟨h1,h2,e⟩ | ⟨h1,h2,e⟩ | ⟨h,e⟩
 ·have H:=Lib.hid e; clear e
  have n1:((n:Int) < 128):=by omega
  go_enter Tryz.func243,Tryz.ntmps243
  go_wp2
  go_ret2
  rw [H.out]; exact ⟨rfl,rfl⟩
 ·have H:=Lib.hid e; clear e
  have r1:inR n 192 223 = true:=zaG (by omega);have n1:¬ ((n:Int) < 128):=by omega
  clear h1 h2
  go_enter Tryz.func243,Tryz.ntmps243
  go_wp2_with (go_at_call 103; refine (zaM _ _ _ _).mono ?_; rintro e w' ⟨rfl,rfl⟩)
  go_ret2
  rw [H.out]; exact ⟨rfl,rfl⟩
 ·have H:=Lib.hid e; clear e
  have r1:inR n 192 223 = false:=zba (by omega);have r2:inR n 224 239 = true:=zaG (by omega);have n1:¬ ((n:Int) < 128):=by omega
  clear h1 h2
  go_enter Tryz.func243,Tryz.ntmps243
  go_wp2_with (go_at_call 103; refine (zaM _ _ _ _).mono ?_; rintro e w' ⟨rfl,rfl⟩)
  go_ret2
  rw [H.out]; exact ⟨rfl,rfl⟩
 ·have H:=Lib.hid e; clear e
  have r1:inR n 192 223 = false:=zba (by omega);have r2:inR n 224 239 = false:=zba (by omega);have r3:inR n 240 247 = true:=zaG (by omega);have n1:¬ ((n:Int) < 128):=by omega
  clear h1 h2
  go_enter Tryz.func243,Tryz.ntmps243
  go_wp2_with (go_at_call 103; refine (zaM _ _ _ _).mono ?_; rintro e w' ⟨rfl,rfl⟩)
  go_ret2
  rw [H.out]; exact ⟨rfl,rfl⟩
 ·have H:=Lib.hid e; clear e
  have r1:inR n 192 223 = false:=zba (by omega);have r2:inR n 224 239 = false:=zba (by omega);have r3:inR n 240 247 = false:=zba (by omega);have n1:¬ ((n:Int) < 128):=by omega
  clear h
  go_enter Tryz.func243,Tryz.ntmps243
  go_wp2_with (go_at_call 103; refine (zaM _ _ _ _).mono ?_; rintro e w' ⟨rfl,rfl⟩)
  go_ret2
  rw [H.out]; exact ⟨rfl,rfl⟩
def putSign (n:Int):List UInt8:=if n < 0 then [] else utf n.toNat
theorem zeg (n:Nat):putSign n = utf n:=by unfold putSign; rw [if_neg (by omega)]; simp
theorem zhe {n:Int} (h:¬ (0 <= n /\ n <= 1114111)):putSign n = []:=by
 unfold putSign; by_cases h0:n < 0
 ·rw [if_pos h0]
 ·rw [if_neg h0]; unfold utf; rw [if_pos (by omega)]
theorem zhf {n:Int} (h:55296 <= n /\ n <= 57343):putSign n = []:=by
 unfold putSign; rw [if_neg (by omega)]; unfold utf; rw [if_pos (by omega)]
set_option maxHeartbeats 400000 in
set_option maxRecDepth 10000 in
theorem zf8 (n:Int) (w:World) (hn:i64ok n) :
  Calls Tryz.prog 244 #[.int .i64 n] w fun e w' => e = .returned (.string ⟨(putSign n).toArray⟩) /\ Below w.heap.size w w':=by
 obtain ⟨hn1,hn2⟩:=hn;by_cases hr:0 <= n /\ n <= 1114111
 ·have r1:inR n 0 1114111 = true:=zaG hr
  by_cases hs:55296 <= n /\ n <= 57343
  ·have r2:inR n 55296 57343 = true:=zaG hs
   have H:=Lib.hid (zhf hs);clear hr hs
   go_enter Tryz.func244,Tryz.ntmps244
   go_wp2_with (go_at_call 103; refine (zaM _ _ _ _).mono ?_; rintro e w' ⟨rfl,rfl⟩)
   go_ret;exact ⟨zbF H.out.symm,Below.refl _ _⟩
  ·have r2:inR n 55296 57343 = false:=zba hs
   obtain ⟨hr1,hr2⟩:=hr;have hcv1:=fun b c w => conv1 (P:=Tryz.prog) Tryz.underlying150 Tryz.underlying5 Tryz.underlying9 b c w
   have hcv2:=fun b c w => conv2 (P:=Tryz.prog) Tryz.underlying150 Tryz.underlying5 Tryz.underlying9 b c w
   have hcv3:=fun b c w => conv3 (P:=Tryz.prog) Tryz.underlying150 Tryz.underlying5 Tryz.underlying9 b c w
   have hcv4:=fun b c w => conv4 (P:=Tryz.prog) Tryz.underlying150 Tryz.underlying5 Tryz.underlying9 b c w
   by_cases c1:n < 128
   ·have H:Hid (putSign n = [byteOf n.toNat]):=by
     show _ = _; unfold putSign; rw [if_neg (by omega)]; unfold utf; rw [if_neg (by omega),if_pos (by omega)]
    clear hs
    go_enter Tryz.func244,Tryz.ntmps244
    go_wp2_with (go_at_call 103; refine (zaM _ _ _ _).mono ?_; rintro e w' ⟨rfl,rfl⟩)
    go_ret;exact ⟨zbF H.out.symm,(Below.refl _ _).alloc (Nat.le_refl _) _⟩
   ·by_cases c2:n < 2048
    ·have H:Hid (putSign n =  [byteOf (192 + n.toNat / 64),byteOf (128 + n.toNat % 64)]):=by
      show _ = _; unfold putSign; rw [if_neg (by omega)]; unfold utf; rw [if_neg (by omega),if_neg (by omega),if_pos (by omega)]
     clear hs
     go_enter Tryz.func244,Tryz.ntmps244
     go_wp2_with (go_at_call 103; refine (zaM _ _ _ _).mono ?_; rintro e w' ⟨rfl,rfl⟩)
     go_ret;refine ⟨zbF ?_,(Below.refl _ _).alloc (Nat.le_refl _) _⟩;rw [H.out]; try rfl
     simp only [List.cons.injEq,and_true];exact ⟨congrArg byteOf (by omega),congrArg byteOf (by omega)⟩
    ·by_cases c3:n < 65536
     ·have H:Hid (putSign n = [byteOf (224 + n.toNat / 4096),byteOf (128 + n.toNat / 64 % 64),byteOf (128 + n.toNat % 64)]):=by
       show _ = _; unfold putSign; rw [if_neg (by omega)]; unfold utf; rw [if_neg (by omega),if_neg (by omega),if_neg (by omega),if_pos (by omega)]
      clear hs
      go_enter Tryz.func244,Tryz.ntmps244
      go_wp2_with (go_at_call 103; refine (zaM _ _ _ _).mono ?_; rintro e w' ⟨rfl,rfl⟩)
      go_ret;refine ⟨zbF ?_,(Below.refl _ _).alloc (Nat.le_refl _) _⟩;rw [H.out]; try rfl
      simp only [List.cons.injEq,and_true];exact ⟨congrArg byteOf (by omega),congrArg byteOf (by omega),congrArg byteOf (by omega)⟩
     ·have H:Hid (putSign n = [byteOf (240 + n.toNat / 262144),byteOf (128 + n.toNat / 4096 % 64),byteOf (128 + n.toNat / 64 % 64),byteOf (128 + n.toNat % 64)]):=by
       show _ = _; unfold putSign; rw [if_neg (by omega)]; unfold utf; rw [if_neg (by omega),if_neg (by omega),if_neg (by omega),if_neg (by omega)]
      clear hs
      go_enter Tryz.func244,Tryz.ntmps244
      go_wp2_with (go_at_call 103; refine (zaM _ _ _ _).mono ?_; rintro e w' ⟨rfl,rfl⟩)
      go_ret;refine ⟨zbF ?_,(Below.refl _ _).alloc (Nat.le_refl _) _⟩;rw [H.out]; try rfl
      simp only [List.cons.injEq,and_true];exact ⟨congrArg byteOf (by omega),congrArg byteOf (by omega),congrArg byteOf (by omega),congrArg byteOf (by omega)⟩
 ·have r1:inR n 0 1114111 = false:=zba hr
  have H:=Lib.hid (zhe hr);clear hr
  go_enter Tryz.func244,Tryz.ntmps244
  go_wp2_with (go_at_call 103; refine (zaM _ _ _ _).mono ?_; rintro e w' ⟨rfl,rfl⟩)
  go_ret;exact ⟨zbF H.out.symm,Below.refl _ _⟩
set_option maxHeartbeats 1000000 in
set_option maxRecDepth 10000 in
theorem zf9 (l:List UInt8) (i:Int) (w:World) (hi:i64ok i) (hl:l.length <= 4611686018427387904) :
  Calls Tryz.prog 232 #[.string ⟨l.toArray⟩,.int .i64 i] w fun e w' => e = .returned (.tuple #[.int .i64 (signAt l i).1,.int .i64 (signAt l i).2]) /\ Below w.heap.size w w':=by
 obtain ⟨hi1,hi2⟩:=hi;by_cases hr:0 <= i /\ i < l.length
 ·obtain ⟨k,rfl⟩:∃ k:Nat,i = k:=⟨i.toNat,by omega⟩
  have hk:k < l.length:=by omega
  have hk1:(0:Int) <= k:=by omega
  have hk2:(k:Int) < l.length:=by omega
  have hS:=sgn_many l[k] (l.drop (k + 1));rw [<- List.drop_eq_getElem_cons hk] at hS;have hbd:=many_bd l[k].toNat l[k].toNat_lt;obtain ⟨hbd1,hbd2⟩:=hbd;have HC:=Lib.hid (zhd l[k]);obtain ⟨m,hm⟩:∃ m,(many l[k].toNat).1 = m:=⟨_,rfl⟩;obtain ⟨v0,hv⟩:∃ v,(many l[k].toNat).2 = v:=⟨_,rfl⟩;rw [hm] at hbd1 hS;rw [hv] at hbd2 hS
  have HC:Hid (∀ w,Calls Tryz.prog 243 #[.int .i64 (l[k].toNat:Nat)] w fun e w' => e = .returned (.tuple #[.int .i64 (m:Nat),.int .i64 (v0:Nat)]) /\ w = w'):=by
   intro w; rw [<- hm,<- hv]; exact HC.out w
  clear hm hv hr;by_cases hA:m = 0 \/ (l.drop (k + 1)).length + 1 < m
  ·rw [if_pos (.inl hA)] at hS
   have H:=Lib.hid (zcR hS);clear hS;rw [List.length_drop] at hA;by_cases hA0:m = 0
   ·subst hA0
    go_enter Tryz.func232,Tryz.ntmps232
    go_wp2_with (go_at_call 243; refine (HC.out _).mono ?_; rintro e w1 ⟨rfl,rfl⟩)
    go_ret2
    rw [H.out]; exact ⟨rfl,Below.refl _ _⟩
   ·have hA1:(l.length:Int) - k < m:=by omega
    have hA2:((m:Int) == 0) = false:=by simpa using hA0
    clear hA hA0
    go_enter Tryz.func232,Tryz.ntmps232
    go_wp2_with (go_at_call 243; refine (HC.out _).mono ?_; rintro e w1 ⟨rfl,rfl⟩)
    go_ret2
    rw [H.out]; exact ⟨rfl,Below.refl _ _⟩
  ·have hA0:1 <= m:=by omega
   have hA1:k + m <= l.length:=by rw [List.length_drop] at hA; omega
   have hA2:((m:Int) == 0) = false:=by simp; omega
   have hA3:¬ (l.length:Int) - k < m:=by omega
   have hle:((l.drop (k + 1)).length:Nat) = l.length - (k + 1):=List.length_drop;have HS:=Lib.hid hS;have HA:=Lib.hid hA;have HL:=Lib.hid hle;clear hA hS hle
   go_enter Tryz.func232,Tryz.ntmps232
   go_wp2_with (go_at_call 243; refine (HC.out _).mono ?_; rintro e w1 ⟨rfl,rfl⟩)
   go_loop [7,8] (fun x i => ∃ (j:Nat),j + 1 <= m /\ i = .int .i64 ((j + 1:Nat):Int) /\ x = .int .i64 (sgnV v0 ((l.drop (k + 1)).take j))) (fun _ i => 5 - (RowKit.intOf i).toNat)
   case atStart => exact ⟨0,by omega,rfl,by simp [sgnV]⟩
   case round =>
    obtain ⟨j,hj,rfl,rfl⟩:=hrel;by_cases hlt:j + 1 < m
    ·have hjl:j < (l.drop (k + 1)).length:=by have:=HL.out; omega
     have HN:=Lib.hid (sgnV_snoc v0 (l.drop (k + 1)) j hjl);have hb:=sgnV_bd v0 (l.drop (k + 1)) j hbd2 (by omega);have hget:(l.drop (k + 1))[j] = l[k + (j + 1)]'(by have:=HL.out; omega):=by rw [List.getElem_drop]; congr 1; omega
     rw [hget] at HN;have hk4:k + (j + 1) < l.length:=by omega
     have e1:((k:Int) + (j + 1:Nat)).toNat = k + (j + 1):=by omega
     obtain ⟨x,hx⟩:∃ x,sgnV v0 ((l.drop (k + 1)).take j) = x:=⟨_,rfl⟩;rw [hx] at HN hb ⊢;have HX:=Lib.hid hx; clear hx
     go_wp2
     go_round
     case rel =>
      refine ⟨j + 1,by omega,by go_num,?_⟩;rw [HN.out]; go_num
     case measure => simp [RowKit.intOf] <;> omega
    ·obtain rfl:m = j + 1:=by omega
     have hb:=sgnV_bd v0 (l.drop (k + 1)) j hbd2 (by omega);have HS2:=HS.out;have hpre:¬ ((j + 1 = 0) \/ (l.drop (k + 1)).length + 1 < j + 1):=HA.out;simp only [hpre,false_or,Nat.add_sub_cancel] at HS2;have HS2:=Lib.hid HS2;clear hpre;go_wp2;obtain ⟨x,hx⟩:∃ x,sgnV v0 ((l.drop (k + 1)).take j) = x:=⟨_,rfl⟩;rw [hx] at hb HS2;have HX:=Lib.hid hx;simp only [hx];clear hx HS;have hB:=Below.refl w.heap.size w;have z1:IntKind.i64.wrap ((k:Int) + (↑j + 1)) = (k:Int) + (↑j + 1):=IntWalk.i64_in _ (by omega);have z2:(0:Int) <= (k:Int) + (↑j + 1):=by omega
     have z3:(k:Int) <= (k:Int) + (↑j + 1):=by omega
     have z4:(k:Int) + (↑j + 1) <= l.length:=by omega
     have z5:((k:Int) + (↑j + 1)).toNat = k + (j + 1):=by omega
     have hxo:i64ok x:=⟨by omega,by omega⟩
     go_region_held3 (fun W => Below w.heap.size w W) (first | exact hB | exact hB.drew)
      (first | (go_at_call 244; refine (zf8 x _ hxo).mono ?_; rintro e w2 ⟨rfl,hb2⟩; replace hB:=zan (by first | exact hB | exact hB.drew) hb2 (Nat.le_refl _)))
     go_wp2
     ·have he:(!putSign ↑x == List.take (j + 1) (List.drop k l)) = true:=by assumption
      rw [zeg] at he;have h2:=HS2.out;rw [if_pos (by simpa using he)] at h2
      go_ret2
      rw [zcR h2]; exact ⟨rfl,hB⟩
     ·have he:(!putSign ↑x == List.take (j + 1) (List.drop k l)) = false:=by assumption
      rw [zeg] at he;have h2:=HS2.out;rw [if_neg (by simpa using he)] at h2
      go_ret2
      rw [zef hk h2]; exact ⟨by simp,hB⟩
 ·have H:=Lib.hid (signAt_far hr)
  by_cases h0:i < 0
  ·clear hr
   go_enter Tryz.func232,Tryz.ntmps232
   go_wp2
   go_ret2
   rw [H.out]; exact ⟨rfl,Below.refl _ _⟩
  ·have h1:¬ i < l.length:=by omega
   clear hr
   go_enter Tryz.func232,Tryz.ntmps232
   go_wp2
   go_ret2
   rw [H.out]; exact ⟨rfl,Below.refl _ _⟩
end Go.Proofs.YtanlnhkagepniaaGreatDoor
namespace Go.Proofs.YtanlnhkagepniaaGreatDoor
open Go.RowKit
set_option maxHeartbeats 4000000
set_option maxRecDepth 100000
open List
section
open Go.RowKit Go.Lib
theorem tyI:ElemTy Tryz.prog 75 3 1 8:=ElemTy.mk' Tryz.underlying75 (z:=.int .i64 0) (by kernel_rfl) rfl (by decide)
theorem signAt_bd {l:L8} {k:Nat} (_:k <= l.length):-1 <= (signAt l k).1 /\ (signAt l k).1 <= 1114111 /\ -1 <= (signAt l k).2 /\ (signAt l k).2 <= l.length:=by
 unfold signAt; split
 ·rename_i h
  rw [Int.toNat_natCast]
  cases hs:sgn (l.drop k) with
  | none => simp; try omega
  | some r =>
   obtain ⟨n,m⟩:=r
   have:=sgn_bd hs
   simp [length_drop] at this ⊢; omega
 ·simp; try omega
theorem zhg {l:L8} {k:Nat} (hk:k < l.length):((signAt l k).2 < 0 /\ validD (l.drop k) = false) \/ (∃ m:Nat,(signAt l k).2 = (k + m:Nat) /\ 1 <= m /\ k + m <= l.length /\ validD (l.drop k) = validD (l.drop (k + m))):=by
 have hne:l.drop k ≠ []:=by simp; omega
 have hv:=validD_sgn (l.drop k) hne
 cases hs:sgn (l.drop k) with
 | none => rw [hs] at hv; left; rw [zcR hs]; exact ⟨by simp,hv⟩
 | some r =>
  obtain ⟨n,m⟩:=r
  have:=sgn_bd hs
  rw [hs] at hv; right; rw [zef hk hs]; simp [length_drop,drop_drop] at this hv ⊢
  exact ⟨m,rfl,by omega,by omega,hv⟩
theorem signs_spec (l:L8) (w:World) (hl:l.length <= 4294967295) :
  Calls Tryz.prog 210 #[.string ⟨l.toArray⟩] w fun e w' => (∃ a n c,e = .returned (.slice a n c) /\ n <= 4294967295 /\ (l ≠ [] -> (decide (0 < n)) = validD l)) /\ Below w.heap.size w w':=by
 obtain ⟨ok,hok⟩:∃ ok,validD l = ok:=⟨_,rfl⟩;rw [hok]
 go_enter Tryz.func210,Tryz.ntmps210
 go_wp2
 go_loopw [3,4] (fun v i wr => ∃ (k:Nat) (xs:List Value),k <= l.length /\ i = .int .i64 k /\ OwnR wr w.heap.size 3 v xs /\ xs.length <= k /\ (0 < k -> 0 < xs.length) /\ validD (l.drop k) = ok /\ Below w.heap.size w wr) (fun _ i _ => l.length - (RowKit.intOf i).toNat)
 case atStart => exact ⟨0,[],Nat.zero_le _,rfl,OwnR.start,by simp,by simp,by simpa using hok,(Below.refl _ _).alloc lR _⟩
 case round =>
  obtain ⟨k,xs,hk,rfl,hown,hx1,hx2,hv,hbel⟩:=hrel;have HV:=Lib.hid hv; clear hv hok
  have hsz:=hbel.size;obtain ⟨a,c,rfl⟩:=hown.any;by_cases hlt:k < l.length
  ·have hki:i64ok k:=⟨by omega,by omega⟩
   have HB:=signAt_bd (l:=l) (k:=k) hk;have HS:=Lib.hid (zhg hlt);obtain ⟨p,hp⟩:∃ p,signAt l k = p:=⟨_,rfl⟩
   have HC:Hid (∀ w,Calls Tryz.prog 232 #[.string ⟨l.toArray⟩,.int .i64 k] w fun e w' => e = .returned (.tuple #[.int .i64 p.1,.int .i64 p.2]) /\ Below w.heap.size w w'):=by
    intro w; rw [<- hp]; exact zf9 l k w hki (by omega)
   rw [hp] at HB HS;clear hp;obtain ⟨p1,p2⟩:=p;simp only at HB HS HC;obtain ⟨HB1,HB2,HB3,HB4⟩:=HB;by_cases hneg:p2 < 0
   ·have hf:ok = false:=by
     rcases HS.out with ⟨_,h2⟩ | ⟨m,h1,_⟩
     ·rw [<- HV.out,h2]
     ·omega
    have HF:=Lib.hid hf;clear hf
    go_wp2_with (go_at_call 232; refine (HC.out _).mono ?_; rintro e w1 ⟨rfl,hb1⟩)
    go_ret;exact ⟨⟨_,_,_,rfl,by simp,fun _ => by rw [HF.out]; rfl⟩,(zan hbel hb1 lR).alloc (Nat.le_trans hsz hb1.size) _⟩
   ·obtain ⟨m,hm1,hm2,hm3,hm4⟩:∃ m:Nat,p2 = (k + m:Nat) /\ 1 <= m /\ k + m <= l.length /\ validD (l.drop k) = validD (l.drop (k + m)):=by
     rcases HS.out with ⟨h1,_⟩ | h
     ·omega
     ·exact h
    subst hm1;have HM:=Lib.hid hm4;clear hm4
    go_wp2_with (first | (go_at_call 232; refine (HC.out _).mono ?_; rintro e w1 ⟨rfl,hb1⟩) | (at_builtin; refine wp_appR (ys:=[.int .i64 p1]) tyI rfl rfl w.heap.size ((hown.below hb1).alloc _) rfl ⟨w1.heap.size,0,none⟩ 1 rfl (cell_one_new _ _ _) (by simp [Value.oneCell']) (by simp; omega) (by decide) (by have:=hb1.size; simp; omega) ?_))
    intro v' w2 hown1 hgr _;have hbel1:=OwnR.grown ((hown.below hb1).alloc _) ((zan hbel hb1 lR).alloc (Nat.le_trans hsz hb1.size) _) hgr (by have:=hb1.size; simp; omega);clear hown hbel;go_wp2;go_roundw
    case rel => exact ⟨k + m,_,hm3,by go_num,hown1,by simp; omega,by simp,by rw [<- HM.out]; exact HV.out,hbel1⟩
    case measure => simp [RowKit.intOf]; omega
  ·obtain rfl:k = l.length:=by omega
   have h1:=HV.out;rw [drop_length] at h1;have HF:=Lib.hid h1;clear h1;go_wp2;go_ret;exact ⟨⟨_,_,_,rfl,by omega,fun hne => by rw [<- HF.out,decide_eq_true (hx2 (length_pos_iff.2 hne))]; rfl⟩,hbel⟩
theorem zcS (l:L8) (w:World) (hl:l.length <= 4294967295) :
  Calls Tryz.prog 162 #[.string ⟨l.toArray⟩] w fun e w' => e = .returned (.bool (validD l)) /\ Below w.heap.size w w':=by
 by_cases h:l = []
 ·subst h
  go_enter Tryz.func162,Tryz.ntmps162
  go_wp2;go_ret;exact ⟨rfl,Below.refl _ _⟩
 ·have HC:=Lib.hid (signs_spec l w hl)
  have h1:l.isEmpty = false:=by simpa using h
  have HN:=Lib.hid h;clear h
  go_enter Tryz.func162,Tryz.ntmps162
  go_wp2_with (go_at_call 210; refine HC.out.mono ?_; rintro e w1 ⟨⟨a,n,c,rfl,hn,hv⟩,hb1⟩; have HV:=Lib.hid (hv HN.out); clear hv)
  go_ret;exact ⟨by rw [<- HV.out]; rfl,hb1⟩
end
end Go.Proofs.YtanlnhkagepniaaGreatDoor
/- Decimals of a value: the program's fits and isDec, the reference's l02Whole. -/
namespace Go.Proofs.YtanlnhkagepniaaGreatDoor
open Go.RowKit
theorem zeh {k:Nat} {n:Int} (h:-9223372036854775808 <= n * 10 /\ n * 10 <= 9223372036854775807):fitsN (k + 1) n = fitsN k (n * 10):=by
 show (inR _ _ _ && _) = _; rw [zaG h]; rfl
theorem fitsN_no {k:Nat} {n:Int} (h:¬ (-9223372036854775808 <= n * 10 /\ n * 10 <= 9223372036854775807)):fitsN (k + 1) n = false:=by
 show (inR _ _ _ && _) = _; rw [zba h]; rfl
theorem tdiv10 (q:Int):Int.tdiv q 10 * 10 - 9 <= q /\ q <= Int.tdiv q 10 * 10 + 9 /\ (0 <= q -> Int.tdiv q 10 * 10 <= q) /\ (q <= 0 -> q <= Int.tdiv q 10 * 10):=by
 have h1:=Int.mul_tdiv_add_tmod q 10;have h2:=Int.tmod_lt_of_pos q (show (0:Int) < 10 by decide);have h3:-10 < Int.tmod q 10:=by have:=Int.tmod_lt_of_pos (-q) (show (0:Int) < 10 by decide); rw [Int.neg_tmod] at this; omega
 have h4:0 <= q -> 0 <= Int.tmod q 10:=fun h => Int.tmod_nonneg 10 h
 have h5:q <= 0 -> Int.tmod q 10 <= 0:=fun h => by have:=Int.tmod_nonneg 10 (show 0 <= -q by omega); rw [Int.neg_tmod] at this; omega
 refine ⟨by omega,by omega,fun h => ?_,fun h => ?_⟩
 ·have:=h4 h; omega
 ·have:=h5 h; omega
theorem wrap_no {n:Int} (h:¬ (-9223372036854775808 <= n * 10 /\ n * 10 <= 9223372036854775807)):(wrap64 (Int.tdiv (wrap64 (n * 10)) 10) != n) = true:=by
 simp only [bne_iff_ne,ne_eq];intro e;have hq:-9223372036854775808 <= wrap64 (n * 10) /\ wrap64 (n * 10) <= 9223372036854775807:=by unfold wrap64; omega
 generalize wrap64 (n * 10) = q at e hq;obtain ⟨a,b,c,d⟩:=tdiv10 q
 have:wrap64 (Int.tdiv q 10) = Int.tdiv q 10:=by unfold wrap64; omega
 rw [this] at e;subst e;by_cases h0:0 <= q
 ·have:=c h0; omega
 ·have:=d (by omega); omega
set_option maxHeartbeats 400000 in
theorem zga (n:Int) (k:Nat) (w:World) (hn:i64ok n) (hk:k <= 1000) :
  Calls Tryz.prog 219 #[.int .i64 n,.int .i64 k] w fun e w' => e = .returned (.bool (decide (0 < k) && fitsN k n)) /\ w = w':=by
 obtain ⟨ok,hok⟩:∃ ok,fitsN k n = ok:=⟨_,rfl⟩;rw [hok];have HOK:=Lib.hid hok; clear hok
 go_enter Tryz.func219,Tryz.ntmps219
 go_wp2
 go_loopw [0,5] (fun x i wr => ∃ (j:Nat) (m:Int),j <= k /\ i = .int .i64 j /\ x = .int .i64 m /\ i64ok m /\ fitsN (k - j) m = ok /\ w = wr) (fun _ i _ => k - (intOf i).toNat)
 case atStart => exact ⟨0,n,Nat.zero_le _,rfl,rfl,hn,HOK.out,rfl⟩
 case round =>
  obtain ⟨j,m,hj,rfl,rfl,hm,hf,rfl⟩:=hrel;by_cases hlt:j < k
  ·obtain ⟨r,hr⟩:∃ r,k - j = r + 1:=⟨k - j - 1,by omega⟩
   rw [hr] at hf;have hlt':(j:Int) < k:=by omega
   by_cases hin:-9223372036854775808 <= m * 10 /\ m * 10 <= 9223372036854775807
   ·rw [zeh hin] at hf
    have HF:=Lib.hid hf; clear hf
    go_wp2;exact ⟨⟨j + 1,m * 10,by omega,by go_num,rfl,hin,by rw [show k - (j + 1) = r by omega]; exact HF.out,trivial⟩,by simp [intOf]; omega⟩
   ·rw [fitsN_no hin] at hf
    have HF:=Lib.hid hf; clear hf
    have hw:=wrap_no hin;go_wp2;go_ret;exact ⟨by rw [<- HF.out]; simp,rfl⟩
  ·obtain rfl:j = k:=by omega
   rw [Nat.sub_self] at hf;have HF:=Lib.hid (show true = ok from hf); clear hf
   go_wp2;go_ret;exact ⟨by rw [<- HF.out]; simp,rfl⟩
def fitsR (ok:Bool) (p:Int):Value:=if ok then .tuple #[.int .i64 p,.bool true] else .tuple #[.int .i64 0,.bool false]
set_option maxHeartbeats 400000 in
theorem fits_any (n:Int) (k:Nat) (w:World) (hn:i64ok n) (hk:k <= 1000) :
  Calls Tryz.prog 234 #[.int .i64 n,.int .i64 k] w fun e w' => e = .returned (fitsR (fitsN k n) (n * 10 ^ k)) /\ w = w':=by
 obtain ⟨ok,hok⟩:∃ ok,fitsN k n = ok:=⟨_,rfl⟩;obtain ⟨p,hp⟩:∃ p,n * 10 ^ k = p:=⟨_,rfl⟩;rw [hok,hp];have HOK:=Lib.hid hok; clear hok
 have HP:=Lib.hid hp; clear hp
 go_enter Tryz.func234,Tryz.ntmps234
 go_wp2
 go_loopw [0,1] (fun x i wr => ∃ (j:Nat) (m:Int),j <= k /\ i = .int .i64 j /\ x = .int .i64 m /\ i64ok m /\ fitsN j m = ok /\ m * 10 ^ j = p /\ w = wr) (fun _ i _ => (intOf i).toNat)
 case atStart => exact ⟨k,n,Nat.le_refl _,rfl,rfl,hn,HOK.out,HP.out,rfl⟩
 case round =>
  obtain ⟨j,m,hj,rfl,rfl,hm,hf,hpp,rfl⟩:=hrel;by_cases hj0:j = 0
  ·subst hj0
   have HF:=Lib.hid (show true = ok from hf);have HPP:=Lib.hid (show m = p by simpa using hpp);clear hf hpp;go_wp2
   go_ret2
   exact ⟨by rw [<- HF.out,HPP.out]; rfl,rfl⟩
  ·obtain ⟨r,rfl⟩:∃ r,j = r + 1:=⟨j - 1,by omega⟩
   have hj1:(0:Int) < (r + 1:Nat):=by omega
   have hpp2:m * 10 * 10 ^ r = p:=by rw [<- hpp,Int.pow_succ,Int.mul_assoc,Int.mul_comm 10]
   have HPP:=Lib.hid hpp2;by_cases hm0:m = 0
   ·subst hm0
    have h0:∀ r,fitsN r 0 = true:=by intro r; induction r with
     | zero => rfl
     | succ r ih => rw [zeh (by decide)]; exact ih
    have HF:=Lib.hid (show true = ok by rw [<- hf,h0]);have HP0:=Lib.hid (show (0:Int) = p by simpa using hpp);clear hf hpp hpp2 h0;go_wp2
    go_ret2
    exact ⟨by rw [<- HF.out,<- HP0.out]; rfl,rfl⟩
   ·have hne:(m != 0) = true:=by simpa using hm0
    by_cases hin:-9223372036854775808 <= m * 10 /\ m * 10 <= 9223372036854775807
    ·rw [zeh hin] at hf
     have HF:=Lib.hid hf; clear hf hpp hpp2
     have g1:¬ (922337203685477580:Int) < m:=by omega
     have g2:¬ m < (-922337203685477580:Int):=by omega
     go_wp2;exact ⟨⟨r,m * 10,by omega,by go_num,rfl,hin,HF.out,HPP.out,trivial⟩,by simp [intOf]⟩
    ·rw [fitsN_no hin] at hf
     have HF:=Lib.hid hf; clear hf hpp hpp2
     by_cases g1:(922337203685477580:Int) < m
     ·go_wp2
      go_ret2
      exact ⟨by rw [<- HF.out]; rfl,rfl⟩
     ·have g2:m < (-922337203685477580:Int):=by omega
      go_wp2
      go_ret2
      exact ⟨by rw [<- HF.out]; rfl,rfl⟩
theorem decOk_e {n e:Int} (h:¬ (-20 <= e /\ e <= 20)):decOk n e = false:=by unfold decOk; rw [zba h]; rfl
set_option maxHeartbeats 1000000 in
set_option maxRecDepth 10000 in
theorem isDec_any (x:V) (cs:List Value) (w:World) (h:Rd w x.d cs) (hwf:x.wf) :
  Calls Tryz.prog 221 #[.agg cs.toArray] w fun e w' => e = .returned (.bool (decOk x.num x.exp)) /\ Below w.heap.size w w':=by
 obtain ⟨k,n,e,s,kids,v1,rfl,rfl,hkids⟩:=V.lay h;obtain ⟨a1,c1,rfl⟩:=Rd.sl_form hkids;obtain ⟨hk,hn,he,hs,_⟩:=hwf;have H1:=Lib.hid (decOk_e (n:=n) (e:=e));show Calls _ _ _ _ fun e' w' => e' = .returned (.bool (decOk n e)) /\ _
 obtain ⟨ok,hok⟩:∃ ok,decOk n e = ok:=⟨_,rfl⟩;rw [hok];have HA:=Lib.hid ((Below.refl w.heap.size w).alloc (Nat.le_refl _) (.cells #[.int .i64 k,.int .i64 n,.int .i64 e,.string ⟨s.toArray⟩,.slice a1 (V.ds kids).length c1] 41));clear h hkids;by_cases h1:-20 <= e /\ e <= 20
 ·by_cases h2:e = 0
  ·have H:Hid (ok = false):=by show _ = _; rw [<- hok,h2]; unfold decOk; rw [zaG (by decide)]; simp
   subst h2;clear hok
   go_enter Tryz.func221,Tryz.ntmps221
   go_wp2;go_ret;exact ⟨by rw [H.out]; rfl,HA.out⟩
  ·have g2:(e == 0) = false:=by simpa using h2
   by_cases h3:-999999999999999999 <= n /\ n <= 999999999999999999
   ·by_cases h4:Int.tmod n 10 = 0
    ·have H:Hid (ok = false):=by show _ = _; rw [<- hok]; unfold decOk; rw [h4]; simp
     have g4:(Int.tmod n 10 == 0) = true:=by simpa using h4
     clear hok
     go_enter Tryz.func221,Tryz.ntmps221
     go_wp2;go_ret;exact ⟨by rw [H.out]; rfl,HA.out⟩
    ·have g4:(Int.tmod n 10 == 0) = false:=by simpa using h4
     by_cases h5:0 < e
     ·obtain ⟨j,rfl⟩:∃ j:Nat,e = j:=⟨e.toNat,by omega⟩
      have H:Hid (ok = !fitsN j n):=by show _ = _; rw [<- hok]; unfold decOk; rw [zaG h1,zaG h3]; simp [h4,show j ≠ 0 by omega,show 0 < j by omega]
      clear hok
      go_enter Tryz.func221,Tryz.ntmps221
      cases hf:fitsN j n with
      | true =>
       have HF:=Lib.hid hf; clear hf
       go_wp2_with (first | (go_at_call 126; refine (zaS _ _ _ _).mono ?_; rintro e w1 ⟨rfl,rfl⟩; first | rw [zaG h1] | rw [zaG h3]) | (go_at_call 234; refine (fits_any n j _ hn (by omega)).mono ?_; rw [HF.out]; rintro e w1 ⟨rfl,rfl⟩; simp only [fitsR,if_true]))
       go_ret
       exact ⟨by rw [H.out,HF.out]; rfl,HA.out⟩
      | false =>
       have HF:=Lib.hid hf; clear hf
       go_wp2_with (first | (go_at_call 126; refine (zaS _ _ _ _).mono ?_; rintro e w1 ⟨rfl,rfl⟩; first | rw [zaG h1] | rw [zaG h3]) | (go_at_call 234; refine (fits_any n j _ hn (by omega)).mono ?_; rw [HF.out]; rintro e w1 ⟨rfl,rfl⟩; simp only [fitsR,Bool.false_eq_true,if_false]))
       go_ret;exact ⟨by rw [H.out,HF.out]; rfl,HA.out⟩
     ·have H:Hid (ok = true):=by show _ = _; rw [<- hok]; unfold decOk; rw [zaG h1,zaG h3]; simp [h2,h4,h5]
      clear hok
      go_enter Tryz.func221,Tryz.ntmps221
      go_wp2;go_ret;exact ⟨by rw [H.out]; rfl,HA.out⟩
   ·have H:Hid (ok = false):=by show _ = _; rw [<- hok]; unfold decOk; rw [zba h3]; simp
    clear hok
    go_enter Tryz.func221,Tryz.ntmps221
    go_wp2
    all_goals (go_ret; exact ⟨by rw [H.out]; rfl,HA.out⟩)
 ·have H:Hid (ok = false):=hok.symm.trans (H1.out h1)
  clear hok
  go_enter Tryz.func221,Tryz.ntmps221
  go_wp2
  all_goals (go_ret; exact ⟨by rw [H.out]; rfl,HA.out⟩)
end Go.Proofs.YtanlnhkagepniaaGreatDoor
/- Whether values are keys and values by turns: the reference's l02Pairs. -/
namespace Go.Proofs.YtanlnhkagepniaaGreatDoor
open Go.RowKit
theorem marks_snoc {α:Type} (f:V -> α) (ks:List V) (m:Nat) (h:m < ks.length):(ks.take (m + 1)).map f = (ks.take m).map f ++ [f ks[m]]:=by
 rw [List.take_succ_eq_append_getElem h,List.map_append]; rfl
theorem zei {α:Type} [DecidableEq α] {f:V -> α} {ks:List V} {j:Nat} (hj:j < ks.length) (h:uniq f (ks.take j) = true) (hk:isKeyK ks[j].kind = true) (hn:f ks[j] ∉ (ks.take j).map f):uniq f (ks.take (j + 1)) = true:=by
 rw [List.take_succ_eq_append_getElem hj,zd9,h,hk,decide_eq_true hn]; rfl
theorem zgb {α:Type} [DecidableEq α] {f:V -> α} {ks:List V} {j:Nat} (hj:j < ks.length) (hk:isKeyK ks[j].kind = false):uniq f ks = false:=by
 apply zfZ (j + 1)
 rw [List.take_succ_eq_append_getElem hj,zd9,hk,Bool.false_and,Bool.and_false]
theorem zej {α:Type} [DecidableEq α] {f:V -> α} {ks:List V} {j:Nat} (hj:j < ks.length) (hn:f ks[j] ∈ (ks.take j).map f):uniq f ks = false:=by
 apply zfZ (j + 1)
 rw [List.take_succ_eq_append_getElem hj,zd9,decide_eq_false (fun h => h hn),Bool.and_false,Bool.and_false]
set_option maxHeartbeats 4000000 in
set_option maxRecDepth 10000 in
theorem zgc (xs:List V) (v:Value) (w:World) (h:Rd w (.sl 5 (V.ds xs)) [v]) (hlen:xs.length <= 4294967295) :
  Calls Tryz.prog 220 #[v] w fun e w' => e = .returned (.bool (pairsOk xs)) /\ Below w.heap.size w w':=by
 obtain ⟨a,c,rfl,hg⟩:=h.values;obtain ⟨ok,hok⟩:∃ ok,pairsOk xs = ok:=⟨_,rfl⟩;rw [hok];have HOK:=Lib.hid hok; clear hok h
 obtain ⟨ks,hks⟩:∃ ks,odds xs = ks:=⟨_,rfl⟩;have hkl:ks.length = (xs.length + 1) / 2:=by rw [<- hks,zbH]
 have HKG:Hid (∀ j (h1:2 * j < xs.length) (h2:j < ks.length),ks[j] = xs[2 * j]):=by
  intro j h1 h2; subst hks; exact odds_get xs j h1
 have HKS:=Lib.hid hks; clear hks
 go_enter Tryz.func220,Tryz.ntmps220
 go_wp2
 go_loopw [3] (fun i wr => ∃ (j k:Nat),k = 2 * j /\ j <= ks.length /\ i = .int .i64 k /\ uniq V.mark (ks.take j) = true /\ Below w.heap.size w wr) (fun i _ => xs.length + 1 - (intOf i).toNat)
 case atStart => exact ⟨0,0,rfl,Nat.zero_le _,rfl,by simp [uniq],Below.refl _ _⟩
 case round =>
  obtain ⟨j,k,hkj,hj,rfl,hu,hbel⟩:=hrel;have HKJ:=Lib.hid hkj;have HU:=Lib.hid hu; clear hu
  by_cases hlt:k < xs.length
  ·have hjk:j < ks.length:=by omega
   have hkk:=HKG.out j (by omega) hjk;obtain ⟨_,_,b,o,rfl,hb,hcell⟩:=hg (by intro e; rw [e] at hlt; simp at hlt);have HC:=Lib.hid hcell;obtain ⟨v0,v1,v2,v3,v4,hr,d0,d1,d2,d3,d4⟩:=hcell k hlt;clear hcell;obtain ⟨xk,xn,xe,xs',xkids,y4,hx,hcs,_⟩:=V.lay hr;simp only [List.cons.injEq,and_true] at hcs;obtain ⟨rfl,rfl,rfl,rfl,rfl⟩:=hcs;have hbc:=(zaY hbel).1;have D0:=Lib.hid d0;have D1:=Lib.hid d1;have D3:=Lib.hid d3;rw [<- hbc _ _ hb] at d0 d1 d3;clear hr d2 d4;have hkx:ks[j] = .mk xk xn xe xs' xkids:=by rw [hkk,<- hx]; subst hkj; rfl
   have hi1:(0:Int) <= k:=by omega
   have hi3:(k:Int) < xs.length:=by omega
   have HX:=Lib.hid hkx;clear hbc hkk hx hkx hkj;by_cases hkey:isKeyK xk = true
   ·have HK:=Lib.hid hkey
    have hkk:(xk != 5) = false \/ ((xk != 5) = true /\ (xk != 3) = false):=by simp [isKeyK] at hkey ⊢; omega
    clear hkey
    rcases hkk with hk5 | ⟨hk5,hk3⟩
    ·go_wp2
     go_loopw [4] (fun i wr => ∃ (m r:Nat),r = 2 * m /\ m <= j /\ i = .int .i64 r /\ (V.mk xk xn xe xs' xkids).mark ∉ (ks.take m).map V.mark /\ Below w.heap.size w wr) (fun i _ => k + 1 - (intOf i).toNat)
     case atStart => exact ⟨0,0,rfl,Nat.zero_le _,rfl,by simp,hbel⟩
     case round =>
      obtain ⟨m,r,hrm,hm,rfl,hni,hbel2⟩:=hrel;have HRM:=Lib.hid hrm;have HNI:=Lib.hid hni; clear hni
      have hkj:=HKJ.out;by_cases hml:r < k
      ·have hmk:m < ks.length:=by omega
       have hmm:=HKG.out m (by omega) hmk;obtain ⟨u0,u1,u2,u3,u4,hr2,e0,e1,e2,e3,e4⟩:=HC.out r (by omega);obtain ⟨yk,yn,ye,ys,ykids,y5,hy,hcs2,_⟩:=V.lay hr2;simp only [List.cons.injEq,and_true] at hcs2;obtain ⟨rfl,rfl,rfl,rfl,rfl⟩:=hcs2;have hbc2:=(zaY hbel2).1;rw [<- hbc2 _ _ hb] at e0 e1 e3;have d0':=(hbc2 _ _ hb).trans D0.out;have d1':=(hbc2 _ _ hb).trans D1.out;have d3':=(hbc2 _ _ hb).trans D3.out;clear hr2 e2 e4 d0 d1 d3;have hky:ks[m] = .mk yk yn ye ys ykids:=by rw [hmm,<- hy]; subst hrm; rfl
       have HY:=Lib.hid hky;have hj1:(0:Int) <= r:=by omega
       have hj3:(r:Int) < xs.length:=by omega
       have hj5:(r:Int) < k:=by omega
       have hm5:m < j:=by omega
       have hr5:r + 2 < k + 3:=by omega
       clear hbc2 hmm hy hky hrm hkj;by_cases heq:yk = xk /\ yn = xn /\ ys = xs'
       ·obtain ⟨rfl,rfl,rfl⟩:=heq
        have HF:Hid (pairsOk xs = false):=by
         show _ = _; unfold pairsOk; rw [HKS.out,zej hjk (by
          rw [HX.out];refine List.mem_map.2 ⟨ks[m],List.mem_take_iff_getElem.2 ⟨m,by omega,rfl⟩,by rw [HY.out]; rfl⟩)]; rfl
        have g1:(yk == yk) = true:=by simp
        have g2:(yn == yn) = true:=by simp
        go_wp2
        go_quiet (fail)
        go_wp2;go_ret;exact ⟨by rw [<- HOK.out,HF.out]; rfl,by first | exact hbel2 | exact hbel2.drew | exact below_drewN hbel2 _⟩
       ·have HM:Hid ((V.mk xk xn xe xs' xkids).mark ∉ (ks.take (m + 1)).map V.mark):=by
         show _ ∉ _;rw [marks_snoc _ _ _ hmk,List.mem_append,HY.out];rintro (h | h)
         ·exact HNI.out h
         ·simp only [List.mem_singleton,V.mark,V.kind,V.num,V.text,Prod.mk.injEq] at h
          exact heq ⟨h.1.symm,h.2.1.symm,h.2.2.symm⟩
        by_cases h1:yk = xk
        ·subst h1
         have g1:(yk == yk) = true:=by simp
         by_cases h2:yn = xn
         ·subst h2
          have g2:(yn == yn) = true:=by simp
          have h3:¬ ys = xs':=fun e => heq ⟨rfl,rfl,e⟩
          have g3:(ys == xs') = false:=by simpa using h3
          clear heq h3;go_wp2
          go_quiet (fail)
          go_wp2;go_roundw
          case rel => exact ⟨m + 1,r + 2,by have:=HRM.out; omega,by omega,by go_num,HM.out,by first | exact hbel2 | exact hbel2.drew | exact below_drewN hbel2 _⟩
          case measure => simp [intOf]; omega
         ·have g2:(yn == xn) = false:=by simpa using h2
          clear heq h2;go_wp2
          go_quiet (fail)
          go_wp2;go_roundw
          case rel => exact ⟨m + 1,r + 2,by have:=HRM.out; omega,by omega,by go_num,HM.out,by first | exact hbel2 | exact hbel2.drew | exact below_drewN hbel2 _⟩
          case measure => simp [intOf]; omega
        ·have g1:(yk == xk) = false:=by simpa using h1
         clear heq h1;go_wp2
         go_quiet (fail)
         go_wp2;go_roundw
         case rel => exact ⟨m + 1,r + 2,by have:=HRM.out; omega,by omega,by go_num,HM.out,by first | exact hbel2 | exact hbel2.drew | exact below_drewN hbel2 _⟩
         case measure => simp [intOf]; omega
      ·obtain rfl:m = j:=by omega
       have HM:Hid (uniq V.mark (ks.take (m + 1)) = true):=zei hjk HU.out (by rw [HX.out]; exact HK.out) (by rw [HX.out]; exact HNI.out);clear hrm hkj;go_wp2;go_roundw
       case rel => exact ⟨m + 1,k + 2,by have:=HKJ.out; omega,by omega,by go_num,HM.out,hbel2⟩
       case measure => simp [intOf]; omega
    ·go_wp2
     go_loopw [4] (fun i wr => ∃ (m r:Nat),r = 2 * m /\ m <= j /\ i = .int .i64 r /\ (V.mk xk xn xe xs' xkids).mark ∉ (ks.take m).map V.mark /\ Below w.heap.size w wr) (fun i _ => k + 1 - (intOf i).toNat)
     case atStart => exact ⟨0,0,rfl,Nat.zero_le _,rfl,by simp,hbel⟩
     case round =>
      obtain ⟨m,r,hrm,hm,rfl,hni,hbel2⟩:=hrel;have HRM:=Lib.hid hrm;have HNI:=Lib.hid hni; clear hni
      have hkj:=HKJ.out;by_cases hml:r < k
      ·have hmk:m < ks.length:=by omega
       have hmm:=HKG.out m (by omega) hmk;obtain ⟨u0,u1,u2,u3,u4,hr2,e0,e1,e2,e3,e4⟩:=HC.out r (by omega);obtain ⟨yk,yn,ye,ys,ykids,y5,hy,hcs2,_⟩:=V.lay hr2;simp only [List.cons.injEq,and_true] at hcs2;obtain ⟨rfl,rfl,rfl,rfl,rfl⟩:=hcs2;have hbc2:=(zaY hbel2).1;rw [<- hbc2 _ _ hb] at e0 e1 e3;have d0':=(hbc2 _ _ hb).trans D0.out;have d1':=(hbc2 _ _ hb).trans D1.out;have d3':=(hbc2 _ _ hb).trans D3.out;clear hr2 e2 e4 d0 d1 d3;have hky:ks[m] = .mk yk yn ye ys ykids:=by rw [hmm,<- hy]; subst hrm; rfl
       have HY:=Lib.hid hky;have hj1:(0:Int) <= r:=by omega
       have hj3:(r:Int) < xs.length:=by omega
       have hj5:(r:Int) < k:=by omega
       have hm5:m < j:=by omega
       have hr5:r + 2 < k + 3:=by omega
       clear hbc2 hmm hy hky hrm hkj;by_cases heq:yk = xk /\ yn = xn /\ ys = xs'
       ·obtain ⟨rfl,rfl,rfl⟩:=heq
        have HF:Hid (pairsOk xs = false):=by
         show _ = _; unfold pairsOk; rw [HKS.out,zej hjk (by
          rw [HX.out];refine List.mem_map.2 ⟨ks[m],List.mem_take_iff_getElem.2 ⟨m,by omega,rfl⟩,by rw [HY.out]; rfl⟩)]; rfl
        have g1:(yk == yk) = true:=by simp
        have g2:(yn == yn) = true:=by simp
        go_wp2
        go_quiet (fail)
        go_wp2;go_ret;exact ⟨by rw [<- HOK.out,HF.out]; rfl,by first | exact hbel2 | exact hbel2.drew | exact below_drewN hbel2 _⟩
       ·have HM:Hid ((V.mk xk xn xe xs' xkids).mark ∉ (ks.take (m + 1)).map V.mark):=by
         show _ ∉ _;rw [marks_snoc _ _ _ hmk,List.mem_append,HY.out];rintro (h | h)
         ·exact HNI.out h
         ·simp only [List.mem_singleton,V.mark,V.kind,V.num,V.text,Prod.mk.injEq] at h
          exact heq ⟨h.1.symm,h.2.1.symm,h.2.2.symm⟩
        by_cases h1:yk = xk
        ·subst h1
         have g1:(yk == yk) = true:=by simp
         by_cases h2:yn = xn
         ·subst h2
          have g2:(yn == yn) = true:=by simp
          have h3:¬ ys = xs':=fun e => heq ⟨rfl,rfl,e⟩
          have g3:(ys == xs') = false:=by simpa using h3
          clear heq h3;go_wp2
          go_quiet (fail)
          go_wp2;go_roundw
          case rel => exact ⟨m + 1,r + 2,by have:=HRM.out; omega,by omega,by go_num,HM.out,by first | exact hbel2 | exact hbel2.drew | exact below_drewN hbel2 _⟩
          case measure => simp [intOf]; omega
         ·have g2:(yn == xn) = false:=by simpa using h2
          clear heq h2;go_wp2
          go_quiet (fail)
          go_wp2;go_roundw
          case rel => exact ⟨m + 1,r + 2,by have:=HRM.out; omega,by omega,by go_num,HM.out,by first | exact hbel2 | exact hbel2.drew | exact below_drewN hbel2 _⟩
          case measure => simp [intOf]; omega
        ·have g1:(yk == xk) = false:=by simpa using h1
         clear heq h1;go_wp2
         go_quiet (fail)
         go_wp2;go_roundw
         case rel => exact ⟨m + 1,r + 2,by have:=HRM.out; omega,by omega,by go_num,HM.out,by first | exact hbel2 | exact hbel2.drew | exact below_drewN hbel2 _⟩
         case measure => simp [intOf]; omega
      ·obtain rfl:m = j:=by omega
       have HM:Hid (uniq V.mark (ks.take (m + 1)) = true):=zei hjk HU.out (by rw [HX.out]; exact HK.out) (by rw [HX.out]; exact HNI.out);clear hrm hkj;go_wp2;go_roundw
       case rel => exact ⟨m + 1,k + 2,by have:=HKJ.out; omega,by omega,by go_num,HM.out,hbel2⟩
       case measure => simp [intOf]; omega
   ·have hk5:(xk != 5) = true:=by simp [isKeyK] at hkey ⊢; omega
    have hk3:(xk != 3) = true:=by simp [isKeyK] at hkey ⊢; omega
    have HF:Hid (pairsOk xs = false):=by
     show _ = _; unfold pairsOk; rw [HKS.out,zgb hjk (by rw [HX.out]; simpa [V.kind] using hkey)]; rfl
    clear hkey;go_wp2;go_ret;exact ⟨by rw [<- HOK.out,HF.out]; rfl,hbel⟩
  ·obtain rfl:j = ks.length:=by omega
   clear hkj;have h1:=HU.out;rw [List.take_length] at h1
   have HF:Hid (pairsOk xs = (decide (xs.length % 2 = 0) && decide (xs.length <= 300))):=by
    show _ = _; unfold pairsOk; rw [HKS.out,h1]; rfl
   clear h1;by_cases he:xs.length % 2 = 0
   ·have he':((xs.length:Int) % 2 == 0) = true:=by simp; omega
    rw [decide_eq_true he] at HF;clear he;go_wp2;go_ret;exact ⟨by rw [<- HOK.out,HF.out]; go_num,hbel⟩
   ·have he':((xs.length:Int) % 2 == 0) = false:=by simp; omega
    rw [decide_eq_false he] at HF;clear he;go_wp2;go_ret;exact ⟨by rw [<- HOK.out,HF.out]; rfl,hbel⟩
end Go.Proofs.YtanlnhkagepniaaGreatDoor
/- When a value is right but for its kids: the reference's l02Own. -/
namespace Go.Proofs.YtanlnhkagepniaaGreatDoor
open Go.RowKit
open Go.Lib (validD)
theorem isE (s:List UInt8):s.isEmpty = decide (s = []):=by cases s <;> simp
theorem len0 (l:List V):((l.length:Int) == 0) = decide (l = []):=by
 cases l with
 | nil => rfl
 | cons a r => simp; omega
theorem len1 (l:List V):((l.length:Int) == 1) = decide (l.length = 1):=by rw [Bool.eq_iff_iff]; simp; omega
set_option maxHeartbeats 400000 in
theorem zgd (n e:Int) (w:World) (hn:i64ok n) (he:-1000 <= e /\ e <= 1000) :
  Calls Tryz.prog 219 #[.int .i64 n,.int .i64 e] w fun r w' => r = .returned (.bool (decide (0 < e) && fitsN e.toNat n)) /\ w = w':=by
 by_cases h:0 < e
 ·obtain ⟨k,rfl⟩:∃ k:Nat,e = k:=⟨e.toNat,by omega⟩
  refine (zga n k w hn (by omega)).mono ?_;rintro r w' ⟨rfl,rfl⟩;exact ⟨zaB (by rw [decide_eq_true (show 0 < k by omega),decide_eq_true h]; rfl),rfl⟩
 ·have H:=Lib.hid (show (decide (0 < e) && fitsN e.toNat n) = false by rw [decide_eq_false h]; rfl)
  have h2:¬ (0:Int) < e:=h
  go_enter Tryz.func219,Tryz.ntmps219
  go_wp2
  go_loopw [5] (fun i wr => i = .int .i64 0 /\ w = wr) (fun _ _ => 0)
  case atStart => exact ⟨rfl,rfl⟩
  case round =>
   obtain ⟨rfl,rfl⟩:=hrel;go_wp2;go_ret;exact ⟨by rw [H.out]; simp <;> omega,rfl⟩
set_option maxHeartbeats 4000000 in
set_option maxRecDepth 10000 in
theorem l02Own_any (x:V) (cs:List Value) (w:World) (h:Rd w x.d cs) (hwf:x.wf) (hbk:x.bulk <= 4294967295) :
  Calls Tryz.prog 188 #[.agg cs.toArray] w fun e w' => e = .returned (.bool x.self) /\ Below w.heap.size w w':=by
 obtain ⟨k,n,e,s,kids,v1,rfl,rfl,hkids⟩:=V.lay h;have hP:=Lib.hid (fun w1 (hb:Below w.heap.size w w1) => zgc kids v1 w1 (hkids.below hb) (by simp only [V.bulk] at hbk; omega));obtain ⟨a1,c1,rfl⟩:=Rd.sl_form hkids;rw [V.ds_map,List.length_map] at hP ⊢;have hsl:s.length <= 4294967295:=by simp only [V.bulk] at hbk; omega
 have hkl:kids.length <= 4294967295:=by simp only [V.bulk] at hbk; omega
 obtain ⟨hk,hn,he,_,_,_⟩:=hwf;obtain ⟨ok,hok⟩:∃ ok,V.self (.mk k n e s kids) = ok:=⟨_,rfl⟩;rw [hok];have hA:=(Below.refl w.heap.size w).alloc (Nat.le_refl _) (.cells #[.int .i64 k,.int .i64 n,.int .i64 e,.string ⟨s.toArray⟩,.slice a1 kids.length c1] 41);clear h hkids hbk;have HOK:=Lib.hid hok; clear hok
 have HA:=Lib.hid hA; clear hA; have hW0:=Lib.hid hn; clear hW0
 by_cases q7:k = 7
 ·subst q7
  go_enter Tryz.func188,Tryz.ntmps188
  go_wp2
  go_quiet (fail)
  go_wp2
  all_goals (go_ret; refine ⟨zaB ?_,by first | exact below_drewN ((Below.refl _ _).alloc (Nat.le_refl _) _) _ | exact zan (below_drewN ((Below.refl _ _).alloc (Nat.le_refl _) _) _) (by assumption) (by first | exact Nat.le_refl _ | simp)⟩; rw [<- HOK.out]; simp_all [V.self,V.selfBy,isE] <;> (intros; omega))
 by_cases q0:k = 0
 ·subst q0
  go_enter Tryz.func188,Tryz.ntmps188
  go_wp2
  go_quiet (fail)
  go_wp2
  all_goals (go_ret; refine ⟨zaB ?_,by first | exact below_drewN ((Below.refl _ _).alloc (Nat.le_refl _) _) _ | exact zan (below_drewN ((Below.refl _ _).alloc (Nat.le_refl _) _) _) (by assumption) (by first | exact Nat.le_refl _ | simp)⟩; rw [<- HOK.out]; simp_all [V.self,V.selfBy,len0] <;> (intros; omega))
 by_cases q1:k = 1
 ·subst q1
  go_enter Tryz.func188,Tryz.ntmps188
  go_wp2
  go_quiet (fail)
  go_wp2
  all_goals (go_ret; refine ⟨zaB ?_,by first | exact below_drewN ((Below.refl _ _).alloc (Nat.le_refl _) _) _ | exact zan (below_drewN ((Below.refl _ _).alloc (Nat.le_refl _) _) _) (by assumption) (by first | exact Nat.le_refl _ | simp)⟩; rw [<- HOK.out]; simp_all [V.self,V.selfBy,len0] <;> (intros; omega))
 by_cases q2:k = 2
 ·subst q2
  go_enter Tryz.func188,Tryz.ntmps188
  go_wp2
  go_quiet (fail)
  go_wp2
  all_goals (go_ret; refine ⟨zaB ?_,by first | exact below_drewN ((Below.refl _ _).alloc (Nat.le_refl _) _) _ | exact zan (below_drewN ((Below.refl _ _).alloc (Nat.le_refl _) _) _) (by assumption) (by first | exact Nat.le_refl _ | simp)⟩; rw [<- HOK.out]; simp_all [V.self,V.selfBy,len0] <;> (intros; omega))
 by_cases q3:k = 3
 ·subst q3
  go_enter Tryz.func188,Tryz.ntmps188
  go_wp2
  go_quiet (fail)
  go_wp2
  all_goals (go_ret; refine ⟨zaB ?_,by first | exact below_drewN ((Below.refl _ _).alloc (Nat.le_refl _) _) _ | exact zan (below_drewN ((Below.refl _ _).alloc (Nat.le_refl _) _) _) (by assumption) (by first | exact Nat.le_refl _ | simp)⟩; rw [<- HOK.out]; simp_all [V.self,V.selfBy,len0] <;> (intros; omega))
 by_cases q6:k = 6
 ·subst q6
  by_cases hs2:s.length <= 2000
  ·skip
   go_enter Tryz.func188,Tryz.ntmps188
   go_wp2
   go_quiet (fail)
   go_wp2
   all_goals (go_ret; refine ⟨zaB ?_,by first | exact below_drewN ((Below.refl _ _).alloc (Nat.le_refl _) _) _ | exact zan (below_drewN ((Below.refl _ _).alloc (Nat.le_refl _) _) _) (by assumption) (by first | exact Nat.le_refl _ | simp)⟩; rw [<- HOK.out]; simp_all [V.self,V.selfBy,len0] <;> (intros; omega))
  ·skip
   go_enter Tryz.func188,Tryz.ntmps188
   go_wp2
   go_quiet (fail)
   go_wp2
   all_goals (go_ret; refine ⟨zaB ?_,by first | exact below_drewN ((Below.refl _ _).alloc (Nat.le_refl _) _) _ | exact zan (below_drewN ((Below.refl _ _).alloc (Nat.le_refl _) _) _) (by assumption) (by first | exact Nat.le_refl _ | simp)⟩; rw [<- HOK.out]; simp_all [V.self,V.selfBy] <;> (intros; omega))
 by_cases q5:k = 5
 ·subst q5
  by_cases hs2:s.length <= 2000
  ·skip
   go_enter Tryz.func188,Tryz.ntmps188
   go_wp2
   go_quiet (fail)
   go_wp2_with (go_at_call 162; refine (zcS s _ hsl).mono ?_; rintro e1 w1 ⟨rfl,hb1⟩; have f3:w1.cell? ⟨w.heap.size,3,none⟩ = some (.string ⟨s.toArray⟩):=(by rw [(zaY hb1).1 _ _ (by simp)]; simp [go_sem]); have f4:w1.cell? ⟨w.heap.size,4,none⟩ = some (.slice a1 kids.length c1):=(by rw [(zaY hb1).1 _ _ (by simp)]; simp [go_sem]))
   all_goals (go_ret; refine ⟨zaB ?_,by first | exact below_drewN ((Below.refl _ _).alloc (Nat.le_refl _) _) _ | exact zan (below_drewN ((Below.refl _ _).alloc (Nat.le_refl _) _) _) (by assumption) (by first | exact Nat.le_refl _ | simp)⟩; rw [<- HOK.out]; simp_all [V.self,V.selfBy,len0] <;> (intros; omega))
  ·skip
   go_enter Tryz.func188,Tryz.ntmps188
   go_wp2
   go_quiet (fail)
   go_wp2_with (go_at_call 162; refine (zcS s _ hsl).mono ?_; rintro e1 w1 ⟨rfl,hb1⟩; have f3:w1.cell? ⟨w.heap.size,3,none⟩ = some (.string ⟨s.toArray⟩):=(by rw [(zaY hb1).1 _ _ (by simp)]; simp [go_sem]); have f4:w1.cell? ⟨w.heap.size,4,none⟩ = some (.slice a1 kids.length c1):=(by rw [(zaY hb1).1 _ _ (by simp)]; simp [go_sem]))
   all_goals (go_ret; refine ⟨zaB ?_,by first | exact below_drewN ((Below.refl _ _).alloc (Nat.le_refl _) _) _ | exact zan (below_drewN ((Below.refl _ _).alloc (Nat.le_refl _) _) _) (by assumption) (by first | exact Nat.le_refl _ | simp)⟩; rw [<- HOK.out]; simp_all [V.self,V.selfBy] <;> (intros; omega))
 by_cases q8:k = 8
 ·subst q8
  go_enter Tryz.func188,Tryz.ntmps188
  go_wp2
  go_quiet (fail)
  go_wp2_with (go_at_call 220; refine (hP.out _ (below_drewN ((Below.refl _ _).alloc (Nat.le_refl _) _) _)).mono ?_; rintro e1 w1 ⟨rfl,hb1⟩)
  all_goals (go_ret; refine ⟨zaB ?_,by first | exact below_drewN ((Below.refl _ _).alloc (Nat.le_refl _) _) _ | exact zan (below_drewN ((Below.refl _ _).alloc (Nat.le_refl _) _) _) (by assumption) (by first | exact Nat.le_refl _ | simp)⟩; rw [<- HOK.out]; simp_all [V.self,V.selfBy] <;> (intros; omega))
 by_cases q9:k = 9
 ·subst q9
  go_enter Tryz.func188,Tryz.ntmps188
  go_wp2
  go_quiet (fail)
  go_wp2_with (go_at_call 103; refine (zaM _ _ _ _).mono ?_; rintro e1 w1 ⟨rfl,rfl⟩)
  all_goals (go_ret; refine ⟨zaB ?_,by first | exact below_drewN ((Below.refl _ _).alloc (Nat.le_refl _) _) _ | exact zan (below_drewN ((Below.refl _ _).alloc (Nat.le_refl _) _) _) (by assumption) (by first | exact Nat.le_refl _ | simp)⟩; rw [<- HOK.out]; simp_all [V.self,V.selfBy,len1] <;> (intros; omega))
 by_cases q4:k = 4
 ·subst q4
  by_cases g1:Int.tmod n 10 = 0
  ·have g1':(Int.tmod n 10 != 0) = false:=by simpa using g1
   have H:=Lib.hid (show ok = false by rw [<- HOK.out]; simp [V.self,V.selfBy,decOk,g1])
   go_enter Tryz.func188,Tryz.ntmps188
   go_wp2
   go_quiet (fail)
   go_wp2;go_ret;exact ⟨by rw [H.out]; rfl,below_drewN ((Below.refl _ _).alloc (Nat.le_refl _) _) _⟩
  ·have g1':(Int.tmod n 10 != 0) = true:=by simpa using g1
   by_cases g2:-20 <= e /\ e <= 20
   ·by_cases g3:e = 0
    ·subst g3
     have H:=Lib.hid (show ok = false by rw [<- HOK.out]; simp [V.self,V.selfBy,decOk])
     go_enter Tryz.func188,Tryz.ntmps188
     go_wp2
     go_quiet (fail)
     go_wp2_with (go_at_call 103; refine (zaM _ _ _ _).mono ?_; rintro e1 w1 ⟨rfl,rfl⟩)
     all_goals (go_ret; exact ⟨by rw [H.out]; rfl,below_drewN ((Below.refl _ _).alloc (Nat.le_refl _) _) _⟩)
    ·have g3':(e == 0) = false:=by simpa using g3
     by_cases g4:-999999999999999999 <= n /\ n <= 999999999999999999
     ·by_cases g5:s = []
      ·subst g5
       by_cases g6:kids = []
       ·subst g6
        have H:=Lib.hid (show ok = !(decide (0 < e) && fitsN e.toNat n) by rw [<- HOK.out]; simp [V.self,V.selfBy,decOk,zaG g2,zaG g4,g1,g3])
        go_enter Tryz.func188,Tryz.ntmps188
        go_wp2
        go_quiet (fail)
        go_wp2_with (first | (go_at_call 103; refine (zaM _ _ _ _).mono ?_; rintro e1 w1 ⟨rfl,rfl⟩; first | rw [zaG g2] | rw [zaG g4]) | (go_at_call 219; refine (zgd n e _ hn (by omega)).mono ?_; rintro e1 w1 ⟨rfl,rfl⟩))
        go_ret;exact ⟨by rw [H.out]; simp,below_drewN ((Below.refl _ _).alloc (Nat.le_refl _) _) _⟩
       ·have H:=Lib.hid (show ok = false by rw [<- HOK.out]; simp [V.self,V.selfBy,g6])
        have g6':((kids.length:Int) == 0) = false:=by rw [len0,decide_eq_false g6]
        go_enter Tryz.func188,Tryz.ntmps188
        go_wp2
        go_quiet (fail)
        go_wp2_with (first | (go_at_call 103; refine (zaM _ _ _ _).mono ?_; rintro e1 w1 ⟨rfl,rfl⟩; first | rw [zaG g2] | rw [zaG g4]))
        go_ret;exact ⟨by rw [H.out]; rfl,below_drewN ((Below.refl _ _).alloc (Nat.le_refl _) _) _⟩
      ·have H:=Lib.hid (show ok = false by rw [<- HOK.out]; simp [V.self,V.selfBy,g5])
       have g5':s.isEmpty = false:=by rw [isE,decide_eq_false g5]
       go_enter Tryz.func188,Tryz.ntmps188
       go_wp2
       go_quiet (fail)
       go_wp2_with (first | (go_at_call 103; refine (zaM _ _ _ _).mono ?_; rintro e1 w1 ⟨rfl,rfl⟩; first | rw [zaG g2] | rw [zaG g4]))
       go_ret;exact ⟨by rw [H.out]; rfl,below_drewN ((Below.refl _ _).alloc (Nat.le_refl _) _) _⟩
     ·have H:=Lib.hid (show ok = false by rw [<- HOK.out]; simp [V.self,V.selfBy,decOk,zba g4])
      go_enter Tryz.func188,Tryz.ntmps188
      go_wp2
      go_quiet (fail)
      go_wp2_with (first | (go_at_call 103; refine (zaM _ _ _ _).mono ?_; rintro e1 w1 ⟨rfl,rfl⟩; first | rw [zba g4] | rw [zaG g2]))
      go_ret;exact ⟨by rw [H.out]; rfl,below_drewN ((Below.refl _ _).alloc (Nat.le_refl _) _) _⟩
   ·have H:=Lib.hid (show ok = false by rw [<- HOK.out]; simp [V.self,V.selfBy,decOk,zba g2])
    have H2:=Lib.hid (zba g2)
    go_enter Tryz.func188,Tryz.ntmps188
    go_wp2
    go_quiet (fail)
    go_wp2_with (go_at_call 103; refine (zaM _ _ _ _).mono ?_; rintro e1 w1 ⟨rfl,rfl⟩; try rw [H2.out])
    all_goals (go_ret; exact ⟨by rw [H.out]; rfl,below_drewN ((Below.refl _ _).alloc (Nat.le_refl _) _) _⟩)
 have H:=Lib.hid (show ok = false by rw [<- HOK.out]; simp [V.self,V.selfBy,q0,q1,q2,q3,q4,q5,q6,q7,q8,q9])
 go_enter Tryz.func188,Tryz.ntmps188
 go_wp2
 go_quiet (fail)
 go_wp2
 all_goals (go_ret; exact ⟨by rw [H.out]; rfl,below_drewN ((Below.refl _ _).alloc (Nat.le_refl _) _) _⟩)
end Go.Proofs.YtanlnhkagepniaaGreatDoor
/- When a value is right: the reference's l02Right, Nodes and ValueOk. -/
namespace Go.Proofs.YtanlnhkagepniaaGreatDoor
open Go.RowKit
def VRtA (n:Nat):Prop:=∀ (x:V) (cs:List Value) (d:Int) (w:World),x.nodes <= n -> Rd w x.d cs -> x.wf -> x.bulk <= 4294967295 -> -1000 <= d -> d <= 1000 ->
 Calls Tryz.prog 141 #[.agg cs.toArray,.int .i64 d] w fun e w' => e = .returned (.bool (V.rightBy pairsOk d x)) /\ Below w.heap.size w w'
theorem V.rights_false {q:List V -> Bool} {d:Int} {xs:List V} (k:Nat) (hk:k < xs.length) (h:V.rightBy q d xs[k] = false):V.rightsBy q d xs = false:=by
 rw [V.rightsBy_all]; apply Bool.eq_false_iff.2; intro hh
 rw [List.all_eq_true] at hh
 have:=hh xs[k] (List.getElem_mem hk); rw [h] at this; cases this
theorem V.rights_snoc {q:List V -> Bool} {d:Int} {xs:List V} (k:Nat) (hk:k < xs.length) (h:V.rightsBy q d (xs.take k) = true) (h2:V.rightBy q d xs[k] = true):V.rightsBy q d (xs.take (k + 1)) = true:=by
 rw [List.take_succ_eq_append_getElem hk,V.rightsBy_all,List.all_append]; rw [V.rightsBy_all] at h; rw [h]; simp [h2]
theorem V.nodes_split (xs:List V) (k:Nat) (hk:k < xs.length):V.nodess (xs.take (k + 1)) = V.nodess (xs.take k) + xs[k].nodes:=by
 rw [List.take_succ_eq_append_getElem hk]
 have hn:∀ (ls:List V) (x:V),V.nodess (ls ++ [x]) = V.nodess ls + x.nodes:=by
  intro ls x; induction ls with
  | nil => simp [V.nodess]
  | cons a ls ih => simp only [List.cons_append,V.nodess,ih]; omega
 exact hn _ _
theorem V.nodess_take:∀ (xs:List V) (k:Nat),V.nodess (xs.take k) <= V.nodess xs
 | [],k => by simp [V.nodess]
 | x :: xs,0 => by simp [V.nodess]
 | x :: xs,k + 1 => by have:=V.nodess_take xs k; simp only [List.take_succ_cons,V.nodess]; omega
mutual
theorem V.nodes_bulk:∀ x:V,x.nodes <= x.bulk + 1
 | .mk _ _ _ s kids => by have:=V.nodess_bulks kids; simp only [V.nodes,V.bulk]; omega
theorem V.nodess_bulks:∀ xs:List V,V.nodess xs <= xs.length + V.bulks xs
 | [] => by simp [V.nodess]
 | x :: xs => by have:=V.nodes_bulk x; have:=V.nodess_bulks xs; simp only [V.nodess,V.bulks,List.length_cons]; omega
end
theorem V.bulk_get' {ls:List V} {m:Nat} (h:ls.length + V.bulks ls <= m) (k:Nat) (hk:k < ls.length):ls[k].bulk <= m:=by
 have h1:=V.bulks_snoc ls k hk; have h2:=V.bulks_take ls (k + 1); omega
set_option maxHeartbeats 2000000 in
set_option maxRecDepth 10000 in
theorem VRtA_of {n:Nat} (hA:VRtA n):VRtA (n + 1):=by
 intro x cs d w hn h hwf hbk hd1 hd2;have HO:=Lib.hid (fun w1 (hb:Below w.heap.size w w1) => l02Own_any x cs w1 (h.below hb) hwf hbk);obtain ⟨k,m,e,s,kids,v1,rfl,rfl,hkids⟩:=V.lay h;have hnk:V.nodess kids <= n:=by simp only [V.nodes] at hn; omega
 have hkw:V.wfs kids:=hwf.2.2.2.2.2;have hkb:kids.length + V.bulks kids <= 4294967295:=by simp only [V.bulk] at hbk; omega
 obtain ⟨a2,c2,rfl,hg⟩:=hkids.values;obtain ⟨ok,hok⟩:∃ ok,V.rightBy pairsOk d (.mk k m e s kids) = ok:=⟨_,rfl⟩;rw [hok];have HOK:=Lib.hid hok; clear hok
 obtain ⟨W0,hW0⟩:∃ W0,W0 = w.alloc (.cells #[.int .i64 k,.int .i64 m,.int .i64 e,.string ⟨s.toArray⟩,.slice a2 kids.length c2] 41):=⟨_,rfl⟩;have HW:=Lib.hid hW0;have hA0:Below w.heap.size w W0:=by rw [hW0]; exact (Below.refl _ _).alloc (Nat.le_refl _) _
 have hz:w.heap.size < W0.heap.size:=by rw [hW0]; simp
 have KB:Hid (∀ W,Below W0.heap.size W0 W -> W.cell? ⟨w.heap.size,0,none⟩ = some (.int .i64 k) /\ W.cell? ⟨w.heap.size,1,none⟩ = some (.int .i64 m) /\ W.cell? ⟨w.heap.size,2,none⟩ = some (.int .i64 e) /\ W.cell? ⟨w.heap.size,3,none⟩ = some (.string ⟨s.toArray⟩) /\ W.cell? ⟨w.heap.size,4,none⟩ = some (.slice a2 kids.length c2)):=by
  intro W hb;obtain ⟨hc,_⟩:=zaY hb;simp only [hc _ _ hz]; subst hW0; simp
 clear hW0 h hkids hwf hbk;obtain ⟨f0,f1,f2,f3,f4⟩:=KB.out _ (Below.refl _ _);by_cases hd0:d < 0
 ·have HF:=Lib.hid (show ok = false by rw [<- HOK.out]; simp only [V.rightBy]; rw [decide_eq_false (show ¬ 0 <= d by omega)]; simp)
  go_enter Tryz.func141,Tryz.ntmps141
  go_wp2;rw [<- HW.out];go_ret;exact ⟨by rw [HF.out]; rfl,hA0⟩
 have D0:=Lib.hid (decide_eq_true (show 0 <= d by omega))
 cases hs:V.self (.mk k m e s kids) with
 | false =>
  have HS:=Lib.hid hs;have HF:=Lib.hid (show ok = false by rw [<- HOK.out]; simp only [V.rightBy]; rw [show V.selfBy pairsOk (.mk k m e s kids) = false from hs]; simp);clear hs
  go_enter Tryz.func141,Tryz.ntmps141
  go_wp2_with (go_at_call 188; rw [<- HW.out]; refine (HO.out _ hA0).mono ?_; rw [HS.out]; rintro e w1 ⟨rfl,hb1⟩)
  go_ret
  exact ⟨by rw [HF.out]; rfl,zan hA0 hb1 (Nat.le_refl _)⟩
 | true =>
 have HS:=Lib.hid hs;have HF0:=Lib.hid (show ok = V.rightsBy pairsOk (d - 1) kids by rw [<- HOK.out]; simp only [V.rightBy]; rw [show V.selfBy pairsOk (.mk k m e s kids) = true from hs,D0.out]; simp);clear hs
 go_enter Tryz.func141,Tryz.ntmps141
 go_wp2_with (go_at_call 188; rw [<- HW.out]; refine (HO.out _ hA0).mono ?_; rw [HS.out]; rintro e w1 ⟨rfl,hb1⟩)
 go_loopw [5] (fun i wr => ∃ (j:Nat),j <= kids.length /\ i = .int .i64 j /\ V.rightsBy pairsOk (d - 1) (kids.take j) = true /\ Below W0.heap.size W0 wr) (fun i _ => kids.length - (intOf i).toNat)
 case atStart => exact ⟨0,Nat.zero_le _,rfl,by simp [V.rightsBy],hb1⟩
 case round =>
  obtain ⟨j,hj,rfl,hr,hbel⟩:=hrel;have HR:=Lib.hid hr; clear hr f0 f1 f2 f3 f4
  obtain ⟨f0,f1,f2,f3,f4⟩:=KB.out _ hbel;have hbw:=zan hA0 hbel (Nat.le_refl _);by_cases hlt:j < kids.length
  ·obtain ⟨_,_,b,o,rfl,hb,hcell⟩:=hg (by intro e; rw [e] at hlt; simp at hlt)
   obtain ⟨v0,v1,v2,v3,v4,hr,d0,d1,d2,d3,d4⟩:=hcell j hlt;clear hcell hg;obtain ⟨k1,k2,k3,s4,a6,n6,m6,hcs⟩:=V.form hr;simp only [List.cons.injEq,and_true] at hcs;obtain ⟨rfl,rfl,rfl,rfl,rfl⟩:=hcs;have hbc:=(zaY hbw).1;rw [<- hbc _ _ hb] at d0 d1 d2 d3 d4;clear hbc;have hi1:(0:Int) <= j:=by omega
   have hi3:(j:Int) < kids.length:=by omega
   have hn1:=V.nodes_get kids j hlt;have HC:=Lib.hid (hA kids[j] _ (d - 1) wr (Nat.le_trans hn1 hnk) (hr.below hbw) (V.wfs_get hkw j hlt) (V.bulk_get' hkb j hlt) (by omega) (by omega))
   cases hv:V.rightBy pairsOk (d - 1) kids[j] with
   | true =>
    have HV:=Lib.hid hv;have HS2:=Lib.hid (V.rights_snoc j hlt HR.out hv);clear hv
    go_wp2_with (go_at_call 141; refine HC.out.mono ?_; rw [HV.out]; rintro e w2 ⟨rfl,hb2⟩)
    go_roundw
    case rel => exact ⟨j + 1,by omega,by go_num,HS2.out,zan hbel hb2 (Nat.le_refl _)⟩
    case measure => simp [intOf]; omega
   | false =>
    have HV:=Lib.hid hv;have HF:=Lib.hid (show ok = false by rw [HF0.out]; exact V.rights_false j hlt hv);clear hv
    go_wp2_with (go_at_call 141; refine HC.out.mono ?_; rw [HV.out]; rintro e w2 ⟨rfl,hb2⟩)
    go_ret;exact ⟨by rw [HF.out]; rfl,zan hbw hb2 (Nat.le_refl _)⟩
  ·obtain rfl:j = kids.length:=by omega
   have h1:=HR.out;rw [List.take_length] at h1;have HF:=Lib.hid (show ok = true by rw [HF0.out]; exact h1);clear h1;go_wp2;go_ret;exact ⟨by rw [HF.out]; rfl,hbw⟩
theorem VRt_all:∀ n,VRtA n
 | 0 => fun x cs d w hn => absurd x.nodes_pos (by omega)
 | n + 1 => VRtA_of (VRt_all n)
def VMnA (n:Nat):Prop:=∀ (x:V) (cs:List Value) (w:World),x.nodes <= n -> Rd w x.d cs -> x.bulk <= 4294967295 ->
 Calls Tryz.prog 142 #[.agg cs.toArray] w fun e w' => e = .returned (.int .i64 (x.nodes:Nat)) /\ Below w.heap.size w w'
set_option maxHeartbeats 2000000 in
set_option maxRecDepth 10000 in
theorem VMnA_of {n:Nat} (hA:VMnA n):VMnA (n + 1):=by
 intro x cs w hn h hbk;obtain ⟨k,m,e,s,kids,v1,rfl,rfl,hkids⟩:=V.lay h;have hnk:V.nodess kids <= n:=by simp only [V.nodes] at hn; omega
 have hkb:kids.length + V.bulks kids <= 4294967295:=by simp only [V.bulk] at hbk; omega
 have hnb:=V.nodess_bulks kids;obtain ⟨a2,c2,rfl,hg⟩:=hkids.values;obtain ⟨W0,hW0⟩:∃ W0,W0 = w.alloc (.cells #[.int .i64 k,.int .i64 m,.int .i64 e,.string ⟨s.toArray⟩,.slice a2 kids.length c2] 41):=⟨_,rfl⟩;have HW:=Lib.hid hW0;have hA0:Below w.heap.size w W0:=by rw [hW0]; exact (Below.refl _ _).alloc (Nat.le_refl _) _
 have hz:w.heap.size < W0.heap.size:=by rw [hW0]; simp
 have KB:Hid (∀ W,Below W0.heap.size W0 W -> W.cell? ⟨w.heap.size,4,none⟩ = some (.slice a2 kids.length c2)):=by
  intro W hb;obtain ⟨hc,_⟩:=zaY hb;simp only [hc _ _ hz]; subst hW0; simp
 clear hW0 h hkids hbk
 go_enter Tryz.func142,Tryz.ntmps142
 go_wp2;rw [<- HW.out]
 go_loopw [3,4] (fun x i wr => ∃ (j:Nat),j <= kids.length /\ i = .int .i64 j /\ x = .int .i64 (1 + V.nodess (kids.take j):Nat) /\ Below W0.heap.size W0 wr) (fun _ i _ => kids.length - (intOf i).toNat)
 case atStart => exact ⟨0,Nat.zero_le _,rfl,by simp [V.nodess],Below.refl _ _⟩
 case round =>
  obtain ⟨j,hj,rfl,rfl,hbel⟩:=hrel;have f5:=KB.out _ hbel;have hbw:=zan hA0 hbel (Nat.le_refl _);by_cases hlt:j < kids.length
  ·obtain ⟨_,_,b,o,rfl,hb,hcell⟩:=hg (by intro e; rw [e] at hlt; simp at hlt)
   obtain ⟨v0,v1,v2,v3,v4,hr,d0,d1,d2,d3,d4⟩:=hcell j hlt;clear hcell hg;obtain ⟨k1,k2,k3,s4,a6,n6,m6,hcs⟩:=V.form hr;simp only [List.cons.injEq,and_true] at hcs;obtain ⟨rfl,rfl,rfl,rfl,rfl⟩:=hcs;have hbc:=(zaY hbw).1;rw [<- hbc _ _ hb] at d0 d1 d2 d3 d4;clear hbc;have hi1:(0:Int) <= j:=by omega
   have hi3:(j:Int) < kids.length:=by omega
   have hn1:=V.nodes_get kids j hlt;have HC:=Lib.hid (hA kids[j] _ wr (Nat.le_trans hn1 hnk) (hr.below hbw) (V.bulk_get' hkb j hlt));have HS:=Lib.hid (V.nodes_split kids j hlt);have ht1:=V.nodess_take kids j;obtain ⟨q,hq⟩:∃ q,V.nodess (kids.take j) = q:=⟨_,rfl⟩;rw [hq] at HS ht1 ⊢;clear hq;obtain ⟨p,hp⟩:∃ p,kids[j].nodes = p:=⟨_,rfl⟩;rw [hp] at HS hn1 HC;clear hp
   go_wp2_with (go_at_call 142; refine HC.out.mono ?_; rintro e w1 ⟨rfl,hb1⟩)
   go_roundw
   case rel => exact ⟨j + 1,by omega,by go_num,by rw [HS.out]; go_num,zan hbel hb1 (Nat.le_refl _)⟩
   case measure => simp [intOf]; omega
  ·obtain rfl:j = kids.length:=by omega
   rw [List.take_length];go_wp2;go_ret;exact ⟨rfl,hbw⟩
theorem VMn_all:∀ n,VMnA n
 | 0 => fun x cs w hn => absurd x.nodes_pos (by omega)
 | n + 1 => VMnA_of (VMn_all n)
set_option maxHeartbeats 400000 in
set_option maxRecDepth 10000 in
theorem zge (x:V) (cs:List Value) (w:World) (h:Rd w x.d cs) (hwf:x.wf) (hbk:x.bulk <= 4294967295) :
  Calls Tryz.prog 84 #[.agg cs.toArray] w fun e w' => e = .returned (.bool x.ok) /\ Below w.heap.size w w':=by
 obtain ⟨k,m,e,s,a2,n2,c2,rfl⟩:=V.form h;obtain ⟨W0,hW0⟩:∃ W0,W0 = w.alloc (.cells #[.int .i64 k,.int .i64 m,.int .i64 e,.string ⟨s.toArray⟩,.slice a2 n2 c2] 41):=⟨_,rfl⟩;have HW:=Lib.hid hW0;have hA:Below w.heap.size w W0:=by rw [hW0]; exact (Below.refl _ _).alloc (Nat.le_refl _) _
 have hz:w.heap.size < W0.heap.size:=by rw [hW0]; simp
 have KB:Hid (∀ W,Below W0.heap.size W0 W -> W.cell? ⟨w.heap.size,0,none⟩ = some (.int .i64 k) /\ W.cell? ⟨w.heap.size,1,none⟩ = some (.int .i64 m) /\ W.cell? ⟨w.heap.size,2,none⟩ = some (.int .i64 e) /\ W.cell? ⟨w.heap.size,3,none⟩ = some (.string ⟨s.toArray⟩) /\ W.cell? ⟨w.heap.size,4,none⟩ = some (.slice a2 n2 c2)):=by
  intro W hb;obtain ⟨hc,_⟩:=zaY hb;simp only [hc _ _ hz]; subst hW0; simp
 have hnb:=x.nodes_bulk;have HR:=Lib.hid (fun W (hb:Below W0.heap.size W0 W) => VRt_all x.nodes x _ 12 W (Nat.le_refl _) (h.below (zan hA hb (Nat.le_refl _))) hwf hbk (by decide) (by decide));have HM:=Lib.hid (fun W (hb:Below W0.heap.size W0 W) => VMn_all x.nodes x _ W (Nat.le_refl _) (h.below (zan hA hb (Nat.le_refl _))) hbk);have hB:=Below.refl W0.heap.size W0;clear hW0 h
 go_enter Tryz.func84,Tryz.ntmps84
 cases hr:V.rightBy pairsOk 12 x with
 | true =>
  have HV:=Lib.hid hr; clear hr
  go_wp2_with (first | (go_at_call 141; rw [<- HW.out]; refine (HR.out _ hB).mono ?_; rw [HV.out]; rintro e w1 ⟨rfl,hb1⟩; obtain ⟨p0,p1,p2,p3,p4⟩:=KB.out _ hb1) | (go_at_call 142; refine (HM.out _ hb1).mono ?_; rintro e w2 ⟨rfl,hb2⟩))
  go_ret;refine ⟨zaB ?_,zan hA (zan hb1 hb2 (Nat.le_refl _)) (Nat.le_refl _)⟩
  unfold V.ok; rw [HV.out,Bool.true_and,Bool.eq_iff_iff]; simp; omega
 | false =>
  have HV:=Lib.hid hr; clear hr
  go_wp2_with (first | (go_at_call 141; rw [<- HW.out]; refine (HR.out _ hB).mono ?_; rw [HV.out]; rintro e w1 ⟨rfl,hb1⟩))
  go_ret;refine ⟨zaB ?_,zan hA hb1 (Nat.le_refl _)⟩;unfold V.ok; rw [HV.out]; rfl
end Go.Proofs.YtanlnhkagepniaaGreatDoor
namespace Go.Proofs.YtanlnhkagepniaaGreatDoor
open Go.RowKit
set_option maxHeartbeats 4000000
set_option maxRecDepth 100000
open List
section
variable {T:World -> Prop} {hT:Low ngl T}
theorem vok_fn (v:V) (hw:v.wf) (hb:v.bulk <= 4294967295):FnV (env T hT) 84 [.ag (vC v)] (.d (pB v.ok)):=by
 refine FnV.old rfl fun w C vs hF _ _ hlen hv => ?_
 match vs,hlen with
 | [a],_ =>
  have h0:=hv 0 _ _ rfl rfl;rw [<- V.pc_eq] at h0;obtain ⟨cs,rfl,h1⟩:=vRd hF (V.wfd v) h0;exact zge v cs w h1 hw hb
def msgTop (v:V):L8:=if v.ok = true then msg v else []
theorem zgf (v:V) (hw:v.wf) (hb:v.bulk <= 4294967295):FnV (env T hT) 123 [.ag (vC v)] (.d (pS (msgTop v))):=by
 have hput:=fun hk => put_fn (T:=T) (hT:=hT) v hw hk
 have hvok:=vok_fn (T:=T) (hT:=hT) v hw hb;refine zaV (zak zg6) (by show 1 <= 8; decide) fun B hB => ?_
 unfold m_s_PutMsg;refine mO ?_;refine zbV rfl ?_;refine po_q rfl rfl ?_;refine zaa ?_;refine mM ?_;refine po_q rfl rfl ?_;refine zac (zc6 v) hvok ?_;refine po_q rfl rfl ?_;refine zaa ?_;unfold msgTop;by_cases hk:v.ok = true
 ·rw [if_pos hk,hk]
  refine mwF ?_;refine zaj ?_;refine mO ?_;refine po_q rfl rfl ?_;refine zac (zc6 v) (hput hk) ?_;refine po_q rfl rfl ?_;refine zaa ?_;exact mR
 ·have hk':v.ok = false:=by simpa using hk
  rw [if_neg hk,hk'];refine mwT ?_;refine mO ?_;refine po_q rfl rfl ?_;refine zaa ?_;exact mR
end
section
mutual
def PC.lw (n:Nat):PC -> Prop
 | .v _ => True
 | .bld p _ _ _ => p < n
 | .anyp => True
 | .row p _ _ => p < n
 | .sl _ es => lwLL n es
def lwL (n:Nat):List PC -> Prop
 | [] => True
 | c :: cs => PC.lw n c /\ lwL n cs
def lwLL (n:Nat):LP PC -> Prop
 | [] => True
 | l :: ls => lwL n l /\ lwLL n ls
end
mutual
def PV.lw (n:Nat):PV -> Prop
 | .d c => c.lw n
 | .ag cs => lwL n cs
 | .tup vs => lwVs n vs
 | .raw _ => True
 | .ref _ _ => False
 | .pt _ => False
 | .fn _ _ => False
def lwVs (n:Nat):List PV -> Prop
 | [] => True
 | v :: vs => PV.lw n v /\ lwVs n vs
end
theorem zfn {n:Nat}:∀ {cs:List PC} (j:Nat) (c:PC),lwL n cs -> cs[j]? = some c -> c.lw n
 | c :: cs,0,_,h,e => by simp at e; subst e; exact h.1
 | c :: cs,j + 1,_,h,e => zfn j _ h.2 (by simpa using e)
theorem zfo {n:Nat}:∀ {cs:LP PC} (j:Nat) (c:List PC),lwLL n cs -> cs[j]? = some c -> lwL n c
 | c :: cs,0,_,h,e => by simp at e; subst e; exact h.1
 | c :: cs,j + 1,_,h,e => zfo j _ h.2 (by simpa using e)
theorem zcA {n:Nat}:∀ {cs:List PV} (j:Nat) (c:PV),lwVs n cs -> cs[j]? = some c -> c.lw n
 | c :: cs,0,_,h,e => by simp at e; subst e; exact h.1
 | c :: cs,j + 1,_,h,e => zcA j _ h.2 (by simpa using e)
mutual
theorem owned_lw {n:Nat}:∀ {c:PC},c.owned = true -> c.lw n
 | .v _,_ => by simp only [PC.lw]
 | .bld _ _ _ _,ho => by simp [PC.owned] at ho
 | .anyp,_ => by simp only [PC.lw]
 | .row _ _ _,ho => by simp [PC.owned] at ho
 | .sl t es,ho => by
  simp only [PC.owned,Bool.and_eq_true,Bool.or_eq_true,decide_eq_true_eq] at ho;simp only [PC.lw]
  rcases ho.1 with h0 | h0
  ·exact ownedLL_lw ho.2
  ·rw [isEmpty_iff.1 h0]; simp only [lwLL]
theorem zaC {n:Nat}:∀ {c:List PC},ownedL c = true -> lwL n c
 | [],_ => by simp only [lwL]
 | c :: cs,ho => by
  simp only [ownedL,Bool.and_eq_true] at ho;simp only [lwL];exact ⟨owned_lw ho.1,zaC ho.2⟩
theorem ownedLL_lw {n:Nat}:∀ {c:LP PC},ownedLL c = true -> lwLL n c
 | [],_ => by simp only [lwLL]
 | c :: cs,ho => by
  simp only [ownedLL,Bool.and_eq_true] at ho;simp only [lwLL];exact ⟨zaC ho.1,ownedLL_lw ho.2⟩
end
def Cx.reb (C:Cx) (n:Nat) (f:Nat -> Nat):Cx:={ C with nb:=n,bx:=f }
theorem RpC.reb {C:Cx} {w:World} {n:Nat} {f:Nat -> Nat} {c:PC} {v:Value} (h:RpC C w c v):c.lw 0 -> RpC (C.reb n f) w c v:=by
 induction h with
 | v x h => intro _; exact .v x h
 | bld p T t U v h cs fz ht hv hU => intro hl; exact absurd hl (Nat.not_lt_zero p)
 | anyp a h => intro _; exact .anyp a h
 | row p l c h hl hc => intro hlw; exact absurd hlw (Nat.not_lt_zero p)
 | emp a c => intro _; exact .emp a c
 | nil => intro _; exact .nil
 | nilo t h2 ht hb => intro _; exact .nilo (C:=C.reb n f) t h2 ht hb
 | rd es b o k c u hl hc hr h ih =>
  intro hf;simp only [PC.lw] at hf
  exact .rd (C:=C.reb n f) es b o k c u hl hc ⟨hr.pos,hr.wid,hr.cell,hr.fix⟩ fun i j e y he hy => ih i j e y he hy (zfn j y (zfo i e hf he) hy)
 | own t es b u h2 ht hb hlen hl hc hr h ih =>
  intro hf;simp only [PC.lw] at hf;exact .own (C:=C.reb n f) t es b u h2 ht hb hlen hl hc ⟨hr.pos,hr.wid,hr.cell,hr.fix⟩ fun i j e y he hy => ih i j e y he hy (zfn j y (zfo i e hf he) hy)
theorem RpL.reb {C:Cx} {w:World} {n:Nat} {f:Nat -> Nat} {cs:List PC} {vs:List Value} (h:RpL C w cs vs) (hl:lwL 0 cs):RpL (C.reb n f) w cs vs:=⟨h.1,fun j c y h1 h2 => (h.2 j c y h1 h2).reb (zfn j c hl h1)⟩
theorem RpV.reb {C:Cx} {w:World} {n:Nat} {f:Nat -> Nat} {x:PV} {v:Value} (h:RpV C w x v):x.lw 0 -> RpV (C.reb n f) w x v:=by
 induction h with
 | d x v h => intro hl; exact .d x v (h.reb (by simpa only [PV.lw] using hl))
 | ag cs vs h => intro hl; exact .ag cs vs (h.reb (by simpa only [PV.lw] using hl))
 | tup xs vs hl _ ih => intro hf; simp only [PV.lw] at hf; exact .tup xs vs hl fun j x y h1 h2 => ih j x y h1 h2 (zcA j x hf h1)
 | ref p o h => intro hl; simp only [PV.lw] at hl
 | pt cs b o u hc hF h => intro hl; simp only [PV.lw] at hl
 | fn f xs vs hl h ih => intro hl; simp only [PV.lw] at hl
 | raw v => intro _; exact .raw v
theorem FnG.lift1 {E:Env} {f:Nat} {args:List PV} {c:List PC} {nt:Nat} {live:List Nat} {R:PV -> List PC -> Nat -> List Nat -> Prop}
  (h:FnG E f (.ref 0 0 :: args) [c] nt live (fun x b n l => ∃ c' rest,b = c' :: rest /\ x.lw 0 /\ lwL 0 c' /\ R x c' n l)) (ha:lwVs 0 args) (hc:lwL 0 c) {bx:LP PC} {p:Nat} (hp:bx[p]? = some c) :
  FnG E f (.ref p 0 :: args) bx nt live (fun x b n l => ∃ c',b = bx.set p c' /\ R x c' n l):=by
 intro C w vs hI hnt hold hn2 hlen hv
 have hplt:p < bx.length:=by
  rcases Nat.lt_or_ge p bx.length with h' | h'
  ·exact h'
  ·rw [getElem?_eq_none h'] at hp; cases hp
 have hnb:=hI.nb
 have hI1:Inv E.NG E.T (C.reb 1 fun _ => C.bx p) [c] (· ∈ live) w:=by
  refine ⟨rfl,fun q cs hq => ?_,fun q _ => hI.boxF p hplt,fun q _ => hI.boxG p hplt,fun q r hq hr _ => ?_,fun t ht => ?_,hI.tinj,hI.fin,hI.ng,hI.t⟩
  ·match q with
   | 0 =>
    simp only [getElem?_cons_zero,sI] at hq; subst hq
    obtain ⟨vs,e,h1,h2⟩:=hI.box p _ hp
    exact ⟨vs,e,h1,h2.reb hc⟩
   | q + 1 => simp at hq
  ·simp only [length_singleton] at hq hr; omega
  ·obtain ⟨a1,a2,a3⟩:=hI.tok t ht
   refine ⟨a1,a2,a3.imp id ?_⟩;rintro ⟨b,cur,e,c1,c2,c3,c4,c5,c6,c7,c8,c9,c10⟩;exact ⟨b,cur,e,c1,c2,c3,c4,c5,c6,c7,c8,c9,fun q _ => c10 p hplt⟩
 have hv1:∀ (j:Nat) (x:PV) (y:Value),(PV.ref 0 0 :: args)[j]? = some x -> vs[j]? = some y -> RpV (C.reb 1 fun _ => C.bx p) w x y:=by
  intro j x y hx hy
  match j with
  | 0 =>
   simp only [getElem?_cons_zero,sI] at hx; subst hx
   have:=hv 0 _ y rfl hy
   cases this
   exact RpV.ref (C:=C.reb 1 fun _ => C.bx p) 0 0 (by show 0 < 1; omega)
  | j + 1 =>
   rw [getElem?_cons_succ] at hx;exact (hv (j + 1) x y (by rw [getElem?_cons_succ]; exact hx) hy).reb (zcA j x ha hx)
 refine (h (C.reb 1 fun _ => C.bx p) w vs hI1 hnt hold hn2 (by simpa using hlen) hv1).mono ?_;rintro e w' ⟨u,x,b,n,l,C1,rfl,⟨c',rest,rfl,k1,k2,k3⟩,I1,hn,E1,hx⟩;have hb0:C1.bx 0 = C.bx p:=E1.bx.2 0 (by show 0 < 1; omega);have hle:CxLe C (C1.reb C.nb C.bx):=⟨E1.F,lR,fun _ _ => rfl,E1.tk.1,E1.tk.2⟩;have hF:Fix C w w':=E1.fix
 have hnotok:∀ q,q < bx.length -> ∀ t,t ∈ live -> C.tk t ≠ some (C.bx q):=by
  intro q hq t ht he;obtain ⟨_,_,⟨z,_⟩ | ⟨b,cur,e,c1,c2,c3,c4,c5,c6,c7,c8,c9,c10⟩⟩:=hI.tok t ht
  ·rw [he] at z; cases z
  ·rw [he] at c1; simp only [sI] at c1; subst c1; exact c10 q hq rfl
 have hold2:∀ t,(C.reb 1 fun _ => C.bx p).old t -> t ∈ live:=fun t ht => by
  have:C.old t:=ht
  rw [hold] at this; exact this
 refine ⟨u,x,bx.set p c',n,l,C1.reb C.nb C.bx,rfl,⟨c',rfl,k3⟩,?_,hn,?_,hx.reb k1⟩
 ·refine ⟨by rw [length_set]; exact hnb,fun q cs hq => ?_,fun q hq o hFo => ?_,by rw [length_set]; exact hI.boxG,by rw [length_set]; exact hI.inj,fun t ht => ?_,I1.tinj,I1.fin,I1.ng,I1.t⟩
  ·by_cases hqp:q = p
   ·subst hqp
    rw [getElem?_set_self hplt] at hq;simp only [sI] at hq; subst hq
    obtain ⟨vs,e,h1,h2⟩:=I1.box 0 c' rfl;rw [hb0] at h1;exact ⟨vs,e,h1,h2.reb k2⟩
   ·rw [getElem?_set_ne (fun h => hqp h.symm)] at hq
    have hqlt:q < bx.length:=by
     rcases Nat.lt_or_ge q bx.length with h' | h'
     ·exact h'
     ·rw [getElem?_eq_none h'] at hq; cases hq
    obtain ⟨vs,e,h1,h2⟩:=hI.box q cs hq;refine ⟨vs,e,(E1.block (C.bx q) (zaA h1) (fun r _ he => hqp (hI.inj q p hqlt hplt he.symm)) (fun t ht he => hnotok q hqlt t (hold2 t ht) he)).trans h1,h2.frame hle hF⟩
  ·rw [length_set] at hq
   rcases E1.newF (C.bx q) o hFo with h1 | h1 | ⟨s,h1,h2⟩
   ·exact hI.boxF q hq o h1
   ·have:=hI.lt hq; omega
   ·exact hnotok q hq s (hold2 s h1) h2
  ·obtain ⟨a1,a2,a3⟩:=I1.tok t ht
   refine ⟨a1,a2,a3.imp id ?_⟩;rintro ⟨b,cur,e,c1,c2,c3,c4,c5,c6,c7,c8,c9,c10⟩;refine ⟨b,cur,e,c1,c2,c3,c4,c5,c6,c7,c8,c9,fun q hq he => ?_⟩;rw [length_set] at hq;have he:C.bx q = b:=he
   rcases E1.newT t b ht c1 with h1 | ⟨s,h1,h2⟩
   ·have:=hI.lt hq; omega
   ·exact hnotok q hq s (hold2 s h1) (by rw [he]; exact h2)
 ·exact ⟨E1.os,E1.tape,E1.output,E1.size,E1.F,E1.fix,fun k hk hne ho => E1.block k hk (fun r _ => hne p (by omega)) ho,⟨lR,fun _ _ => rfl⟩,E1.newF,E1.newT,fun q hq hq2 => by rw [length_set] at hq2; omega,E1.tk⟩
/-! ### trees -/
theorem zat {E:Env} {K:St -> Prop} {m:MOpr} {a n:RT} {s:St} (h1:po E [m] (pt E K a) s) (h2:pt E K n s):pt E K (.alt m a n) s:=⟨h1,h2⟩
theorem zal {E:Env} {K:St -> Prop} {qs:List MOpr} {a:RT} {s:St} (h:po E qs (fun s => (a.isLeaf = true -> K s) /\ pt E K a s) s):pt E K (.node qs a) s:=h
theorem zar {E:Env} {K:St -> Prop} {s:St}:pt E K .leaf s:=trivial
theorem zaP {E:Env} {K:St -> Prop} {s:St} (h:K s):(RT.leaf.isLeaf = true -> K s) /\ pt E K .leaf s:=⟨fun _ => h,trivial⟩
theorem zas {E:Env} {K:St -> Prop} {m:MOpr} {a n:RT} {s:St} (h:pt E K (.alt m a n) s):((RT.alt m a n).isLeaf = true -> K s) /\ pt E K (.alt m a n) s:=⟨fun h => (Bool.noConfusion h:K s),h⟩
/-! ### steps -/
def MO.plain:MO -> Bool
 | .mv _ | .load .. | .fld .. | .field .. | .ext .. | .nilc _ | .not _ | .build .. | .lens _ | .b2s _ | .litq .. | .mkfn .. | .pick .. => true
 | _ => false
section
variable {E:Env} {K:St -> Prop} {tm:Nat -> PV} {bx:LP PC} {nt d:Nat} {live:List Nat} {r:List MOpr} {g:Option (Nat × Bool)} {c:List X} {o:MO} {x y:X}
theorem po_s {v:PV} (_ho:o.plain = true) (hg:gd g tm = some true) (hq:qf (ev tm) bx o = some v) (h:po E r K ⟨up d v tm,bx,nt,live⟩):po E (⟨some d,o,g,c⟩ :: r) K ⟨tm,bx,nt,live⟩:=po_q hg hq h
theorem zam {e:Bool} (hg:gd g tm = some true) (hq:qf (ev tm) bx o = some (.d (.v (.bool e)))) (he:e = false) (h:po E r K ⟨up d (.d (.v (.bool false))) tm,bx,nt,live⟩):po E (⟨some d,o,g,c⟩ :: r) K ⟨tm,bx,nt,live⟩:=by subst he; exact po_q hg hq h
theorem zai {e:Bool} (hg:gd g tm = some true) (hq:qf (ev tm) bx o = some (.d (.v (.bool e)))) (he:e = true) (h:po E r K ⟨up d (.d (.v (.bool true))) tm,bx,nt,live⟩):po E (⟨some d,o,g,c⟩ :: r) K ⟨tm,bx,nt,live⟩:=by subst he; exact po_q hg hq h
theorem zaK {t n:Nat} {es:LP PC} (hg:gd g tm = some true) (hx:ev tm x = .d (.sl t es)) (hn:es.length = n) (h:po E r K ⟨up d (.d (pI n)) tm,bx,nt,live⟩):po E (⟨some d,.len x,g,c⟩ :: r) K ⟨tm,bx,nt,live⟩:=by
 refine po_q hg ?_ h;simp only [qf,hx,hn]; rfl
theorem zbs {k kk:IntKind} {a n:Int} (hg:gd g tm = some true) (hx:ev tm x = .d (.v (.int kk a))) (hn:k.wrap a = n) (h:po E r K ⟨up d (.d (.v (.int k n))) tm,bx,nt,live⟩):po E (⟨some d,.conv k x,g,c⟩ :: r) K ⟨tm,bx,nt,live⟩:=by
 refine po_q hg ?_ h;simp only [qf,hx,hn]
theorem po_mv {v:PV} (hg:gd g tm = some true) (hx:ev tm x = v) (h:po E r K ⟨up d v tm,bx,nt,live⟩):po E (⟨some d,.mv x,g,c⟩ :: r) K ⟨tm,bx,nt,live⟩:=by
 subst hx; exact po_q hg rfl h
theorem pm {v:PV} (h:po E r K ⟨up d v tm,bx,nt,live⟩) (hg:gd g tm = some true:=by exact rfl) (hx:ev tm x = v:=by conv => lhs; whnf):po E (⟨some d,.mv x,g,c⟩ :: r) K ⟨tm,bx,nt,live⟩:=po_mv hg hx h
theorem pq {v:PV} (h:po E r K ⟨up d v tm,bx,nt,live⟩) (ho:o.plain = true:=by exact rfl) (hg:gd g tm = some true:=by exact rfl) (hq:qf (ev tm) bx o = some v:=by exact rfl):po E (⟨some d,o,g,c⟩ :: r) K ⟨tm,bx,nt,live⟩:=po_s ho hg hq h
theorem px {cs:List PC} (h:po E r K ⟨up d (.ref bx.length 0) tm,bx ++ [cs],nt,live⟩) (hq:pcells (ev tm x) = some cs:=by exact rfl):po E (⟨some d,.box x,none,[]⟩ :: r) K ⟨tm,bx,nt,live⟩:=zbV hq h
theorem zek {l:L8} {j:Int} {k:Nat} {b:UInt8} {kk:IntKind} (hg:gd g tm = some true) (hx:ev tm x = .d (pS l)) (hi:ev tm y = .d (.v (.int kk j))) (hj:j = k) (hb:l[k]? = some b) (h:po E r K ⟨up d (.d (.v (.int .u8 b.toNat))) tm,bx,nt,live⟩):po E (⟨some d,.ixs x y,g,c⟩ :: r) K ⟨tm,bx,nt,live⟩:=by
 refine po_q hg ?_ h;subst hj;simp only [qf,hx,hi,pS];rw [if_pos (by omega)];simp [hb]
theorem zbA {l rs:L8} {lo hi:Option X} {a b:Nat} (hg:gd g tm = some true) (hx:ev tm x = .d (pS l)) (hlo:bound (ev tm) 0 lo = some a) (hhi:bound (ev tm) l.length hi = some b) (hle:a <= b /\ b <= l.length) (hr:(l.drop a).take (b - a) = rs) (h:po E r K ⟨up d (.d (pS rs)) tm,bx,nt,live⟩):po E (⟨some d,.slcs x lo hi,g,c⟩ :: r) K ⟨tm,bx,nt,live⟩:=by
 refine po_q hg ?_ h;subst hr;simp only [qf,hx,pS];rw [hlo,hhi];simp only;rw [if_pos hle]
theorem zaN {e:X -> PV} {dft k:Nat} {x:X} {kk:IntKind} {i:Int} (h:e x = .d (.v (.int kk i))) (hi:i = k):bound e dft (some x) = some k:=by
 subst hi;simp only [bound,h]; rw [if_pos (by omega)]; simp
end
theorem zbe {E:Env} {B:Base} {Q:Exit -> St -> Prop} {s:St} {x:X} {a b:M} {t:Bool} {p:Prop} [Decidable p] (ht:t = decide p) (hx:ev s.tm x = .d (.v (.bool t))) (h1:p -> t = true -> mw E B a Q s) (h2:¬ p -> t = false -> mw E B b Q s):mw E B (.cond x a b) Q s :=
 zaO hx (fun h => h1 (of_decide_eq_true (ht.symm.trans h)) h) (fun h => h2 (of_decide_eq_false (ht.symm.trans h)) h)
theorem zca {E:Env} {B:Base} {Q:Exit -> St -> Prop} {s:St} {x:X} {a b:M} {p:Prop} [Decidable p] (hx:ev s.tm x = .d (.v (.bool (decide p)))) (h1:p -> mw E B a Q s) (h2:¬ p -> mw E B b Q s):mw E B (.cond x a b) Q s :=
 zaO hx (fun h => h1 (of_decide_eq_true h)) (fun h => h2 (of_decide_eq_false h))
end
section
def m_s_GetDict:M:=so [qo 2 (.zero [.slice none 0 0,.slice none 0 0]),qo 3 (.mv (cB false))] (so [qm 12 0,qc 13 60 [12,ci 0,ci 100] 1,qm 11 13,qe 14 11 0,qe 15 11 1,qm 4 14,qm 5 15] (.seq (so [qm 16 5,qo 17 (.bin .lss false 16 (ci 0))] (.cond 17 (so [qo 18 (.build [.slice none 0 0,.slice none 0 0] []),qS 2 2 18,qo 3 (.mv (cB false))] .ret) .skip)) (so [qm 20 0,qm 21 5,qm 22 4,qc 23 61 [20,21,22] 1,qm 19 23,qe 24 19 0,qe 25 19 1,qm 6 24,qm 7 25] (.seq (so [qm 26 7,qo 27 (.bin .lss false 26 (ci 0))] (.cond 27 (so [qo 28 (.build [.slice none 0 0,.slice none 0 0] []),qS 2 2 28,qo 3 (.mv (cB false))] .ret) .skip)) (so [qm 30 0,qm 31 7,qc 32 60 [30,31,ci 60] 1,qm 29 32,qe 33 29 0,qe 34 29 1,qm 4 33,qm 5 34] (.seq (so [qm 35 5,qo 36 (.bin .lss false 35 (ci 0))] (.cond 36 (so [qo 37 (.build [.slice none 0 0,.slice none 0 0] []),qS 2 2 37,qo 3 (.mv (cB false))] .ret) .skip)) (so [qm 39 0,qm 40 5,qm 41 4,qc 42 62 [39,40,41] 1,qm 38 42,qe 43 38 0,qe 44 38 1,qm 8 43,qm 9 44] (so [qm 45 6,qm 46 8,qo 47 (.build [.slice none 0 0,.slice none 0 0] [(0,1,45),(1,1,46)]),qo 10 (.zero [.slice none 0 0,.slice none 0 0]),qS 2 10 47] (.seq (so [qm 48 9,qo 49 (.bin .lss false 48 (ci 0)),qm 50 49,⟨some 51,.load true 2 10,some (50,false),[]⟩,⟨some 52,.call 63 [51],some (50,false),[.f 1]⟩,⟨some 53,.not 52,some (50,false),[]⟩,qo 54 (.pick 50 (cB true) 53),qm 55 54,⟨some 56,.load true 2 10,some (55,false),[]⟩,⟨some 57,.call 64 [56],some (55,false),[.f 1]⟩,qg 58 0 55 false,⟨some 59,.bin .neq false 57 58,some (55,false),[]⟩,qo 60 (.pick 55 (cB true) 59)] (.cond 60 (so [qo 61 (.build [.slice none 0 0,.slice none 0 0] []),qS 2 2 61,qo 3 (.mv (cB false))] .ret) .skip)) (so [qL 62 2 10,qS 2 2 62,qo 3 (.mv (cB true))] .ret))))))))))
theorem zgg:look Tryz.prog 14 = some (63,m_s_GetDict,[.cell true 2 2,.tm 3]):=by kernel_rfl
def m_s_l14Count:M:=so [qo 6 (.mv (ci 0)),qo 7 (.mv (ci 0))] (so [qm 12 0,qm 13 1,qc 14 118 [12,13] 1,qm 11 14,qe 15 11 0,qe 16 11 1,qe 17 11 2,qm 8 15,qm 9 16,qm 10 17] (.seq (so [qm 18 10,qo 19 (.bin .lss false 18 (ci 0)),qm 20 19,qg 21 8 20 false,⟨some 22,.bin .neq false 21 (ci 4),some (20,false),[]⟩,qo 23 (.pick 20 (cB true) 22),qm 24 23,qg 25 9 24 false,qg 26 2 24 false,⟨some 27,.conv .u64 26,some (24,false),[]⟩,⟨some 28,.bin .gtr false 25 27,some (24,false),[]⟩,qo 29 (.pick 24 (cB true) 28)] (.cond 29 (so [qo 6 (.mv (ci 0)),qo 7 (.mv (ci (-1)))] .ret) .skip)) (so [qm 30 9,qo 31 (.conv .i64 30),qm 32 10,qm 6 31,qm 7 32] .ret)))
theorem zfp:look Tryz.prog 60 = some (33,m_s_l14Count,[.tm 6,.tm 7]):=by kernel_rfl
def m_s_l14Names:M:=so [qo 6 (.mv (.c (.slice none 0 0))),qo 7 (.mv (ci 0))] (so [qo 13 (.lit 1 []),qm 8 13] (.seq (so [qo 9 (.mv (ci 0))] (.block 0 (.loop (.seq (so [qm 14 9,qm 15 2,qo 16 (.bin .lss false 14 15)] (.cond 16 .skip (.exit 0))) (.seq (.block 1 (so [qm 20 0,qm 21 1,qc 22 118 [20,21] 1,qm 19 22,qe 23 19 0,qe 24 19 1,qe 25 19 2,qm 10 23,qm 11 24,qm 12 25] (.seq (so [qm 26 12,qo 27 (.bin .lss false 26 (ci 0)),qm 28 27,qg 29 10 28 false,⟨some 30,.bin .neq false 29 (ci 3),some (28,false),[]⟩,qo 31 (.pick 28 (cB true) 30),qm 32 31,qg 33 11 32 false,qg 34 0 32 false,⟨some 35,.lens 34,some (32,false),[]⟩,qg 36 12 32 false,⟨some 37,.bin .sub false 35 36,some (32,false),[]⟩,⟨some 38,.conv .u64 37,some (32,false),[]⟩,⟨some 39,.bin .gtr false 33 38,some (32,false),[]⟩,qo 40 (.pick 32 (cB true) 39)] (.cond 40 (so [qm 41 8,qm 6 41,qo 7 (.mv (ci (-1)))] .ret) .skip)) (so [qm 42 12,qm 43 11,qo 44 (.conv .i64 43),qo 45 (.bin .add false 42 44),qm 1 45] (.ops [qm 46 8,qm 47 0,qm 48 12,qm 49 1,qo 50 (.slcs 47 (some 48) (some 49)),qo 51 (.lit 1 [50]),⟨some 52,.app 1 46 51,none,[.f 1]⟩,qm 8 52]))))) (.ops [qm 17 9,qo 18 (.bin .add false 17 (ci 1)),qm 9 18])))))) (so [qm 53 8,qm 54 1,qm 6 53,qm 7 54] .ret)))
theorem zfq:look Tryz.prog 61 = some (55,m_s_l14Names,[.tm 6,.tm 7]):=by kernel_rfl
def m_s_l14Table:M:=so [qo 6 (.mv (.c (.slice none 0 0))),qo 7 (.mv (ci 0))] (so [qo 12 (.lit 5 []),qm 8 12] (.seq (so [qo 9 (.mv (ci 0))] (.block 0 (.loop (.seq (so [qm 13 9,qm 14 2,qo 15 (.bin .lss false 13 14)] (.cond 15 .skip (.exit 0))) (.seq (.block 1 (so [qm 19 0,qm 20 1,qc 21 119 [19,20] 1,qm 18 21,qe 22 18 0,qe 23 18 1,⟨some 10,.zero [.int .i64 0,.int .i64 0,.int .i64 0,.string ⟨[].toArray⟩,.slice none 0 0],none,[]⟩,qS 5 10 22,qm 11 23] (.seq (so [qm 24 11,qo 25 (.bin .lss false 24 (ci 0))] (.cond 25 (so [qm 26 8,qm 6 26,qo 7 (.mv (ci (-1)))] .ret) .skip)) (so [qm 27 8,qL 28 5 10,qo 29 (.lit 5 [28]),⟨some 30,.app 5 27 29,none,[.f 1]⟩,qm 8 30] (.ops [qm 31 11,qm 1 31]))))) (.ops [qm 16 9,qo 17 (.bin .add false 16 (ci 1)),qm 9 17])))))) (so [qm 32 8,qm 33 1,qm 6 32,qm 7 33] .ret)))
theorem zfr:look Tryz.prog 62 = some (34,m_s_l14Table,[.tm 6,.tm 7]):=by kernel_rfl
def m_s_DictOk:M:=so [qo 1 (.box 0),qo 2 (.mv (cB false))] (so [qL 3 2 1,qc 4 64 [3] 1,qo 5 (.lens 4),qc 6 103 [5,ci 1,ci 60000] 1,qm 2 6] .ret)
theorem zhh:look Tryz.prog 63 = some (7,m_s_DictOk,[.tm 2]):=by kernel_rfl
def m_s_PutDict:M:=so [qo 1 (.box 0),⟨some 2,.mv (.c (.string ⟨[].toArray⟩)),none,[]⟩] (.seq (so [qF 6 0 1,ql 7 1 6,qc 8 120 [7] 1,qo 9 (.not 8),qm 10 9,⟨some 11,.fld 1 1,some (10,false),[]⟩,⟨some 12,.load false 1 11,some (10,false),[]⟩,⟨some 13,.call 121 [12],some (10,false),[.f 1]⟩,⟨some 14,.not 13,some (10,false),[]⟩,qo 15 (.pick 10 (cB true) 14)] (.cond 15 (so [⟨some 2,.mv (.c (.string ⟨[].toArray⟩)),none,[]⟩] .ret) .skip)) (so [qF 16 0 1,ql 17 1 16,qo 18 (.len 17),qo 19 (.conv .u64 18),qc 20 122 [ci 4,19] 1,qm 3 20] (.seq (so [qo 4 (.mv (ci 0))] (.block 0 (.loop (.seq (so [qm 21 4,qF 22 0 1,ql 23 1 22,qo 24 (.len 23),qo 25 (.bin .lss false 21 24)] (.cond 25 .skip (.exit 0))) (.seq (.block 1 (.ops [qm 28 3,qF 29 0 1,ql 30 1 29,qm 31 4,qo 32 (.ix 1 30 31),ql 33 1 32,qo 34 (.lens 33),qo 35 (.conv .u64 34),qF 38 0 1,ql 39 1 38,qm 40 4,qo 41 (.ix 1 39 40),ql 42 1 41,⟨some 36,.call 122 [ci 3,35],none,[.f 0,38,41]⟩,qo 37 (.bin .add false 28 36),qo 43 (.bin .add false 37 42),qm 3 43])) (.ops [qm 26 4,qo 27 (.bin .add false 26 (ci 1)),qm 4 27])))))) (so [qm 44 3,qF 45 1 1,ql 46 1 45,qo 47 (.len 46),qo 48 (.conv .u64 47),qc 49 122 [ci 4,48] 1,qo 50 (.bin .add false 44 49),qm 3 50] (.seq (so [qo 5 (.mv (ci 0))] (.block 2 (.loop (.seq (so [qm 51 5,qF 52 1 1,ql 53 1 52,qo 54 (.len 53),qo 55 (.bin .lss false 51 54)] (.cond 55 .skip (.exit 2))) (.seq (.block 3 (.ops [qm 58 3,qF 59 1 1,ql 60 1 59,qm 61 5,qo 62 (.ix 5 60 61),qL 63 5 62,qc 64 123 [63] 1,qo 65 (.bin .add false 58 64),qm 3 65])) (.ops [qm 56 5,qo 57 (.bin .add false 56 (ci 1)),qm 5 57])))))) (so [qm 66 3,qm 2 66] .ret))))))
theorem zgh:look Tryz.prog 64 = some (67,m_s_PutDict,[.tm 2]):=by kernel_rfl
def m_s_NamesOk:M:=so [qo 2 (.mv (cB false))] (.seq (so [qo 3 (.mv (ci 0))] (.block 0 (.loop (.seq (so [qm 4 3,qm 5 0,qo 6 (.len 5),qo 7 (.bin .lss false 4 6)] (.cond 7 .skip (.exit 0))) (.seq (.block 1 (so [qm 10 0,qm 11 3,qo 12 (.ix 1 10 11),ql 13 1 12,qc 14 162 [13] 1,qo 15 (.not 14),qm 16 15,qg 17 0 16 false,qg 18 3 16 false,⟨some 19,.ix 1 17 18,some (16,false),[]⟩,⟨some 20,.load false 1 19,some (16,false),[]⟩,⟨some 21,.lens 20,some (16,false),[]⟩,⟨some 22,.bin .gtr false 21 (ci 100),some (16,false),[]⟩,qo 23 (.pick 16 (cB true) 22),qm 24 23,qg 25 0 24 false,qg 26 0 24 false,qg 27 3 24 false,⟨some 28,.ix 1 26 27,some (24,false),[]⟩,⟨some 29,.load false 1 28,some (24,false),[]⟩,⟨some 30,.call 163 [25,29],some (24,false),[.f 1]⟩,qg 31 3 24 false,⟨some 32,.bin .neq false 30 31,some (24,false),[]⟩,qo 33 (.pick 24 (cB true) 32)] (.cond 33 (so [qo 2 (.mv (cB false))] .ret) .skip))) (.ops [qm 8 3,qo 9 (.bin .add false 8 (ci 1)),qm 3 9])))))) (so [qm 34 0,qo 35 (.len 34),qo 36 (.bin .leq false 35 (ci 100)),qm 2 36] .ret))
theorem zgi:look Tryz.prog 120 = some (37,m_s_NamesOk,[.tm 2]):=by kernel_rfl
def m_s_TableOk:M:=so [qo 2 (.mv (cB false))] (.seq (so [qo 3 (.mv (ci 0))] (.block 0 (.loop (.seq (so [qm 4 3,qm 5 0,qo 6 (.len 5),qo 7 (.bin .lss false 4 6)] (.cond 7 .skip (.exit 0))) (.seq (.block 1 (so [qm 10 0,qm 11 3,qo 12 (.ix 5 10 11),qL 13 5 12,qc 14 84 [13] 1,qo 15 (.not 14),qm 16 15,qg 17 0 16 false,qg 18 3 16 false,⟨some 19,.ix 5 17 18,some (16,false),[]⟩,⟨some 20,.load true 5 19,some (16,false),[]⟩,qg 21 3 16 false,⟨some 22,.call 164 [20,21],some (16,false),[.f 1]⟩,⟨some 23,.not 22,some (16,false),[]⟩,qo 24 (.pick 16 (cB true) 23)] (.cond 24 (so [qo 2 (.mv (cB false))] .ret) .skip))) (.ops [qm 8 3,qo 9 (.bin .add false 8 (ci 1)),qm 3 9])))))) (so [qm 25 0,qo 26 (.len 25),qo 27 (.bin .leq false 26 (ci 60)),qm 2 27] .ret))
theorem zgj:look Tryz.prog 121 = some (28,m_s_TableOk,[.tm 2]):=by kernel_rfl
def m_s_l12Ahead:M:=so [qo 2 (.box 0),qo 4 (.mv (cB false))] (.seq (so [qL 7 5 2,qc 8 211 [7] 1,qm 5 8] (so [qF 9 0 2,ql 10 1 9,qo 11 (.bin .eql false 10 (ci 9)),qm 12 11,⟨some 13,.fld 1 2,some (12,true),[]⟩,⟨some 14,.load false 1 13,some (12,true),[]⟩,⟨some 15,.bin .eql false 14 (ci 6),some (12,true),[]⟩,qo 16 (.pick 12 15 (cB false))] (.cond 16 (so [qm 17 5,qo 18 (.bin .geq false 17 (ci 0)),qm 19 18,qg 20 5 19 true,qg 21 1 19 true,⟨some 22,.bin .lss false 20 21,some (19,true),[]⟩,qo 23 (.pick 19 22 (cB false)),qm 4 23] .ret) .skip))) (.seq (so [qo 6 (.mv (ci 0))] (.block 0 (.loop (.seq (so [qm 24 6,qF 25 4 2,ql 26 1 25,qo 27 (.len 26),qo 28 (.bin .lss false 24 27)] (.cond 28 .skip (.exit 0))) (.seq (.block 1 (so [qF 31 4 2,ql 32 1 31,qm 33 6,qo 34 (.ix 5 32 33),qL 35 5 34,qm 36 1,qc 37 164 [35,36] 1,qo 38 (.not 37)] (.cond 38 (so [qo 4 (.mv (cB false))] .ret) .skip))) (.ops [qm 29 6,qo 30 (.bin .add false 29 (ci 1)),qm 6 30])))))) (so [qo 4 (.mv (cB true))] .ret)))
theorem zfs:look Tryz.prog 164 = some (39,m_s_l12Ahead,[.tm 4]):=by kernel_rfl
def m_s_l12Ref:M:=so [qo 1 (.box 0),qo 2 (.mv (ci 0))] (.seq (so [qF 3 0 1,ql 4 1 3,qo 5 (.bin .neq false 4 (ci 9)),qm 6 5,⟨some 7,.fld 1 1,some (6,false),[]⟩,⟨some 8,.load false 1 7,some (6,false),[]⟩,⟨some 9,.bin .neq false 8 (ci 6),some (6,false),[]⟩,qo 10 (.pick 6 (cB true) 9),qm 11 10,⟨some 12,.fld 4 1,some (11,false),[]⟩,⟨some 13,.load false 1 12,some (11,false),[]⟩,⟨some 14,.len 13,some (11,false),[]⟩,⟨some 15,.bin .neq false 14 (ci 1),some (11,false),[]⟩,qo 16 (.pick 11 (cB true) 15),qm 17 16,⟨some 18,.fld 4 1,some (17,false),[]⟩,⟨some 19,.load false 1 18,some (17,false),[]⟩,⟨some 20,.ix 5 19 (ci 0),some (17,false),[]⟩,⟨some 21,.fld 0 20,some (17,false),[]⟩,⟨some 22,.load false 1 21,some (17,false),[]⟩,⟨some 23,.bin .neq false 22 (ci 3),some (17,false),[]⟩,qo 24 (.pick 17 (cB true) 23),qm 25 24,⟨some 26,.fld 4 1,some (25,false),[]⟩,⟨some 27,.load false 1 26,some (25,false),[]⟩,⟨some 28,.ix 5 27 (ci 0),some (25,false),[]⟩,⟨some 29,.fld 1 28,some (25,false),[]⟩,⟨some 30,.load false 1 29,some (25,false),[]⟩,⟨some 31,.bin .lss false 30 (ci 0),some (25,false),[]⟩,qo 32 (.pick 25 (cB true) 31)] (.cond 32 (so [qo 2 (.mv (ci (-1)))] .ret) .skip)) (so [qF 33 4 1,ql 34 1 33,qo 35 (.ix 5 34 (ci 0)),qF 36 1 35,ql 37 1 36,qm 2 37] .ret))
theorem zhi:look Tryz.prog 211 = some (38,m_s_l12Ref,[.tm 2]):=by kernel_rfl
end
section
theorem snoc_ind {α:Type} {P:List α -> Prop} (h0:P []) (h1:∀ l a,P l -> P (l ++ [a])):∀ l,P l:=fun l => by
 have h:∀ r:List α,P r.reverse:=by
  intro r; induction r with
  | nil => exact h0
  | cons a r ih => rw [reverse_cons]; exact h1 _ _ ih
 have:=h l.reverse; rwa [reverse_reverse] at this
def valBE (l:L8):Nat:=l.foldl (fun n b => n * 256 + b.toNat) 0
theorem zcB (l:L8) (b:UInt8):valBE (l ++ [b]) = valBE l * 256 + b.toNat:=by simp [valBE]
theorem zeP (l:L8) (k:Nat) (h:k < l.length):valBE (l.take (k + 1)) = valBE (l.take k) * 256 + l[k].toNat:=by
 rw [zcY l k h,zcB]
theorem zdb:∀ (l:L8),valBE l < 256 ^ l.length:=by
 refine snoc_ind (by simp [valBE]) ?_
 ·intro l b ih
  rw [zcB,length_append,length_singleton,Nat.pow_succ]
  have:=b.toNat_lt; omega
theorem be_valBE:∀ (l:L8),be l.length (valBE l) = l:=by
 refine snoc_ind rfl ?_
 ·intro l b ih
  rw [zcB,length_append,length_singleton,be];have h:=b.toNat_lt;rw [show (valBE l * 256 + b.toNat) / 256 = valBE l by omega,ih]
  congr 2
  apply UInt8.toNat_inj.1; rw [zaE]; omega
def anyHd (l:L8) (i:Nat):Option (Nat × Nat × Nat) :=
 match l[i]? with
 | none => none
 | some b =>
  if b.toNat % 32 < 24 then some (b.toNat / 32,b.toNat % 32,i + 1)
  else if 27 < b.toNat % 32 then none
  else if l.length < i + 1 + 2 ^ (b.toNat % 32 - 24) then none
  else some (b.toNat / 32,valBE ((l.drop (i + 1)).take (2 ^ (b.toNat % 32 - 24))),i + 1 + 2 ^ (b.toNat % 32 - 24))
def getHd (l:L8) (i:Nat):Option (Nat × Nat × Nat) :=
 match anyHd l i with
 | some (m,n,x) => if i + (hd m n).length = x then some (m,n,x) else none
 | none => none
theorem zdt {l:L8} {i m n x:Nat} (h:anyHd l i = some (m,n,x)):i < l.length /\ i < x /\ x <= l.length /\ m <= 7 /\ n < 18446744073709551616 /\ x <= i + 9 /\
  ((hd m n = (l.drop i).take (x - i)) ↔ i + (hd m n).length = x):=by
 unfold anyHd at h
 cases hb:l[i]? with
 | none => rw [hb] at h; cases h
 | some b =>
  rw [hb] at h;obtain ⟨hi,hbe⟩:=List.getElem?_eq_some_iff.1 hb;have hlt:=b.toNat_lt;have hdrop:l.drop i = b :: l.drop (i + 1):=by rw [drop_eq_getElem_cons hi,hbe]
  simp only at h
  split at h
  ·rename_i h24
   simp only [sI,Prod.mk.injEq] at h;obtain ⟨rfl,rfl,rfl⟩:=h;refine ⟨hi,by omega,by omega,by omega,by omega,by omega,?_⟩
   have e:hd (b.toNat / 32) (b.toNat % 32) = [b]:=by
    unfold hd; rw [if_pos h24]
    show [byteOf _] = [b]
    congr 1; apply UInt8.toNat_inj.1; rw [zaE]; omega
   rw [e,hdrop,show i + 1 - i = 1 by omega]; simp
  ·split at h
   ·cases h
   ·split at h
    ·cases h
    ·rename_i h24 h27 hlen
     simp only [sI,Prod.mk.injEq] at h;obtain ⟨rfl,rfl,rfl⟩:=h;generalize hk:b.toNat % 32 - 24 = k at *;have hk4:k = 0 \/ k = 1 \/ k = 2 \/ k = 3:=by omega
     have hp:2 ^ k <= 8 /\ 1 <= 2 ^ k:=by rcases hk4 with rfl | rfl | rfl | rfl <;> decide
     generalize hxs:(l.drop (i + 1)).take (2 ^ k) = xs at *;have hxl:xs.length = 2 ^ k:=by rw [<- hxs,length_take,length_drop]; omega
     have hv:=zdb xs;have hbv:=be_valBE xs;rw [hxl] at hv hbv;have hv64:valBE xs < 18446744073709551616:=by rcases hk4 with rfl | rfl | rfl | rfl <;> simp at hv <;> omega
     refine ⟨hi,by omega,by omega,by omega,hv64,by omega,?_⟩
     have htake:(l.drop i).take (i + 1 + 2 ^ k - i) = b :: xs:=by
      rw [hdrop,show i + 1 + 2 ^ k - i = 2 ^ k + 1 by omega,take_succ_cons,hxs]
     rw [htake]
     constructor
     ·intro e; rw [e,length_cons,hxl]; omega
     ·intro e
      have e':(hd (b.toNat / 32) (valBE xs)).length = 2 ^ k + 1:=by omega
      generalize valBE xs = v at *;have h32:b.toNat = b.toNat / 32 * 32 + (24 + k):=by omega
      have hbb:∀ c,b.toNat = b.toNat / 32 * 32 + c -> be 1 (b.toNat / 32 * 32 + c) = [b]:=by
       intro c hc; rw [<- hc]; show [byteOf _] = [b]; congr 1; apply UInt8.toNat_inj.1; rw [zaE]; omega
      unfold hd at e' ⊢
      split at e'
      ·simp [zab] at e'
      ·split at e'
       ·simp only [length_append,zab] at e'
        obtain rfl:k = 0:=by rcases hk4 with rfl | rfl | rfl | rfl <;> simp at e' ⊢
        rw [if_neg (by assumption),if_pos (by assumption),hbb 24 h32]; simp only [Nat.pow_zero] at hbv; rw [hbv]; rfl
       ·split at e'
        ·simp only [length_append,zab] at e'
         obtain rfl:k = 1:=by rcases hk4 with rfl | rfl | rfl | rfl <;> simp at e' ⊢
         rw [if_neg (by assumption),if_neg (by assumption),if_pos (by assumption),hbb 25 h32]; simp only [Nat.pow_one] at hbv; rw [hbv]; rfl
        ·split at e'
         ·simp only [length_append,zab] at e'
          obtain rfl:k = 2:=by rcases hk4 with rfl | rfl | rfl | rfl <;> simp at e' ⊢
          rw [if_neg (by assumption),if_neg (by assumption),if_neg (by assumption),if_pos (by assumption),hbb 26 h32]; simp at hbv; rw [hbv]; rfl
         ·simp only [length_append,zab] at e'
          obtain rfl:k = 3:=by rcases hk4 with rfl | rfl | rfl | rfl <;> simp at e' ⊢
          rw [if_neg (by assumption),if_neg (by assumption),if_neg (by assumption),if_neg (by assumption),hbb 27 h32]; simp at hbv; rw [hbv]; rfl
theorem zbt {l:L8} {i m n x:Nat} (h:getHd l i = some (m,n,x)):i < l.length /\ i < x /\ x <= l.length /\ m <= 7 /\ n < 18446744073709551616 /\ hd m n = (l.drop i).take (x - i):=by
 unfold getHd at h
 cases ha:anyHd l i with
 | none => rw [ha] at h; cases h
 | some r =>
  obtain ⟨m',n',x'⟩:=r;rw [ha] at h;simp only at h
  split at h
  ·rename_i he
   simp only [sI,Prod.mk.injEq] at h;obtain ⟨rfl,rfl,rfl⟩:=h;obtain ⟨h1,h2,h3,h4,h5,_,h6⟩:=zdt ha;exact ⟨h1,h2,h3,h4,h5,h6.2 he⟩
  ·cases h
def hM:Option (Nat × Nat × Nat) -> Int | some (m,_,_) => m | none => -1
def hN:Option (Nat × Nat × Nat) -> Int | some (_,n,_) => n | none => 0
def hX:Option (Nat × Nat × Nat) -> Int | some (_,_,x) => x | none => -1
def anyAt (l:L8) (i:Int):Option (Nat × Nat × Nat):=if i < 0 then none else anyHd l i.toNat
def getAt (l:L8) (i:Int):Option (Nat × Nat × Nat):=if i < 0 then none else getHd l i.toNat
def getFr (l:L8) (i:Int):Option (L8 × Nat) :=
 match getAt l i with
 | none => none
 | some (m,n,x) =>
  if m = 2 /\ n <= 100000 /\ x + n + 4 <= l.length /\ (l.drop (x + n)).take 4 = be 4 (crc ((l.drop x).take n)) then some ((l.drop x).take n,x + n + 4) else none
def fC:Option (L8 × Nat) -> L8 | some (c,_) => c | none => []
def fX:Option (L8 × Nat) -> Int | some (_,x) => x | none => -1
end
section
inductive MsgTop:V -> Nat -> List UInt8 -> Prop where
 | pos (n:Nat) (h:n < 128):MsgTop (.mk 3 n 0 [] []) n []
 | neg (n:Nat) (h:224 <= n /\ n < 256):MsgTop (.mk 3 ((n:Int) - 256) 0 [] []) n []
 | map (n:Nat) (h:n < 16) (kids:List V) (hl:kids.length = 2 * n):MsgTop (.mk 8 0 0 [] kids) (128 + n) (msgs kids)
 | list (kids:List V) (h:kids.length < 16):MsgTop (.mk 7 0 0 [] kids) (144 + kids.length) (msgs kids)
 | text (s:List UInt8) (h:s.length < 32):MsgTop (.mk 5 0 0 s []) (160 + s.length) s
 | nul:MsgTop (.mk 0 0 0 [] []) 192 []
 | fls:MsgTop (.mk 1 0 0 [] []) 194 []
 | tru:MsgTop (.mk 2 0 0 [] []) 195 []
 | uint (j:Nat) (hj:j < 4) (n:Nat) (h:n < 256 ^ (2 ^ j) /\ n < 9223372036854775808):MsgTop (.mk 3 n 0 [] []) (204 + j) (be (2 ^ j) n)
 | sint (j:Nat) (hj:j < 4) (n:Int) (h:n < 0 /\ -(2 ^ (8 * 2 ^ j - 1):Nat) <= n):MsgTop (.mk 3 n 0 [] []) (208 + j) (be (2 ^ j) (lo64 n))
 | dec (n e:Int) (h:-20 <= e /\ e <= 20) (hn:-999999999999999999 <= n /\ n <= 999999999999999999):MsgTop (.mk 4 n e [] []) 199 ([9,4] ++ be 1 (lo64 e) ++ be 8 (lo64 n))
 | tag (n:Nat) (h:n <= 1000000) (kid:V):MsgTop (.mk 9 n 0 [] [kid]) 199 ([4,6] ++ be 4 n ++ msg kid)
 | text1 (s:List UInt8) (h:32 <= s.length /\ s.length < 256):MsgTop (.mk 5 0 0 s []) 217 (be 1 s.length ++ s)
 | text2 (s:List UInt8) (h:256 <= s.length /\ s.length <= 2000):MsgTop (.mk 5 0 0 s []) 218 (be 2 s.length ++ s)
 | bytes1 (s:List UInt8) (h:s.length < 256):MsgTop (.mk 6 0 0 s []) 196 (be 1 s.length ++ s)
 | bytes2 (s:List UInt8) (h:256 <= s.length /\ s.length <= 2000):MsgTop (.mk 6 0 0 s []) 197 (be 2 s.length ++ s)
 | list2 (kids:List V) (h:16 <= kids.length /\ kids.length <= 600):MsgTop (.mk 7 0 0 [] kids) 220 (be 2 kids.length ++ msgs kids)
 | map2 (n:Nat) (h:16 <= n /\ n <= 300) (kids:List V) (hl:kids.length = 2 * n):MsgTop (.mk 8 0 0 [] kids) 222 (be 2 n ++ msgs kids)
theorem inR_iff {n a b:Int}:inR n a b = true ↔ a <= n /\ n <= b:=by simp [inR]
theorem be1 (n:Nat):be 1 n = [byteOf n]:=rfl
theorem byteOf_id {n:Nat} (h:n < 256):(byteOf n).toNat = n:=by rw [zaE]; omega
theorem zel {d:Int} {v:V} (h:v.rightBy pairsOk d = true) (hk:v.kids.length <= 300) (hnum:i64ok v.num):∃ b t,MsgTop v b t /\ b < 256 /\ msg v = byteOf b :: t:=by
 obtain ⟨k,n,e,s,kids⟩:=v;simp only [V.kids] at hk;simp only [V.num,i64ok] at hnum;simp only [V.rightBy,Bool.and_eq_true] at h;have hs:=h.2.2;clear h;rw [zec];unfold msgHd;simp only [V.kind,V.num,V.exp,V.text,V.kids];simp only [V.selfBy] at hs;by_cases k0:k = 0
 ·subst k0; simp at hs; obtain ⟨rfl,rfl,rfl,rfl⟩:=hs
  exact ⟨192,[],.nul,by decide,rfl⟩
 by_cases k1:k = 1
 ·subst k1; simp at hs; obtain ⟨rfl,rfl,rfl,rfl⟩:=hs
  exact ⟨194,[],.fls,by decide,rfl⟩
 by_cases k2:k = 2
 ·subst k2; simp at hs; obtain ⟨rfl,rfl,rfl,rfl⟩:=hs
  exact ⟨195,[],.tru,by decide,rfl⟩
 rw [if_neg (show ¬ (k = 0 \/ k = 1 \/ k = 2) by omega)] at hs;simp only [k0,k1,k2,if_false];by_cases k3:k = 3
 ·subst k3; simp at hs; obtain ⟨rfl,rfl,rfl⟩:=hs
  simp only [if_true,msgs,append_nil];unfold msgInt;by_cases c0:-32 <= n /\ n <= 127
  ·rw [if_pos c0,be1]
   by_cases hp:0 <= n
   ·obtain ⟨m,rfl⟩:=Int.eq_ofNat_of_zero_le hp
    rw [zbC _ (by omega)];exact ⟨m,[],.pos m (by omega),by omega,rfl⟩
   ·refine ⟨(n + 256).toNat,[],?_,by omega,?_⟩
    ·have:=MsgTop.neg (n + 256).toNat (by omega)
     rw [show (((n + 256).toNat:Nat):Int) - 256 = n by omega] at this; exact this
    ·congr 1; apply UInt8.toNat_inj.1; rw [zaE,zaE]; unfold lo64; omega
  rw [if_neg c0];by_cases hp:0 <= n
  ·obtain ⟨m,rfl⟩:=Int.eq_ofNat_of_zero_le hp
   rw [zbC _ (by omega)];by_cases c1:0 <= (m:Int) /\ (m:Int) <= 255
   ·rw [if_pos c1]; exact ⟨204,_,.uint 0 (by decide) m ⟨by simp; omega,by omega⟩,by decide,rfl⟩
   rw [if_neg c1];by_cases c2:0 <= (m:Int) /\ (m:Int) <= 65535
   ·rw [if_pos c2]; exact ⟨205,_,.uint 1 (by decide) m ⟨by simp; omega,by omega⟩,by decide,rfl⟩
   rw [if_neg c2];by_cases c3:0 <= (m:Int) /\ (m:Int) <= 4294967295
   ·rw [if_pos c3]; exact ⟨206,_,.uint 2 (by decide) m ⟨by simp; omega,by omega⟩,by decide,rfl⟩
   rw [if_neg c3,if_pos hp]; exact ⟨207,_,.uint 3 (by decide) m ⟨by simp; omega,by omega⟩,by decide,rfl⟩
  ·rw [if_neg (by omega),if_neg (by omega),if_neg (by omega),if_neg (by omega)]
   by_cases c1:n ≥ -128
   ·rw [if_pos c1]; exact ⟨208,_,.sint 0 (by decide) n ⟨by omega,by simp; omega⟩,by decide,rfl⟩
   rw [if_neg c1];by_cases c2:n ≥ -32768
   ·rw [if_pos c2]; exact ⟨209,_,.sint 1 (by decide) n ⟨by omega,by simp; omega⟩,by decide,rfl⟩
   rw [if_neg c2];by_cases c3:n ≥ -2147483648
   ·rw [if_pos c3]; exact ⟨210,_,.sint 2 (by decide) n ⟨by omega,by simp; omega⟩,by decide,rfl⟩
   rw [if_neg c3]; exact ⟨211,_,.sint 3 (by decide) n ⟨by omega,by simp; omega⟩,by decide,rfl⟩
 simp only [k3,if_false] at hs ⊢;by_cases k4:k = 4
 ·subst k4; simp [decOk] at hs; obtain ⟨⟨⟨h1,_,h2,_⟩,_⟩,rfl,rfl⟩:=hs
  have h1:=inR_iff.1 h1; have h2:=inR_iff.1 h2
  simp only [if_true,msgs,append_nil];exact ⟨199,_,.dec n e h1 h2,by decide,rfl⟩
 simp only [k4,if_false] at hs ⊢;by_cases k5:k = 5
 ·subst k5; simp at hs; obtain ⟨rfl,rfl,_,h2,rfl⟩:=hs
  simp only [if_true,msgs,append_nil];unfold msgMany;by_cases c0:(s.length:Int) < 32
  ·rw [if_pos c0,be1]
   refine ⟨160 + s.length,s,.text s (by omega),by omega,?_⟩;simp only [cons_append,nil_append,cons.injEq,and_true]
   congr 1; unfold lo64; omega
  rw [if_neg c0];by_cases c1:(s.length:Int) < 256 /\ (217:Int) > 0
  ·rw [if_pos c1,zbC _ (by omega)]; exact ⟨217,_,.text1 s (by omega),by decide,rfl⟩
  rw [if_neg c1,zbC _ (by omega)]; exact ⟨218,_,.text2 s (by omega),by decide,rfl⟩
 simp only [k5,if_false] at hs ⊢;by_cases k6:k = 6
 ·subst k6; simp at hs; obtain ⟨rfl,rfl,h2,rfl⟩:=hs
  simp only [if_true,msgs,append_nil];unfold msgMany;rw [if_neg (by omega)];by_cases c1:(s.length:Int) < 256 /\ (196:Int) > 0
  ·rw [if_pos c1,zbC _ (by omega)]; exact ⟨196,_,.bytes1 s (by omega),by decide,rfl⟩
  rw [if_neg c1,zbC _ (by omega)]; exact ⟨197,_,.bytes2 s (by omega),by decide,rfl⟩
 simp only [k6,if_false] at hs ⊢;by_cases k7:k = 7
 ·subst k7; simp at hs; obtain ⟨rfl,rfl,rfl⟩:=hs
  simp only [if_true];unfold msgMany;by_cases c0:(kids.length:Int) < 16
  ·rw [if_pos c0,be1]
   refine ⟨144 + kids.length,_,.list kids (by omega),by omega,?_⟩;simp only [cons_append,nil_append,cons.injEq,and_true]
   congr 1; unfold lo64; omega
  rw [if_neg c0,if_neg (by omega),zbC _ (by omega)]; exact ⟨220,_,.list2 kids (by omega),by decide,rfl⟩
 simp only [k7,if_false] at hs ⊢;by_cases k8:k = 8
 ·subst k8; simp at hs; obtain ⟨rfl,rfl,rfl,hp⟩:=hs
  simp only [pairsOk,Bool.and_eq_true,decide_eq_true_eq] at hp;obtain ⟨n,hn⟩:∃ n,kids.length = 2 * n:=⟨kids.length / 2,by omega⟩;simp only [if_true];rw [show kids.length / 2 = n by omega];unfold msgMany;by_cases c0:(n:Int) < 16
  ·rw [if_pos c0,be1]
   refine ⟨128 + n,_,.map n (by omega) kids hn,by omega,?_⟩;simp only [cons_append,nil_append,cons.injEq,and_true]
   congr 1; unfold lo64; omega
  rw [if_neg c0,if_neg (by omega),zbC _ (by omega)]; exact ⟨222,_,.map2 n (by omega) kids hn,by decide,rfl⟩
 simp only [k8,if_false] at hs ⊢;by_cases k9:k = 9
 ·subst k9; simp at hs; obtain ⟨h1,rfl,rfl,h2⟩:=hs
  have h1:=inR_iff.1 h1;obtain ⟨m,rfl⟩:=Int.eq_ofNat_of_zero_le h1.1
  match kids,h2 with
  | [kid],_ =>
   rw [zbC _ (by omega)];refine ⟨199,_,.tag m (by omega) kid,by decide,?_⟩;simp [msgs]; rfl
 ·rw [if_neg k9] at hs; cases hs
end
section
def At (s:L8) (i:Nat) (l:L8):Prop:=∃ r,s.drop i = l ++ r
theorem At.app {s:L8} {i:Nat} {a b:L8} (h:At s i (a ++ b)):At s i a /\ At s (i + a.length) b:=by
 obtain ⟨r,h⟩:=h;refine ⟨⟨b ++ r,by rw [h,append_assoc]⟩,r,?_⟩;rw [<- drop_drop,h,append_assoc,drop_left]
theorem At.len {s:L8} {i:Nat} {l:L8} (h:At s i l) (hi:i <= s.length):i + l.length <= s.length:=by
 obtain ⟨r,h⟩:=h
 have:=congrArg length h
 rw [length_drop,length_append] at this; omega
theorem At.take {s:L8} {i:Nat} {l:L8} (h:At s i l):(s.drop i).take l.length = l:=by
 obtain ⟨r,h⟩:=h;rw [h,take_left]
theorem At.cons {s:L8} {i:Nat} {b:UInt8} {t:L8} (h:At s i (b :: t)):s[i]? = some b /\ At s (i + 1) t:=by
 have h2:=At.app (a:=[b]) (b:=t) h;obtain ⟨r,h⟩:=h;refine ⟨?_,h2.2⟩
 have:=congrArg (fun l => l[0]?) h
 simpa using this
theorem At.lt {s:L8} {i:Nat} {b:UInt8} {t:L8} (h:At s i (b :: t)):i < s.length:=by
 have:=h.cons.1
 rcases Nat.lt_or_ge i s.length with h' | h'
 ·exact h'
 ·rw [getElem?_eq_none h'] at this; cases this
theorem zft:∀ (k n:Nat),valBE (be k n) = n % 256 ^ k
 | 0,n => by simp [be,valBE,Nat.mod_one]
 | k + 1,n => by
  rw [be,zcB,zft k,zaE,Nat.pow_succ,Nat.mul_comm (256 ^ k) 256,Nat.mod_mul];omega
def gwN (s:L8) (i k:Nat):Int:=IntKind.i64.wrap (valBE ((s.drop i).take k))
theorem At.gw {s:L8} {i k n:Nat} (h:At s i (be k n)):gwN s i k = IntKind.i64.wrap ((n % 256 ^ k:Nat):Int):=by
 have:=h.take
 rw [zab] at this;unfold gwN;rw [this,zft]
theorem At.gw_id {s:L8} {i k n:Nat} (h:At s i (be k n)) (hn:n < 256 ^ k) (h2:n < 9223372036854775808):gwN s i k = n:=by
 rw [h.gw,Nat.mod_eq_of_lt hn,IntKind.wrap_i64]; omega
theorem zdH (s:L8) (i k:Nat):i64ok (gwN s i k):=by
 unfold gwN i64ok; rw [IntKind.wrap_i64]; omega
theorem zbw (s:L8) (i k:Nat) (hk:k <= 2):0 <= gwN s i k /\ gwN s i k < 256 ^ k:=by
 have h1:=zdb ((s.drop i).take k);have h2:((s.drop i).take k).length <= k:=by rw [length_take]; omega
 have h3:256 ^ ((s.drop i).take k).length <= 256 ^ k:=Nat.pow_le_pow_right (by decide) h2;have h4:256 ^ k <= 256 ^ 2:=Nat.pow_le_pow_right (by decide) hk;have e:((256:Int) ^ k) = ((256 ^ k:Nat):Int):=by simp
 rw [e];unfold gwN;rw [IntKind.wrap_i64];have h5:(256:Nat) ^ 2 = 65536:=rfl;omega
end
section
def sgw (n:Int) (k:Nat):Int:=if 1 <= k /\ k <= 7 then (if n % (256 ^ k:Nat) ≥ (256 ^ k / 2:Nat) then n % (256 ^ k:Nat) - (256 ^ k:Nat) else n % (256 ^ k:Nat)) else n
end
section
theorem zgk {s:L8} {i:Nat} {b:UInt8} {t:L8} (h:At s i (b :: t)):gwN s i 1 = b.toNat:=by
 have h2:At s i (be 1 b.toNat):=by
  have:=At.app (a:=[b]) (b:=t) h
  have e:be 1 b.toNat = [b]:=by rw [be1]; congr 1; apply UInt8.toNat_inj.1; rw [zaE]; have:=b.toNat_lt; omega
  rw [e]; exact this.1
 exact h2.gw_id (by have:=b.toNat_lt; omega) (by have:=b.toNat_lt; omega)
theorem zdQ (n:Int) (k:Nat) (hk:k = 1 \/ k = 2 \/ k = 4 \/ k = 8) (h:-(2 ^ (8 * k - 1):Nat) <= n /\ n < (2 ^ (8 * k - 1):Nat)):sgw (IntKind.i64.wrap ((lo64 n % 256 ^ k:Nat):Int)) k = n:=by
 rcases hk with rfl | rfl | rfl | rfl
 ·have e1:(2 ^ (8 * 1 - 1):Nat) = 128:=rfl
  rw [e1] at h;unfold sgw lo64;rw [if_pos (by decide),IntKind.wrap_i64,show ((256 ^ 1:Nat):Int) = 256 from rfl,show ((256 ^ 1 / 2:Nat):Int) = 128 from rfl,show (256 ^ 1:Nat) = 256 from rfl]
  split <;> omega
 ·have e1:(2 ^ (8 * 2 - 1):Nat) = 32768:=rfl
  rw [e1] at h;unfold sgw lo64;rw [if_pos (by decide),IntKind.wrap_i64,show ((256 ^ 2:Nat):Int) = 65536 from rfl,show ((256 ^ 2 / 2:Nat):Int) = 32768 from rfl,show (256 ^ 2:Nat) = 65536 from rfl]
  split <;> omega
 ·have e1:(2 ^ (8 * 4 - 1):Nat) = 2147483648:=rfl
  rw [e1] at h;unfold sgw lo64;rw [if_pos (by decide),IntKind.wrap_i64,show ((256 ^ 4:Nat):Int) = 4294967296 from rfl,show ((256 ^ 4 / 2:Nat):Int) = 2147483648 from rfl,show (256 ^ 4:Nat) = 4294967296 from rfl]
  split <;> omega
 ·have e1:(2 ^ (8 * 8 - 1):Nat) = 9223372036854775808:=rfl
  rw [e1] at h;unfold sgw lo64;rw [if_neg (by decide),IntKind.wrap_i64,show (256 ^ 8:Nat) = 18446744073709551616 from rfl];omega
theorem wrap_read (n:Int) (h:i64ok n):IntKind.i64.wrap ((lo64 n % 256 ^ 8:Nat):Int) = n:=by
 have:=zdQ n 8 (by decide) (by unfold i64ok at h; have e1:(2 ^ (8 * 8 - 1):Nat) = 9223372036854775808:=rfl; rw [e1]; omega)
 unfold sgw at this
 rwa [if_neg (by decide)] at this
theorem zcb {s:L8} {p:Nat} {e n:Int} (hp:p <= s.length) (h:At s p ([9,4] ++ be 1 (lo64 e) ++ be 8 (lo64 n))) (he:-20 <= e /\ e <= 20) (hn:i64ok n) :
  p + 11 <= s.length /\ gwN s p 1 = 9 /\ gwN s (p + 1) 1 = 4 /\ sgw (gwN s (p + 2) 1) 1 = e /\ gwN s (p + 3) 8 = n:=by
 have hl:=h.len hp;simp only [length_append,zab,length_cons,length_nil] at hl;have h1:=h.app.1.app.1;have h2:=h.app.1.app.2;have h3:=h.app.2;have h4:=h1.cons.2;simp only [length_append,zab,length_cons,length_nil] at h2 h3;refine ⟨hl,zgk h1,zgk h4,?_,?_⟩
 ·rw [h2.gw]; exact zdQ e 1 (by decide) (by have e1:(2 ^ (8 * 1 - 1):Nat) = 128:=rfl; rw [e1]; omega)
 ·rw [h3.gw]; exact wrap_read n hn
theorem zcc {s:L8} {p m:Nat} {t:L8} (hp:p <= s.length) (h:At s p ([4,6] ++ be 4 m ++ t)) (hm:m <= 1000000) :
  p + 6 <= s.length /\ gwN s p 1 = 4 /\ gwN s (p + 1) 1 = 6 /\ gwN s (p + 2) 4 = m /\ At s (p + 6) t:=by
 have hl:=h.app.1.len hp;simp only [length_append,zab,length_cons,length_nil] at hl;have h1:=h.app.1.app.1;have h2:=h.app.1.app.2;have h3:=h.app.2;have h4:=h1.cons.2;simp only [length_append,zab,length_cons,length_nil] at h2 h3;refine ⟨hl,zgk h1,zgk h4,h2.gw_id (by have e1:(256 ^ 4:Nat) = 4294967296:=rfl; rw [e1]; omega) (by omega),h3⟩
end
section
open Go.Lib (validD)
theorem zbf {α:Type} {l:List α} {i:Nat} (h:i < l.length) (d:α):l.getD i d = l[i]:=by simp [getD,h]
def allN (n:Nat) (f:Nat -> Bool):Bool:=(range n).all f
theorem allN_yes {n:Nat} {f:Nat -> Bool} (h:∀ i < n,f i = true):allN n f = true:=by
 unfold allN; rw [all_eq_true]; exact fun i hi => h i (mem_range.1 hi)
theorem zhj {n:Nat} {f:Nat -> Bool} (i:Nat) (hi:i < n) (h:f i = false):allN n f = false:=by
 unfold allN; rw [all_eq_false]; exact ⟨i,mem_range.2 hi,by rw [h]; decide⟩
theorem zhk {n:Nat} {f:Nat -> Bool} (h:allN n f = true) (i:Nat) (hi:i < n):f i = true:=by
 unfold allN at h; rw [all_eq_true] at h; exact h i (mem_range.2 hi)
def nmB (ns:List (L8)) (i:Nat):Bool:=validD (ns.getD i []) && (decide ((ns.getD i []).length <= 100) && decide (ixF ns (ns.getD i []) 0 = i))
def nmsB (ns:List (L8)):Bool:=decide (ns.length <= 100) && allN ns.length (nmB ns)
def refOf (v:V):Int:=if v.kind = 9 /\ v.num = 6 then (match v.kids with | [k] => if k.kind = 3 /\ 0 <= k.num then k.num else -1 | _ => -1) else -1
mutual
def V.ahead (i:Int):V -> Bool
 | .mk k n e s kids => if k = 9 /\ n = 6 then decide (0 <= refOf (.mk k n e s kids)) && decide (refOf (.mk k n e s kids) < i) else V.aheads i kids
def V.aheads (i:Int):List V -> Bool
 | [] => true
 | v :: vs => V.ahead i v && V.aheads i vs
end
theorem V.aheads_all (i:Int):∀ vs:List V,V.aheads i vs = allN vs.length (fun j => (vs.getD j (.mk 0 0 0 [] [])).ahead i)
 | [] => rfl
 | v :: vs => by
  have:=V.aheads_all i vs
  unfold allN at *;rw [V.aheads,this,length_cons,range_succ_eq_map,all_cons,all_map];rfl
theorem V.ahead_eq (i:Int) (v:V):v.ahead i = if v.kind = 9 /\ v.num = 6 then decide (0 <= refOf v) && decide (refOf v < i) else V.aheads i v.kids:=by obtain ⟨k,n,e,s,kids⟩:=v; rw [V.ahead]; rfl
def ownA (i:Int) (v:V):Bool:=if v.kind = 9 /\ v.num = 6 then decide (0 <= refOf v) && decide (refOf v < i) else true
mutual
def V.ahW (i:Int):V -> Bool
 | .mk k n e s kids => ownA i (.mk k n e s kids) && V.ahWs i kids
def V.ahWs (i:Int):List V -> Bool
 | [] => true
 | v :: vs => V.ahW i v && V.ahWs i vs
end
theorem V.ahW_eq (i:Int) (v:V):v.ahW i = (ownA i v && V.ahWs i v.kids):=by obtain ⟨k,n,e,s,kids⟩:=v; rw [V.ahW]; rfl
theorem V.ahWs_app (i:Int):∀ a b:List V,V.ahWs i (a ++ b) = (V.ahWs i a && V.ahWs i b)
 | [],b => by simp [V.ahWs]
 | x :: a,b => by simp only [cons_append,V.ahWs,V.ahWs_app i a b,Bool.and_assoc]
theorem V.ok_self {v:V} (h:v.ok = true):V.selfBy pairsOk v = true:=by
 obtain ⟨k,n,e,s,kids⟩:=v;unfold V.ok at h;simp only [V.rightBy,Bool.and_eq_true] at h;exact h.1.2.2
theorem V.ok_one {v:V} (h:v.ok = true) (h9:v.kind = 9):v.kids.length = 1:=by
 have:=V.ok_self h
 obtain ⟨k,n,e,s,kids⟩:=v;simp only [V.kind] at h9; subst h9
 simp [V.selfBy] at this;exact this.2.2.2
theorem V.ok_leaf {v:V} (h:v.ok = true) (h3:v.kind = 3):v.kids = []:=by
 have:=V.ok_self h
 obtain ⟨k,n,e,s,kids⟩:=v;simp only [V.kind] at h3; subst h3
 simp [V.selfBy] at this;exact this.2.2
theorem zgl (i:Int):∀ (N:Nat) (v:V),v.nodes <= N -> v.ok = true -> v.ahW i = v.ahead i
 | 0,v,hn,_ => by obtain ⟨k,n,e,s,kids⟩:=v; simp only [V.nodes] at hn; omega
 | N + 1,v,hn,hk => by
  have hkids:∀ (l:List V),(∀ (j:Nat) (hj:j < l.length),l[j].nodes <= N /\ l[j].ok = true) -> V.ahWs i l = V.aheads i l:=by
   intro l
   induction l with
   | nil => intro _; rfl
   | cons x l ih =>
    intro h;have h0:=h 0 (Nat.succ_pos _);rw [V.ahWs,V.aheads,zgl i N x h0.1 h0.2,ih fun j hj => h (j + 1) (Nat.succ_lt_succ hj)]
  have hks:=hkids v.kids fun j hj => ⟨V.nodes_kid hn j hj,V.ok_kid hk j hj⟩
  rw [V.ahW_eq,V.ahead_eq,hks,ownA];by_cases h9:v.kind = 9 /\ v.num = 6
  ·rw [if_pos h9,if_pos h9]
   by_cases hr:0 <= refOf v
   ·have h1:=V.ok_one hk h9.1
    have hx:V.aheads i v.kids = true:=by
     match hkk:v.kids,h1 with
     | [x],_ =>
      have hx3:x.kind = 3:=by
       unfold refOf at hr;rw [if_pos h9,hkk] at hr;simp only at hr
       split at hr
       ·rename_i h; exact h.1
       ·exact absurd hr (by decide)
      have hxo:=V.ok_kid hk 0 (by rw [hkk]; exact Nat.succ_pos _);simp only [hkk,getElem_cons_zero] at hxo;rw [V.aheads,V.ahead_eq,if_neg (by omega),V.ok_leaf hxo hx3]; rfl
    rw [hx,Bool.and_true]
   ·rw [decide_eq_false hr]; rfl
  ·rw [if_neg h9,if_neg h9]; rfl
def tabB (vs:List V):Bool:=decide (vs.length <= 60) && allN vs.length (fun i => (vs.getD i (.mk 0 0 0 [] [])).ok && (vs.getD i (.mk 0 0 0 [] [])).ahead i)
theorem zfu {vs:List V} (h:tabB vs = true):vs.length <= 60 /\ ∀ v ∈ vs,v.ok = true:=by
 unfold tabB at h;simp only [Bool.and_eq_true,decide_eq_true_eq] at h;refine ⟨h.1,fun v hv => ?_⟩;obtain ⟨i,hi,rfl⟩:=mem_iff_getElem.1 hv
 have:=zhk h.2 i hi
 simp only [Bool.and_eq_true,zbf hi] at this;exact this.1
theorem zfv {ns:List (L8)} (h:nmsB ns = true):ns.length <= 100 /\ ∀ n ∈ ns,n.length <= 100:=by
 unfold nmsB at h;simp only [Bool.and_eq_true,decide_eq_true_eq] at h;refine ⟨h.1,fun v hv => ?_⟩;obtain ⟨i,hi,rfl⟩:=mem_iff_getElem.1 hv
 have:=zhk h.2 i hi
 unfold nmB at this;simp only [Bool.and_eq_true,decide_eq_true_eq,zbf hi] at this;exact this.2.1
def nmsT:List (L8) -> L8
 | [] => []
 | n :: ns => hd 3 n.length ++ n ++ nmsT ns
theorem zdc:∀ a b:List (L8),nmsT (a ++ b) = nmsT a ++ nmsT b
 | [],b => rfl
 | n :: a,b => by simp only [cons_append,nmsT,zdc a b,append_assoc]
theorem zgm {ns:List (L8)} {i:Nat} (h:i < ns.length):nmsT (ns.take (i + 1)) = nmsT (ns.take i) ++ (hd 3 ns[i].length ++ ns[i]):=by
 rw [take_succ_eq_append_getElem h,zdc]; simp [nmsT]
theorem nmsT_len:∀ {ns:List (L8)} {m:Nat},(∀ n ∈ ns,n.length <= m) -> (nmsT ns).length <= (9 + m) * ns.length
 | [],m,_ => by simp [nmsT]
 | n :: ns,m,h => by
  have h1:=h n (mem_cons_self ..);have h2:=nmsT_len (ns:=ns) (m:=m) fun x hx => h x (mem_cons_of_mem _ hx)
  have h3:=za9 3 n.length;rw [nmsT,length_append,length_append,length_cons,Nat.mul_succ]; omega
theorem zcq:∀ a b:List V,msgs (a ++ b) = msgs a ++ msgs b
 | [],b => by simp [msgs]
 | x :: a,b => by simp only [cons_append,msgs,zcq a b,append_assoc]
theorem zeQ {vs:List V} {i:Nat} (h:i < vs.length):msgs (vs.take (i + 1)) = msgs (vs.take i) ++ msg vs[i]:=by
 rw [take_succ_eq_append_getElem h,zcq]; simp [msgs]
theorem zem {v:V} (h:v.ok = true):(msg v).length <= 1052176:=by
 have h1:=zha v;have h2:v.nodes <= 300:=by unfold V.ok at h; simp only [Bool.and_eq_true,decide_eq_true_eq] at h; exact h.2
 have h3:=V.ok_bulk h;omega
theorem zeR:∀ {vs:List V},(∀ v ∈ vs,v.ok = true) -> (msgs vs).length <= 1052176 * vs.length
 | [],_ => by simp [msgs]
 | v :: vs,h => by
  have h1:=zem (h v (mem_cons_self ..));have h2:=zeR (vs:=vs) fun x hx => h x (mem_cons_of_mem _ hx)
  rw [msgs,length_append,length_cons,Nat.mul_succ]; omega
def dictT (ns:List (L8)) (vs:List V):L8:=hd 4 ns.length ++ nmsT ns ++ hd 4 vs.length ++ msgs vs
def dictP (ns:List (L8)) (vs:List V):L8:=if nmsB ns && tabB vs then dictT ns vs else []
def dictB (ns:List (L8)) (vs:List V):Bool:=(nmsB ns && tabB vs) && decide ((dictT ns vs).length <= 60000)
theorem zgn (ns:List (L8)) (vs:List V):1 <= (dictT ns vs).length:=by
 have:=za9 4 ns.length
 simp only [dictT,length_append]; omega
theorem dictB_P (ns:List (L8)) (vs:List V):dictB ns vs = decide (1 <= ((dictP ns vs).length:Int) /\ ((dictP ns vs).length:Int) <= 60000):=by
 unfold dictB dictP
 have:=zgn ns vs
 cases h:(nmsB ns && tabB vs) with
 | false => simp
 | true => simp only [if_true,Bool.true_and]; exact decide_eq_decide.2 (by omega)
theorem zcC {s:L8} {i m n:Nat} (hm:m <= 7) (hn:n < 18446744073709551616) (hi:i <= s.length) (h:At s i (hd m n)):getHd s i = some (m,n,i + (hd m n).length):=by
 have hlen:=h.len hi
 have long:∀ k,k <= 3 -> n < 256 ^ (2 ^ k) -> hd m n = be 1 (m * 32 + (24 + k)) ++ be (2 ^ k) n -> getHd s i = some (m,n,i + (hd m n).length):=by
  intro k hk hnk he;have hl1:(hd m n).length = 1 + 2 ^ k:=by rw [he,length_append,zab,zab]
  rw [hl1] at hlen ⊢;rw [he] at h;obtain ⟨h1,h2⟩:=At.cons (show At s i (byteOf (m * 32 + (24 + k)) :: be (2 ^ k) n) from h);have hb:(byteOf (m * 32 + (24 + k))).toNat = m * 32 + (24 + k):=by rw [zaE]; omega
  have ht:=h2.take;rw [zab] at ht;unfold getHd anyHd;rw [h1];simp only [hb];rw [if_neg (by omega),if_neg (by omega),show (m * 32 + (24 + k)) % 32 - 24 = k by omega,if_neg (by omega),ht,zft,Nat.mod_eq_of_lt hnk,show (m * 32 + (24 + k)) / 32 = m by omega];simp only [hl1];rw [if_pos (by omega),show i + 1 + 2 ^ k = i + (1 + 2 ^ k) by omega]
 by_cases h1:n < 24
 ·have he:hd m n = be 1 (m * 32 + n):=by unfold hd; rw [if_pos h1]
  have hl1:(hd m n).length = 1:=by rw [he,zab]
  rw [hl1];rw [he] at h;obtain ⟨h2,_⟩:=At.cons (show At s i (byteOf (m * 32 + n) :: []) from h);have hb:(byteOf (m * 32 + n)).toNat = m * 32 + n:=by rw [zaE]; omega
  unfold getHd anyHd;rw [h2];simp only [hb];rw [if_pos (by omega),show (m * 32 + n) % 32 = n by omega,show (m * 32 + n) / 32 = m by omega];simp only [hl1,if_true]
 ·by_cases h2:n < 256
  ·exact long 0 (by decide) (by simpa using h2) (by unfold hd; rw [if_neg h1,if_pos h2])
  ·by_cases h3:n < 65536
   ·exact long 1 (by decide) (by simpa using h3) (by unfold hd; rw [if_neg h1,if_neg h2,if_pos h3])
   ·by_cases h4:n < 4294967296
    ·exact long 2 (by decide) (by simpa using h4) (by unfold hd; rw [if_neg h1,if_neg h2,if_neg h3,if_pos h4])
    ·exact long 3 (by decide) (by simpa using hn) (by unfold hd; rw [if_neg h1,if_neg h2,if_neg h3,if_neg h4])
end
section
open Go.Lib (validD)
variable {T:World -> Prop} {hT:Low ngl T}
attribute [local irreducible] po mw pt
theorem zcr {C:Cx} {W:World} {l:L8} {y:Value} (h:RpV C W (.d (pS l)) y):y = .string ⟨l.toArray⟩:=by
 cases h with
 | d _ _ h => cases h; rfl
theorem rd_strRow {w:World} {ls:List (L8)} {v:Value} (h:Rd w (dSs ls) [v]):StrRow w v ls:=by
 obtain ⟨a,c,rfl,hg⟩:=h.strs;exact ⟨a,c,rfl,fun hne => by obtain ⟨_,_,b,o,ha,_,hc⟩:=hg hne; exact ⟨b,o,ha,hc⟩⟩
theorem l11d_fn (ks:List (L8)) (key:L8) (hl:ks.length <= 4294967295):FnV (env T hT) 163 [.d (pSs ks),.d (pS key)] (.d (pI (ixF ks key 0))):=by
 refine FnV.old rfl ?_;intro w C vs hF hng hT hl2 hv
 match vs,hl2 with
 | [v,k],_ =>
  have h1:=vRd1 hF (dSs_wf ks) (dSs_pc ks) (hv 0 _ _ rfl rfl);have h2:=zcr (hv 1 _ _ rfl rfl);subst h2;exact l11At_any ks v key w (rd_strRow h1) (by omega)
theorem ks_arg (ks:List (L8)) (key:L8):PV.dats [.d (pSs ks),.d (pS key)] = some [.d (pSs ks),.d (pS key)]:=congrArg (fun x => some [PV.d x,PV.d (pS key)]) (pSs_er ks)
theorem dats_ks {ks:List (L8)} {key:L8} {a b:PV} (ha:a = .d (pSs ks)) (hb:b = .d (pS key)):PV.dats [a,b] = some [.d (pSs ks),.d (pS key)]:=by subst ha; subst hb; exact ks_arg ks key
theorem toks_fn (l:L8) (hl:l.length <= 4294967295):FnV (env T hT) 162 [.d (pS l)] (.d (pB (validD l))):=by
 refine FnV.old rfl fun w C vs hF _ _ hlen hv => ?_
 match vs,hlen with
 | [x],_ =>
  have h1:=zcr (hv 0 _ _ rfl rfl);subst h1;exact zcS l w hl
theorem head_fn (m n:Int) (hm:0 <= m /\ m <= 7) (hn:0 <= n /\ n <= 18446744073709551615):FnV (env T hT) 122 [.d (pI m),.d (.v (.int .u64 n))] (.d (pS (hd m.toNat n.toNat))):=by
 refine FnV.old rfl fun w C vs hF _ _ hlen hv => ?_
 match vs,hlen with
 | [x,y],_ =>
  have h1:=zbj (hv 0 _ _ rfl rfl); have h2:=zbj (hv 1 _ _ rfl rfl)
  subst h1; subst h2
  exact zcp m n w hm hn
theorem nmsB_no {ns:List (L8)} {i:Nat} (h:i < ns.length) (hb:nmB ns i = false):nmsB ns = false:=by unfold nmsB; rw [zhj i h hb,Bool.and_false]
theorem zcs {n:Nat} {f:Nat -> Bool} (h:allN n f = true) (k:f n = true):allN (n + 1) f = true:=allN_yes fun i hi => by
 rcases Nat.lt_or_ge i n with h' | h'
 ·exact zhk h i h'
 ·obtain rfl:i = n:=by omega
  exact k
def NkI (ns:List (L8)) (m:Nat) (st:St):Prop:=∃ i:Nat,i <= ns.length /\ m = ns.length - i /\ has st.tm [(0,.d (pSs ns)),(3,.d (pI i))] /\ allN i (nmB ns) = true
theorem namesOk_fn (ns:List (L8)) (hl:ns.length <= 4294967295) (hbn:∀ n ∈ ns,n.length <= 4294967295):FnV (env T hT) 120 [.d (pSs ns)] (.d (pB (nmsB ns))):=by
 refine zaV (zak zgi) (by show 1 <= 37; decide) fun B hB => ?_
 unfold m_s_NamesOk;refine mP ?_;refine zau (fun s => has s.tm [(0,.d (pSs ns))] /\ allN ns.length (nmB ns) = true) ?_ ?_
 ·refine mP ?_
  refine zag ?_;refine zaz (NkI ns) ns.length ⟨0,Nat.zero_le _,rfl,⟨rfl,rfl,trivial⟩,rfl⟩ ?_;rintro m tm bx nt live ⟨i,hi,rfl,ht,hall⟩;obtain ⟨tm0,rfl⟩:=zae ht;refine mM ?_;(iterate 2 refine mS ?_);refine zaK (n:=ns.length) rfl rfl (za0 ns) ?_;refine po_b rfl rfl (fun b hb => ?_);refine zaa ?_;refine zbe (p:=(i:Int) < ns.length) hb rfl (fun h _ => ?_) (fun h _ => ?_)
  ·have hil:i < ns.length:=by omega
   have hg:=zbf hil [];have hno:=nmsB_no hil;unfold nmB at hno;rw [hg] at hno;have htk:=toks_fn (T:=T) (hT:=hT) ns[i] (hbn ns[i] (getElem_mem hil));refine zaj ?_;refine zah (zag (zah (zad ?_)));(iterate 2 refine mS ?_);refine zaW (es:=pSr ns) (e:=[pS ns[i]]) rfl rfl rfl ⟨by omega,by rw [Int.toNat_natCast]; exact zbz hil⟩ rfl ?_;refine mS ?_;refine zac rfl htk ?_;(iterate 2 refine mS ?_)
   cases hv:validD ns[i] with
   | false =>
    have hF:=hno (by rw [hv]; rfl);refine mZ ?_;(iterate 2 refine mS ?_);refine mZ ?_;refine mT ?_;refine mP ?_;rw [hF]
    exact mR
   | true =>
   (iterate 2 refine mS ?_);refine zaW (es:=pSr ns) (e:=[pS ns[i]]) rfl rfl rfl ⟨by omega,by rw [Int.toNat_natCast]; exact zbz hil⟩ rfl ?_;refine mS ?_;refine po_q (v:=.d (pI ns[i].length)) rfl rfl ?_;by_cases h100:ns[i].length > 100
   ·have hF:=hno (by rw [hv,decide_eq_false (show ¬ ns[i].length <= 100 by omega)]; rfl)
    refine zai rfl rfl (decide_eq_true (by omega)) ?_;(iterate 2 refine mS ?_);refine mZ ?_;refine mT ?_;refine mP ?_;rw [hF];exact mR
   ·refine zam rfl rfl (decide_eq_false (by omega)) ?_
    (iterate 5 refine mS ?_);refine zaW (es:=pSr ns) (e:=[pS ns[i]]) rfl rfl rfl ⟨by omega,by rw [Int.toNat_natCast]; exact zbz hil⟩ rfl ?_;refine mS ?_;refine zaI (b:=true) rfl (fun _ => dats_ks rfl rfl) (fun _ => l11d_fn ns ns[i] hl) ?_;refine mS ?_;refine po_b rfl rfl (fun b2 hb2 => ?_);refine mN ?_
    cases b2 with
    | true =>
     have hF:=hno (by rw [hv,decide_eq_true (show ns[i].length <= 100 by omega),decide_eq_false (show ¬ ixF ns ns[i] 0 = (i:Int) by simpa using hb2)]; rfl);refine mwT ?_;refine mP ?_;rw [hF]
     exact mR
    | false =>
     refine mwF ?_;refine zaj ?_;refine zad ?_;refine mS ?_;refine zaq (n:=((i + 1:Nat):Int)) rfl rfl rfl (by omega) (by omega) ?_;refine mN ?_;exact ⟨ns.length - (i + 1),by omega,i + 1,hil,rfl,⟨rfl,rfl,trivial⟩,zcs hall (by unfold nmB; rw [hg,hv,decide_eq_true (show ns[i].length <= 100 by omega),decide_eq_true (show ixF ns ns[i] 0 = (i:Int) by simpa using hb2)]; rfl)⟩
  ·refine zaH ?_
   have:i = ns.length:=by omega
   subst this;exact ⟨⟨rfl,trivial⟩,hall⟩
 rintro tm bx nt live ⟨ht,hall⟩;obtain ⟨tm0,rfl⟩:=zae ht;refine mQ ?_;refine zaK (n:=ns.length) rfl rfl (za0 ns) ?_;refine po_b rfl rfl (fun b hb => ?_);refine mN ?_
 have:nmsB ns = b:=by rw [hb]; unfold nmsB; rw [hall,Bool.and_true]; exact decide_eq_decide.2 (by omega)
 rw [this];exact mR
end
section
open Go.Lib (validD)
variable {T:World -> Prop} {hT:Low ngl T}
attribute [local irreducible] po mw pt
theorem ref_fn (v:V):FnV (env T hT) 211 [.ag (vC v)] (.d (pI (refOf v))):=by
 refine zaV (zak zhi) (by show 1 <= 38; decide) fun B hB => ?_
 unfold m_s_l12Ref;refine mP ?_;refine mM ?_;(iterate 2 refine mS ?_);by_cases h9:v.kind = 9
 case neg =>
  have hF:refOf v = -1:=by unfold refOf; rw [if_neg (by omega)]
  refine zai rfl rfl (by simpa using h9) ?_;refine mS ?_;refine mZ ?_;(iterate 2 refine mS ?_);refine mZ ?_;(iterate 2 refine mS ?_);refine mZ ?_;(iterate 2 refine mS ?_);refine mZ ?_;refine mT ?_;refine mP ?_;rw [hF];exact mR
 refine zam rfl rfl (by simpa using h9) ?_;(iterate 3 refine mS ?_);by_cases h6:v.num = 6
 case neg =>
  have hF:refOf v = -1:=by unfold refOf; rw [if_neg (by omega)]
  refine zai rfl rfl (by simpa using h6) ?_;(iterate 2 refine mS ?_);refine mZ ?_;(iterate 2 refine mS ?_);refine mZ ?_;(iterate 2 refine mS ?_);refine mZ ?_;refine mT ?_;refine mP ?_;rw [hF];exact mR
 refine zam rfl rfl (by simpa using h6) ?_;(iterate 4 refine mS ?_);refine zaK (n:=v.kids.length) rfl rfl (zbh _) ?_;by_cases h1:v.kids.length = 1
 case neg =>
  have hF:refOf v = -1:=by
   unfold refOf; rw [if_pos ⟨h9,h6⟩]
   split
   ·rename_i h; rw [h] at h1; exact absurd rfl h1
   ·rfl
  refine zai rfl rfl (by simp; omega) ?_;(iterate 2 refine mS ?_);refine mZ ?_;(iterate 2 refine mS ?_);refine mZ ?_;refine mT ?_;refine mP ?_;rw [hF];exact mR
 refine zam rfl rfl (by simp; omega) ?_;obtain ⟨x,hx⟩:∃ x,v.kids = [x]:=length_eq_one_iff.1 h1;have hget:(vK v.kids)[(0:Int).toNat]? = some (vC x):=by rw [hx]; rw [zb4]; rfl
 have hR:refOf v = if x.kind = 3 /\ 0 <= x.num then x.num else -1:=by unfold refOf; rw [if_pos ⟨h9,h6⟩,hx]
 (iterate 4 refine mS ?_);refine zaW (es:=vK v.kids) (e:=vC x) rfl rfl rfl ⟨by omega,hget⟩ rfl ?_;(iterate 2 refine mS ?_);by_cases h3:x.kind = 3
 case neg =>
  have hF:refOf v = -1:=by rw [hR,if_neg (by omega)]
  refine zai rfl rfl (by simpa using h3) ?_;(iterate 2 refine mS ?_);refine mZ ?_;refine mT ?_;refine mP ?_;rw [hF];exact mR
 refine zam rfl rfl (by simpa using h3) ?_;(iterate 4 refine mS ?_);refine zaW (es:=vK v.kids) (e:=vC x) rfl rfl rfl ⟨by omega,hget⟩ rfl ?_;(iterate 2 refine mS ?_);by_cases h0:x.num < 0
 ·have hF:refOf v = -1:=by rw [hR,if_neg (by omega)]
  refine zai rfl rfl (decide_eq_true h0) ?_;refine mT ?_;refine mP ?_;rw [hF];exact mR
 ·have hF:refOf v = x.num:=by rw [hR,if_pos (by omega)]
  refine zam rfl rfl (decide_eq_false h0) ?_;refine mK ?_;refine mO ?_;(iterate 2 refine mS ?_);refine zaW (es:=vK v.kids) (e:=vC x) rfl rfl rfl ⟨by omega,hget⟩ rfl ?_;refine mN ?_;rw [hF];exact mR
def AhP (T:World -> Prop) (hT:Low ngl T) (N:Nat):Prop:=∀ (v:V) (i:Int),v.nodes <= N -> v.ok = true -> FnV (env T hT) 164 [.ag (vC v),.d (pI i)] (.d (pB (v.ahead i)))
def AhI (v:V) (i:Int) (m:Nat) (s:St):Prop:=∃ j:Nat,j <= v.kids.length /\ m = v.kids.length - j /\ has s.tm [(1,.d (pI i)),(2,.ref 0 0),(6,.d (pI j))] /\ s.bx = [vC v] /\ allN j (fun j => (v.kids.getD j (.mk 0 0 0 [] [])).ahead i) = true
theorem ahead_step {N:Nat} (hS:AhP T hT N) (v:V) (i:Int) (hn:v.nodes <= N + 1) (hk:v.ok = true):FnV (env T hT) 164 [.ag (vC v),.d (pI i)] (.d (pB (v.ahead i))):=by
 have hkid:∀ (j:Nat) (h:j < v.kids.length),FnV (env T hT) 164 [.ag (vC v.kids[j]),.d (pI i)] (.d (pB (v.kids[j].ahead i))):=fun j h => hS v.kids[j] i (V.nodes_kid hn j h) (V.ok_kid hk j h)
 refine zaV (zak zfs) (by show 2 <= 39; decide) fun B hB => ?_
 have hkl:=V.ok_len hk;unfold m_s_l12Ahead;have hE:=V.ahead_eq i v;refine mP ?_;refine zau (fun s => has s.tm [(1,.d (pI i)),(2,.ref 0 0)] /\ s.bx = [vC v] /\ ¬ (v.kind = 9 /\ v.num = 6)) ?_ ?_
 ·refine mO ?_
  refine za1 (p:=0) (cs:=vC v) rfl rfl rfl rfl ?_;refine zac (zc6 v) (ref_fn v) ?_;refine mN ?_;refine mO ?_;(iterate 2 refine mS ?_);by_cases h9:v.kind = 9
  ·refine zai rfl rfl (decide_eq_true h9) ?_
   (iterate 3 refine mS ?_);by_cases h6:v.num = 6
   ·rw [if_pos ⟨h9,h6⟩] at hE
    refine zai rfl rfl (decide_eq_true h6) ?_;refine mT ?_;refine mQ ?_;by_cases h0:refOf v ≥ 0
    ·refine zai rfl rfl (decide_eq_true h0) ?_
     (iterate 3 refine mS ?_);refine po_b rfl rfl (fun b hb => ?_);refine mN ?_
     have:v.ahead i = b:=by rw [hE,decide_eq_true (show 0 <= refOf v by omega),hb]; rfl
     rw [this];exact mR
    ·refine zam rfl rfl (decide_eq_false h0) ?_
     refine mS ?_;refine mZ ?_;refine mN ?_
     have:v.ahead i = false:=by rw [hE,decide_eq_false (show ¬ 0 <= refOf v by omega)]; rfl
     rw [this];exact mR
   ·refine zam rfl rfl (decide_eq_false h6) ?_
    refine mK ?_;exact ⟨⟨rfl,rfl,trivial⟩,rfl,fun h => h6 h.2⟩
  ·refine zam rfl rfl (decide_eq_false h9) ?_
   refine mS ?_;refine mZ ?_;refine mK ?_;exact ⟨⟨rfl,rfl,trivial⟩,rfl,fun h => h9 h.1⟩
 rintro tm bx nt live ⟨ht,rfl,h96⟩;obtain ⟨tm0,rfl⟩:=zae ht;rw [if_neg h96,V.aheads_all] at hE;refine zau (fun s => allN v.kids.length (fun j => (v.kids.getD j (.mk 0 0 0 [] [])).ahead i) = true) ?_ ?_
 ·refine mP ?_
  refine zag ?_;refine zaz (AhI v i) v.kids.length ⟨0,Nat.zero_le _,rfl,⟨rfl,rfl,rfl,trivial⟩,rfl,rfl⟩ ?_;rintro m tm bx nt live ⟨j,hj,rfl,ht,rfl,hall⟩;obtain ⟨tm1,rfl⟩:=zae ht;refine mM ?_;(iterate 3 refine mS ?_);refine zaK (n:=v.kids.length) rfl rfl (zbh _) ?_;refine po_b rfl rfl (fun b hb => ?_);refine zaa ?_;refine zbe (p:=(j:Int) < v.kids.length) hb rfl (fun h _ => ?_) (fun h _ => ?_)
  ·have hjl:j < v.kids.length:=by omega
   have hg:=zbf hjl (.mk 0 0 0 [] []);refine zaj ?_;refine zah (zag (zah (zad ?_)));(iterate 3 refine mS ?_);refine zaW (es:=vK v.kids) (e:=vC v.kids[j]) rfl rfl rfl ⟨by omega,by rw [Int.toNat_natCast]; exact zco hjl⟩ rfl ?_;(iterate 2 refine mS ?_);refine zac (dats1i (zfj v.kids[j]) _) (hkid j hjl) ?_;refine mN ?_;refine zaO (t:=!v.kids[j].ahead i) rfl (fun hc => ?_) (fun hc => ?_)
   ·have:v.ahead i = false:=by rw [hE]; exact zhj j hjl (by rw [hg]; simpa using hc)
    refine mP ?_;rw [this];exact mR
   ·refine zaj ?_
    refine zad ?_;refine mS ?_;refine zaq (n:=((j + 1:Nat):Int)) rfl rfl rfl (by omega) (by omega) ?_;refine mN ?_;exact ⟨v.kids.length - (j + 1),by omega,j + 1,hjl,rfl,⟨rfl,rfl,rfl,trivial⟩,rfl,zcs hall (by rw [hg]; simpa using hc)⟩
  ·refine zaH ?_
   have:j = v.kids.length:=by omega
   subst this;exact hall
 intro tm bx nt live hall;refine mP ?_;rw [hE,hall];exact mR
theorem ahead_fn:∀ (N:Nat),AhP T hT N
 | 0,v,i,hn,_ => by obtain ⟨k,n,e,s,kids⟩:=v; simp only [V.nodes] at hn; omega
 | N + 1,v,i,hn,hk => ahead_step (ahead_fn N) v i hn hk
theorem dats_v1 {v:V} {x:Value} {a b:PV} (ha:a = .ag (vC v)) (hb:b = .d (.v x)):PV.dats [a,b] = some [.ag (vC v),.d (.v x)]:=by subst ha; subst hb; exact dats1i (zfj v) x
def TkI (vs:List V) (m:Nat) (st:St):Prop:=∃ i:Nat,i <= vs.length /\ m = vs.length - i /\ has st.tm [(0,.d (.sl 0 (vK vs))),(3,.d (pI i))] /\ allN i (fun i => (vs.getD i (.mk 0 0 0 [] [])).ok && (vs.getD i (.mk 0 0 0 [] [])).ahead i) = true
theorem tabB_no {vs:List V} {i:Nat} (h:i < vs.length) (hb:((vs.getD i (.mk 0 0 0 [] [])).ok && (vs.getD i (.mk 0 0 0 [] [])).ahead i) = false):tabB vs = false:=by unfold tabB; rw [zhj i h hb,Bool.and_false]
theorem tableOk_fn (vs:List V) (hl:vs.length <= 4294967295) (hw:∀ v ∈ vs,v.wf) (hb':∀ v ∈ vs,v.bulk <= 4294967295):FnV (env T hT) 121 [.d (.sl 0 (vK vs))] (.d (pB (tabB vs))):=by
 refine zaV (zak zgj) (by show 1 <= 28; decide) fun B hB => ?_
 unfold m_s_TableOk;refine mP ?_;refine zau (fun s => has s.tm [(0,.d (.sl 0 (vK vs)))] /\ allN vs.length (fun i => (vs.getD i (.mk 0 0 0 [] [])).ok && (vs.getD i (.mk 0 0 0 [] [])).ahead i) = true) ?_ ?_
 ·refine mP ?_
  refine zag ?_;refine zaz (TkI vs) vs.length ⟨0,Nat.zero_le _,rfl,⟨rfl,rfl,trivial⟩,rfl⟩ ?_;rintro m tm bx nt live ⟨i,hi,rfl,ht,hall⟩;obtain ⟨tm0,rfl⟩:=zae ht;refine mM ?_;(iterate 2 refine mS ?_);refine zaK (n:=vs.length) rfl rfl (zbh _) ?_;refine po_b rfl rfl (fun b hb => ?_);refine zaa ?_;refine zbe (p:=(i:Int) < vs.length) hb rfl (fun h _ => ?_) (fun h _ => ?_)
  ·have hil:i < vs.length:=by omega
   have hg:=zbf hil (.mk 0 0 0 [] []);have hno:=tabB_no hil;rw [hg] at hno;have hmem:=getElem_mem hil;have hvk:=vok_fn (T:=T) (hT:=hT) vs[i] (hw _ hmem) (hb' _ hmem);refine zaj ?_;refine zah (zag (zah (zad ?_)));(iterate 2 refine mS ?_);refine zaW (es:=vK vs) (e:=vC vs[i]) rfl rfl rfl ⟨by omega,by rw [Int.toNat_natCast]; exact zco hil⟩ rfl ?_;refine mS ?_;refine zac (zc6 vs[i]) hvk ?_;(iterate 2 refine mS ?_)
   cases hv:vs[i].ok with
   | false =>
    have hF:=hno (by rw [hv]; rfl);refine mZ ?_;refine mT ?_;refine mP ?_;rw [hF]
    exact mR
   | true =>
   have hah:=ahead_fn (T:=T) (hT:=hT) _ vs[i] i lR hv;(iterate 2 refine mS ?_);refine zaW (es:=vK vs) (e:=vC vs[i]) rfl rfl rfl ⟨by omega,by rw [Int.toNat_natCast]; exact zco hil⟩ rfl ?_;refine po_q (v:=.ag (vC vs[i])) rfl rfl ?_;refine mS ?_;refine zaI (b:=true) (args:=[.ag (vC vs[i]),.d (pI i)]) rfl (fun _ => dats_v1 (v:=vs[i]) (x:=.int .i64 i) rfl rfl) (fun _ => hah) ?_;refine mN ?_;refine zaO (t:=!vs[i].ahead i) rfl (fun hc => ?_) (fun hc => ?_)
   ·have hF:=hno (by rw [hv]; simpa using hc)
    refine mP ?_;rw [hF];exact mR
   ·refine zaj ?_
    refine zad ?_;refine mS ?_;refine zaq (n:=((i + 1:Nat):Int)) rfl rfl rfl (by omega) (by omega) ?_;refine mN ?_;exact ⟨vs.length - (i + 1),by omega,i + 1,hil,rfl,⟨rfl,rfl,trivial⟩,zcs hall (by rw [hg,hv]; simpa using hc)⟩
  ·refine zaH ?_
   have:i = vs.length:=by omega
   subst this;exact ⟨⟨rfl,trivial⟩,hall⟩
 rintro tm bx nt live ⟨ht,hall⟩;obtain ⟨tm0,rfl⟩:=zae ht;refine mQ ?_;refine zaK (n:=vs.length) rfl rfl (zbh _) ?_;refine po_b rfl rfl (fun b hb => ?_);refine mN ?_
 have:tabB vs = b:=by rw [hb]; unfold tabB; rw [hall,Bool.and_true]; exact decide_eq_decide.2 (by omega)
 rw [this];exact mR
end
section
open Go.Lib (validD)
variable {T:World -> Prop} {hT:Low ngl T}
attribute [local irreducible] po mw pt
def dC (ns:List (L8)) (vs:List V):List PC:=[pSs ns,.sl 0 (vK vs)]
theorem dC_er (ns:List (L8)) (vs:List V):erL (dC ns vs) = dC ns vs:=by
 show [(pSs ns).er,PC.sl 0 (erLL (vK vs))] = _;rw [pSs_er,vK_er]; rfl
theorem dC_arg (ns:List (L8)) (vs:List V):PV.dats [.ag (dC ns vs)] = some [.ag (dC ns vs)]:=zf3 (dC_er ns vs)
theorem nms_arg (ns:List (L8)):PV.dats [.d (pSs ns)] = some [.d (pSs ns)]:=congrArg (fun x => some [PV.d x]) (pSs_er ns)
theorem tab_arg (vs:List V):PV.dats [.d (.sl 0 (vK vs))] = some [.d (.sl 0 (vK vs))]:=congrArg (fun x => some [PV.d (.sl 0 x)]) (vK_er vs)
theorem dats_tab {vs:List V} {a:PV} (ha:a = .d (.sl 0 (vK vs))):PV.dats [a] = some [.d (.sl 0 (vK vs))]:=by subst ha; exact tab_arg vs
def DSm (ns:List (L8)) (vs:List V):Prop:=ns.length <= 4294967295 /\ (∀ n ∈ ns,n.length <= 4294967295) /\ vs.length <= 4294967295 /\ (∀ v ∈ vs,v.wf) /\ ∀ v ∈ vs,v.bulk <= 4294967295
theorem zcD {ns:List (L8)} (h:nmsB ns = true) (i:Nat):(nmsT (ns.take i)).length <= 10900:=by
 obtain ⟨h1,h2⟩:=zfv h
 have:=nmsT_len (ns:=ns.take i) (m:=100) fun n hn => h2 n (mem_of_mem_take hn)
 have h3:(ns.take i).length <= 100:=by rw [length_take]; omega
 omega
theorem zeS {vs:List V} (h:tabB vs = true) (i:Nat):(msgs (vs.take i)).length <= 63130560:=by
 obtain ⟨h1,h2⟩:=zfu h
 have:=zeR (vs:=vs.take i) fun v hv => h2 v (mem_of_mem_take hv)
 have h3:(vs.take i).length <= 60:=by rw [length_take]; omega
 omega
def PdN (ns:List (L8)) (vs:List V) (m:Nat) (s:St):Prop:=∃ i:Nat,i <= ns.length /\ m = ns.length - i /\ has s.tm [(1,.ref 0 0),(3,.d (pS (hd 4 ns.length ++ nmsT (ns.take i)))),(4,.d (pI i))] /\ s.bx = [dC ns vs]
def PdV (ns:List (L8)) (vs:List V) (m:Nat) (s:St):Prop:=∃ i:Nat,i <= vs.length /\ m = vs.length - i /\ has s.tm [(1,.ref 0 0),(3,.d (pS (hd 4 ns.length ++ nmsT ns ++ hd 4 vs.length ++ msgs (vs.take i)))),(5,.d (pI i))] /\ s.bx = [dC ns vs]
theorem zeT (ns:List (L8)) (vs:List V) (hD:DSm ns vs):FnV (env T hT) 64 [.ag (dC ns vs)] (.d (pS (dictP ns vs))):=by
 obtain ⟨d1,d2,d3,d4,d5⟩:=hD;have hnm:=namesOk_fn (T:=T) (hT:=hT) ns d1 d2;have htb:=tableOk_fn (T:=T) (hT:=hT) vs d3 d4 d5;have hhd:=fun (m n:Nat) (h:m <= 7 /\ n <= 18446744073709551615) => head_fn (T:=T) (hT:=hT) m n (by omega) (by omega)
 refine zaV (zak zgh) (by show 1 <= 67; decide) fun B hB => ?_
 unfold m_s_PutDict;refine mP ?_;refine mM ?_;(iterate 2 refine mS ?_);refine zac (nms_arg ns) hnm ?_;(iterate 2 refine mS ?_)
 cases hn:nmsB ns with
 | false =>
  have hF:dictP ns vs = []:=by unfold dictP; rw [hn]; rfl
  refine mZ ?_;refine mT ?_;refine mP ?_;rw [hF]
  exact mR
 | true =>
 (iterate 2 refine mS ?_);refine zaI (b:=true) (args:=[.d (.sl 0 (vK vs))]) rfl (fun _ => dats_tab rfl) (fun _ => htb) ?_;refine mN ?_
 cases hv:tabB vs with
 | false =>
  have hF:dictP ns vs = []:=by unfold dictP; rw [hn,hv]; rfl
  refine mwT ?_;refine mP ?_;rw [hF]
  exact mR
 | true =>
 have hF:dictP ns vs = dictT ns vs:=by unfold dictP; rw [hn,hv]; rfl
 rw [hF];obtain ⟨n1,n2⟩:=zfv hn;obtain ⟨v1,v2⟩:=zfu hv;have hd4:=za9 4 ns.length;have hd4v:=za9 4 vs.length;have ht0:=zcD hn;have hm0:=zeS hv;have htN:=zcD hn ns.length;rw [take_length] at htN;refine mwF ?_;refine zaj ?_;refine mO ?_;(iterate 2 refine mS ?_);refine zaK (n:=ns.length) rfl rfl (za0 ns) ?_;refine zbs (n:=(ns.length:Int)) rfl rfl (by rw [IntKind.wrap_u64]; omega) ?_;refine zac (args:=[.d (pI (4:Nat)),.d (.v (.int .u64 (ns.length:Nat)))]) rfl (hhd 4 ns.length (by omega)) ?_;refine mN ?_;refine zau (fun s => has s.tm [(1,.ref 0 0),(3,.d (pS (hd 4 ns.length ++ nmsT ns)))] /\ s.bx = [dC ns vs]) ?_ ?_
 ·refine mP ?_
  refine zag ?_;refine zaz (PdN ns vs) ns.length ⟨0,Nat.zero_le _,rfl,⟨rfl,by rw [take_zero]; show _ = PV.d (pS (hd 4 ns.length ++ [])); rw [append_nil]; rfl,rfl,trivial⟩,rfl⟩ ?_;rintro m tm bx nt live ⟨i,hi,rfl,ht,rfl⟩;obtain ⟨tm0,rfl⟩:=zae ht;refine mM ?_;(iterate 3 refine mS ?_);refine zaK (n:=ns.length) rfl rfl (za0 ns) ?_;refine po_b rfl rfl (fun b hb => ?_);refine zaa ?_;refine zbe (p:=(i:Int) < ns.length) hb rfl (fun h _ => ?_) (fun h _ => ?_)
  ·have hil:i < ns.length:=by omega
   have hnl:=n2 _ (getElem_mem hil);have hh3:=za9 3 ns[i].length;have hti:=ht0 i;refine zaj ?_;refine zah (zag (zad ?_));(iterate 4 refine mS ?_);refine zaW (es:=pSr ns) (e:=[pS ns[i]]) rfl rfl rfl ⟨by omega,by rw [Int.toNat_natCast]; exact zbz hil⟩ rfl ?_;refine mS ?_;refine po_q (v:=.d (pI ns[i].length)) rfl rfl ?_;refine zbs (n:=(ns[i].length:Int)) rfl rfl (by rw [IntKind.wrap_u64]; omega) ?_;(iterate 3 refine mS ?_);refine zaW (es:=pSr ns) (e:=[pS ns[i]]) rfl rfl rfl ⟨by omega,by rw [Int.toNat_natCast]; exact zbz hil⟩ rfl ?_;refine mS ?_;refine zac (args:=[.d (pI (3:Nat)),.d (.v (.int .u64 (ns[i].length:Nat)))]) rfl (hhd 3 ns[i].length (by omega)) ?_;refine zax (la:=hd 4 ns.length ++ nmsT (ns.take i)) (lb:=hd 3 ns[i].length) rfl rfl rfl (by rw [length_append]; omega) ?_;refine zax (la:=hd 4 ns.length ++ nmsT (ns.take i) ++ hd 3 ns[i].length) (lb:=ns[i]) rfl rfl rfl (by simp only [length_append]; omega) ?_
   refine mN ?_;refine zad ?_;refine mS ?_;refine zaq (n:=((i + 1:Nat):Int)) rfl rfl rfl (by omega) (by omega) ?_;refine mN ?_;exact ⟨ns.length - (i + 1),by omega,i + 1,hil,rfl,⟨rfl,by rw [zgm hil,<- append_assoc,<- append_assoc]; rfl,rfl,trivial⟩,rfl⟩
  ·refine zaH ?_
   have:i = ns.length:=by omega
   subst this;exact ⟨⟨rfl,by show PV.d (pS (hd 4 ns.length ++ nmsT (ns.take ns.length))) = _; rw [take_length],trivial⟩,rfl⟩
 rintro tm bx nt live ⟨ht,rfl⟩;obtain ⟨tm0,rfl⟩:=zae ht;refine mO ?_;(iterate 3 refine mS ?_);refine zaK (n:=vs.length) rfl rfl (zbh vs) ?_;refine zbs (n:=(vs.length:Int)) rfl rfl (by rw [IntKind.wrap_u64]; omega) ?_;refine zac (args:=[.d (pI (4:Nat)),.d (.v (.int .u64 (vs.length:Nat)))]) rfl (hhd 4 vs.length (by omega)) ?_;refine zax (la:=hd 4 ns.length ++ nmsT ns) (lb:=hd 4 vs.length) rfl rfl rfl (by rw [length_append]; omega) ?_;refine mN ?_;refine zau (fun s => has s.tm [(3,.d (pS (dictT ns vs)))]) ?_ ?_
 ·refine mP ?_
  refine zag ?_;refine zaz (PdV ns vs) vs.length ⟨0,Nat.zero_le _,rfl,⟨rfl,by rw [take_zero]; show _ = PV.d (pS (hd 4 ns.length ++ nmsT ns ++ hd 4 vs.length ++ [])); rw [append_nil]; rfl,rfl,trivial⟩,rfl⟩ ?_;rintro m tm bx nt live ⟨i,hi,rfl,ht,rfl⟩;obtain ⟨tm0,rfl⟩:=zae ht;refine mM ?_;(iterate 3 refine mS ?_);refine zaK (n:=vs.length) rfl rfl (zbh vs) ?_;refine po_b rfl rfl (fun b hb => ?_);refine zaa ?_;refine zbe (p:=(i:Int) < vs.length) hb rfl (fun h _ => ?_) (fun h _ => ?_)
  ·have hil:i < vs.length:=by omega
   have hmem:=getElem_mem hil;have hok:=v2 _ hmem;have hmi:=hm0 i;have hml:=zem hok;have hpm:=zgf (T:=T) (hT:=hT) vs[i] (d4 _ hmem) (d5 _ hmem);unfold msgTop at hpm;rw [if_pos hok] at hpm;refine zaj ?_;refine zah (zag (zad ?_));(iterate 4 refine mS ?_);refine zaW (es:=vK vs) (e:=vC vs[i]) rfl rfl rfl ⟨by omega,by rw [Int.toNat_natCast]; exact zco hil⟩ rfl ?_;refine po_q (v:=.ag (vC vs[i])) rfl rfl ?_;refine zac (zc6 vs[i]) hpm ?_;refine zax (la:=hd 4 ns.length ++ nmsT ns ++ hd 4 vs.length ++ msgs (vs.take i)) (lb:=msg vs[i]) rfl rfl rfl (by simp only [length_append]; omega) ?_;refine mN ?_;refine zad ?_;refine mS ?_;refine zaq (n:=((i + 1:Nat):Int)) rfl rfl rfl (by omega) (by omega) ?_;refine mN ?_;exact ⟨vs.length - (i + 1),by omega,i + 1,hil,rfl,⟨rfl,by rw [zeQ hil,<- append_assoc]; rfl,rfl,trivial⟩,rfl⟩
  ·refine zaH ?_
   have:i = vs.length:=by omega
   subst this;exact ⟨by show PV.d (pS (hd 4 ns.length ++ nmsT ns ++ hd 4 vs.length ++ msgs (vs.take vs.length))) = _; rw [take_length]; rfl,trivial⟩
 rintro tm bx nt live ht;obtain ⟨tm0,rfl⟩:=zae ht;refine mP ?_;exact mR
theorem dictOk_fn (ns:List (L8)) (vs:List V) (hD:DSm ns vs):FnV (env T hT) 63 [.ag (dC ns vs)] (.d (pB (dictB ns vs))):=by
 have hpd:=zeT (T:=T) (hT:=hT) ns vs hD;have hin:=zdr (T:=T) (hT:=hT) ((dictP ns vs).length:Int) 1 60000;rw [<- dictB_P] at hin;refine zaV (zak zhh) (by show 1 <= 7; decide) fun B hB => ?_
 unfold m_s_DictOk;refine mP ?_;refine mO ?_;refine za1 (p:=0) (cs:=dC ns vs) rfl rfl rfl rfl ?_;refine zac (dC_arg ns vs) hpd ?_;refine po_q (v:=.d (pI (dictP ns vs).length)) rfl rfl ?_;refine zac (args:=[.d (pI (dictP ns vs).length),.d (pI 1),.d (pI 60000)]) rfl hin ?_;refine mN ?_;exact mR
end
section
def m_s_GetMsg:M:=so [⟨some 4,.zero [.int .i64 0,.int .i64 0,.int .i64 0,.string ⟨[].toArray⟩,.slice none 0 0],none,[]⟩,qo 5 (.mv (ci 0))] (.seq (so [qm 9 1,qo 10 (.bin .lss false 9 (ci 0)),qm 11 10,qg 12 1 11 false,qg 13 0 11 false,⟨some 14,.lens 13,some (11,false),[]⟩,⟨some 15,.bin .geq false 12 14,some (11,false),[]⟩,qo 16 (.pick 11 (cB true) 15)] (.cond 16 (so [⟨some 17,.build [.int .i64 0,.int .i64 0,.int .i64 0,.string ⟨[].toArray⟩,.slice none 0 0] [],none,[]⟩,qS 5 4 17,qo 5 (.mv (ci (-1)))] .ret) .skip)) (so [qm 18 0,⟨some 19,.build [.string ⟨[].toArray⟩,.int .i64 0] [(0,1,18),(1,1,ci 300)],none,[]⟩,qo 20 (.box 19),qm 6 20] (so [qm 22 6,qm 23 1,qc 24 161 [22,23,ci 0] 1,qm 21 24,qe 25 21 0,qe 26 21 1,⟨some 7,.zero [.int .i64 0,.int .i64 0,.int .i64 0,.string ⟨[].toArray⟩,.slice none 0 0],none,[]⟩,qS 5 7 25,qm 8 26] (.seq (so [qm 27 8,qo 28 (.bin .lss false 27 (ci 0)),qm 29 28,⟨some 30,.load true 5 7,some (29,false),[]⟩,qg 32 0 29 false,qg 33 1 29 false,qg 34 8 29 false,⟨some 35,.slcs 32 (some 33) (some 34),some (29,false),[]⟩,⟨some 31,.call 123 [30],some (29,false),[.f 0]⟩,⟨some 36,.bin .neq false 31 35,some (29,false),[]⟩,qo 37 (.pick 29 (cB true) 36)] (.cond 37 (so [⟨some 38,.build [.int .i64 0,.int .i64 0,.int .i64 0,.string ⟨[].toArray⟩,.slice none 0 0] [],none,[]⟩,qS 5 4 38,qo 5 (.mv (ci (-1)))] .ret) .skip)) (so [qL 39 5 7,qm 40 8,qS 5 4 39,qm 5 40] .ret)))))
theorem zhl:look Tryz.prog 119 = some (41,m_s_GetMsg,[.cell true 5 4,.tm 5]):=by kernel_rfl
def m_s_l06Get:M:=so [⟨some 6,.zero [.int .i64 0,.int .i64 0,.int .i64 0,.string ⟨[].toArray⟩,.slice none 0 0],none,[]⟩,qo 7 (.mv (ci 0))] (so [qm 13 0,qo 14 (.nilc 13),qF 15 1 14,ql 16 1 15,qo 17 (.bin .sub false 16 (ci 1)),qo 18 (.nilc 13),qF 19 1 18,qS 1 19 17] (.seq (so [qm 20 0,qo 21 (.nilc 20),qF 22 1 21,ql 23 1 22,qo 24 (.bin .lss false 23 (ci 0)),qm 25 24,qg 26 2 25 false,⟨some 27,.bin .gtr false 26 (ci 12),some (25,false),[]⟩,qo 28 (.pick 25 (cB true) 27),qm 29 28,qg 30 1 29 false,qg 31 0 29 false,⟨some 32,.nilc 31,some (29,false),[]⟩,⟨some 33,.fld 0 32,some (29,false),[]⟩,⟨some 34,.load false 1 33,some (29,false),[]⟩,⟨some 35,.lens 34,some (29,false),[]⟩,⟨some 36,.bin .geq false 30 35,some (29,false),[]⟩,qo 37 (.pick 29 (cB true) 36)] (.cond 37 (so [⟨some 38,.build [.int .i64 0,.int .i64 0,.int .i64 0,.string ⟨[].toArray⟩,.slice none 0 0] [],none,[]⟩,qS 5 6 38,qo 7 (.mv (ci (-1)))] .ret) .skip)) (so [qm 39 0,qo 40 (.nilc 39),qF 41 0 40,ql 42 1 41,qm 43 1,qo 44 (.ixs 42 43),qo 45 (.conv .i64 44),qm 8 45] (so [qm 46 1,qo 47 (.bin .add false 46 (ci 1)),qm 1 47] (.seq (.block 0 (so [qm 49 8,qo 50 (.bin .lss false 49 (ci 128)),qm 48 50] (.cond 48 (so [qm 51 8,qc 52 204 [51] 1,qm 53 1,qS 5 6 52,qm 7 53] .ret) (so [qm 55 8,qo 56 (.bin .lss false 55 (ci 144)),qm 54 56] (.cond 54 (so [qm 57 0,qm 58 1,qm 59 8,qo 60 (.bin .sub false 59 (ci 128)),qo 61 (.bin .mul false (ci 2) 60),qm 62 2,qc 63 205 [57,58,ci 8,61,cB true,62] 1,qe 64 63 0,qe 65 63 1,qS 5 6 64,qm 7 65] .ret) (so [qm 67 8,qo 68 (.bin .lss false 67 (ci 160)),qm 66 68] (.cond 66 (so [qm 69 0,qm 70 1,qm 71 8,qo 72 (.bin .sub false 71 (ci 144)),qm 73 2,qc 74 205 [69,70,ci 7,72,cB true,73] 1,qe 75 74 0,qe 76 74 1,qS 5 6 75,qm 7 76] .ret) (so [qm 78 8,qo 79 (.bin .lss false 78 (ci 192)),qm 77 79] (.cond 77 (so [qm 80 0,qm 81 1,qm 82 8,qo 83 (.bin .sub false 82 (ci 160)),qc 84 206 [80,81,ci 5,83,cB true] 1,qe 85 84 0,qe 86 84 1,qS 5 6 85,qm 7 86] .ret) (so [qm 88 8,qo 89 (.bin .geq false 88 (ci 224)),qm 87 89] (.cond 87 (so [qm 90 8,qo 91 (.bin .sub false 90 (ci 256)),qc 92 204 [91] 1,qm 93 1,qS 5 6 92,qm 7 93] .ret) (so [qm 95 8,qo 96 (.bin .eql false 95 (ci 192)),qm 94 96] (.cond 94 (so [⟨some 97,.build [.int .i64 0,.int .i64 0,.int .i64 0,.string ⟨[].toArray⟩,.slice none 0 0] [],none,[]⟩,qm 98 1,qS 5 6 97,qm 7 98] .ret) (so [qm 100 8,qo 101 (.bin .eql false 100 (ci 194)),qm 102 101,qg 103 8 102 false,⟨some 104,.bin .eql false 103 (ci 195),some (102,false),[]⟩,qo 105 (.pick 102 (cB true) 104),qm 99 105] (.cond 99 (so [qm 106 8,qo 107 (.bin .sub false 106 (ci 193)),⟨some 108,.build [.int .i64 0,.int .i64 0,.int .i64 0,.string ⟨[].toArray⟩,.slice none 0 0] [(0,1,107)],none,[]⟩,qm 109 1,qS 5 6 108,qm 7 109] .ret) (so [qm 111 8,qc 112 103 [111,ci 204,ci 211] 1,qm 110 112] (.cond 110 (so [qm 113 0,qm 114 1,qm 115 8,qc 116 207 [113,114,115] 1,qe 117 116 0,qe 118 116 1,qS 5 6 117,qm 7 118] .ret) (so [qm 120 8,qo 121 (.bin .eql false 120 (ci 199)),qm 119 121] (.cond 119 (so [qm 122 0,qm 123 1,qm 124 2,qc 125 208 [122,123,124] 1,qe 126 125 0,qe 127 125 1,qS 5 6 126,qm 7 127] .ret) .skip))))))))))))))))))) (so [qm 129 0,qo 130 (.nilc 129),qF 131 0 130,ql 132 1 131,qm 133 1,qc 134 209 [132,133,ci 1] 1,qm 128 134,qe 135 128 0,qe 136 128 1,qm 9 135,qm 10 136] (so [qm 138 0,qo 139 (.nilc 138),qF 140 0 139,ql 141 1 140,qm 142 1,qc 143 209 [141,142,ci 2] 1,qm 137 143,qe 144 137 0,qe 145 137 1,qm 11 144,qm 12 145] (.seq (so [qm 146 8] (.block 1 (so [qo 148 (.bin .eql false 146 (ci 217)),qm 147 148] (.cond 147 (so [qm 149 0,qm 150 1,qo 151 (.bin .add false 150 (ci 1)),qm 152 9,qm 153 10,qc 154 206 [149,151,ci 5,152,153] 1,qe 155 154 0,qe 156 154 1,qS 5 6 155,qm 7 156] .ret) (so [qo 158 (.bin .eql false 146 (ci 218)),qm 157 158] (.cond 157 (so [qm 159 0,qm 160 1,qo 161 (.bin .add false 160 (ci 2)),qm 162 11,qm 163 12,qc 164 206 [159,161,ci 5,162,163] 1,qe 165 164 0,qe 166 164 1,qS 5 6 165,qm 7 166] .ret) (so [qo 168 (.bin .eql false 146 (ci 196)),qm 167 168] (.cond 167 (so [qm 169 0,qm 170 1,qo 171 (.bin .add false 170 (ci 1)),qm 172 9,qm 173 10,qc 174 206 [169,171,ci 6,172,173] 1,qe 175 174 0,qe 176 174 1,qS 5 6 175,qm 7 176] .ret) (so [qo 178 (.bin .eql false 146 (ci 197)),qm 177 178] (.cond 177 (so [qm 179 0,qm 180 1,qo 181 (.bin .add false 180 (ci 2)),qm 182 11,qm 183 12,qc 184 206 [179,181,ci 6,182,183] 1,qe 185 184 0,qe 186 184 1,qS 5 6 185,qm 7 186] .ret) (so [qo 188 (.bin .eql false 146 (ci 220)),qm 187 188] (.cond 187 (so [qm 189 0,qm 190 1,qo 191 (.bin .add false 190 (ci 2)),qm 192 11,qm 193 12,qm 194 2,qc 195 205 [189,191,ci 7,192,193,194] 1,qe 196 195 0,qe 197 195 1,qS 5 6 196,qm 7 197] .ret) (so [qo 199 (.bin .eql false 146 (ci 222)),qm 198 199] (.cond 198 (so [qm 200 0,qm 201 1,qo 202 (.bin .add false 201 (ci 2)),qm 203 11,qo 204 (.bin .mul false (ci 2) 203),qm 205 12,qm 206 2,qc 207 205 [200,202,ci 8,204,205,206] 1,qe 208 207 0,qe 209 207 1,qS 5 6 208,qm 7 209] .ret) .skip)))))))))))))) (so [⟨some 210,.build [.int .i64 0,.int .i64 0,.int .i64 0,.string ⟨[].toArray⟩,.slice none 0 0] [],none,[]⟩,qS 5 6 210,qo 7 (.mv (ci (-1)))] .ret)))))))))
theorem zhm:look Tryz.prog 161 = some (211,m_s_l06Get,[.cell true 5 6,.tm 7]):=by kernel_rfl
def m_s_l02Int:M:=so [⟨some 2,.zero [.int .i64 0,.int .i64 0,.int .i64 0,.string ⟨[].toArray⟩,.slice none 0 0],none,[]⟩] (so [qm 3 0,⟨some 4,.build [.int .i64 0,.int .i64 0,.int .i64 0,.string ⟨[].toArray⟩,.slice none 0 0] [(0,1,ci 3),(1,1,3)],none,[]⟩,qS 5 2 4] .ret)
theorem zhn:look Tryz.prog 204 = some (5,m_s_l02Int,[.cell true 5 2]):=by kernel_rfl
def m_s_l06Kids:M:=so [⟨some 12,.zero [.int .i64 0,.int .i64 0,.int .i64 0,.string ⟨[].toArray⟩,.slice none 0 0],none,[]⟩,qo 13 (.mv (ci 0))] (so [qm 18 2,⟨some 19,.build [.int .i64 0,.int .i64 0,.int .i64 0,.string ⟨[].toArray⟩,.slice none 0 0] [(0,1,18)],none,[]⟩,⟨some 14,.zero [.int .i64 0,.int .i64 0,.int .i64 0,.string ⟨[].toArray⟩,.slice none 0 0],none,[]⟩,qS 5 14 19] (.seq (so [qm 20 4,qo 21 (.not 20),qm 22 21,qg 23 3 22 false,⟨some 24,.bin .gtr false 23 (ci 600),some (22,false),[]⟩,qo 25 (.pick 22 (cB true) 24)] (.cond 25 (so [qL 26 5 14,qS 5 12 26,qo 13 (.mv (ci (-1)))] .ret) .skip)) (.seq (so [qo 15 (.mv (ci 0))] (.block 0 (.loop (.seq (so [qm 27 15,qm 28 3,qo 29 (.bin .lss false 27 28)] (.cond 29 .skip (.exit 0))) (.seq (.block 1 (so [qm 33 0,qm 34 1,qm 35 5,qo 36 (.bin .add false 35 (ci 1)),qc 37 161 [33,34,36] 1,qm 32 37,qe 38 32 0,qe 39 32 1,⟨some 16,.zero [.int .i64 0,.int .i64 0,.int .i64 0,.string ⟨[].toArray⟩,.slice none 0 0],none,[]⟩,qS 5 16 38,qm 17 39] (.seq (so [qm 40 17,qo 41 (.bin .lss false 40 (ci 0))] (.cond 41 (so [qL 42 5 14,qS 5 12 42,qo 13 (.mv (ci (-1)))] .ret) .skip)) (so [qF 43 4 14,ql 44 1 43,qL 45 5 16,qo 46 (.lit 5 [45]),⟨some 47,.app 5 44 46,none,[.f 1]⟩,qF 48 4 14,qS 1 48 47] (.ops [qm 49 17,qm 1 49]))))) (.ops [qm 30 15,qo 31 (.bin .add false 30 (ci 1)),qm 15 31])))))) (so [qL 50 5 14,qm 51 1,qS 5 12 50,qm 13 51] .ret))))
theorem zgo:look Tryz.prog 205 = some (52,m_s_l06Kids,[.cell true 5 12,.tm 13]):=by kernel_rfl
def m_s_l06Str:M:=so [⟨some 10,.zero [.int .i64 0,.int .i64 0,.int .i64 0,.string ⟨[].toArray⟩,.slice none 0 0],none,[]⟩,qo 11 (.mv (ci 0))] (.seq (so [qm 12 4,qo 13 (.not 12),qm 14 13,qg 15 3 14 false,qg 16 0 14 false,⟨some 17,.nilc 16,some (14,false),[]⟩,⟨some 18,.fld 0 17,some (14,false),[]⟩,⟨some 19,.load false 1 18,some (14,false),[]⟩,⟨some 20,.lens 19,some (14,false),[]⟩,qg 21 1 14 false,⟨some 22,.bin .sub false 20 21,some (14,false),[]⟩,⟨some 23,.bin .gtr false 15 22,some (14,false),[]⟩,qo 24 (.pick 14 (cB true) 23)] (.cond 24 (so [⟨some 25,.build [.int .i64 0,.int .i64 0,.int .i64 0,.string ⟨[].toArray⟩,.slice none 0 0] [],none,[]⟩,qS 5 10 25,qo 11 (.mv (ci (-1)))] .ret) .skip)) (so [qm 26 2,qm 27 0,qo 28 (.nilc 27),qF 29 0 28,ql 30 1 29,qm 31 1,qm 32 1,qm 33 3,qo 34 (.bin .add false 32 33),qo 35 (.slcs 30 (some 31) (some 34)),⟨some 36,.build [.int .i64 0,.int .i64 0,.int .i64 0,.string ⟨[].toArray⟩,.slice none 0 0] [(0,1,26),(3,1,35)],none,[]⟩,qm 37 1,qm 38 3,qo 39 (.bin .add false 37 38),qS 5 10 36,qm 11 39] .ret))
theorem zho:look Tryz.prog 206 = some (40,m_s_l06Str,[.cell true 5 10,.tm 11]):=by kernel_rfl
def m_s_l06Wide:M:=so [⟨some 6,.zero [.int .i64 0,.int .i64 0,.int .i64 0,.string ⟨[].toArray⟩,.slice none 0 0],none,[]⟩,qo 7 (.mv (ci 0))] (so [qo 11 (.lit 1 [ci 1,ci 2,ci 4,ci 8]),qm 12 2,qo 13 (.bin .and false 12 (ci 3)),qo 14 (.ix 1 11 13),ql 15 1 14,qm 8 15] (so [qm 17 0,qo 18 (.nilc 17),qF 19 0 18,ql 20 1 19,qm 21 1,qm 22 8,qc 23 209 [20,21,22] 1,qm 16 23,qe 24 16 0,qe 25 16 1,qm 9 24,qm 10 25] (.seq (so [qm 26 10,qo 27 (.not 26)] (.cond 27 (so [⟨some 28,.build [.int .i64 0,.int .i64 0,.int .i64 0,.string ⟨[].toArray⟩,.slice none 0 0] [],none,[]⟩,qS 5 6 28,qo 7 (.mv (ci (-1)))] .ret) .skip)) (.seq (so [qm 29 2,qo 30 (.bin .geq false 29 (ci 208))] (.cond 30 (.ops [qm 31 9,qm 32 8,qc 33 231 [31,32] 1,qm 9 33]) .skip)) (so [qm 34 9,qc 35 204 [34] 1,qm 36 1,qm 37 8,qo 38 (.bin .add false 36 37),qS 5 6 35,qm 7 38] .ret)))))
theorem zgp:look Tryz.prog 207 = some (39,m_s_l06Wide,[.cell true 5 6,.tm 7]):=by kernel_rfl
def m_s_l06Ext:M:=so [⟨some 6,.zero [.int .i64 0,.int .i64 0,.int .i64 0,.string ⟨[].toArray⟩,.slice none 0 0],none,[]⟩,qo 7 (.mv (ci 0))] (so [qm 21 0,qo 22 (.nilc 21),qF 23 0 22,ql 24 1 23,qm 25 1,qc 26 209 [24,25,ci 1] 1,qm 20 26,qe 27 20 0,qe 28 20 1,qm 8 27,qm 9 28] (so [qm 30 0,qo 31 (.nilc 30),qF 32 0 31,ql 33 1 32,qm 34 1,qo 35 (.bin .add false 34 (ci 1)),qc 36 209 [33,35,ci 1] 1,qm 29 36,qe 37 29 0,qe 38 29 1,qm 10 37,qm 11 38] (.seq (.block 0 (so [qm 40 9,qo 41 (.not 40),qm 42 41,qg 43 11 42 false,⟨some 44,.not 43,some (42,false),[]⟩,qo 45 (.pick 42 (cB true) 44),qm 39 45] (.cond 39 (so [⟨some 46,.build [.int .i64 0,.int .i64 0,.int .i64 0,.string ⟨[].toArray⟩,.slice none 0 0] [],none,[]⟩,qS 5 6 46,qo 7 (.mv (ci (-1)))] .ret) (so [qm 48 8,qo 49 (.bin .eql false 48 (ci 9)),qm 50 49,qg 51 10 50 true,⟨some 52,.bin .eql false 51 (ci 4),some (50,true),[]⟩,qo 53 (.pick 50 52 (cB false)),qm 47 53] (.cond 47 (so [qm 55 0,qo 56 (.nilc 55),qF 57 0 56,ql 58 1 57,qm 59 1,qo 60 (.bin .add false 59 (ci 2)),qc 61 209 [58,60,ci 1] 1,qm 54 61,qe 62 54 0,qe 63 54 1,qm 12 62,qm 13 63] (so [qm 65 0,qo 66 (.nilc 65),qF 67 0 66,ql 68 1 67,qm 69 1,qo 70 (.bin .add false 69 (ci 3)),qc 71 209 [68,70,ci 8] 1,qm 64 71,qe 72 64 0,qe 73 64 1,qm 14 72,qm 15 73] (.seq (so [qm 74 13,qo 75 (.not 74),qm 76 75,qg 77 15 76 false,⟨some 78,.not 77,some (76,false),[]⟩,qo 79 (.pick 76 (cB true) 78)] (.cond 79 (so [⟨some 80,.build [.int .i64 0,.int .i64 0,.int .i64 0,.string ⟨[].toArray⟩,.slice none 0 0] [],none,[]⟩,qS 5 6 80,qo 7 (.mv (ci (-1)))] .ret) .skip)) (so [qm 81 14,qm 82 12,qc 83 231 [82,ci 1] 1,⟨some 84,.build [.int .i64 0,.int .i64 0,.int .i64 0,.string ⟨[].toArray⟩,.slice none 0 0] [(0,1,ci 4),(1,1,81),(2,1,83)],none,[]⟩,qm 85 1,qo 86 (.bin .add false 85 (ci 11)),qS 5 6 84,qm 7 86] .ret)))) (so [qm 88 8,qo 89 (.bin .eql false 88 (ci 4)),qm 90 89,qg 91 10 90 true,⟨some 92,.bin .eql false 91 (ci 6),some (90,true),[]⟩,qo 93 (.pick 90 92 (cB false)),qm 87 93] (.cond 87 (so [qm 95 0,qo 96 (.nilc 95),qF 97 0 96,ql 98 1 97,qm 99 1,qo 100 (.bin .add false 99 (ci 2)),qc 101 209 [98,100,ci 4] 1,qm 94 101,qe 102 94 0,qe 103 94 1,qm 16 102,qm 17 103] (.seq (so [qm 104 17,qo 105 (.not 104)] (.cond 105 (so [⟨some 106,.build [.int .i64 0,.int .i64 0,.int .i64 0,.string ⟨[].toArray⟩,.slice none 0 0] [],none,[]⟩,qS 5 6 106,qo 7 (.mv (ci (-1)))] .ret) .skip)) (so [qm 108 0,qm 109 1,qo 110 (.bin .add false 109 (ci 6)),qm 111 2,qc 112 205 [108,110,ci 9,ci 1,cB true,111] 1,qm 107 112,qe 113 107 0,qe 114 107 1,⟨some 18,.zero [.int .i64 0,.int .i64 0,.int .i64 0,.string ⟨[].toArray⟩,.slice none 0 0],none,[]⟩,qS 5 18 113,qm 19 114] (so [qm 115 16,qF 116 1 18,qS 1 116 115] (so [qL 117 5 18,qm 118 19,qS 5 6 117,qm 7 118] .ret))))) .skip))))))) (so [⟨some 119,.build [.int .i64 0,.int .i64 0,.int .i64 0,.string ⟨[].toArray⟩,.slice none 0 0] [],none,[]⟩,qS 5 6 119,qo 7 (.mv (ci (-1)))] .ret))))
theorem zhp:look Tryz.prog 208 = some (120,m_s_l06Ext,[.cell true 5 6,.tm 7]):=by kernel_rfl
def m_s_GetWide:M:=so [qo 6 (.mv (ci 0)),qo 7 (.mv (cB false))] (.seq (so [qm 10 2,qc 11 103 [10,ci 1,ci 8] 1,qo 12 (.not 11),qm 13 12,qg 14 1 13 false,⟨some 15,.bin .lss false 14 (ci 0),some (13,false),[]⟩,qo 16 (.pick 13 (cB true) 15),qm 17 16,qg 18 1 17 false,qg 19 0 17 false,⟨some 20,.lens 19,some (17,false),[]⟩,qg 21 2 17 false,⟨some 22,.bin .sub false 20 21,some (17,false),[]⟩,⟨some 23,.bin .gtr false 18 22,some (17,false),[]⟩,qo 24 (.pick 17 (cB true) 23)] (.cond 24 (so [qo 6 (.mv (ci 0)),qo 7 (.mv (cB false))] .ret) .skip)) (so [qo 8 (.mv (.c (.int .u64 0)))] (.seq (so [qo 9 (.mv (ci 0))] (.block 0 (.loop (.seq (so [qm 25 9,qm 26 2,qo 27 (.bin .lss false 25 26)] (.cond 27 .skip (.exit 0))) (.seq (.block 1 (.ops [qm 30 8,qo 31 (.bin .mul false (.c (.int .u64 256)) 30),qm 32 0,qm 33 1,qm 34 9,qo 35 (.bin .add false 33 34),qo 36 (.ixs 32 35),qo 37 (.conv .u64 36),qo 38 (.bin .add false 31 37),qm 8 38])) (.ops [qm 28 9,qo 29 (.bin .add false 28 (ci 1)),qm 9 29])))))) (so [qm 39 8,qo 40 (.conv .i64 39),qm 6 40,qo 7 (.mv (cB true))] .ret))))
theorem zgq:look Tryz.prog 209 = some (41,m_s_GetWide,[.tm 6,.tm 7]):=by kernel_rfl
end
section
variable {T:World -> Prop} {hT:Low ngl T}
theorem zdd {k:Nat} (h:k <= 7):1 <= 256 ^ k /\ 256 ^ k <= 72057594037927936:=⟨Nat.one_le_iff_ne_zero.2 (by simp),Nat.pow_le_pow_right (n:=256) (by decide) h⟩
def SgI (n:Int) (k:Nat) (m:Nat) (s:St):Prop:=∃ i:Nat,i <= k /\ m = k - i /\ has s.tm [(0,.d (pI n)),(1,.d (pI k)),(5,.d (pI (256 ^ i:Nat))),(6,.d (pI i))]
theorem sgn_fn (n:Int) (k:Nat) (hk:1 <= k /\ k <= 8):FnV (env T hT) 231 [.d (pI n),.d (pI k)] (.d (pI (sgw n k))):=by
 refine zaV (zak zg9) (by show 2 <= 30; decide) fun B hB => ?_
 unfold m_s_SignOf;refine mP ?_;refine mM ?_;refine mN ?_;refine zac rfl (zdr k 1 7) ?_;by_cases h7:k <= 7
 ·rw [decide_eq_true (show (1:Int) <= k /\ (k:Int) <= 7 by omega)]
  refine mK ?_;refine mP ?_;refine zau (fun s => ∃ m,SgI n k m s /\ m = 0) ?_ ?_
  ·refine mP ?_
   refine zag ?_;refine zaz (SgI n k) k ⟨0,Nat.zero_le _,rfl,rfl,rfl,rfl,rfl,trivial⟩ ?_;rintro m tm bx nt live ⟨i,hi,rfl,ht⟩;obtain ⟨tm0,rfl⟩:=zae ht;refine mM ?_;(iterate 2 refine mS ?_);refine po_b rfl rfl (fun b hb => ?_);refine zaa ?_;refine zbe (p:=(i:Int) < k) hb rfl (fun h _ => ?_) (fun h _ => ?_)
   ·have hlt:i < k:=by omega
    have hp:=zdd (k:=i + 1) (by omega);refine zaj ?_;refine zah (zag (zad ?_));refine mS ?_;refine zc7 (n:=((256 ^ (i + 1):Nat):Int)) rfl rfl rfl (by rw [Nat.pow_succ]; simp) (by omega) ?_;refine mN ?_;refine zad ?_;refine mS ?_;refine zaq (n:=((i + 1:Nat):Int)) rfl rfl rfl (by omega) (by omega) ?_;refine mN ?_;exact ⟨k - (i + 1),by omega,i + 1,hlt,rfl,rfl,rfl,rfl,rfl,trivial⟩
   ·refine zaH ?_
    exact ⟨0,⟨i,hi,by omega,rfl,rfl,rfl,rfl,trivial⟩,rfl⟩
  rintro tm bx nt live ⟨m,⟨i,hi,rfl,ht⟩,hm⟩;obtain ⟨tm0,rfl⟩:=zae ht
  obtain rfl:i = k:=by omega
  have hp:=zdd (k:=i) h7
  have hand:bits .and .i64 n ((256 ^ i:Nat) - 1:Int) = n % (256 ^ i:Nat):=by
   have e:(256:Nat) ^ i = 2 ^ (8 * i):=by rw [Nat.pow_mul]
   have:=zbE n (8 * i) (by omega) (((256 ^ i:Nat):Int) - 1) (by rw [e]; simp)
   rw [this,e]; simp
  have hm0:=Int.emod_nonneg n (show ((256 ^ i:Nat):Int) ≠ 0 by omega);have hm1:=Int.emod_lt_of_pos n (show (0:Int) < ((256 ^ i:Nat):Int) by omega);refine mO ?_;(iterate 2 refine mS ?_);refine zaQ (n:=((256 ^ i:Nat):Int) - 1) rfl rfl rfl rfl (by omega) ?_;refine po_q (v:=.d (pI (n % (256 ^ i:Nat)))) rfl (by show some (PV.d (.v (.int .i64 (bits .and .i64 n (((256 ^ i:Nat):Int) - 1))))) = _; rw [hand]; rfl) ?_;refine mN ?_;refine mM ?_;(iterate 2 refine mS ?_);refine po_q (v:=.d (pI (256 ^ i / 2:Nat))) rfl (by show some (PV.d (.v (.int .i64 (IntKind.wrap .i64 (((256 ^ i:Nat):Int).tdiv 2))))) = _; rw [Int.tdiv_eq_ediv_of_nonneg (by omega),wrap_lt (by omega) (by omega)]; rfl) ?_;refine po_b rfl rfl (fun b hb => ?_);refine mN ?_;unfold sgw;rw [if_pos (by omega)];refine zbe (p:=n % ((256 ^ i:Nat):Int) ≥ ((256 ^ i / 2:Nat):Int)) hb rfl (fun h _ => ?_) (fun h _ => ?_)
  ·rw [if_pos h]
   refine mO ?_;(iterate 2 refine mS ?_);refine zaQ (n:=n % ((256 ^ i:Nat):Int) - ((256 ^ i:Nat):Int)) rfl rfl rfl rfl (by omega) ?_;refine mN ?_;exact mR
  ·rw [if_neg h]
   refine zaj ?_;refine mP ?_;exact mR
 ·rw [decide_eq_false (show ¬ ((1:Int) <= k /\ (k:Int) <= 7) by omega)]
  refine mT ?_;refine mP ?_;unfold sgw;rw [if_neg (by omega)];exact mR
theorem int_fn (n:Int):FnV (env T hT) 204 [.d (pI n)] (.ag (vC (.mk 3 n 0 [] []))):=by
 refine zaV (zak zhn) (by show 1 <= 5; decide) fun B hB => ?_
 unfold m_s_l02Int;refine mP ?_;refine mP ?_;refine zaw rfl rfl rfl ⟨rfl,Nat.le_of_ble_eq_true rfl⟩ rfl ?_;refine mN ?_;exact mR
def gwV (s:L8) (i k:Nat):PV:=if i + k <= s.length then .tup [.d (pI (IntKind.i64.wrap (valBE ((s.drop i).take k)))),.d (pB true)] else .tup [.d (pI 0),.d (pB false)]
theorem zhq (s:L8) (k:Nat) (hk:k <= 8):valBE (s.take k) < 18446744073709551616:=by
 have h1:=zdb (s.take k);have h2:(s.take k).length <= 8:=by rw [length_take]; omega
 exact Nat.lt_of_lt_of_le h1 (Nat.pow_le_pow_right (n:=256) (by decide) h2)
def GwI (s:L8) (i k:Nat) (m:Nat) (st:St):Prop:=∃ j:Nat,j <= k /\ m = k - j /\ has st.tm [(0,.d (pS s)),(1,.d (pI i)),(2,.d (pI k)),(8,.d (.v (.int .u64 (valBE ((s.drop i).take j):Nat)))),(9,.d (pI j))]
theorem zhr (s:L8) (i k:Nat) (hk:1 <= k /\ k <= 8) (hi:i <= 4611686018427387904) (hl:s.length <= 4611686018427387904):FnV (env T hT) 209 [.d (pS s),.d (pI i),.d (pI k)] (gwV s i k):=by
 refine zaV (zak zgq) (by show 3 <= 41; decide) fun B hB => ?_
 unfold m_s_GetWide;refine mP ?_;refine mM ?_;refine mN ?_;refine zac rfl (zdr k 1 8) ?_;rw [decide_eq_true (show (1:Int) <= k /\ (k:Int) <= 8 by omega)];refine mN ?_;refine zam rfl rfl (decide_eq_false (by omega)) ?_;refine mN ?_;refine zaQ (n:=(s.length:Int) - k) rfl rfl rfl rfl (by omega) ?_;unfold gwV;by_cases hb:i + k <= s.length
 ·rw [if_pos hb]
  refine zam rfl rfl (decide_eq_false (by omega)) ?_;refine mK ?_;refine mP ?_;refine zau (fun st => ∃ m,GwI s i k m st /\ m = 0) ?_ ?_
  ·refine mP ?_
   refine zag ?_;refine zaz (GwI s i k) k ⟨0,Nat.zero_le _,rfl,rfl,rfl,rfl,rfl,rfl,trivial⟩ ?_;rintro m tm bx nt live ⟨j,hj,rfl,ht⟩;obtain ⟨tm0,rfl⟩:=zae ht;refine mM ?_;(iterate 2 refine mS ?_);refine po_b rfl rfl (fun b hb => ?_);refine zaa ?_;refine zbe (p:=(j:Int) < k) hb rfl (fun h _ => ?_) (fun h _ => ?_)
   ·have hlt:j < k:=by omega
    have hjs:i + j < s.length:=by omega
    have hstep:valBE ((s.drop i).take (j + 1)) = valBE ((s.drop i).take j) * 256 + s[i + j].toNat:=by
     rw [zeP _ _ (by rw [length_drop]; omega),getElem_drop]
    have hvb:=zhq (s.drop i) (j + 1) (by omega);have hby:=(s[i + j]).toNat_lt;rw [hstep] at hvb;refine zaj ?_;refine zah (zag (zad ?_));refine mS ?_;refine po_q (v:=.d (.v (.int .u64 ((256 * valBE ((s.drop i).take j):Nat):Int)))) rfl (by show some (PV.d (.v (.int .u64 (IntKind.wrap .u64 (256 * (valBE ((s.drop i).take j):Int)))))) = _; rw [show IntKind.wrap .u64 (256 * (valBE ((s.drop i).take j):Int)) = ((256 * valBE ((s.drop i).take j):Nat):Int) by rw [IntKind.wrap_u64]; omega]) ?_;(iterate 3 refine mS ?_);refine zaq (n:=((i + j:Nat):Int)) rfl rfl rfl (by omega) (by omega) ?_;refine zek (k:=i + j) rfl rfl rfl rfl (getElem?_eq_getElem hjs) ?_;refine po_q (v:=.d (.v (.int .u64 ((s[i + j]).toNat:Int)))) rfl (by show some (PV.d (.v (.int .u64 (IntKind.wrap .u64 ((s[i + j]).toNat:Int))))) = _; rw [show IntKind.wrap .u64 ((s[i + j]).toNat:Int) = ((s[i + j]).toNat:Int) by rw [IntKind.wrap_u64]; omega]) ?_
    refine po_q (v:=.d (.v (.int .u64 (valBE ((s.drop i).take (j + 1)):Nat)))) rfl (by show some (PV.d (.v (.int .u64 (IntKind.wrap .u64 (((256 * valBE ((s.drop i).take j):Nat):Int) + ((s[i + j]).toNat:Int)))))) = _; rw [hstep,show IntKind.wrap .u64 (((256 * valBE ((s.drop i).take j):Nat):Int) + ((s[i + j]).toNat:Int)) = ((valBE ((s.drop i).take j) * 256 + s[i + j].toNat:Nat):Int) by rw [IntKind.wrap_u64]; omega]) ?_;refine mN ?_;refine zad ?_;refine mS ?_;refine zaq (n:=((j + 1:Nat):Int)) rfl rfl rfl (by omega) (by omega) ?_;refine mN ?_;exact ⟨k - (j + 1),by omega,j + 1,hlt,rfl,rfl,rfl,rfl,rfl,rfl,trivial⟩
   ·refine zaH ?_
    exact ⟨0,⟨j,hj,by omega,rfl,rfl,rfl,rfl,rfl,trivial⟩,rfl⟩
  rintro tm bx nt live ⟨m,⟨j,hj,rfl,ht⟩,hm⟩;obtain ⟨tm0,rfl⟩:=zae ht
  obtain rfl:j = k:=by omega
  refine mQ ?_;refine po_q (v:=.d (pI (IntKind.i64.wrap (valBE ((s.drop i).take j))))) rfl rfl ?_;refine mN ?_;exact mR
 ·rw [if_neg hb]
  refine zai rfl rfl (decide_eq_true (by omega)) ?_;refine mT ?_;refine mP ?_;exact mR
end
section
variable {T:World -> Prop} {hT:Low ngl T}
attribute [local irreducible] po mw pt
def fV (k n e:Int) (s:L8):List PC:=[pI k,pI n,pI e,pS s,.sl 1 []]
theorem fV_er (k n e:Int) (s:L8):erL (fV k n e s) = vC (.mk k n e s []):=rfl
theorem za7 (k n e:Int) (s:L8) (a b:Nat):NewL a b (fV k n e s):=⟨rfl,nodup_nil,fun t ht => by cases ht⟩
theorem zbB (k n e:Int) (s:L8):toksL (fV k n e s) = []:=rfl
def strV (s:L8) (i:Nat) (kind:Int) (many:Nat) (ok:Bool):PV:=if ok = true /\ (many:Int) <= s.length - i then .tup [.ag (fV kind 0 0 ((s.drop i).take many)),.d (pI ((i + many:Nat):Int))] else .tup [.ag (fV 0 0 0 []),.d (pI (-1))]
def Same (s:L8) (left:Int) (nt:Nat) (live:List Nat) (y x:PV) (b:LP PC) (n:Nat) (l:List Nat):Prop:=∃ c' rest,b = c' :: rest /\ x.lw 0 /\ lwL 0 c' /\ (c' = [pS s,pI left] /\ n = nt /\ l = live /\ x = y)
theorem str_g (s:L8) (left:Int) (i:Nat) (kind:Int) (many:Nat) (ok:Bool) (hi:i <= 4611686018427387904) (hm:many <= 4611686018427387904) (hs:s.length <= 4611686018427387904) (nt:Nat) (live:List Nat) :
  FnG (env T hT) 206 [.ref 0 0,.d (pI i),.d (pI kind),.d (pI many),.d (pB ok)] [[pS s,pI left]] nt live (Same s left nt live (strV s i kind many ok)):=by
 refine zaU (zak zho) (by show 5 <= 40; decide) fun B hB => ?_
 unfold m_s_l06Str;refine mP ?_;refine mM ?_;refine mS ?_
 cases ok with
 | false =>
  refine po_q (v:=.d (pB true)) rfl rfl ?_;refine mS ?_;refine mZ ?_;refine mT ?_;refine mQ ?_;refine zao (p:=1) (cs:=fV 0 0 0 []) rfl rfl rfl rfl rfl rfl ?_;refine mN ?_;refine zaf ⟨.inr rfl,[.ag (fV 0 0 0 []),.d (pI (-1))],rfl,_,_,rfl,⟨⟨trivial,trivial,trivial,trivial,trivial,trivial⟩,trivial,trivial⟩,⟨trivial,trivial,trivial⟩,rfl,rfl,rfl,?_⟩
  unfold strV; rw [if_neg (fun h => by cases h.1)]; rfl
 | true =>
  refine po_q (v:=.d (pB false)) rfl rfl ?_;(iterate 6 refine mS ?_);refine po_q (v:=.d (pI s.length)) rfl rfl ?_;refine mS ?_;refine zaQ (n:=(s.length:Int) - i) rfl rfl rfl rfl (by omega) ?_;by_cases h:(many:Int) <= s.length - i
  ·refine zam rfl rfl (decide_eq_false (show ¬ (many:Int) > s.length - i by omega)) ?_
   refine mK ?_;refine mO ?_;(iterate 8 refine mS ?_);refine zaq (n:=((i + many:Nat):Int)) rfl rfl rfl (by omega) (by omega) ?_;refine zbA (a:=i) (b:=i + many) (rs:=(s.drop i).take many) rfl rfl (zaN rfl rfl) (zaN rfl rfl) (by omega) (by rw [Nat.add_sub_cancel_left]) ?_;refine mS ?_;(iterate 2 refine mS ?_);refine zaq (n:=((i + many:Nat):Int)) rfl rfl rfl (by omega) (by omega) ?_;refine zao (p:=1) (cs:=fV kind 0 0 ((s.drop i).take many)) rfl rfl rfl rfl rfl rfl ?_;refine mN ?_;refine zaf ⟨.inr rfl,[.ag (fV kind 0 0 ((s.drop i).take many)),.d (pI ((i + many:Nat):Int))],rfl,_,_,rfl,⟨⟨trivial,trivial,trivial,trivial,trivial,trivial⟩,trivial,trivial⟩,⟨trivial,trivial,trivial⟩,rfl,rfl,rfl,?_⟩;unfold strV; rw [if_pos ⟨rfl,h⟩]; rfl
  ·refine zai rfl rfl (decide_eq_true (show (many:Int) > s.length - i by omega)) ?_
   refine mT ?_;refine mQ ?_;refine zao (p:=1) (cs:=fV 0 0 0 []) rfl rfl rfl rfl rfl rfl ?_;refine mN ?_;refine zaf ⟨.inr rfl,[.ag (fV 0 0 0 []),.d (pI (-1))],rfl,_,_,rfl,⟨⟨trivial,trivial,trivial,trivial,trivial,trivial⟩,trivial,trivial⟩,⟨trivial,trivial,trivial⟩,rfl,rfl,rfl,?_⟩;unfold strV; rw [if_neg (fun hh => h hh.2)]; rfl
def wideN (s:L8) (i:Nat) (b:Nat):Int:=if b ≥ 208 then sgw (gwN s i (2 ^ (b % 4))) (2 ^ (b % 4)) else gwN s i (2 ^ (b % 4))
def wideV (s:L8) (i:Nat) (b:Nat):PV:=if i + 2 ^ (b % 4) <= s.length then .tup [.ag (vC (.mk 3 (wideN s i b) 0 [] [])),.d (pI ((i + 2 ^ (b % 4):Nat):Int))] else .tup [.ag (fV 0 0 0 []),.d (pI (-1))]
theorem pow24 (b:Nat):1 <= 2 ^ (b % 4) /\ 2 ^ (b % 4) <= 8 /\ ([[pI 1],[pI 2],[pI 4],[pI 8]]:LP PC)[b % 4]? = some [pI (2 ^ (b % 4):Nat)]:=by
 have h:b % 4 = 0 \/ b % 4 = 1 \/ b % 4 = 2 \/ b % 4 = 3:=by omega
 rcases h with h | h | h | h <;> rw [h] <;> exact ⟨by decide,by decide,rfl⟩
theorem wide_g (s:L8) (left:Int) (i b:Nat) (hb:b < 256) (hi:i <= 4611686018427387800) (hs:s.length <= 4611686018427387904) (nt:Nat) (live:List Nat) :
  FnG (env T hT) 207 [.ref 0 0,.d (pI i),.d (pI b)] [[pS s,pI left]] nt live (fun x bx n l => ∃ c' rest,bx = c' :: rest /\ x.lw 0 /\ lwL 0 c' /\ (c' = [pS s,pI left] /\ n = nt + 1 /\ l = nt :: live /\ x = wideV s i b)):=by
 obtain ⟨p1,p2,p3⟩:=pow24 b;refine zaU (zak zgp) (by show 3 <= 39; decide) fun B hB => ?_
 unfold m_s_l06Wide;refine mP ?_;refine mO ?_;refine zay (es:=[[pI 1],[pI 2],[pI 4],[pI 8]]) rfl ?_;refine mS ?_
 have hand:bits .and .i64 (b:Int) 3 = ((b % 4:Nat):Int):=by
  rw [zbE b 2 (by decide) 3 (by decide)]; simp
 refine po_q (v:=.d (pI ((b % 4:Nat):Int))) rfl (by show some (PV.d (.v (.int .i64 (bits .and .i64 (b:Int) 3)))) = _; rw [hand]; rfl) ?_;refine zaW (es:=[[pI 1],[pI 2],[pI 4],[pI 8]]) (e:=[pI (2 ^ (b % 4):Nat)]) rfl rfl rfl ⟨by omega,by rw [Int.toNat_natCast]; exact p3⟩ rfl ?_;refine mN ?_;refine mO ?_;(iterate 6 refine mS ?_);refine zac (args:=[.d (pS s),.d (pI i),.d (pI (2 ^ (b % 4):Nat))]) rfl (zhr s i (2 ^ (b % 4)) ⟨p1,p2⟩ (by omega) hs) ?_;unfold gwV wideV;by_cases h:i + 2 ^ (b % 4) <= s.length
 ·rw [if_pos h,if_pos h]
  refine mN ?_;refine mM ?_;refine mK ?_;refine zau (fun st => has st.tm [(0,.ref 0 0),(1,.d (pI i)),(6,.ref 1 0),(8,.d (pI (2 ^ (b % 4):Nat))),(9,.d (pI (wideN s i b)))] /\ st.bx = [[pS s,pI left],fV 0 0 0 []] /\ st.nt = nt + 1 /\ st.live = nt :: live) ?_ ?_
  ·refine mQ ?_
   refine po_b rfl rfl (fun b1 hb1 => ?_);refine zaa ?_;refine zbe (p:=(b:Int) ≥ 208) hb1 rfl (fun h8 _ => ?_) (fun h8 _ => ?_)
   ·refine zad ?_
    (iterate 2 refine mS ?_);refine zac (args:=[.d (pI (gwN s i (2 ^ (b % 4)))),.d (pI (2 ^ (b % 4):Nat))]) rfl (sgn_fn (gwN s i (2 ^ (b % 4))) (2 ^ (b % 4)) ⟨p1,p2⟩) ?_;refine mN ?_;exact ⟨⟨rfl,rfl,rfl,rfl,by unfold wideN; rw [if_pos (by omega)]; rfl,trivial⟩,rfl,rfl,rfl⟩
   ·refine zaj ?_
    exact ⟨⟨rfl,rfl,rfl,rfl,by unfold wideN; rw [if_neg (by omega)]; rfl,trivial⟩,rfl,rfl,rfl⟩
  rintro tm bx n1 l1 ⟨ht,rfl,rfl,rfl⟩;obtain ⟨tm0,rfl⟩:=zae ht;refine mQ ?_;refine zac (args:=[.d (pI (wideN s i b))]) rfl (int_fn (wideN s i b)) ?_;(iterate 2 refine mS ?_);refine zaq (n:=((i + 2 ^ (b % 4):Nat):Int)) rfl rfl rfl (by omega) (by omega) ?_;refine zao (p:=1) (cs:=vC (.mk 3 (wideN s i b) 0 [] [])) rfl rfl rfl rfl rfl rfl ?_;refine mN ?_;exact zaf ⟨.inr rfl,[.ag (vC (.mk 3 (wideN s i b) 0 [] [])),.d (pI ((i + 2 ^ (b % 4):Nat):Int))],rfl,_,_,rfl,⟨⟨trivial,trivial,trivial,trivial,trivial,trivial⟩,trivial,trivial⟩,⟨trivial,trivial,trivial⟩,rfl,rfl,rfl,rfl⟩
 ·rw [if_neg h,if_neg h]
  refine mN ?_;refine mM ?_;refine mT ?_;refine mQ ?_;refine zao (p:=1) (cs:=fV 0 0 0 []) rfl rfl rfl rfl rfl rfl ?_;refine mN ?_;exact zaf ⟨.inr rfl,[.ag (fV 0 0 0 []),.d (pI (-1))],rfl,_,_,rfl,⟨⟨trivial,trivial,trivial,trivial,trivial,trivial⟩,trivial,trivial⟩,⟨trivial,trivial,trivial⟩,rfl,rfl,rfl,rfl⟩
end
section
def mvC (p:Nat):PC -> PC
 | .bld _ T t U => .bld p T t U
 | c => c
def okC0:PC -> Prop
 | .bld q _ _ _ => q = 0
 | c => c.lw 0
theorem mv_down {C:Cx} {w:World} {p:Nat} {x:PC} {v:Value} (h:RpC C w (mvC p x) v) (ho:okC0 x):RpC (C.reb 1 fun _ => C.bx p) w x v:=by
 cases x with
 | bld q T t U =>
  have ho:q = 0:=ho;subst ho;have h:RpC C w (.bld p T t U) v:=h
  cases h with
  | bld _ _ _ _ _ h cs fz ht hv hU => exact .bld (C:=C.reb 1 fun _ => C.bx p) 0 T t U v (by show 0 < 1; omega) cs fz ht hv hU
 | v x => exact RpC.reb (c:=.v x) h ho
 | sl t es => exact RpC.reb (c:=.sl t es) h ho
 | anyp => exact RpC.reb (c:=.anyp) h ho
 | row q l k => exact RpC.reb (c:=.row q l k) h ho
theorem mv_up {C:Cx} {w:World} {p n:Nat} {f:Nat -> Nat} {x:PC} {v:Value} (h:RpC C w x v) (ho:okC0 x) (hf:f p = C.bx 0) (hp:p < n):RpC (C.reb n f) w (mvC p x) v:=by
 cases x with
 | bld q T t U =>
  have ho:q = 0:=ho;subst ho
  cases h with
  | bld _ _ _ _ _ h cs fz ht hv hU => exact .bld (C:=C.reb n f) p T t U v hp cs fz (by show w.heap[f p]? = _; rw [hf]; exact ht) (by show v = .pointer none \/ v = .pointer (some ⟨f p,0,none⟩); rw [hf]; exact hv) hU
 | v x => exact RpC.reb (c:=.v x) h ho
 | sl t es => exact RpC.reb (c:=.sl t es) h ho
 | anyp => exact RpC.reb (c:=.anyp) h ho
 | row q l k => exact RpC.reb (c:=.row q l k) h ho
theorem mvL_down {C:Cx} {w:World} {p:Nat} {cs:List PC} {vs:List Value} (h:RpL C w (cs.map (mvC p)) vs) (ho:∀ y ∈ cs,okC0 y):RpL (C.reb 1 fun _ => C.bx p) w cs vs :=
 ⟨by rw [h.1,length_map],fun j c y h1 h2 => mv_down (h.2 j (mvC p c) y (by rw [getElem?_map,h1]; rfl) h2) (ho c (mem_of_getElem? h1))⟩
theorem mvL_up {C:Cx} {w:World} {p n:Nat} {f:Nat -> Nat} {cs:List PC} {vs:List Value} (h:RpL C w cs vs) (ho:∀ y ∈ cs,okC0 y) (hf:f p = C.bx 0) (hp:p < n):RpL (C.reb n f) w (cs.map (mvC p)) vs:=by
 refine ⟨by rw [length_map]; exact h.1,fun j c y h1 h2 => ?_⟩;rw [getElem?_map] at h1
 cases hj:cs[j]? with
 | none => rw [hj] at h1; cases h1
 | some c0 =>
  rw [hj] at h1; simp only [Option.map_some,sI] at h1; subst h1
  exact mv_up (h.2 j c0 y hj h2) (ho c0 (mem_of_getElem? hj)) hf hp
theorem FnG.liftM {E:Env} {f:Nat} {args:List PV} {c:List PC} {nt:Nat} {live:List Nat} {R:PV -> List PC -> Nat -> List Nat -> Prop}
  (h:FnG E f (.ref 0 0 :: args) [c] nt live (fun x b n l => ∃ c' rest,b = c' :: rest /\ x.lw 0 /\ (∀ y ∈ c',okC0 y) /\ R x c' n l)) (ha:lwVs 0 args) (hc:∀ y ∈ c,okC0 y) {bx:LP PC} {p:Nat} (hp:bx[p]? = some (c.map (mvC p))) :
  FnG E f (.ref p 0 :: args) bx nt live (fun x b n l => ∃ c',b = bx.set p (c'.map (mvC p)) /\ R x c' n l):=by
 intro C w vs hI hnt hold hn2 hlen hv
 have hplt:p < bx.length:=by
  rcases Nat.lt_or_ge p bx.length with h' | h'
  ·exact h'
  ·rw [getElem?_eq_none h'] at hp; cases hp
 have hnb:=hI.nb
 have hI1:Inv E.NG E.T (C.reb 1 fun _ => C.bx p) [c] (· ∈ live) w:=by
  refine ⟨rfl,fun q cs hq => ?_,fun q _ => hI.boxF p hplt,fun q _ => hI.boxG p hplt,fun q r hq hr _ => ?_,fun t ht => ?_,hI.tinj,hI.fin,hI.ng,hI.t⟩
  ·match q with
   | 0 =>
    simp only [getElem?_cons_zero,sI] at hq; subst hq
    obtain ⟨vs,e,h1,h2⟩:=hI.box p _ hp
    exact ⟨vs,e,h1,mvL_down h2 hc⟩
   | q + 1 => simp at hq
  ·simp only [length_singleton] at hq hr; omega
  ·obtain ⟨a1,a2,a3⟩:=hI.tok t ht
   refine ⟨a1,a2,a3.imp id ?_⟩;rintro ⟨b,cur,e,c1,c2,c3,c4,c5,c6,c7,c8,c9,c10⟩;exact ⟨b,cur,e,c1,c2,c3,c4,c5,c6,c7,c8,c9,fun q _ => c10 p hplt⟩
 have hv1:∀ (j:Nat) (x:PV) (y:Value),(PV.ref 0 0 :: args)[j]? = some x -> vs[j]? = some y -> RpV (C.reb 1 fun _ => C.bx p) w x y:=by
  intro j x y hx hy
  match j with
  | 0 =>
   simp only [getElem?_cons_zero,sI] at hx; subst hx
   have:=hv 0 _ y rfl hy
   cases this
   exact RpV.ref (C:=C.reb 1 fun _ => C.bx p) 0 0 (by show 0 < 1; omega)
  | j + 1 =>
   rw [getElem?_cons_succ] at hx;exact (hv (j + 1) x y (by rw [getElem?_cons_succ]; exact hx) hy).reb (zcA j x ha hx)
 refine (h (C.reb 1 fun _ => C.bx p) w vs hI1 hnt hold hn2 (by simpa using hlen) hv1).mono ?_;rintro e w' ⟨u,x,b,n,l,C1,rfl,⟨c',rest,rfl,k1,k2,k3⟩,I1,hn,E1,hx⟩;have hb0:C1.bx 0 = C.bx p:=E1.bx.2 0 (by show 0 < 1; omega);have hle:CxLe C (C1.reb C.nb C.bx):=⟨E1.F,lR,fun _ _ => rfl,E1.tk.1,E1.tk.2⟩;have hF:Fix C w w':=E1.fix
 have hnotok:∀ q,q < bx.length -> ∀ t,t ∈ live -> C.tk t ≠ some (C.bx q):=by
  intro q hq t ht he;obtain ⟨_,_,⟨z,_⟩ | ⟨b,cur,e,c1,c2,c3,c4,c5,c6,c7,c8,c9,c10⟩⟩:=hI.tok t ht
  ·rw [he] at z; cases z
  ·rw [he] at c1; simp only [sI] at c1; subst c1; exact c10 q hq rfl
 have hold2:∀ t,(C.reb 1 fun _ => C.bx p).old t -> t ∈ live:=fun t ht => by
  have:C.old t:=ht
  rw [hold] at this; exact this
 refine ⟨u,x,bx.set p (c'.map (mvC p)),n,l,C1.reb C.nb C.bx,rfl,⟨c',rfl,k3⟩,?_,hn,?_,hx.reb k1⟩
 ·refine ⟨by rw [length_set]; exact hnb,fun q cs hq => ?_,fun q hq o hFo => ?_,by rw [length_set]; exact hI.boxG,by rw [length_set]; exact hI.inj,fun t ht => ?_,I1.tinj,I1.fin,I1.ng,I1.t⟩
  ·by_cases hqp:q = p
   ·subst hqp
    rw [getElem?_set_self hplt] at hq;simp only [sI] at hq; subst hq
    obtain ⟨vs,e,h1,h2⟩:=I1.box 0 c' rfl;rw [hb0] at h1;exact ⟨vs,e,h1,mvL_up h2 k2 hb0.symm (by rw [hnb]; exact hplt)⟩
   ·rw [getElem?_set_ne (fun h => hqp h.symm)] at hq
    have hqlt:q < bx.length:=by
     rcases Nat.lt_or_ge q bx.length with h' | h'
     ·exact h'
     ·rw [getElem?_eq_none h'] at hq; cases hq
    obtain ⟨vs,e,h1,h2⟩:=hI.box q cs hq;refine ⟨vs,e,(E1.block (C.bx q) (zaA h1) (fun r _ he => hqp (hI.inj q p hqlt hplt he.symm)) (fun t ht he => hnotok q hqlt t (hold2 t ht) he)).trans h1,h2.frame hle hF⟩
  ·rw [length_set] at hq
   rcases E1.newF (C.bx q) o hFo with h1 | h1 | ⟨s,h1,h2⟩
   ·exact hI.boxF q hq o h1
   ·have:=hI.lt hq; omega
   ·exact hnotok q hq s (hold2 s h1) h2
  ·obtain ⟨a1,a2,a3⟩:=I1.tok t ht
   refine ⟨a1,a2,a3.imp id ?_⟩;rintro ⟨b,cur,e,c1,c2,c3,c4,c5,c6,c7,c8,c9,c10⟩;refine ⟨b,cur,e,c1,c2,c3,c4,c5,c6,c7,c8,c9,fun q hq he => ?_⟩;rw [length_set] at hq;have he:C.bx q = b:=he
   rcases E1.newT t b ht c1 with h1 | ⟨s,h1,h2⟩
   ·have:=hI.lt hq; omega
   ·exact hnotok q hq s (hold2 s h1) (by rw [he]; exact h2)
 ·exact ⟨E1.os,E1.tape,E1.output,E1.size,E1.F,E1.fix,fun k hk hne ho => E1.block k hk (fun r _ => hne p (by omega)) ho,⟨lR,fun _ _ => rfl⟩,E1.newF,E1.newT,fun q hq hq2 => by rw [length_set] at hq2; omega,E1.tk⟩
theorem FnG.lift0 {E:Env} {f:Nat} {args:List PV} {nt:Nat} {live:List Nat} {R:PV -> Nat -> List Nat -> Prop}
  (h:FnG E f args [] nt live (fun x _ n l => x.lw 0 /\ R x n l)) (ha:lwVs 0 args) {bx:LP PC} :
  FnG E f args bx nt live (fun x b n l => b = bx /\ R x n l):=by
 intro C w vs hI hnt hold hn2 hlen hv;have hnb:=hI.nb
 have hI1:Inv E.NG E.T (C.reb 0 fun _ => 0) [] (· ∈ live) w:=by
  refine ⟨rfl,fun q cs hq => by simp at hq,fun q hq => by simp at hq,fun q hq => by simp at hq,fun q r hq => by simp at hq,fun t ht => ?_,hI.tinj,hI.fin,hI.ng,hI.t⟩;obtain ⟨a1,a2,a3⟩:=hI.tok t ht;refine ⟨a1,a2,a3.imp id ?_⟩;rintro ⟨b,cur,e,c1,c2,c3,c4,c5,c6,c7,c8,c9,c10⟩;exact ⟨b,cur,e,c1,c2,c3,c4,c5,c6,c7,c8,c9,fun q hq => by simp at hq⟩
 have hv1:∀ (j:Nat) (x:PV) (y:Value),args[j]? = some x -> vs[j]? = some y -> RpV (C.reb 0 fun _ => 0) w x y:=fun j x y hx hy => (hv j x y hx hy).reb (zcA j x ha hx)
 refine (h (C.reb 0 fun _ => 0) w vs hI1 hnt hold hn2 hlen hv1).mono ?_;rintro e w' ⟨u,x,b,n,l,C1,rfl,⟨k1,k3⟩,I1,hn,E1,hx⟩;have hle:CxLe C (C1.reb C.nb C.bx):=⟨E1.F,lR,fun _ _ => rfl,E1.tk.1,E1.tk.2⟩;have hF:Fix C w w':=E1.fix
 have hnotok:∀ q,q < bx.length -> ∀ t,t ∈ live -> C.tk t ≠ some (C.bx q):=by
  intro q hq t ht he;obtain ⟨_,_,⟨z,_⟩ | ⟨b,cur,e,c1,c2,c3,c4,c5,c6,c7,c8,c9,c10⟩⟩:=hI.tok t ht
  ·rw [he] at z; cases z
  ·rw [he] at c1; simp only [sI] at c1; subst c1; exact c10 q hq rfl
 have hold2:∀ t,(C.reb 0 fun _ => 0).old t -> t ∈ live:=fun t ht => by
  have:C.old t:=ht
  rw [hold] at this; exact this
 refine ⟨u,x,bx,n,l,C1.reb C.nb C.bx,rfl,⟨rfl,k3⟩,?_,hn,?_,hx.reb k1⟩
 ·refine ⟨hnb,fun q cs hq => ?_,fun q hq o hFo => ?_,hI.boxG,hI.inj,fun t ht => ?_,I1.tinj,I1.fin,I1.ng,I1.t⟩
  ·have hqlt:q < bx.length:=by
    rcases Nat.lt_or_ge q bx.length with h' | h'
    ·exact h'
    ·rw [getElem?_eq_none h'] at hq; cases hq
   obtain ⟨vs,e,h1,h2⟩:=hI.box q cs hq;exact ⟨vs,e,(E1.block (C.bx q) (zaA h1) (fun r hr => by simp [Cx.reb] at hr) (fun t ht he => hnotok q hqlt t (hold2 t ht) he)).trans h1,h2.frame hle hF⟩
  ·rcases E1.newF (C.bx q) o hFo with h1 | h1 | ⟨s,h1,h2⟩
   ·exact hI.boxF q hq o h1
   ·have:=hI.lt hq; omega
   ·exact hnotok q hq s (hold2 s h1) h2
  ·obtain ⟨a1,a2,a3⟩:=I1.tok t ht
   refine ⟨a1,a2,a3.imp id ?_⟩;rintro ⟨b,cur,e,c1,c2,c3,c4,c5,c6,c7,c8,c9,c10⟩;refine ⟨b,cur,e,c1,c2,c3,c4,c5,c6,c7,c8,c9,fun q hq he => ?_⟩;have he:C.bx q = b:=he
   rcases E1.newT t b ht c1 with h1 | ⟨s,h1,h2⟩
   ·have:=hI.lt hq; omega
   ·exact hnotok q hq s (hold2 s h1) (by rw [he]; exact h2)
 ·exact ⟨E1.os,E1.tape,E1.output,E1.size,E1.F,E1.fix,fun k hk hne ho => E1.block k hk (fun r hr => by simp [Cx.reb] at hr) ho,⟨lR,fun _ _ => rfl⟩,E1.newF,E1.newT,fun q hq hq2 => by omega,E1.tk⟩
section
variable {E:Env} {d:Nat} {r:List MOpr} {K:St -> Prop} {tm:Nat -> PV} {bx:LP PC} {nt:Nat} {live:List Nat}
theorem za3 {α:Type} (l:List α) (x:α):(l ++ [x])[l.length]? = some x:=by rw [getElem?_append_right lR,Nat.sub_self]; rfl
theorem zb5 {n:Nat} {z:List Value} {x:X} {cs:List PC} {c:List X} (hx:pcells (ev (up d (.ref bx.length 0) tm) x) = some cs) (hn:cs.length = n) (hz:z.length = n) (hc:c.all (apartX (ev (up d (.ref bx.length 0) tm)) (.t d)) = true)
  (h:po E r K ⟨up d (.ref bx.length 0) tm,bx ++ [cs],nt,live⟩):po E (⟨some d,.zero z,none,[]⟩ :: ⟨none,.store n (.t d) x,none,c⟩ :: r) K ⟨tm,bx,nt,live⟩:=by
 refine zcn ?_;have hz0:(bx ++ [z.map ofC])[bx.length]? = some (z.map ofC):=za3 _ _
 have ha:ev (up d (.ref bx.length 0) tm) (.t d) = .ref bx.length 0:=by
  show up d (.ref bx.length 0) tm d = _;rw [<- up_eq]; exact if_pos rfl
 refine zaw ha hx hz0 ⟨hn,by rw [length_map]; omega⟩ hc ?_
 have e1:spl (z.map ofC) 0 cs = cs:=by
  unfold spl;rw [take_zero,nil_append,drop_of_length_le (by rw [length_map]; omega),append_nil]
 have e2:(bx ++ [z.map ofC]).set bx.length cs = bx ++ [cs]:=by
  rw [set_append_right _ _ lR,Nat.sub_self]; rfl
 rw [e1,e2]; exact h
theorem zbb {ag:Bool} {n p o:Nat} {x:X} {c:List X} {g:Option (Nat × Bool)} {cs:List PC} {v:PV} (hg:gd g tm = some true) (hx:ev tm x = .ref p o) (hb:bx[p]? = some cs) (hn:o + n <= cs.length) (hv:ldv ag ((cs.drop o).take n) = some v)
  (h:po E r K ⟨up d v tm,bx,nt,live⟩):po E (⟨some d,.load ag n x,g,c⟩ :: r) K ⟨tm,bx,nt,live⟩:=by
 refine po_q hg ?_ h;simp only [qf,hx,hb,if_pos hn,hv]
theorem zbg {n t p t2:Nat} {cs:List PC} {v:PV} (ht:tm t = .ref p 0) (hb:bx[p]? = some cs) (hn:cs.length = n) (h2:tm t2 = v):ressM ⟨tm,bx,nt,live⟩ [.cell true n t,.tm t2] = some [.ag cs,v]:=by
 simp only [ressM,resM,ht,hb,Nat.zero_add,drop_zero,ldv,hn,Nat.le_refl,if_true,h2];rw [<- hn,take_length]
end
end
section
variable {T:World -> Prop} {hT:Low ngl T}
attribute [local irreducible] po mw pt
def GotV (s:L8) (d left:Int) (i nt:Nat) (live:List Nat) (x:PV) (left':Int) (nt':Nat) (live':List Nat):Prop :=
 ∃ (cs:List PC) (next:Int),x = .tup [.ag cs,.d (pI next)] /\ cs.length = 5 /\ NewL nt nt' cs /\ (∀ t ∈ toksL cs,t ∈ live') /\ (∀ t ∈ live,2 <= t -> t < nt -> t ∈ live') /\ nt <= nt' /\ (-1 <= left' /\ left' <= left) /\
 (next = -1 \/ ∃ (j:Nat) (u:V),next = j /\ erL cs = vC u /\ u.wf /\ i < j /\ j <= s.length /\ u.bulk + 1 <= 2 * (j - i) /\ 0 <= left') /\
 (∀ v:V,v.wf -> v.rightBy pairsOk (12 - d) = true -> (v.nodes:Int) <= left -> At s i (msg v) -> next = ((i + (msg v).length:Nat):Int) /\ erL cs = vC v /\ left' = left - v.nodes)
def GotK (s:L8) (d left kind many:Int) (ok:Bool) (i nt:Nat) (live:List Nat) (x:PV) (left':Int) (nt':Nat) (live':List Nat):Prop :=
 ∃ (cs:List PC) (next:Int),x = .tup [.ag cs,.d (pI next)] /\ cs.length = 5 /\ NewL nt nt' cs /\ (∀ t ∈ toksL cs,t ∈ live') /\ (∀ t ∈ live,2 <= t -> t < nt -> t ∈ live') /\ nt <= nt' /\ (-1 <= left' /\ left' <= left) /\
 (next = -1 \/ ∃ (j:Nat) (vs:List V),next = j /\ erL cs = vC (.mk kind 0 0 [] vs) /\ V.wfs vs /\ (vs.length:Int) = many /\ many <= 600 /\ i <= j /\ j <= s.length /\ V.bulks vs + vs.length <= 2 * (j - i) /\ 0 <= left' /\ ok = true) /\
 (∀ us:List V,V.wfs us -> V.rightsBy pairsOk (12 - d - 1) us = true -> (V.nodess us:Int) <= left -> (us.length:Int) = many -> ok = true -> At s i (msgs us) -> next = ((i + (msgs us).length:Nat):Int) /\ erL cs = vC (.mk kind 0 0 [] us) /\ left' = left - V.nodess us)
def GetG (T:World -> Prop) (hT:Low ngl T) (s:L8) (d:Int):Prop:=∀ (i:Nat) (left:Int) (nt:Nat) (live:List Nat),i <= s.length -> 0 <= left -> left <= 300 -> 2 <= nt ->
 FnG (env T hT) 161 [.ref 0 0,.d (pI i),.d (pI d)] [[pS s,pI left]] nt live (fun x b n l => ∃ c' rest,b = c' :: rest /\ x.lw 0 /\ lwL 0 c' /\ ∃ left',c' = [pS s,pI left'] /\ GotV s d left i nt live x left' n l)
def KidsG (T:World -> Prop) (hT:Low ngl T) (s:L8) (d:Int):Prop:=∀ (i:Nat) (left kind many:Int) (ok:Bool) (nt:Nat) (live:List Nat),(ok = true -> i <= s.length) -> i <= 4611686018427387904 -> 0 <= left -> left <= 300 -> 2 <= nt -> 0 <= many -> i64ok kind ->
 FnG (env T hT) 205 [.ref 0 0,.d (pI i),.d (pI kind),.d (pI many),.d (pB ok),.d (pI d)] [[pS s,pI left]] nt live (fun x b n l => ∃ c' rest,b = c' :: rest /\ x.lw 0 /\ lwL 0 c' /\ ∃ left',c' = [pS s,pI left'] /\ GotK s d left kind many ok i nt live x left' n l)
theorem zbJ (s:L8) (left:Int):lwL 0 [pS s,pI left]:=⟨trivial,trivial,trivial⟩
theorem zbx {cs:List PC} {a b:Nat} (h:NewL a b cs) (n:Int):PV.lw 0 (.tup [.ag cs,.d (pI n)]):=⟨zaC h.own,trivial,trivial⟩
theorem V.wfs_app:∀ {a b:List V},V.wfs a -> V.wfs b -> V.wfs (a ++ b)
 | [],_,_,hb => hb
 | _ :: _,_,ha,hb => ⟨ha.1,V.wfs_app ha.2 hb⟩
theorem V.bulks_app:∀ a b:List V,V.bulks (a ++ b) = V.bulks a + V.bulks b
 | [],b => by simp [V.bulks]
 | x :: a,b => by simp only [cons_append,V.bulks,V.bulks_app a b]; omega
theorem V.nodess_app:∀ a b:List V,V.nodess (a ++ b) = V.nodess a + V.nodess b
 | [],b => by simp [V.nodess]
 | x :: a,b => by simp only [cons_append,V.nodess,V.nodess_app a b]; omega
theorem nodess_take (us:List V) (k:Nat) (h:k < us.length):V.nodess us = V.nodess (us.take k) + (us[k].nodes + V.nodess (us.drop (k + 1))):=by
 have e:us = us.take k ++ (us[k] :: us.drop (k + 1)):=by rw [<- drop_eq_getElem_cons h,take_append_drop]
 have:=congrArg V.nodess e
 rw [V.nodess_app] at this;simpa only [V.nodess] using this
theorem zhs {s:L8} {i:Nat} {us:List V} (h:At s i (msgs us)) (k:Nat) (hk:k < us.length):At s (i + (msgs (us.take k)).length) (msg us[k]):=by
 have e:us = us.take k ++ (us[k] :: us.drop (k + 1)):=by rw [<- drop_eq_getElem_cons hk,take_append_drop]
 rw [e,zfm] at h;have h2:=h.app.2;simp only [msgs] at h2;exact h2.app.1
theorem OwnL.mono2 {nt nt':Nat} {live live':List Nat} {cs:List PC} (h:OwnL nt live cs) (hn:nt <= nt') (hl:∀ t ∈ live,2 <= t -> t < nt -> t ∈ live'):OwnL nt' live' cs :=
 ⟨h.own,h.nd,fun t ht => ⟨hl t (h.mem t ht).1 (zc4 cs t ht) (h.mem t ht).2,Nat.lt_of_lt_of_le (h.mem t ht).2 hn⟩⟩
theorem pI_inj {a b:Int} (h:pI a = pI b):a = b:=by simpa [pI] using h
theorem pS_inj {a b:L8} (h:pS a = pS b):a = b:=by simpa [pS] using h
mutual
theorem zeU:∀ {a b:V},vC a = vC b -> a = b
 | .mk k n e s ks,.mk k' n' e' s' ks',h => by
  simp only [vC,cons.injEq,V.kind,V.num,V.exp,V.text,V.kids,PC.sl.injEq,true_and,and_true] at h;obtain ⟨h1,h2,h3,h4,h5⟩:=h;rw [zb4,zb4] at h5
  obtain rfl:=pI_inj h1; obtain rfl:=pI_inj h2; obtain rfl:=pI_inj h3; obtain rfl:=pS_inj h4; obtain rfl:=vCs_inj h5
  rfl
theorem vCs_inj:∀ {a b:List V},a.map vC = b.map vC -> a = b
 | [],[],_ => rfl
 | [],_ :: _,h => by simp at h
 | _ :: _,[],h => by simp at h
 | x :: a,y :: b,h => by
  simp only [map_cons,cons.injEq] at h;rw [zeU h.1,vCs_inj h.2]
end
def KdP (s:L8) (d left _kind many:Int) (i _nt:Nat) (_live:List Nat) (k:Nat) (vs:List V) (j:Nat) (left':Int):Prop :=
 vs.length = k /\ V.wfs vs /\ i <= j /\ j <= s.length /\ V.bulks vs + vs.length <= 2 * (j - i) /\ 0 <= left' /\ left' <= left /\
 (∀ us:List V,V.wfs us -> V.rightsBy pairsOk (12 - d - 1) us = true -> (V.nodess us:Int) <= left -> (us.length:Int) = many -> At s i (msgs us) -> us.take k = vs /\ j = i + (msgs vs).length /\ left' = left - V.nodess vs)
def KdI (s:L8) (d left kind many:Int) (i nt:Nat) (live:List Nat) (m:Nat) (st:St):Prop:=∃ (k:Nat) (vs:List V) (j tk:Nat) (rows rest:LP PC) (left':Int),(k:Int) <= many /\ (m:Int) = many - k /\
 has st.tm [(0,.ref 0 0),(1,.d (pI j)),(3,.d (pI many)),(5,.d (pI d)),(12,.ref 1 0),(14,.ref 2 0),(15,.d (pI k))] /\
 st.bx = [pS s,pI left'] :: fV 0 0 0 [] :: [pI kind,pI 0,pI 0,pS [],.sl tk rows] :: rest /\ erLL rows = vK vs /\ (tk = 1 /\ rows = [] \/ 2 <= tk) /\ OwnL st.nt st.live ([pI kind,pI 0,pI 0,pS []] ++ .sl tk rows :: []) /\ (∀ t ∈ toksL [pI kind,pI 0,pI 0,pS [],.sl tk rows],nt <= t) /\ nt <= st.nt /\ (∀ t ∈ live,2 <= t -> t < nt -> t ∈ st.live) /\
 KdP s d left kind many i nt live k vs j left'
theorem ownNew {nt a:Nat} {l:List Nat} {cs:List PC} (h:OwnL a l cs) (ho:∀ t ∈ toksL cs,nt <= t):NewL nt a cs:=⟨h.own,h.nd,fun t ht => ⟨ho t ht,(h.mem t ht).2⟩⟩
theorem kids_g {s:L8} (hs:s.length <= 2147483647) {d:Int} (hd:0 <= d /\ d <= 13) (hG:GetG T hT s (d + 1)):KidsG T hT s d:=by
 intro i left kind many ok nt live hi hi2 hl0 hl hnt hmany hkind;refine zaU (zak zgo) (by show 6 <= 52; decide) fun B hB => ?_
 unfold m_s_l06Kids;refine mP ?_;refine mO ?_;(iterate 2 refine mS ?_);refine zb5 (cs:=fV kind 0 0 []) rfl rfl rfl rfl ?_;refine zaa ?_;refine mM ?_;refine mS ?_
 have hfail:∀ (hc:ok = false \/ many > 600),GotK s d left kind many ok i nt live (.tup [.ag (fV kind 0 0 []),.d (pI (-1))]) left nt live:=fun hc =>
  ⟨_,_,rfl,rfl,za7 _ _ _ _ _ _,(fun t ht => by rw [zbB] at ht; cases ht),fun t ht _ _ => ht,lR,by omega,.inl rfl,(fun us h1 h2 h3 h4 h5 h6 => by
   have:=V.kids_nodes us
   rcases hc with hc | hc
   ·rw [hc] at h5; cases h5
   ·omega)⟩
 cases ok with
 | false =>
  refine po_q (v:=.d (pB true)) rfl rfl ?_;refine mS ?_;refine mZ ?_;refine mT ?_;refine mQ ?_;refine zao (p:=1) (cs:=fV kind 0 0 []) rfl rfl rfl rfl rfl rfl ?_;refine mN ?_
  exact zaf ⟨.inr rfl,[.ag (fV kind 0 0 []),.d (pI (-1))],rfl,_,_,rfl,zbx (za7 _ _ _ _ nt nt) _,zbJ s left,left,rfl,hfail (.inl rfl)⟩
 | true =>
 have hi:=hi rfl;refine po_q (v:=.d (pB false)) rfl rfl ?_;(iterate 2 refine mS ?_);by_cases hm:many > 600
 ·refine zai rfl rfl (decide_eq_true hm) ?_
  refine mT ?_;refine mQ ?_;refine zao (p:=1) (cs:=fV kind 0 0 []) rfl rfl rfl rfl rfl rfl ?_;refine mN ?_;exact zaf ⟨.inr rfl,[.ag (fV kind 0 0 []),.d (pI (-1))],rfl,_,_,rfl,zbx (za7 _ _ _ _ nt nt) _,zbJ s left,left,rfl,hfail (.inr hm)⟩
 refine zam rfl rfl (decide_eq_false hm) ?_;refine mK ?_;refine zau (fun st => ∃ m,KdI s d left kind many i nt live m st /\ m = 0) ?_ ?_
 ·refine mP ?_
  refine zag ?_;refine zaz (KdI s d left kind many i nt live) many.toNat ⟨0,[],i,1,[],[],left,hmany,by omega,⟨rfl,rfl,rfl,rfl,rfl,rfl,rfl,trivial⟩,rfl,rfl,.inl ⟨rfl,rfl⟩,⟨rfl,nodup_nil,fun t ht => by cases ht⟩,(fun t ht => by cases ht),lR,fun t ht _ _ => ht,rfl,trivial,lR,hi,by simp [V.bulks],hl0,Int.le_refl _,fun us _ _ _ _ _ => ⟨by simp,by simp [msgs],by simp [V.nodess]⟩⟩ ?_;rintro m tm bx n1 l1 ⟨k,vs,j,tk,rows,rest,left1,hk,hmk,ht,hbx,hrows,htk,hown,hge,hn1,hlv,hP⟩;obtain ⟨tm0,rfl⟩:=zae ht;simp only at hbx hown hn1 hlv; subst hbx
  obtain ⟨hvl,hvw,hij,hjs,hvb,hl1,hl2,hcp⟩:=hP;refine mM ?_;(iterate 2 refine mS ?_);refine po_b rfl rfl (fun b hb => ?_);refine zaa ?_;refine zbe (p:=(k:Int) < many) hb rfl (fun h _ => ?_) (fun h _ => ?_)
  ·refine zaj ?_
   refine zah (zag (zah (zad ?_)));(iterate 3 refine mS ?_);refine zaq (n:=d + 1) rfl rfl rfl rfl (by omega) ?_;refine po_g rfl (FnG.lift1 (p:=0) (hG j left1 n1 l1 hjs hl1 (by omega) (by omega)) ⟨trivial,trivial,trivial⟩ (zbJ s left1) rfl) ?_;rintro x _ n2 l2 ⟨c',rfl,left2,rfl,cs,next,rfl,hc5,hnew,hctk,hlv2,hn2,hl3,hres,hcomp⟩;(iterate 3 refine mS ?_);refine zb5 (cs:=cs) rfl hc5 rfl rfl ?_;refine mL ?_;refine mM ?_;refine mS ?_;refine po_b rfl rfl (fun b2 hb2 => ?_);refine zaa ?_;have hown2:OwnL n2 l2 ([pI kind,pI 0,pI 0,pS []] ++ .sl tk rows :: []):=hown.mono2 hn2 hlv2;refine zbe (p:=next < 0) hb2 rfl (fun h2 _ => ?_) (fun h2 _ => ?_)
   ·clear hres
    refine mO ?_;refine za1 (p:=2) (cs:=[pI kind,pI 0,pI 0,pS [],.sl tk rows]) rfl rfl rfl rfl ?_;refine zao (p:=1) (cs:=[pI kind,pI 0,pI 0,pS [],.sl tk rows]) rfl rfl rfl rfl rfl rfl ?_;refine mN ?_;have hN:=ownNew hown2 hge;refine zaf ⟨.inr rfl,[.ag [pI kind,pI 0,pI 0,pS [],.sl tk rows],.d (pI (-1))],rfl,_,_,rfl,zbx hN _,zbJ s left2,left2,rfl,_,_,rfl,rfl,hN,(fun t ht => (hown2.mem t ht).1),fun t ht h22 hlt => hlv2 t (hlv t ht h22 hlt) h22 (Nat.lt_of_lt_of_le hlt hn1),Nat.le_trans hn1 hn2,by omega,.inl rfl,fun us h3 h4 h5 h6 h7 h8 => ?_⟩;obtain ⟨e1,e2,e3⟩:=hcp us h3 h4 h5 h6 h8;have hku:k < us.length:=by omega
    have hA:=zhs h8 k hku;rw [e1,<- e2] at hA;have hnd:=nodess_take us k hku;rw [e1] at hnd;rw [V.rightsBy_all,all_eq_true] at h4
    have:=(hcomp us[k] (V.wfs_get h3 k hku) (by rw [show 12 - (d + 1) = 12 - d - 1 by omega]; exact h4 _ (getElem_mem hku)) (by omega) hA).1
    omega
   ·obtain ⟨j2,u,rfl,he,huw,hj2,hj2s,hub,hl4⟩:=hres.resolve_left (fun h => h2 (by rw [h]; decide))
    clear hres;refine zaj ?_;refine mQ ?_;refine mS ?_;refine za1 (p:=([pS s,pI left2] :: fV 0 0 0 [] :: [pI kind,pI 0,pI 0,pS [],.sl tk rows] :: rest).length) (cs:=cs) rfl rfl (za3 ([pS s,pI left2] :: fV 0 0 0 [] :: [pI kind,pI 0,pI 0,pS [],.sl tk rows] :: rest) cs) hc5 ?_
    have hlit:litP (ev (up 45 (.ag cs) tm0)) 5 [.t 45] = some [cs]:=by
     show (if cs.length = 5 then some [cs] else none) = some [cs];rw [if_pos hc5]
    refine zay (es:=[cs]) (by
     show (if cs.length = 5 then some [cs] else none) = some [cs];rw [if_pos hc5]) ?_
    have hrl:rows.length = vs.length:=by rw [zcz hrows,zbh]
    refine zcL (t:=tk) (t':=n2) (es:=rows) (ds:=[cs]) rfl rfl (hown2.app htk [n2]) (by simp only [length_singleton]; omega) (fun e he => by simp only [mem_singleton] at he; subst he; exact hc5) (fun e he => zfg hrows (vK_wid vs) e he) ?_;refine mS ?_;refine zaw (p:=2) (o':=4) (cs:=[.sl (n2 + 1) (rows ++ [cs])]) (z:=[pI kind,pI 0,pI 0,pS [],.sl tk rows]) rfl rfl rfl ⟨rfl,Nat.le_of_ble_eq_true rfl⟩ rfl ?_;refine zaa ?_;refine zad ?_;refine mN ?_;refine zad ?_;refine mS ?_;refine zaq (n:=((k + 1:Nat):Int)) rfl rfl rfl (by omega) (by omega) ?_;refine mN ?_
    have hpush:OwnL (n2 + 2) ((n2 + 1) :: (n2 :: l2).filter (· != tk)) ([pI kind,pI 0,pI 0,pS []] ++ .sl (n2 + 1) (rows ++ [cs]) :: []):=by
     have h0:OwnL n1 (l1.filter (fun t => decide (t < n1))) ([pI kind,pI 0,pI 0,pS []] ++ .sl tk rows :: []):=⟨hown.own,hown.nd,fun t ht => ⟨mem_filter.2 ⟨(hown.mem t ht).1,decide_eq_true (hown.mem t ht).2⟩,(hown.mem t ht).2⟩⟩
     have:=h0.pushA (nt':=n2 + 1) (e:=cs) htk (by omega) hnew.own hnew.nd (fun t ht => by have:=hnew.mem t ht; omega) (by omega)
     refine this.mono2 (by omega) fun t ht h22 hlt => ?_
     rcases mem_cons.1 ht with rfl | ht
     ·exact mem_cons_self ..
     ·obtain ⟨m1,m2⟩:=mem_filter.1 ht
      refine mem_cons_of_mem _ (mem_filter.2 ⟨?_,m2⟩)
      rcases mem_append.1 m1 with m1 | m1
      ·exact mem_cons_of_mem _ (hctk t m1)
      ·obtain ⟨m3,m4⟩:=mem_filter.1 m1
       exact mem_cons_of_mem _ (hlv2 t m3 h22 (of_decide_eq_true m4))
    have htkn:tk = 1 \/ nt <= tk:=htk.imp (fun h => h.1) fun h => hge tk (by simp [toksL,PC.toks,pI,pS,h])
    have hrge:∀ t ∈ toksLL rows,nt <= t:=by
     intro t ht
     rcases htk with ⟨_,rfl⟩ | h22
     ·cases ht
     ·exact hge t (by simp [toksL,PC.toks,pI,pS,h22,ht])
    refine ⟨m - 1,by omega,k + 1,vs ++ [u],j2,n2 + 1,rows ++ [cs],rest ++ [cs],left2,by omega,by omega,⟨rfl,rfl,rfl,rfl,rfl,rfl,rfl,trivial⟩,rfl,?_,.inr (by omega),hpush,?_,(show nt <= n2 + 2 by omega),?_,by simp [hvl],V.wfs_app hvw ⟨huw,trivial⟩,by omega,hj2s,?_,hl4,by omega,?_⟩
    ·rw [zbI,hrows,zb4,zb4,map_append]; simp only [erLL,he]; rfl
    ·intro t ht
     have ht:t ∈ PC.toks (.sl (n2 + 1) (rows ++ [cs])):=by simpa [toksL,PC.toks,pI,pS] using ht
     rw [zaF (by omega),zaZ] at ht
     rcases mem_cons.1 ht with rfl | ht
     ·omega
     ·rcases mem_append.1 ht with ht | ht
      ·exact hrge t ht
      ·have ht:t ∈ toksL cs:=by simpa [toksLL] using ht
       have:=hnew.mem t ht; omega
    ·intro t ht h22 hlt
     refine mem_cons_of_mem _ (mem_filter.2 ⟨mem_cons_of_mem _ (hlv2 t (hlv t ht h22 hlt) h22 (by omega)),?_⟩);simp only [bne_iff_ne,ne_eq]; omega
    ·rw [V.bulks_app,length_append]; simp only [V.bulks,length_singleton]; omega
    ·intro us h3 h4 h5 h6 h8
     obtain ⟨e1,e2,e3⟩:=hcp us h3 h4 h5 h6 h8;have hku:k < us.length:=by omega
     have hA:=zhs h8 k hku;rw [e1,<- e2] at hA;have hnd:=nodess_take us k hku;rw [e1] at hnd;have h4':=h4;rw [V.rightsBy_all,all_eq_true] at h4';obtain ⟨q1,q2,q3⟩:=hcomp us[k] (V.wfs_get h3 k hku) (by rw [show 12 - (d + 1) = 12 - d - 1 by omega]; exact h4' _ (getElem_mem hku)) (by omega) hA;have huk:us[k] = u:=zeU (q2.symm.trans he);refine ⟨by rw [take_succ_eq_append_getElem hku,e1,huk],?_,?_⟩
     ·rw [zc8,length_append,<- huk]; omega
     ·rw [V.nodess_app,<- huk]; simp only [V.nodess]; omega
  ·refine zaH ?_
   exact ⟨0,⟨k,vs,j,tk,rows,rest,left1,hk,by omega,⟨rfl,rfl,rfl,rfl,rfl,rfl,rfl,trivial⟩,rfl,hrows,htk,hown,hge,hn1,hlv,hvl,hvw,hij,hjs,hvb,hl1,hl2,hcp⟩,rfl⟩
 rintro tm bx n1 l1 ⟨m,⟨k,vs,j,tk,rows,rest,left1,hk,hmk,ht,hbx,hrows,htk,hown,hge,hn1,hlv,hP⟩,hm0⟩;obtain ⟨tm0,rfl⟩:=zae ht;simp only at hbx hown hn1 hlv; subst hbx
 obtain ⟨hvl,hvw,hij,hjs,hvb,hl1,hl2,hcp⟩:=hP;have hkm:(k:Int) = many:=by omega
 have hN:=ownNew hown hge
 have her:erL [pI kind,pI 0,pI 0,pS [],.sl tk rows] = vC (.mk kind 0 0 [] vs):=by
  simp only [erL,PC.er,hrows]; rfl
 refine mO ?_;refine za1 (p:=2) (cs:=[pI kind,pI 0,pI 0,pS [],.sl tk rows]) rfl rfl rfl rfl ?_;refine mS ?_;refine zao (p:=1) (cs:=[pI kind,pI 0,pI 0,pS [],.sl tk rows]) rfl rfl rfl rfl rfl rfl ?_;refine mN ?_;refine zaf ⟨.inr rfl,[.ag [pI kind,pI 0,pI 0,pS [],.sl tk rows],.d (pI j)],rfl,_,_,rfl,zbx hN _,zbJ s left1,left1,rfl,_,_,rfl,rfl,hN,fun t ht => (hown.mem t ht).1,hlv,hn1,by omega,.inr ⟨j,vs,rfl,her,hvw,by omega,by omega,hij,hjs,hvb,hl1,rfl⟩,fun us h3 h4 h5 h6 h7 h8 => ?_⟩;obtain ⟨e1,e2,e3⟩:=hcp us h3 h4 h5 h6 h8
 have:us.take k = us:=take_of_length_le (by omega)
 rw [this] at e1;subst e1;exact ⟨by rw [e2],her,e3⟩
def gwz (s:L8) (i k:Nat):Int:=if i + k <= s.length then gwN s i k else 0
theorem gwV_eq (s:L8) (i k:Nat):gwV s i k = .tup [.d (pI (gwz s i k)),.d (pB (decide (i + k <= s.length)))]:=by
 unfold gwV gwz;by_cases h:i + k <= s.length
 ·rw [if_pos h,if_pos h,decide_eq_true h]; rfl
 ·rw [if_neg h,if_neg h,decide_eq_false h]
theorem zdI {s:L8} {i k:Nat} (h:i + k <= s.length):gwz s i k = gwN s i k:=by unfold gwz; rw [if_pos h]
theorem zcd {v:V} {t0:L8} (h:MsgTop v 199 t0):(∃ n e:Int,(-20 <= e /\ e <= 20) /\ (-999999999999999999 <= n /\ n <= 999999999999999999) /\ v = .mk 4 n e [] [] /\ t0 = [9,4] ++ be 1 (lo64 e) ++ be 8 (lo64 n)) \/ ∃ (m:Nat) (kid:V),m <= 1000000 /\ v = .mk 9 m 0 [] [kid] /\ t0 = [4,6] ++ be 4 m ++ msg kid:=by
 generalize hb:199 = b at h
 cases h with
 | dec n e h hn => exact .inl ⟨n,e,h,hn,rfl,rfl⟩
 | tag n h kid => exact .inr ⟨n,kid,h,rfl,rfl⟩
 | _ => exfalso; omega
def GotX (s:L8) (d left:Int) (p nt:Nat) (live:List Nat) (x:PV) (left':Int) (nt':Nat) (live':List Nat):Prop :=
 ∃ (cs:List PC) (next:Int),x = .tup [.ag cs,.d (pI next)] /\ cs.length = 5 /\ NewL nt nt' cs /\ (∀ t ∈ toksL cs,t ∈ live') /\ (∀ t ∈ live,2 <= t -> t < nt -> t ∈ live') /\ nt <= nt' /\ (-1 <= left' /\ left' <= left) /\
 (next = -1 \/ ∃ (j:Nat) (u:V),next = j /\ erL cs = vC u /\ u.wf /\ p <= j /\ j <= s.length /\ u.bulk <= 1 + 2 * (j - p) /\ 0 <= left') /\
 (∀ (v:V) (t0:L8),v.wf -> v.rightBy pairsOk (12 - d) = true -> (v.nodes:Int) <= left + 1 -> MsgTop v 199 t0 -> At s p t0 -> next = ((p + t0.length:Nat):Int) /\ erL cs = vC v /\ left' = left + 1 - v.nodes)
theorem zde {s:L8} {d left:Int} {p nt:Nat} {live:List Nat} (hl:0 <= left) (h:∀ (v:V) (t0:L8),v.wf -> v.rightBy pairsOk (12 - d) = true -> (v.nodes:Int) <= left + 1 -> MsgTop v 199 t0 -> ¬ At s p t0) (k n e:Int) (t:L8) :
  GotX s d left p nt live (.tup [.ag (fV k n e t),.d (pI (-1))]) left nt live :=
 ⟨_,_,rfl,rfl,za7 _ _ _ _ _ _,(fun t ht => by rw [zbB] at ht; cases ht),fun t ht _ _ => ht,lR,by omega,.inl rfl,fun v t0 a b c d e => absurd e (h v t0 a b c d)⟩
theorem five {α:Type} {l:List α} (h:l.length = 5):∃ a b c d e,l = [a,b,c,d,e]:=by
 match l,h with
 | [a,b,c,d,e],_ => exact ⟨a,b,c,d,e,rfl⟩
theorem new_num {nt nt':Nat} {a0 a1 a2 a3 a4:PC} (h:NewL nt nt' [a0,a1,a2,a3,a4]) (b:PC) (ho:b.owned = true) (ht:b.toks = []):NewL nt nt' [a0,b,a2,a3,a4] /\ ∀ t ∈ toksL [a0,b,a2,a3,a4],t ∈ toksL [a0,a1,a2,a3,a4]:=by
 have hsub:(toksL [a0,b,a2,a3,a4]).Sublist (toksL [a0,a1,a2,a3,a4]):=by
  simp only [toksL,ht,nil_append];exact Sublist.append (Sublist.refl _) (sublist_append_right _ _)
 refine ⟨⟨?_,h.nd.sublist hsub,fun t ht => h.mem t (hsub.subset ht)⟩,fun t ht => hsub.subset ht⟩
 have:=h.own
 simp only [ownedL,Bool.and_eq_true] at this ⊢;exact ⟨this.1,ho,this.2.2⟩
theorem er_num {a0 a1 a2 a3 a4:PC} {k n e:Int} {t:L8} {ks:List V} (h:erL [a0,a1,a2,a3,a4] = vC (.mk k n e t ks)) (m:Int):erL [a0,pI m,a2,a3,a4] = vC (.mk k m e t ks):=by
 simp only [erL,vC,cons.injEq,and_true,V.kind,V.num,V.exp,V.text,V.kids] at h ⊢;exact ⟨h.1,rfl,h.2.2⟩
theorem ext_g {s:L8} (hs:s.length <= 2147483647) {d:Int} (_hd:0 <= d /\ d <= 12) (hK:KidsG T hT s d) (p:Nat) (left:Int) (nt:Nat) (live:List Nat) (hp:p <= s.length) (hl0:0 <= left) (hl:left <= 300) (hnt:2 <= nt) :
  FnG (env T hT) 208 [.ref 0 0,.d (pI p),.d (pI d)] [[pS s,pI left]] nt live (fun x b n l => ∃ c' rest,b = c' :: rest /\ x.lw 0 /\ lwL 0 c' /\ ∃ left',c' = [pS s,pI left'] /\ GotX s d left p nt live x left' n l):=by
 have hgw:∀ (i k:Nat),1 <= k /\ k <= 8 -> i <= 4611686018427387904 -> FnV (env T hT) 209 [.d (pS s),.d (pI i),.d (pI k)] (.tup [.d (pI (gwz s i k)),.d (pB (decide (i + k <= s.length)))]):=fun i k hk hi => by
  rw [<- gwV_eq]; exact zhr s i k hk hi (by omega)
 refine zaU (zak zhp) (by show 3 <= 120; decide) fun B hB => ?_
 unfold m_s_l06Ext;refine mP ?_;refine mO ?_;(iterate 5 refine mS ?_);refine zac (args:=[.d (pS s),.d (pI p),.d (pI ((1:Nat):Int))]) rfl (hgw p 1 (by decide) (by omega)) ?_;refine mN ?_;refine mO ?_;(iterate 5 refine mS ?_);refine zaq (n:=((p + 1:Nat):Int)) rfl rfl rfl (by omega) (by omega) ?_;refine zac (args:=[.d (pS s),.d (pI ((p + 1:Nat):Int)),.d (pI ((1:Nat):Int))]) rfl (hgw (p + 1) 1 (by decide) (by omega)) ?_;refine mN ?_;by_cases hb:p + 2 <= s.length
 case neg =>
  refine zah (zag ?_);refine zau (fun st => has st.tm [(0,.ref 0 0),(6,.ref 1 0),(39,.d (pB true))] /\ st.bx = [[pS s,pI left],fV 0 0 0 []] /\ st.nt = nt /\ st.live = live) ?_ ?_
  ·refine zad ?_
   refine mS ?_;refine po_b rfl rfl (fun a1 ha1 => ?_);refine mS ?_
   cases a1 with
   | true =>
    refine mZ ?_;refine mN ?_
    exact ⟨⟨rfl,rfl,rfl,trivial⟩,rfl,rfl,rfl⟩
   | false =>
    refine mS ?_;refine po_q (v:=.d (pB true)) rfl (by show some (PV.d (.v (.bool (!decide (p + 1 + 1 <= s.length))))) = _; rw [decide_eq_false (by omega)]; rfl) ?_;refine mN ?_;exact ⟨⟨rfl,rfl,rfl,trivial⟩,rfl,rfl,rfl⟩
  rintro tm bx n1 l1 ⟨ht,rfl,rfl,rfl⟩;obtain ⟨tm0,rfl⟩:=zae ht;refine mwT ?_;refine mQ ?_;refine zao (p:=1) (cs:=fV 0 0 0 []) rfl rfl rfl rfl rfl rfl ?_;refine mN ?_;refine zaf ⟨.inr rfl,[.ag (fV 0 0 0 []),.d (pI (-1))],rfl,_,_,rfl,zbx (za7 _ _ _ _ n1 n1) _,zbJ s left,left,rfl,zde hl0 (fun v t0 h1 h2 h3 h4 h5 => ?_) _ _ _ _⟩
  rcases zcd h4 with ⟨n,e,he,hn,rfl,rfl⟩ | ⟨m,kid,hm,rfl,rfl⟩
  ·have:=(zcb hp h5 he (by unfold i64ok; omega)).1; omega
  ·have:=(zcc hp h5 hm).1; omega
 case pos =>
 have ha:p + 1 <= s.length:=by omega
 refine zah (zag (zah (zad ?_)));refine mS ?_;refine po_q (v:=.d (pB false)) rfl (by show some (PV.d (.v (.bool (!decide (p + 1 <= s.length))))) = _; rw [decide_eq_true ha]; rfl) ?_;(iterate 2 refine mS ?_);refine po_q (v:=.d (pB false)) rfl (by show some (PV.d (.v (.bool (!decide (p + 1 + 1 <= s.length))))) = _; rw [decide_eq_true hb]; rfl) ?_;refine mF ?_;rw [zdI ha,zdI (show p + 1 + 1 <= s.length from hb)];refine zbN (fun st => has st.tm [(0,.ref 0 0),(1,.d (pI p)),(2,.d (pI d)),(6,.ref 1 0),(8,.d (pI (gwN s p 1))),(10,.d (pI (gwN s (p + 1) 1)))] /\ st.bx = [[pS s,pI left],fV 0 0 0 []] /\ st.nt = nt /\ st.live = live) ⟨⟨rfl,rfl,rfl,rfl,rfl,rfl,trivial⟩,rfl,rfl,rfl⟩ (fun tm bx n1 l1 hh => ?_);obtain ⟨ht,hbx,hn,hlv⟩:=hh;obtain ⟨tm0,rfl⟩:=zae ht;simp only at hbx hn hlv; subst hbx; subst hn; subst hlv
 clear ht;refine zau (fun st => has st.tm [(0,.ref 0 0),(1,.d (pI p)),(2,.d (pI d)),(6,.ref 1 0),(8,.d (pI (gwN s p 1))),(10,.d (pI (gwN s (p + 1) 1))),(47,.d (pB (decide (gwN s p 1 = 9 /\ gwN s (p + 1) 1 = 4))))] /\ st.bx = [[pS s,pI left],fV 0 0 0 []] /\ st.nt = n1 /\ st.live = l1) ?_ ?_
 ·refine zad ?_
  refine mS ?_;by_cases c1:gwN s p 1 = 9
  ·refine zai rfl rfl (decide_eq_true c1) ?_
   (iterate 2 refine mS ?_);refine po_b rfl rfl (fun b2 hb2 => ?_);refine mN ?_;refine ⟨⟨rfl,rfl,rfl,rfl,rfl,rfl,?_,trivial⟩,rfl,rfl,rfl⟩
   have:decide (gwN s p 1 = 9 /\ gwN s (p + 1) 1 = 4) = b2:=by rw [hb2]; exact decide_eq_decide.2 ⟨fun h => h.2,fun h => ⟨c1,h⟩⟩
   rw [this]; rfl
  ·refine zam rfl rfl (decide_eq_false c1) ?_
   refine mS ?_;refine mZ ?_;refine mN ?_;exact ⟨⟨rfl,rfl,rfl,rfl,rfl,rfl,by rw [decide_eq_false (fun h => c1 h.1)]; rfl,trivial⟩,rfl,rfl,rfl⟩
 rintro tm bx n2 l2 ⟨ht,rfl,rfl,rfl⟩;obtain ⟨tm1,rfl⟩:=zae ht;clear ht;refine zca (p:=gwN s p 1 = 9 /\ gwN s (p + 1) 1 = 4) rfl (fun hc => ?_) (fun hc => ?_)
 ·refine mO ?_
  (iterate 5 refine mS ?_);refine zaq (n:=((p + 2:Nat):Int)) rfl rfl rfl (by omega) (by omega) ?_;refine zac (args:=[.d (pS s),.d (pI ((p + 2:Nat):Int)),.d (pI ((1:Nat):Int))]) rfl (hgw (p + 2) 1 (by decide) (by omega)) ?_;refine mN ?_;refine mO ?_;(iterate 5 refine mS ?_);refine zaq (n:=((p + 3:Nat):Int)) rfl rfl rfl (by omega) (by omega) ?_;refine zac (args:=[.d (pS s),.d (pI ((p + 3:Nat):Int)),.d (pI ((8:Nat):Int))]) rfl (hgw (p + 3) 8 (by decide) (by omega)) ?_;refine mN ?_;by_cases h11:p + 3 + 8 <= s.length
  ·refine mM ?_
   refine mS ?_;refine po_q (v:=.d (pB false)) rfl (by show some (PV.d (.v (.bool (!decide (p + 2 + 1 <= s.length))))) = _; rw [decide_eq_true (by omega)]; rfl) ?_;(iterate 2 refine mS ?_);refine po_q (v:=.d (pB false)) rfl (by show some (PV.d (.v (.bool (!decide (p + 3 + 8 <= s.length))))) = _; rw [decide_eq_true h11]; rfl) ?_;refine mK ?_;refine mO ?_;rw [zdI (show p + 2 + 1 <= s.length by omega),zdI h11];(iterate 2 refine mS ?_);refine zac (args:=[.d (pI (gwN s (p + 2) 1)),.d (pI ((1:Nat):Int))]) rfl (sgn_fn (gwN s (p + 2) 1) 1 (by decide)) ?_;(iterate 2 refine mS ?_);refine zaq (n:=((p + 11:Nat):Int)) rfl rfl rfl (by omega) (by omega) ?_;refine zao (p:=1) (cs:=fV 4 (gwN s (p + 3) 8) (sgw (gwN s (p + 2) 1) 1) []) rfl rfl rfl rfl rfl rfl ?_;refine mN ?_
   have hsg:i64ok (sgw (gwN s (p + 2) 1) 1):=by
    have:=zbw s (p + 2) 1 (by decide)
    unfold sgw i64ok;rw [if_pos (by decide),show ((256 ^ 1:Nat):Int) = 256 from rfl,show ((256 ^ 1 / 2:Nat):Int) = 128 from rfl]
    split <;> omega
   refine zaf ⟨.inr rfl,[.ag (fV 4 (gwN s (p + 3) 8) (sgw (gwN s (p + 2) 1) 1) []),.d (pI ((p + 11:Nat):Int))],rfl,_,_,rfl,zbx (za7 _ _ _ _ n2 n2) _,zbJ s left,left,rfl,_,_,rfl,rfl,za7 _ _ _ _ _ _,(fun t ht => by rw [zbB] at ht; cases ht),fun t ht _ _ => ht,lR,by omega,.inr ⟨p + 11,.mk 4 (gwN s (p + 3) 8) (sgw (gwN s (p + 2) 1) 1) [] [],rfl,rfl,⟨by unfold i64ok; omega,zdH _ _ _,hsg,by unfold strok; simp,by simp,trivial⟩,by omega,by omega,by simp [V.bulk,V.bulks],hl0⟩,fun v t0 h1 h2 h3 h4 h5 => ?_⟩
   rcases zcd h4 with ⟨n,e,he,hn,rfl,rfl⟩ | ⟨m,kid,hm,rfl,rfl⟩
   ·obtain ⟨q1,q2,q3,q4,q5⟩:=zcb hp h5 he (by unfold i64ok; omega)
    refine ⟨?_,?_,?_⟩
    ·simp [zab]
    ·rw [q4,q5]; rfl
    ·simp [V.nodes,V.nodess]
   ·have:=(zcc hp h5 hm).2.1; omega
  ·refine zah ?_
   refine zau (fun st => has st.tm [(0,.ref 0 0),(6,.ref 1 0),(79,.d (pB true))] /\ st.bx = [[pS s,pI left],fV 0 0 0 []] /\ st.nt = n2 /\ st.live = l2) ?_ ?_
   ·refine zad ?_
    refine mS ?_;refine po_b rfl rfl (fun a1 ha1 => ?_);refine mS ?_
    cases a1 with
    | true =>
     refine mZ ?_;refine mN ?_
     exact ⟨⟨rfl,rfl,rfl,trivial⟩,rfl,rfl,rfl⟩
    | false =>
     refine mS ?_;refine po_q (v:=.d (pB true)) rfl (by show some (PV.d (.v (.bool (!decide (p + 3 + 8 <= s.length))))) = _; rw [decide_eq_false h11]; rfl) ?_;refine mN ?_;exact ⟨⟨rfl,rfl,rfl,trivial⟩,rfl,rfl,rfl⟩
   rintro tm bx n1 l1 ⟨ht,rfl,rfl,rfl⟩;obtain ⟨tm0,rfl⟩:=zae ht;refine mwT ?_;refine mQ ?_;refine zao (p:=1) (cs:=fV 0 0 0 []) rfl rfl rfl rfl rfl rfl ?_;refine mN ?_;refine zaf ⟨.inr rfl,[.ag (fV 0 0 0 []),.d (pI (-1))],rfl,_,_,rfl,zbx (za7 _ _ _ _ n1 n1) _,zbJ s left,left,rfl,zde hl0 (fun v t0 h1 h2 h3 h4 h5 => ?_) _ _ _ _⟩
   rcases zcd h4 with ⟨n,e,he,hn,rfl,rfl⟩ | ⟨m,kid,hm,rfl,rfl⟩
   ·have:=(zcb hp h5 he (by unfold i64ok; omega)).1; omega
   ·have:=(zcc hp h5 hm).2.1; omega
 refine zbN (fun st => has st.tm [(0,.ref 0 0),(1,.d (pI p)),(2,.d (pI d)),(6,.ref 1 0),(8,.d (pI (gwN s p 1))),(10,.d (pI (gwN s (p + 1) 1)))] /\ st.bx = [[pS s,pI left],fV 0 0 0 []] /\ st.nt = n2 /\ st.live = l2) ⟨⟨rfl,rfl,rfl,rfl,rfl,rfl,trivial⟩,rfl,rfl,rfl⟩ (fun tm bx n1 l1 hh => ?_);obtain ⟨ht,hbx,hn,hlv⟩:=hh;obtain ⟨tm2,rfl⟩:=zae ht;simp only at hbx hn hlv; subst hbx; subst hn; subst hlv
 clear ht;refine zau (fun st => has st.tm [(0,.ref 0 0),(1,.d (pI p)),(2,.d (pI d)),(6,.ref 1 0),(87,.d (pB (decide (gwN s p 1 = 4 /\ gwN s (p + 1) 1 = 6))))] /\ st.bx = [[pS s,pI left],fV 0 0 0 []] /\ st.nt = n1 /\ st.live = l1) ?_ ?_
 ·refine zad ?_
  refine mS ?_;by_cases c1:gwN s p 1 = 4
  ·refine zai rfl rfl (decide_eq_true c1) ?_
   (iterate 2 refine mS ?_);refine po_b rfl rfl (fun b2 hb2 => ?_);refine mN ?_;refine ⟨⟨rfl,rfl,rfl,rfl,?_,trivial⟩,rfl,rfl,rfl⟩
   have:decide (gwN s p 1 = 4 /\ gwN s (p + 1) 1 = 6) = b2:=by rw [hb2]; exact decide_eq_decide.2 ⟨fun h => h.2,fun h => ⟨c1,h⟩⟩
   rw [this]; rfl
  ·refine zam rfl rfl (decide_eq_false c1) ?_
   refine mS ?_;refine mZ ?_;refine mN ?_;exact ⟨⟨rfl,rfl,rfl,rfl,by rw [decide_eq_false (fun h => c1 h.1)]; rfl,trivial⟩,rfl,rfl,rfl⟩
 rintro tm bx n2 l2 ⟨ht,rfl,rfl,rfl⟩;obtain ⟨tm3,rfl⟩:=zae ht;clear ht;refine zca (p:=gwN s p 1 = 4 /\ gwN s (p + 1) 1 = 6) rfl (fun hc6 => ?_) (fun hc6 => ?_)
 ·refine mO ?_
  (iterate 5 refine mS ?_);refine zaq (n:=((p + 2:Nat):Int)) rfl rfl rfl (by omega) (by omega) ?_;refine zac (args:=[.d (pS s),.d (pI ((p + 2:Nat):Int)),.d (pI ((4:Nat):Int))]) rfl (hgw (p + 2) 4 (by decide) (by omega)) ?_;refine mN ?_;by_cases h6:p + 2 + 4 <= s.length
  ·refine mM ?_
   refine mS ?_;refine po_q (v:=.d (pB false)) rfl (by show some (PV.d (.v (.bool (!decide (p + 2 + 4 <= s.length))))) = _; rw [decide_eq_true h6]; rfl) ?_;refine mK ?_;refine mO ?_;rw [zdI h6];(iterate 2 refine mS ?_);refine zaq (n:=((p + 6:Nat):Int)) rfl rfl rfl (by omega) (by omega) ?_;refine mS ?_;refine po_g rfl (FnG.lift1 (p:=0) (hK (p + 6) left 9 1 true n2 l2 (fun _ => by omega) (by omega) hl0 hl hnt (by omega) (by unfold i64ok; omega)) ⟨trivial,trivial,trivial,trivial,trivial,trivial⟩ (zbJ s left) rfl) ?_;rintro x _ n3 l3 ⟨c',rfl,left2,rfl,cs,next,rfl,hc5,hnew,hctk,hlv2,hn2,hl3,hres,hcomp⟩;(iterate 3 refine mS ?_);refine zb5 (cs:=cs) rfl hc5 rfl rfl ?_;refine mL ?_;refine mO ?_;(iterate 2 refine mS ?_);obtain ⟨a0,a1,a2,a3,a4,rfl⟩:=five hc5;refine zaw (p:=2) (o':=1) (cs:=[pI (gwN s (p + 2) 4)]) (z:=[a0,a1,a2,a3,a4]) rfl rfl rfl ⟨rfl,Nat.le_of_ble_eq_true rfl⟩ rfl ?_
   refine zaa ?_;refine mO ?_;refine za1 (p:=2) (cs:=[a0,pI (gwN s (p + 2) 4),a2,a3,a4]) rfl rfl rfl rfl ?_;refine mS ?_;refine zao (p:=1) (cs:=[a0,pI (gwN s (p + 2) 4),a2,a3,a4]) rfl rfl rfl rfl rfl rfl ?_;refine mN ?_;have hN:=new_num hnew (pI (gwN s (p + 2) 4)) rfl rfl;refine zaf ⟨.inr rfl,[.ag [a0,pI (gwN s (p + 2) 4),a2,a3,a4],.d (pI next)],rfl,_,_,rfl,zbx hN.1 _,zbJ s left2,left2,rfl,_,_,rfl,rfl,hN.1,fun t ht => hctk t (hN.2 t ht),hlv2,hn2,hl3,?_,fun v t0 h1 h2 h3 h4 h5 => ?_⟩
   ·rcases hres with h | ⟨j,vs,rfl,he,hvw,hv1,_,hj1,hj2,hvb,hl4,_⟩
    ·exact .inl h
    ·refine .inr ⟨j,.mk 9 (gwN s (p + 2) 4) 0 [] vs,rfl,er_num he _,⟨by unfold i64ok; omega,zdH _ _ _,by unfold i64ok; omega,by unfold strok; simp,by omega,hvw⟩,by omega,hj2,by simp only [V.bulk,length_nil]; omega,hl4⟩
   ·rcases zcd h4 with ⟨n,e,he,hn,rfl,rfl⟩ | ⟨m,kid,hm,rfl,rfl⟩
    ·have:=(zcb hp h5 he (by unfold i64ok; omega)).2.1; omega
    ·obtain ⟨q1,q2,q3,q4,q5⟩:=zcc hp h5 hm
     have h2':=h2;simp only [V.rightBy,Bool.and_eq_true] at h2';obtain ⟨r1,r2,r3⟩:=hcomp [kid] ⟨h1.2.2.2.2.2.1,trivial⟩ h2'.1 (by simp only [V.nodes,V.nodess] at h3 ⊢; omega) rfl rfl (by simpa [msgs] using q5);refine ⟨?_,?_,?_⟩
     ·rw [r1]; simp [msgs,zab]; omega
     ·rw [q4]; exact er_num r2 _
     ·rw [r3]; simp only [V.nodes,V.nodess]; omega
  ·refine mM ?_
   refine mS ?_;refine po_q (v:=.d (pB true)) rfl (by show some (PV.d (.v (.bool (!decide (p + 2 + 4 <= s.length))))) = _; rw [decide_eq_false h6]; rfl) ?_;refine mT ?_;refine mQ ?_;refine zao (p:=1) (cs:=fV 0 0 0 []) rfl rfl rfl rfl rfl rfl ?_;refine mN ?_;refine zaf ⟨.inr rfl,[.ag (fV 0 0 0 []),.d (pI (-1))],rfl,_,_,rfl,zbx (za7 _ _ _ _ n2 n2) _,zbJ s left,left,rfl,zde hl0 (fun v t0 h1 h2 h3 h4 h5 => ?_) _ _ _ _⟩
   rcases zcd h4 with ⟨n,e,he,hn,rfl,rfl⟩ | ⟨m,kid,hm,rfl,rfl⟩
   ·have:=(zcb hp h5 he (by unfold i64ok; omega)).2.1; omega
   ·have:=(zcc hp h5 hm).1; omega
 ·refine zaj ?_
  refine mQ ?_;refine zao (p:=1) (cs:=fV 0 0 0 []) rfl rfl rfl rfl rfl rfl ?_;refine mN ?_;refine zaf ⟨.inr rfl,[.ag (fV 0 0 0 []),.d (pI (-1))],rfl,_,_,rfl,zbx (za7 _ _ _ _ n2 n2) _,zbJ s left,left,rfl,zde hl0 (fun v t0 h1 h2 h3 h4 h5 => ?_) _ _ _ _⟩
  rcases zcd h4 with ⟨n,e,he,hn,rfl,rfl⟩ | ⟨m,kid,hm,rfl,rfl⟩
  ·have:=zcb hp h5 he (by unfold i64ok; omega); exact hc ⟨this.2.1,this.2.2.1⟩
  ·have:=zcc hp h5 hm; exact hc6 ⟨this.2.1,this.2.2.1⟩
end
section
def HdC (s:L8) (d left:Int) (i bb:Nat):Prop:=∀ v:V,v.wf -> v.rightBy pairsOk (12 - d) = true -> (v.nodes:Int) <= left -> At s i (msg v) -> ∃ t0,MsgTop v bb t0 /\ At s (i + 1) t0 /\ (msg v).length = 1 + t0.length
theorem hdC {s:L8} {d left:Int} {i:Nat} (hl:left <= 300) (hi:i < s.length):HdC s d left i s[i].toNat:=by
 intro v hw hr hn hA
 obtain ⟨b,t0,hM,hb,he⟩:=zel hr (by
  obtain ⟨k,n,e,x,kids⟩:=v
  have:=V.kids_nodes kids
  simp only [V.nodes] at hn;show kids.length <= 300
  omega) (by obtain ⟨k,n,e,x,kids⟩:=v; exact hw.2.1)
 rw [he] at hA;have h1:=hA.cons;rw [getElem?_eq_getElem hi] at h1
 have hbb:s[i].toNat = b:=by
  have:=Option.some.inj h1.1
  rw [this,byteOf_id hb]
 rw [hbb,he];exact ⟨t0,hM,h1.2,by simp only [length_cons]; omega⟩
theorem zen {s:L8} {d left left':Int} {i bb nt nt':Nat} {live live':List Nat} (HC:HdC s d left i bb) (hn:nt <= nt') (hlv:∀ t ∈ live,2 <= t -> t < nt -> t ∈ live') (hl:-1 <= left' /\ left' <= left)
  (hc:∀ (v:V) (t0:L8),v.wf -> MsgTop v bb t0 -> ¬ At s (i + 1) t0) (k n e:Int) (t:L8):GotV s d left i nt live (.tup [.ag (fV k n e t),.d (pI (-1))]) left' nt' live' :=
 ⟨_,_,rfl,rfl,za7 _ _ _ _ _ _,(fun t ht => by rw [zbB] at ht; cases ht),hlv,hn,hl,.inl rfl,fun v h1 h2 h3 h4 => by
  obtain ⟨t0,q1,q2,_⟩:=HC v h1 h2 h3 h4;exact absurd q2 (hc v t0 h1 q1)⟩
theorem zbK {s:L8} {d left:Int} {i bb j nt nt':Nat} {live live':List Nat} {cs:List PC} {u:V} (HC:HdC s d left i bb) (he:erL cs = vC u) (h5:cs.length = 5) (ho:ownedL cs = true) (ht:toksL cs = []) (hk:u.nodes = 1) (hw:u.wf) (hj:i < j /\ j <= s.length) (hb:u.bulk + 1 <= 2 * (j - i)) (hl:1 <= left) (hn:nt <= nt') (hlv:∀ t ∈ live,2 <= t -> t < nt -> t ∈ live')
  (hc:∀ (v:V) (t0:L8),v.wf -> MsgTop v bb t0 -> At s (i + 1) t0 -> v = u /\ j = i + 1 + t0.length):GotV s d left i nt live (.tup [.ag cs,.d (pI j)]) (left - 1) nt' live' :=
 ⟨_,_,rfl,h5,⟨ho,by rw [ht]; exact nodup_nil,fun t h => by rw [ht] at h; cases h⟩,(fun t h => by rw [ht] at h; cases h),hlv,hn,by omega,.inr ⟨j,u,rfl,he,hw,hj.1,hj.2,hb,by omega⟩,fun v h1 h2 h3 h4 => by
  obtain ⟨t0,q1,q2,q3⟩:=HC v h1 h2 h3 h4;obtain ⟨rfl,q4⟩:=hc v t0 h1 q1 q2;exact ⟨by rw [q3,q4]; congr 1; omega,he,by rw [hk]; rfl⟩⟩
theorem zdf {s:L8} {d left left' kind many:Int} {ok:Bool} {i bb i2 c nt nt':Nat} {live live':List Nat} {x:PV} (_hs:s.length <= 2147483647) (HC:HdC s d left i bb) (hi2:i2 = i + 1 + c) (hkind:i64ok kind) (hG:GotK s d (left - 1) kind many ok i2 nt live x left' nt' live')
  (hc:∀ (v:V) (t0:L8),v.wf -> MsgTop v bb t0 -> At s (i + 1) t0 -> ∃ us,v = .mk kind 0 0 [] us /\ (us.length:Int) = many /\ At s i2 (msgs us) /\ t0.length = c + (msgs us).length /\ ok = true):GotV s d left i nt live x left' nt' live':=by
 obtain ⟨cs,next,rfl,h5,hN,hct,hlv,hn,hl,hres,hcomp⟩:=hG;refine ⟨cs,next,rfl,h5,hN,hct,hlv,hn,by omega,?_,fun v h1 h2 h3 h4 => ?_⟩
 ·rcases hres with h | ⟨j,vs,rfl,he,hvw,hv1,hv2,hj1,hj2,hvb,hl4,_⟩
  ·exact .inl h
  ·exact .inr ⟨j,_,rfl,he,⟨hkind,by unfold i64ok; omega,by unfold i64ok; omega,by unfold strok; simp,by omega,hvw⟩,by omega,hj2,by simp only [V.bulk,length_nil]; omega,hl4⟩
 ·obtain ⟨t0,q1,q2,q3⟩:=HC v h1 h2 h3 h4
  obtain ⟨us,rfl,e2,e3,e4,e5⟩:=hc v t0 h1 q1 q2;simp only [V.rightBy,Bool.and_eq_true] at h2;obtain ⟨r1,r2,r3⟩:=hcomp us h1.2.2.2.2.2 h2.1 (by simp only [V.nodes] at h3; omega) e2 e5 e3;exact ⟨by rw [r1,q3,e4,hi2]; congr 1; omega,r2,by rw [r3]; simp only [V.nodes]; omega⟩
theorem zdg {s:L8} {d left kind:Int} {ok:Bool} {i bb i2 c many nt:Nat} {live:List Nat} (hs:s.length <= 2147483647) (HC:HdC s d left i bb) (hi2:i2 = i + 1 + c) (hkind:i64ok kind) (hl:1 <= left)
  (hc:∀ (v:V) (t0:L8),v.wf -> MsgTop v bb t0 -> At s (i + 1) t0 -> ∃ tx,v = .mk kind 0 0 tx [] /\ tx.length = many /\ At s i2 tx /\ t0.length = c + tx.length /\ ok = true) (hi:i < s.length) (hok:ok = true -> i2 <= s.length):GotV s d left i nt live (strV s i2 kind many ok) (left - 1) nt live:=by
 unfold strV;by_cases h:ok = true /\ (many:Int) <= s.length - i2
 ·rw [if_pos h]
  have h2:=hok h.1;have hlen:((s.drop i2).take many).length = many:=by rw [length_take,length_drop]; omega
  refine zbK HC (fV_er kind 0 0 _) rfl rfl (zbB _ _ _ _) (by simp [V.nodes,V.nodess]) ⟨hkind,by unfold i64ok; omega,by unfold i64ok; omega,by unfold strok; omega,by simp,trivial⟩ (by omega) (by simp only [V.bulk,V.bulks,length_nil]; omega) hl lR (fun t ht _ _ => ht) fun v t0 h1 h3 h4 => ?_
  obtain ⟨tx,rfl,e2,e3,e4,_⟩:=hc v t0 h1 h3 h4
  have:=e3.take
  rw [e2] at this;exact ⟨by rw [this],by omega⟩
 ·rw [if_neg h]
  refine zen HC lR (fun t ht _ _ => ht) (by omega) (fun v t0 h1 h3 h4 => ?_) _ _ _ _;obtain ⟨tx,rfl,e2,e3,e4,e5⟩:=hc v t0 h1 h3 h4;have h2:=hok e5
  have:=e3.len h2
  exact h ⟨e5,by omega⟩
theorem gotV_ext {s:L8} {d left left':Int} {i nt nt':Nat} {live live':List Nat} {x:PV} (HC:HdC s d left i 199) (hG:GotX s d (left - 1) (i + 1) nt live x left' nt' live'):GotV s d left i nt live x left' nt' live':=by
 obtain ⟨cs,next,rfl,h5,hN,hct,hlv,hn,hl,hres,hcomp⟩:=hG;refine ⟨cs,next,rfl,h5,hN,hct,hlv,hn,by omega,?_,fun v h1 h2 h3 h4 => ?_⟩
 ·rcases hres with h | ⟨j,u,rfl,he,hvw,hj1,hj2,hvb,hl4⟩
  ·exact .inl h
  ·exact .inr ⟨j,_,rfl,he,hvw,by omega,hj2,by omega,hl4⟩
 ·obtain ⟨t0,q1,q2,q3⟩:=HC v h1 h2 h3 h4
  obtain ⟨r1,r2,r3⟩:=hcomp v t0 h1 h2 (by omega) q1 q2;exact ⟨by rw [r1,q3]; congr 1; omega,r2,by omega⟩
theorem wide_num (s:L8) (i b:Nat):i64ok (wideN s i b):=by
 unfold wideN;have h0:=zdH s i (2 ^ (b % 4));split
 ·unfold sgw
  split
  ·rename_i h
   have hp:=zdd (k:=2 ^ (b % 4)) h.2;have h1:=Int.emod_nonneg (gwN s i (2 ^ (b % 4))) (show ((256 ^ 2 ^ (b % 4):Nat):Int) ≠ 0 by omega);have h2:=Int.emod_lt_of_pos (gwN s i (2 ^ (b % 4))) (show (0:Int) < ((256 ^ 2 ^ (b % 4):Nat):Int) by omega);unfold i64ok
   split <;> omega
  ·exact h0
 ·exact h0
theorem gotV_wide {s:L8} {d left:Int} {i bb nt:Nat} {live:List Nat} (HC:HdC s d left i bb) (hb:204 <= bb /\ bb <= 211) (hl:1 <= left) (hi:i < s.length):GotV s d left i nt live (wideV s (i + 1) bb) (left - 1) (nt + 1) (nt :: live):=by
 have key:∀ (v:V) (t0:L8),v.wf -> MsgTop v bb t0 -> At s (i + 1) t0 -> v = .mk 3 (wideN s (i + 1) bb) 0 [] [] /\ t0.length = 2 ^ (bb % 4):=by
  intro v t0 hw hM hA
  cases hM with
  | uint j hj n h =>
   have e:(204 + j) % 4 = j:=by omega
   unfold wideN;rw [e,if_neg (by omega),hA.gw_id h.1 h.2]
   exact ⟨rfl,by rw [zab]⟩
  | sint j hj n h =>
   have e:(208 + j) % 4 = j:=by omega
   unfold wideN;rw [e,if_pos (by omega),hA.gw]
   have hj':2 ^ j = 1 \/ 2 ^ j = 2 \/ 2 ^ j = 4 \/ 2 ^ j = 8:=by
    have:j = 0 \/ j = 1 \/ j = 2 \/ j = 3:=by omega
    rcases this with rfl | rfl | rfl | rfl <;> decide
   rw [zdQ n (2 ^ j) hj' ⟨h.2,by have:=Nat.pow_pos (n:=8 * 2 ^ j - 1) (show 0 < 2 by decide); omega⟩]
   exact ⟨rfl,by rw [zab]⟩
  | _ => exfalso; omega
 unfold wideV;by_cases h:i + 1 + 2 ^ (bb % 4) <= s.length
 ·rw [if_pos h]
  have:=(pow24 bb).1
  refine zbK HC (zfj _) rfl rfl rfl (by simp [V.nodes,V.nodess]) ⟨by unfold i64ok; omega,wide_num _ _ _,by unfold i64ok; omega,by unfold strok; simp,by simp,trivial⟩ (by omega) (by simp only [V.bulk,V.bulks,length_nil]; omega) hl (Nat.le_succ _) (fun t ht _ _ => mem_cons_of_mem _ ht) fun v t0 h1 h3 h4 => ?_
  obtain ⟨k1,k2⟩:=key v t0 h1 h3 h4;exact ⟨k1,by rw [k2]⟩
 ·rw [if_neg h]
  refine zen HC (Nat.le_succ _) (fun t ht _ _ => mem_cons_of_mem _ ht) (by omega) (fun v t0 h1 h3 h4 => ?_) _ _ _ _
  have:=(key v t0 h1 h3 h4).2
  have:=h4.len (by omega)
  omega
end
section
variable {T:World -> Prop} {hT:Low ngl T}
attribute [local irreducible] po mw pt
def GetR (s:L8) (d left:Int) (i nt:Nat) (live:List Nat) (x:PV) (b:LP PC) (n:Nat) (l:List Nat):Prop:=∃ c' rest,b = c' :: rest /\ x.lw 0 /\ lwL 0 c' /\ ∃ left',c' = [pS s,pI left'] /\ GotV s d left i nt live x left' n l
theorem za4 {s:L8} {d left left' next:Int} {i nt n:Nat} {live l:List Nat} {cs:List PC} {rest:LP PC} (h:GotV s d left i nt live (.tup [.ag cs,.d (pI next)]) left' n l):GetR s d left i nt live (.tup [.ag cs,.d (pI next)]) ([pS s,pI left'] :: rest) n l:=by
 refine ⟨_,_,rfl,?_,zbJ s left',left',rfl,h⟩;obtain ⟨cs',next',e,_,hN,_⟩:=h;simp only [PV.tup.injEq,cons.injEq,PV.ag.injEq,and_true] at e;obtain ⟨rfl,_⟩:=e;exact zbx hN _
theorem get_g {s:L8} (hs:s.length <= 2147483647) {d:Int} (hd:0 <= d /\ d <= 13) (hK:d <= 12 -> KidsG T hT s d):GetG T hT s d:=by
 intro i left nt live hi hl0 hl hnt
 have hgw:∀ (i k:Nat),1 <= k /\ k <= 8 -> i <= 4611686018427387904 -> FnV (env T hT) 209 [.d (pS s),.d (pI i),.d (pI k)] (.tup [.d (pI (gwz s i k)),.d (pB (decide (i + k <= s.length)))]):=fun i k hk hi => by
  rw [<- gwV_eq]; exact zhr s i k hk hi (by omega)
 refine zaU (R:=GetR s d left i nt live) (zak zhm) (by show 3 <= 211; decide) fun B hB => ?_
 unfold m_s_l06Get;refine mP ?_;refine mO ?_;(iterate 4 refine mS ?_);refine zaQ (n:=left - 1) rfl rfl rfl rfl (by omega) ?_;(iterate 2 refine mS ?_);refine zaw (p:=0) (o':=1) (cs:=[pI (left - 1)]) (z:=[pS s,pI left]) rfl rfl rfl ⟨rfl,Nat.le_of_ble_eq_true rfl⟩ rfl ?_;refine zaa ?_;refine zah ?_;refine zau (fun st => has st.tm [(0,.ref 0 0),(1,.d (pI i)),(2,.d (pI d)),(6,.ref 1 0),(37,.d (pB (decide (left = 0 \/ d > 12 \/ i ≥ s.length))))] /\ st.bx = [[pS s,pI (left - 1)],fV 0 0 0 []] /\ st.nt = nt /\ st.live = live) ?_ ?_
 ·refine zad ?_
  (iterate 4 refine mS ?_);by_cases c1:left = 0
  ·refine zai rfl rfl (decide_eq_true (show left - 1 < 0 by omega)) ?_
   refine mS ?_;refine mZ ?_;(iterate 2 refine mS ?_);refine mZ ?_;refine mN ?_;exact ⟨⟨rfl,rfl,rfl,rfl,by rw [decide_eq_true (.inl c1)]; rfl,trivial⟩,rfl,rfl,rfl⟩
  refine zam rfl rfl (decide_eq_false (show ¬ left - 1 < 0 by omega)) ?_;(iterate 2 refine mS ?_);by_cases c2:d > 12
  ·refine zai rfl rfl (decide_eq_true c2) ?_
   (iterate 2 refine mS ?_);refine mZ ?_;refine mN ?_;exact ⟨⟨rfl,rfl,rfl,rfl,by rw [decide_eq_true (.inr (.inl c2))]; rfl,trivial⟩,rfl,rfl,rfl⟩
  refine zam rfl rfl (decide_eq_false c2) ?_;(iterate 7 refine mS ?_);refine po_q (v:=.d (pI s.length)) rfl rfl ?_;by_cases c3:i ≥ s.length
  ·refine zai rfl rfl (decide_eq_true (show (i:Int) ≥ s.length by omega)) ?_
   refine mN ?_;exact ⟨⟨rfl,rfl,rfl,rfl,by rw [decide_eq_true (.inr (.inr c3))]; rfl,trivial⟩,rfl,rfl,rfl⟩
  ·refine zam rfl rfl (decide_eq_false (show ¬ (i:Int) ≥ s.length by omega)) ?_
   refine mN ?_;exact ⟨⟨rfl,rfl,rfl,rfl,by rw [decide_eq_false (by omega)]; rfl,trivial⟩,rfl,rfl,rfl⟩
 rintro tm bx n1 l1 ⟨ht,rfl,rfl,rfl⟩;obtain ⟨tm0,rfl⟩:=zae ht;clear ht;refine zca (p:=left = 0 \/ d > 12 \/ i ≥ s.length) rfl (fun hc => ?_) (fun hc => ?_)
 ·refine mQ ?_
  refine zao (p:=1) (cs:=fV 0 0 0 []) rfl rfl rfl rfl rfl rfl ?_;refine mN ?_;refine zaf ⟨.inr rfl,[.ag (fV 0 0 0 []),.d (pI (-1))],rfl,za4 ⟨_,_,rfl,rfl,za7 _ _ _ _ _ _,(fun t ht => by rw [zbB] at ht; cases ht),fun t ht _ _ => ht,lR,by omega,.inl rfl,fun v h1 h2 h3 h4 => ?_⟩⟩;exfalso;have hnp:=v.nodes_pos
  have h2':0 <= 12 - d:=by
   obtain ⟨k,n,e,x,kids⟩:=v;simp only [V.rightBy,Bool.and_eq_true,decide_eq_true_eq] at h2;exact h2.2.1
  obtain ⟨b,t0,_,_,he⟩:=zel h2 (by
   obtain ⟨k,n,e,x,kids⟩:=v
   have:=V.kids_nodes kids
   simp only [V.nodes] at h3;show kids.length <= 300
   omega) (by obtain ⟨k,n,e,x,kids⟩:=v; exact h1.2.1)
  rw [he] at h4
  have:=h4.lt
  omega
 refine zaj ?_;have hil:i < s.length:=by omega
 have hl1:1 <= left:=by omega
 have hd12:d <= 12:=by omega
 have hK:=hK hd12;have HC:=hdC (d:=d) hl hil;have hbt:=(s[i]).toNat_lt;refine mO ?_;(iterate 5 refine mS ?_);refine zek (k:=i) rfl rfl rfl rfl (getElem?_eq_getElem hil) ?_;refine zbs (n:=((s[i]).toNat:Int)) rfl rfl (by rw [IntKind.wrap_i64]; omega) ?_;refine mN ?_;refine mQ ?_;refine zaq (n:=((i + 1:Nat):Int)) rfl rfl rfl (by omega) (by omega) ?_;refine mN ?_;generalize s[i].toNat = bb at HC hbt;refine zbN (fun st => has st.tm [(0,.ref 0 0),(1,.d (pI ((i + 1:Nat):Int))),(2,.d (pI d)),(6,.ref 1 0),(8,.d (pI bb))] /\ st.bx = [[pS s,pI (left - 1)],fV 0 0 0 []] /\ st.nt = n1 /\ st.live = l1) ⟨⟨rfl,rfl,rfl,rfl,rfl,trivial⟩,rfl,rfl,rfl⟩ (fun tm bx n2 l2 hh => ?_);obtain ⟨ht,hbx,hn,hlv⟩:=hh;obtain ⟨tm1,rfl⟩:=zae ht;simp only at hbx hn hlv; subst hbx; subst hn; subst hlv
 clear ht;have hz:lwL 0 [pS s,pI (left - 1)]:=zbJ s (left - 1);have live0:∀ t ∈ l2,2 <= t -> t < n2 -> t ∈ l2:=fun t ht _ _ => ht
 refine zah (zag ?_);refine mQ ?_;by_cases k:(bb:Int) < 128
 ·refine zai rfl rfl (decide_eq_true k) ?_
  refine mT ?_;refine mQ ?_;refine zac rfl (int_fn ((bb:Int))) ?_;refine mS ?_;refine zao (p:=1) (cs:=vC (.mk 3 ((bb:Int)) 0 [] [])) rfl rfl rfl rfl rfl rfl ?_;refine mN ?_;refine zaf ⟨.inr rfl,[.ag (vC (.mk 3 ((bb:Int)) 0 [] [])),.d (pI ((i + 1:Nat):Int))],rfl,za4 (zbK HC (zfj _) rfl rfl rfl (by simp [V.nodes,V.nodess]) ⟨by unfold i64ok; omega,by unfold i64ok; omega,by unfold i64ok; omega,by unfold strok; simp,by simp,trivial⟩ (by omega) (by simp only [V.bulk,V.bulks,length_nil]; omega) hl1 lR live0 fun v t0 h1 hM hA => ?_)⟩
  cases hM <;> first | (exfalso; omega) | exact ⟨rfl,rfl⟩
 refine zam rfl rfl (decide_eq_false k) ?_;refine mF ?_;refine mQ ?_;by_cases k:(bb:Int) < 144
 ·refine zai rfl rfl (decide_eq_true k) ?_
  refine mT ?_;refine mQ ?_;refine mS ?_;refine mS ?_;refine zaQ (n:=(bb:Int) - 128) rfl rfl rfl rfl (by omega) ?_;refine zc7 (n:=2 * ((bb:Int) - 128)) rfl rfl rfl rfl (by omega) ?_;refine mS ?_;refine po_g rfl (FnG.lift1 (p:=0) (hK (i + 1) (left - 1) 8 (2 * ((bb:Int) - 128)) true n2 l2 (fun _ => by omega) (by omega) (by omega) (by omega) hnt (by omega) (by unfold i64ok; omega)) ⟨trivial,trivial,trivial,trivial,trivial,trivial⟩ hz rfl) ?_;rintro x _ n3 l3 ⟨c',rfl,left2,rfl,hGK⟩
  have hGV:=zdf (bb:=bb) (c:=0) hs HC (by omega) (by unfold i64ok; omega) hGK (fun v t0 h1 hM hA => by
   cases hM with
   | map n h kids hl => exact ⟨kids,rfl,by omega,hA,by simp,rfl⟩
   | _ => exfalso; omega)
  obtain ⟨cs,next,rfl,hc5,_⟩:=hGK;(iterate 2 refine mS ?_);refine zao (p:=1) (cs:=cs) rfl rfl rfl hc5 rfl rfl ?_;refine mN ?_;exact zaf ⟨.inr rfl,[.ag cs,.d (pI next)],zbg rfl rfl hc5 rfl,za4 hGV⟩
 refine zam rfl rfl (decide_eq_false k) ?_;refine mF ?_;refine mQ ?_;by_cases k:(bb:Int) < 160
 ·refine zai rfl rfl (decide_eq_true k) ?_
  refine mT ?_;refine mQ ?_;refine mS ?_;refine mS ?_;refine zaQ (n:=(bb:Int) - 144) rfl rfl rfl rfl (by omega) ?_;refine mS ?_;refine po_g rfl (FnG.lift1 (p:=0) (hK (i + 1) (left - 1) 7 ((bb:Int) - 144) true n2 l2 (fun _ => by omega) (by omega) (by omega) (by omega) hnt (by omega) (by unfold i64ok; omega)) ⟨trivial,trivial,trivial,trivial,trivial,trivial⟩ hz rfl) ?_;rintro x _ n3 l3 ⟨c',rfl,left2,rfl,hGK⟩
  have hGV:=zdf (bb:=bb) (c:=0) hs HC (by omega) (by unfold i64ok; omega) hGK (fun v t0 h1 hM hA => by
   cases hM with
   | list kids h => exact ⟨kids,rfl,by omega,hA,by simp,rfl⟩
   | _ => exfalso; omega)
  obtain ⟨cs,next,rfl,hc5,_⟩:=hGK;(iterate 2 refine mS ?_);refine zao (p:=1) (cs:=cs) rfl rfl rfl hc5 rfl rfl ?_;refine mN ?_;exact zaf ⟨.inr rfl,[.ag cs,.d (pI next)],zbg rfl rfl hc5 rfl,za4 hGV⟩
 refine zam rfl rfl (decide_eq_false k) ?_;refine mF ?_;refine mQ ?_;by_cases k:(bb:Int) < 192
 ·refine zai rfl rfl (decide_eq_true k) ?_
  refine mT ?_;refine mQ ?_;refine mS ?_;refine mS ?_;refine zaQ (n:=((bb - 160:Nat):Int)) rfl rfl rfl (by omega) (by omega) ?_
  have hGV:=zdg (bb:=bb) (nt:=n2) (live:=l2) (ok:=true) (many:=bb - 160) (i2:=i + 1) (c:=0) (kind:=5) hs HC (by omega) (by unfold i64ok; omega) hl1 (fun v t0 h1 hM hA => by
   cases hM with
   | text tx h => exact ⟨t0,rfl,by omega,hA,by simp,rfl⟩
   | _ => exfalso; omega) hil (fun _ => by omega)
  refine po_g rfl (FnG.lift1 (p:=0) (R:=fun x c' n l => c' = [pS s,pI (left - 1)] /\ n = n2 /\ l = l2 /\ x = strV s (i + 1) 5 (bb - 160) true) (str_g s (left - 1) (i + 1) 5 (bb - 160) true (by omega) (by omega) (by omega) n2 l2) ⟨trivial,trivial,trivial,trivial,trivial⟩ hz rfl) ?_;rintro x _ _ _ ⟨_,rfl,rfl,rfl,rfl,rfl⟩;obtain ⟨cs,next,hx,hc5,_⟩:=id hGV;rw [hx] at hGV ⊢;(iterate 2 refine mS ?_);refine zao (p:=1) (cs:=cs) rfl rfl rfl hc5 rfl rfl ?_;refine mN ?_;exact zaf ⟨.inr rfl,[.ag cs,.d (pI next)],zbg rfl rfl hc5 rfl,za4 hGV⟩
 refine zam rfl rfl (decide_eq_false k) ?_;refine mF ?_;refine mQ ?_;by_cases k:(bb:Int) ≥ 224
 ·refine zai rfl rfl (decide_eq_true k) ?_
  refine mT ?_;refine mQ ?_;refine zaQ (n:=(bb:Int) - 256) rfl rfl rfl rfl (by omega) ?_;refine zac rfl (int_fn ((bb:Int) - 256)) ?_;refine mS ?_;refine zao (p:=1) (cs:=vC (.mk 3 ((bb:Int) - 256) 0 [] [])) rfl rfl rfl rfl rfl rfl ?_;refine mN ?_;refine zaf ⟨.inr rfl,[.ag (vC (.mk 3 ((bb:Int) - 256) 0 [] [])),.d (pI ((i + 1:Nat):Int))],rfl,za4 (zbK HC (zfj _) rfl rfl rfl (by simp [V.nodes,V.nodess]) ⟨by unfold i64ok; omega,by unfold i64ok; omega,by unfold i64ok; omega,by unfold strok; simp,by simp,trivial⟩ (by omega) (by simp only [V.bulk,V.bulks,length_nil]; omega) hl1 lR live0 fun v t0 h1 hM hA => ?_)⟩
  cases hM <;> first | (exfalso; omega) | exact ⟨rfl,rfl⟩
 refine zam rfl rfl (decide_eq_false k) ?_;refine mF ?_;refine mQ ?_;by_cases k:(bb:Int) = 192
 ·refine zai rfl rfl (decide_eq_true k) ?_
  refine mT ?_;refine mQ ?_;refine mS ?_;refine zao (p:=1) (cs:=fV 0 0 0 []) rfl rfl rfl rfl rfl rfl ?_;refine mN ?_;refine zaf ⟨.inr rfl,[.ag (fV 0 0 0 []),.d (pI ((i + 1:Nat):Int))],rfl,za4 (zbK HC (fV_er 0 0 0 []) rfl rfl rfl (by simp [V.nodes,V.nodess]) ⟨by unfold i64ok; omega,by unfold i64ok; omega,by unfold i64ok; omega,by unfold strok; simp,by simp,trivial⟩ (by omega) (by simp only [V.bulk,V.bulks,length_nil]; omega) hl1 lR live0 fun v t0 h1 hM hA => ?_)⟩
  cases hM <;> first | (exfalso; omega) | exact ⟨rfl,rfl⟩
 refine zam rfl rfl (decide_eq_false k) ?_;refine mF ?_;refine mQ ?_;by_cases k4:(bb:Int) = 194
 ·refine zai rfl rfl (decide_eq_true k4) ?_
  refine mS ?_;refine mZ ?_;refine mT ?_;refine mQ ?_;refine zaQ (n:=1) rfl rfl rfl (by omega) (by omega) ?_;refine mS ?_;refine mS ?_;refine zao (p:=1) (cs:=fV 1 0 0 []) rfl rfl rfl rfl rfl rfl ?_;refine mN ?_;refine zaf ⟨.inr rfl,[.ag (fV 1 0 0 []),.d (pI ((i + 1:Nat):Int))],rfl,za4 (zbK HC (fV_er 1 0 0 []) rfl rfl rfl (by simp [V.nodes,V.nodess]) ⟨by unfold i64ok; omega,by unfold i64ok; omega,by unfold i64ok; omega,by unfold strok; simp,by simp,trivial⟩ (by omega) (by simp only [V.bulk,V.bulks,length_nil]; omega) hl1 lR live0 fun v t0 h1 hM hA => ?_)⟩
  cases hM <;> first | (exfalso; omega) | exact ⟨rfl,rfl⟩
 refine zam rfl rfl (decide_eq_false k4) ?_;(iterate 2 refine mS ?_);by_cases k5:(bb:Int) = 195
 ·refine zai rfl rfl (decide_eq_true k5) ?_
  refine mT ?_;refine mQ ?_;refine zaQ (n:=2) rfl rfl rfl (by omega) (by omega) ?_;refine mS ?_;refine mS ?_;refine zao (p:=1) (cs:=fV 2 0 0 []) rfl rfl rfl rfl rfl rfl ?_;refine mN ?_;refine zaf ⟨.inr rfl,[.ag (fV 2 0 0 []),.d (pI ((i + 1:Nat):Int))],rfl,za4 (zbK HC (fV_er 2 0 0 []) rfl rfl rfl (by simp [V.nodes,V.nodess]) ⟨by unfold i64ok; omega,by unfold i64ok; omega,by unfold i64ok; omega,by unfold strok; simp,by simp,trivial⟩ (by omega) (by simp only [V.bulk,V.bulks,length_nil]; omega) hl1 lR live0 fun v t0 h1 hM hA => ?_)⟩
  cases hM <;> first | (exfalso; omega) | exact ⟨rfl,rfl⟩
 refine zam rfl rfl (decide_eq_false k5) ?_;refine mF ?_;refine zbN (fun st => has st.tm [(0,.ref 0 0),(1,.d (pI ((i + 1:Nat):Int))),(2,.d (pI d)),(6,.ref 1 0),(8,.d (pI bb))] /\ st.bx = [[pS s,pI (left - 1)],fV 0 0 0 []] /\ st.nt = n2 /\ st.live = l2) ⟨⟨rfl,rfl,rfl,rfl,rfl,trivial⟩,rfl,rfl,rfl⟩ (fun tm bx n2' l2' hh => ?_);obtain ⟨ht,hbx,hn,hlv⟩:=hh;obtain ⟨tm2,rfl⟩:=zae ht;simp only at hbx hn hlv; subst hbx; subst hn; subst hlv
 clear ht;refine mQ ?_;refine zac rfl (zdr bb 204 211) ?_;by_cases k6:(204:Int) <= bb /\ (bb:Int) <= 211
 ·rw [decide_eq_true k6]
  refine mT ?_;refine mO ?_;(iterate 3 refine mS ?_);have hGV:=gotV_wide (nt:=n2') (live:=l2') HC (by omega) hl1 hil;refine po_g rfl (FnG.lift1 (p:=0) (R:=fun x c' n l => c' = [pS s,pI (left - 1)] /\ n = n2' + 1 /\ l = n2' :: l2' /\ x = wideV s (i + 1) bb) (wide_g s (left - 1) (i + 1) bb hbt (by omega) (by omega) n2' l2') ⟨trivial,trivial,trivial⟩ hz rfl) ?_;rintro x _ _ _ ⟨_,rfl,rfl,rfl,rfl,rfl⟩;obtain ⟨cs,next,hx,hc5,_⟩:=id hGV;rw [hx] at hGV ⊢;(iterate 2 refine mS ?_);refine zao (p:=1) (cs:=cs) rfl rfl rfl hc5 rfl rfl ?_;refine mN ?_;exact zaf ⟨.inr rfl,[.ag cs,.d (pI next)],zbg rfl rfl hc5 rfl,za4 hGV⟩
 rw [decide_eq_false k6];refine mF ?_;refine mQ ?_;by_cases k7:(bb:Int) = 199
 ·refine zai rfl rfl (decide_eq_true k7) ?_
  refine mT ?_;refine mO ?_;(iterate 3 refine mS ?_)
  obtain rfl:bb = 199:=by omega
  refine po_g rfl (FnG.lift1 (p:=0) (ext_g hs (by omega) hK (i + 1) (left - 1) n2' l2' (by omega) (by omega) (by omega) hnt) ⟨trivial,trivial,trivial⟩ hz rfl) ?_;rintro x _ n3 l3 ⟨c',rfl,left2,rfl,hGX⟩;have hGV:=gotV_ext HC hGX;obtain ⟨cs,next,rfl,hc5,_⟩:=hGX;(iterate 2 refine mS ?_);refine zao (p:=1) (cs:=cs) rfl rfl rfl hc5 rfl rfl ?_;refine mN ?_;exact zaf ⟨.inr rfl,[.ag cs,.d (pI next)],zbg rfl rfl hc5 rfl,za4 hGV⟩
 refine zam rfl rfl (decide_eq_false k7) ?_;refine mK ?_;refine mO ?_;(iterate 5 refine mS ?_);refine zac (args:=[.d (pS s),.d (pI ((i + 1:Nat):Int)),.d (pI ((1:Nat):Int))]) rfl (hgw (i + 1) 1 (by decide) (by omega)) ?_;refine mN ?_;refine mO ?_;(iterate 5 refine mS ?_);refine zac (args:=[.d (pS s),.d (pI ((i + 1:Nat):Int)),.d (pI ((2:Nat):Int))]) rfl (hgw (i + 1) 2 (by decide) (by omega)) ?_;refine mN ?_
 obtain ⟨m1,hm1,hm1b⟩:∃ m1:Nat,gwz s (i + 1) 1 = m1 /\ m1 < 256:=by
  have:=zbw s (i + 1) 1 (by decide)
  unfold gwz;split
  ·exact ⟨(gwN s (i + 1) 1).toNat,by omega,by omega⟩
  ·exact ⟨0,rfl,by omega⟩
 obtain ⟨m2,hm2,hm2b⟩:∃ m2:Nat,gwz s (i + 1) 2 = m2 /\ m2 < 65536:=by
  have:=zbw s (i + 1) 2 (by decide)
  unfold gwz;split
  ·exact ⟨(gwN s (i + 1) 2).toNat,by omega,by omega⟩
  ·exact ⟨0,rfl,by omega⟩
 rw [hm1,hm2]
 have one:∀ {l t0:L8},l.length < 256 -> t0 = be 1 l.length ++ l -> At s (i + 1) t0 -> l.length = m1 /\ At s (i + 1 + 1) l /\ t0.length = 1 + l.length /\ decide (i + 1 + 1 <= s.length) = true:=by
  rintro l t0 hl rfl hA;have h1:=hA.app.1;have h2:=hA.app.2;have h3:=h1.len (by omega);rw [zab] at h2 h3;have h4:=h1.gw_id (by omega) (by omega);rw [zdI h3,h4] at hm1;exact ⟨by omega,h2,by rw [length_append,zab],decide_eq_true h3⟩
 have two:∀ {n:Nat} {l t0:L8},n < 65536 -> t0 = be 2 n ++ l -> At s (i + 1) t0 -> n = m2 /\ At s (i + 1 + 2) l /\ t0.length = 2 + l.length /\ decide (i + 1 + 2 <= s.length) = true:=by
  rintro n l t0 hl rfl hA;have h1:=hA.app.1;have h2:=hA.app.2;have h3:=h1.len (by omega);rw [zab] at h2 h3;have h4:=h1.gw_id (by omega) (by omega);rw [zdI h3,h4] at hm2;exact ⟨by omega,h2,by rw [length_append,zab],decide_eq_true h3⟩
 refine zbN (fun st => has st.tm [(0,.ref 0 0),(1,.d (pI ((i + 1:Nat):Int))),(2,.d (pI d)),(6,.ref 1 0),(8,.d (pI bb)),(9,.d (pI m1)),(10,.d (pB (decide (i + 1 + 1 <= s.length)))),(11,.d (pI m2)),(12,.d (pB (decide (i + 1 + 2 <= s.length))))] /\ st.bx = [[pS s,pI (left - 1)],fV 0 0 0 []] /\ st.nt = n2' /\ st.live = l2') ⟨⟨rfl,rfl,rfl,rfl,rfl,rfl,rfl,rfl,rfl,trivial⟩,rfl,rfl,rfl⟩ (fun tm bx n2 l2 hh => ?_);obtain ⟨ht,hbx,hn,hlv⟩:=hh;obtain ⟨tm3,rfl⟩:=zae ht;simp only at hbx hn hlv; subst hbx; subst hn; subst hlv
 clear ht;have live0:∀ t ∈ l2,2 <= t -> t < n2 -> t ∈ l2:=fun t ht _ _ => ht
 generalize hk1:decide (i + 1 + 1 <= s.length) = ok1 at one;generalize hk2:decide (i + 1 + 2 <= s.length) = ok2 at two;have of1:ok1 = true -> i + 1 + 1 <= s.length:=fun h => of_decide_eq_true (hk1.trans h)
 have of2:ok2 = true -> i + 1 + 2 <= s.length:=fun h => of_decide_eq_true (hk2.trans h)
 refine mM ?_;refine mN ?_;refine zag (zah (zad ?_));by_cases q217:(bb:Int) = 217
 ·refine zai rfl rfl (decide_eq_true q217) ?_
  refine mT ?_;refine mQ ?_;refine mS ?_;refine zaq (n:=((i + 1 + 1:Nat):Int)) rfl rfl rfl (by omega) (by omega) ?_;refine mS ?_;refine mS ?_
  have hGV:=zdg (bb:=bb) (nt:=n2) (live:=l2) (ok:=ok1) (many:=m1) (i2:=i + 1 + 1) (c:=1) (kind:=5) hs HC (by omega) (by unfold i64ok; omega) hl1 (fun v t0 h1 hM hA => by
   cases hM with
   | text1 tx h =>
    obtain ⟨e1,e2,e3,e4⟩:=one (l:=tx) h.2 rfl hA
    exact ⟨tx,rfl,e1,e2,e3,e4⟩
   | _ => exfalso; omega) hil (of1)
  refine po_g rfl (FnG.lift1 (p:=0) (R:=fun x c' n l => c' = [pS s,pI (left - 1)] /\ n = n2 /\ l = l2 /\ x = strV s (i + 1 + 1) 5 (m1) ok1) (str_g s (left - 1) (i + 1 + 1) 5 (m1) ok1 (by omega) (by omega) (by omega) n2 l2) ⟨trivial,trivial,trivial,trivial,trivial⟩ hz rfl) ?_;rintro x _ _ _ ⟨_,rfl,rfl,rfl,rfl,rfl⟩;obtain ⟨cs,next,hx,hc5,_⟩:=id hGV;rw [hx] at hGV ⊢;(iterate 2 refine mS ?_);refine zao (p:=1) (cs:=cs) rfl rfl rfl hc5 rfl rfl ?_;refine mN ?_;exact zaf ⟨.inr rfl,[.ag cs,.d (pI next)],zbg rfl rfl hc5 rfl,za4 hGV⟩
 refine zam rfl rfl (decide_eq_false q217) ?_;refine mF ?_;refine mO ?_;by_cases q218:(bb:Int) = 218
 ·refine zai rfl rfl (decide_eq_true q218) ?_
  refine mT ?_;refine mQ ?_;refine mS ?_;refine zaq (n:=((i + 1 + 2:Nat):Int)) rfl rfl rfl (by omega) (by omega) ?_;refine mS ?_;refine mS ?_
  have hGV:=zdg (bb:=bb) (nt:=n2) (live:=l2) (ok:=ok2) (many:=m2) (i2:=i + 1 + 2) (c:=2) (kind:=5) hs HC (by omega) (by unfold i64ok; omega) hl1 (fun v t0 h1 hM hA => by
   cases hM with
   | text2 tx h =>
    obtain ⟨e1,e2,e3,e4⟩:=two (l:=tx) (by omega) rfl hA
    exact ⟨tx,rfl,e1,e2,e3,e4⟩
   | _ => exfalso; omega) hil (of2)
  refine po_g rfl (FnG.lift1 (p:=0) (R:=fun x c' n l => c' = [pS s,pI (left - 1)] /\ n = n2 /\ l = l2 /\ x = strV s (i + 1 + 2) 5 (m2) ok2) (str_g s (left - 1) (i + 1 + 2) 5 (m2) ok2 (by omega) (by omega) (by omega) n2 l2) ⟨trivial,trivial,trivial,trivial,trivial⟩ hz rfl) ?_;rintro x _ _ _ ⟨_,rfl,rfl,rfl,rfl,rfl⟩;obtain ⟨cs,next,hx,hc5,_⟩:=id hGV;rw [hx] at hGV ⊢;(iterate 2 refine mS ?_);refine zao (p:=1) (cs:=cs) rfl rfl rfl hc5 rfl rfl ?_;refine mN ?_;exact zaf ⟨.inr rfl,[.ag cs,.d (pI next)],zbg rfl rfl hc5 rfl,za4 hGV⟩
 refine zam rfl rfl (decide_eq_false q218) ?_;refine mF ?_;refine mO ?_;by_cases q196:(bb:Int) = 196
 ·refine zai rfl rfl (decide_eq_true q196) ?_
  refine mT ?_;refine mQ ?_;refine mS ?_;refine zaq (n:=((i + 1 + 1:Nat):Int)) rfl rfl rfl (by omega) (by omega) ?_;refine mS ?_;refine mS ?_
  have hGV:=zdg (bb:=bb) (nt:=n2) (live:=l2) (ok:=ok1) (many:=m1) (i2:=i + 1 + 1) (c:=1) (kind:=6) hs HC (by omega) (by unfold i64ok; omega) hl1 (fun v t0 h1 hM hA => by
   cases hM with
   | bytes1 tx h =>
    obtain ⟨e1,e2,e3,e4⟩:=one (l:=tx) h rfl hA
    exact ⟨tx,rfl,e1,e2,e3,e4⟩
   | _ => exfalso; omega) hil (of1)
  refine po_g rfl (FnG.lift1 (p:=0) (R:=fun x c' n l => c' = [pS s,pI (left - 1)] /\ n = n2 /\ l = l2 /\ x = strV s (i + 1 + 1) 6 (m1) ok1) (str_g s (left - 1) (i + 1 + 1) 6 (m1) ok1 (by omega) (by omega) (by omega) n2 l2) ⟨trivial,trivial,trivial,trivial,trivial⟩ hz rfl) ?_;rintro x _ _ _ ⟨_,rfl,rfl,rfl,rfl,rfl⟩;obtain ⟨cs,next,hx,hc5,_⟩:=id hGV;rw [hx] at hGV ⊢;(iterate 2 refine mS ?_);refine zao (p:=1) (cs:=cs) rfl rfl rfl hc5 rfl rfl ?_;refine mN ?_;exact zaf ⟨.inr rfl,[.ag cs,.d (pI next)],zbg rfl rfl hc5 rfl,za4 hGV⟩
 refine zam rfl rfl (decide_eq_false q196) ?_;refine mF ?_;refine mO ?_;by_cases q197:(bb:Int) = 197
 ·refine zai rfl rfl (decide_eq_true q197) ?_
  refine mT ?_;refine mQ ?_;refine mS ?_;refine zaq (n:=((i + 1 + 2:Nat):Int)) rfl rfl rfl (by omega) (by omega) ?_;refine mS ?_;refine mS ?_
  have hGV:=zdg (bb:=bb) (nt:=n2) (live:=l2) (ok:=ok2) (many:=m2) (i2:=i + 1 + 2) (c:=2) (kind:=6) hs HC (by omega) (by unfold i64ok; omega) hl1 (fun v t0 h1 hM hA => by
   cases hM with
   | bytes2 tx h =>
    obtain ⟨e1,e2,e3,e4⟩:=two (l:=tx) (by omega) rfl hA
    exact ⟨tx,rfl,e1,e2,e3,e4⟩
   | _ => exfalso; omega) hil (of2)
  refine po_g rfl (FnG.lift1 (p:=0) (R:=fun x c' n l => c' = [pS s,pI (left - 1)] /\ n = n2 /\ l = l2 /\ x = strV s (i + 1 + 2) 6 (m2) ok2) (str_g s (left - 1) (i + 1 + 2) 6 (m2) ok2 (by omega) (by omega) (by omega) n2 l2) ⟨trivial,trivial,trivial,trivial,trivial⟩ hz rfl) ?_;rintro x _ _ _ ⟨_,rfl,rfl,rfl,rfl,rfl⟩;obtain ⟨cs,next,hx,hc5,_⟩:=id hGV;rw [hx] at hGV ⊢;(iterate 2 refine mS ?_);refine zao (p:=1) (cs:=cs) rfl rfl rfl hc5 rfl rfl ?_;refine mN ?_;exact zaf ⟨.inr rfl,[.ag cs,.d (pI next)],zbg rfl rfl hc5 rfl,za4 hGV⟩
 refine zam rfl rfl (decide_eq_false q197) ?_;refine mF ?_;refine mO ?_;by_cases q220:(bb:Int) = 220
 ·refine zai rfl rfl (decide_eq_true q220) ?_
  refine mT ?_;refine mQ ?_;refine mS ?_;refine zaq (n:=((i + 1 + 2:Nat):Int)) rfl rfl rfl (by omega) (by omega) ?_;refine mS ?_;refine mS ?_;refine mS ?_;refine po_g rfl (FnG.lift1 (p:=0) (hK (i + 1 + 2) (left - 1) 7 ((m2:Int)) ok2 n2 l2 (of2) (by omega) (by omega) (by omega) hnt (by omega) (by unfold i64ok; omega)) ⟨trivial,trivial,trivial,trivial,trivial,trivial⟩ hz rfl) ?_;rintro x _ n3 l3 ⟨c',rfl,left2,rfl,hGK⟩
  have hGV:=zdf (bb:=bb) (c:=2) hs HC (by omega) (by unfold i64ok; omega) hGK (fun v t0 h1 hM hA => by
   cases hM with
   | list2 ks h =>
    obtain ⟨e1,e2,e3,e4⟩:=two (l:=msgs ks) (by omega) rfl hA
    exact ⟨ks,rfl,by omega,e2,e3,e4⟩
   | _ => exfalso; omega)
  obtain ⟨cs,next,rfl,hc5,_⟩:=hGK;(iterate 2 refine mS ?_);refine zao (p:=1) (cs:=cs) rfl rfl rfl hc5 rfl rfl ?_;refine mN ?_;exact zaf ⟨.inr rfl,[.ag cs,.d (pI next)],zbg rfl rfl hc5 rfl,za4 hGV⟩
 refine zam rfl rfl (decide_eq_false q220) ?_;refine mF ?_;refine mO ?_;by_cases q222:(bb:Int) = 222
 ·refine zai rfl rfl (decide_eq_true q222) ?_
  refine mT ?_;refine mQ ?_;refine mS ?_;refine zaq (n:=((i + 1 + 2:Nat):Int)) rfl rfl rfl (by omega) (by omega) ?_;refine mS ?_;refine zc7 (n:=2 * (m2:Int)) rfl rfl rfl rfl (by omega) ?_;refine mS ?_;refine mS ?_;refine po_g rfl (FnG.lift1 (p:=0) (hK (i + 1 + 2) (left - 1) 8 (2 * (m2:Int)) ok2 n2 l2 (of2) (by omega) (by omega) (by omega) hnt (by omega) (by unfold i64ok; omega)) ⟨trivial,trivial,trivial,trivial,trivial,trivial⟩ hz rfl) ?_;rintro x _ n3 l3 ⟨c',rfl,left2,rfl,hGK⟩
  have hGV:=zdf (bb:=bb) (c:=2) hs HC (by omega) (by unfold i64ok; omega) hGK (fun v t0 h1 hM hA => by
   cases hM with
   | map2 n h ks hl =>
    obtain ⟨e1,e2,e3,e4⟩:=two (l:=msgs ks) (by omega) rfl hA
    exact ⟨ks,rfl,by omega,e2,e3,e4⟩
   | _ => exfalso; omega)
  obtain ⟨cs,next,rfl,hc5,_⟩:=hGK;(iterate 2 refine mS ?_);refine zao (p:=1) (cs:=cs) rfl rfl rfl hc5 rfl rfl ?_;refine mN ?_;exact zaf ⟨.inr rfl,[.ag cs,.d (pI next)],zbg rfl rfl hc5 rfl,za4 hGV⟩
 refine zam rfl rfl (decide_eq_false q222) ?_;refine mK ?_;refine mQ ?_;refine zao (p:=1) (cs:=fV 0 0 0 []) rfl rfl rfl rfl rfl rfl ?_;refine mN ?_;refine zaf ⟨.inr rfl,[.ag (fV 0 0 0 []),.d (pI (-1))],rfl,za4 (zen HC lR live0 (by omega) (fun v t0 h1 hM hA => ?_) _ _ _ _)⟩
 cases hM <;> (exfalso; omega)
end
section
variable {T:World -> Prop} {hT:Low ngl T}
attribute [local irreducible] po mw pt
theorem getG_all {s:L8} (hs:s.length <= 2147483647):∀ n:Nat,n <= 13 -> GetG T hT s ((13 - n:Nat):Int)
 | 0,_ => get_g hs (by omega) fun h => by omega
 | n + 1,h => by
  refine get_g hs (by omega) fun _ => kids_g hs (by omega) ?_
  rw [show ((13 - (n + 1):Nat):Int) + 1 = ((13 - n:Nat):Int) by omega];exact getG_all hs n (by omega)
def GmR (s:L8) (i:Int) (nt:Nat) (live:List Nat) (x:PV) (nt':Nat) (live':List Nat):Prop :=
 ∃ (cs:List PC) (next:Int),x = .tup [.ag cs,.d (pI next)] /\ cs.length = 5 /\ NewL nt nt' cs /\ (∀ t ∈ toksL cs,t ∈ live') /\ (∀ t ∈ live,2 <= t -> t < nt -> t ∈ live') /\ nt <= nt' /\
 ((next = -1 /\ erL cs = vC (.mk 0 0 0 [] []) /\ ∀ v:V,v.wf -> v.ok = true -> 0 <= i -> ¬ At s i.toNat (msg v)) \/
  ∃ (k:Nat) (v:V),i = k /\ v.wf /\ v.ok = true /\ At s k (msg v) /\ next = ((k + (msg v).length:Nat):Int) /\ k + (msg v).length <= s.length /\ erL cs = vC v /\ ∀ v':V,v'.wf -> v'.ok = true -> At s k (msg v') -> v' = v)
theorem zeV {s:L8} {i j:Nat} {l:L8} (h:l = (s.drop i).take (j - i)):At s i l:=⟨(s.drop i).drop (j - i),by rw [h,take_append_drop]⟩
theorem ok_nodes {v:V} (h:v.ok = true):(v.nodes:Int) <= 300:=by
 unfold V.ok at h; simp only [Bool.and_eq_true,decide_eq_true_eq] at h; omega
theorem zeo {v:V} (h:v.ok = true):v.rightBy pairsOk (12 - 0) = true:=by
 unfold V.ok at h; simp only [Bool.and_eq_true] at h; exact h.1
theorem zht {v:V} (hw:v.wf) (h:v.ok = true):0 < (msg v).length:=by
 obtain ⟨b,t,_,_,e⟩:=zel (zeo h) (V.ok_len h) (by obtain ⟨k,n,e,s,kids⟩:=v; exact hw.2.1);rw [e]; simp
theorem strEq (a b:L8):((ByteArray.mk a.toArray).toList == (ByteArray.mk b.toArray).toList) = decide (a = b):=by
 rw [ByteArray.toList_eq,ByteArray.toList_eq];show (a == b) = decide (a = b);by_cases h:a = b
 ·subst h; simp
 ·simp [h]
theorem po_ne {E:Env} {K:St -> Prop} {tm:Nat -> PV} {bx:LP PC} {nt d:Nat} {live:List Nat} {r:List MOpr} {g:Option (Nat × Bool)} {c:List X} {x y:X} {la lb:L8} {f:Bool} (hg:gd g tm = some true) (hx:ev tm x = .d (pS la)) (hy:ev tm y = .d (pS lb)) (h:po E r K ⟨up d (.d (pB (decide (la ≠ lb)))) tm,bx,nt,live⟩):po E (⟨some d,.bin .neq f x y,g,c⟩ :: r) K ⟨tm,bx,nt,live⟩:=by
 refine po_q hg ?_ h;simp only [qf,hx,hy,pS];show some (PV.d (.v (.bool (!((ByteArray.mk la.toArray).toList == (ByteArray.mk lb.toArray).toList))))) = _;rw [strEq];by_cases h:la = lb
 ·rw [decide_eq_true h,decide_eq_false (fun hn => hn h)]; rfl
 ·rw [decide_eq_false h,decide_eq_true h]; rfl
theorem getMsg_g {s:L8} (hs:s.length <= 2147483647) (i:Int) (nt:Nat) (live:List Nat) (hnt:2 <= nt) :
  FnG (env T hT) 119 [.d (pS s),.d (pI i)] [] nt live (fun x _ n l => x.lw 0 /\ GmR s i nt live x n l):=by
 have hput:=fun v hw hb => zgf (T:=T) (hT:=hT) v hw hb
 refine zaU (zak zhl) (by show 2 <= 41; decide) fun B hB => ?_
 unfold m_s_GetMsg;refine mP ?_;refine zah ?_;refine zau (fun st => has st.tm [(0,.d (pS s)),(1,.d (pI i)),(4,.ref 0 0),(16,.d (pB (decide (i < 0 \/ i ≥ s.length))))] /\ st.bx = [fV 0 0 0 []] /\ st.nt = nt /\ st.live = live) ?_ ?_
 ·refine zad ?_
  refine mS ?_;by_cases c1:i < 0
  ·refine zai rfl rfl (decide_eq_true c1) ?_
   refine mS ?_;refine mZ ?_;refine mN ?_;exact ⟨⟨rfl,rfl,rfl,by rw [decide_eq_true (.inl c1)]; rfl,trivial⟩,rfl,rfl,rfl⟩
  ·refine zam rfl rfl (decide_eq_false c1) ?_
   (iterate 3 refine mS ?_);refine po_q (v:=.d (pI s.length)) rfl rfl ?_;refine po_b rfl rfl (fun b hb => ?_);refine mN ?_
   have:decide (i < 0 \/ i ≥ s.length) = b:=by rw [hb]; exact decide_eq_decide.2 ⟨fun h => h.resolve_left c1,.inr⟩
   exact ⟨⟨rfl,rfl,rfl,by rw [this]; rfl,trivial⟩,rfl,rfl,rfl⟩
 rintro tm bx n1 l1 ⟨ht,rfl,rfl,rfl⟩;obtain ⟨tm0,rfl⟩:=zae ht;clear ht
 have hfl:∀ (n2:Nat) (l2:List Nat),n1 <= n2 -> (∀ t ∈ l1,2 <= t -> t < n1 -> t ∈ l2) -> (∀ v:V,v.wf -> v.ok = true -> 0 <= i -> ¬ At s i.toNat (msg v)) -> GmR s i n1 l1 (.tup [.ag (fV 0 0 0 []),.d (pI (-1))]) n2 l2:=fun n2 l2 h1 h2 h3 =>
  ⟨_,_,rfl,rfl,za7 _ _ _ _ _ _,(fun t ht => by rw [zbB] at ht; cases ht),h2,h1,.inl ⟨rfl,rfl,h3⟩⟩
 refine zca (p:=i < 0 \/ i ≥ s.length) rfl (fun hc => ?_) (fun hc => ?_)
 ·refine mQ ?_
  refine zao (p:=0) (cs:=fV 0 0 0 []) rfl rfl rfl rfl rfl rfl ?_;refine mN ?_;refine zaf ⟨.inr rfl,[.ag (fV 0 0 0 []),.d (pI (-1))],rfl,zbx (za7 _ _ _ _ 0 0) _,hfl _ _ lR (fun t ht _ _ => ht) fun v h1 h2 h3 h4 => ?_⟩
  have:=zht h1 h2
  obtain ⟨r,hr⟩:=h4;rw [drop_of_length_le (by omega)] at hr
  have:=congrArg length hr
  simp only [length_nil,length_append] at this; omega
 obtain ⟨k,rfl⟩:=Int.eq_ofNat_of_zero_le (show 0 <= i by omega);have hk:k < s.length:=by omega
 refine zaj ?_;refine mO ?_;(iterate 2 refine mS ?_);refine mN ?_;refine mO ?_;(iterate 2 refine mS ?_);refine po_g rfl (FnG.lift1 (p:=1) (by have:=getG_all (T:=T) (hT:=hT) hs 13 (by omega) k 300 n1 l1 (by omega) (by omega) (by omega) hnt; exact this) (args:=[.d (pI k),.d (pI 0)]) ⟨trivial,trivial,trivial⟩ (zbJ s 300) rfl) ?_;rintro x _ n2 l2 ⟨c',rfl,left2,rfl,cs,next,rfl,hc5,hnew,hctk,hlv,hn2,_,hres,hcomp⟩
 have hcomp:∀ v:V,v.wf -> v.ok = true -> At s k (msg v) -> next = ((k + (msg v).length:Nat):Int) /\ erL cs = vC v:=fun v h1 h2 h3 => by
  obtain ⟨q1,q2,_⟩:=hcomp v h1 (zeo h2) (ok_nodes h2) h3;exact ⟨q1,q2⟩
 (iterate 3 refine mS ?_);refine zb5 (cs:=cs) rfl hc5 rfl rfl ?_;refine mL ?_;refine zah ?_
 obtain ⟨f,hf⟩:∃ f:Bool,f = true ↔ ¬ ∃ v:V,v.wf /\ v.ok = true /\ At s k (msg v):=by
  by_cases h:∃ v:V,v.wf /\ v.ok = true /\ At s k (msg v)
  ·exact ⟨false,by simp only [h,not_true]; decide⟩
  ·exact ⟨true,by simp only [h,not_false_iff]⟩
 refine zau (fun st => has st.tm [(4,.ref 0 0),(7,.ref 2 0),(8,.d (pI next)),(37,.d (pB f))] /\ (∃ c',st.bx = [fV 0 0 0 [],c',cs]) /\ st.nt = n2 /\ st.live = l2) ?_ ?_
 ·refine zad ?_
  refine mS ?_
  rcases hres with hnx | ⟨j,u,hnx,he,huw,hkj,hjs,hub,_⟩
  ·refine zai rfl rfl (decide_eq_true (show next < 0 by omega)) ?_
   refine mS ?_;refine mZ ?_;refine mN ?_;refine ⟨⟨rfl,rfl,rfl,?_,trivial⟩,⟨_,rfl⟩,rfl,rfl⟩
   have:f = true:=hf.2 (by
    rintro ⟨v,h1,h2,h3⟩
    have:=(hcomp v h1 h2 h3).1
    omega)
   rw [this]; rfl
  ·refine zam rfl rfl (decide_eq_false (show ¬ next < 0 by omega)) ?_
   refine mS ?_;refine za1 (p:=2) (cs:=cs) rfl rfl rfl hc5 ?_;(iterate 3 refine mS ?_);refine zbA (a:=k) (b:=j) (rs:=(s.drop k).take (j - k)) rfl rfl (zaN rfl rfl) (zaN rfl hnx) (by omega) rfl ?_;refine zaI (b:=true) (args:=[.ag (vC u)]) rfl (fun _ => zf3 he) (fun _ => hput u huw (by omega)) ?_;refine po_ne (la:=msgTop u) (lb:=(s.drop k).take (j - k)) rfl rfl rfl ?_;refine mN ?_;refine ⟨⟨rfl,rfl,rfl,?_,trivial⟩,⟨_,rfl⟩,rfl,rfl⟩
   have hiff:(msgTop u ≠ (s.drop k).take (j - k)) ↔ ¬ ∃ v:V,v.wf /\ v.ok = true /\ At s k (msg v):=by
    constructor
    ·rintro hne ⟨v,h1,h2,h3⟩
     obtain ⟨q1,q2⟩:=hcomp v h1 h2 h3;have huv:u = v:=zeU (he.symm.trans q2);subst huv
     apply hne
     unfold msgTop;rw [if_pos h2,show j - k = (msg u).length by omega,h3.take]
    ·intro hno heq
     apply hno
     by_cases hok:u.ok = true
     ·refine ⟨u,huw,hok,?_⟩
      unfold msgTop at heq;rw [if_pos hok] at heq;exact zeV heq
     ·exfalso
      unfold msgTop at heq;rw [if_neg hok] at heq
      have:=congrArg length heq
      rw [length_take,length_drop,length_nil] at this;omega
   have:decide (msgTop u ≠ (s.drop k).take (j - k)) = f:=by rw [Bool.eq_iff_iff,decide_eq_true_iff,hiff,hf]
   rw [<- this]; rfl
 rintro tm bx n3 l3 ⟨ht,⟨c',rfl⟩,rfl,rfl⟩;obtain ⟨tm1,rfl⟩:=zae ht;clear ht;refine zaO (t:=f) rfl (fun hno => ?_) (fun hyes => ?_)
 ·have hno:=hf.1 hno
  refine mQ ?_;refine zao (p:=0) (cs:=fV 0 0 0 []) rfl rfl rfl rfl rfl rfl ?_;refine mN ?_;exact zaf ⟨.inr rfl,[.ag (fV 0 0 0 []),.d (pI (-1))],rfl,zbx (za7 _ _ _ _ 0 0) _,hfl _ _ hn2 hlv fun v h1 h2 h3 h4 => hno ⟨v,h1,h2,h4⟩⟩
 ·obtain ⟨v,h1,h2,h3⟩:∃ v:V,v.wf /\ v.ok = true /\ At s k (msg v):=Classical.byContradiction fun h => by rw [hf.2 h] at hyes; cases hyes
  obtain ⟨q1,q2⟩:=hcomp v h1 h2 h3;refine zaj ?_;refine mO ?_;refine za1 (p:=2) (cs:=cs) rfl rfl rfl hc5 ?_;refine mS ?_;refine zao (p:=0) (cs:=cs) rfl rfl rfl hc5 rfl rfl ?_;refine mN ?_;exact zaf ⟨.inr rfl,[.ag cs,.d (pI next)],zbg rfl rfl hc5 rfl,zbx hnew _,cs,next,rfl,hc5,hnew,hctk,hlv,hn2,.inr ⟨k,v,rfl,h1,h2,h3,q1,h3.len (by omega),q2,fun v' r1 r2 r3 => zeU ((hcomp v' r1 r2 r3).2.symm.trans q2)⟩⟩
end
end Go.Proofs.YtanlnhkagepniaaGreatDoor
