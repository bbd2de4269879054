/- Part 4 of a proof: Text, TextS, ValueOkS, PvVok, RowArg, PvB3, PthP, L8P, RowG2, L8IM, L8I, TurnI, ValueSame, ValueKids, TextI, ValueNode, Region, Box, ValueIs, PvVokI, StpsI, StpG, OwP, L8Q, RemEq, AtI, AtS, TabsLow, TS -/
import Derived.Test.YtaofmfkcfmcmpaaGreatDoorAb3
import Derived.Deep.RegionHeld3
/- Plain facts on UTF-8: a sign by its bytes, a text by its signs. No program in sight. -/
namespace Go.Proofs.YtaofmfkcfmcmpaaGreatDoor
open Go.RowKit Go.Lib
def utf (n:Nat):List UInt8 :=
 if 1114111 < n \/ (55296 <= n /\ n <= 57343) then []
 else if n < 128 then [byteOf n]
 else if n < 2048 then [byteOf (192 + n / 64),byteOf (128 + n % 64)]
 else if n < 65536 then [byteOf (224 + n / 4096),byteOf (128 + n / 64 % 64),byteOf (128 + n % 64)]
 else [byteOf (240 + n / 262144),byteOf (128 + n / 4096 % 64),byteOf (128 + n / 64 % 64),byteOf (128 + n % 64)]
def many (b:Nat):Nat × Nat :=
 if b < 128 then (1,b) else if 192 <= b /\ b <= 223 then (2,b % 32) else if 224 <= b /\ b <= 239 then (3,b % 16) else if 240 <= b /\ b <= 247 then (4,b % 8) else (0,0)
def sgnV (n:Nat) (l:List UInt8):Nat:=l.foldl (fun n b => n * 64 + b.toNat % 64) n
def sgn (l:List UInt8):Option (Nat × Nat) :=
 if l = [] \/ ((decodeL l).1 = 65533 /\ (decodeL l).2 = 1) then none else some (decodeL l)
theorem byteOf_eq {m:Nat} {b:UInt8}:byteOf m = b ↔ m % 256 = b.toNat:=by
 rw [<- UInt8.toNat_inj,zeL]
theorem zcL (b:Nat):(b < 128 /\ many b = (1,b)) \/ (192 <= b /\ b <= 223 /\ many b = (2,b % 32)) \/ (224 <= b /\ b <= 239 /\ many b = (3,b % 16)) \/ (240 <= b /\ b <= 247 /\ many b = (4,b % 8)) \/ ((128 <= b /\ b < 192 \/ 248 <= b) /\ many b = (0,0)):=by
 unfold many;by_cases h1:b < 128
 ·simp [h1]
 by_cases h2:192 <= b /\ b <= 223
 ·simp [h1,h2]
 by_cases h3:224 <= b /\ b <= 239
 ·rw [if_neg h1,if_neg h2,if_pos h3]; simp [h3]
 by_cases h4:240 <= b /\ b <= 247
 ·rw [if_neg h1,if_neg h2,if_neg h3,if_pos h4]; simp [h4]
 ·rw [if_neg h1,if_neg h2,if_neg h3,if_neg h4]; right; right; right; right; exact ⟨by omega,rfl⟩
theorem zdd {n b0 b1 b2 b3 v m:Nat} {u l:List UInt8} {p:Prop} [Decidable p] (hp:¬ p) (c:Prop)
  (hy:c -> decodeN n b0 b1 b2 b3 = (v,m) /\ ¬ (v = 65533 /\ m = 1) /\ u = l) (hn:¬ c -> decodeN n b0 b1 b2 b3 = (65533,1) /\ u ≠ l) :
  (if (decodeN n b0 b1 b2 b3).1 = 65533 /\ (decodeN n b0 b1 b2 b3).2 = 1 then none else some (decodeN n b0 b1 b2 b3)) = if p \/ u ≠ l then none else some (v,m):=by
 by_cases hc:c
 ·obtain ⟨h1,h2,h3⟩:=hy hc
  rw [h1,if_neg h2,if_neg]; intro h; rcases h with h | h
  ·exact hp h
  ·exact h h3
 ·obtain ⟨h1,h3⟩:=hn hc
  rw [h1,if_pos ⟨rfl,rfl⟩,if_pos (.inr h3)]
theorem zbv {n b0 b1 b2 b3:Nat} (hb:128 <= b0) (h:n < 2 \/ (n < 3 /\ 224 <= b0) \/ (n < 4 /\ 240 <= b0)):decodeN n b0 b1 b2 b3 = (65533,1):=by
 unfold decodeN; rw [if_neg (by omega),if_neg (by omega),if_neg (by omega),if_neg (by omega)]
theorem sgn_many (b0:UInt8) (t:List UInt8) :
  sgn (b0 :: t) = if ((many b0.toNat).1 = 0 \/ t.length + 1 < (many b0.toNat).1) \/ utf (sgnV (many b0.toNat).2 (t.take ((many b0.toNat).1 - 1))) ≠ (b0 :: t).take (many b0.toNat).1 then none
   else some (sgnV (many b0.toNat).2 (t.take ((many b0.toNat).1 - 1)),(many b0.toNat).1):=by
 have hb0:=b0.toNat_lt;unfold sgn;rw [decodeL_N];simp only [List.cons_ne_nil,false_or,List.length_cons,List.getD_cons_zero]
 rcases zcL b0.toNat with ⟨h,e⟩ | ⟨h1,h2,e⟩ | ⟨h1,h2,e⟩ | ⟨h1,h2,e⟩ | ⟨h,e⟩
 ·rw [e]
  refine zdd (by simp) True (fun _ => ⟨?_,by simp [sgnV]; omega,?_⟩) (fun h => absurd trivial h)
  ·rw [decodeN_ascii _ _ _ _ _ h]; simp [sgnV]
  ·simp only [sgnV,List.take_zero,Nat.sub_self,List.foldl_nil,List.take_succ_cons]
   unfold utf; rw [if_neg (by omega),if_pos h,List.cons.injEq]; exact ⟨byteOf_eq.2 (by omega),rfl⟩
 ·rw [e]
  match t with
  | [] => rw [zbv (by omega) (by simp; try omega),if_pos ⟨rfl,rfl⟩,if_pos (by simp)]
  | b1 :: t =>
   have hb1:=b1.toNat_lt;simp only [List.getD_cons_succ,List.getD_cons_zero,sgnV,Nat.reduceSub,List.take_succ_cons,List.take_zero,List.foldl_cons,List.foldl_nil,List.length_cons];refine zdd (by omega) (b1.toNat / 64 = 2 /\ 128 <= b0.toNat % 32 * 64 + b1.toNat % 64) (fun hc => ⟨?_,by omega,?_⟩) (fun hc => ⟨?_,?_⟩)
   ·unfold decodeN; rw [if_neg (by omega),if_pos (by omega),if_pos (by omega)]
   ·unfold utf; rw [if_neg (by omega),if_neg (by omega),if_pos (by omega),List.cons.injEq,List.cons.injEq]
    exact ⟨byteOf_eq.2 (by omega),byteOf_eq.2 (by omega),rfl⟩
   ·unfold decodeN; rw [if_neg (by omega)]
    by_cases h:b1.toNat / 64 = 2
    ·rw [if_pos (by omega),if_neg (by omega)]
    ·rw [if_neg (by omega),if_neg (by omega),if_neg (by omega)]
   ·unfold utf; rw [if_neg (by omega)]
    by_cases h:128 <= b0.toNat % 32 * 64 + b1.toNat % 64
    ·rw [if_neg (by omega),if_pos (by omega)]
     intro he; simp only [List.cons.injEq,byteOf_eq,and_true] at he; omega
    ·rw [if_pos (by omega)]; simp
 ·rw [e]
  match t with
  | [] => rw [zbv (by omega) (by simp; try omega),if_pos ⟨rfl,rfl⟩,if_pos (by simp)]
  | [b1] => rw [zbv (by omega) (by simp; try omega),if_pos ⟨rfl,rfl⟩,if_pos (by simp)]
  | b1 :: b2 :: t =>
   have hb1:=b1.toNat_lt;have hb2:=b2.toNat_lt;simp only [List.getD_cons_succ,List.getD_cons_zero,sgnV,Nat.reduceSub,List.take_succ_cons,List.take_zero,List.foldl_cons,List.foldl_nil,List.length_cons];obtain ⟨v,hv⟩:∃ v,(b0.toNat % 16 * 64 + b1.toNat % 64) * 64 + b2.toNat % 64 = v:=⟨_,rfl⟩;refine zdd (by omega) (b1.toNat / 64 = 2 /\ b2.toNat / 64 = 2 /\ 2048 <= v /\ ¬ (55296 <= v /\ v <= 57343)) (fun hc => ⟨?_,by omega,?_⟩) (fun hc => ⟨?_,?_⟩)
   ·rw [hv]; unfold decodeN; rw [if_neg (by omega),if_neg (by omega),if_pos (by omega),if_pos (by omega)]; simp; omega
   ·rw [hv]; unfold utf; rw [if_neg (by omega),if_neg (by omega),if_neg (by omega),if_pos (by omega)]; simp only [List.cons.injEq,and_true]
    exact ⟨byteOf_eq.2 (by omega),byteOf_eq.2 (by omega),byteOf_eq.2 (by omega)⟩
   ·unfold decodeN; rw [if_neg (by omega),if_neg (by omega)]
    by_cases h:b1.toNat / 64 = 2 /\ b2.toNat / 64 = 2
    ·rw [if_pos (by omega),if_neg (by omega)]
    ·rw [if_neg (by omega),if_neg (by omega)]
   ·rw [hv]; unfold utf
    by_cases h:55296 <= v /\ v <= 57343
    ·rw [if_pos (by omega)]; simp
    by_cases h:2048 <= v
    ·rw [if_neg (by omega),if_neg (by omega),if_neg (by omega),if_pos (by omega)]
     intro he; simp only [List.cons.injEq,byteOf_eq,and_true] at he; omega
    ·rw [if_neg (by omega)]; split
     ·simp
     ·rw [if_pos (by omega)]; simp
 ·rw [e]
  match t with
  | [] => rw [zbv (by omega) (by simp; try omega),if_pos ⟨rfl,rfl⟩,if_pos (by simp)]
  | [b1] => rw [zbv (by omega) (by simp; try omega),if_pos ⟨rfl,rfl⟩,if_pos (by simp)]
  | [b1,b2] => rw [zbv (by omega) (by simp; try omega),if_pos ⟨rfl,rfl⟩,if_pos (by simp)]
  | b1 :: b2 :: b3 :: t =>
   have hb1:=b1.toNat_lt;have hb2:=b2.toNat_lt;have hb3:=b3.toNat_lt;simp only [List.getD_cons_succ,List.getD_cons_zero,sgnV,Nat.reduceSub,List.take_succ_cons,List.take_zero,List.foldl_cons,List.foldl_nil,List.length_cons];obtain ⟨v,hv⟩:∃ v,((b0.toNat % 8 * 64 + b1.toNat % 64) * 64 + b2.toNat % 64) * 64 + b3.toNat % 64 = v:=⟨_,rfl⟩;refine zdd (by omega) (b1.toNat / 64 = 2 /\ b2.toNat / 64 = 2 /\ b3.toNat / 64 = 2 /\ 65536 <= v /\ v <= 1114111) (fun hc => ⟨?_,by omega,?_⟩) (fun hc => ⟨?_,?_⟩)
   ·rw [hv]; unfold decodeN; rw [if_neg (by omega),if_neg (by omega),if_neg (by omega),if_pos (by omega),if_pos (by omega)]; simp; omega
   ·rw [hv]; unfold utf; rw [if_neg (by omega),if_neg (by omega),if_neg (by omega),if_neg (by omega)]; simp only [List.cons.injEq,and_true]
    exact ⟨byteOf_eq.2 (by omega),byteOf_eq.2 (by omega),byteOf_eq.2 (by omega),byteOf_eq.2 (by omega)⟩
   ·unfold decodeN; rw [if_neg (by omega),if_neg (by omega),if_neg (by omega)]
    by_cases h:b1.toNat / 64 = 2 /\ b2.toNat / 64 = 2 /\ b3.toNat / 64 = 2
    ·rw [if_pos (by omega),if_neg (by omega)]
    ·rw [if_neg (by omega)]
   ·rw [hv]; unfold utf
    by_cases h:1114111 < v \/ (55296 <= v /\ v <= 57343)
    ·rw [if_pos (by omega)]; simp
    by_cases h:65536 <= v
    ·rw [if_neg (by omega),if_neg (by omega),if_neg (by omega),if_neg (by omega)]
     intro he; simp only [List.cons.injEq,byteOf_eq,and_true] at he; omega
    ·rw [if_neg (by omega)]; split
     ·simp
     split
     ·simp
     ·rw [if_pos (by omega)]; simp
 ·rw [e,if_pos (by rw [decodeN_bad _ _ _ _ _ (by omega)]; simp),if_pos (by simp)]
theorem sgn_bd {l:List UInt8} {n m:Nat} (h:sgn l = some (n,m)):n <= 1114111 /\ 1 <= m /\ m <= l.length:=by
 unfold sgn at h; split at h
 ·cases h
 ·rename_i hc
  simp only [Option.some.injEq] at h;have h1:=decodeL_rune l; have h2:=decodeL_width l; have h3:=decodeL_le l (fun e => hc (.inl e))
  rw [h] at h1 h2 h3; exact ⟨h1,h2,h3⟩
theorem validD_sgn (l:List UInt8) (hne:l ≠ []):validD l = match sgn l with | none => false | some (_,m) => validD (l.drop m):=by
 rw [validD_step l hne]; unfold sgn
 by_cases h:(decodeL l).1 = 65533 /\ (decodeL l).2 = 1
 ·rw [if_pos h,if_pos (.inr h)]
 ·rw [if_neg h,if_neg (by simp [hne,h])]
theorem many_bd (b:Nat) (hb:b < 256):(many b).1 <= 4 /\ (many b).2 < 256:=by
 rcases zcL b with ⟨_,e⟩ | ⟨_,_,e⟩ | ⟨_,_,e⟩ | ⟨_,_,e⟩ | ⟨_,e⟩ <;> rw [e] <;> simp <;> omega
theorem sgnV_snoc (v:Nat) (t:List UInt8) (j:Nat) (h:j < t.length):sgnV v (t.take (j + 1)) = sgnV v (t.take j) * 64 + t[j].toNat % 64:=by
 unfold sgnV; rw [zeN t j h,List.foldl_append]; rfl
theorem sgnV_lt (t:List UInt8):∀ v,sgnV v t < (v + 1) * 64 ^ t.length:=by
 induction t with
 | nil => intro v; simp [sgnV]
 | cons b t ih =>
  intro v;have h1:=ih (v * 64 + b.toNat % 64);have h2:(v * 64 + b.toNat % 64 + 1) <= (v + 1) * 64:=by omega
  have h3:=Nat.mul_le_mul_right (64 ^ t.length) h2;show sgnV (v * 64 + b.toNat % 64) t < _;rw [List.length_cons,Nat.pow_succ,Nat.mul_comm (64 ^ t.length) 64,<- Nat.mul_assoc]; omega
theorem sgnV_bd (v:Nat) (t:List UInt8) (j:Nat) (hv:v < 256) (hj:j <= 3):sgnV v (t.take j) < 67108864:=by
 have h1:=sgnV_lt (t.take j) v;have h2:(t.take j).length <= 3:=by rw [List.length_take]; omega
 have h3:64 ^ (t.take j).length <= 64 ^ 3:=Nat.pow_le_pow_right (by omega) h2;have h4:(v + 1) * 64 ^ (t.take j).length <= 256 * 64 ^ 3:=Nat.mul_le_mul (by omega) h3;omega
def signAt (l:List UInt8) (i:Int):Int × Int :=
 if 0 <= i /\ i < l.length then (match sgn (l.drop i.toNat) with | none => (-1,-1) | some (n,m) => ((n:Int),i + m)) else (-1,-1)
theorem signAt_far {l:List UInt8} {i:Int} (h:¬ (0 <= i /\ i < l.length)):signAt l i = (-1,-1):=by unfold signAt; rw [if_neg h]
theorem zcf {l:List UInt8} {k:Nat} (h:sgn (l.drop k) = none):signAt l k = (-1,-1):=by
 unfold signAt; split
 ·rw [Int.toNat_natCast,h]
 ·rfl
theorem zdH {l:List UInt8} {k n m:Nat} (hk:k < l.length) (h:sgn (l.drop k) = some (n,m)):signAt l k = ((n:Int),(k:Int) + m):=by
 unfold signAt; rw [if_pos (by omega),Int.toNat_natCast,h]
end Go.Proofs.YtaofmfkcfmcmpaaGreatDoor
/- Masks of integers of 64 bits and of bytes, as remainders. No program in sight. -/
namespace Go.Proofs.YtaofmfkcfmcmpaaGreatDoor
open Go.RowKit
theorem zbD (x:Int) (k:Nat) (hk:k <= 62) (m:Int) (hm:m = 2 ^ k - 1):bits .and .i64 x m = x % 2 ^ k:=by
 subst hm;have hp:(2:Nat) ^ k <= 2 ^ 62:=Nat.pow_le_pow_right (by omega) hk;have h0:(1:Nat) <= 2 ^ k:=Nat.one_le_two_pow;have e:((2:Int) ^ k - 1) = ((2 ^ k - 1:Nat):Int):=by rw [Int.natCast_sub h0]; simp
 have hm:(BitVec.ofInt 64 ((2:Int) ^ k - 1)).toNat = 2 ^ k - 1:=by
  rw [e,BitVec.ofInt_natCast,BitVec.toNat_ofNat]; exact Nat.mod_eq_of_lt (by omega)
 show IntKind.i64.wrap ((BitVec.ofInt 64 x &&& BitVec.ofInt 64 ((2:Int) ^ k - 1)).toNat:Int) = _;rw [BitVec.toNat_and,hm,Nat.and_two_pow_sub_one_eq_mod,BitVec.toNat_ofInt]
 have hd:((2 ^ k:Nat):Int) ∣ ((2 ^ 64:Nat):Int):=by
  have:(2:Nat) ^ k ∣ 2 ^ 64:=Nat.pow_dvd_pow 2 (by omega)
  exact Int.natCast_dvd_natCast.2 this
 have h1:(((x % ((2 ^ 64:Nat):Int)).toNat % 2 ^ k:Nat):Int) = x % ((2 ^ k:Nat):Int):=by
  rw [Int.natCast_emod,Int.toNat_of_nonneg (Int.emod_nonneg _ (by decide)),Int.emod_emod_of_dvd _ hd]
 rw [h1];have h2:((2 ^ k:Nat):Int) = (2:Int) ^ k:=by simp
 have h3:(0:Int) < ((2 ^ k:Nat):Int):=by omega
 have h4:=Int.emod_nonneg x (show ((2 ^ k:Nat):Int) ≠ 0 by omega);have h5:=Int.emod_lt_of_pos x h3;rw [<- h2,IntKind.wrap_i64];omega
theorem m1 (x:Int):bits .and .i64 x 1 = x % 2:=zbD x 1 (by decide) 1 (by decide)
theorem m7 (x:Int):bits .and .i64 x 7 = x % 8:=zbD x 3 (by decide) 7 (by decide)
theorem m15 (x:Int):bits .and .i64 x 15 = x % 16:=zbD x 4 (by decide) 15 (by decide)
theorem m31 (x:Int):bits .and .i64 x 31 = x % 32:=zbD x 5 (by decide) 31 (by decide)
theorem m63 (x:Int):bits .and .i64 x 63 = x % 64:=zbD x 6 (by decide) 63 (by decide)
theorem m127 (x:Int):bits .and .i64 x 127 = x % 128:=zbD x 7 (by decide) 127 (by decide)
theorem m255 (x:Int):bits .and .i64 x 255 = x % 256:=zbD x 8 (by decide) 255 (by decide)
attribute [go_sem] m1 m7 m15 m31 m63 m127 m255
end Go.Proofs.YtaofmfkcfmcmpaaGreatDoor
/- Whether a text is right: the contracts of PutSign, GetSign, Signs and TextOk of the reference. -/
namespace Go.Proofs.YtaofmfkcfmcmpaaGreatDoor
open Go.RowKit Go.Lib
set_option maxRecDepth 10000 in
theorem zgc (b:UInt8) (w:World) :
  Calls Tryz.prog 108 #[.int .i64 (b.toNat:Nat)] w fun e w' => e = .returned (.tuple #[.int .i64 ((many b.toNat).1:Nat),.int .i64 ((many b.toNat).2:Nat)]) /\ w = w':=by
 have hb:=b.toNat_lt;generalize b.toNat = n at *;have h0:(0:Int) <= n:=by omega
 rcases zcL n with ⟨h,e⟩ | ⟨h1,h2,e⟩ | ⟨h1,h2,e⟩ | ⟨h1,h2,e⟩ | ⟨h,e⟩
 ·have H:=Lib.hid e; clear e
  have n1:((n:Int) < 128):=by omega
  go_enter Tryz.func108,Tryz.ntmps108
  go_wp2
  go_ret2
  rw [H.out]; exact ⟨rfl,rfl⟩
 ·have H:=Lib.hid e; clear e
  have r1:inR n 192 223 = true:=zaF (by omega);have n1:¬ ((n:Int) < 128):=by omega
  clear h1 h2
  go_enter Tryz.func108,Tryz.ntmps108
  go_wp2_with (go_at_call 83; refine (zaG _ _ _ _).mono ?_; rintro e w' ⟨rfl,rfl⟩)
  go_ret2
  rw [H.out]; exact ⟨rfl,rfl⟩
 ·have H:=Lib.hid e; clear e
  have r1:inR n 192 223 = false:=za2 (by omega);have r2:inR n 224 239 = true:=zaF (by omega);have n1:¬ ((n:Int) < 128):=by omega
  clear h1 h2
  go_enter Tryz.func108,Tryz.ntmps108
  go_wp2_with (go_at_call 83; refine (zaG _ _ _ _).mono ?_; rintro e w' ⟨rfl,rfl⟩)
  go_ret2
  rw [H.out]; exact ⟨rfl,rfl⟩
 ·have H:=Lib.hid e; clear e
  have r1:inR n 192 223 = false:=za2 (by omega);have r2:inR n 224 239 = false:=za2 (by omega);have r3:inR n 240 247 = true:=zaF (by omega);have n1:¬ ((n:Int) < 128):=by omega
  clear h1 h2
  go_enter Tryz.func108,Tryz.ntmps108
  go_wp2_with (go_at_call 83; refine (zaG _ _ _ _).mono ?_; rintro e w' ⟨rfl,rfl⟩)
  go_ret2
  rw [H.out]; exact ⟨rfl,rfl⟩
 ·have H:=Lib.hid e; clear e
  have r1:inR n 192 223 = false:=za2 (by omega);have r2:inR n 224 239 = false:=za2 (by omega);have r3:inR n 240 247 = false:=za2 (by omega);have n1:¬ ((n:Int) < 128):=by omega
  clear h
  go_enter Tryz.func108,Tryz.ntmps108
  go_wp2_with (go_at_call 83; refine (zaG _ _ _ _).mono ?_; rintro e w' ⟨rfl,rfl⟩)
  go_ret2
  rw [H.out]; exact ⟨rfl,rfl⟩
def putSign (n:Int):List UInt8:=if n < 0 then [] else utf n.toNat
theorem zdI (n:Nat):putSign n = utf n:=by unfold putSign; rw [if_neg (by omega)]; simp
theorem zgd {n:Int} (h:¬ (0 <= n /\ n <= 1114111)):putSign n = []:=by
 unfold putSign; by_cases h0:n < 0
 ·rw [if_pos h0]
 ·rw [if_neg h0]; unfold utf; rw [if_pos (by omega)]
theorem zge {n:Int} (h:55296 <= n /\ n <= 57343):putSign n = []:=by
 unfold putSign; rw [if_neg (by omega)]; unfold utf; rw [if_pos (by omega)]
set_option maxHeartbeats 400000 in
set_option maxRecDepth 10000 in
theorem zfg (n:Int) (w:World) (hn:i64ok n) :
  Calls Tryz.prog 109 #[.int .i64 n] w fun e w' => e = .returned (.string ⟨(putSign n).toArray⟩) /\ Below w.heap.size w w':=by
 obtain ⟨hn1,hn2⟩:=hn;by_cases hr:0 <= n /\ n <= 1114111
 ·have r1:inR n 0 1114111 = true:=zaF hr
  by_cases hs:55296 <= n /\ n <= 57343
  ·have r2:inR n 55296 57343 = true:=zaF hs
   have H:=Lib.hid (zge hs);clear hr hs
   go_enter Tryz.func109,Tryz.ntmps109
   go_wp2_with (go_at_call 83; refine (zaG _ _ _ _).mono ?_; rintro e w' ⟨rfl,rfl⟩)
   go_ret;exact ⟨zb7 H.out.symm,Below.refl _ _⟩
  ·have r2:inR n 55296 57343 = false:=za2 hs
   obtain ⟨hr1,hr2⟩:=hr;have hcv1:=fun b c w => conv1 (P:=Tryz.prog) Tryz.underlying79 Tryz.underlying5 Tryz.underlying9 b c w
   have hcv2:=fun b c w => conv2 (P:=Tryz.prog) Tryz.underlying79 Tryz.underlying5 Tryz.underlying9 b c w
   have hcv3:=fun b c w => conv3 (P:=Tryz.prog) Tryz.underlying79 Tryz.underlying5 Tryz.underlying9 b c w
   have hcv4:=fun b c w => conv4 (P:=Tryz.prog) Tryz.underlying79 Tryz.underlying5 Tryz.underlying9 b c w
   by_cases c1:n < 128
   ·have H:Hid (putSign n = [byteOf n.toNat]):=by
     show _ = _; unfold putSign; rw [if_neg (by omega)]; unfold utf; rw [if_neg (by omega),if_pos (by omega)]
    clear hs
    go_enter Tryz.func109,Tryz.ntmps109
    go_wp2_with (go_at_call 83; refine (zaG _ _ _ _).mono ?_; rintro e w' ⟨rfl,rfl⟩)
    go_ret;exact ⟨zb7 H.out.symm,(Below.refl _ _).alloc (Nat.le_refl _) _⟩
   ·by_cases c2:n < 2048
    ·have H:Hid (putSign n =  [byteOf (192 + n.toNat / 64),byteOf (128 + n.toNat % 64)]):=by
      show _ = _; unfold putSign; rw [if_neg (by omega)]; unfold utf; rw [if_neg (by omega),if_neg (by omega),if_pos (by omega)]
     clear hs
     go_enter Tryz.func109,Tryz.ntmps109
     go_wp2_with (go_at_call 83; refine (zaG _ _ _ _).mono ?_; rintro e w' ⟨rfl,rfl⟩)
     go_ret;refine ⟨zb7 ?_,(Below.refl _ _).alloc (Nat.le_refl _) _⟩;rw [H.out]; try rfl
     simp only [List.cons.injEq,and_true];exact ⟨congrArg byteOf (by omega),congrArg byteOf (by omega)⟩
    ·by_cases c3:n < 65536
     ·have H:Hid (putSign n = [byteOf (224 + n.toNat / 4096),byteOf (128 + n.toNat / 64 % 64),byteOf (128 + n.toNat % 64)]):=by
       show _ = _; unfold putSign; rw [if_neg (by omega)]; unfold utf; rw [if_neg (by omega),if_neg (by omega),if_neg (by omega),if_pos (by omega)]
      clear hs
      go_enter Tryz.func109,Tryz.ntmps109
      go_wp2_with (go_at_call 83; refine (zaG _ _ _ _).mono ?_; rintro e w' ⟨rfl,rfl⟩)
      go_ret;refine ⟨zb7 ?_,(Below.refl _ _).alloc (Nat.le_refl _) _⟩;rw [H.out]; try rfl
      simp only [List.cons.injEq,and_true];exact ⟨congrArg byteOf (by omega),congrArg byteOf (by omega),congrArg byteOf (by omega)⟩
     ·have H:Hid (putSign n = [byteOf (240 + n.toNat / 262144),byteOf (128 + n.toNat / 4096 % 64),byteOf (128 + n.toNat / 64 % 64),byteOf (128 + n.toNat % 64)]):=by
       show _ = _; unfold putSign; rw [if_neg (by omega)]; unfold utf; rw [if_neg (by omega),if_neg (by omega),if_neg (by omega),if_neg (by omega)]
      clear hs
      go_enter Tryz.func109,Tryz.ntmps109
      go_wp2_with (go_at_call 83; refine (zaG _ _ _ _).mono ?_; rintro e w' ⟨rfl,rfl⟩)
      go_ret;refine ⟨zb7 ?_,(Below.refl _ _).alloc (Nat.le_refl _) _⟩;rw [H.out]; try rfl
      simp only [List.cons.injEq,and_true];exact ⟨congrArg byteOf (by omega),congrArg byteOf (by omega),congrArg byteOf (by omega),congrArg byteOf (by omega)⟩
 ·have r1:inR n 0 1114111 = false:=za2 hr
  have H:=Lib.hid (zgd hr);clear hr
  go_enter Tryz.func109,Tryz.ntmps109
  go_wp2_with (go_at_call 83; refine (zaG _ _ _ _).mono ?_; rintro e w' ⟨rfl,rfl⟩)
  go_ret;exact ⟨zb7 H.out.symm,Below.refl _ _⟩
set_option maxHeartbeats 1000000 in
set_option maxRecDepth 10000 in
theorem zfh (l:List UInt8) (i:Int) (w:World) (hi:i64ok i) (hl:l.length <= 4611686018427387904) :
  Calls Tryz.prog 104 #[.string ⟨l.toArray⟩,.int .i64 i] w fun e w' => e = .returned (.tuple #[.int .i64 (signAt l i).1,.int .i64 (signAt l i).2]) /\ Below w.heap.size w w':=by
 obtain ⟨hi1,hi2⟩:=hi;by_cases hr:0 <= i /\ i < l.length
 ·obtain ⟨k,rfl⟩:∃ k:Nat,i = k:=⟨i.toNat,by omega⟩
  have hk:k < l.length:=by omega
  have hk1:(0:Int) <= k:=by omega
  have hk2:(k:Int) < l.length:=by omega
  have hS:=sgn_many l[k] (l.drop (k + 1));rw [<- List.drop_eq_getElem_cons hk] at hS;have hbd:=many_bd l[k].toNat l[k].toNat_lt;obtain ⟨hbd1,hbd2⟩:=hbd;have HC:=Lib.hid (zgc l[k]);obtain ⟨m,hm⟩:∃ m,(many l[k].toNat).1 = m:=⟨_,rfl⟩;obtain ⟨v0,hv⟩:∃ v,(many l[k].toNat).2 = v:=⟨_,rfl⟩;rw [hm] at hbd1 hS;rw [hv] at hbd2 hS
  have HC:Hid (∀ w,Calls Tryz.prog 108 #[.int .i64 (l[k].toNat:Nat)] w fun e w' => e = .returned (.tuple #[.int .i64 (m:Nat),.int .i64 (v0:Nat)]) /\ w = w'):=by
   intro w; rw [<- hm,<- hv]; exact HC.out w
  clear hm hv hr;by_cases hA:m = 0 \/ (l.drop (k + 1)).length + 1 < m
  ·rw [if_pos (.inl hA)] at hS
   have H:=Lib.hid (zcf hS);clear hS;rw [List.length_drop] at hA;by_cases hA0:m = 0
   ·subst hA0
    go_enter Tryz.func104,Tryz.ntmps104
    go_wp2_with (go_at_call 108; refine (HC.out _).mono ?_; rintro e w1 ⟨rfl,rfl⟩)
    go_ret2
    rw [H.out]; exact ⟨rfl,Below.refl _ _⟩
   ·have hA1:(l.length:Int) - k < m:=by omega
    have hA2:((m:Int) == 0) = false:=by simpa using hA0
    clear hA hA0
    go_enter Tryz.func104,Tryz.ntmps104
    go_wp2_with (go_at_call 108; refine (HC.out _).mono ?_; rintro e w1 ⟨rfl,rfl⟩)
    go_ret2
    rw [H.out]; exact ⟨rfl,Below.refl _ _⟩
  ·have hA0:1 <= m:=by omega
   have hA1:k + m <= l.length:=by rw [List.length_drop] at hA; omega
   have hA2:((m:Int) == 0) = false:=by simp; omega
   have hA3:¬ (l.length:Int) - k < m:=by omega
   have hle:((l.drop (k + 1)).length:Nat) = l.length - (k + 1):=List.length_drop;have HS:=Lib.hid hS;have HA:=Lib.hid hA;have HL:=Lib.hid hle;clear hA hS hle
   go_enter Tryz.func104,Tryz.ntmps104
   go_wp2_with (go_at_call 108; refine (HC.out _).mono ?_; rintro e w1 ⟨rfl,rfl⟩)
   go_loop [7,8] (fun x i => ∃ (j:Nat),j + 1 <= m /\ i = .int .i64 ((j + 1:Nat):Int) /\ x = .int .i64 (sgnV v0 ((l.drop (k + 1)).take j))) (fun _ i => 5 - (RowKit.intOf i).toNat)
   case atStart => exact ⟨0,by omega,rfl,by simp [sgnV]⟩
   case round =>
    obtain ⟨j,hj,rfl,rfl⟩:=hrel;by_cases hlt:j + 1 < m
    ·have hjl:j < (l.drop (k + 1)).length:=by have:=HL.out; omega
     have HN:=Lib.hid (sgnV_snoc v0 (l.drop (k + 1)) j hjl);have hb:=sgnV_bd v0 (l.drop (k + 1)) j hbd2 (by omega);have hget:(l.drop (k + 1))[j] = l[k + (j + 1)]'(by have:=HL.out; omega):=by rw [List.getElem_drop]; congr 1; omega
     rw [hget] at HN;have hk4:k + (j + 1) < l.length:=by omega
     have e1:((k:Int) + (j + 1:Nat)).toNat = k + (j + 1):=by omega
     obtain ⟨x,hx⟩:∃ x,sgnV v0 ((l.drop (k + 1)).take j) = x:=⟨_,rfl⟩;rw [hx] at HN hb ⊢;have HX:=Lib.hid hx; clear hx
     go_wp2
     go_round
     case rel =>
      refine ⟨j + 1,by omega,by go_num,?_⟩;rw [HN.out]; go_num
     case measure => simp [RowKit.intOf] <;> omega
    ·obtain rfl:m = j + 1:=by omega
     have hb:=sgnV_bd v0 (l.drop (k + 1)) j hbd2 (by omega);have HS2:=HS.out;have hpre:¬ ((j + 1 = 0) \/ (l.drop (k + 1)).length + 1 < j + 1):=HA.out;simp only [hpre,false_or,Nat.add_sub_cancel] at HS2;have HS2:=Lib.hid HS2;clear hpre;go_wp2;obtain ⟨x,hx⟩:∃ x,sgnV v0 ((l.drop (k + 1)).take j) = x:=⟨_,rfl⟩;rw [hx] at hb HS2;have HX:=Lib.hid hx;simp only [hx];clear hx HS;have hB:=Below.refl w.heap.size w;have z1:IntKind.i64.wrap ((k:Int) + (↑j + 1)) = (k:Int) + (↑j + 1):=IntWalk.i64_in _ (by omega);have z2:(0:Int) <= (k:Int) + (↑j + 1):=by omega
     have z3:(k:Int) <= (k:Int) + (↑j + 1):=by omega
     have z4:(k:Int) + (↑j + 1) <= l.length:=by omega
     have z5:((k:Int) + (↑j + 1)).toNat = k + (j + 1):=by omega
     have hxo:i64ok x:=⟨by omega,by omega⟩
     go_region_held3 (fun W => Below w.heap.size w W) (first | exact hB | exact hB.drew)
      (first | (go_at_call 109; refine (zfg x _ hxo).mono ?_; rintro e w2 ⟨rfl,hb2⟩; replace hB:=zag (by first | exact hB | exact hB.drew) hb2 (Nat.le_refl _)))
     go_wp2
     ·have he:(!putSign ↑x == List.take (j + 1) (List.drop k l)) = true:=by assumption
      rw [zdI] at he;have h2:=HS2.out;rw [if_pos (by simpa using he)] at h2
      go_ret2
      rw [zcf h2]; exact ⟨rfl,hB⟩
     ·have he:(!putSign ↑x == List.take (j + 1) (List.drop k l)) = false:=by assumption
      rw [zdI] at he;have h2:=HS2.out;rw [if_neg (by simpa using he)] at h2
      go_ret2
      rw [zdH hk h2]; exact ⟨by simp,hB⟩
 ·have H:=Lib.hid (signAt_far hr)
  by_cases h0:i < 0
  ·clear hr
   go_enter Tryz.func104,Tryz.ntmps104
   go_wp2
   go_ret2
   rw [H.out]; exact ⟨rfl,Below.refl _ _⟩
  ·have h1:¬ i < l.length:=by omega
   clear hr
   go_enter Tryz.func104,Tryz.ntmps104
   go_wp2
   go_ret2
   rw [H.out]; exact ⟨rfl,Below.refl _ _⟩
end Go.Proofs.YtaofmfkcfmcmpaaGreatDoor
namespace Go.Proofs.YtaofmfkcfmcmpaaGreatDoor
open Go.RowKit
set_option maxHeartbeats 4000000
set_option maxRecDepth 100000
open List
section
open Go.RowKit Go.Lib
theorem tyI:ElemTy Tryz.prog 86 3 1 8:=ElemTy.mk' Tryz.underlying86 (z:=.int .i64 0) (by kernel_rfl) rfl (by decide)
theorem signAt_bd {l:L8} {k:Nat} (_:k <= l.length):-1 <= (signAt l k).1 /\ (signAt l k).1 <= 1114111 /\ -1 <= (signAt l k).2 /\ (signAt l k).2 <= l.length:=by
 unfold signAt; split
 ·rename_i h
  rw [Int.toNat_natCast]
  cases hs:sgn (l.drop k) with
  | none => simp; try omega
  | some r =>
   obtain ⟨n,m⟩:=r
   have:=sgn_bd hs
   simp [length_drop] at this ⊢; omega
 ·simp; try omega
theorem zgf {l:L8} {k:Nat} (hk:k < l.length):((signAt l k).2 < 0 /\ validD (l.drop k) = false) \/ (∃ m:Nat,(signAt l k).2 = (k + m:Nat) /\ 1 <= m /\ k + m <= l.length /\ validD (l.drop k) = validD (l.drop (k + m))):=by
 have hne:l.drop k ≠ []:=by simp; omega
 have hv:=validD_sgn (l.drop k) hne
 cases hs:sgn (l.drop k) with
 | none => rw [hs] at hv; left; rw [zcf hs]; exact ⟨by simp,hv⟩
 | some r =>
  obtain ⟨n,m⟩:=r
  have:=sgn_bd hs
  rw [hs] at hv; right; rw [zdH hk hs]; simp [length_drop,drop_drop] at this hv ⊢
  exact ⟨m,rfl,by omega,by omega,hv⟩
theorem signs_spec (l:L8) (w:World) (hl:l.length <= 4294967295) :
  Calls Tryz.prog 98 #[.string ⟨l.toArray⟩] w fun e w' => (∃ a n c,e = .returned (.slice a n c) /\ n <= 4294967295 /\ (l ≠ [] -> (decide (0 < n)) = validD l)) /\ Below w.heap.size w w':=by
 obtain ⟨ok,hok⟩:∃ ok,validD l = ok:=⟨_,rfl⟩;rw [hok]
 go_enter Tryz.func98,Tryz.ntmps98
 go_wp2
 go_loopw [3,4] (fun v i wr => ∃ (k:Nat) (xs:List Value),k <= l.length /\ i = .int .i64 k /\ OwnR wr w.heap.size 3 v xs /\ xs.length <= k /\ (0 < k -> 0 < xs.length) /\ validD (l.drop k) = ok /\ Below w.heap.size w wr) (fun _ i _ => l.length - (RowKit.intOf i).toNat)
 case atStart => exact ⟨0,[],Nat.zero_le _,rfl,OwnR.start,by simp,by simp,by simpa using hok,(Below.refl _ _).alloc lR _⟩
 case round =>
  obtain ⟨k,xs,hk,rfl,hown,hx1,hx2,hv,hbel⟩:=hrel;have HV:=Lib.hid hv; clear hv hok
  have hsz:=hbel.size;obtain ⟨a,c,rfl⟩:=hown.any;by_cases hlt:k < l.length
  ·have hki:i64ok k:=⟨by omega,by omega⟩
   have HB:=signAt_bd (l:=l) (k:=k) hk;have HS:=Lib.hid (zgf hlt);obtain ⟨p,hp⟩:∃ p,signAt l k = p:=⟨_,rfl⟩
   have HC:Hid (∀ w,Calls Tryz.prog 104 #[.string ⟨l.toArray⟩,.int .i64 k] w fun e w' => e = .returned (.tuple #[.int .i64 p.1,.int .i64 p.2]) /\ Below w.heap.size w w'):=by
    intro w; rw [<- hp]; exact zfh l k w hki (by omega)
   rw [hp] at HB HS;clear hp;obtain ⟨p1,p2⟩:=p;simp only at HB HS HC;obtain ⟨HB1,HB2,HB3,HB4⟩:=HB;by_cases hneg:p2 < 0
   ·have hf:ok = false:=by
     rcases HS.out with ⟨_,h2⟩ | ⟨m,h1,_⟩
     ·rw [<- HV.out,h2]
     ·omega
    have HF:=Lib.hid hf;clear hf
    go_wp2_with (go_at_call 104; refine (HC.out _).mono ?_; rintro e w1 ⟨rfl,hb1⟩)
    go_ret;exact ⟨⟨_,_,_,rfl,by simp,fun _ => by rw [HF.out]; rfl⟩,(zag hbel hb1 lR).alloc (Nat.le_trans hsz hb1.size) _⟩
   ·obtain ⟨m,hm1,hm2,hm3,hm4⟩:∃ m:Nat,p2 = (k + m:Nat) /\ 1 <= m /\ k + m <= l.length /\ validD (l.drop k) = validD (l.drop (k + m)):=by
     rcases HS.out with ⟨h1,_⟩ | h
     ·omega
     ·exact h
    subst hm1;have HM:=Lib.hid hm4;clear hm4
    go_wp2_with (first | (go_at_call 104; refine (HC.out _).mono ?_; rintro e w1 ⟨rfl,hb1⟩) | (at_builtin; refine wp_appR (ys:=[.int .i64 p1]) tyI rfl rfl w.heap.size ((hown.below hb1).alloc _) rfl ⟨w1.heap.size,0,none⟩ 1 rfl (cell_one_new _ _ _) (by simp [Value.oneCell']) (by simp; omega) (by decide) (by have:=hb1.size; simp; omega) ?_))
    intro v' w2 hown1 hgr _;have hbel1:=OwnR.grown ((hown.below hb1).alloc _) ((zag hbel hb1 lR).alloc (Nat.le_trans hsz hb1.size) _) hgr (by have:=hb1.size; simp; omega);clear hown hbel;go_wp2;go_roundw
    case rel => exact ⟨k + m,_,hm3,by go_num,hown1,by simp; omega,by simp,by rw [<- HM.out]; exact HV.out,hbel1⟩
    case measure => simp [RowKit.intOf]; omega
  ·obtain rfl:k = l.length:=by omega
   have h1:=HV.out;rw [drop_length] at h1;have HF:=Lib.hid h1;clear h1;go_wp2;go_ret;exact ⟨⟨_,_,_,rfl,by omega,fun hne => by rw [<- HF.out,decide_eq_true (hx2 (length_pos_iff.2 hne))]; rfl⟩,hbel⟩
theorem zdJ (l:L8) (w:World) (hl:l.length <= 4294967295) :
  Calls Tryz.prog 86 #[.string ⟨l.toArray⟩] w fun e w' => e = .returned (.bool (validD l)) /\ Below w.heap.size w w':=by
 by_cases h:l = []
 ·subst h
  go_enter Tryz.func86,Tryz.ntmps86
  go_wp2;go_ret;exact ⟨rfl,Below.refl _ _⟩
 ·have HC:=Lib.hid (signs_spec l w hl)
  have h1:l.isEmpty = false:=by simpa using h
  have HN:=Lib.hid h;clear h
  go_enter Tryz.func86,Tryz.ntmps86
  go_wp2_with (go_at_call 98; refine HC.out.mono ?_; rintro e w1 ⟨⟨a,n,c,rfl,hn,hv⟩,hb1⟩; have HV:=Lib.hid (hv HN.out); clear hv)
  go_ret;exact ⟨by rw [<- HV.out]; rfl,hb1⟩
end
end Go.Proofs.YtaofmfkcfmcmpaaGreatDoor
/- Decimals of a value: the program's fits and isDec, the reference's l02Whole. -/
namespace Go.Proofs.YtaofmfkcfmcmpaaGreatDoor
open Go.RowKit
theorem zdK {k:Nat} {n:Int} (h:-9223372036854775808 <= n * 10 /\ n * 10 <= 9223372036854775807):fitsN (k + 1) n = fitsN k (n * 10):=by
 show (inR _ _ _ && _) = _; rw [zaF h]; rfl
theorem fitsN_no {k:Nat} {n:Int} (h:¬ (-9223372036854775808 <= n * 10 /\ n * 10 <= 9223372036854775807)):fitsN (k + 1) n = false:=by
 show (inR _ _ _ && _) = _; rw [za2 h]; rfl
theorem tdiv10 (q:Int):Int.tdiv q 10 * 10 - 9 <= q /\ q <= Int.tdiv q 10 * 10 + 9 /\ (0 <= q -> Int.tdiv q 10 * 10 <= q) /\ (q <= 0 -> q <= Int.tdiv q 10 * 10):=by
 have h1:=Int.mul_tdiv_add_tmod q 10;have h2:=Int.tmod_lt_of_pos q (show (0:Int) < 10 by decide);have h3:-10 < Int.tmod q 10:=by have:=Int.tmod_lt_of_pos (-q) (show (0:Int) < 10 by decide); rw [Int.neg_tmod] at this; omega
 have h4:0 <= q -> 0 <= Int.tmod q 10:=fun h => Int.tmod_nonneg 10 h
 have h5:q <= 0 -> Int.tmod q 10 <= 0:=fun h => by have:=Int.tmod_nonneg 10 (show 0 <= -q by omega); rw [Int.neg_tmod] at this; omega
 refine ⟨by omega,by omega,fun h => ?_,fun h => ?_⟩
 ·have:=h4 h; omega
 ·have:=h5 h; omega
theorem wrap_no {n:Int} (h:¬ (-9223372036854775808 <= n * 10 /\ n * 10 <= 9223372036854775807)):(wrap64 (Int.tdiv (wrap64 (n * 10)) 10) != n) = true:=by
 simp only [bne_iff_ne,ne_eq];intro e;have hq:-9223372036854775808 <= wrap64 (n * 10) /\ wrap64 (n * 10) <= 9223372036854775807:=by unfold wrap64; omega
 generalize wrap64 (n * 10) = q at e hq;obtain ⟨a,b,c,d⟩:=tdiv10 q
 have:wrap64 (Int.tdiv q 10) = Int.tdiv q 10:=by unfold wrap64; omega
 rw [this] at e;subst e;by_cases h0:0 <= q
 ·have:=c h0; omega
 ·have:=d (by omega); omega
set_option maxHeartbeats 400000 in
theorem zfi (n:Int) (k:Nat) (w:World) (hn:i64ok n) (hk:k <= 1000) :
  Calls Tryz.prog 85 #[.int .i64 n,.int .i64 k] w fun e w' => e = .returned (.bool (decide (0 < k) && fitsN k n)) /\ w = w':=by
 obtain ⟨ok,hok⟩:∃ ok,fitsN k n = ok:=⟨_,rfl⟩;rw [hok];have HOK:=Lib.hid hok; clear hok
 go_enter Tryz.func85,Tryz.ntmps85
 go_wp2
 go_loopw [0,5] (fun x i wr => ∃ (j:Nat) (m:Int),j <= k /\ i = .int .i64 j /\ x = .int .i64 m /\ i64ok m /\ fitsN (k - j) m = ok /\ w = wr) (fun _ i _ => k - (intOf i).toNat)
 case atStart => exact ⟨0,n,Nat.zero_le _,rfl,rfl,hn,HOK.out,rfl⟩
 case round =>
  obtain ⟨j,m,hj,rfl,rfl,hm,hf,rfl⟩:=hrel;by_cases hlt:j < k
  ·obtain ⟨r,hr⟩:∃ r,k - j = r + 1:=⟨k - j - 1,by omega⟩
   rw [hr] at hf;have hlt':(j:Int) < k:=by omega
   by_cases hin:-9223372036854775808 <= m * 10 /\ m * 10 <= 9223372036854775807
   ·rw [zdK hin] at hf
    have HF:=Lib.hid hf; clear hf
    go_wp2;exact ⟨⟨j + 1,m * 10,by omega,by go_num,rfl,hin,by rw [show k - (j + 1) = r by omega]; exact HF.out,trivial⟩,by simp [intOf]; omega⟩
   ·rw [fitsN_no hin] at hf
    have HF:=Lib.hid hf; clear hf
    have hw:=wrap_no hin;go_wp2;go_ret;exact ⟨by rw [<- HF.out]; simp,rfl⟩
  ·obtain rfl:j = k:=by omega
   rw [Nat.sub_self] at hf;have HF:=Lib.hid (show true = ok from hf); clear hf
   go_wp2;go_ret;exact ⟨by rw [<- HF.out]; simp,rfl⟩
def fitsR (ok:Bool) (p:Int):Value:=if ok then .tuple #[.int .i64 p,.bool true] else .tuple #[.int .i64 0,.bool false]
set_option maxHeartbeats 400000 in
theorem fits_any (n:Int) (k:Nat) (w:World) (hn:i64ok n) (hk:k <= 1000) :
  Calls Tryz.prog 99 #[.int .i64 n,.int .i64 k] w fun e w' => e = .returned (fitsR (fitsN k n) (n * 10 ^ k)) /\ w = w':=by
 obtain ⟨ok,hok⟩:∃ ok,fitsN k n = ok:=⟨_,rfl⟩;obtain ⟨p,hp⟩:∃ p,n * 10 ^ k = p:=⟨_,rfl⟩;rw [hok,hp];have HOK:=Lib.hid hok; clear hok
 have HP:=Lib.hid hp; clear hp
 go_enter Tryz.func99,Tryz.ntmps99
 go_wp2
 go_loopw [0,1] (fun x i wr => ∃ (j:Nat) (m:Int),j <= k /\ i = .int .i64 j /\ x = .int .i64 m /\ i64ok m /\ fitsN j m = ok /\ m * 10 ^ j = p /\ w = wr) (fun _ i _ => (intOf i).toNat)
 case atStart => exact ⟨k,n,Nat.le_refl _,rfl,rfl,hn,HOK.out,HP.out,rfl⟩
 case round =>
  obtain ⟨j,m,hj,rfl,rfl,hm,hf,hpp,rfl⟩:=hrel;by_cases hj0:j = 0
  ·subst hj0
   have HF:=Lib.hid (show true = ok from hf);have HPP:=Lib.hid (show m = p by simpa using hpp);clear hf hpp;go_wp2
   go_ret2
   exact ⟨by rw [<- HF.out,HPP.out]; rfl,rfl⟩
  ·obtain ⟨r,rfl⟩:∃ r,j = r + 1:=⟨j - 1,by omega⟩
   have hj1:(0:Int) < (r + 1:Nat):=by omega
   have hpp2:m * 10 * 10 ^ r = p:=by rw [<- hpp,Int.pow_succ,Int.mul_assoc,Int.mul_comm 10]
   have HPP:=Lib.hid hpp2;by_cases hm0:m = 0
   ·subst hm0
    have h0:∀ r,fitsN r 0 = true:=by intro r; induction r with
     | zero => rfl
     | succ r ih => rw [zdK (by decide)]; exact ih
    have HF:=Lib.hid (show true = ok by rw [<- hf,h0]);have HP0:=Lib.hid (show (0:Int) = p by simpa using hpp);clear hf hpp hpp2 h0;go_wp2
    go_ret2
    exact ⟨by rw [<- HF.out,<- HP0.out]; rfl,rfl⟩
   ·have hne:(m != 0) = true:=by simpa using hm0
    by_cases hin:-9223372036854775808 <= m * 10 /\ m * 10 <= 9223372036854775807
    ·rw [zdK hin] at hf
     have HF:=Lib.hid hf; clear hf hpp hpp2
     have g1:¬ (922337203685477580:Int) < m:=by omega
     have g2:¬ m < (-922337203685477580:Int):=by omega
     go_wp2;exact ⟨⟨r,m * 10,by omega,by go_num,rfl,hin,HF.out,HPP.out,trivial⟩,by simp [intOf]⟩
    ·rw [fitsN_no hin] at hf
     have HF:=Lib.hid hf; clear hf hpp hpp2
     by_cases g1:(922337203685477580:Int) < m
     ·go_wp2
      go_ret2
      exact ⟨by rw [<- HF.out]; rfl,rfl⟩
     ·have g2:m < (-922337203685477580:Int):=by omega
      go_wp2
      go_ret2
      exact ⟨by rw [<- HF.out]; rfl,rfl⟩
theorem decOk_e {n e:Int} (h:¬ (-20 <= e /\ e <= 20)):decOk n e = false:=by unfold decOk; rw [za2 h]; rfl
set_option maxHeartbeats 1000000 in
set_option maxRecDepth 10000 in
theorem isDec_any (x:V) (cs:List Value) (w:World) (h:Rd w x.d cs) (hwf:x.wf) :
  Calls Tryz.prog 88 #[.agg cs.toArray] w fun e w' => e = .returned (.bool (decOk x.num x.exp)) /\ Below w.heap.size w w':=by
 obtain ⟨k,n,e,s,kids,v1,rfl,rfl,hkids⟩:=V.lay h;obtain ⟨a1,c1,rfl⟩:=Rd.sl_form hkids;obtain ⟨hk,hn,he,hs,_⟩:=hwf;have H1:=Lib.hid (decOk_e (n:=n) (e:=e));show Calls _ _ _ _ fun e' w' => e' = .returned (.bool (decOk n e)) /\ _
 obtain ⟨ok,hok⟩:∃ ok,decOk n e = ok:=⟨_,rfl⟩;rw [hok];have HA:=Lib.hid ((Below.refl w.heap.size w).alloc (Nat.le_refl _) (.cells #[.int .i64 k,.int .i64 n,.int .i64 e,.string ⟨s.toArray⟩,.slice a1 (V.ds kids).length c1] 32));clear h hkids;by_cases h1:-20 <= e /\ e <= 20
 ·by_cases h2:e = 0
  ·have H:Hid (ok = false):=by show _ = _; rw [<- hok,h2]; unfold decOk; rw [zaF (by decide)]; simp
   subst h2;clear hok
   go_enter Tryz.func88,Tryz.ntmps88
   go_wp2;go_ret;exact ⟨by rw [H.out]; rfl,HA.out⟩
  ·have g2:(e == 0) = false:=by simpa using h2
   by_cases h3:-999999999999999999 <= n /\ n <= 999999999999999999
   ·by_cases h4:Int.tmod n 10 = 0
    ·have H:Hid (ok = false):=by show _ = _; rw [<- hok]; unfold decOk; rw [h4]; simp
     have g4:(Int.tmod n 10 == 0) = true:=by simpa using h4
     clear hok
     go_enter Tryz.func88,Tryz.ntmps88
     go_wp2;go_ret;exact ⟨by rw [H.out]; rfl,HA.out⟩
    ·have g4:(Int.tmod n 10 == 0) = false:=by simpa using h4
     by_cases h5:0 < e
     ·obtain ⟨j,rfl⟩:∃ j:Nat,e = j:=⟨e.toNat,by omega⟩
      have H:Hid (ok = !fitsN j n):=by show _ = _; rw [<- hok]; unfold decOk; rw [zaF h1,zaF h3]; simp [h4,show j ≠ 0 by omega,show 0 < j by omega]
      clear hok
      go_enter Tryz.func88,Tryz.ntmps88
      cases hf:fitsN j n with
      | true =>
       have HF:=Lib.hid hf; clear hf
       go_wp2_with (first | (go_at_call 89; refine (zbY _ _ _ _).mono ?_; rintro e w1 ⟨rfl,rfl⟩; first | rw [zaF h1] | rw [zaF h3]) | (go_at_call 99; refine (fits_any n j _ hn (by omega)).mono ?_; rw [HF.out]; rintro e w1 ⟨rfl,rfl⟩; simp only [fitsR,if_true]))
       go_ret
       exact ⟨by rw [H.out,HF.out]; rfl,HA.out⟩
      | false =>
       have HF:=Lib.hid hf; clear hf
       go_wp2_with (first | (go_at_call 89; refine (zbY _ _ _ _).mono ?_; rintro e w1 ⟨rfl,rfl⟩; first | rw [zaF h1] | rw [zaF h3]) | (go_at_call 99; refine (fits_any n j _ hn (by omega)).mono ?_; rw [HF.out]; rintro e w1 ⟨rfl,rfl⟩; simp only [fitsR,Bool.false_eq_true,if_false]))
       go_ret;exact ⟨by rw [H.out,HF.out]; rfl,HA.out⟩
     ·have H:Hid (ok = true):=by show _ = _; rw [<- hok]; unfold decOk; rw [zaF h1,zaF h3]; simp [h2,h4,h5]
      clear hok
      go_enter Tryz.func88,Tryz.ntmps88
      go_wp2;go_ret;exact ⟨by rw [H.out]; rfl,HA.out⟩
   ·have H:Hid (ok = false):=by show _ = _; rw [<- hok]; unfold decOk; rw [za2 h3]; simp
    clear hok
    go_enter Tryz.func88,Tryz.ntmps88
    go_wp2
    all_goals (go_ret; exact ⟨by rw [H.out]; rfl,HA.out⟩)
 ·have H:Hid (ok = false):=hok.symm.trans (H1.out h1)
  clear hok
  go_enter Tryz.func88,Tryz.ntmps88
  go_wp2
  all_goals (go_ret; exact ⟨by rw [H.out]; rfl,HA.out⟩)
end Go.Proofs.YtaofmfkcfmcmpaaGreatDoor
/- Whether values are keys and values by turns: the reference's l02Pairs. -/
namespace Go.Proofs.YtaofmfkcfmcmpaaGreatDoor
open Go.RowKit
theorem marks_snoc {α:Type} (f:V -> α) (ks:List V) (m:Nat) (h:m < ks.length):(ks.take (m + 1)).map f = (ks.take m).map f ++ [f ks[m]]:=by
 rw [List.take_succ_eq_append_getElem h,List.map_append]; rfl
theorem zdL {α:Type} [DecidableEq α] {f:V -> α} {ks:List V} {j:Nat} (hj:j < ks.length) (h:uniq f (ks.take j) = true) (hk:isKeyK ks[j].kind = true) (hn:f ks[j] ∉ (ks.take j).map f):uniq f (ks.take (j + 1)) = true:=by
 rw [List.take_succ_eq_append_getElem hj,zdt,h,hk,decide_eq_true hn]; rfl
theorem zfj {α:Type} [DecidableEq α] {f:V -> α} {ks:List V} {j:Nat} (hj:j < ks.length) (hk:isKeyK ks[j].kind = false):uniq f ks = false:=by
 apply zeZ (j + 1)
 rw [List.take_succ_eq_append_getElem hj,zdt,hk,Bool.false_and,Bool.and_false]
theorem zdM {α:Type} [DecidableEq α] {f:V -> α} {ks:List V} {j:Nat} (hj:j < ks.length) (hn:f ks[j] ∈ (ks.take j).map f):uniq f ks = false:=by
 apply zeZ (j + 1)
 rw [List.take_succ_eq_append_getElem hj,zdt,decide_eq_false (fun h => h hn),Bool.and_false,Bool.and_false]
set_option maxHeartbeats 4000000 in
set_option maxRecDepth 10000 in
theorem zfk (xs:List V) (v:Value) (w:World) (h:Rd w (.sl 5 (V.ds xs)) [v]) (hlen:xs.length <= 4294967295) :
  Calls Tryz.prog 87 #[v] w fun e w' => e = .returned (.bool (pairsOk xs)) /\ Below w.heap.size w w':=by
 obtain ⟨a,c,rfl,hg⟩:=h.values;obtain ⟨ok,hok⟩:∃ ok,pairsOk xs = ok:=⟨_,rfl⟩;rw [hok];have HOK:=Lib.hid hok; clear hok h
 obtain ⟨ks,hks⟩:∃ ks,odds xs = ks:=⟨_,rfl⟩;have hkl:ks.length = (xs.length + 1) / 2:=by rw [<- hks,zbi]
 have HKG:Hid (∀ j (h1:2 * j < xs.length) (h2:j < ks.length),ks[j] = xs[2 * j]):=by
  intro j h1 h2; subst hks; exact odds_get xs j h1
 have HKS:=Lib.hid hks; clear hks
 go_enter Tryz.func87,Tryz.ntmps87
 go_wp2
 go_loopw [3] (fun i wr => ∃ (j k:Nat),k = 2 * j /\ j <= ks.length /\ i = .int .i64 k /\ uniq V.mark (ks.take j) = true /\ Below w.heap.size w wr) (fun i _ => xs.length + 1 - (intOf i).toNat)
 case atStart => exact ⟨0,0,rfl,Nat.zero_le _,rfl,by simp [uniq],Below.refl _ _⟩
 case round =>
  obtain ⟨j,k,hkj,hj,rfl,hu,hbel⟩:=hrel;have HKJ:=Lib.hid hkj;have HU:=Lib.hid hu; clear hu
  by_cases hlt:k < xs.length
  ·have hjk:j < ks.length:=by omega
   have hkk:=HKG.out j (by omega) hjk;obtain ⟨_,_,b,o,rfl,hb,hcell⟩:=hg (by intro e; rw [e] at hlt; simp at hlt);have HC:=Lib.hid hcell;obtain ⟨v0,v1,v2,v3,v4,hr,d0,d1,d2,d3,d4⟩:=hcell k hlt;clear hcell;obtain ⟨xk,xn,xe,xs',xkids,y4,hx,hcs,_⟩:=V.lay hr;simp only [List.cons.injEq,and_true] at hcs;obtain ⟨rfl,rfl,rfl,rfl,rfl⟩:=hcs;have hbc:=(zaP hbel).1;have D0:=Lib.hid d0;have D1:=Lib.hid d1;have D3:=Lib.hid d3;rw [<- hbc _ _ hb] at d0 d1 d3;clear hr d2 d4;have hkx:ks[j] = .mk xk xn xe xs' xkids:=by rw [hkk,<- hx]; subst hkj; rfl
   have hi1:(0:Int) <= k:=by omega
   have hi3:(k:Int) < xs.length:=by omega
   have HX:=Lib.hid hkx;clear hbc hkk hx hkx hkj;by_cases hkey:isKeyK xk = true
   ·have HK:=Lib.hid hkey
    have hkk:(xk != 5) = false \/ ((xk != 5) = true /\ (xk != 3) = false):=by simp [isKeyK] at hkey ⊢; omega
    clear hkey
    rcases hkk with hk5 | ⟨hk5,hk3⟩
    ·go_wp2
     go_loopw [4] (fun i wr => ∃ (m r:Nat),r = 2 * m /\ m <= j /\ i = .int .i64 r /\ (V.mk xk xn xe xs' xkids).mark ∉ (ks.take m).map V.mark /\ Below w.heap.size w wr) (fun i _ => k + 1 - (intOf i).toNat)
     case atStart => exact ⟨0,0,rfl,Nat.zero_le _,rfl,by simp,hbel⟩
     case round =>
      obtain ⟨m,r,hrm,hm,rfl,hni,hbel2⟩:=hrel;have HRM:=Lib.hid hrm;have HNI:=Lib.hid hni; clear hni
      have hkj:=HKJ.out;by_cases hml:r < k
      ·have hmk:m < ks.length:=by omega
       have hmm:=HKG.out m (by omega) hmk;obtain ⟨u0,u1,u2,u3,u4,hr2,e0,e1,e2,e3,e4⟩:=HC.out r (by omega);obtain ⟨yk,yn,ye,ys,ykids,y5,hy,hcs2,_⟩:=V.lay hr2;simp only [List.cons.injEq,and_true] at hcs2;obtain ⟨rfl,rfl,rfl,rfl,rfl⟩:=hcs2;have hbc2:=(zaP hbel2).1;rw [<- hbc2 _ _ hb] at e0 e1 e3;have d0':=(hbc2 _ _ hb).trans D0.out;have d1':=(hbc2 _ _ hb).trans D1.out;have d3':=(hbc2 _ _ hb).trans D3.out;clear hr2 e2 e4 d0 d1 d3;have hky:ks[m] = .mk yk yn ye ys ykids:=by rw [hmm,<- hy]; subst hrm; rfl
       have HY:=Lib.hid hky;have hj1:(0:Int) <= r:=by omega
       have hj3:(r:Int) < xs.length:=by omega
       have hj5:(r:Int) < k:=by omega
       have hm5:m < j:=by omega
       have hr5:r + 2 < k + 3:=by omega
       clear hbc2 hmm hy hky hrm hkj;by_cases heq:yk = xk /\ yn = xn /\ ys = xs'
       ·obtain ⟨rfl,rfl,rfl⟩:=heq
        have HF:Hid (pairsOk xs = false):=by
         show _ = _; unfold pairsOk; rw [HKS.out,zdM hjk (by
          rw [HX.out];refine List.mem_map.2 ⟨ks[m],List.mem_take_iff_getElem.2 ⟨m,by omega,rfl⟩,by rw [HY.out]; rfl⟩)]; rfl
        have g1:(yk == yk) = true:=by simp
        have g2:(yn == yn) = true:=by simp
        go_wp2
        go_quiet (fail)
        go_wp2;go_ret;exact ⟨by rw [<- HOK.out,HF.out]; rfl,by first | exact hbel2 | exact hbel2.drew | exact Go.below_drewN hbel2 _⟩
       ·have HM:Hid ((V.mk xk xn xe xs' xkids).mark ∉ (ks.take (m + 1)).map V.mark):=by
         show _ ∉ _;rw [marks_snoc _ _ _ hmk,List.mem_append,HY.out];rintro (h | h)
         ·exact HNI.out h
         ·simp only [List.mem_singleton,V.mark,V.kind,V.num,V.text,Prod.mk.injEq] at h
          exact heq ⟨h.1.symm,h.2.1.symm,h.2.2.symm⟩
        by_cases h1:yk = xk
        ·subst h1
         have g1:(yk == yk) = true:=by simp
         by_cases h2:yn = xn
         ·subst h2
          have g2:(yn == yn) = true:=by simp
          have h3:¬ ys = xs':=fun e => heq ⟨rfl,rfl,e⟩
          have g3:(ys == xs') = false:=by simpa using h3
          clear heq h3;go_wp2
          go_quiet (fail)
          go_wp2;go_roundw
          case rel => exact ⟨m + 1,r + 2,by have:=HRM.out; omega,by omega,by go_num,HM.out,by first | exact hbel2 | exact hbel2.drew | exact Go.below_drewN hbel2 _⟩
          case measure => simp [intOf]; omega
         ·have g2:(yn == xn) = false:=by simpa using h2
          clear heq h2;go_wp2
          go_quiet (fail)
          go_wp2;go_roundw
          case rel => exact ⟨m + 1,r + 2,by have:=HRM.out; omega,by omega,by go_num,HM.out,by first | exact hbel2 | exact hbel2.drew | exact Go.below_drewN hbel2 _⟩
          case measure => simp [intOf]; omega
        ·have g1:(yk == xk) = false:=by simpa using h1
         clear heq h1;go_wp2
         go_quiet (fail)
         go_wp2;go_roundw
         case rel => exact ⟨m + 1,r + 2,by have:=HRM.out; omega,by omega,by go_num,HM.out,by first | exact hbel2 | exact hbel2.drew | exact Go.below_drewN hbel2 _⟩
         case measure => simp [intOf]; omega
      ·obtain rfl:m = j:=by omega
       have HM:Hid (uniq V.mark (ks.take (m + 1)) = true):=zdL hjk HU.out (by rw [HX.out]; exact HK.out) (by rw [HX.out]; exact HNI.out);clear hrm hkj;go_wp2;go_roundw
       case rel => exact ⟨m + 1,k + 2,by have:=HKJ.out; omega,by omega,by go_num,HM.out,hbel2⟩
       case measure => simp [intOf]; omega
    ·go_wp2
     go_loopw [4] (fun i wr => ∃ (m r:Nat),r = 2 * m /\ m <= j /\ i = .int .i64 r /\ (V.mk xk xn xe xs' xkids).mark ∉ (ks.take m).map V.mark /\ Below w.heap.size w wr) (fun i _ => k + 1 - (intOf i).toNat)
     case atStart => exact ⟨0,0,rfl,Nat.zero_le _,rfl,by simp,hbel⟩
     case round =>
      obtain ⟨m,r,hrm,hm,rfl,hni,hbel2⟩:=hrel;have HRM:=Lib.hid hrm;have HNI:=Lib.hid hni; clear hni
      have hkj:=HKJ.out;by_cases hml:r < k
      ·have hmk:m < ks.length:=by omega
       have hmm:=HKG.out m (by omega) hmk;obtain ⟨u0,u1,u2,u3,u4,hr2,e0,e1,e2,e3,e4⟩:=HC.out r (by omega);obtain ⟨yk,yn,ye,ys,ykids,y5,hy,hcs2,_⟩:=V.lay hr2;simp only [List.cons.injEq,and_true] at hcs2;obtain ⟨rfl,rfl,rfl,rfl,rfl⟩:=hcs2;have hbc2:=(zaP hbel2).1;rw [<- hbc2 _ _ hb] at e0 e1 e3;have d0':=(hbc2 _ _ hb).trans D0.out;have d1':=(hbc2 _ _ hb).trans D1.out;have d3':=(hbc2 _ _ hb).trans D3.out;clear hr2 e2 e4 d0 d1 d3;have hky:ks[m] = .mk yk yn ye ys ykids:=by rw [hmm,<- hy]; subst hrm; rfl
       have HY:=Lib.hid hky;have hj1:(0:Int) <= r:=by omega
       have hj3:(r:Int) < xs.length:=by omega
       have hj5:(r:Int) < k:=by omega
       have hm5:m < j:=by omega
       have hr5:r + 2 < k + 3:=by omega
       clear hbc2 hmm hy hky hrm hkj;by_cases heq:yk = xk /\ yn = xn /\ ys = xs'
       ·obtain ⟨rfl,rfl,rfl⟩:=heq
        have HF:Hid (pairsOk xs = false):=by
         show _ = _; unfold pairsOk; rw [HKS.out,zdM hjk (by
          rw [HX.out];refine List.mem_map.2 ⟨ks[m],List.mem_take_iff_getElem.2 ⟨m,by omega,rfl⟩,by rw [HY.out]; rfl⟩)]; rfl
        have g1:(yk == yk) = true:=by simp
        have g2:(yn == yn) = true:=by simp
        go_wp2
        go_quiet (fail)
        go_wp2;go_ret;exact ⟨by rw [<- HOK.out,HF.out]; rfl,by first | exact hbel2 | exact hbel2.drew | exact Go.below_drewN hbel2 _⟩
       ·have HM:Hid ((V.mk xk xn xe xs' xkids).mark ∉ (ks.take (m + 1)).map V.mark):=by
         show _ ∉ _;rw [marks_snoc _ _ _ hmk,List.mem_append,HY.out];rintro (h | h)
         ·exact HNI.out h
         ·simp only [List.mem_singleton,V.mark,V.kind,V.num,V.text,Prod.mk.injEq] at h
          exact heq ⟨h.1.symm,h.2.1.symm,h.2.2.symm⟩
        by_cases h1:yk = xk
        ·subst h1
         have g1:(yk == yk) = true:=by simp
         by_cases h2:yn = xn
         ·subst h2
          have g2:(yn == yn) = true:=by simp
          have h3:¬ ys = xs':=fun e => heq ⟨rfl,rfl,e⟩
          have g3:(ys == xs') = false:=by simpa using h3
          clear heq h3;go_wp2
          go_quiet (fail)
          go_wp2;go_roundw
          case rel => exact ⟨m + 1,r + 2,by have:=HRM.out; omega,by omega,by go_num,HM.out,by first | exact hbel2 | exact hbel2.drew | exact Go.below_drewN hbel2 _⟩
          case measure => simp [intOf]; omega
         ·have g2:(yn == xn) = false:=by simpa using h2
          clear heq h2;go_wp2
          go_quiet (fail)
          go_wp2;go_roundw
          case rel => exact ⟨m + 1,r + 2,by have:=HRM.out; omega,by omega,by go_num,HM.out,by first | exact hbel2 | exact hbel2.drew | exact Go.below_drewN hbel2 _⟩
          case measure => simp [intOf]; omega
        ·have g1:(yk == xk) = false:=by simpa using h1
         clear heq h1;go_wp2
         go_quiet (fail)
         go_wp2;go_roundw
         case rel => exact ⟨m + 1,r + 2,by have:=HRM.out; omega,by omega,by go_num,HM.out,by first | exact hbel2 | exact hbel2.drew | exact Go.below_drewN hbel2 _⟩
         case measure => simp [intOf]; omega
      ·obtain rfl:m = j:=by omega
       have HM:Hid (uniq V.mark (ks.take (m + 1)) = true):=zdL hjk HU.out (by rw [HX.out]; exact HK.out) (by rw [HX.out]; exact HNI.out);clear hrm hkj;go_wp2;go_roundw
       case rel => exact ⟨m + 1,k + 2,by have:=HKJ.out; omega,by omega,by go_num,HM.out,hbel2⟩
       case measure => simp [intOf]; omega
   ·have hk5:(xk != 5) = true:=by simp [isKeyK] at hkey ⊢; omega
    have hk3:(xk != 3) = true:=by simp [isKeyK] at hkey ⊢; omega
    have HF:Hid (pairsOk xs = false):=by
     show _ = _; unfold pairsOk; rw [HKS.out,zfj hjk (by rw [HX.out]; simpa [V.kind] using hkey)]; rfl
    clear hkey;go_wp2;go_ret;exact ⟨by rw [<- HOK.out,HF.out]; rfl,hbel⟩
  ·obtain rfl:j = ks.length:=by omega
   clear hkj;have h1:=HU.out;rw [List.take_length] at h1
   have HF:Hid (pairsOk xs = (decide (xs.length % 2 = 0) && decide (xs.length <= 300))):=by
    show _ = _; unfold pairsOk; rw [HKS.out,h1]; rfl
   clear h1;by_cases he:xs.length % 2 = 0
   ·have he':((xs.length:Int) % 2 == 0) = true:=by simp; omega
    rw [decide_eq_true he] at HF;clear he;go_wp2;go_ret;exact ⟨by rw [<- HOK.out,HF.out]; go_num,hbel⟩
   ·have he':((xs.length:Int) % 2 == 0) = false:=by simp; omega
    rw [decide_eq_false he] at HF;clear he;go_wp2;go_ret;exact ⟨by rw [<- HOK.out,HF.out]; rfl,hbel⟩
end Go.Proofs.YtaofmfkcfmcmpaaGreatDoor
/- When a value is right but for its kids: the reference's l02Own. -/
namespace Go.Proofs.YtaofmfkcfmcmpaaGreatDoor
open Go.RowKit
open Go.Lib (validD)
theorem isE (s:List UInt8):s.isEmpty = decide (s = []):=by cases s <;> simp
theorem len0 (l:List V):((l.length:Int) == 0) = decide (l = []):=by
 cases l with
 | nil => rfl
 | cons a r => simp; omega
theorem len1 (l:List V):((l.length:Int) == 1) = decide (l.length = 1):=by rw [Bool.eq_iff_iff]; simp; omega
set_option maxHeartbeats 400000 in
theorem zfl (n e:Int) (w:World) (hn:i64ok n) (he:-1000 <= e /\ e <= 1000) :
  Calls Tryz.prog 85 #[.int .i64 n,.int .i64 e] w fun r w' => r = .returned (.bool (decide (0 < e) && fitsN e.toNat n)) /\ w = w':=by
 by_cases h:0 < e
 ·obtain ⟨k,rfl⟩:∃ k:Nat,e = k:=⟨e.toNat,by omega⟩
  refine (zfi n k w hn (by omega)).mono ?_;rintro r w' ⟨rfl,rfl⟩;exact ⟨zar (by rw [decide_eq_true (show 0 < k by omega),decide_eq_true h]; rfl),rfl⟩
 ·have H:=Lib.hid (show (decide (0 < e) && fitsN e.toNat n) = false by rw [decide_eq_false h]; rfl)
  have h2:¬ (0:Int) < e:=h
  go_enter Tryz.func85,Tryz.ntmps85
  go_wp2
  go_loopw [5] (fun i wr => i = .int .i64 0 /\ w = wr) (fun _ _ => 0)
  case atStart => exact ⟨rfl,rfl⟩
  case round =>
   obtain ⟨rfl,rfl⟩:=hrel;go_wp2;go_ret;exact ⟨by rw [H.out]; simp <;> omega,rfl⟩
set_option maxHeartbeats 4000000 in
set_option maxRecDepth 10000 in
theorem l02Own_any (x:V) (cs:List Value) (w:World) (h:Rd w x.d cs) (hwf:x.wf) (hbk:x.bulk <= 4294967295) :
  Calls Tryz.prog 69 #[.agg cs.toArray] w fun e w' => e = .returned (.bool x.self) /\ Below w.heap.size w w':=by
 obtain ⟨k,n,e,s,kids,v1,rfl,rfl,hkids⟩:=V.lay h;have hP:=Lib.hid (fun w1 (hb:Below w.heap.size w w1) => zfk kids v1 w1 (hkids.below hb) (by simp only [V.bulk] at hbk; omega));obtain ⟨a1,c1,rfl⟩:=Rd.sl_form hkids;rw [V.ds_map,List.length_map] at hP ⊢;have hsl:s.length <= 4294967295:=by simp only [V.bulk] at hbk; omega
 have hkl:kids.length <= 4294967295:=by simp only [V.bulk] at hbk; omega
 obtain ⟨hk,hn,he,_,_,_⟩:=hwf;obtain ⟨ok,hok⟩:∃ ok,V.self (.mk k n e s kids) = ok:=⟨_,rfl⟩;rw [hok];have hA:=(Below.refl w.heap.size w).alloc (Nat.le_refl _) (.cells #[.int .i64 k,.int .i64 n,.int .i64 e,.string ⟨s.toArray⟩,.slice a1 kids.length c1] 32);clear h hkids hbk;have HOK:=Lib.hid hok; clear hok
 have HA:=Lib.hid hA; clear hA; have hW0:=Lib.hid hn; clear hW0
 by_cases q7:k = 7
 ·subst q7
  go_enter Tryz.func69,Tryz.ntmps69
  go_wp2
  go_quiet (fail)
  go_wp2
  all_goals (go_ret; refine ⟨zar ?_,by first | exact Go.below_drewN ((Below.refl _ _).alloc (Nat.le_refl _) _) _ | exact zag (Go.below_drewN ((Below.refl _ _).alloc (Nat.le_refl _) _) _) (by assumption) (by first | exact Nat.le_refl _ | simp)⟩; rw [<- HOK.out]; simp_all [V.self,V.selfBy,isE] <;> (intros; omega))
 by_cases q0:k = 0
 ·subst q0
  go_enter Tryz.func69,Tryz.ntmps69
  go_wp2
  go_quiet (fail)
  go_wp2
  all_goals (go_ret; refine ⟨zar ?_,by first | exact Go.below_drewN ((Below.refl _ _).alloc (Nat.le_refl _) _) _ | exact zag (Go.below_drewN ((Below.refl _ _).alloc (Nat.le_refl _) _) _) (by assumption) (by first | exact Nat.le_refl _ | simp)⟩; rw [<- HOK.out]; simp_all [V.self,V.selfBy,len0] <;> (intros; omega))
 by_cases q1:k = 1
 ·subst q1
  go_enter Tryz.func69,Tryz.ntmps69
  go_wp2
  go_quiet (fail)
  go_wp2
  all_goals (go_ret; refine ⟨zar ?_,by first | exact Go.below_drewN ((Below.refl _ _).alloc (Nat.le_refl _) _) _ | exact zag (Go.below_drewN ((Below.refl _ _).alloc (Nat.le_refl _) _) _) (by assumption) (by first | exact Nat.le_refl _ | simp)⟩; rw [<- HOK.out]; simp_all [V.self,V.selfBy,len0] <;> (intros; omega))
 by_cases q2:k = 2
 ·subst q2
  go_enter Tryz.func69,Tryz.ntmps69
  go_wp2
  go_quiet (fail)
  go_wp2
  all_goals (go_ret; refine ⟨zar ?_,by first | exact Go.below_drewN ((Below.refl _ _).alloc (Nat.le_refl _) _) _ | exact zag (Go.below_drewN ((Below.refl _ _).alloc (Nat.le_refl _) _) _) (by assumption) (by first | exact Nat.le_refl _ | simp)⟩; rw [<- HOK.out]; simp_all [V.self,V.selfBy,len0] <;> (intros; omega))
 by_cases q3:k = 3
 ·subst q3
  go_enter Tryz.func69,Tryz.ntmps69
  go_wp2
  go_quiet (fail)
  go_wp2
  all_goals (go_ret; refine ⟨zar ?_,by first | exact Go.below_drewN ((Below.refl _ _).alloc (Nat.le_refl _) _) _ | exact zag (Go.below_drewN ((Below.refl _ _).alloc (Nat.le_refl _) _) _) (by assumption) (by first | exact Nat.le_refl _ | simp)⟩; rw [<- HOK.out]; simp_all [V.self,V.selfBy,len0] <;> (intros; omega))
 by_cases q6:k = 6
 ·subst q6
  by_cases hs2:s.length <= 2000
  ·skip
   go_enter Tryz.func69,Tryz.ntmps69
   go_wp2
   go_quiet (fail)
   go_wp2
   all_goals (go_ret; refine ⟨zar ?_,by first | exact Go.below_drewN ((Below.refl _ _).alloc (Nat.le_refl _) _) _ | exact zag (Go.below_drewN ((Below.refl _ _).alloc (Nat.le_refl _) _) _) (by assumption) (by first | exact Nat.le_refl _ | simp)⟩; rw [<- HOK.out]; simp_all [V.self,V.selfBy,len0] <;> (intros; omega))
  ·skip
   go_enter Tryz.func69,Tryz.ntmps69
   go_wp2
   go_quiet (fail)
   go_wp2
   all_goals (go_ret; refine ⟨zar ?_,by first | exact Go.below_drewN ((Below.refl _ _).alloc (Nat.le_refl _) _) _ | exact zag (Go.below_drewN ((Below.refl _ _).alloc (Nat.le_refl _) _) _) (by assumption) (by first | exact Nat.le_refl _ | simp)⟩; rw [<- HOK.out]; simp_all [V.self,V.selfBy] <;> (intros; omega))
 by_cases q5:k = 5
 ·subst q5
  by_cases hs2:s.length <= 2000
  ·skip
   go_enter Tryz.func69,Tryz.ntmps69
   go_wp2
   go_quiet (fail)
   go_wp2_with (go_at_call 86; refine (zdJ s _ hsl).mono ?_; rintro e1 w1 ⟨rfl,hb1⟩; have f3:w1.cell? ⟨w.heap.size,3,none⟩ = some (.string ⟨s.toArray⟩):=(by rw [(zaP hb1).1 _ _ (by simp)]; simp [go_sem]); have f4:w1.cell? ⟨w.heap.size,4,none⟩ = some (.slice a1 kids.length c1):=(by rw [(zaP hb1).1 _ _ (by simp)]; simp [go_sem]))
   all_goals (go_ret; refine ⟨zar ?_,by first | exact Go.below_drewN ((Below.refl _ _).alloc (Nat.le_refl _) _) _ | exact zag (Go.below_drewN ((Below.refl _ _).alloc (Nat.le_refl _) _) _) (by assumption) (by first | exact Nat.le_refl _ | simp)⟩; rw [<- HOK.out]; simp_all [V.self,V.selfBy,len0] <;> (intros; omega))
  ·skip
   go_enter Tryz.func69,Tryz.ntmps69
   go_wp2
   go_quiet (fail)
   go_wp2_with (go_at_call 86; refine (zdJ s _ hsl).mono ?_; rintro e1 w1 ⟨rfl,hb1⟩; have f3:w1.cell? ⟨w.heap.size,3,none⟩ = some (.string ⟨s.toArray⟩):=(by rw [(zaP hb1).1 _ _ (by simp)]; simp [go_sem]); have f4:w1.cell? ⟨w.heap.size,4,none⟩ = some (.slice a1 kids.length c1):=(by rw [(zaP hb1).1 _ _ (by simp)]; simp [go_sem]))
   all_goals (go_ret; refine ⟨zar ?_,by first | exact Go.below_drewN ((Below.refl _ _).alloc (Nat.le_refl _) _) _ | exact zag (Go.below_drewN ((Below.refl _ _).alloc (Nat.le_refl _) _) _) (by assumption) (by first | exact Nat.le_refl _ | simp)⟩; rw [<- HOK.out]; simp_all [V.self,V.selfBy] <;> (intros; omega))
 by_cases q8:k = 8
 ·subst q8
  go_enter Tryz.func69,Tryz.ntmps69
  go_wp2
  go_quiet (fail)
  go_wp2_with (go_at_call 87; refine (hP.out _ (Go.below_drewN ((Below.refl _ _).alloc (Nat.le_refl _) _) _)).mono ?_; rintro e1 w1 ⟨rfl,hb1⟩)
  all_goals (go_ret; refine ⟨zar ?_,by first | exact Go.below_drewN ((Below.refl _ _).alloc (Nat.le_refl _) _) _ | exact zag (Go.below_drewN ((Below.refl _ _).alloc (Nat.le_refl _) _) _) (by assumption) (by first | exact Nat.le_refl _ | simp)⟩; rw [<- HOK.out]; simp_all [V.self,V.selfBy] <;> (intros; omega))
 by_cases q9:k = 9
 ·subst q9
  go_enter Tryz.func69,Tryz.ntmps69
  go_wp2
  go_quiet (fail)
  go_wp2_with (go_at_call 83; refine (zaG _ _ _ _).mono ?_; rintro e1 w1 ⟨rfl,rfl⟩)
  all_goals (go_ret; refine ⟨zar ?_,by first | exact Go.below_drewN ((Below.refl _ _).alloc (Nat.le_refl _) _) _ | exact zag (Go.below_drewN ((Below.refl _ _).alloc (Nat.le_refl _) _) _) (by assumption) (by first | exact Nat.le_refl _ | simp)⟩; rw [<- HOK.out]; simp_all [V.self,V.selfBy,len1] <;> (intros; omega))
 by_cases q4:k = 4
 ·subst q4
  by_cases g1:Int.tmod n 10 = 0
  ·have g1':(Int.tmod n 10 != 0) = false:=by simpa using g1
   have H:=Lib.hid (show ok = false by rw [<- HOK.out]; simp [V.self,V.selfBy,decOk,g1])
   go_enter Tryz.func69,Tryz.ntmps69
   go_wp2
   go_quiet (fail)
   go_wp2;go_ret;exact ⟨by rw [H.out]; rfl,Go.below_drewN ((Below.refl _ _).alloc (Nat.le_refl _) _) _⟩
  ·have g1':(Int.tmod n 10 != 0) = true:=by simpa using g1
   by_cases g2:-20 <= e /\ e <= 20
   ·by_cases g3:e = 0
    ·subst g3
     have H:=Lib.hid (show ok = false by rw [<- HOK.out]; simp [V.self,V.selfBy,decOk])
     go_enter Tryz.func69,Tryz.ntmps69
     go_wp2
     go_quiet (fail)
     go_wp2_with (go_at_call 83; refine (zaG _ _ _ _).mono ?_; rintro e1 w1 ⟨rfl,rfl⟩)
     all_goals (go_ret; exact ⟨by rw [H.out]; rfl,Go.below_drewN ((Below.refl _ _).alloc (Nat.le_refl _) _) _⟩)
    ·have g3':(e == 0) = false:=by simpa using g3
     by_cases g4:-999999999999999999 <= n /\ n <= 999999999999999999
     ·by_cases g5:s = []
      ·subst g5
       by_cases g6:kids = []
       ·subst g6
        have H:=Lib.hid (show ok = !(decide (0 < e) && fitsN e.toNat n) by rw [<- HOK.out]; simp [V.self,V.selfBy,decOk,zaF g2,zaF g4,g1,g3])
        go_enter Tryz.func69,Tryz.ntmps69
        go_wp2
        go_quiet (fail)
        go_wp2_with (first | (go_at_call 83; refine (zaG _ _ _ _).mono ?_; rintro e1 w1 ⟨rfl,rfl⟩; first | rw [zaF g2] | rw [zaF g4]) | (go_at_call 85; refine (zfl n e _ hn (by omega)).mono ?_; rintro e1 w1 ⟨rfl,rfl⟩))
        go_ret;exact ⟨by rw [H.out]; simp,Go.below_drewN ((Below.refl _ _).alloc (Nat.le_refl _) _) _⟩
       ·have H:=Lib.hid (show ok = false by rw [<- HOK.out]; simp [V.self,V.selfBy,g6])
        have g6':((kids.length:Int) == 0) = false:=by rw [len0,decide_eq_false g6]
        go_enter Tryz.func69,Tryz.ntmps69
        go_wp2
        go_quiet (fail)
        go_wp2_with (first | (go_at_call 83; refine (zaG _ _ _ _).mono ?_; rintro e1 w1 ⟨rfl,rfl⟩; first | rw [zaF g2] | rw [zaF g4]))
        go_ret;exact ⟨by rw [H.out]; rfl,Go.below_drewN ((Below.refl _ _).alloc (Nat.le_refl _) _) _⟩
      ·have H:=Lib.hid (show ok = false by rw [<- HOK.out]; simp [V.self,V.selfBy,g5])
       have g5':s.isEmpty = false:=by rw [isE,decide_eq_false g5]
       go_enter Tryz.func69,Tryz.ntmps69
       go_wp2
       go_quiet (fail)
       go_wp2_with (first | (go_at_call 83; refine (zaG _ _ _ _).mono ?_; rintro e1 w1 ⟨rfl,rfl⟩; first | rw [zaF g2] | rw [zaF g4]))
       go_ret;exact ⟨by rw [H.out]; rfl,Go.below_drewN ((Below.refl _ _).alloc (Nat.le_refl _) _) _⟩
     ·have H:=Lib.hid (show ok = false by rw [<- HOK.out]; simp [V.self,V.selfBy,decOk,za2 g4])
      go_enter Tryz.func69,Tryz.ntmps69
      go_wp2
      go_quiet (fail)
      go_wp2_with (first | (go_at_call 83; refine (zaG _ _ _ _).mono ?_; rintro e1 w1 ⟨rfl,rfl⟩; first | rw [za2 g4] | rw [zaF g2]))
      go_ret;exact ⟨by rw [H.out]; rfl,Go.below_drewN ((Below.refl _ _).alloc (Nat.le_refl _) _) _⟩
   ·have H:=Lib.hid (show ok = false by rw [<- HOK.out]; simp [V.self,V.selfBy,decOk,za2 g2])
    have H2:=Lib.hid (za2 g2)
    go_enter Tryz.func69,Tryz.ntmps69
    go_wp2
    go_quiet (fail)
    go_wp2_with (go_at_call 83; refine (zaG _ _ _ _).mono ?_; rintro e1 w1 ⟨rfl,rfl⟩; try rw [H2.out])
    all_goals (go_ret; exact ⟨by rw [H.out]; rfl,Go.below_drewN ((Below.refl _ _).alloc (Nat.le_refl _) _) _⟩)
 have H:=Lib.hid (show ok = false by rw [<- HOK.out]; simp [V.self,V.selfBy,q0,q1,q2,q3,q4,q5,q6,q7,q8,q9])
 go_enter Tryz.func69,Tryz.ntmps69
 go_wp2
 go_quiet (fail)
 go_wp2
 all_goals (go_ret; exact ⟨by rw [H.out]; rfl,Go.below_drewN ((Below.refl _ _).alloc (Nat.le_refl _) _) _⟩)
end Go.Proofs.YtaofmfkcfmcmpaaGreatDoor
/- When a value is right: the reference's l02Right, Nodes and ValueOk. -/
namespace Go.Proofs.YtaofmfkcfmcmpaaGreatDoor
open Go.RowKit
def VRtA (n:Nat):Prop:=∀ (x:V) (cs:List Value) (d:Int) (w:World),x.nodes <= n -> Rd w x.d cs -> x.wf -> x.bulk <= 4294967295 -> -1000 <= d -> d <= 1000 ->
 Calls Tryz.prog 54 #[.agg cs.toArray,.int .i64 d] w fun e w' => e = .returned (.bool (V.rightBy pairsOk d x)) /\ Below w.heap.size w w'
theorem V.rights_false {q:List V -> Bool} {d:Int} {xs:List V} (k:Nat) (hk:k < xs.length) (h:V.rightBy q d xs[k] = false):V.rightsBy q d xs = false:=by
 rw [V.rightsBy_all]; apply Bool.eq_false_iff.2; intro hh
 rw [List.all_eq_true] at hh
 have:=hh xs[k] (List.getElem_mem hk); rw [h] at this; cases this
theorem V.rights_snoc {q:List V -> Bool} {d:Int} {xs:List V} (k:Nat) (hk:k < xs.length) (h:V.rightsBy q d (xs.take k) = true) (h2:V.rightBy q d xs[k] = true):V.rightsBy q d (xs.take (k + 1)) = true:=by
 rw [List.take_succ_eq_append_getElem hk,V.rightsBy_all,List.all_append]; rw [V.rightsBy_all] at h; rw [h]; simp [h2]
theorem V.nodes_split (xs:List V) (k:Nat) (hk:k < xs.length):V.nodess (xs.take (k + 1)) = V.nodess (xs.take k) + xs[k].nodes:=by
 rw [List.take_succ_eq_append_getElem hk]
 have hn:∀ (ls:List V) (x:V),V.nodess (ls ++ [x]) = V.nodess ls + x.nodes:=by
  intro ls x; induction ls with
  | nil => simp [V.nodess]
  | cons a ls ih => simp only [List.cons_append,V.nodess,ih]; omega
 exact hn _ _
theorem V.nodess_take:∀ (xs:List V) (k:Nat),V.nodess (xs.take k) <= V.nodess xs
 | [],k => by simp [V.nodess]
 | x :: xs,0 => by simp [V.nodess]
 | x :: xs,k + 1 => by have:=V.nodess_take xs k; simp only [List.take_succ_cons,V.nodess]; omega
mutual
theorem V.nodes_bulk:∀ x:V,x.nodes <= x.bulk + 1
 | .mk _ _ _ s kids => by have:=V.nodess_bulks kids; simp only [V.nodes,V.bulk]; omega
theorem V.nodess_bulks:∀ xs:List V,V.nodess xs <= xs.length + V.bulks xs
 | [] => by simp [V.nodess]
 | x :: xs => by have:=V.nodes_bulk x; have:=V.nodess_bulks xs; simp only [V.nodess,V.bulks,List.length_cons]; omega
end
theorem V.bulk_get' {ls:List V} {m:Nat} (h:ls.length + V.bulks ls <= m) (k:Nat) (hk:k < ls.length):ls[k].bulk <= m:=by
 have h1:=V.bulks_snoc ls k hk; have h2:=V.bulks_take ls (k + 1); omega
set_option maxHeartbeats 2000000 in
set_option maxRecDepth 10000 in
theorem VRtA_of {n:Nat} (hA:VRtA n):VRtA (n + 1):=by
 intro x cs d w hn h hwf hbk hd1 hd2;have HO:=Lib.hid (fun w1 (hb:Below w.heap.size w w1) => l02Own_any x cs w1 (h.below hb) hwf hbk);obtain ⟨k,m,e,s,kids,v1,rfl,rfl,hkids⟩:=V.lay h;have hnk:V.nodess kids <= n:=by simp only [V.nodes] at hn; omega
 have hkw:V.wfs kids:=hwf.2.2.2.2.2;have hkb:kids.length + V.bulks kids <= 4294967295:=by simp only [V.bulk] at hbk; omega
 obtain ⟨a2,c2,rfl,hg⟩:=hkids.values;obtain ⟨ok,hok⟩:∃ ok,V.rightBy pairsOk d (.mk k m e s kids) = ok:=⟨_,rfl⟩;rw [hok];have HOK:=Lib.hid hok; clear hok
 obtain ⟨W0,hW0⟩:∃ W0,W0 = w.alloc (.cells #[.int .i64 k,.int .i64 m,.int .i64 e,.string ⟨s.toArray⟩,.slice a2 kids.length c2] 32):=⟨_,rfl⟩;have HW:=Lib.hid hW0;have hA0:Below w.heap.size w W0:=by rw [hW0]; exact (Below.refl _ _).alloc (Nat.le_refl _) _
 have hz:w.heap.size < W0.heap.size:=by rw [hW0]; simp
 have KB:Hid (∀ W,Below W0.heap.size W0 W -> W.cell? ⟨w.heap.size,0,none⟩ = some (.int .i64 k) /\ W.cell? ⟨w.heap.size,1,none⟩ = some (.int .i64 m) /\ W.cell? ⟨w.heap.size,2,none⟩ = some (.int .i64 e) /\ W.cell? ⟨w.heap.size,3,none⟩ = some (.string ⟨s.toArray⟩) /\ W.cell? ⟨w.heap.size,4,none⟩ = some (.slice a2 kids.length c2)):=by
  intro W hb;obtain ⟨hc,_⟩:=zaP hb;simp only [hc _ _ hz]; subst hW0; simp
 clear hW0 h hkids hwf hbk;obtain ⟨f0,f1,f2,f3,f4⟩:=KB.out _ (Below.refl _ _);by_cases hd0:d < 0
 ·have HF:=Lib.hid (show ok = false by rw [<- HOK.out]; simp only [V.rightBy]; rw [decide_eq_false (show ¬ 0 <= d by omega)]; simp)
  go_enter Tryz.func54,Tryz.ntmps54
  go_wp2;rw [<- HW.out];go_ret;exact ⟨by rw [HF.out]; rfl,hA0⟩
 have D0:=Lib.hid (decide_eq_true (show 0 <= d by omega))
 cases hs:V.self (.mk k m e s kids) with
 | false =>
  have HS:=Lib.hid hs;have HF:=Lib.hid (show ok = false by rw [<- HOK.out]; simp only [V.rightBy]; rw [show V.selfBy pairsOk (.mk k m e s kids) = false from hs]; simp);clear hs
  go_enter Tryz.func54,Tryz.ntmps54
  go_wp2_with (go_at_call 69; rw [<- HW.out]; refine (HO.out _ hA0).mono ?_; rw [HS.out]; rintro e w1 ⟨rfl,hb1⟩)
  go_ret
  exact ⟨by rw [HF.out]; rfl,zag hA0 hb1 (Nat.le_refl _)⟩
 | true =>
 have HS:=Lib.hid hs;have HF0:=Lib.hid (show ok = V.rightsBy pairsOk (d - 1) kids by rw [<- HOK.out]; simp only [V.rightBy]; rw [show V.selfBy pairsOk (.mk k m e s kids) = true from hs,D0.out]; simp);clear hs
 go_enter Tryz.func54,Tryz.ntmps54
 go_wp2_with (go_at_call 69; rw [<- HW.out]; refine (HO.out _ hA0).mono ?_; rw [HS.out]; rintro e w1 ⟨rfl,hb1⟩)
 go_loopw [5] (fun i wr => ∃ (j:Nat),j <= kids.length /\ i = .int .i64 j /\ V.rightsBy pairsOk (d - 1) (kids.take j) = true /\ Below W0.heap.size W0 wr) (fun i _ => kids.length - (intOf i).toNat)
 case atStart => exact ⟨0,Nat.zero_le _,rfl,by simp [V.rightsBy],hb1⟩
 case round =>
  obtain ⟨j,hj,rfl,hr,hbel⟩:=hrel;have HR:=Lib.hid hr; clear hr f0 f1 f2 f3 f4
  obtain ⟨f0,f1,f2,f3,f4⟩:=KB.out _ hbel;have hbw:=zag hA0 hbel (Nat.le_refl _);by_cases hlt:j < kids.length
  ·obtain ⟨_,_,b,o,rfl,hb,hcell⟩:=hg (by intro e; rw [e] at hlt; simp at hlt)
   obtain ⟨v0,v1,v2,v3,v4,hr,d0,d1,d2,d3,d4⟩:=hcell j hlt;clear hcell hg;obtain ⟨k1,k2,k3,s4,a6,n6,m6,hcs⟩:=V.form hr;simp only [List.cons.injEq,and_true] at hcs;obtain ⟨rfl,rfl,rfl,rfl,rfl⟩:=hcs;have hbc:=(zaP hbw).1;rw [<- hbc _ _ hb] at d0 d1 d2 d3 d4;clear hbc;have hi1:(0:Int) <= j:=by omega
   have hi3:(j:Int) < kids.length:=by omega
   have hn1:=V.nodes_get kids j hlt;have HC:=Lib.hid (hA kids[j] _ (d - 1) wr (Nat.le_trans hn1 hnk) (hr.below hbw) (V.wfs_get hkw j hlt) (V.bulk_get' hkb j hlt) (by omega) (by omega))
   cases hv:V.rightBy pairsOk (d - 1) kids[j] with
   | true =>
    have HV:=Lib.hid hv;have HS2:=Lib.hid (V.rights_snoc j hlt HR.out hv);clear hv
    go_wp2_with (go_at_call 54; refine HC.out.mono ?_; rw [HV.out]; rintro e w2 ⟨rfl,hb2⟩)
    go_roundw
    case rel => exact ⟨j + 1,by omega,by go_num,HS2.out,zag hbel hb2 (Nat.le_refl _)⟩
    case measure => simp [intOf]; omega
   | false =>
    have HV:=Lib.hid hv;have HF:=Lib.hid (show ok = false by rw [HF0.out]; exact V.rights_false j hlt hv);clear hv
    go_wp2_with (go_at_call 54; refine HC.out.mono ?_; rw [HV.out]; rintro e w2 ⟨rfl,hb2⟩)
    go_ret;exact ⟨by rw [HF.out]; rfl,zag hbw hb2 (Nat.le_refl _)⟩
  ·obtain rfl:j = kids.length:=by omega
   have h1:=HR.out;rw [List.take_length] at h1;have HF:=Lib.hid (show ok = true by rw [HF0.out]; exact h1);clear h1;go_wp2;go_ret;exact ⟨by rw [HF.out]; rfl,hbw⟩
theorem VRt_all:∀ n,VRtA n
 | 0 => fun x cs d w hn => absurd x.nodes_pos (by omega)
 | n + 1 => VRtA_of (VRt_all n)
def VMnA (n:Nat):Prop:=∀ (x:V) (cs:List Value) (w:World),x.nodes <= n -> Rd w x.d cs -> x.bulk <= 4294967295 ->
 Calls Tryz.prog 55 #[.agg cs.toArray] w fun e w' => e = .returned (.int .i64 (x.nodes:Nat)) /\ Below w.heap.size w w'
set_option maxHeartbeats 2000000 in
set_option maxRecDepth 10000 in
theorem VMnA_of {n:Nat} (hA:VMnA n):VMnA (n + 1):=by
 intro x cs w hn h hbk;obtain ⟨k,m,e,s,kids,v1,rfl,rfl,hkids⟩:=V.lay h;have hnk:V.nodess kids <= n:=by simp only [V.nodes] at hn; omega
 have hkb:kids.length + V.bulks kids <= 4294967295:=by simp only [V.bulk] at hbk; omega
 have hnb:=V.nodess_bulks kids;obtain ⟨a2,c2,rfl,hg⟩:=hkids.values;obtain ⟨W0,hW0⟩:∃ W0,W0 = w.alloc (.cells #[.int .i64 k,.int .i64 m,.int .i64 e,.string ⟨s.toArray⟩,.slice a2 kids.length c2] 32):=⟨_,rfl⟩;have HW:=Lib.hid hW0;have hA0:Below w.heap.size w W0:=by rw [hW0]; exact (Below.refl _ _).alloc (Nat.le_refl _) _
 have hz:w.heap.size < W0.heap.size:=by rw [hW0]; simp
 have KB:Hid (∀ W,Below W0.heap.size W0 W -> W.cell? ⟨w.heap.size,4,none⟩ = some (.slice a2 kids.length c2)):=by
  intro W hb;obtain ⟨hc,_⟩:=zaP hb;simp only [hc _ _ hz]; subst hW0; simp
 clear hW0 h hkids hbk
 go_enter Tryz.func55,Tryz.ntmps55
 go_wp2;rw [<- HW.out]
 go_loopw [3,4] (fun x i wr => ∃ (j:Nat),j <= kids.length /\ i = .int .i64 j /\ x = .int .i64 (1 + V.nodess (kids.take j):Nat) /\ Below W0.heap.size W0 wr) (fun _ i _ => kids.length - (intOf i).toNat)
 case atStart => exact ⟨0,Nat.zero_le _,rfl,by simp [V.nodess],Below.refl _ _⟩
 case round =>
  obtain ⟨j,hj,rfl,rfl,hbel⟩:=hrel;have f5:=KB.out _ hbel;have hbw:=zag hA0 hbel (Nat.le_refl _);by_cases hlt:j < kids.length
  ·obtain ⟨_,_,b,o,rfl,hb,hcell⟩:=hg (by intro e; rw [e] at hlt; simp at hlt)
   obtain ⟨v0,v1,v2,v3,v4,hr,d0,d1,d2,d3,d4⟩:=hcell j hlt;clear hcell hg;obtain ⟨k1,k2,k3,s4,a6,n6,m6,hcs⟩:=V.form hr;simp only [List.cons.injEq,and_true] at hcs;obtain ⟨rfl,rfl,rfl,rfl,rfl⟩:=hcs;have hbc:=(zaP hbw).1;rw [<- hbc _ _ hb] at d0 d1 d2 d3 d4;clear hbc;have hi1:(0:Int) <= j:=by omega
   have hi3:(j:Int) < kids.length:=by omega
   have hn1:=V.nodes_get kids j hlt;have HC:=Lib.hid (hA kids[j] _ wr (Nat.le_trans hn1 hnk) (hr.below hbw) (V.bulk_get' hkb j hlt));have HS:=Lib.hid (V.nodes_split kids j hlt);have ht1:=V.nodess_take kids j;obtain ⟨q,hq⟩:∃ q,V.nodess (kids.take j) = q:=⟨_,rfl⟩;rw [hq] at HS ht1 ⊢;clear hq;obtain ⟨p,hp⟩:∃ p,kids[j].nodes = p:=⟨_,rfl⟩;rw [hp] at HS hn1 HC;clear hp
   go_wp2_with (go_at_call 55; refine HC.out.mono ?_; rintro e w1 ⟨rfl,hb1⟩)
   go_roundw
   case rel => exact ⟨j + 1,by omega,by go_num,by rw [HS.out]; go_num,zag hbel hb1 (Nat.le_refl _)⟩
   case measure => simp [intOf]; omega
  ·obtain rfl:j = kids.length:=by omega
   rw [List.take_length];go_wp2;go_ret;exact ⟨rfl,hbw⟩
theorem VMn_all:∀ n,VMnA n
 | 0 => fun x cs w hn => absurd x.nodes_pos (by omega)
 | n + 1 => VMnA_of (VMn_all n)
set_option maxHeartbeats 400000 in
set_option maxRecDepth 10000 in
theorem zfm (x:V) (cs:List Value) (w:World) (h:Rd w x.d cs) (hwf:x.wf) (hbk:x.bulk <= 4294967295) :
  Calls Tryz.prog 30 #[.agg cs.toArray] w fun e w' => e = .returned (.bool x.ok) /\ Below w.heap.size w w':=by
 obtain ⟨k,m,e,s,a2,n2,c2,rfl⟩:=V.form h;obtain ⟨W0,hW0⟩:∃ W0,W0 = w.alloc (.cells #[.int .i64 k,.int .i64 m,.int .i64 e,.string ⟨s.toArray⟩,.slice a2 n2 c2] 32):=⟨_,rfl⟩;have HW:=Lib.hid hW0;have hA:Below w.heap.size w W0:=by rw [hW0]; exact (Below.refl _ _).alloc (Nat.le_refl _) _
 have hz:w.heap.size < W0.heap.size:=by rw [hW0]; simp
 have KB:Hid (∀ W,Below W0.heap.size W0 W -> W.cell? ⟨w.heap.size,0,none⟩ = some (.int .i64 k) /\ W.cell? ⟨w.heap.size,1,none⟩ = some (.int .i64 m) /\ W.cell? ⟨w.heap.size,2,none⟩ = some (.int .i64 e) /\ W.cell? ⟨w.heap.size,3,none⟩ = some (.string ⟨s.toArray⟩) /\ W.cell? ⟨w.heap.size,4,none⟩ = some (.slice a2 n2 c2)):=by
  intro W hb;obtain ⟨hc,_⟩:=zaP hb;simp only [hc _ _ hz]; subst hW0; simp
 have hnb:=x.nodes_bulk;have HR:=Lib.hid (fun W (hb:Below W0.heap.size W0 W) => VRt_all x.nodes x _ 12 W (Nat.le_refl _) (h.below (zag hA hb (Nat.le_refl _))) hwf hbk (by decide) (by decide));have HM:=Lib.hid (fun W (hb:Below W0.heap.size W0 W) => VMn_all x.nodes x _ W (Nat.le_refl _) (h.below (zag hA hb (Nat.le_refl _))) hbk);have hB:=Below.refl W0.heap.size W0;clear hW0 h
 go_enter Tryz.func30,Tryz.ntmps30
 cases hr:V.rightBy pairsOk 12 x with
 | true =>
  have HV:=Lib.hid hr; clear hr
  go_wp2_with (first | (go_at_call 54; rw [<- HW.out]; refine (HR.out _ hB).mono ?_; rw [HV.out]; rintro e w1 ⟨rfl,hb1⟩; obtain ⟨p0,p1,p2,p3,p4⟩:=KB.out _ hb1) | (go_at_call 55; refine (HM.out _ hb1).mono ?_; rintro e w2 ⟨rfl,hb2⟩))
  go_ret;refine ⟨zar ?_,zag hA (zag hb1 hb2 (Nat.le_refl _)) (Nat.le_refl _)⟩
  unfold V.ok; rw [HV.out,Bool.true_and,Bool.eq_iff_iff]; simp; omega
 | false =>
  have HV:=Lib.hid hr; clear hr
  go_wp2_with (first | (go_at_call 54; rw [<- HW.out]; refine (HR.out _ hB).mono ?_; rw [HV.out]; rintro e w1 ⟨rfl,hb1⟩))
  go_ret;refine ⟨zar ?_,zag hA hb1 (Nat.le_refl _)⟩;unfold V.ok; rw [HV.out]; rfl
end Go.Proofs.YtaofmfkcfmcmpaaGreatDoor
namespace Go.Proofs.YtaofmfkcfmcmpaaGreatDoor
open Go.RowKit
set_option maxHeartbeats 4000000
set_option maxRecDepth 100000
open List
section
variable {T:World -> Prop} {hT:Low ngl T}
theorem zfn (v:V) (hw:v.wf) (hb:v.bulk <= 4294967295):FnV (env T hT) 30 [.ag (vC v)] (.d (pB v.ok)):=by
 refine FnV.old rfl fun w C vs hF _ _ hlen hv => ?_
 match vs,hlen with
 | [a],_ =>
  have h0:=hv 0 _ _ rfl rfl;rw [<- V.pc_eq] at h0;obtain ⟨cs,rfl,h1⟩:=vRd hF (V.wfd v) h0;exact zfm v cs w h1 hw hb
end
section
end
section
end
section
theorem strRow_of {C:Cx} {w:World} {st:List (L8)} {v:Value} (h:RpV C w (.d (pSs st)) v):StrRow w v st:=by
 obtain ⟨es,hes⟩:∃ es,es = pSr st:=⟨_,rfl⟩;have hl:es.length = st.length:=by rw [hes,za6]
 have h:RpV C w (.d (.sl 0 es)) v:=by rw [hes]; exact h
 cases h with
 | d _ _ h =>
  cases h with
  | emp a c =>
   have hb:st = []:=length_eq_zero_iff.1 (by rw [<- hl]; rfl);subst hb
   exact ⟨a,c,rfl,fun h => absurd rfl h⟩
  | nilo _ h2 _ _ => omega
  | own _ _ _ _ h2 _ _ _ _ _ _ _ => omega
  | rd _ k o n c u h1 h2 hr h3 =>
   refine ⟨some ⟨k,o,none⟩,c,by rw [hl],fun _ => ⟨k,o,rfl,fun j hj => ?_⟩⟩;have he:es[j]? = some [pS st[j]]:=by rw [hes]; exact zfU hj
   have hn:n = 1:=by
    have:=hr.wid _ (mem_of_getElem? he)
    rw [<- this]; rfl
   subst hn;have hc:=hr.cell j 0 (by omega) (by omega);have hv:=h3 j 0 _ _ he rfl
   have hu:u j 0 = .string ⟨st[j].toArray⟩:=by
    generalize u j 0 = z at hv
    cases hv; rfl
   rw [hu,Nat.one_mul,Nat.add_zero] at hc;exact hc
section
variable {E:Env} {K:St -> Prop} {tm:Nat -> PV} {bx:LP PC} {nt d k lo f:Nat} {live live':List Nat} {r:List MOpr} {x:X} {L:List Value} {c:PC} {y:Value}
end
end
section
variable {T:World -> Prop} {hT:Low ngl T}
attribute [local irreducible] po mw pt
theorem pSr_tl (s:L8) (r:List (L8)):((pSr (s :: r)).drop 1).take ((pSr (s :: r)).length - 1) = pSr r:=by
 rw [<- length_drop,take_length]; rfl
theorem zdN (v x:V) (st:List (L8)) (b:Bool):PV.dats [.ag (vC v),.d (.sl 0 (pSr st)),.ag (vC x),.d (pB b)] = some [.ag (vC v),.d (pSs st),.ag (vC x),.d (pB b)]:=by
 show some [PV.ag (erL (vC v)),.d (.sl 0 (erLL (pSr st))),.ag (erL (vC x)),.d (pB b)] = _;rw [zai,zai,zd6]; rfl
theorem vs_arg (v:V) (st:List (L8)):PV.dats [.ag (vC v),.d (.sl 0 (pSr st))] = some [.ag (vC v),.d (pSs st)]:=by
 show some [PV.ag (erL (vC v)),.d (.sl 0 (erLL (pSr st)))] = _;rw [zai,zd6]; rfl
theorem vik_arg (v k:V) (i:Int):PV.dats [.ag (vC v),.d (pI i),.ag (vC k)] = some [.ag (vC v),.d (pI i),.ag (vC k)]:=by
 show some [PV.ag (erL (vC v)),.d (pI i),.ag (erL (vC k))] = _;rw [zai,zai]
theorem zdO (v:V) (s:L8):PV.dats [.ag (vC v),.d (pS s)] = some [.ag (vC v),.d (pS s)]:=by
 show some [PV.ag (erL (vC v)),.d (pS s)] = _;rw [zai]
def L8K1 (v x:V) (ki:Int) (pr:V × Bool) (s:St):Prop:=has s.tm [(4,.ref 0 0),(8,.ref 2 0),(10,.d (pI ki)),(11,.ref 3 0),(12,.d (pB pr.2))] /\ s.bx = [vC v,vC x,[pI 0,pI 0,pI 0,pS [],.sl 1 []],vC pr.1]
def L8K2 (v:V) (ki:Int) (pr:V × Bool) (s:St):Prop:=has s.tm [(2,.ref 0 0),(4,.ref 1 0),(6,.d (pI ki)),(7,.ref 2 0),(8,.d (pB pr.2))] /\ s.bx = [vC v,[pI 0,pI 0,pI 0,pS [],.sl 1 []],vC pr.1]
theorem putS_fn:∀ (st:List (L8)) (v x:V) (ahead:Bool) (S:Nat),v.wf -> x.wf -> (∀ s ∈ st,s.length <= S) -> v.bulk + x.bulk + S + 2 <= 2147483647 -> st.length <= 2147483647 -> FnV (env T hT) 48 [.ag (vC v),.d (pSs st),.ag (vC x),.d (pB ahead)] (.tup [.ag (vC (putS v st x ahead).1),.d (pB (putS v st x ahead).2)]):=by
 intro st
 induction st with
 | nil =>
  intro v x ahead S hv hx hs hb hl;refine zaU (zaf zdC) (by show 4 <= 70; decide) fun B hB => ?_
  unfold m_s_l08Put;refine mO ?_;refine zal (cs:=vC v) rfl ?_;refine zal (cs:=vC x) rfl ?_;refine mN ?_;refine mM ?_;refine mS ?_;refine zay (n:=0) rfl rfl rfl ?_;refine zah rfl rfl rfl ?_;refine mT ?_;refine mO ?_;refine zaa (p:=1) (cs:=vC x) rfl rfl rfl rfl ?_;refine zac (zax x) (za8 (T:=T) (hT:=hT) x hx (by omega)) ?_;refine zad (p:=2) (cs:=vC x) rfl rfl rfl rfl rfl rfl ?_;refine mN ?_
  exact zab ⟨.inr rfl,[.ag (vC x),.d (pB true)],rfl,congrArg (fun l => some (PV.tup [.ag l,.d (pB true)])) (zai x)⟩
 | cons s r ih =>
  intro v x ahead S hv hx hs hb hl;have hsl:s.length <= 2147483647:=by have:=hs s (by simp); omega
  have hrl:r.length <= 2147483646:=by rw [length_cons] at hl; omega
  have hkl:v.kids.length <= 4294967290:=by have h:=hb; rw [V.bulk_eq v] at h; omega
  refine zaU (zaf zdC) (by show 4 <= 70; decide) fun B hB => ?_
  unfold m_s_l08Put;refine mO ?_;refine zal (cs:=vC v) rfl ?_;refine zal (cs:=vC x) rfl ?_;refine mN ?_;refine mM ?_;refine mS ?_;refine zay (n:=r.length + 1) rfl rfl (by rw [za6]; rfl) ?_;refine zan rfl rfl (beq_eq_false_iff_ne.2 (by omega)) ?_;refine mK ?_;refine mO ?_;refine zaa (p:=0) (cs:=vC v) rfl rfl rfl rfl ?_;refine mS ?_;refine za5 (es:=pSr (s :: r)) (e:=[pS s]) rfl rfl rfl ⟨by decide,rfl⟩ rfl ?_;refine mS ?_;refine zac (args:=[.ag (vC v),.d (pS s)]) (zdO v s) (zf9 (T:=T) (hT:=hT) v s (by omega) hsl) ?_;refine mN ?_;refine zaS (fun st' => (0 <= kidI v s /\ ¬ (r = [] /\ ahead = true /\ v.kind = 7)) /\ has st'.tm [(1,.d (pSs (s :: r))),(3,.d (pB ahead)),(4,.ref 0 0),(6,.ref 1 0),(8,.ref 2 0),(10,.d (pI (kidI v s)))] /\ st'.bx = [vC v,vC x,[pI 0,pI 0,pI 0,pS [],.sl 1 []]]) ?_ ?_
  ·refine mQ ?_
   by_cases hk:kidI v s < 0
   ·have hno:¬ (0 <= kidI v s /\ ¬ (r = [] /\ ahead = true /\ v.kind = 7)):=fun h => by omega
    refine zah rfl rfl (decide_eq_true hk) ?_;refine mS ?_;refine mZ ?_;refine mT ?_
    cases r with
    | nil =>
     have hpn:putS v [s] x ahead = newS v s x ahead:=by rw [putS,dif_neg hno,if_pos rfl]
     refine mM ?_;refine mS ?_;refine zay (n:=1) rfl rfl rfl ?_;refine zan rfl rfl rfl ?_;refine mK ?_;refine mO ?_;refine zaa (p:=0) (cs:=vC v) rfl rfl rfl rfl ?_;refine mS ?_;refine za5 (es:=pSr [s]) (e:=[pS s]) rfl rfl rfl ⟨by decide,rfl⟩ rfl ?_;refine mS ?_;refine zaa (p:=1) (cs:=vC x) rfl rfl rfl rfl ?_;refine mS ?_;refine zac (zax x) (za8 (T:=T) (hT:=hT) x hx (by omega)) ?_
     refine zac (args:=[.ag (vC v),.d (pS s),.ag (vC x),.d (pB ahead)]) (by
      show some [PV.ag (erL (vC v)),.d (pS s),.ag (erL (vC x)),.d (pB ahead)] = _;rw [zai,zai]) (newS_fn (T:=T) (hT:=hT) v x s ahead (by omega) hsl) ?_
     rw [<- hpn];generalize putS v [s] x ahead = pr;(iterate 2 refine mS ?_);refine zad (p:=2) (cs:=vC pr.1) rfl rfl rfl rfl rfl rfl ?_;refine mN ?_
     exact zab ⟨.inr rfl,[.ag (vC pr.1),.d (pB pr.2)],rfl,congrArg (fun l => some (PV.tup [.ag l,.d (pB pr.2)])) (zai _)⟩
    | cons s2 r2 =>
     have hpn:putS v (s :: s2 :: r2) x ahead = (v,false):=by rw [putS,dif_neg hno,if_neg (by simp)]
     refine mM ?_;refine mS ?_;refine zay (n:=r2.length + 2) rfl rfl (by rw [za6]; rfl) ?_;refine zah rfl rfl (decide_eq_true (by omega)) ?_;refine mT ?_;refine mO ?_;refine zaa (p:=0) (cs:=vC v) rfl rfl rfl rfl ?_;refine zad (p:=2) (cs:=vC v) rfl rfl rfl rfl rfl rfl ?_;refine mN ?_;rw [hpn];exact zab ⟨.inr rfl,[.ag (vC v),.d (pB false)],rfl,congrArg (fun l => some (PV.tup [.ag l,.d (pB false)])) (zai v)⟩
   refine zan rfl rfl (decide_eq_false hk) ?_;(iterate 2 refine mS ?_);refine zay (n:=r.length + 1) rfl rfl (by rw [za6]; rfl) ?_
   cases r with
   | nil =>
    refine zah rfl rfl rfl ?_;(iterate 4 refine mS ?_)
    cases ahead with
    | false =>
     refine mZ ?_;refine mK ?_
     exact ⟨⟨by omega,fun h => Bool.noConfusion h.2.1⟩,⟨rfl,rfl,rfl,rfl,rfl,rfl,trivial⟩,rfl⟩
    | true =>
     (iterate 2 refine mS ?_);by_cases h7:v.kind = 7
     ·have hpn:putS v [s] x true = newS v s x true:=by rw [putS,dif_neg (fun h => h.2 ⟨rfl,rfl,h7⟩),if_pos rfl]
      refine zah rfl rfl (beq_iff_eq.2 h7) ?_;refine mT ?_;refine mM ?_;refine mS ?_;refine zay (n:=1) rfl rfl rfl ?_;refine zan rfl rfl rfl ?_;refine mK ?_;refine mO ?_;refine zaa (p:=0) (cs:=vC v) rfl rfl rfl rfl ?_;refine mS ?_;refine za5 (es:=pSr [s]) (e:=[pS s]) rfl rfl rfl ⟨by decide,rfl⟩ rfl ?_;refine mS ?_;refine zaa (p:=1) (cs:=vC x) rfl rfl rfl rfl ?_;refine mS ?_;refine zac (zax x) (za8 (T:=T) (hT:=hT) x hx (by omega)) ?_
      refine zac (args:=[.ag (vC v),.d (pS s),.ag (vC x),.d (pB true)]) (by
       show some [PV.ag (erL (vC v)),.d (pS s),.ag (erL (vC x)),.d (pB true)] = _;rw [zai,zai]) (newS_fn (T:=T) (hT:=hT) v x s true (by omega) hsl) ?_
      rw [<- hpn];generalize putS v [s] x true = pr;(iterate 2 refine mS ?_);refine zad (p:=2) (cs:=vC pr.1) rfl rfl rfl rfl rfl rfl ?_;refine mN ?_;exact zab ⟨.inr rfl,[.ag (vC pr.1),.d (pB pr.2)],rfl,congrArg (fun l => some (PV.tup [.ag l,.d (pB pr.2)])) (zai _)⟩
     ·refine zan rfl rfl (beq_eq_false_iff_ne.2 h7) ?_
      refine mK ?_
      exact ⟨⟨by omega,fun h => h7 h.2.2⟩,⟨rfl,rfl,rfl,rfl,rfl,rfl,trivial⟩,rfl⟩
   | cons s2 r2 =>
    refine zan rfl rfl (beq_eq_false_iff_ne.2 (by simp only [length_cons]; omega)) ?_;refine mS ?_;refine zfS rfl ?_;(iterate 2 refine mS ?_);refine mZ ?_;refine mK ?_;exact ⟨⟨by omega,fun h => by simp at h⟩,⟨rfl,rfl,rfl,rfl,rfl,rfl,trivial⟩,rfl⟩
  rintro tm bx nt live ⟨hyes,ht,hbx⟩;obtain ⟨tm1,rfl⟩:=zaq ht;simp only at hbx; subst hbx
  clear ht;have hlt:=zaN hyes.1;obtain ⟨i,hi⟩:∃ i:Nat,kidI v s = i:=⟨(kidI v s).toNat,by omega⟩;have hil:i < v.kids.length:=by omega
  have hkb:=(ze4 ⟨hv,lR⟩ hil).2;have hih:=ih v.kids[i] x ahead S (V.wf_kid hv i hil) hx (fun z hz => hs z (by simp [hz])) (by omega) (by omega)
  have hpe:putS v (s :: r) x ahead = (v.withK (v.kids.set i (putS v.kids[i] r x ahead).1),(putS v.kids[i] r x ahead).2):=by
   rw [putS,dif_pos hyes];simp only [hi,Int.toNat_natCast]
  rw [hpe];generalize putS v.kids[i] r x ahead = pr at hih;refine zaS (L8K1 v x (kidI v s) pr) ?_ ?_
  ·refine zek (show pt _ (L8K1 v x (kidI v s) pr) _ _ from ?_)
   refine zbo ?_;(iterate 3 refine mS ?_);refine za5 (es:=vK v.kids) (e:=vC v.kids[i]) rfl rfl rfl ⟨by omega,by rw [hi,Int.toNat_natCast]; exact zbj hil⟩ rfl ?_;(iterate 2 refine mS ?_);refine zcw (l:=1) (h:=(pSr (s :: r)).length) (es:=pSr (s :: r)) (rs:=pSr r) rfl rfl rfl rfl ⟨by rw [za6]; simp only [length_cons]; omega,lR⟩ (zfT _) (pSr_tl s r) ?_;refine zaa (p:=1) (cs:=vC x) rfl rfl rfl rfl ?_
   repeat' (first
    | exact zcd
    | refine zcS ?_ ?_
    | refine zaj ?_
    | refine zce ?_
    | (refine zdx ?_; exact ⟨⟨rfl,rfl,rfl,rfl,rfl,trivial⟩,rfl⟩)
    | refine zbo ?_
    | refine zac (zdN v.kids[i] x r ahead) hih ?_
    | refine zaH ?_
    | refine zad (p:=3) (cs:=vC pr.1) rfl rfl rfl rfl rfl rfl ?_
    | refine po_s rfl rfl rfl ?_)
  rintro tm bx nt live ⟨ht,hbx⟩;obtain ⟨tm2,rfl⟩:=zaq ht;simp only at hbx; subst hbx
  clear ht;refine mO ?_;refine zaa (p:=0) (cs:=vC v) rfl rfl rfl rfl ?_;refine mS ?_;refine zaa (p:=3) (cs:=vC pr.1) rfl rfl rfl rfl ?_;refine zac (args:=[.ag (vC v),.d (pI (i:Int)),.ag (vC pr.1)]) (by rw [<- hi]; exact vik_arg v pr.1 (kidI v s)) (withS_fn (T:=T) (hT:=hT) v pr.1 i hil hv (by omega)) ?_;refine mS ?_;refine zad (p:=2) (cs:=vC (v.withK (v.kids.set i pr.1))) rfl rfl rfl rfl rfl rfl ?_;refine mN ?_;exact zab ⟨.inr rfl,[.ag (vC (v.withK (v.kids.set i pr.1))),.d (pB pr.2)],rfl,congrArg (fun l => some (PV.tup [.ag l,.d (pB pr.2)])) (zai _)⟩
theorem zeA (v out:V) (ok:Bool) (hv:v.wf) (ho:out.wf) (hb:v.bulk <= 4294967295) (hb2:out.bulk <= 4294967295):FnV (env T hT) 49 [.ag (vC v),.ag (vC out),.d (pB ok)] (.tup [.ag (vC (madeS v out ok).1),.d (pB (madeS v out ok).2)]):=by
 refine zaU (zaf ze5) (by show 3 <= 23; decide) fun B hB => ?_
 unfold m_s_l08Made;refine mO ?_;refine zal (cs:=vC v) rfl ?_;refine zal (cs:=vC out) rfl ?_;refine mN ?_;have hfail:∀ h:¬ (ok = true /\ v.ok = true /\ out.ok = true),madeS v out ok = (v,false):=fun h => by unfold madeS; rw [if_neg h]
 have hv1:=zfn (T:=T) (hT:=hT) v hv hb;have hv2:=zfn (T:=T) (hT:=hT) out ho hb2;refine mM ?_;(iterate 3 refine mS ?_)
 cases ok with
 | false =>
  refine mZ ?_;(iterate 2 refine mS ?_);refine mZ ?_;refine mT ?_;rw [hfail (fun h => Bool.noConfusion h.1)];refine mO ?_;refine zaa (p:=0) (cs:=vC v) rfl rfl rfl rfl ?_;refine zac (zax v) (za8 (T:=T) (hT:=hT) v hv hb) ?_;refine zad (p:=2) (cs:=vC v) rfl rfl rfl rfl rfl rfl ?_;refine mN ?_
  exact zab ⟨.inr rfl,[.ag (vC v),.d (pB false)],rfl,congrArg (fun l => some (PV.tup [.ag l,.d (pB false)])) (zai _)⟩
 | true =>
  refine zaa (p:=0) (cs:=vC v) rfl rfl rfl rfl ?_;refine zaM (b:=true) rfl (fun _ => zax v) (fun _ => hv1) ?_
  cases h1:v.ok with
  | false =>
   (iterate 3 refine mS ?_);refine mZ ?_;refine mT ?_;rw [hfail (fun h => by rw [h1] at h; exact Bool.noConfusion h.2.1)];refine mO ?_;refine zaa (p:=0) (cs:=vC v) rfl rfl rfl rfl ?_;refine zac (zax v) (za8 (T:=T) (hT:=hT) v hv hb) ?_;refine zad (p:=2) (cs:=vC v) rfl rfl rfl rfl rfl rfl ?_;refine mN ?_
   exact zab ⟨.inr rfl,[.ag (vC v),.d (pB false)],rfl,congrArg (fun l => some (PV.tup [.ag l,.d (pB false)])) (zai _)⟩
  | true =>
   (iterate 3 refine mS ?_);refine zaa (p:=1) (cs:=vC out) rfl rfl rfl rfl ?_;refine zaM (b:=true) rfl (fun _ => zax out) (fun _ => hv2) ?_
   cases h2:out.ok with
   | false =>
    refine mT ?_;rw [hfail (fun h => by rw [h2] at h; exact Bool.noConfusion h.2.2)];refine mO ?_;refine zaa (p:=0) (cs:=vC v) rfl rfl rfl rfl ?_;refine zac (zax v) (za8 (T:=T) (hT:=hT) v hv hb) ?_;refine zad (p:=2) (cs:=vC v) rfl rfl rfl rfl rfl rfl ?_;refine mN ?_
    exact zab ⟨.inr rfl,[.ag (vC v),.d (pB false)],rfl,congrArg (fun l => some (PV.tup [.ag l,.d (pB false)])) (zai _)⟩
   | true =>
    refine mK ?_;rw [show madeS v out true = (out,true) from by unfold madeS; rw [if_pos ⟨rfl,h1,h2⟩]];refine mO ?_;refine zaa (p:=1) (cs:=vC out) rfl rfl rfl rfl ?_;refine zad (p:=2) (cs:=vC out) rfl rfl rfl rfl rfl rfl ?_;refine mN ?_;exact zab ⟨.inr rfl,[.ag (vC out),.d (pB true)],rfl,congrArg (fun l => some (PV.tup [.ag l,.d (pB true)])) (zai _)⟩
theorem Put_fn (v x:V) (st:List (L8)) (S:Nat) (hv:v.wf) (hx:x.wf) (hs:∀ s ∈ st,s.length <= S) (hb:v.bulk + x.bulk + S + 2 <= 2147483647) (hl:st.length <= 2147483647):FnV (env T hT) 24 [.ag (vC v),.d (pSs st),.ag (vC x)] (.tup [.ag (vC (putW v st x false).1),.d (pB (putW v st x false).2)]):=by
 have hpb:=zcz st v x false S hs;have hpw:=zdB st v x false S hv hx hs (by omega);have hput:=putS_fn (T:=T) (hT:=hT) st v x false S hv hx hs hb hl;have hvx:=zfn (T:=T) (hT:=hT) x hx (by omega);unfold putW;generalize putS v st x false = pr at hpb hpw hput;have hmd:=fun ok => zeA (T:=T) (hT:=hT) v pr.1 ok hv hpw (by omega) (by omega)
 refine zaU (zaf lk_s_Put) (by show 3 <= 27; decide) fun B hB => ?_
 unfold m_s_Put;refine mO ?_;refine zal (cs:=vC v) rfl ?_;refine zal (cs:=vC x) rfl ?_;refine mN ?_;refine mO ?_;refine zaa (p:=0) (cs:=vC v) rfl rfl rfl rfl ?_;refine mS ?_;refine zaa (p:=1) (cs:=vC x) rfl rfl rfl rfl ?_;refine zac (zdN v x st false) hput ?_;(iterate 3 refine mS ?_);refine zdX (cs:=vC pr.1) rfl rfl rfl rfl ?_;refine mN ?_;refine mO ?_;refine zaa (p:=0) (cs:=vC v) rfl rfl rfl rfl ?_;refine zaa (p:=3) (cs:=vC pr.1) rfl rfl rfl rfl ?_;(iterate 2 refine mS ?_);obtain ⟨ok,hok⟩:∃ ok,pr.2 = ok:=⟨_,rfl⟩;rw [hok]
 cases ok with
 | false =>
  refine mZ ?_;refine mS ?_
  refine zac (args:=[.ag (vC v),.ag (vC pr.1),.d (pB false)]) (by
   show some [PV.ag (erL (vC v)),.ag (erL (vC pr.1)),.d (pB false)] = _;rw [zai,zai]) (hmd false) ?_
  rw [Bool.false_and];generalize madeS v pr.1 false = mdr;(iterate 2 refine mS ?_);refine zad (p:=2) (cs:=vC mdr.1) rfl rfl rfl rfl rfl rfl ?_;refine mN ?_
  exact zab ⟨.inr rfl,[.ag (vC mdr.1),.d (pB mdr.2)],rfl,congrArg (fun l => some (PV.tup [.ag l,.d (pB mdr.2)])) (zai _)⟩
 | true =>
  refine zaa (p:=1) (cs:=vC x) rfl rfl rfl rfl ?_;refine zaM (b:=true) rfl (fun _ => zax x) (fun _ => hvx) ?_;refine po_s (v:=.d (pB x.ok)) rfl rfl (by cases x.ok <;> rfl) ?_
  refine zac (args:=[.ag (vC v),.ag (vC pr.1),.d (pB x.ok)]) (by
   show some [PV.ag (erL (vC v)),.ag (erL (vC pr.1)),.d (pB x.ok)] = _;rw [zai,zai]) (hmd x.ok) ?_
  rw [Bool.true_and];generalize madeS v pr.1 x.ok = mdr;(iterate 2 refine mS ?_);refine zad (p:=2) (cs:=vC mdr.1) rfl rfl rfl rfl rfl rfl ?_;refine mN ?_;exact zab ⟨.inr rfl,[.ag (vC mdr.1),.d (pB mdr.2)],rfl,congrArg (fun l => some (PV.tup [.ag l,.d (pB mdr.2)])) (zai _)⟩
theorem Insert_fn (v x:V) (st:List (L8)) (S:Nat) (hv:v.wf) (hx:x.wf) (hs:∀ s ∈ st,s.length <= S) (hb:v.bulk + x.bulk + S + 2 <= 2147483647) (hl:st.length <= 2147483647):FnV (env T hT) 25 [.ag (vC v),.d (pSs st),.ag (vC x)] (.tup [.ag (vC (putW v st x true).1),.d (pB (putW v st x true).2)]):=by
 have hpb:=zcz st v x true S hs;have hpw:=zdB st v x true S hv hx hs (by omega);have hput:=putS_fn (T:=T) (hT:=hT) st v x true S hv hx hs hb hl;have hvx:=zfn (T:=T) (hT:=hT) x hx (by omega);unfold putW;generalize putS v st x true = pr at hpb hpw hput;have hmd:=fun ok => zeA (T:=T) (hT:=hT) v pr.1 ok hv hpw (by omega) (by omega)
 refine zaU (zaf zf2) (by show 3 <= 27; decide) fun B hB => ?_
 unfold m_s_Insert;refine mO ?_;refine zal (cs:=vC v) rfl ?_;refine zal (cs:=vC x) rfl ?_;refine mN ?_;refine mO ?_;refine zaa (p:=0) (cs:=vC v) rfl rfl rfl rfl ?_;refine mS ?_;refine zaa (p:=1) (cs:=vC x) rfl rfl rfl rfl ?_;refine zac (zdN v x st true) hput ?_;(iterate 3 refine mS ?_);refine zdX (cs:=vC pr.1) rfl rfl rfl rfl ?_;refine mN ?_;refine mO ?_;refine zaa (p:=0) (cs:=vC v) rfl rfl rfl rfl ?_;refine zaa (p:=3) (cs:=vC pr.1) rfl rfl rfl rfl ?_;(iterate 2 refine mS ?_);obtain ⟨ok,hok⟩:∃ ok,pr.2 = ok:=⟨_,rfl⟩;rw [hok]
 cases ok with
 | false =>
  refine mZ ?_;refine mS ?_
  refine zac (args:=[.ag (vC v),.ag (vC pr.1),.d (pB false)]) (by
   show some [PV.ag (erL (vC v)),.ag (erL (vC pr.1)),.d (pB false)] = _;rw [zai,zai]) (hmd false) ?_
  rw [Bool.false_and];generalize madeS v pr.1 false = mdr;(iterate 2 refine mS ?_);refine zad (p:=2) (cs:=vC mdr.1) rfl rfl rfl rfl rfl rfl ?_;refine mN ?_
  exact zab ⟨.inr rfl,[.ag (vC mdr.1),.d (pB mdr.2)],rfl,congrArg (fun l => some (PV.tup [.ag l,.d (pB mdr.2)])) (zai _)⟩
 | true =>
  refine zaa (p:=1) (cs:=vC x) rfl rfl rfl rfl ?_;refine zaM (b:=true) rfl (fun _ => zax x) (fun _ => hvx) ?_;refine po_s (v:=.d (pB x.ok)) rfl rfl (by cases x.ok <;> rfl) ?_
  refine zac (args:=[.ag (vC v),.ag (vC pr.1),.d (pB x.ok)]) (by
   show some [PV.ag (erL (vC v)),.ag (erL (vC pr.1)),.d (pB x.ok)] = _;rw [zai,zai]) (hmd x.ok) ?_
  rw [Bool.true_and];generalize madeS v pr.1 x.ok = mdr;(iterate 2 refine mS ?_);refine zad (p:=2) (cs:=vC mdr.1) rfl rfl rfl rfl rfl rfl ?_;refine mN ?_;exact zab ⟨.inr rfl,[.ag (vC mdr.1),.d (pB mdr.2)],rfl,congrArg (fun l => some (PV.tup [.ag l,.d (pB mdr.2)])) (zai _)⟩
theorem lessS_fn:∀ (st:List (L8)) (v:V) (S:Nat),v.wf -> (∀ s ∈ st,s.length <= S) -> v.bulk + S + 2 <= 2147483647 -> st.length <= 2147483647 -> FnV (env T hT) 50 [.ag (vC v),.d (pSs st)] (.tup [.ag (vC (lessS v st).1),.d (pB (lessS v st).2)]):=by
 intro st
 induction st with
 | nil =>
  intro v S hv hs hb hl;refine zaU (zaf zcV) (by show 2 <= 67; decide) fun B hB => ?_
  unfold m_s_l08Less;refine mO ?_;refine zal (cs:=vC v) rfl ?_;refine mN ?_;refine mM ?_;refine mS ?_;refine zay (n:=0) rfl rfl rfl ?_;refine zah rfl rfl rfl ?_;refine mT ?_;refine mO ?_;refine zaa (p:=0) (cs:=vC v) rfl rfl rfl rfl ?_;refine zad (p:=1) (cs:=vC v) rfl rfl rfl rfl rfl rfl ?_;refine mN ?_
  exact zab ⟨.inr rfl,[.ag (vC v),.d (pB false)],rfl,congrArg (fun l => some (PV.tup [.ag l,.d (pB false)])) (zai v)⟩
 | cons s r ih =>
  intro v S hv hs hb hl;have hsl:s.length <= 2147483647:=by have:=hs s (by simp); omega
  have hrl:r.length <= 2147483646:=by rw [length_cons] at hl; omega
  have hkl:v.kids.length <= 4294967290:=by have h:=hb; rw [V.bulk_eq v] at h; omega
  refine zaU (zaf zcV) (by show 2 <= 67; decide) fun B hB => ?_
  unfold m_s_l08Less;refine mO ?_;refine zal (cs:=vC v) rfl ?_;refine mN ?_;refine mM ?_;refine mS ?_;refine zay (n:=r.length + 1) rfl rfl (by rw [za6]; rfl) ?_;refine zan rfl rfl (beq_eq_false_iff_ne.2 (by omega)) ?_;refine mK ?_;refine mO ?_;refine zaa (p:=0) (cs:=vC v) rfl rfl rfl rfl ?_;refine mS ?_;refine za5 (es:=pSr (s :: r)) (e:=[pS s]) rfl rfl rfl ⟨by decide,rfl⟩ rfl ?_;refine mS ?_;refine zac (args:=[.ag (vC v),.d (pS s)]) (zdO v s) (zf9 (T:=T) (hT:=hT) v s (by omega) hsl) ?_;refine mN ?_;refine mM ?_;refine mS ?_;by_cases hk:kidI v s < 0
  ·refine zah rfl rfl (decide_eq_true hk) ?_
   refine mT ?_;have hpn:lessS v (s :: r) = (v,false):=by rw [lessS,dif_neg (by omega)]
   refine mO ?_;refine zaa (p:=0) (cs:=vC v) rfl rfl rfl rfl ?_;refine zad (p:=1) (cs:=vC v) rfl rfl rfl rfl rfl rfl ?_;refine mN ?_;rw [hpn];exact zab ⟨.inr rfl,[.ag (vC v),.d (pB false)],rfl,congrArg (fun l => some (PV.tup [.ag l,.d (pB false)])) (zai v)⟩
  refine zan rfl rfl (decide_eq_false hk) ?_;refine mK ?_;have hk0:0 <= kidI v s:=by omega
  have hlt:=zaN hk0;obtain ⟨i,hi⟩:∃ i:Nat,kidI v s = i:=⟨(kidI v s).toNat,by omega⟩;have hil:i < v.kids.length:=by omega
  refine mM ?_;refine mS ?_;refine zay (n:=r.length + 1) rfl rfl (by rw [za6]; rfl) ?_;by_cases hr0:r = []
  ·subst hr0
   have hpn:lessS v [s] = (v.withK (v.kids.take (if v.kind = 8 then i - 1 else i) ++ v.kids.drop (i + 1)),decide (v.kind ≠ 9)):=by
    rw [lessS,dif_pos hk0,if_pos rfl];simp only [hi,Int.toNat_natCast]
   obtain ⟨f,hf,hfl⟩:∃ f,(if v.kind = 8 then i - 1 else i) = f /\ f <= i:=⟨_,rfl,by split <;> omega⟩;refine zan rfl rfl rfl ?_;refine mK ?_;refine mO ?_;refine zaa (p:=0) (cs:=vC v) rfl rfl rfl rfl ?_;refine zac (zax v) (za8 (T:=T) (hT:=hT) v hv (by omega)) ?_;refine zdX (cs:=vC v) rfl rfl rfl rfl ?_;refine mN ?_;refine mP ?_;refine zaS (fun st' => has st'.tm [(2,.ref 0 0),(4,.ref 1 0),(6,.d (pI i)),(9,.ref 2 0),(10,.d (pI f))] /\ st'.bx = [vC v,[pI 0,pI 0,pI 0,pS [],.sl 1 []],vC v]) ?_ ?_
   ·refine mO ?_
    (iterate 2 refine mS ?_);by_cases h8:v.kind = 8
    ·rw [if_pos h8] at hf
     have h1:1 <= i:=by
      have h:=hi;unfold kidI at h;rw [if_neg (by omega),if_pos h8] at h
      split at h <;> omega
     refine zah rfl rfl (beq_iff_eq.2 h8) ?_;refine mT ?_;refine zap ?_;refine mS ?_;refine po_sub (n:=(f:Int)) rfl rfl rfl (by omega) (by omega) ?_;refine mN ?_;exact ⟨⟨rfl,rfl,by show PV.d (pI (kidI v s)) = _; rw [hi],rfl,rfl,trivial⟩,rfl⟩
    ·rw [if_neg h8] at hf
     subst hf;refine zan rfl rfl (beq_eq_false_iff_ne.2 h8) ?_;refine mK ?_;exact ⟨⟨rfl,rfl,by show PV.d (pI (kidI v s)) = _; rw [hi],rfl,by show PV.d (pI (kidI v s)) = _; rw [hi],trivial⟩,rfl⟩
   rintro tm bx nt live ⟨ht,hbx⟩;obtain ⟨tm1,rfl⟩:=zaq ht;simp only at hbx; subst hbx
   clear ht;have hw5:=za7 v.kids;have hkn:=zam v.kids;refine mO ?_;(iterate 3 refine mS ?_);refine zcw (l:=0) (h:=f) (es:=vK v.kids) (rs:=vK (v.kids.take f)) rfl rfl rfl (zbt (i:=(f:Int)) rfl rfl) ⟨Nat.zero_le _,by omega⟩ hw5 (by rw [drop_zero,Nat.sub_zero]; simp only [vK,map_take]) ?_;(iterate 3 refine mS ?_);refine zaZ (n:=((i + 1:Nat):Int)) rfl rfl rfl (by omega) (by omega) ?_;refine zcw (l:=i + 1) (h:=(vK v.kids).length) (es:=vK v.kids) (rs:=vK (v.kids.drop (i + 1))) rfl rfl (zbt (i:=((i + 1:Nat):Int)) rfl rfl) rfl ⟨by omega,lR⟩ hw5 (by rw [<- length_drop,take_length]; simp only [vK,map_drop]) ?_;refine zbO (es:=[]) rfl ?_;refine zb4 (t:=nt) (t':=0) (es:=[]) (ds:=vK (v.kids.take f)) rfl rfl (.inr (mem_cons_self ..)) (by rw [zam,length_take]; simp only [length_nil]; omega) (za7 _) (fun e he => by cases he) ?_
   rw [nil_append];refine zb4 (t:=nt + 1) (t':=0) (es:=vK (v.kids.take f)) (ds:=vK (v.kids.drop (i + 1))) rfl rfl (.inr (mem_cons_self ..)) (by rw [zam,zam,length_take,length_drop]; omega) (za7 _) (za7 _) ?_;rw [<- zbW];refine mS ?_;refine zaC (p:=2) (o':=4) (cs:=[.sl (nt + 1 + 1) (vK (v.kids.take f ++ v.kids.drop (i + 1)))]) (z:=vC v) rfl rfl rfl ⟨rfl,Nat.le_of_ble_eq_true rfl⟩ rfl ?_;refine zaj ?_;obtain ⟨cs,hcs⟩:∃ cs,cs = [pI v.kind,pI v.num,pI v.exp,pS v.text,.sl (nt + 1 + 1) (vK (v.kids.take f ++ v.kids.drop (i + 1)))]:=⟨_,rfl⟩;refine mO ?_;refine zaa (p:=2) (cs:=[pI v.kind,pI v.num,pI v.exp,pS v.text,.sl (nt + 1 + 1) (vK (v.kids.take f ++ v.kids.drop (i + 1)))]) rfl rfl rfl rfl ?_;(iterate 2 refine mS ?_);refine po_b rfl rfl (fun b hb9 => ?_);refine zad (p:=1) (cs:=[pI v.kind,pI v.num,pI v.exp,pS v.text,.sl (nt + 1 + 1) (vK (v.kids.take f ++ v.kids.drop (i + 1)))]) rfl rfl rfl rfl rfl rfl ?_
   refine mN ?_;rw [hpn,hf]
   have hb9':b = decide (v.kind ≠ 9):=by
    rw [hb9];by_cases h:v.kind = 9 <;> simp [h,bne]
   refine zab ⟨.inr rfl,[.ag [pI v.kind,pI v.num,pI v.exp,pS v.text,.sl (nt + 1 + 1) (vK (v.kids.take f ++ v.kids.drop (i + 1)))],.d (pB b)],rfl,?_⟩;rw [hb9'];refine congrArg (fun l => some (PV.tup [.ag l,.d (pB (decide (v.kind ≠ 9)))])) ?_;show [pI v.kind,pI v.num,pI v.exp,pS v.text,.sl 0 (erLL (vK (v.kids.take f ++ v.kids.drop (i + 1))))] = _;rw [zcX]; rfl
  have hpe:lessS v (s :: r) = (v.withK (v.kids.set i (lessS v.kids[i] r).1),(lessS v.kids[i] r).2):=by
   rw [lessS,dif_pos hk0,if_neg hr0];simp only [hi,Int.toNat_natCast]
  have hkb:=(ze4 ⟨hv,lR⟩ hil).2;have hih:=ih v.kids[i] S (V.wf_kid hv i hil) (fun z hz => hs z (by simp [hz])) (by omega) (by omega)
  have hr1:1 <= r.length:=by
   cases r with
   | nil => exact absurd rfl hr0
   | cons _ _ => simp
  refine zah rfl rfl (decide_eq_true (by omega)) ?_;refine mT ?_;rw [hpe];generalize lessS v.kids[i] r = pr at hih;refine zaS (L8K2 v (kidI v s) pr) ?_ ?_
  ·refine zek (show pt _ (L8K2 v (kidI v s) pr) _ _ from ?_)
   refine zbo ?_;(iterate 3 refine mS ?_);refine za5 (es:=vK v.kids) (e:=vC v.kids[i]) rfl rfl rfl ⟨by omega,by rw [hi,Int.toNat_natCast]; exact zbj hil⟩ rfl ?_;(iterate 2 refine mS ?_);refine zcw (l:=1) (h:=(pSr (s :: r)).length) (es:=pSr (s :: r)) (rs:=pSr r) rfl rfl rfl rfl ⟨by rw [za6]; simp only [length_cons]; omega,lR⟩ (zfT _) (pSr_tl s r) ?_
   repeat' (first
    | exact zcd
    | refine zcS ?_ ?_
    | refine zaj ?_
    | refine zce ?_
    | (refine zdx ?_; exact ⟨⟨rfl,rfl,rfl,rfl,rfl,trivial⟩,rfl⟩)
    | refine zbo ?_
    | refine zac (vs_arg v.kids[i] r) hih ?_
    | refine zaH ?_
    | refine zad (p:=2) (cs:=vC pr.1) rfl rfl rfl rfl rfl rfl ?_
    | refine po_s rfl rfl rfl ?_)
  rintro tm bx nt live ⟨ht,hbx⟩;obtain ⟨tm2,rfl⟩:=zaq ht;simp only at hbx; subst hbx
  clear ht;refine mO ?_;refine zaa (p:=0) (cs:=vC v) rfl rfl rfl rfl ?_;refine mS ?_;refine zaa (p:=2) (cs:=vC pr.1) rfl rfl rfl rfl ?_;refine zac (args:=[.ag (vC v),.d (pI (i:Int)),.ag (vC pr.1)]) (by rw [<- hi]; exact vik_arg v pr.1 (kidI v s)) (withS_fn (T:=T) (hT:=hT) v pr.1 i hil hv (by omega)) ?_;refine mS ?_;refine zad (p:=1) (cs:=vC (v.withK (v.kids.set i pr.1))) rfl rfl rfl rfl rfl rfl ?_;refine mN ?_;exact zab ⟨.inr rfl,[.ag (vC (v.withK (v.kids.set i pr.1))),.d (pB pr.2)],rfl,congrArg (fun l => some (PV.tup [.ag l,.d (pB pr.2)])) (zai _)⟩
theorem Remove_fn (v:V) (st:List (L8)) (S:Nat) (hv:v.wf) (hs:∀ s ∈ st,s.length <= S) (hb:v.bulk + S + 2 <= 2147483647) (hl:st.length <= 2147483647):FnV (env T hT) 26 [.ag (vC v),.d (pSs st)] (.tup [.ag (vC (remW v st).1),.d (pB (remW v st).2)]):=by
 obtain ⟨hpw,hpb⟩:=zc8 st v hv (by omega);have hput:=lessS_fn (T:=T) (hT:=hT) st v S hv hs hb hl;unfold remW;generalize lessS v st = pr at hpb hpw hput;have hmd:=zeA (T:=T) (hT:=hT) v pr.1 pr.2 hv hpw (by omega) (by omega);refine zaU (zaf zf3) (by show 2 <= 20; decide) fun B hB => ?_
 unfold m_s_Remove;refine mO ?_;refine zal (cs:=vC v) rfl ?_;refine mN ?_;refine mO ?_;refine zaa (p:=0) (cs:=vC v) rfl rfl rfl rfl ?_;refine mS ?_;refine zac (vs_arg v st) hput ?_;(iterate 3 refine mS ?_);refine zdX (cs:=vC pr.1) rfl rfl rfl rfl ?_;refine mN ?_;refine mO ?_;refine zaa (p:=0) (cs:=vC v) rfl rfl rfl rfl ?_;refine zaa (p:=2) (cs:=vC pr.1) rfl rfl rfl rfl ?_;refine mS ?_
 refine zac (args:=[.ag (vC v),.ag (vC pr.1),.d (pB pr.2)]) (by
  show some [PV.ag (erL (vC v)),.ag (erL (vC pr.1)),.d (pB pr.2)] = _;rw [zai,zai]) hmd ?_
 generalize madeS v pr.1 pr.2 = mdr;(iterate 2 refine mS ?_);refine zad (p:=1) (cs:=vC mdr.1) rfl rfl rfl rfl rfl rfl ?_;refine mN ?_;exact zab ⟨.inr rfl,[.ag (vC mdr.1),.d (pB mdr.2)],rfl,congrArg (fun l => some (PV.tup [.ag l,.d (pB mdr.2)])) (zai _)⟩
end
section
theorem FnG.ofFnV {E:Env} {f:Nat} {args args':List PV} {bx:LP PC} {nt:Nat} {live:List Nat} {v:PV} (hd:PV.dats args = some args') (h:FnV E f args' v):FnG E f args bx nt live (fun x b n l => x = v /\ b = bx /\ nt <= n /\ l = live):=by
 intro C w vs hI hnt hold hn2 hl hv;obtain ⟨hlen,hdat⟩:=PV.dats_some hd;refine (h C.sub w vs hI.sub rfl (Cx.sub_old C) (by omega) (fun j x y hx hy => ?_)).mono ?_
 ·obtain ⟨v0,h0,h1⟩:=hdat j x hx
  exact (hv j v0 y h0 hy).toDat (show ∀ b o,C.F b o -> C.sub.F b o from fun _ _ h => h) h1
 rintro e w' ⟨u,x,bx0,live0,C',rfl,hR,hJ,hE,hx⟩;obtain ⟨hI3,hF⟩:=hI.join hJ hE [] (fun t ht => by cases ht);have hrefl:Ext C w C bx.length (· ∈ live) w:=⟨rfl,rfl,rfl,lR,fun _ _ h => h,.of (fun _ _ _ => rfl) (fun _ _ => rfl),fun _ _ _ _ => rfl,⟨lR,fun _ _ => rfl⟩,fun _ _ h => .inl h,(fun t b ht hb => .inr ⟨t,by rw [hold]; exact ht,hb⟩),(fun q hq hq2 => by have h1:=hI.nb; omega),⟨lR,fun _ _ => ⟨rfl,rfl,rfl,rfl⟩⟩⟩;have hE3:=hrefl.join hI hJ hE [] (fun t ht => by cases ht);exact ⟨u,v,bx,C.nt + C'.nt,live,C.join C',rfl,⟨rfl,rfl,by omega,rfl⟩,hI3,rfl,hE3,hx.toDat (show ∀ b o,C'.F b o -> (C.join C').F b o from fun _ _ h => h) hR⟩
def RowGl (lo:Nat) (bx:LP PC) (cs:List PC) (v:V):Prop :=
 erL cs = vC v \/ ∃ p len cap z rows,lo <= p /\ cs = [pI v.kind,pI v.num,pI v.exp,pS v.text,.row p len cap] /\ bx[p]? = some z /\ z.take (5 * len) = rows.flatten /\ (∀ e ∈ rows,e.length = 5) /\ rows.length = len /\ erLL rows = vK v.kids
theorem RowGl.of {lo:Nat} {live:List Nat} {c:PC} {bx rows:LP PC} {v:V} (hR:RwL 5 lo live c bx rows) (h:erLL rows = vK v.kids):RowGl lo bx [pI v.kind,pI v.num,pI v.exp,pS v.text,c] v:=by
 rcases hR.1.2 with ⟨t,rfl,_,h0⟩ | ⟨p,len,cap,z,rfl,h2,h3,h4,h5,h6⟩
 ·rcases RowG.of hR h with h | ⟨_,_,_,_,_,e,_⟩
  ·exact .inl h
  ·simp at e
 ·obtain ⟨_,_,_,_,_,_,h7⟩:=hR.len (by decide)
  exact .inr ⟨p,len,cap,z,rows,h2,rfl,h3,h6.symm,hR.2,h7,h⟩
theorem rowG_core2 {E:Env} {C C':Cx} {w w':World} {bx rest:LP PC} {live l:List Nat} {cs:List PC} {v:V} {vs:List Value} (hI:Inv E.NG E.T C bx (· ∈ live) w) (hlw:∀ cs ∈ bx,lwL bx.length cs) (hsub:∀ t ∈ live,t ∈ l) (hJ:Inv E.NG E.T C' (bx ++ rest) (· ∈ l) w') (hE:Ext C w C' (bx ++ rest).length (· ∈ l) w') (hG:RowGl bx.length (bx ++ rest) cs v) (hv:RpL C' w' cs vs) :
  ∃ C2,Inv E.NG E.T C2 bx (· ∈ live) w' /\ C2.nt = C'.nt /\ Ext C w C2 bx.length (· ∈ live) w' /\ RpL C2 w' (vC v) vs:=by
 have hnb0:C.nb = bx.length:=hI.nb;have hbl:bx.length <= (bx ++ rest).length:=by simp
 have mk:∀ F2:Nat -> Nat -> Prop,(∀ b o,C'.F b o -> F2 b o) -> (∀ b o,F2 b o -> C'.F b o \/ ∃ p,bx.length <= p /\ p < (bx ++ rest).length /\ b = C'.bx p) -> ∃ C2:Cx,C2 = { C' with nb:=bx.length,F:=F2 } /\ Inv E.NG E.T C2 bx (· ∈ live) w' /\ C2.nt = C'.nt /\ Ext C w C2 bx.length (· ∈ live) w':=by
  intro F2 h1 h2;have hcut:CxLe (C'.cutB bx.length) { C' with nb:=bx.length,F:=F2 }:=⟨h1,lR,fun _ _ => rfl,lR,fun _ _ => ⟨rfl,rfl,rfl,rfl⟩⟩;refine ⟨_,rfl,⟨rfl,fun q cs hq => ?_,fun q hq o hF => ?_,fun q hq => hJ.boxG q (by omega),fun q r hq hr h => hJ.inj q r (by omega) (by omega) h,fun t ht => ?_,fun t s b ht hs => hJ.tinj t s b (hsub t ht) (hsub s hs),fun b o h => ?_,hJ.ng,hJ.t⟩,rfl,?_⟩
  ·have hql:q < bx.length:=by
    rcases Nat.lt_or_ge q bx.length with h | h
    ·exact h
    ·rw [getElem?_eq_none h] at hq; cases hq
   obtain ⟨us,e,k1,k2⟩:=hJ.box q cs (by rw [getElem?_append_left hql]; exact hq);exact ⟨us,e,k1,(k2.trim (hlw cs (mem_of_getElem? hq))).frame hcut (.of (fun _ _ _ => rfl) (fun _ _ => rfl))⟩
  ·rcases h2 _ _ hF with h | ⟨p,hp,hp2,he⟩
   ·exact hJ.boxF q (by omega) o h
   ·have:=hJ.inj q p (by omega) hp2 he
    omega
  ·obtain ⟨a1,a2,a3⟩:=hJ.tok t (hsub t ht)
   refine ⟨a1,a2,a3.imp id ?_⟩;rintro ⟨b,cur,e,c1,c2,c3,c4,c5,c6,c7,cz,c8,c9⟩;refine ⟨b,cur,e,c1,c2,c3,c4,c5,c6,c7,cz,fun o hF => ?_,fun q hq => c9 q (by omega)⟩
   rcases h2 _ _ hF with h | ⟨p,_,hp2,he⟩
   ·exact c8 o h
   ·exact absurd he.symm (c9 p hp2)
  ·rcases h2 b o h with h | ⟨p,_,hp2,rfl⟩
   ·exact hJ.fin b o h
   ·obtain ⟨us,e,hh,_⟩:=hJ.box p _ (getElem?_eq_getElem hp2)
    exact zao hh
  ·refine ⟨hE.os,hE.tape,hE.output,hE.size,fun b o h => h1 b o (hE.F b o h),hE.fix,hE.block,⟨by rw [hnb0]; exact lR,hE.bx.2⟩,fun b o h => ?_,fun t b ht hb => hE.newT t b (hsub t ht) hb,(fun q hq hq2 => by omega),hE.tk⟩
   rcases h2 b o h with h | ⟨p,hp,hp2,rfl⟩
   ·exact hE.newF b o h
   ·exact .inr (.inl (hE.newB p (by omega) hp2))
 rcases hG with he | ⟨p,len,cap,z,rows,hlo,rfl,hz,hzt,hw,hrl,her⟩
 ·obtain ⟨C2,e2,i2,n2,x2⟩:=mk C'.F (fun _ _ h => h) (fun _ _ h => .inl h)
  refine ⟨C2,i2,n2,x2,?_⟩;rw [<- he];exact hv.toEr (fun b o h => by rw [e2]; exact h)
 have hp:p < (bx ++ rest).length:=by
  rcases Nat.lt_or_ge p (bx ++ rest).length with h | h
  ·exact h
  ·rw [getElem?_eq_none h] at hz; cases hz
 obtain ⟨us,e0,hh,hlen,hus⟩:=hJ.box p z hz
 have hzl:5 * len <= z.length:=by
  have:=congrArg length hzt
  rw [length_take,zaI hw,hrl] at this; omega
 have hcell:∀ i j,i < len -> j < 5 -> us[5 * i + j]? = some (us.getD (5 * i + j) undef):=fun i j hi hj => by
  have:5 * i + j < us.length:=by rw [hlen]; omega
  rw [getD_eq_getElem?_getD,getElem?_eq_getElem this]; rfl
 have hzc:∀ i j e y,rows[i]? = some e -> e[j]? = some y -> j < 5 -> z[5 * i + j]? = some y:=fun i j e y hi hy hj => by
  have hil:i < len:=by rw [<- hrl]; exact (List.getElem?_eq_some_iff.1 hi).1
  have h1:=flat_get hw hi hj;rw [<- hzt,getElem?_take,if_pos (by omega),hy] at h1;exact h1
 obtain ⟨C2,e2,i2,n2,x2⟩:=mk (fun b o => C'.F b o \/ (b = C'.bx p /\ o < 5 * len)) (fun _ _ h => .inl h) (fun b o h => h.imp id fun h => ⟨p,hlo,hp,h.1⟩);refine ⟨C2,i2,n2,x2,?_⟩;obtain ⟨hvl,hvc⟩:=hv;refine ⟨hvl,fun j c y hc hy => ?_⟩
 have hkl:len = v.kids.length:=by
  have:=congrArg length her
  rw [zas,length_map,zam] at this; omega
 match j with
 | 0 =>
  have h:=hvc 0 _ y rfl hy;simp only [vC,getElem?_cons_zero,sI] at hc; subst hc
  cases h with | v _ h => exact .v _ h
 | 1 =>
  have h:=hvc 1 _ y rfl hy;simp only [vC,getElem?_cons_succ,getElem?_cons_zero,sI] at hc; subst hc
  cases h with | v _ h => exact .v _ h
 | 2 =>
  have h:=hvc 2 _ y rfl hy;simp only [vC,getElem?_cons_succ,getElem?_cons_zero,sI] at hc; subst hc
  cases h with | v _ h => exact .v _ h
 | 3 =>
  have h:=hvc 3 _ y rfl hy;simp only [vC,getElem?_cons_succ,getElem?_cons_zero,sI] at hc; subst hc
  cases h with | v _ h => exact .v _ h
 | 4 =>
  have h:=hvc 4 _ y rfl hy;simp only [vC,getElem?_cons_succ,getElem?_cons_zero,sI] at hc; subst hc
  cases h with
  | row _ _ _ hpn hlc hcm =>
  have hra:RowAt C2 w' (C'.bx p) 0 5 (vK v.kids) (fun i j => us.getD (5 * i + j) undef):=by
   refine ⟨by decide,za7 _,fun i j hi hj => ?_,fun i j hi hj => ?_⟩
   ·rw [zam] at hi
    have h5:=hcell i j (by omega) hj
    have:0 + (5 * i + j) = 5 * i + j:=by omega
    rw [this];simp only [World.cell?,hh,getElem?_toArray,h5];rfl
   ·rw [zam] at hi
    rw [e2]; exact .inr ⟨rfl,by omega⟩
  have:=RpC.rd (C:=C2) (w:=w') (vK v.kids) (C'.bx p) 0 5 cap (fun i j => us.getD (5 * i + j) undef) (by rw [zam]; omega) hcm hra (fun i j e y he hy => by
   have hil:i < v.kids.length:=by have:=(List.getElem?_eq_some_iff.1 he).1; rw [zam] at this; exact this
   have hel:e.length = 5:=za7 _ e (mem_of_getElem? he);have hj:j < 5:=by have:=(List.getElem?_eq_some_iff.1 hy).1; omega
   rw [<- her,zas,getElem?_map] at he;obtain ⟨r,hr,rfl⟩:=Option.map_eq_some_iff.1 he;rw [zaw,getElem?_map] at hy;obtain ⟨q,hq,rfl⟩:=Option.map_eq_some_iff.1 hy;have h1:=hus (5 * i + j) q _ (hzc i j r q hr hq hj) (hcell i j (by omega) hj);exact h1.toEr (fun b o h => by rw [e2]; exact .inl h))
  rw [zam,<- hkl] at this
  exact this
 | j + 5 => simp [vC] at hc
theorem FnG.rowAG {E:Env} {f:Nat} {args:List PV} {bx:LP PC} {nt:Nat} {live:List Nat} {v:V} {ok:Bool} (hlw:∀ cs ∈ bx,lwL bx.length cs) (h:FnG E f args bx nt live (fun x b n l => ∃ cs rest,x = .tup [.ag cs,.d (pB ok)] /\ b = bx ++ rest /\ RowGl bx.length b cs v /\ nt <= n /\ ∀ t ∈ live,t ∈ l)) :
  FnG E f args bx nt live (fun x b n l => x = .tup [.ag (vC v),.d (pB ok)] /\ b = bx /\ nt <= n /\ l = live):=by
 intro C w vs hI hnt hold hn2 hl hv;refine (h C w vs hI hnt hold hn2 hl hv).mono ?_;rintro e w' ⟨u,x,bx2,n,l,C',rfl,⟨cs,rest,rfl,rfl,hR,hnn,hsub⟩,hJ,hn,hE,hx⟩
 match u,hx with
 | _,.tup _ [u0,u1] _ hx =>
  have h0:=hx 0 _ _ rfl rfl;have h1:=hx 1 _ _ rfl rfl
  cases h0 with
  | ag _ us h0 =>
  cases h1 with
  | d _ _ h1 =>
  cases h1 with
  | v _ hob =>
  obtain ⟨C2,i2,n2,x2,r2⟩:=rowG_core2 hI hlw hsub hJ hE hR h0;refine ⟨_,.tup [.ag (vC v),.d (pB ok)],bx,n,live,C2,rfl,⟨rfl,rfl,hnn,rfl⟩,i2,by rw [n2]; exact hn,x2,.tup _ [_,_] rfl fun j x y hx hy => ?_⟩
  match j with
  | 0 =>
   simp only [getElem?_cons_zero,sI] at hx hy
   subst hx; subst hy
   exact .ag _ _ r2
  | 1 =>
   simp only [getElem?_cons_succ,getElem?_cons_zero,sI] at hx hy
   subst hx; subst hy
   exact .d _ _ (.v _ hob)
  | j + 2 => simp at hx
end
section
def m_i_Put:M:=so [qo 3 (.box 0),qo 5 (.box 2),⟨some 6,.zero [.int .i64 0,.int .i64 0,.int .i64 0,.string ⟨[].toArray⟩,.slice none 0 0],none,[]⟩,qo 7 (.mv (cB false))] (so [qL 8 5 3,qm 9 1,qL 10 5 5,qc 11 57 [8,9,10,cB false] 1,qe 12 11 0,qe 13 11 1,qS 5 6 12,qm 7 13] .ret)
theorem lk_i_Put:look Tryz.prog 34 = some (14,m_i_Put,[.cell true 5 6,.tm 7]):=by kernel_rfl
def m_i_Insert:M:=so [qo 3 (.box 0),qo 5 (.box 2),⟨some 6,.zero [.int .i64 0,.int .i64 0,.int .i64 0,.string ⟨[].toArray⟩,.slice none 0 0],none,[]⟩,qo 7 (.mv (cB false))] (so [qL 8 5 3,qm 9 1,qL 10 5 5,qc 11 57 [8,9,10,cB true] 1,qe 12 11 0,qe 13 11 1,qS 5 6 12,qm 7 13] .ret)
theorem zgg:look Tryz.prog 35 = some (14,m_i_Insert,[.cell true 5 6,.tm 7]):=by kernel_rfl
def m_i_Remove:M:=so [qo 2 (.box 0),⟨some 4,.zero [.int .i64 0,.int .i64 0,.int .i64 0,.string ⟨[].toArray⟩,.slice none 0 0],none,[]⟩,qo 5 (.mv (cB false))] (.seq (so [qm 8 1,qc 9 58 [8] 1,qo 10 (.not 9),qm 11 10,qg 12 1 11 false,⟨some 13,.len 12,some (11,false),[]⟩,⟨some 14,.bin .eql false 13 (ci 0),some (11,false),[]⟩,qo 15 (.pick 11 (cB true) 14),qm 16 15,⟨some 17,.load true 5 2,some (16,false),[]⟩,⟨some 18,.call 33 [17],some (16,false),[.f 1]⟩,⟨some 19,.not 18,some (16,false),[]⟩,qo 20 (.pick 16 (cB true) 19)] (.cond 20 (so [qL 21 5 2,qc 22 38 [21] 1,qS 5 4 22,qo 5 (.mv (cB false))] .ret) .skip)) (so [qL 24 5 2,qm 25 1,qc 26 59 [24,25,.f 60] 1,qm 23 26,qe 27 23 0,qe 28 23 1,⟨some 6,.zero [.int .i64 0,.int .i64 0,.int .i64 0,.string ⟨[].toArray⟩,.slice none 0 0],none,[]⟩,qS 5 6 27,qm 7 28] (.seq (so [qm 29 7,qo 30 (.not 29)] (.cond 30 (so [qL 31 5 2,qc 32 38 [31] 1,qS 5 4 32,qo 5 (.mv (cB false))] .ret) .skip)) (so [qL 33 5 6,qc 34 38 [33] 1,qS 5 4 34,qo 5 (.mv (cB true))] .ret))))
theorem zgh:look Tryz.prog 36 = some (35,m_i_Remove,[.cell true 5 4,.tm 5]):=by kernel_rfl
def m_i_put:M:=so [qo 4 (.box 0),qo 6 (.box 2),qo 7 (.box 3),⟨some 8,.zero [.int .i64 0,.int .i64 0,.int .i64 0,.string ⟨[].toArray⟩,.slice none 0 0],none,[]⟩,qo 9 (.mv (cB false))] (.seq (so [qm 12 1,qc 13 58 [12] 1,qo 14 (.not 13),qm 15 14,⟨some 16,.load true 5 4,some (15,false),[]⟩,⟨some 17,.call 33 [16],some (15,false),[.f 1]⟩,⟨some 18,.not 17,some (15,false),[]⟩,qo 19 (.pick 15 (cB true) 18),qm 20 19,⟨some 21,.load true 5 6,some (20,false),[]⟩,⟨some 22,.call 33 [21],some (20,false),[.f 1]⟩,⟨some 23,.not 22,some (20,false),[]⟩,qo 24 (.pick 20 (cB true) 23)] (.cond 24 (so [qL 25 5 4,qc 26 38 [25] 1,qS 5 8 26,qo 9 (.mv (cB false))] .ret) .skip)) (so [qL 27 5 6,⟨some 10,.zero [.int .i64 0,.int .i64 0,.int .i64 0,.string ⟨[].toArray⟩,.slice none 0 0],none,[]⟩,qS 5 10 27,qo 11 (.mv (cB true))] (.seq (so [qm 28 1,qo 29 (.len 28),qo 30 (.bin .gtr false 29 (ci 0))] (.cond 30 (.ops [qL 32 5 4,qm 33 1,qo 34 (.mkfn 74 [6,7]),qc 35 59 [32,33,34] 1,qm 31 35,qe 36 31 0,qe 37 31 1,qS 5 10 36,qm 11 37]) .skip)) (.seq (so [qm 38 11,qo 39 (.not 38),qm 40 39,⟨some 41,.load true 5 10,some (40,false),[]⟩,⟨some 42,.call 33 [41],some (40,false),[.f 1]⟩,⟨some 43,.not 42,some (40,false),[]⟩,qo 44 (.pick 40 (cB true) 43)] (.cond 44 (so [qL 45 5 4,qc 46 38 [45] 1,qS 5 8 46,qo 9 (.mv (cB false))] .ret) .skip)) (so [qL 47 5 10,qc 48 38 [47] 1,qS 5 8 48,qo 9 (.mv (cB true))] .ret)))))
theorem lk_i_put:look Tryz.prog 57 = some (49,m_i_put,[.cell true 5 8,.tm 9]):=by kernel_rfl
def m_i_turn:M:=so [qo 3 (.box 0),⟨some 6,.zero [.int .i64 0,.int .i64 0,.int .i64 0,.string ⟨[].toArray⟩,.slice none 0 0],none,[]⟩,qo 7 (.mv (cB false))] (.seq (so [qm 11 1,qo 12 (.len 11),qo 13 (.bin .eql false 12 (ci 1))] (.cond 13 (so [qm 14 2,qL 15 5 3,qm 16 1,qo 17 (.ix 1 16 (ci 0)),ql 18 1 17,⟨some 19,.callv 14 [15,18],none,[.f 0]⟩,qe 20 19 0,qe 21 19 1,qS 5 6 20,qm 7 21] .ret) .skip)) (so [qL 22 5 3,qm 23 1,qo 24 (.ix 1 23 (ci 0)),ql 25 1 24,qc 26 79 [22,25] 0,qm 8 26] (.seq (so [qm 27 8,qo 28 (.bin .lss false 27 (ci 0))] (.cond 28 (so [⟨some 29,.build [.int .i64 0,.int .i64 0,.int .i64 0,.string ⟨[].toArray⟩,.slice none 0 0] [],none,[]⟩,qS 5 6 29,qo 7 (.mv (cB false))] .ret) .skip)) (.seq (.tree (.node [qF 31 4 3,ql 32 1 31,qm 33 8,qo 34 (.ix 5 32 33),qL 35 5 34,qm 36 1,qo 37 (.slc 1 36 (some (ci 1)) none),qm 38 2] (.alt (qc 39 59 [35,37,38] 0) (.node [qm 30 39,qe 40 30 0,qe 41 30 1] (.alt ⟨some 9,.zero [.int .i64 0,.int .i64 0,.int .i64 0,.string ⟨[].toArray⟩,.slice none 0 0],none,[]⟩ (.node [] (.alt (qS 5 9 40) (.node [qm 10 41] .leaf) .leaf)) .leaf)) (.alt ⟨some 9,.zero [.int .i64 0,.int .i64 0,.int .i64 0,.string ⟨[].toArray⟩,.slice none 0 0],none,[]⟩ (.node [] (.alt (qc 39 59 [35,37,38] 0) (.node [qm 30 39,qe 40 30 0,qe 41 30 1] (.alt (qS 5 9 40) (.node [qm 10 41] .leaf) .leaf)) .leaf)) .leaf)))) (.seq (so [qm 42 10,qo 43 (.not 42)] (.cond 43 (so [⟨some 44,.build [.int .i64 0,.int .i64 0,.int .i64 0,.string ⟨[].toArray⟩,.slice none 0 0] [],none,[]⟩,qS 5 6 44,qo 7 (.mv (cB false))] .ret) .skip)) (so [qF 45 4 3,ql 46 1 45,qc 47 80 [46] 1,qF 48 4 3,qS 1 48 47] (so [qF 49 4 3,ql 50 1 49,qm 51 8,qL 52 5 9,qo 53 (.ix 5 50 51),qS 5 53 52] (so [qL 54 5 3,qS 5 6 54,qo 7 (.mv (cB true))] .ret))))))))
theorem lk_i_turn:look Tryz.prog 59 = some (55,m_i_turn,[.cell true 5 6,.tm 7]):=by kernel_rfl
def m_i_without:M:=so [qo 2 (.box 0),⟨some 4,.zero [.int .i64 0,.int .i64 0,.int .i64 0,.string ⟨[].toArray⟩,.slice none 0 0],none,[]⟩,qo 5 (.mv (cB false))] (so [qL 7 5 2,qm 8 1,qc 9 79 [7,8] 1,qm 6 9] (.seq (.block 0 (so [qm 19 6,qo 20 (.bin .lss false 19 (ci 0)),qm 21 20,⟨some 22,.fld 0 2,some (21,false),[]⟩,⟨some 23,.load false 1 22,some (21,false),[]⟩,⟨some 24,.bin .eql false 23 (ci 9),some (21,false),[]⟩,qo 25 (.pick 21 (cB true) 24),qm 18 25] (.cond 18 (so [⟨some 26,.build [.int .i64 0,.int .i64 0,.int .i64 0,.string ⟨[].toArray⟩,.slice none 0 0] [],none,[]⟩,qS 5 4 26,qo 5 (.mv (cB false))] .ret) (so [qF 28 0 2,ql 29 1 28,qo 30 (.bin .eql false 29 (ci 8)),qm 27 30] (.cond 27 (.ops [qF 31 4 2,ql 32 1 31,qc 33 80 [32] 1,qm 34 6,qo 35 (.bin .sub false 34 (ci 1)),qm 36 6,qo 37 (.bin .add false 36 (ci 1)),qc 38 81 [33,35,37] 1,qF 39 4 2,qS 1 39 38]) (.ops [qF 10 4 2,ql 11 1 10,qc 12 80 [11] 1,qm 13 6,qm 14 6,qo 15 (.bin .add false 14 (ci 1)),qc 16 81 [12,13,15] 1,qF 17 4 2,qS 1 17 16])))))) (so [qL 40 5 2,qS 5 4 40,qo 5 (.mv (cB true))] .ret)))
theorem zfo:look Tryz.prog 60 = some (41,m_i_without,[.cell true 5 4,.tm 5]):=by kernel_rfl
def m_i_put_1:M:=so [qo 4 (.box 0),⟨some 6,.zero [.int .i64 0,.int .i64 0,.int .i64 0,.string ⟨[].toArray⟩,.slice none 0 0],none,[]⟩,qo 7 (.mv (cB false))] (so [qL 8 5 4,qm 9 1,qL 10 5 2,ql 11 1 3,qc 12 75 [8,9,10,11] 1,qe 13 12 0,qe 14 12 1,qS 5 6 13,qm 7 14] .ret)
theorem lk_i_put_1:look Tryz.prog 74 = some (15,m_i_put_1,[.cell true 5 6,.tm 7]):=by kernel_rfl
def m_i_with:M:=so [qo 4 (.box 0),qo 6 (.box 2),⟨some 8,.zero [.int .i64 0,.int .i64 0,.int .i64 0,.string ⟨[].toArray⟩,.slice none 0 0],none,[]⟩,qo 9 (.mv (cB false))] (so [qL 11 5 4,qm 12 1,qc 13 79 [11,12] 1,qm 10 13] (so [qF 14 4 4,ql 15 1 14,qc 16 80 [15] 1,qF 17 4 4,qS 1 17 16] (.seq (.block 0 (so [qm 20 10,qo 21 (.bin .geq false 20 (ci 0)),qm 22 21,qg 23 3 22 true,qo 24 (.pick 22 23 (cB false)),qm 25 24,⟨some 26,.fld 0 4,some (25,true),[]⟩,⟨some 27,.load false 1 26,some (25,true),[]⟩,⟨some 28,.bin .eql false 27 (ci 7),some (25,true),[]⟩,qo 29 (.pick 25 28 (cB false)),qm 19 29] (.cond 19 (.ops [qF 30 4 4,ql 31 1 30,qm 32 10,qL 33 5 6,qo 34 (.lit 5 [33]),qc 35 92 [31,32,34] 1,qF 36 4 4,qS 1 36 35]) (so [qm 38 10,qo 39 (.bin .geq false 38 (ci 0)),qm 37 39] (.cond 37 (.ops [qF 40 4 4,ql 41 1 40,qm 42 10,qL 43 5 6,qo 44 (.ix 5 41 42),qS 5 44 43]) (so [qF 46 0 4,ql 47 1 46,qo 48 (.bin .eql false 47 (ci 8)),qm 45 48] (.cond 45 (.ops [qF 49 4 4,ql 50 1 49,qm 51 1,⟨some 52,.build [.int .i64 0,.int .i64 0,.int .i64 0,.string ⟨[].toArray⟩,.slice none 0 0] [(0,1,ci 5),(3,1,51)],none,[]⟩,qL 53 5 6,qo 54 (.lit 5 [52,53]),⟨some 55,.app 5 50 54,none,[.f 1]⟩,qF 56 4 4,qS 1 56 55]) (so [qF 58 0 4,ql 59 1 58,qo 60 (.bin .eql false 59 (ci 7)),qm 61 60,qg 62 1 61 true,⟨some 64,.fld 4 4,some (61,true),[]⟩,⟨some 65,.load false 1 64,some (61,true),[]⟩,⟨some 66,.len 65,some (61,true),[]⟩,⟨some 63,.call 93 [62],some (61,true),[.f 0,64]⟩,⟨some 67,.bin .eql false 63 66,some (61,true),[]⟩,qo 68 (.pick 61 67 (cB false)),qm 57 68] (.cond 57 (.ops [qF 69 4 4,ql 70 1 69,qL 71 5 6,qo 72 (.lit 5 [71]),⟨some 73,.app 5 70 72,none,[.f 1]⟩,qF 74 4 4,qS 1 74 73]) (so [⟨some 18,.build [.int .i64 0,.int .i64 0,.int .i64 0,.string ⟨[].toArray⟩,.slice none 0 0] [],none,[]⟩,qS 5 8 18,qo 9 (.mv (cB false))] .ret)))))))))) (so [qL 75 5 4,qS 5 8 75,qo 9 (.mv (cB true))] .ret))))
theorem lk_i_with:look Tryz.prog 75 = some (76,m_i_with,[.cell true 5 8,.tm 9]):=by kernel_rfl
end
section
variable {T:World -> Prop} {hT:Low ngl T}
attribute [local irreducible] po mw pt
theorem zcA {a0 a1 a2:List PC} {r b:LP PC} (h:∀ q,q < 3 -> b[q]? = (a0 :: a1 :: a2 :: r)[q]?):∃ r',b = a0 :: a1 :: a2 :: r':=by
 match b,h 0 (by decide),h 1 (by decide),h 2 (by decide) with
 | [],h0,_,_ => cases h0
 | [_],_,h1,_ => cases h1
 | [_,_],_,_,h2 => cases h2
 | x0 :: x1 :: x2 :: r',h0,h1,h2 =>
  simp only [getElem?_cons_zero,getElem?_cons_succ,sI] at h0 h1 h2
  subst h0; subst h1; subst h2
  exact ⟨r',rfl⟩
theorem cons3 {live:List Nat} {c:PC} {a0 a1 a2 b0 b1 b2:List PC} {r rows:LP PC} (h:RwL 5 3 live c (a0 :: a1 :: a2 :: r) rows):RwL 5 3 live c (b0 :: b1 :: b2 :: r) rows :=
 h.cong lR fun q hq _ => by
  obtain ⟨k,rfl⟩:∃ k,q = k + 3:=⟨q - 3,by omega⟩;rfl
def WI (v:V) (a1:List PC) (t1 t2:Nat) (r:V × Bool) (s:St):Prop:=∃ c rest rows ks,r = (v.withK ks,true) /\ has s.tm [(t1,.ref 0 0),(t2,.ref 2 0)] /\ s.bx = [pI v.kind,pI v.num,pI v.exp,pS v.text,c] :: a1 :: [pI 0,pI 0,pI 0,pS [],.sl 1 []] :: rest /\ RwL 5 3 s.live c s.bx rows /\ erLL rows = vK ks
theorem vK_ins (ks:List V) (i:Nat) (x:V):erLL ((vK ks).take i ++ vC x :: (vK ks).drop i) = vK (ks.take i ++ x :: ks.drop i):=by
 have h:(vK ks).take i ++ vC x :: (vK ks).drop i = vK (ks.take i ++ x :: ks.drop i):=by
  rw [show x :: ks.drop i = [x] ++ ks.drop i from rfl,zbW,zbW,zdD];simp [vK]
 rw [h,zcX]
theorem RwL.more {n lo:Nat} {live:List Nat} {c:PC} {bx rows:LP PC} (h:RwL n lo live c bx rows) (t:Nat):RwL n lo (t :: live) c bx rows:=⟨RwAt.mono h.1 fun _ ht => mem_cons_of_mem _ ht,h.2⟩
theorem RwL.apps {n lo:Nat} {live:List Nat} {c:PC} {bx rows ds:LP PC} (hw:∀ e ∈ rows,e.length = n) (hd:∀ e ∈ ds,e.length = n) (h:RwAt n lo live c bx (rows.flatten ++ ds.flatten)):RwL n lo live c bx (rows ++ ds) :=
 ⟨by rw [flatten_append]; exact h,fun e he => (mem_append.1 he).elim (hw e) (hd e)⟩
theorem withI_fn (hTen:∀ w,T w -> TenTab w) (hErr:∀ w,T w -> ErrTab w) (v x:V) (s:L8) (ins:Bool) (hb:v.kids.length <= 4294967290) (hs:s.length <= 2147483647):FnV (env T hT) 75 [.ag (vC v),.d (pS s),.ag (vC x),.d (pB ins)] (.tup [.ag (vC (withI x ins v s).1),.d (pB (withI x ins v s).2)]):=by
 refine FnG.rowA (zbN (zaf lk_i_with) (by show 4 <= 76; decide) fun B hB => ?_);unfold m_i_with
 refine mO ?_;refine zal (cs:=vC v) rfl ?_;refine zal (cs:=vC x) rfl ?_;refine mN ?_;refine mO ?_;refine zaa (p:=0) (cs:=vC v) rfl rfl rfl rfl ?_;refine mS ?_;refine zac (args:=[.ag (vC v),.d (pS s)]) (zdO v s) (zdb (T:=T) (hT:=hT) hTen hErr v s (by omega) hs) ?_;refine mN ?_;refine mO ?_;(iterate 2 refine mS ?_);refine po_g rfl (zc9 (T:=T) (hT:=hT) (ks:=v.kids) (by omega) _ 2 []) ?_;rintro y b n l ⟨rfl,rfl,c,rfl,rest,rfl,hR⟩;refine mS ?_;refine zaC (p:=0) (o':=4) (cs:=[c]) (z:=vC v) rfl rfl rfl ⟨rfl,Nat.le_of_ble_eq_true rfl⟩ rfl ?_;refine zaj ?_;have hR1:RwL 5 3 [] c ([pI v.kind,pI v.num,pI v.exp,pS v.text,c] :: vC x :: [pI 0,pI 0,pI 0,pS [],.sl 1 []] :: rest) (vK v.kids):=cons3 hR;show mw _ _ _ _ ⟨_,[pI v.kind,pI v.num,pI v.exp,pS v.text,c] :: vC x :: [pI 0,pI 0,pI 0,pS [],.sl 1 []] :: rest,_,_⟩;clear hR;refine zaS (WI v (vC x) 4 8 (withI x ins v s)) ?_ ?_
 ·refine zak ?_
  refine mQ ?_;by_cases hk:0 <= kidI v s
  ·obtain ⟨i,hi⟩:∃ i:Nat,kidI v s = i:=⟨(kidI v s).toNat,by omega⟩
   have hlt:=zaN hk;have hil:i < v.kids.length:=by omega
   refine zah rfl rfl (decide_eq_true hk) ?_;refine mS ?_;by_cases hc:ins = true /\ v.kind = 7
   ·obtain ⟨rfl,h7⟩:=hc
    have hwe:withI x true v s = (v.withK (v.kids.take i ++ x :: v.kids.drop i),true):=by
     unfold withI; rw [if_pos ⟨hk,rfl,h7⟩,hi,Int.toNat_natCast]
    (iterate 5 refine mS ?_);refine zah rfl rfl (beq_iff_eq.2 h7) ?_;refine mT ?_;refine zap ?_;(iterate 3 refine mS ?_);refine zaa (p:=1) (cs:=vC x) rfl rfl rfl rfl ?_;refine zbO (es:=[vC x]) rfl ?_;refine po_g (by rw [<- hi]; rfl) (ins5_g (T:=T) (hT:=hT) (hR1.more _) (i:=i) (by rw [zam]; exact hil) (by rw [zam]; omega) (show (vC x).length = 5 from rfl) (mem_cons_self ..)) ?_;rintro y b n l ⟨rfl,rfl,c',rfl,hR2,hbl,hlow⟩;obtain ⟨r',rfl⟩:=zcA hlow;refine mS ?_;refine zaC (p:=0) (o':=4) (cs:=[c']) (z:=[pI v.kind,pI v.num,pI v.exp,pS v.text,c]) rfl rfl rfl ⟨rfl,Nat.le_of_ble_eq_true rfl⟩ rfl ?_;refine zaj ?_;exact ⟨c',r',_,_,hwe,⟨rfl,rfl,trivial⟩,rfl,cons3 hR2,vK_ins _ _ _⟩
   have hwe:withI x ins v s = (v.withK (v.kids.set i x),true):=by
    unfold withI; rw [if_neg (fun h => hc h.2),if_pos hk,hi,Int.toNat_natCast]
   have hc':ins = false \/ ins = true /\ ¬ v.kind = 7:=by
    cases ins with
    | false => exact .inl rfl
    | true => exact .inr ⟨rfl,fun h => hc ⟨rfl,h⟩⟩
   rcases hc' with rfl | ⟨rfl,h7⟩
   ·(iterate 3 refine mS ?_)
    refine mZ ?_;refine mF ?_;refine mQ ?_;refine zah rfl rfl (decide_eq_true hk) ?_;refine mT ?_;refine zap ?_;(iterate 3 refine mS ?_);refine zaa (p:=1) (cs:=vC x) rfl rfl rfl rfl ?_;refine po_ixR (i:=i) hR1.1 (by decide) hi (by rw [zaI hR1.2,zam]; omega) rfl rfl rfl ?_;intro p len cap z e1 hp hz hzl hlc hfl hil' hfit;subst e1;refine zaC (p:=p) (o':=5 * i) (cs:=vC x) (z:=z) rfl rfl hz ⟨rfl,hfit⟩ rfl ?_;refine zaj ?_;have hRs:=hR1.set (by decide) (by rw [zam]; exact hil) (show (vC x).length = 5 from rfl) hz;rw [vK_set] at hRs;have hlow:=fun (q:Nat) (hq:q < 3) => getElem?_set_ne (l:=[pI v.kind,pI v.num,pI v.exp,pS v.text,(.row p len cap)] :: vC x :: [pI 0,pI 0,pI 0,pS [],.sl 1 []] :: rest) (a:=spl z (5 * i) (vC x)) (show p ≠ q by omega)
    obtain ⟨r',hr'⟩:=zcA hlow;exact ⟨_,r',_,_,hwe,⟨rfl,rfl,trivial⟩,hr',hRs,zcX _⟩
   ·(iterate 5 refine mS ?_)
    refine zan rfl rfl (beq_eq_false_iff_ne.2 h7) ?_;refine mF ?_;refine mQ ?_;refine zah rfl rfl (decide_eq_true hk) ?_;refine mT ?_;refine zap ?_;(iterate 3 refine mS ?_);refine zaa (p:=1) (cs:=vC x) rfl rfl rfl rfl ?_;refine po_ixR (i:=i) hR1.1 (by decide) hi (by rw [zaI hR1.2,zam]; omega) rfl rfl rfl ?_;intro p len cap z e1 hp hz hzl hlc hfl hil' hfit;subst e1;refine zaC (p:=p) (o':=5 * i) (cs:=vC x) (z:=z) rfl rfl hz ⟨rfl,hfit⟩ rfl ?_;refine zaj ?_;have hRs:=hR1.set (by decide) (by rw [zam]; exact hil) (show (vC x).length = 5 from rfl) hz;rw [vK_set] at hRs;have hlow:=fun (q:Nat) (hq:q < 3) => getElem?_set_ne (l:=[pI v.kind,pI v.num,pI v.exp,pS v.text,(.row p len cap)] :: vC x :: [pI 0,pI 0,pI 0,pS [],.sl 1 []] :: rest) (a:=spl z (5 * i) (vC x)) (show p ≠ q by omega)
    obtain ⟨r',hr'⟩:=zcA hlow;exact ⟨_,r',_,_,hwe,⟨rfl,rfl,trivial⟩,hr',hRs,zcX _⟩
  refine zan rfl rfl (decide_eq_false hk) ?_;refine mS ?_;refine zfS rfl ?_;(iterate 2 refine mS ?_);refine mZ ?_;refine mF ?_;refine mQ ?_;refine zan rfl rfl (decide_eq_false hk) ?_;refine mF ?_;refine mO ?_;(iterate 2 refine mS ?_);by_cases h8:v.kind = 8
  ·have hwe:withI x ins v s = (v.withK (v.kids ++ [.mk 5 0 0 s [],x]),true):=by
    unfold withI; rw [if_neg (fun h => hk h.1),if_neg hk,if_pos h8]
   have hdw:∀ e ∈ [[pI 5,pI 0,pI 0,pS s,.sl 1 []],vC x],e.length = 5:=fun e he => by
    rcases mem_cons.1 he with rfl | he
    ·rfl
    ·rw [mem_singleton] at he; subst he; rfl
   refine zah rfl rfl (beq_iff_eq.2 h8) ?_;refine mT ?_;refine zap ?_;(iterate 4 refine mS ?_);refine zaa (p:=1) (cs:=vC x) rfl rfl rfl rfl ?_;refine zbO (es:=[[pI 5,pI 0,pI 0,pS s,.sl 1 []],vC x]) rfl ?_;refine zfZ (m:=v.kids.length) (ds:=[[pI 5,pI 0,pI 0,pS s,.sl 1 []],vC x]) (hR1.more _).1 (by simp) (by rw [zaI hR1.2,zam]) (by decide) (by simp only [length_cons,length_nil]; omega) hdw rfl rfl ?_;intro c' bx' hR' hlow;obtain ⟨r',rfl⟩:=zcA hlow;refine mS ?_;refine zaC (p:=0) (o':=4) (cs:=[c']) (z:=[pI v.kind,pI v.num,pI v.exp,pS v.text,c]) rfl rfl rfl ⟨rfl,Nat.le_of_ble_eq_true rfl⟩ rfl ?_;refine zaj ?_;refine ⟨c',r',_,_,hwe,⟨rfl,rfl,trivial⟩,rfl,cons3 (RwL.apps hR1.2 hdw hR'),?_⟩;rw [zbW,zas,map_append,<- zas,zcX]
   congr 1
   show [erL _,erL (vC x)] = _;rw [zai,show [V.mk 5 0 0 s [],x] = [V.mk 5 0 0 s []] ++ [x] from rfl,zbW,zdD,zdD];rfl
  refine zan rfl rfl (beq_eq_false_iff_ne.2 h8) ?_;refine mF ?_;refine mO ?_;(iterate 2 refine mS ?_);by_cases h7n:v.kind = 7 /\ ixI s = v.kids.length
  ·obtain ⟨h7,hn⟩:=h7n
   have hwe:withI x ins v s = (v.withK (v.kids ++ [x]),true):=by
    unfold withI; rw [if_neg (fun h => hk h.1),if_neg hk,if_neg h8,if_pos ⟨h7,hn⟩]
   refine zah rfl rfl (beq_iff_eq.2 h7) ?_;(iterate 4 refine mS ?_);refine po_lenR (k:=v.kids.length) hR1.1 (by rw [zaI hR1.2,zam]) (by decide) rfl rfl ?_;refine zaM (b:=true) (args:=[.d (pS s)]) rfl (fun _ => rfl) (fun _ => zcK (T:=T) (hT:=hT) hTen hErr s hs) ?_;refine zah rfl rfl (beq_iff_eq.2 hn) ?_;refine mT ?_;refine zap ?_;(iterate 2 refine mS ?_);refine zaa (p:=1) (cs:=vC x) rfl rfl rfl rfl ?_;refine zbO (es:=[vC x]) rfl ?_;refine zfZ (m:=v.kids.length) (ds:=[vC x]) (hR1.more _).1 (by simp) (by rw [zaI hR1.2,zam]) (by decide) (by simp only [length_cons,length_nil]; omega) (fun e he => by rw [mem_singleton] at he; subst he; rfl) rfl rfl ?_;intro c' bx' hR' hlow;obtain ⟨r',rfl⟩:=zcA hlow;refine mS ?_;refine zaC (p:=0) (o':=4) (cs:=[c']) (z:=[pI v.kind,pI v.num,pI v.exp,pS v.text,c]) rfl rfl rfl ⟨rfl,Nat.le_of_ble_eq_true rfl⟩ rfl ?_
   refine zaj ?_;refine ⟨c',r',_,_,hwe,⟨rfl,rfl,trivial⟩,rfl,cons3 (RwL.apps hR1.2 (fun e he => by rw [mem_singleton] at he; subst he; rfl) hR'),?_⟩;rw [zbW,zas,map_append,<- zas,zcX,zdD]
   congr 1
   show [erL (vC x)] = _;rw [zai]
  have hwe:withI x ins v s = (zP,false):=by
   unfold withI; rw [if_neg (fun h => hk h.1),if_neg hk,if_neg h8,if_neg h7n]
  by_cases h7:v.kind = 7
  ·refine zah rfl rfl (beq_iff_eq.2 h7) ?_
   (iterate 4 refine mS ?_);refine po_lenR (k:=v.kids.length) hR1.1 (by rw [zaI hR1.2,zam]) (by decide) rfl rfl ?_;refine zaM (b:=true) (args:=[.d (pS s)]) rfl (fun _ => rfl) (fun _ => zcK (T:=T) (hT:=hT) hTen hErr s hs) ?_;refine zan rfl rfl (beq_eq_false_iff_ne.2 (fun h => h7n ⟨h7,h⟩)) ?_;refine mF ?_;refine mQ ?_;refine zad (p:=2) (cs:=[pI 0,pI 0,pI 0,pS [],.sl 1 []]) (z:=[pI 0,pI 0,pI 0,pS [],.sl 1 []]) rfl rfl rfl rfl rfl rfl ?_;refine mN ?_;rw [hwe];exact zab ⟨.inr rfl,[.ag [pI 0,pI 0,pI 0,pS [],.sl 1 []],.d (pB false)],rfl,_,rfl,.inl rfl⟩
  ·refine zan rfl rfl (beq_eq_false_iff_ne.2 h7) ?_
   refine mS ?_;refine mZ ?_;refine mF ?_;refine mQ ?_;refine zad (p:=2) (cs:=[pI 0,pI 0,pI 0,pS [],.sl 1 []]) (z:=[pI 0,pI 0,pI 0,pS [],.sl 1 []]) rfl rfl rfl rfl rfl rfl ?_;refine mN ?_;rw [hwe];exact zab ⟨.inr rfl,[.ag [pI 0,pI 0,pI 0,pS [],.sl 1 []],.d (pB false)],rfl,_,rfl,.inl rfl⟩
 rintro tm bx nt live ⟨c,rest,rows,ks,hw,ht,hbx,hR,her⟩;obtain ⟨tm1,rfl⟩:=zaq ht;simp only at hbx hR;subst hbx;refine mO ?_;refine zaa (p:=0) (cs:=[pI v.kind,pI v.num,pI v.exp,pS v.text,c]) rfl rfl rfl rfl ?_;refine zad (p:=2) (cs:=[pI v.kind,pI v.num,pI v.exp,pS v.text,c]) (z:=[pI 0,pI 0,pI 0,pS [],.sl 1 []]) rfl rfl rfl rfl rfl rfl ?_;refine mN ?_;rw [hw];exact zab ⟨.inr rfl,[.ag [pI v.kind,pI v.num,pI v.exp,pS v.text,c],.d (pB true)],rfl,_,rfl,RowG.of (v:=v.withK ks) (cons3 hR) her⟩
theorem two_of {a0 a1:List PC} {r b:LP PC} (h:∀ q,q < 2 -> b[q]? = (a0 :: a1 :: r)[q]?):∃ r',b = a0 :: a1 :: r':=by
 match b,h 0 (by decide),h 1 (by decide) with
 | [],h0,_ => cases h0
 | [_],_,h1 => cases h1
 | x0 :: x1 :: r',h0,h1 =>
  simp only [getElem?_cons_zero,getElem?_cons_succ,sI] at h0 h1
  subst h0; subst h1
  exact ⟨r',rfl⟩
theorem cons2 {live:List Nat} {c:PC} {a0 a1 b0 b1:List PC} {r rows:LP PC} (h:RwL 5 2 live c (a0 :: a1 :: r) rows):RwL 5 2 live c (b0 :: b1 :: r) rows :=
 h.cong lR fun q hq _ => by
  obtain ⟨k,rfl⟩:∃ k,q = k + 2:=⟨q - 2,by omega⟩;rfl
theorem vK_cut (ks:List V) (a b:Nat):(vK ks).take a ++ (vK ks).drop b = vK (ks.take a ++ ks.drop b):=by simp [vK]
def WO (v:V) (r:V × Bool) (s:St):Prop:=∃ c rest ks,r = (v.withK ks,true) /\ has s.tm [(2,.ref 0 0),(4,.ref 1 0)] /\ s.bx = [pI v.kind,pI v.num,pI v.exp,pS v.text,c] :: [pI 0,pI 0,pI 0,pS [],.sl 1 []] :: rest /\ RwL 5 2 s.live c s.bx (vK ks)
theorem outI_fn (hTen:∀ w,T w -> TenTab w) (hErr:∀ w,T w -> ErrTab w) (v:V) (s:L8) (hb:v.kids.length <= 4294967290) (hs:s.length <= 2147483647):FnV (env T hT) 60 [.ag (vC v),.d (pS s)] (.tup [.ag (vC (outI v s).1),.d (pB (outI v s).2)]):=by
 refine FnG.rowA (zbN (zaf zfo) (by show 2 <= 41; decide) fun B hB => ?_);unfold m_i_without;refine mO ?_;refine zal (cs:=vC v) rfl ?_;refine mN ?_;refine mO ?_;refine zaa (p:=0) (cs:=vC v) rfl rfl rfl rfl ?_;refine mS ?_;refine zac (args:=[.ag (vC v),.d (pS s)]) (zdO v s) (zdb (T:=T) (hT:=hT) hTen hErr v s (by omega) hs) ?_;refine mN ?_;refine zaS (WO v (outI v s)) ?_ ?_
 ·refine zak ?_
  refine mQ ?_;by_cases hk:kidI v s < 0
  ·have hwe:outI v s = (zP,false):=by unfold outI; rw [if_pos (.inl hk)]
   refine zah rfl rfl (decide_eq_true hk) ?_;refine mS ?_;refine mZ ?_;refine mT ?_;refine mQ ?_;refine zad (p:=1) (cs:=[pI 0,pI 0,pI 0,pS [],.sl 1 []]) (z:=[pI 0,pI 0,pI 0,pS [],.sl 1 []]) rfl rfl rfl rfl rfl rfl ?_;refine mN ?_;rw [hwe];exact zab ⟨.inr rfl,[.ag [pI 0,pI 0,pI 0,pS [],.sl 1 []],.d (pB false)],rfl,_,rfl,.inl rfl⟩
  obtain ⟨i,hi⟩:∃ i:Nat,kidI v s = i:=⟨(kidI v s).toNat,by omega⟩;have hlt:=zaN (show 0 <= kidI v s by omega);have hil:i < v.kids.length:=by omega
  refine zan rfl rfl (decide_eq_false hk) ?_;(iterate 3 refine mS ?_);by_cases h9:v.kind = 9
  ·have hwe:outI v s = (zP,false):=by unfold outI; rw [if_pos (.inr h9)]
   refine zah rfl rfl (beq_iff_eq.2 h9) ?_;refine mT ?_;refine mQ ?_;refine zad (p:=1) (cs:=[pI 0,pI 0,pI 0,pS [],.sl 1 []]) (z:=[pI 0,pI 0,pI 0,pS [],.sl 1 []]) rfl rfl rfl rfl rfl rfl ?_;refine mN ?_;rw [hwe];exact zab ⟨.inr rfl,[.ag [pI 0,pI 0,pI 0,pS [],.sl 1 []],.d (pB false)],rfl,_,rfl,.inl rfl⟩
  refine zan rfl rfl (beq_eq_false_iff_ne.2 h9) ?_;refine mF ?_;refine mO ?_;(iterate 2 refine mS ?_);by_cases h8:v.kind = 8
  ·have hwe:outI v s = (v.withK (v.kids.take (i - 1) ++ v.kids.drop (i + 1)),true):=by
    unfold outI; rw [if_neg (fun h => h.elim hk h9),if_pos h8,hi,Int.toNat_natCast]
   have hi1:1 <= i:=by
    have h:=kid8 (s:=s) h8
    split at h <;> omega
   refine zah rfl rfl (beq_iff_eq.2 h8) ?_;refine mT ?_;refine zap ?_;(iterate 2 refine mS ?_);refine po_g rfl (zc9 (T:=T) (hT:=hT) (ks:=v.kids) (by omega) _ 2 []) ?_;rintro y b n l ⟨rfl,rfl,c,rfl,rest,rfl,hR⟩;refine mS ?_;refine po_sub (n:=((i - 1:Nat):Int)) rfl rfl rfl (by omega) (by omega) ?_;refine mS ?_;refine zaZ (n:=((i + 1:Nat):Int)) rfl rfl rfl (by omega) (by omega) ?_;refine po_g rfl (del5_g (T:=T) (hT:=hT) hR (i:=i - 1) (j:=i + 1) (by omega) (by rw [zam]; omega)) ?_;rintro y b n l ⟨rfl,rfl,c',rfl,hR2,hlow⟩;obtain ⟨r',rfl⟩:=two_of hlow;rw [vK_cut] at hR2;refine mS ?_;refine zaC (p:=0) (o':=4) (cs:=[c']) (z:=vC v) rfl rfl rfl ⟨rfl,Nat.le_of_ble_eq_true rfl⟩ rfl ?_;refine zaj ?_;exact ⟨c',r',_,hwe,⟨rfl,rfl,trivial⟩,rfl,cons2 hR2⟩
  ·have hwe:outI v s = (v.withK (v.kids.take i ++ v.kids.drop (i + 1)),true):=by
    unfold outI; rw [if_neg (fun h => h.elim hk h9),if_neg h8,hi,Int.toNat_natCast]
   refine zan rfl rfl (beq_eq_false_iff_ne.2 h8) ?_;refine mF ?_;refine zap ?_;(iterate 2 refine mS ?_);refine po_g rfl (zc9 (T:=T) (hT:=hT) (ks:=v.kids) (by omega) _ 2 []) ?_;rintro y b n l ⟨rfl,rfl,c,rfl,rest,rfl,hR⟩;(iterate 2 refine mS ?_);refine zaZ (n:=((i + 1:Nat):Int)) rfl rfl rfl (by omega) (by omega) ?_;refine po_g (by rw [<- hi]; rfl) (del5_g (T:=T) (hT:=hT) hR (i:=i) (j:=i + 1) (by omega) (by rw [zam]; omega)) ?_;rintro y b n l ⟨rfl,rfl,c',rfl,hR2,hlow⟩;obtain ⟨r',rfl⟩:=two_of hlow;rw [vK_cut] at hR2;refine mS ?_;refine zaC (p:=0) (o':=4) (cs:=[c']) (z:=vC v) rfl rfl rfl ⟨rfl,Nat.le_of_ble_eq_true rfl⟩ rfl ?_;refine zaj ?_;exact ⟨c',r',_,hwe,⟨rfl,rfl,trivial⟩,rfl,cons2 hR2⟩
 rintro tm bx nt live ⟨c,rest,ks,hw,ht,hbx,hR⟩;obtain ⟨tm1,rfl⟩:=zaq ht;simp only at hbx hR;subst hbx;refine mO ?_;refine zaa (p:=0) (cs:=[pI v.kind,pI v.num,pI v.exp,pS v.text,c]) rfl rfl rfl rfl ?_;refine zad (p:=1) (cs:=[pI v.kind,pI v.num,pI v.exp,pS v.text,c]) (z:=[pI 0,pI 0,pI 0,pS [],.sl 1 []]) rfl rfl rfl rfl rfl rfl ?_;refine mN ?_;rw [hw];exact zab ⟨.inr rfl,[.ag [pI v.kind,pI v.num,pI v.exp,pS v.text,c],.d (pB true)],rfl,_,rfl,RowG.of (v:=v.withK ks) (cons2 hR) (zcX ks)⟩
mutual
theorem PC.lw_le {a b:Nat} (h:a <= b):∀ {c:PC},c.lw a -> c.lw b
 | .v _,_ => by simp only [PC.lw]
 | .bld p _ _ _,hc => by simp only [PC.lw] at hc ⊢; omega
 | .anyp,_ => by simp only [PC.lw]
 | .row p _ _,hc => by simp only [PC.lw] at hc ⊢; omega
 | .sl t es,hc => by
  simp only [PC.lw] at hc ⊢;exact lwLL_le h hc
theorem lwL_le {a b:Nat} (h:a <= b):∀ {c:List PC},lwL a c -> lwL b c
 | [],_ => by simp only [lwL]
 | c :: cs,hc => by
  simp only [lwL] at hc ⊢;exact ⟨PC.lw_le h hc.1,lwL_le h hc.2⟩
theorem lwLL_le {a b:Nat} (h:a <= b):∀ {c:LP PC},lwLL a c -> lwLL b c
 | [],_ => by simp only [lwLL]
 | c :: cs,hc => by
  simp only [lwLL] at hc ⊢;exact ⟨lwL_le h hc.1,lwLL_le h hc.2⟩
end
theorem zdP {α:Type} {bx b:List α} (h:∀ q,q < bx.length -> b[q]? = bx[q]?):∃ rest,b = bx ++ rest:=by
 refine ⟨b.drop bx.length,ext_getElem? fun q => ?_⟩;by_cases hq:q < bx.length
 ·rw [getElem?_append_left hq,h q hq]
 ·rw [getElem?_append_right (by omega),getElem?_drop]
  congr 1; omega
def z6:List PC:=[pI 0,pI 0,pI 0,pS [],.sl 1 []]
def TK (p0 p1:Nat) (b1:LP PC) (nt:Nat) (live:List Nat) (ki:Int) (pr:V × Bool) (s:St):Prop :=
 has s.tm [(3,.ref p0 0),(6,.ref p1 0),(8,.d (pI ki)),(9,.ref b1.length 0),(10,.d (pB pr.2))] /\ s.bx = (b1 ++ [z6]).set b1.length (vC pr.1) /\ nt <= s.nt /\ s.live = live
theorem turn_fn (hTen:∀ w,T w -> TenTab w) (hErr:∀ w,T w -> ErrTab w) {F:Nat} {caps:List PV} {P:LP PC -> Prop} (hP:∀ bx r,P bx -> P (bx ++ r)) {f:V -> L8 -> V × Bool} (hok:okFn (env T hT).P F = true) {M S:Nat} (hM:M <= 4294967290) (hS:S <= 2147483647)
  (hF:∀ (v:V) (s:L8) (bx:LP PC) (nt:Nat) (live:List Nat),P bx -> (∀ cs ∈ bx,lwL 0 cs) -> v.bulk <= M -> s.length <= S -> FnG (env T hT) F (.ag (vC v) :: .d (pS s) :: caps) bx nt live (fun x b n l => x = .tup [.ag (vC (f v s).1),.d (pB (f v s).2)] /\ b = bx /\ nt <= n /\ l = live)) :
  ∀ (st:List (L8)) (v:V) (bx:LP PC) (nt:Nat) (live:List Nat),st ≠ [] -> (∀ s ∈ st,s.length <= S) -> st.length <= 2147483647 -> v.bulk <= M -> P bx -> (∀ cs ∈ bx,lwL 0 cs) ->
   FnG (env T hT) 59 [.ag (vC v),.d (pSs st),.fn F caps] bx nt live (fun x b n l => x = .tup [.ag (vC (turnI f v st).1),.d (pB (turnI f v st).2)] /\ b = bx /\ nt <= n /\ l = live):=by
 intro st
 induction st with
 | nil => intro v bx nt live h; exact absurd rfl h
 | cons s r ih =>
  intro v bx nt live _ hs hl hv hPb hlw;have hsl:s.length <= S:=hs s (by simp);have hkl:v.kids.length <= 4294967290:=by have h:=hv; rw [V.bulk_eq v] at h; omega
  refine FnG.rowAG (fun cs hcs => lwL_le (Nat.zero_le _) (hlw cs hcs)) (zbN (zaf lk_i_turn) (by show 3 <= 55; decide) fun B hB => ?_);unfold m_i_turn;refine mO ?_;refine zal (cs:=vC v) rfl ?_;refine mN ?_;show mw _ _ _ _ ⟨up 7 (.d (.v (.bool false))) (up 6 (.ref (bx ++ [vC v]).length 0) (up 3 (.ref bx.length 0) _)),bx ++ [vC v] ++ [z6],nt,live⟩;have hP1:P (bx ++ [vC v] ++ [z6]):=hP _ _ (hP _ _ hPb)
  have hlw1:∀ cs ∈ bx ++ [vC v] ++ [z6],lwL 0 cs:=fun cs hcs => by
   rcases mem_append.1 hcs with hcs | hcs
   ·rcases mem_append.1 hcs with hcs | hcs
    ·exact hlw cs hcs
    ·rw [mem_singleton] at hcs; subst hcs; exact vlw (zai v)
   ·rw [mem_singleton] at hcs; subst hcs; exact vlw (v:=zP) rfl
  have h0:(bx ++ [vC v] ++ [z6])[bx.length]? = some (vC v):=by simp
  have h1:(bx ++ [vC v] ++ [z6])[(bx ++ [vC v]).length]? = some z6:=zaQ _ _;have hlow:∀ q,q < bx.length -> (bx ++ [vC v] ++ [z6])[q]? = bx[q]?:=fun q hq => by rw [append_assoc,getElem?_append_left hq]
  have hlen:(bx ++ [vC v] ++ [z6]).length = bx.length + 2:=by simp
  have hp1:(bx ++ [vC v]).length = bx.length + 1:=by simp
  generalize bx ++ [vC v] ++ [z6] = b1 at *;generalize (bx ++ [vC v]).length = p1 at *
  cases r with
  | nil =>
   refine mM ?_;refine mS ?_;refine zay (n:=1) rfl rfl rfl ?_;refine zah rfl rfl rfl ?_;refine mT ?_;refine mQ ?_;refine zaa (p:=bx.length) (cs:=vC v) rfl rfl h0 rfl ?_;refine mS ?_;refine za5 (es:=pSr [s]) (e:=[pS s]) rfl rfl rfl ⟨by decide,rfl⟩ rfl ?_;refine mS ?_;refine po_vg rfl hok rfl (hF v s b1 nt live hP1 hlw1 hv hsl) ?_;rw [zdF];generalize f v s = pr;rintro y b n l ⟨rfl,rfl,hn,rfl⟩;(iterate 2 refine mS ?_);refine zad (p:=p1) (cs:=vC pr.1) (z:=z6) rfl rfl h1 rfl rfl rfl ?_;refine mN ?_;obtain ⟨rest,hrest⟩:=zdP (bx:=bx) (b:=b.set p1 (vC pr.1)) (fun q hq => by rw [getElem?_set_ne (by omega)]; exact hlow q hq)
   exact zab ⟨.inr rfl,[.ag (vC pr.1),.d (pB pr.2)],zaz rfl (getElem?_set_self (by omega)) rfl rfl,_,rest,rfl,hrest,.inl (zai _),hn,fun t h => h⟩
  | cons s2 r2 =>
   refine mM ?_;refine mS ?_;refine zay (n:=r2.length + 2) rfl rfl (by rw [za6]; rfl) ?_;refine zan rfl rfl (beq_eq_false_iff_ne.2 (by omega)) ?_;refine mK ?_;refine mO ?_;refine zaa (p:=bx.length) (cs:=vC v) rfl rfl h0 rfl ?_;refine mS ?_;refine za5 (es:=pSr (s :: s2 :: r2)) (e:=[pS s]) rfl rfl rfl ⟨by decide,rfl⟩ rfl ?_;refine mS ?_;refine zac (args:=[.ag (vC v),.d (pS s)]) (zdO v s) (zdb (T:=T) (hT:=hT) hTen hErr v s (by omega) (by omega)) ?_;refine mN ?_;refine mM ?_;refine mS ?_;by_cases hk:kidI v s < 0
   ·refine zah rfl rfl (decide_eq_true hk) ?_
    refine mT ?_;refine mQ ?_;refine zad (p:=p1) (cs:=z6) (z:=z6) rfl rfl h1 rfl rfl rfl ?_;refine mN ?_;rw [zcI f v s (by simp) (by omega)];obtain ⟨rest,hrest⟩:=zdP (bx:=bx) (b:=b1.set p1 z6) (fun q hq => by rw [getElem?_set_ne (by omega)]; exact hlow q hq);exact zab ⟨.inr rfl,[.ag z6,.d (pB false)],zaz rfl (getElem?_set_self (by omega)) rfl rfl,_,rest,rfl,hrest,.inl rfl,lR,fun t h => h⟩
   obtain ⟨i,hi⟩:∃ i:Nat,kidI v s = i:=⟨(kidI v s).toNat,by omega⟩;have hlt:=zaN (show 0 <= kidI v s by omega);have hil:i < v.kids.length:=by omega
   have hkb:v.kids[i].bulk <= M:=V.bulk_get (by rw [V.bulk_eq] at hv; omega) i hil;refine zan rfl rfl (decide_eq_false hk) ?_;refine mK ?_;have hih:=fun b n l hPb hlwb => ih v.kids[i] b n l (by simp) (fun z hz => hs z (by simp [hz])) (by rw [length_cons] at hl; omega) hkb hPb hlwb
   rw [zcH f v s (r:=s2 :: r2) (by simp) hi hil];generalize turnI f v.kids[i] (s2 :: r2) = pr at hih ⊢;refine zaS (TK bx.length p1 b1 nt live (kidI v s) pr) ?_ ?_
   ·refine zek (show pt _ (TK bx.length p1 b1 nt live (kidI v s) pr) _ _ from ?_)
    refine zbo ?_;refine mS ?_;refine zaD (p:=bx.length) (o:=4) (cs:=vC v) (v:=.d (.sl 0 (vK v.kids))) rfl rfl h0 (Nat.le_of_ble_eq_true rfl) rfl ?_;refine mS ?_;refine za5 (es:=vK v.kids) (e:=vC v.kids[i]) rfl rfl rfl ⟨by omega,by rw [hi,Int.toNat_natCast]; exact zbj hil⟩ rfl ?_;(iterate 2 refine mS ?_);refine zcw (l:=1) (h:=(pSr (s :: s2 :: r2)).length) (es:=pSr (s :: s2 :: r2)) (rs:=pSr (s2 :: r2)) rfl rfl rfl rfl ⟨by rw [za6]; simp only [length_cons]; omega,lR⟩ (zfT _) (pSr_tl s _) ?_;refine mL ?_;refine zce ?_;refine zcS ?_ ?_
    ·refine po_g rfl (hih b1 nt live hP1 hlw1) ?_
     rintro y b n l ⟨rfl,rfl,hn,rfl⟩
     repeat' (first
      | exact zcd
      | refine zcS ?_ ?_
      | refine zaj ?_
      | refine zce ?_
      | (refine zdx ?_; exact ⟨⟨rfl,rfl,rfl,rfl,rfl,trivial⟩,rfl,hn,rfl⟩)
      | refine zbo ?_
      | refine zaH ?_
      | refine zad (p:=b.length) (cs:=vC pr.1) (z:=z6) rfl rfl (zaQ _ _) rfl rfl rfl ?_
      | refine po_s rfl rfl rfl ?_)
    ·refine zcS ?_ ?_
     ·refine zaH ?_
      refine zaj ?_;refine zbo ?_;refine zaj ?_;refine zce ?_;refine zcS ?_ ?_
      ·show po _ _ _ ⟨_,b1 ++ [z6],nt,live⟩
       refine po_g rfl (hih (b1 ++ [z6]) nt live (hP _ _ hP1) (fun cs hcs => by
        rcases mem_append.1 hcs with hcs | hcs
        ·exact hlw1 cs hcs
        ·rw [mem_singleton] at hcs; subst hcs; exact vlw (v:=zP) rfl)) ?_
       rintro y b n l ⟨rfl,rfl,hn,rfl⟩
       repeat' (first
        | exact zcd
        | refine zcS ?_ ?_
        | refine zaj ?_
        | refine zce ?_
        | (refine zdx ?_; exact ⟨⟨rfl,rfl,rfl,rfl,rfl,trivial⟩,rfl,hn,rfl⟩)
        | refine zbo ?_
        | refine zad (p:=b1.length) (cs:=vC pr.1) (z:=z6) rfl rfl (zaQ _ _) rfl rfl rfl ?_
        | refine po_s rfl rfl rfl ?_)
      ·exact zcd
     ·exact zcd
   rintro tm b n l ⟨ht,hbx,hn,hl⟩;obtain ⟨tm2,rfl⟩:=zaq ht;simp only at hbx hn hl;subst hl;clear ht;have g0:b[bx.length]? = some (vC v):=by rw [hbx,getElem?_set_ne (by omega),getElem?_append_left (by omega)]; exact h0
   have g1:b[p1]? = some z6:=by rw [hbx,getElem?_set_ne (by omega),getElem?_append_left (by omega)]; exact h1
   have g2:b[b1.length]? = some (vC pr.1):=by rw [hbx,getElem?_set_self (by simp)]
   have glow:∀ q,q < bx.length -> b[q]? = bx[q]?:=fun q hq => by rw [hbx,getElem?_set_ne (by omega),getElem?_append_left (by omega)]; exact hlow q hq
   have glen:b.length = bx.length + 3:=by rw [hbx,length_set,length_append,hlen]; rfl
   clear hbx;generalize b1.length = p2 at *;obtain ⟨pv,pb⟩:=pr;refine mM ?_;refine mS ?_
   cases pb with
   | false =>
    refine mT ?_;refine mQ ?_;refine zad (p:=p1) (cs:=z6) (z:=z6) rfl rfl g1 rfl rfl rfl ?_;refine mN ?_;obtain ⟨rest,hrest⟩:=zdP (bx:=bx) (b:=b.set p1 z6) (fun q hq => by rw [getElem?_set_ne (by omega)]; exact glow q hq)
    exact zab ⟨.inr rfl,[.ag z6,.d (pB false)],zaz rfl (getElem?_set_self (by omega)) rfl rfl,_,rest,rfl,hrest,.inl rfl,hn,fun t h => h⟩
   | true =>
    refine mK ?_;refine mQ ?_;refine zaD (p:=bx.length) (o:=4) (cs:=vC v) (v:=.d (.sl 0 (vK v.kids))) rfl rfl g0 (Nat.le_of_ble_eq_true rfl) rfl ?_;refine po_g rfl (zc9 (T:=T) (hT:=hT) (ks:=v.kids) (by omega) b n l) ?_;rintro y b' n' l' ⟨rfl,rfl,c,rfl,rest,rfl,hR⟩;refine mS ?_;have e0:(b ++ rest)[bx.length]? = some (vC v):=by rw [getElem?_append_left (by omega)]; exact g0
    refine zaC (p:=bx.length) (o':=4) (cs:=[c]) (z:=vC v) rfl rfl e0 ⟨rfl,Nat.le_of_ble_eq_true rfl⟩ rfl ?_;refine zaj ?_;have f0:((b ++ rest).set bx.length (spl (vC v) 4 [c]))[bx.length]? = some [pI v.kind,pI v.num,pI v.exp,pS v.text,c]:=getElem?_set_self (by rw [length_append]; omega);have f1:((b ++ rest).set bx.length (spl (vC v) 4 [c]))[p1]? = some z6:=by rw [getElem?_set_ne (by omega),getElem?_append_left (by omega)]; exact g1
    have f2:((b ++ rest).set bx.length (spl (vC v) 4 [c]))[p2]? = some (vC pv):=by rw [getElem?_set_ne (by omega),getElem?_append_left (by omega)]; exact g2
    have flow:∀ q,q < bx.length -> ((b ++ rest).set bx.length (spl (vC v) 4 [c]))[q]? = bx[q]?:=fun q hq => by rw [getElem?_set_ne (by omega),getElem?_append_left (by omega)]; exact glow q hq
    have fR:RwL 5 b.length l' c ((b ++ rest).set bx.length (spl (vC v) 4 [c])) (vK v.kids):=hR.cong (by simp) (fun q hq _ => getElem?_set_ne (by omega));have flen:b.length <= ((b ++ rest).set bx.length (spl (vC v) 4 [c])).length:=by rw [length_set,length_append]; omega
    generalize (b ++ rest).set bx.length (spl (vC v) 4 [c]) = b3 at *;refine mQ ?_;refine zaD (p:=bx.length) (o:=4) (cs:=[pI v.kind,pI v.num,pI v.exp,pS v.text,c]) (v:=.d c) rfl rfl f0 (Nat.le_of_ble_eq_true rfl) rfl ?_;refine mS ?_;refine zaa (p:=p2) (cs:=vC pv) rfl rfl f2 rfl ?_;refine po_ixR (i:=i) fR.1 (by decide) hi (by rw [zaI fR.2,zam]; omega) rfl rfl rfl ?_;intro p len cap z e1 hp hz hzl hlc hfl hil' hfit;subst e1;refine zaC (p:=p) (o':=5 * i) (cs:=vC pv) (z:=z) rfl rfl hz ⟨rfl,hfit⟩ rfl ?_;refine zaj ?_;have hRs:=fR.set (by decide) (by rw [zam]; exact hil) (show (vC pv).length = 5 from rfl) hz;rw [vK_set] at hRs;have k0:(b3.set p (spl z (5 * i) (vC pv)))[bx.length]? = some [pI v.kind,pI v.num,pI v.exp,pS v.text,.row p len cap]:=by rw [getElem?_set_ne (by omega)]; exact f0
    have k1:(b3.set p (spl z (5 * i) (vC pv)))[p1]? = some z6:=by rw [getElem?_set_ne (by omega)]; exact f1
    have klow:∀ q,q < bx.length -> (b3.set p (spl z (5 * i) (vC pv)))[q]? = bx[q]?:=fun q hq => by rw [getElem?_set_ne (by omega)]; exact flow q hq
    have klen:b.length <= (b3.set p (spl z (5 * i) (vC pv))).length:=by rw [length_set]; exact flen
    generalize b3.set p (spl z (5 * i) (vC pv)) = b4 at *;refine mO ?_;refine zaa (p:=bx.length) (cs:=[pI v.kind,pI v.num,pI v.exp,pS v.text,.row p len cap]) rfl rfl k0 rfl ?_;refine zad (p:=p1) (cs:=[pI v.kind,pI v.num,pI v.exp,pS v.text,.row p len cap]) (z:=z6) rfl rfl k1 rfl rfl rfl ?_;refine mN ?_;obtain ⟨rest5,hrest⟩:=zdP (bx:=bx) (b:=b4.set p1 [pI v.kind,pI v.num,pI v.exp,pS v.text,.row p len cap]) (fun q hq => by rw [getElem?_set_ne (by omega)]; exact klow q hq);have hR5:=(hRs.cong (bx':=b4.set p1 [pI v.kind,pI v.num,pI v.exp,pS v.text,.row p len cap]) (by simp) (fun q hq _ => getElem?_set_ne (by omega))).low (show bx.length <= b.length by omega);exact zab ⟨.inr rfl,[.ag [pI v.kind,pI v.num,pI v.exp,pS v.text,.row p len cap],.d (pB true)],zaz rfl (getElem?_set_self (by omega)) rfl rfl,_,rest5,rfl,hrest,RowGl.of (v:=v.withK (v.kids.set i pv)) hR5 (zcX _),hn,fun t h => h⟩
end
section
def VSmA (n:Nat):Prop:=∀ (x y:V) (cs ds:List Value) (w:World),x.nodes <= n -> Rd w x.d cs -> Rd w y.d ds -> x.bulk <= 4294967295 -> y.bulk <= 4294967295 ->
 Calls Tryz.prog 39 #[.agg cs.toArray,.agg ds.toArray] w fun e w' => e = .returned (.bool (decide (x = y))) /\ Below w.heap.size w w'
def VSmB (n:Nat):Prop:=∀ (x y:List V) (va vb:Value) (w:World),V.nodess x <= n -> Rd w (.sl 5 (V.ds x)) [va] -> Rd w (.sl 5 (V.ds y)) [vb] -> x.length + V.bulks x <= 4294967295 -> y.length + V.bulks y <= 4294967295 ->
 Calls Tryz.prog 62 #[va,vb,.func (.func 39) #[] #[]] w fun e w' => e = .returned (.bool (decide (x = y))) /\ Below w.heap.size w w'
theorem VSmB_of {n:Nat} (hA:VSmA n):VSmB n:=by
 intro la lb va vb w hn h h2 hla hlb;obtain ⟨a,c,rfl,hg⟩:=h.values;obtain ⟨a',c',rfl,hg'⟩:=h2.values;by_cases hlen:la.length = lb.length
 ·have hlt:((la.length:Int) != (lb.length:Int)) = false:=by simp [hlen]
  have HL:=Lib.hid hlen; clear hlen
  go_enter Tryz.func62,Tryz.ntmps62
  go_wp2
  go_loopw [17] (fun i wr => ∃ (k:Nat),k <= la.length /\ i = .int .i64 k /\ la.take k = lb.take k /\ Below w.heap.size w wr) (fun i _ => la.length - (intOf i).toNat)
  case atStart => exact ⟨0,Nat.zero_le _,rfl,by simp,Below.refl _ _⟩
  case round =>
   obtain ⟨k,hk,rfl,htk,hbel⟩:=hrel;have HT:=Lib.hid htk; clear htk
   by_cases hk1:k < la.length
   ·have hk2:k < lb.length:=by have:=HL.out; omega
    obtain ⟨_,_,b,o,rfl,hb,hcell⟩:=hg (by intro e; rw [e] at hk1; simp at hk1);obtain ⟨_,_,b',o',rfl,hb',hcell'⟩:=hg' (by intro e; rw [e] at hk2; simp at hk2);obtain ⟨v0,v1,v2,v3,v4,hr,c0,c1,c2,c3,c4⟩:=hcell k hk1;obtain ⟨x0,x1,x2,x3,x4,hs,d0,d1,d2,d3,d4⟩:=hcell' k hk2;obtain ⟨k1,k2,k3,s4,a6,n6,m6,hcs⟩:=V.form hr;obtain ⟨j1,j2,j3,t4,b6,p6,q6,hds⟩:=V.form hs;simp only [cons.injEq,and_true] at hcs hds;obtain ⟨rfl,rfl,rfl,rfl,rfl⟩:=hcs;obtain ⟨rfl,rfl,rfl,rfl,rfl⟩:=hds;clear hcell hcell' hg hg';obtain ⟨hbc,_⟩:=zaP hbel;have hsz:=hbel.size;have hi1:(0:Int) <= k:=by omega
    have hi2:(k:Int) < lb.length:=by omega
    have hi3:(k:Int) < la.length:=by omega
    have hz1:b < wr.heap.size:=by omega
    have hz2:b' < wr.heap.size:=by omega
    have hnk:=Nat.le_trans (V.nodes_get la k hk1) hn;have hr':=hr.below hbel;have hs':=hs.below hbel;have hA2:=(hbel.alloc hsz (.cells #[.int .i64 k1,.int .i64 k2,.int .i64 k3,.string ⟨s4.toArray⟩,.slice a6 n6 m6] 32)).alloc (by simp; omega) (.cells #[.int .i64 j1,.int .i64 j2,.int .i64 j3,.string ⟨t4.toArray⟩,.slice b6 p6 q6] 32);by_cases he:la[k] = lb[k]
    ·have hd:=Lib.hid (decide_eq_true he)
     have HE:=Lib.hid he;clear he
     go_wp2_with (go_at_call 39; refine (hA _ _ _ _ _ hnk ((hr'.alloc _).alloc _) ((hs'.alloc _).alloc _) (V.bulk_get hla k hk1) (V.bulk_get hlb k hk2)).mono ?_; rw [hd.out]; rintro e w1 ⟨rfl,hb1⟩)
     go_roundw
     case rel => exact ⟨k + 1,by omega,by go_num,zbP HT.out hk1 hk2 HE.out,zag hA2 hb1 lR⟩
     case measure => simp [intOf] <;> omega
    ·have hd:=Lib.hid (decide_eq_false he)
     have HE:=Lib.hid (decide_eq_false (zdq hk1 hk2 he));clear he
     go_wp2_with (go_at_call 39; refine (hA _ _ _ _ _ hnk ((hr'.alloc _).alloc _) ((hs'.alloc _).alloc _) (V.bulk_get hla k hk1) (V.bulk_get hlb k hk2)).mono ?_; rw [hd.out]; rintro e w1 ⟨rfl,hb1⟩)
     go_ret;exact ⟨by rw [HE.out]; rfl,zag hA2 hb1 lR⟩
   ·obtain rfl:k = la.length:=by omega
    have he:la = lb:=by have:=HT.out; rw [take_length,HL.out,take_length] at this; exact this
    have H:=Lib.hid (decide_eq_true he);clear he;go_wp2;go_ret;exact ⟨by rw [H.out]; rfl,hbel⟩
 ·have H:=Lib.hid (decide_eq_false (show ¬ la = lb from fun e => hlen (by rw [e])))
  go_enter Tryz.func62,Tryz.ntmps62
  go_wp2;go_ret;exact ⟨by rw [H.out]; rfl,Below.refl _ _⟩
theorem VSmA_of {n:Nat} (hB:VSmB n):VSmA (n + 1):=by
 intro x y cs ds w hn h h2 hx hy;obtain ⟨k,m,q,s,kids,v1,rfl,rfl,hkids⟩:=V.lay h;obtain ⟨k',m',q',s',kids',v1',rfl,rfl,hkids'⟩:=V.lay h2;have hnk:V.nodess kids <= n:=by simp only [V.nodes] at hn; omega
 simp only [V.bulk] at hx hy;have hA:=((Below.refl w.heap.size w).alloc lR (.cells #[.int .i64 k,.int .i64 m,.int .i64 q,.string ⟨s.toArray⟩,v1] 32)).alloc (by simp) (.cells #[.int .i64 k',.int .i64 m',.int .i64 q',.string ⟨s'.toArray⟩,v1'] 32);by_cases e1:k = k' /\ m = m' /\ q = q' /\ s = s'
 ·obtain ⟨rfl,rfl,rfl,rfl⟩:=e1
  go_enter Tryz.func39,Tryz.ntmps39
  go_wp2_with fail
  refine (hB _ _ _ _ _ hnk ((hkids.below hA)) (hkids'.below hA) (by omega) (by omega)).mono ?_;by_cases e4:kids = kids'
  ·subst e4
   rw [decide_eq_true rfl];rintro e w2 ⟨rfl,hb2⟩;go_wp2;go_ret;exact ⟨by simp,zag hA hb2 lR⟩
  ·have H:=Lib.hid (V.ne_mk (k:=k) (m:=m) (e:=q) (s:=s) (kids:=kids) (k':=k) (m':=m) (e':=q) (s':=s) (kids':=kids') (by simp [e4]))
   rw [decide_eq_false e4];rintro e w2 ⟨rfl,hb2⟩;clear e4;go_wp2;go_ret;exact ⟨by rw [H.out]; rfl,zag hA hb2 lR⟩
 ·have H:=Lib.hid (V.ne_mk (k:=k) (m:=m) (e:=q) (s:=s) (kids:=kids) (k':=k') (m':=m') (e':=q') (s':=s') (kids':=kids') (by rintro ⟨a,b,c,d,_⟩; exact e1 ⟨a,b,c,d⟩))
  have HA:=Lib.hid hA;by_cases c1:k = k'
  ·subst c1
   by_cases c2:m = m'
   ·subst c2
    by_cases c3:q = q'
    ·subst c3
     have c4:(s == s') = false:=by simpa using fun c => e1 ⟨rfl,rfl,rfl,c⟩
     clear e1
     go_enter Tryz.func39,Tryz.ntmps39
     go_wp2_with fail
     go_ret;exact ⟨by rw [H.out]; rfl,HA.out⟩
    ·clear e1
     have c4:(q == q') = false:=by simpa using c3
     go_enter Tryz.func39,Tryz.ntmps39
     go_wp2_with fail
     go_ret;exact ⟨by rw [H.out]; rfl,HA.out⟩
   ·clear e1
    have c4:(m == m') = false:=by simpa using c2
    go_enter Tryz.func39,Tryz.ntmps39
    go_wp2_with fail
    go_ret;exact ⟨by rw [H.out]; rfl,HA.out⟩
  ·clear e1
   have c4:(k == k') = false:=by simpa using c1
   go_enter Tryz.func39,Tryz.ntmps39
   go_wp2_with fail
   go_ret;exact ⟨by rw [H.out]; rfl,HA.out⟩
theorem VSm_all:∀ n,VSmA n
 | 0 => fun x y cs ds w hn => absurd x.nodes_pos (by omega)
 | n + 1 => VSmA_of (VSmB_of (VSm_all n))
theorem same_any (x y:V) (cs ds:List Value) (w:World) (h:Rd w x.d cs) (h2:Rd w y.d ds) (hx:x.bulk <= 4294967295) (hy:y.bulk <= 4294967295) :
  Calls Tryz.prog 39 #[.agg cs.toArray,.agg ds.toArray] w fun e w' => e = .returned (.bool (decide (x = y))) /\ Below w.heap.size w w':=VSm_all x.nodes x y cs ds w lR h h2 hx hy
end
section
theorem isKey_any (x:V) (cs:List Value) (w:World) (h:Rd w x.d cs) :
  Calls Tryz.prog 90 #[.agg cs.toArray] w fun e w' => e = .returned (.bool (isKeyK x.kind)) /\ Below w.heap.size w w':=by
 obtain ⟨k,m,e,s,kids,v1,rfl,rfl,hkids⟩:=V.lay h;have HA:=Lib.hid ((Below.refl w.heap.size w).alloc lR (.cells #[.int .i64 k,.int .i64 m,.int .i64 e,.string ⟨s.toArray⟩,v1] 32));clear h hkids;show Calls _ _ _ _ fun e' w' => e' = .returned (.bool (isKeyK k)) /\ _
 by_cases h5:k = 5
 ·subst h5
  go_enter Tryz.func90,Tryz.ntmps90
  go_wp2;go_ret;exact ⟨rfl,HA.out⟩
 ·have g5:(k == 5) = false:=by simpa using h5
  have H:=Lib.hid (show isKeyK k = (k == 3) by unfold isKeyK; rw [decide_eq_false h5,Bool.false_or]; rfl)
  go_enter Tryz.func90,Tryz.ntmps90
  go_wp2;go_ret;exact ⟨by rw [H.out]; rfl,HA.out⟩
def V.kidsOk (k:Int) (kids:List V):Bool :=
 if k = 7 then true else if k = 9 then decide (kids.length = 1) else if k = 8 then pairsOkI kids else decide (kids = [])
theorem len0' (l:List V):((l.length:Int) == 0) = decide (l = []):=by
 cases l with
 | nil => rfl
 | cons a r => simp; omega
theorem zgi (x:V) (cs:List Value) (w:World) (h:Rd w x.d cs) (hbk:x.bulk <= 4294967295) :
  Calls Tryz.prog 71 #[.agg cs.toArray] w fun e w' => e = .returned (.bool (V.kidsOk x.kind x.kids)) /\ Below w.heap.size w w':=by
 obtain ⟨q,n,e,s,xs,v1,rfl,rfl,hkids⟩:=V.lay h;have hkb:xs.length + V.bulks xs <= 4294967295:=by simp only [V.bulk] at hbk; omega
 obtain ⟨a,c,rfl,hg⟩:=hkids.values;show Calls _ _ _ _ fun e' w' => e' = .returned (.bool (V.kidsOk q xs)) /\ _
 obtain ⟨ok,hok⟩:∃ ok,V.kidsOk q xs = ok:=⟨_,rfl⟩;rw [hok];have HOK:=Lib.hid hok; clear hok
 obtain ⟨W0,hW0⟩:∃ W0,W0 = w.alloc (.cells #[.int .i64 q,.int .i64 n,.int .i64 e,.string ⟨s.toArray⟩,.slice a xs.length c] 32):=⟨_,rfl⟩;have HW:=Lib.hid hW0;have hA0:Below w.heap.size w W0:=by rw [hW0]; exact (Below.refl _ _).alloc lR _
 have hz:w.heap.size < W0.heap.size:=by rw [hW0]; simp
 have KB:Hid (∀ W,Below W0.heap.size W0 W -> W.cell? ⟨w.heap.size,0,none⟩ = some (.int .i64 q) /\ W.cell? ⟨w.heap.size,4,none⟩ = some (.slice a xs.length c)):=by
  intro W hb;obtain ⟨hc,_⟩:=zaP hb;simp only [hc _ _ hz]; subst hW0; simp
 clear hW0 h hkids hbk;obtain ⟨f0,f4⟩:=KB.out _ (Below.refl _ _);by_cases q7:q = 7
 ·subst q7
  have H:=Lib.hid (show ok = true by rw [<- HOK.out]; rfl)
  go_enter Tryz.func71,Tryz.ntmps71
  go_wp2;rw [<- HW.out];go_ret;exact ⟨by rw [H.out]; rfl,hA0⟩
 by_cases q9:q = 9
 ·subst q9
  have H:=Lib.hid (show ok = decide (xs.length = 1) by rw [<- HOK.out]; rfl)
  go_enter Tryz.func71,Tryz.ntmps71
  go_wp2;rw [<- HW.out];go_ret;exact ⟨by rw [H.out]; exact zar (by rw [Bool.eq_iff_iff]; simp; omega),hA0⟩
 by_cases q8:q = 8
 ·subst q8
  have HP:=Lib.hid (show ok = pairsOkI xs by rw [<- HOK.out]; rfl);obtain ⟨ks,hks⟩:∃ ks,odds xs = ks:=⟨_,rfl⟩;have hkl:ks.length = (xs.length + 1) / 2:=by rw [<- hks,zbi]
  have HKG:Hid (∀ j (h1:2 * j < xs.length) (h2:j < ks.length),ks[j] = xs[2 * j]):=by
   intro j h1 h2; subst hks; exact odds_get xs j h1
  have HKS:=Lib.hid hks; clear hks
  clear q7 q9
  go_enter Tryz.func71,Tryz.ntmps71
  go_wp2;rw [<- HW.out]
  go_loopw [3] (fun i wr => ∃ (j k:Nat),k = 2 * j /\ j <= ks.length /\ i = .int .i64 k /\ uniq id (ks.take j) = true /\ Below W0.heap.size W0 wr) (fun i _ => xs.length + 1 - (intOf i).toNat)
  case atStart => exact ⟨0,0,rfl,Nat.zero_le _,rfl,by simp [uniq],Below.refl _ _⟩
  case round =>
   obtain ⟨j,k,hkj,hj,rfl,hu,hbel⟩:=hrel;have HKJ:=Lib.hid hkj;have HU:=Lib.hid hu; clear hu f0 f4
   obtain ⟨f0,f4⟩:=KB.out _ hbel;have hbw:=zag hA0 hbel lR;by_cases hlt:k < xs.length
   ·have hjk:j < ks.length:=by omega
    have hkk:=HKG.out j (by omega) hjk;obtain ⟨_,_,b,o,rfl,hb,hcell⟩:=hg (by intro e; rw [e] at hlt; simp at hlt);have HC:=Lib.hid hcell;obtain ⟨v0,v1,v2,v3,v4,hr,d0,d1,d2,d3,d4⟩:=hcell k hlt;clear hcell;obtain ⟨k1,k2,k3,s4,a6,n6,m6,hcs⟩:=V.form hr;simp only [cons.injEq,and_true] at hcs;obtain ⟨rfl,rfl,rfl,rfl,rfl⟩:=hcs;have hbc:=(zaP hbw).1;rw [<- hbc _ _ hb] at d0 d1 d2 d3 d4;have HX:=Lib.hid (show ks[j] = xs[k] by rw [hkk]; subst hkj; rfl);have hi1:(0:Int) <= k:=by omega
    have hi3:(k:Int) < xs.length:=by omega
    have hbz:b < W0.heap.size:=by have:=hA0.size; omega
    have HD:Hid (∀ W,Below W0.heap.size W0 W -> W.cell? ⟨b,o + k * 5,none⟩ = some (.int .i64 k1) /\ W.cell? ⟨b,o + k * 5 + 1,none⟩ = some (.int .i64 k2) /\ W.cell? ⟨b,o + k * 5 + 2,none⟩ = some (.int .i64 k3) /\ W.cell? ⟨b,o + k * 5 + 3,none⟩ = some (.string ⟨s4.toArray⟩) /\ W.cell? ⟨b,o + k * 5 + 4,none⟩ = some (.slice a6 n6 m6)):=by
     intro W hW;have h1:=(zaP hW).1;have h2:=(zaP hbel).1;rw [h2 _ _ hbz] at d0 d1 d2 d3 d4;simp only [h1 _ _ hbz]; exact ⟨d0,d1,d2,d3,d4⟩
    have HK1:=Lib.hid (fun W (hW:Below W0.heap.size W0 W) => isKey_any xs[k] _ W (hr.below (zag hA0 hW lR)));have HXR:=Lib.hid (fun W (hW:Below W0.heap.size W0 W) => (hr.below (zag hA0 hW lR)));clear hbc hkk hkj hr
    cases hkey:isKeyK xs[k].kind with
    | true =>
     have HK:=Lib.hid hkey; clear hkey
     go_wp2_with (go_at_call 90; refine (HK1.out _ hbel).mono ?_; rw [HK.out]; rintro e w1 ⟨rfl,hb1⟩; have hbe1:=zag hbel hb1 lR; clear d0 d1 d2 d3 d4 f0 f4; obtain ⟨f0,f4⟩:=KB.out _ hbe1)
     go_loopw [4] (fun i wr => ∃ (m r:Nat),r = 2 * m /\ m <= j /\ i = .int .i64 r /\ xs[k] ∉ ks.take m /\ Below W0.heap.size W0 wr) (fun i _ => k + 1 - (intOf i).toNat)
     case atStart => exact ⟨0,0,rfl,Nat.zero_le _,rfl,by simp,hbe1⟩
     case round =>
      obtain ⟨m,r,hrm,hm,rfl,hni,hbel2⟩:=hrel;have HRM:=Lib.hid hrm;have HNI:=Lib.hid hni; clear hni
      have hkj:=HKJ.out;have hbw2:=zag hA0 hbel2 lR;clear f0 f4;obtain ⟨f0,f4⟩:=KB.out _ hbel2;by_cases hml:r < k
      ·have hrx:r < xs.length:=by omega
       have hmk:m < ks.length:=by omega
       have hmm:=HKG.out m (by omega) hmk;obtain ⟨u0,u1,u2,u3,u4,hr2,e0,e1,e2,e3,e4⟩:=HC.out r hrx;obtain ⟨y1,y2,y3,t4,b6,p6,r6,hcs2⟩:=V.form hr2;simp only [cons.injEq,and_true] at hcs2;obtain ⟨rfl,rfl,rfl,rfl,rfl⟩:=hcs2;have HY:=Lib.hid (show ks[m] = xs[r] by rw [hmm]; subst hrm; rfl)
       have HE:Hid (∀ W,Below W0.heap.size W0 W -> W.cell? ⟨b,o + r * 5,none⟩ = some (.int .i64 y1) /\ W.cell? ⟨b,o + r * 5 + 1,none⟩ = some (.int .i64 y2) /\ W.cell? ⟨b,o + r * 5 + 2,none⟩ = some (.int .i64 y3) /\ W.cell? ⟨b,o + r * 5 + 3,none⟩ = some (.string ⟨t4.toArray⟩) /\ W.cell? ⟨b,o + r * 5 + 4,none⟩ = some (.slice b6 p6 r6)):=by
        intro W hW;have h1:=(zaP (zag hA0 hW lR)).1;simp only [h1 _ _ hb]; exact ⟨e0,e1,e2,e3,e4⟩
       have hj1:(0:Int) <= r:=by omega
       have hj3:(r:Int) < xs.length:=by omega
       have hj5:(r:Int) < k:=by omega
       have hm5:m < j:=by omega
       have hr5:r + 2 < k + 3:=by omega
       have HS:=Lib.hid (fun W (hW:Below W0.heap.size W0 W) => same_any xs[k] xs[r] _ _ W (HXR.out W hW) (hr2.below (zag hA0 hW lR)) (V.bulk_get hkb k hlt) (V.bulk_get hkb r hrx));have hB:=hbel2;clear hmm hrm hkj e0 e1 e2 e3 e4 hr2 f0 f4;by_cases heq:xs[k] = xs[r]
       ·have HQ:=Lib.hid (decide_eq_true heq)
        have HF:=Lib.hid (show ok = false by
         rw [HP.out]; unfold pairsOkI; rw [HKS.out,zdM hjk (by
          rw [HX.out,map_id];exact mem_take_iff_getElem.2 ⟨m,by omega,by rw [HY.out,<- heq]; rfl⟩)]; rfl)
        clear heq
        go_wp2_with fail
        go_region_held3 (fun W => (W.cell? ⟨w.heap.size,0,none⟩ = some (.int .i64 8) /\ W.cell? ⟨w.heap.size,4,none⟩ = some (.slice (some ⟨b,o,none⟩) xs.length c)) /\ (W.cell? ⟨b,o + k * 5,none⟩ = some (.int .i64 k1) /\ W.cell? ⟨b,o + k * 5 + 1,none⟩ = some (.int .i64 k2) /\ W.cell? ⟨b,o + k * 5 + 2,none⟩ = some (.int .i64 k3) /\ W.cell? ⟨b,o + k * 5 + 3,none⟩ = some (.string ⟨s4.toArray⟩) /\ W.cell? ⟨b,o + k * 5 + 4,none⟩ = some (.slice a6 n6 m6)) /\ W.cell? ⟨b,o + r * 5,none⟩ = some (.int .i64 y1) /\ W.cell? ⟨b,o + r * 5 + 1,none⟩ = some (.int .i64 y2) /\ W.cell? ⟨b,o + r * 5 + 2,none⟩ = some (.int .i64 y3) /\ W.cell? ⟨b,o + r * 5 + 3,none⟩ = some (.string ⟨t4.toArray⟩) /\ W.cell? ⟨b,o + r * 5 + 4,none⟩ = some (.slice b6 p6 r6))
         (first | exact ⟨KB.out _ hB,HD.out _ hB,HE.out _ hB⟩ | exact ⟨KB.out _ hB.drew,HD.out _ hB.drew,HE.out _ hB.drew⟩)
         (first | (go_at_call 39; with_reducible refine (HS.out _ (by first | exact hB | exact hB.drew)).mono ?_; rw [HQ.out]; rintro e w2 ⟨rfl,hb2⟩; replace hB:=zag (by first | exact hB | exact hB.drew) hb2 lR))
        go_wp2;go_ret;exact ⟨by rw [HF.out]; rfl,zag hA0 hB lR⟩
       ·have HQ:=Lib.hid (decide_eq_false heq)
        have HM:Hid (xs[k] ∉ ks.take (m + 1)):=by
         show _ ∉ _;rw [take_succ_eq_append_getElem hmk,mem_append,HY.out];rintro (h | h)
         ·exact HNI.out h
         ·exact heq (by simpa using h)
        clear heq
        go_wp2_with fail
        go_region_held3 (fun W => (W.cell? ⟨w.heap.size,0,none⟩ = some (.int .i64 8) /\ W.cell? ⟨w.heap.size,4,none⟩ = some (.slice (some ⟨b,o,none⟩) xs.length c)) /\ (W.cell? ⟨b,o + k * 5,none⟩ = some (.int .i64 k1) /\ W.cell? ⟨b,o + k * 5 + 1,none⟩ = some (.int .i64 k2) /\ W.cell? ⟨b,o + k * 5 + 2,none⟩ = some (.int .i64 k3) /\ W.cell? ⟨b,o + k * 5 + 3,none⟩ = some (.string ⟨s4.toArray⟩) /\ W.cell? ⟨b,o + k * 5 + 4,none⟩ = some (.slice a6 n6 m6)) /\ W.cell? ⟨b,o + r * 5,none⟩ = some (.int .i64 y1) /\ W.cell? ⟨b,o + r * 5 + 1,none⟩ = some (.int .i64 y2) /\ W.cell? ⟨b,o + r * 5 + 2,none⟩ = some (.int .i64 y3) /\ W.cell? ⟨b,o + r * 5 + 3,none⟩ = some (.string ⟨t4.toArray⟩) /\ W.cell? ⟨b,o + r * 5 + 4,none⟩ = some (.slice b6 p6 r6))
         (first | exact ⟨KB.out _ hB,HD.out _ hB,HE.out _ hB⟩ | exact ⟨KB.out _ hB.drew,HD.out _ hB.drew,HE.out _ hB.drew⟩)
         (first | (go_at_call 39; with_reducible refine (HS.out _ (by first | exact hB | exact hB.drew)).mono ?_; rw [HQ.out]; rintro e w2 ⟨rfl,hb2⟩; replace hB:=zag (by first | exact hB | exact hB.drew) hb2 lR))
        go_wp2;go_roundw
        case rel => exact ⟨m + 1,r + 2,by have:=HRM.out; omega,by omega,by go_num,HM.out,hB⟩
        case measure => simp [intOf]; omega
      ·obtain rfl:m = j:=by omega
       have HM:Hid (uniq id (ks.take (m + 1)) = true):=zdL hjk HU.out (by rw [HX.out]; exact HK.out) (by rw [HX.out,map_id]; exact HNI.out);clear hrm hkj;go_wp2;go_roundw
       case rel => exact ⟨m + 1,k + 2,by have:=HKJ.out; omega,by omega,by go_num,HM.out,hbel2⟩
       case measure => simp [intOf]; omega
    | false =>
     have HK:=Lib.hid hkey;have HF:=Lib.hid (show ok = false by rw [HP.out]; unfold pairsOkI; rw [HKS.out,zfj hjk (by rw [HX.out]; exact hkey)]; rfl);clear hkey
     go_wp2_with (go_at_call 90; refine (HK1.out _ hbel).mono ?_; rw [HK.out]; rintro e w1 ⟨rfl,hb1⟩)
     go_ret;exact ⟨by rw [HF.out]; rfl,zag hbw hb1 lR⟩
   ·obtain rfl:j = ks.length:=by omega
    clear hkj;have h1:=HU.out;rw [take_length] at h1;have HF:=Lib.hid (show ok = decide (xs.length % 2 = 0) by rw [HP.out]; unfold pairsOkI; rw [HKS.out,h1]; rfl);clear h1;go_wp2;go_ret;exact ⟨by rw [HF.out]; exact zar (by rw [Bool.eq_iff_iff]; simp <;> omega),hbw⟩
 ·have H:=Lib.hid (show ok = decide (xs = []) by rw [<- HOK.out]; unfold V.kidsOk; rw [if_neg q7,if_neg q9,if_neg q8])
  have g7:(q == 7) = false:=by simpa using q7
  have g8:(q == 8) = false:=by simpa using q8
  have g9:(q == 9) = false:=by simpa using q9
  go_enter Tryz.func71,Tryz.ntmps71
  go_wp2;rw [<- HW.out];go_ret;exact ⟨by rw [H.out,<- len0']; rfl,hA0⟩
end
section
open Go.Lib (validD)
def Tabs (w:World):Prop:=Lib.Utf8Tabs 0 1 w
theorem Tabs.below {w w':World} (h:Tabs w) (hb:Below w.heap.size w w'):Tabs w':=Utf8Tabs_below h hb
theorem Tabs.lt {w:World} (h:Tabs w):0 < w.heap.size /\ 1 < w.heap.size:=by
 have key:∀ {b o:Nat} {v:Value},w.cell? ⟨b,o,none⟩ = some v -> b < w.heap.size:=by
  intro b o v h; apply Classical.byContradiction; intro hn
  simp [World.cell?,Array.getElem?_eq_none (Nat.le_of_not_lt hn)] at h
 exact ⟨key (h.1 0 (by decide)),key (h.2 0 (by decide)).1⟩
theorem Tabs.below' {B:Nat} {w w':World} (h:Tabs w) (hb:Below B w w') (h1:0 < B) (h2:1 < B):Tabs w':=by
 refine ⟨fun c hc => ?_,fun i hi => ?_⟩
 ·rw [hb.cell (p:=⟨_,_,none⟩) h1]; exact h.1 c hc
 ·rw [hb.cell (p:=⟨_,_,none⟩) h2,hb.cell (p:=⟨_,_,none⟩) h2]; exact h.2 i hi
theorem zcg (l:L8) (w:World) (hl:l.length <= 4294967295) (hT:Tabs w) :
  Calls Tryz.prog 78 #[.string ⟨l.toArray⟩] w fun e w' => e = .returned (.bool (validD l)) /\ Below w.heap.size w w':=by
 have HC:=Lib.hid (Tryz.utf8_ValidString ⟨l.toArray⟩ w (by simp [ByteArray.size]; omega) hT)
 go_enter Tryz.func78,Tryz.ntmps78
 go_wp2_with (go_at_call 95; refine HC.out.mono ?_; rintro e w1 ⟨rfl,hb1⟩)
 go_ret;exact ⟨rfl,hb1⟩
end
section
open Go.Lib (validD)
def V.node:V -> Bool
 | .mk k n e s _ =>
  if k = 0 \/ k = 1 \/ k = 2 \/ k = 7 \/ k = 8 then decide (n = 0) && (decide (e = 0) && decide (s = []))
  else if k = 3 then decide (e = 0) && decide (s = [])
  else if k = 4 then decOk n e && decide (s = [])
  else if k = 5 then decide (s.length <= 2000) && (validD s && (decide (n = 0) && decide (e = 0)))
  else if k = 6 then decide (s.length <= 2000) && (decide (n = 0) && decide (e = 0))
  else if k = 9 then inR n 0 1000000 && (decide (e = 0) && decide (s = []))
  else false
theorem V.selfI_node (x:V):x.selfI = (x.node && V.kidsOk x.kind x.kids):=by
 obtain ⟨k,n,e,s,kids⟩:=x;show V.selfBy pairsOkI _ = (_ && V.kidsOk k kids);unfold V.node V.kidsOk V.selfBy;by_cases h0:k = 0 \/ k = 1 \/ k = 2
 ·rcases h0 with rfl | rfl | rfl <;> simp [Bool.and_assoc]
 by_cases h3:k = 3
 ·subst h3; simp [Bool.and_assoc]
 by_cases h4:k = 4
 ·subst h4; simp [Bool.and_assoc]
 by_cases h5:k = 5
 ·subst h5
  show (decide (n = 0) && (decide (e = 0) && (validD s && (decide (s.length <= 2000) && decide (kids = []))))) = ((decide (s.length <= 2000) && (validD s && (decide (n = 0) && decide (e = 0)))) && decide (kids = []))
  cases decide (n = 0) <;> cases decide (e = 0) <;> cases validD s <;> cases decide (s.length <= 2000) <;> cases decide (kids = []) <;> rfl
 by_cases h6:k = 6
 ·subst h6
  show (decide (n = 0) && (decide (e = 0) && (decide (s.length <= 2000) && decide (kids = [])))) = ((decide (s.length <= 2000) && (decide (n = 0) && decide (e = 0))) && decide (kids = []))
  cases decide (n = 0) <;> cases decide (e = 0) <;> cases decide (s.length <= 2000) <;> cases decide (kids = []) <;> rfl
 by_cases h7:k = 7
 ·subst h7; simp
 by_cases h8:k = 8
 ·subst h8; simp [Bool.and_assoc]
 by_cases h9:k = 9
 ·subst h9; simp [Bool.and_assoc]
 ·have a0:k ≠ 0:=fun e => h0 (.inl e)
  have a1:k ≠ 1:=fun e => h0 (.inr (.inl e))
  have a2:k ≠ 2:=fun e => h0 (.inr (.inr e))
  simp [a0,a1,a2,h3,h4,h5,h6,h7,h8,h9]
theorem isNode_any (x:V) (cs:List Value) (w:World) (h:Rd w x.d cs) (hwf:x.wf) (hbk:x.bulk <= 4294967295) (hT:Tabs w) :
  Calls Tryz.prog 70 #[.agg cs.toArray] w fun e w' => e = .returned (.bool x.node) /\ Below w.heap.size w w':=by
 obtain ⟨k,n,e,s,kids,v1,rfl,rfl,hkids⟩:=V.lay h;obtain ⟨a1,c1,rfl⟩:=Rd.sl_form hkids;rw [V.ds_map,length_map] at h ⊢;have hsl:s.length <= 4294967295:=by simp only [V.bulk] at hbk; omega
 have HD:=Lib.hid (fun w1 (hb:Below w.heap.size w w1) => isDec_any _ _ w1 (h.below hb) hwf);clear h hkids hbk hwf;obtain ⟨ok,hok⟩:∃ ok,V.node (.mk k n e s kids) = ok:=⟨_,rfl⟩;rw [hok];have HOK:=Lib.hid hok; clear hok
 by_cases q0:k = 0
 ·subst q0
  go_enter Tryz.func70,Tryz.ntmps70
  go_wp2
  all_goals (go_ret; refine ⟨zar ?_,by first | exact ((Below.refl _ _).alloc lR _).alloc (by simp) _ | exact Go.below_drewN (((Below.refl _ _).alloc lR _).alloc (by simp) _) _⟩; rw [<- HOK.out]; simp_all [V.node,isE])
 by_cases q1:k = 1
 ·subst q1
  go_enter Tryz.func70,Tryz.ntmps70
  go_wp2
  all_goals (go_ret; refine ⟨zar ?_,by first | exact ((Below.refl _ _).alloc lR _).alloc (by simp) _ | exact Go.below_drewN (((Below.refl _ _).alloc lR _).alloc (by simp) _) _⟩; rw [<- HOK.out]; simp_all [V.node,isE])
 by_cases q2:k = 2
 ·subst q2
  go_enter Tryz.func70,Tryz.ntmps70
  go_wp2
  all_goals (go_ret; refine ⟨zar ?_,by first | exact ((Below.refl _ _).alloc lR _).alloc (by simp) _ | exact Go.below_drewN (((Below.refl _ _).alloc lR _).alloc (by simp) _) _⟩; rw [<- HOK.out]; simp_all [V.node,isE])
 by_cases q7:k = 7
 ·subst q7
  go_enter Tryz.func70,Tryz.ntmps70
  go_wp2
  all_goals (go_ret; refine ⟨zar ?_,by first | exact ((Below.refl _ _).alloc lR _).alloc (by simp) _ | exact Go.below_drewN (((Below.refl _ _).alloc lR _).alloc (by simp) _) _⟩; rw [<- HOK.out]; simp_all [V.node,isE])
 by_cases q8:k = 8
 ·subst q8
  go_enter Tryz.func70,Tryz.ntmps70
  go_wp2
  all_goals (go_ret; refine ⟨zar ?_,by first | exact ((Below.refl _ _).alloc lR _).alloc (by simp) _ | exact Go.below_drewN (((Below.refl _ _).alloc lR _).alloc (by simp) _) _⟩; rw [<- HOK.out]; simp_all [V.node,isE])
 by_cases q3:k = 3
 ·subst q3
  go_enter Tryz.func70,Tryz.ntmps70
  go_wp2
  all_goals (go_ret; refine ⟨zar ?_,by first | exact ((Below.refl _ _).alloc lR _).alloc (by simp) _ | exact Go.below_drewN (((Below.refl _ _).alloc lR _).alloc (by simp) _) _⟩; rw [<- HOK.out]; simp_all [V.node,isE])
 by_cases q9:k = 9
 ·subst q9
  by_cases g:0 <= n /\ n <= 1000000
  ·have H:=Lib.hid (show ok = (decide (e = 0) && decide (s = [])) by rw [<- HOK.out]; simp [V.node,zaF g])
   go_enter Tryz.func70,Tryz.ntmps70
   go_wp2
   all_goals (go_ret; refine ⟨zar ?_,by first | exact ((Below.refl _ _).alloc lR _).alloc (by simp) _ | exact (((Below.refl _ _).alloc lR _).alloc (by simp) _).setCell (by simp) _⟩; rw [H.out]; simp_all [isE])
  ·have H:=Lib.hid (show ok = false by rw [<- HOK.out]; simp [V.node,za2 g])
   have H2:=Lib.hid (za2 g)
   go_enter Tryz.func70,Tryz.ntmps70
   go_wp2_with (go_at_call 89; refine (zbY _ _ _ _).mono ?_; rw [H2.out]; rintro e1 w1 ⟨rfl,rfl⟩)
   all_goals (go_ret; exact ⟨by rw [H.out]; rfl,((Below.refl _ _).alloc lR _).alloc (by simp) _⟩)
 by_cases q6:k = 6
 ·subst q6
  by_cases g:s.length <= 2000
  ·have H:=Lib.hid (show ok = (decide (n = 0) && decide (e = 0)) by rw [<- HOK.out]; simp [V.node,g])
   go_enter Tryz.func70,Tryz.ntmps70
   go_wp2
   all_goals (go_ret; refine ⟨zar ?_,by first | exact ((Below.refl _ _).alloc lR _).alloc (by simp) _ | exact (((Below.refl _ _).alloc lR _).alloc (by simp) _).setCell (by simp) _⟩; rw [H.out]; simp_all [])
  ·have H:=Lib.hid (show ok = false by rw [<- HOK.out]; simp [V.node,g])
   have g':(2000:Int) < s.length:=by omega
   go_enter Tryz.func70,Tryz.ntmps70
   go_wp2
   all_goals (go_ret; exact ⟨by rw [H.out]; rfl,((Below.refl _ _).alloc lR _).alloc (by simp) _⟩)
 by_cases q5:k = 5
 ·subst q5
  by_cases g:s.length <= 2000
  ·have g':¬ (2000:Int) < s.length:=by omega
   have g2:=decide_eq_false g'
   cases hv:validD s with
   | true =>
    have HV:=Lib.hid hv;have H:=Lib.hid (show ok = (decide (n = 0) && decide (e = 0)) by rw [<- HOK.out]; simp [V.node,g,hv]);clear hv
    go_enter Tryz.func70,Tryz.ntmps70
    go_wp2_with (go_at_call 78; refine (zcg s _ hsl (hT.below (((Below.refl _ _).alloc lR _).alloc (by simp) _))).mono ?_; rw [HV.out]; rintro e1 w1 ⟨rfl,hb1⟩; have C:=(zaP hb1).1; have F:=(zaP hb1).2; have hz1:=hb1.size; have z1:w.heap.size < w1.heap.size:=(by simp at hz1; omega); have z2:w.heap.size + 1 < w1.heap.size:=(by simp at hz1; omega); have f1:w1.cell? ⟨w.heap.size,1,none⟩ = some (.int .i64 n):=(by rw [C _ _ (by simp <;> omega)]; simp [go_sem]); have f2:w1.cell? ⟨w.heap.size,2,none⟩ = some (.int .i64 e):=(by rw [C _ _ (by simp <;> omega)]; simp [go_sem]); have f3:w1.cell? ⟨w.heap.size,3,none⟩ = some (.string ⟨s.toArray⟩):=(by rw [C _ _ (by simp <;> omega)]; simp [go_sem]); have p1:w1.cell? ⟨w.heap.size + 1,1,none⟩ = some (.int .i64 0):=(by rw [C _ _ (by simp <;> omega)]; simp [go_sem]); have p2:w1.cell? ⟨w.heap.size + 1,2,none⟩ = some (.int .i64 0):=(by rw [C _ _ (by simp <;> omega)]; simp [go_sem]); have p3:w1.cell? ⟨w.heap.size + 1,3,none⟩ = some (.string ⟨#[]⟩):=(by rw [C _ _ (by simp <;> omega)]; simp [go_sem]); have p9:w1.frozen? ⟨w.heap.size + 1,3,none⟩ = false:=(by rw [F _ _ (by simp <;> omega)]; simp [go_sem]); clear C F hz1)
    all_goals (go_ret; refine ⟨zar ?_,by first | exact (zag (((Below.refl _ _).alloc lR _).alloc (by simp) _) hb1 lR).setCell (by simp) _ | exact zag (((Below.refl _ _).alloc lR _).alloc (by simp) _) hb1 lR⟩; rw [H.out]; simp_all [])
   | false =>
    have HV:=Lib.hid hv;have H:=Lib.hid (show ok = false by rw [<- HOK.out]; simp [V.node,hv]);clear hv
    go_enter Tryz.func70,Tryz.ntmps70
    go_wp2_with (go_at_call 78; refine (zcg s _ hsl (hT.below (((Below.refl _ _).alloc lR _).alloc (by simp) _))).mono ?_; rw [HV.out]; rintro e1 w1 ⟨rfl,hb1⟩)
    go_ret;exact ⟨by rw [H.out]; rfl,zag (((Below.refl _ _).alloc lR _).alloc (by simp) _) hb1 lR⟩
  ·have H:=Lib.hid (show ok = false by rw [<- HOK.out]; simp [V.node,g])
   have g':(2000:Int) < s.length:=by omega
   go_enter Tryz.func70,Tryz.ntmps70
   go_wp2
   all_goals (go_ret; exact ⟨by rw [H.out]; rfl,((Below.refl _ _).alloc lR _).alloc (by simp) _⟩)
 by_cases q4:k = 4
 ·subst q4
  cases hv:decOk n e with
  | true =>
   have HV:=Lib.hid (show decOk (V.num (.mk 4 n e s kids)) (V.exp (.mk 4 n e s kids)) = true from hv);have H:=Lib.hid (show ok = decide (s = []) by rw [<- HOK.out]; simp [V.node,hv]);clear hv
   go_enter Tryz.func70,Tryz.ntmps70
   go_wp2_with (go_at_call 88; refine (HD.out _ (((Below.refl _ _).alloc lR _).alloc (by simp) _)).mono ?_; rw [HV.out]; rintro e1 w1 ⟨rfl,hb1⟩; have C:=(zaP hb1).1; have F:=(zaP hb1).2; have hz1:=hb1.size; have z1:w.heap.size < w1.heap.size:=(by simp at hz1; omega); have z2:w.heap.size + 1 < w1.heap.size:=(by simp at hz1; omega); have f1:w1.cell? ⟨w.heap.size,1,none⟩ = some (.int .i64 n):=(by rw [C _ _ (by simp <;> omega)]; simp [go_sem]); have f2:w1.cell? ⟨w.heap.size,2,none⟩ = some (.int .i64 e):=(by rw [C _ _ (by simp <;> omega)]; simp [go_sem]); have f3:w1.cell? ⟨w.heap.size,3,none⟩ = some (.string ⟨s.toArray⟩):=(by rw [C _ _ (by simp <;> omega)]; simp [go_sem]); have p1:w1.cell? ⟨w.heap.size + 1,1,none⟩ = some (.int .i64 0):=(by rw [C _ _ (by simp <;> omega)]; simp [go_sem]); have p2:w1.cell? ⟨w.heap.size + 1,2,none⟩ = some (.int .i64 0):=(by rw [C _ _ (by simp <;> omega)]; simp [go_sem]); have p3:w1.cell? ⟨w.heap.size + 1,3,none⟩ = some (.string ⟨#[]⟩):=(by rw [C _ _ (by simp <;> omega)]; simp [go_sem]); have p8:w1.frozen? ⟨w.heap.size + 1,1,none⟩ = false:=(by rw [F _ _ (by simp <;> omega)]; simp [go_sem]); have p9:w1.frozen? ⟨w.heap.size + 1,2,none⟩ = false:=(by rw [F _ _ (by simp <;> omega)]; simp [go_sem]); clear C F hz1)
   have hbel:Below w.heap.size w w1:=zag (((Below.refl _ _).alloc lR _).alloc (by simp) _) hb1 lR
   go_region
   all_goals (go_wp2; go_ret; refine ⟨zar ?_,by first | exact ((hbel.setCell (by simp) _).setCell (by simp) _).drew | exact (hbel.setCell (by simp) _).setCell (by simp) _ | exact Go.below_drewN ((hbel.setCell (by simp) _).setCell (by simp) _) _⟩; rw [H.out]; simp [isE])
  | false =>
   have HV:=Lib.hid (show decOk (V.num (.mk 4 n e s kids)) (V.exp (.mk 4 n e s kids)) = false from hv);have H:=Lib.hid (show ok = false by rw [<- HOK.out]; simp [V.node,hv]);clear hv
   go_enter Tryz.func70,Tryz.ntmps70
   go_wp2_with (go_at_call 88; refine (HD.out _ (((Below.refl _ _).alloc lR _).alloc (by simp) _)).mono ?_; rw [HV.out]; rintro e1 w1 ⟨rfl,hb1⟩)
   go_ret;exact ⟨by rw [H.out]; rfl,zag (((Below.refl _ _).alloc lR _).alloc (by simp) _) hb1 lR⟩
 have H:=Lib.hid (show ok = false by rw [<- HOK.out]; simp [V.node,q0,q1,q2,q3,q4,q5,q6,q7,q8,q9])
 go_enter Tryz.func70,Tryz.ntmps70
 go_wp2
 all_goals (go_ret; exact ⟨by rw [H.out]; rfl,((Below.refl _ _).alloc lR _).alloc (by simp) _⟩)
end
section
section
variable {P:Program} {ops:Array Oper} {Q:Exit -> Act -> World -> Prop} {md:Region.Mode} {S:World -> Prop}
theorem zbk {i F fuel:Nat} {oi:Oper} {d:Option Tmp} {v:Value} {listed listed':Array Bool} {a:Act} {w:World} (hi:ops[i]? = some oi) (hd:oi.dst = d) (hF:F = fuel + 1) (hl:listed.setIfInBounds i true = listed')
  (hs:Region.noSelect ops = true) (hf:Region.free md ops listed i = true) (hr:(Region.ready md ops listed).contains i = true)
  (hQ:∀ c a w,Q (.panic c) (a.put d v) w -> Q (.panic c) a w) (hw:Region.wanted oi (yielded ops a.tmps) = true) (hS:S w)
  (hv:∀ w,S w -> (execOp a.eval oi).run P w = .ok (.value v) w)
  (h:wpAnyH P md ops Q S fuel listed' (a.put d v) w):wpAnyH P md ops Q S F listed a w:=by
 subst hF hd hl
 exact wpAnyH_take hi hs hf hr hQ (.inl ⟨hw,hv⟩) hS h
def skipFine (md:Region.Mode) (ops:Array Oper):List (Nat × Tmp) -> Array Bool -> Array Value -> Bool
 | [],_,_ => true
 | (i,d) :: r,listed,tmps => (match ops[i]? with | some o => decide (o.dst = some d) && !Region.wanted o (yielded ops tmps) | none => false) && (Region.free md ops listed i && ((Region.ready md ops listed).contains i &&
   skipFine md ops r (listed.setIfInBounds i true) (tmps.setIfInBounds d undef)))
def skipListed:List (Nat × Tmp) -> Array Bool -> Array Bool
 | [],listed => listed
 | (i,_) :: r,listed => skipListed r (listed.setIfInBounds i true)
def skipAct:List (Nat × Tmp) -> Act -> Act
 | [],a => a
 | (_,d) :: r,a => skipAct r { a with tmps:=a.tmps.setIfInBounds d undef }
theorem takeS {w:World} (hs:Region.noSelect ops = true) (hQ:∀ c a d w,Q (.panic c) (a.put (some d) undef) w -> Q (.panic c) a w) (hS:S w):∀ (l:List (Nat × Tmp)) {F fuel:Nat} {listed listed':Array Bool} {a:Act},F = fuel + l.length -> skipListed l listed = listed' ->
  skipFine md ops l listed a.tmps = true -> wpAnyH P md ops Q S fuel listed' (skipAct l a) w -> wpAnyH P md ops Q S F listed a w
 | [],F,fuel,listed,listed',a,hF,hl,_,h => by subst hF hl; exact h
 | (i,d) :: r,F,fuel,listed,listed',a,hF,hl,hk,h => by
  subst hF hl
  simp only [skipFine,Bool.and_eq_true] at hk;obtain ⟨h1,h2,h3,h4⟩:=hk
  cases ho:ops[i]? with
  | none => rw [ho] at h1; cases h1
  | some o =>
   rw [ho] at h1;simp only [Bool.and_eq_true,decide_eq_true_eq,Bool.not_eq_true'] at h1;obtain ⟨hd,hw⟩:=h1;refine wpAnyH_take (fuel:=fuel + r.length) (v:=undef) ho hs h2 h3 (by rw [hd]; exact fun c a w => hQ c a d w) (.inr ⟨hw,rfl⟩) hS ?_;rw [hd];exact takeS hs hQ hS r rfl rfl h4 h
theorem takeC {i F fuel:Nat} {oi:Oper} {d:Option Tmp} {listed listed':Array Bool} {a:Act} {w:World} (hi:ops[i]? = some oi) (_hd:oi.dst = d) (hF:F = fuel + 1) (hl:listed.setIfInBounds i true = listed')
  (hr:Region.ready md ops listed = [i]) (hw:Region.wanted oi (yielded ops a.tmps) = true)
  (h:∀ K':Act -> World -> Prop,Shut (∀ a w,S w -> (S w -> wpAnyH P md ops Q S fuel listed' a w) -> K' a w) -> Oper.wp P oi a w K' Q):wpAnyH P md ops Q S F listed a w:=by
 subst hF hl _hd
 refine wpAnyH_ready hr (by simp) (AllReadyH.cons hi (fun K' hK => ?_) AllReadyH.nil);rw [if_pos hw]; exact h K' hK
end
end
section
def intBox (w:World) (g:Nat) (n:Int):Prop:=w.heap[g]? = some (.cells #[.int .i64 n] 3 (0,0))
theorem intBox.cell {w:World} {g:Nat} {n:Int} (h:intBox w g n):w.cell? ⟨g,0,none⟩ = some (.int .i64 n):=cell_of_one h
theorem intBox.free {w:World} {g:Nat} {n:Int} (h:intBox w g n):w.frozen? ⟨g,0,none⟩ = false:=free_of_one h
theorem intBox.lt {w:World} {g:Nat} {n:Int} (h:intBox w g n):g < w.heap.size:=lt_of_block h
theorem intBox.below {w w':World} {g:Nat} {n:Int} (h:intBox w g n) (hb:Below w.heap.size w w'):intBox w' g n:=(hb.block g h.lt).trans h
theorem intBox.keep {S:Nat -> Prop} {w w':World} {g:Nat} {n:Int} (h:intBox w g n) (hk:Keep S w w') (hs:¬ S g):intBox w' g n:=(hk.block g h.lt hs).trans h
def GlobN (N:Nat):Prop:=0 < N /\ 1 < N
theorem Tabs.keep {S:Nat -> Prop} {w w':World} {N:Nat} (h:Tabs w) (hg:GlobN N) (hk:Keep S w w') (hN:N <= w.heap.size) (hs:∀ k,k < N -> ¬ S k):Tabs w':=h.below' (hk.below hN hs) hg.1 hg.2
end
section
open Go.Lib (validD)
def vGood (deep:Nat) (L:Int) (x:V):Bool:=V.rightBy pairsOkI (12 - deep) x && decide ((x.nodes:Int) <= L)
def vGoods (deep:Nat) (L:Int) (xs:List V):Bool:=V.rightsBy pairsOkI (12 - deep) xs && decide ((V.nodess xs:Int) <= L)
def VIsA (n:Nat):Prop:=∀ (x:V) (cs:List Value) (deep N g:Nat) (L:Int) (w:World),x.nodes <= n -> RdN N w x.d cs -> N <= g -> intBox w g L -> x.wf -> x.bulk <= 4294967295 -> Tabs w -> GlobN N -> deep <= 1000000 -> 0 <= L /\ L <= 1000 ->
 Calls Tryz.prog 56 #[.agg cs.toArray,.int .i64 deep,.pointer (some ⟨g,0,none⟩)] w fun e w' => e = .returned (.bool (vGood deep L x)) /\ (∃ L':Int,intBox w' g L' /\ (vGood deep L x = true -> L' = L - x.nodes)) /\ Keep (· = g) w w'
theorem vGood_no1 {deep:Nat} {L:Int} {x:V} (h:L - 1 < 0):vGood deep L x = false:=by
 have:=x.nodes_pos; unfold vGood; rw [decide_eq_false (by omega),Bool.and_false]
theorem vGood_no2 {deep:Nat} {L:Int} {x:V} (h:(12:Int) < deep):vGood deep L x = false:=by
 obtain ⟨k,m,e,s,kids⟩:=x;unfold vGood; simp only [V.rightBy]; rw [decide_eq_false (show ¬ (0:Int) <= 12 - deep by omega)]; simp
theorem V.nodess_ge:∀ xs:List V,xs.length <= V.nodess xs
 | [] => by simp
 | x :: xs => by have:=x.nodes_pos; have:=V.nodess_ge xs; simp only [V.nodess,length_cons]; omega
theorem vGood_no3 {deep:Nat} {L:Int} {k m e:Int} {s:L8} {kids:List V} (h:L - 1 < kids.length):vGood deep L (.mk k m e s kids) = false:=by
 have:=V.nodess_ge kids; unfold vGood; rw [decide_eq_false (by simp only [V.nodes]; omega),Bool.and_false]
theorem zfp {deep:Nat} {L:Int} {x:V} (h:x.selfI = false):vGood deep L x = false:=by
 obtain ⟨k,m,e,s,kids⟩:=x;unfold vGood; simp only [V.rightBy]; rw [show V.selfBy pairsOkI (.mk k m e s kids) = false from h]; simp
theorem vGood_yes {deep:Nat} {L:Int} {k m e:Int} {s:L8} {kids:List V} (h2:¬ (12:Int) < deep) (ho:V.selfI (.mk k m e s kids) = true) :
  vGood deep L (.mk k m e s kids) = vGoods (deep + 1) (L - 1) kids:=by
 unfold vGood vGoods; simp only [V.rightBy,V.nodes]
 rw [show V.selfBy pairsOkI (.mk k m e s kids) = true from ho,decide_eq_true (show (0:Int) <= 12 - deep by omega),show (12:Int) - deep - 1 = 12 - (deep + 1:Nat) by omega,Bool.and_true,Bool.and_true]
 congr 1; exact decide_eq_decide.2 (by omega)
def VIsC (n:Nat):Prop:=∀ (xs:List V) (va:Value) (deep N g bd bl:Nat) (L:Int) (w:World),V.nodess xs <= n -> RdN N w (.sl 5 (V.ds xs)) [va] -> N <= g -> intBox w g L -> intBox w bd deep -> bd ≠ g -> w.cell? ⟨bl,0,none⟩ = some (.pointer (some ⟨g,0,none⟩)) -> bl ≠ g ->
  V.wfs xs -> xs.length + V.bulks xs <= 4294967295 -> Tabs w -> GlobN N -> deep <= 1000 -> 0 <= L /\ L <= 1000 ->
 Calls Tryz.prog 72 #[va,.func (.func 73) #[] #[.pointer (some ⟨bd,0,none⟩),.pointer (some ⟨bl,0,none⟩)]] w fun e w' => e = .returned (.bool (!vGoods (deep + 1) L xs)) /\ (∃ L':Int,intBox w' g L' /\ (vGoods (deep + 1) L xs = true -> L' = L - V.nodess xs)) /\ Keep (· = g) w w'
theorem VIsA_of {n:Nat} (hC:VIsC n):VIsA (n + 1):=by
 intro x cs deep N g L w hn h hNg hbox hwf hbk hT hG hdeep hL;obtain ⟨k,m,e,s,kids,v2,hx,rfl,hkids⟩:=V.layS h;subst hx;have hnk:V.nodess kids <= n:=by simp only [V.nodes] at hn; omega
 obtain ⟨hL1,hL2⟩:=hL;obtain ⟨M,rfl⟩:∃ M,L = M + 1:=⟨L - 1,by omega⟩;have hglt:=hbox.lt;obtain ⟨a2,c2,rfl⟩:=Rd.sl_form (Rd.of hkids);simp only [V.ds_map,length_map] at h hkids ⊢;rw [<- V.ds_map] at hkids;have hfree:=hbox.free;have hcell:=hbox.cell;obtain ⟨W0,hW0⟩:∃ W0,W0 = ((((w.setCell ⟨g,0,none⟩ (.int .i64 M)).alloc (.cells #[.int .i64 k,.int .i64 m,.int .i64 e,.string ⟨s.toArray⟩,.slice a2 kids.length c2] 32)).alloc (.cells #[.int .i64 deep] 3)).alloc (.cells #[.pointer (some ⟨g,0,none⟩)] 74)):=⟨_,rfl⟩;have HW:=Lib.hid hW0;have hK0:Keep (· = g) w W0:=by rw [hW0]; exact (((Keep.setCell (S:=(· = g)) (p:=⟨g,0,none⟩) (Keep.refl _ _) (.inl rfl) _).alloc _).alloc _).alloc _
 have hb0:intBox W0 g M:=by
  rw [hW0]
  have:intBox (w.setCell ⟨g,0,none⟩ (.int .i64 M)) g M:=one_setCell hbox
  exact ((this.below ((Below.refl _ _).alloc lR _)).below ((Below.refl _ _).alloc lR _)).below ((Below.refl _ _).alloc lR _)
 have hbd0:intBox W0 (w.heap.size + 1) deep:=by
  rw [hW0]; unfold intBox; rw [Below.heap_alloc _ _ _ (by simp [World.setCell])]
  have:=zat ((w.setCell ⟨g,0,none⟩ (.int .i64 M)).alloc (.cells #[.int .i64 k,.int .i64 m,.int .i64 e,.string ⟨s.toArray⟩,.slice a2 kids.length c2] 32)) (.cells #[.int .i64 deep] 3)
  simpa [World.setCell] using this
 have hng:∀ k,k < N -> ¬ k = g:=by intro k hk e; omega
 have hN:N <= w.heap.size:=by omega
 have hss:(w.setCell ⟨g,0,none⟩ (.int .i64 M)).heap.size = w.heap.size:=by simp [World.setCell]
 have hsz:W0.heap.size = w.heap.size + 3:=by rw [hW0]; simp [hss]
 have s1:g < w.heap.size + 1:=by omega
 have s2:g < w.heap.size + 1 + 1:=by omega
 have s3:g < w.heap.size + 1 + 1 + 1:=by omega
 have q1:¬ g = w.heap.size:=by omega
 have q2:¬ g = w.heap.size + 1:=by omega
 have q3:¬ g = w.heap.size + 1 + 1:=by omega
 have KB:Hid (∀ W,Below W0.heap.size W0 W -> W.cell? ⟨w.heap.size,0,none⟩ = some (.int .i64 k) /\ W.cell? ⟨w.heap.size,1,none⟩ = some (.int .i64 m) /\ W.cell? ⟨w.heap.size,2,none⟩ = some (.int .i64 e) /\ W.cell? ⟨w.heap.size,3,none⟩ = some (.string ⟨s.toArray⟩) /\ W.cell? ⟨w.heap.size,4,none⟩ = some (.slice a2 kids.length c2) /\ W.cell? ⟨w.heap.size + 1,0,none⟩ = some (.int .i64 deep) /\ W.cell? ⟨w.heap.size + 1 + 1,0,none⟩ = some (.pointer (some ⟨g,0,none⟩)) /\ W.cell? ⟨g,0,none⟩ = some (.int .i64 M)):=by
  intro W hb;obtain ⟨hc,_⟩:=zaP hb;have z1:w.heap.size < W0.heap.size:=by omega
  have z2:w.heap.size + 1 < W0.heap.size:=by omega
  have z3:w.heap.size + 1 + 1 < W0.heap.size:=by omega
  have z4:g < W0.heap.size:=by omega
  simp only [hc _ _ z1,hc _ _ z2,hc _ _ z3,hc _ _ z4,hb0.cell];subst hW0;simp [go_sem,hss]
 have hT0:=Lib.hid (hT.keep hG hK0 hN hng);have HR:=Lib.hid (show ∀ W,Below W0.heap.size W0 W -> RdN N W (V.d (.mk k m e s kids)) [.int .i64 k,.int .i64 m,.int .i64 e,.string ⟨s.toArray⟩,.slice a2 kids.length c2] from fun W hb => (h.keep hK0 hN hng).below (hb.mono (by omega)));have HRk:=Lib.hid (show ∀ W,Below W0.heap.size W0 W -> RdN N W (.sl 5 (V.ds kids)) [.slice a2 kids.length c2] from fun W hb => (RdN.keep hkids hK0 hN hng).below (hb.mono (by omega)));have HF:=Lib.hid (fun W (hb:Below W0.heap.size W0 W) => isNode_any _ _ W (HR.out W hb).rd hwf hbk (hT0.out.below hb));have HQ:=Lib.hid (fun W (hb:Below W0.heap.size W0 W) => zgi _ _ W (HR.out W hb).rd hbk);clear h hkids hT hbox hW0 hng hss q1 q2 q3;by_cases qc1:M < 0
 ·have dqc1:=decide_eq_true qc1
  have H:=Lib.hid (vGood_no1 (deep:=deep) (L:=M + 1) (x:=.mk k m e s kids) (by omega))
  go_enter Tryz.func56,Tryz.ntmps56
  go_wp2;rw [<- HW.out];have hB:=Below.refl W0.heap.size W0;obtain ⟨p0,p1,p2,p3,p4,p6,p7,p8⟩:=KB.out _ hB
  go_quiet (fail)
  go_wp2;go_ret;exact ⟨by rw [H.out]; rfl,⟨M,hb0.below (by first | exact hB | exact hB.drew | exact Go.below_drewN hB _),fun h => by rw [H.out] at h; cases h⟩,hK0.then (by first | exact hB | exact hB.drew | exact Go.below_drewN hB _)⟩
 have dqc1:=decide_eq_false qc1;by_cases qc2:(12:Int) < deep
 ·have dqc2:=decide_eq_true qc2
  have H:=Lib.hid (vGood_no2 (L:=M + 1) (x:=.mk k m e s kids) qc2)
  go_enter Tryz.func56,Tryz.ntmps56
  go_wp2;rw [<- HW.out];have hB:=Below.refl W0.heap.size W0;obtain ⟨p0,p1,p2,p3,p4,p6,p7,p8⟩:=KB.out _ hB
  go_quiet (fail)
  go_wp2;go_ret;exact ⟨by rw [H.out]; rfl,⟨M,hb0.below (by first | exact hB | exact hB.drew | exact Go.below_drewN hB _),fun h => by rw [H.out] at h; cases h⟩,hK0.then (by first | exact hB | exact hB.drew | exact Go.below_drewN hB _)⟩
 have dqc2:=decide_eq_false qc2;by_cases qc3:M < kids.length
 ·have dqc3:=decide_eq_true qc3
  have H:=Lib.hid (vGood_no3 (deep:=deep) (L:=M + 1) (k:=k) (m:=m) (e:=e) (s:=s) (kids:=kids) (by omega))
  go_enter Tryz.func56,Tryz.ntmps56
  go_wp2;rw [<- HW.out];have hB:=Below.refl W0.heap.size W0;obtain ⟨p0,p1,p2,p3,p4,p6,p7,p8⟩:=KB.out _ hB
  go_quiet (fail)
  go_wp2;go_ret;exact ⟨by rw [H.out]; rfl,⟨M,hb0.below (by first | exact hB | exact hB.drew | exact Go.below_drewN hB _),fun h => by rw [H.out] at h; cases h⟩,hK0.then (by first | exact hB | exact hB.drew | exact Go.below_drewN hB _)⟩
 have dqc3:=decide_eq_false qc3;have HSN:=Lib.hid (V.selfI_node (.mk k m e s kids))
 cases hnode:V.node (.mk k m e s kids) with
 | false =>
  have HO:=Lib.hid hnode;have H:=Lib.hid (zfp (deep:=deep) (L:=M + 1) (x:=.mk k m e s kids) (by rw [HSN.out,hnode]; rfl));clear hnode
  go_enter Tryz.func56,Tryz.ntmps56
  go_wp2;rw [<- HW.out];have hB:=Below.refl W0.heap.size W0;refine wp_region_held_drew (S:=(fun W => W.cell? ⟨w.heap.size,0,none⟩ = some (.int .i64 k) /\ W.cell? ⟨w.heap.size,1,none⟩ = some (.int .i64 m) /\ W.cell? ⟨w.heap.size,2,none⟩ = some (.int .i64 e) /\ W.cell? ⟨w.heap.size,3,none⟩ = some (.string ⟨s.toArray⟩) /\ W.cell? ⟨w.heap.size,4,none⟩ = some (.slice a2 kids.length c2) /\ W.cell? ⟨w.heap.size + 1,0,none⟩ = some (.int .i64 deep) /\ W.cell? ⟨w.heap.size + 1 + 1,0,none⟩ = some (.pointer (some ⟨g,0,none⟩)) /\ W.cell? ⟨g,0,none⟩ = some (.int .i64 M))) (by kernel_rfl) ?_ (fun hHeld => ?_)
  ·((try dsimp only); (first | exact KB.out _ hB | exact KB.out _ hB.drew))
  refine zbk (i:=0) (fuel:=26) (d:=some 12) (v:=?vr0) (listed':=#[true,false,false,false,false,false,false,false,false,false,false,false,false,false,false,false,false,false,false,false,false,false,false,false,false,false,false]) rfl rfl (by kernel_rfl) (by kernel_rfl) (by kernel_rfl) (by kernel_rfl) (by kernel_rfl) (fun _ _ _ h => h) (by kernel_rfl) (by assumption) ?hr0 ?rr0
  case hr0 => (intro w hSw; (try dsimp only at hSw); go_simp; all_goals with_reducible rfl)
  simp only [Act.put,setIfInBounds_toArray,set_cons_zero,set_cons_succ];refine zbk (i:=1) (fuel:=25) (d:=some 13) (v:=?vr1) (listed':=#[true,true,false,false,false,false,false,false,false,false,false,false,false,false,false,false,false,false,false,false,false,false,false,false,false,false,false]) rfl rfl (by kernel_rfl) (by kernel_rfl) (by kernel_rfl) (by kernel_rfl) (by kernel_rfl) (fun _ _ _ h => h) (by kernel_rfl) (by assumption) ?hr1 ?rr1
  case hr1 => (intro w hSw; (try dsimp only at hSw); go_simp; all_goals with_reducible rfl)
  simp only [Act.put,setIfInBounds_toArray,set_cons_zero,set_cons_succ];refine zbk (i:=2) (fuel:=24) (d:=some 14) (v:=?vr2) (listed':=#[true,true,true,false,false,false,false,false,false,false,false,false,false,false,false,false,false,false,false,false,false,false,false,false,false,false,false]) rfl rfl (by kernel_rfl) (by kernel_rfl) (by kernel_rfl) (by kernel_rfl) (by kernel_rfl) (fun _ _ _ h => h) (by kernel_rfl) (by assumption) ?hr2 ?rr2
  case hr2 => (intro w hSw; (try dsimp only at hSw); go_simp; all_goals with_reducible rfl)
  simp only [Act.put,setIfInBounds_toArray,set_cons_zero,set_cons_succ];refine zbk (i:=3) (fuel:=23) (d:=some 15) (v:=?vr3) (listed':=#[true,true,true,true,false,false,false,false,false,false,false,false,false,false,false,false,false,false,false,false,false,false,false,false,false,false,false]) rfl rfl (by kernel_rfl) (by kernel_rfl) (by kernel_rfl) (by kernel_rfl) (by kernel_rfl) (fun _ _ _ h => h) (by kernel_rfl) (by assumption) ?hr3 ?rr3
  case hr3 => (intro w hSw; (try dsimp only at hSw); go_simp; all_goals with_reducible rfl)
  simp only [Act.put,setIfInBounds_toArray,set_cons_zero,set_cons_succ];refine zbk (i:=4) (fuel:=22) (d:=some 16) (v:=?vr4) (listed':=#[true,true,true,true,true,false,false,false,false,false,false,false,false,false,false,false,false,false,false,false,false,false,false,false,false,false,false]) rfl rfl (by kernel_rfl) (by kernel_rfl) (by kernel_rfl) (by kernel_rfl) (by kernel_rfl) (fun _ _ _ h => h) (by kernel_rfl) (by assumption) ?hr4 ?rr4
  case hr4 => (intro w hSw; (try dsimp only at hSw); go_simp; all_goals with_reducible rfl)
  simp only [Act.put,setIfInBounds_toArray,set_cons_zero,set_cons_succ];refine zbk (i:=5) (fuel:=21) (d:=some 17) (v:=?vr5) (listed':=#[true,true,true,true,true,true,false,false,false,false,false,false,false,false,false,false,false,false,false,false,false,false,false,false,false,false,false]) rfl rfl (by kernel_rfl) (by kernel_rfl) (by kernel_rfl) (by kernel_rfl) (by kernel_rfl) (fun _ _ _ h => h) (by kernel_rfl) (by assumption) ?hr5 ?rr5
  case hr5 => (intro w hSw; (try dsimp only at hSw); go_simp; all_goals with_reducible rfl)
  simp only [Act.put,setIfInBounds_toArray,set_cons_zero,set_cons_succ];refine zbk (i:=6) (fuel:=20) (d:=some 18) (v:=?vr6) (listed':=#[true,true,true,true,true,true,true,false,false,false,false,false,false,false,false,false,false,false,false,false,false,false,false,false,false,false,false]) rfl rfl (by kernel_rfl) (by kernel_rfl) (by kernel_rfl) (by kernel_rfl) (by kernel_rfl) (fun _ _ _ h => h) (by kernel_rfl) (by assumption) ?hr6 ?rr6
  case hr6 => (intro w hSw; (try dsimp only at hSw); go_simp; all_goals with_reducible rfl)
  simp only [Act.put,setIfInBounds_toArray,set_cons_zero,set_cons_succ];refine zbk (i:=7) (fuel:=19) (d:=some 19) (v:=?vr7) (listed':=#[true,true,true,true,true,true,true,true,false,false,false,false,false,false,false,false,false,false,false,false,false,false,false,false,false,false,false]) rfl rfl (by kernel_rfl) (by kernel_rfl) (by kernel_rfl) (by kernel_rfl) (by kernel_rfl) (fun _ _ _ h => h) (by kernel_rfl) (by assumption) ?hr7 ?rr7
  case hr7 => (intro w hSw; (try dsimp only at hSw); go_simp; all_goals with_reducible rfl)
  simp only [Act.put,setIfInBounds_toArray,set_cons_zero,set_cons_succ];refine zbk (i:=8) (fuel:=18) (d:=some 20) (v:=?vr8) (listed':=#[true,true,true,true,true,true,true,true,true,false,false,false,false,false,false,false,false,false,false,false,false,false,false,false,false,false,false]) rfl rfl (by kernel_rfl) (by kernel_rfl) (by kernel_rfl) (by kernel_rfl) (by kernel_rfl) (fun _ _ _ h => h) (by kernel_rfl) (by assumption) ?hr8 ?rr8
  case hr8 => (intro w hSw; (try dsimp only at hSw); go_simp; all_goals with_reducible rfl)
  simp only [Act.put,setIfInBounds_toArray,set_cons_zero,set_cons_succ];refine zbk (i:=9) (fuel:=17) (d:=some 21) (v:=?vr9) (listed':=#[true,true,true,true,true,true,true,true,true,true,false,false,false,false,false,false,false,false,false,false,false,false,false,false,false,false,false]) rfl rfl (by kernel_rfl) (by kernel_rfl) (by kernel_rfl) (by kernel_rfl) (by kernel_rfl) (fun _ _ _ h => h) (by kernel_rfl) (by assumption) ?hr9 ?rr9
  case hr9 => (intro w hSw; (try dsimp only at hSw); go_simp; all_goals with_reducible rfl)
  simp only [Act.put,setIfInBounds_toArray,set_cons_zero,set_cons_succ];refine zbk (i:=10) (fuel:=16) (d:=some 22) (v:=?vr10) (listed':=#[true,true,true,true,true,true,true,true,true,true,true,false,false,false,false,false,false,false,false,false,false,false,false,false,false,false,false]) rfl rfl (by kernel_rfl) (by kernel_rfl) (by kernel_rfl) (by kernel_rfl) (by kernel_rfl) (fun _ _ _ h => h) (by kernel_rfl) (by assumption) ?hr10 ?rr10
  case hr10 => (intro w hSw; (try dsimp only at hSw); go_simp; all_goals with_reducible rfl)
  simp only [Act.put,setIfInBounds_toArray,set_cons_zero,set_cons_succ];refine zbk (i:=11) (fuel:=15) (d:=some 23) (v:=?vr11) (listed':=#[true,true,true,true,true,true,true,true,true,true,true,true,false,false,false,false,false,false,false,false,false,false,false,false,false,false,false]) rfl rfl (by kernel_rfl) (by kernel_rfl) (by kernel_rfl) (by kernel_rfl) (by kernel_rfl) (fun _ _ _ h => h) (by kernel_rfl) (by assumption) ?hr11 ?rr11
  case hr11 => (intro w hSw; (try dsimp only at hSw); go_simp; all_goals with_reducible rfl)
  simp only [Act.put,setIfInBounds_toArray,set_cons_zero,set_cons_succ];refine zbk (i:=12) (fuel:=14) (d:=some 24) (v:=?vr12) (listed':=#[true,true,true,true,true,true,true,true,true,true,true,true,true,false,false,false,false,false,false,false,false,false,false,false,false,false,false]) rfl rfl (by kernel_rfl) (by kernel_rfl) (by kernel_rfl) (by kernel_rfl) (by kernel_rfl) (fun _ _ _ h => h) (by kernel_rfl) (by assumption) ?hr12 ?rr12
  case hr12 => (intro w hSw; (try dsimp only at hSw); go_simp; all_goals with_reducible rfl)
  simp only [Act.put,setIfInBounds_toArray,set_cons_zero,set_cons_succ];refine zbk (i:=13) (fuel:=13) (d:=some 25) (v:=?vr13) (listed':=#[true,true,true,true,true,true,true,true,true,true,true,true,true,true,false,false,false,false,false,false,false,false,false,false,false,false,false]) rfl rfl (by kernel_rfl) (by kernel_rfl) (by kernel_rfl) (by kernel_rfl) (by kernel_rfl) (fun _ _ _ h => h) (by kernel_rfl) (by assumption) ?hr13 ?rr13
  case hr13 => (intro w hSw; (try dsimp only at hSw); go_simp; all_goals with_reducible rfl)
  simp only [Act.put,setIfInBounds_toArray,set_cons_zero,set_cons_succ];refine zbk (i:=14) (fuel:=12) (d:=some 26) (v:=?vr14) (listed':=#[true,true,true,true,true,true,true,true,true,true,true,true,true,true,true,false,false,false,false,false,false,false,false,false,false,false,false]) rfl rfl (by kernel_rfl) (by kernel_rfl) (by kernel_rfl) (by kernel_rfl) (by kernel_rfl) (fun _ _ _ h => h) (by kernel_rfl) (by assumption) ?hr14 ?rr14
  case hr14 => (intro w hSw; (try dsimp only at hSw); go_simp; all_goals with_reducible rfl)
  simp only [Act.put,setIfInBounds_toArray,set_cons_zero,set_cons_succ];refine zbk (i:=15) (fuel:=11) (d:=some 27) (v:=?vr15) (listed':=#[true,true,true,true,true,true,true,true,true,true,true,true,true,true,true,true,false,false,false,false,false,false,false,false,false,false,false]) rfl rfl (by kernel_rfl) (by kernel_rfl) (by kernel_rfl) (by kernel_rfl) (by kernel_rfl) (fun _ _ _ h => h) (by kernel_rfl) (by assumption) ?hr15 ?rr15
  case hr15 => (intro w hSw; (try dsimp only at hSw); go_simp; all_goals with_reducible rfl)
  simp only [Act.put,setIfInBounds_toArray,set_cons_zero,set_cons_succ];refine zbk (i:=16) (fuel:=10) (d:=some 28) (v:=?vr16) (listed':=#[true,true,true,true,true,true,true,true,true,true,true,true,true,true,true,true,true,false,false,false,false,false,false,false,false,false,false]) rfl rfl (by kernel_rfl) (by kernel_rfl) (by kernel_rfl) (by kernel_rfl) (by kernel_rfl) (fun _ _ _ h => h) (by kernel_rfl) (by assumption) ?hr16 ?rr16
  case hr16 => (intro w hSw; (try dsimp only at hSw); go_simp; all_goals with_reducible rfl)
  simp only [Act.put,setIfInBounds_toArray,set_cons_zero,set_cons_succ];refine zbk (i:=17) (fuel:=9) (d:=some 29) (v:=?vr17) (listed':=#[true,true,true,true,true,true,true,true,true,true,true,true,true,true,true,true,true,true,false,false,false,false,false,false,false,false,false]) rfl rfl (by kernel_rfl) (by kernel_rfl) (by kernel_rfl) (by kernel_rfl) (by kernel_rfl) (fun _ _ _ h => h) (by kernel_rfl) (by assumption) ?hr17 ?rr17
  case hr17 => (intro w hSw; (try dsimp only at hSw); go_simp; all_goals with_reducible rfl)
  simp only [Act.put,setIfInBounds_toArray,set_cons_zero,set_cons_succ];refine zbk (i:=18) (fuel:=8) (d:=some 30) (v:=?vr18) (listed':=#[true,true,true,true,true,true,true,true,true,true,true,true,true,true,true,true,true,true,true,false,false,false,false,false,false,false,false]) rfl rfl (by kernel_rfl) (by kernel_rfl) (by kernel_rfl) (by kernel_rfl) (by kernel_rfl) (fun _ _ _ h => h) (by kernel_rfl) (by assumption) ?hr18 ?rr18
  case hr18 => (intro w hSw; (try dsimp only at hSw); go_simp; all_goals with_reducible rfl)
  simp only [Act.put,setIfInBounds_toArray,set_cons_zero,set_cons_succ];refine takeC (i:=19) (fuel:=7) (d:=some 31) (listed':=#[true,true,true,true,true,true,true,true,true,true,true,true,true,true,true,true,true,true,true,true,false,false,false,false,false,false,false]) rfl rfl (by kernel_rfl) (by kernel_rfl) (by kernel_rfl) (by kernel_rfl) (fun K hK => ?cr19)
  go_simp
  ((go_at_call 70; with_reducible refine (HF.out _ (by first | exact hB | exact hB.drew)).mono ?_; rw [HO.out]; rintro e1 w1 ⟨rfl,hb1⟩; replace hB:=zag (by first | exact hB | exact hB.drew) hb1 lR))
  go_wp2_with fail
  refine hK.out _ _ ?kr19 (fun hHeld => ?nr19)
  case kr19 => ((try dsimp only); (first | exact KB.out _ hB | exact KB.out _ hB.drew))
  clear hK K
  try simp only [skipAct,Act.put,setIfInBounds_toArray,set_cons_zero,set_cons_succ]
  refine zbk (i:=20) (fuel:=6) (d:=some 32) (v:=?vr20) (listed':=#[true,true,true,true,true,true,true,true,true,true,true,true,true,true,true,true,true,true,true,true,true,false,false,false,false,false,false]) rfl rfl (by kernel_rfl) (by kernel_rfl) (by kernel_rfl) (by kernel_rfl) (by kernel_rfl) (fun _ _ _ h => h) (by kernel_rfl) (by assumption) ?hr20 ?rr20
  case hr20 => (intro w hSw; (try dsimp only at hSw); go_simp; all_goals with_reducible rfl)
  simp only [Act.put,setIfInBounds_toArray,set_cons_zero,set_cons_succ];refine zbk (i:=21) (fuel:=5) (d:=some 33) (v:=?vr21) (listed':=#[true,true,true,true,true,true,true,true,true,true,true,true,true,true,true,true,true,true,true,true,true,true,false,false,false,false,false]) rfl rfl (by kernel_rfl) (by kernel_rfl) (by kernel_rfl) (by kernel_rfl) (by kernel_rfl) (fun _ _ _ h => h) (by kernel_rfl) (by assumption) ?hr21 ?rr21
  case hr21 => (intro w hSw; (try dsimp only at hSw); go_simp; all_goals with_reducible rfl)
  simp only [Act.put,setIfInBounds_toArray,set_cons_zero,set_cons_succ];refine zbk (i:=22) (fuel:=4) (d:=some 34) (v:=?vr22) (listed':=#[true,true,true,true,true,true,true,true,true,true,true,true,true,true,true,true,true,true,true,true,true,true,true,false,false,false,false]) rfl rfl (by kernel_rfl) (by kernel_rfl) (by kernel_rfl) (by kernel_rfl) (by kernel_rfl) (fun _ _ _ h => h) (by kernel_rfl) (by assumption) ?hr22 ?rr22
  case hr22 => (intro w hSw; (try dsimp only at hSw); go_simp; all_goals with_reducible rfl)
  simp only [Act.put,setIfInBounds_toArray,set_cons_zero,set_cons_succ];refine takeS (fuel:=1) (listed':=#[true,true,true,true,true,true,true,true,true,true,true,true,true,true,true,true,true,true,true,true,true,true,true,true,true,true,false]) (by kernel_rfl) (fun _ _ _ _ h => h) (by assumption) [(23,35),(24,36),(25,37)] (by kernel_rfl) (by kernel_rfl) (by kernel_rfl) ?_;simp only [skipAct,setIfInBounds_toArray,set_cons_zero,set_cons_succ];refine zbk (i:=26) (fuel:=0) (d:=some 38) (v:=?vr26) (listed':=#[true,true,true,true,true,true,true,true,true,true,true,true,true,true,true,true,true,true,true,true,true,true,true,true,true,true,true]) rfl rfl (by kernel_rfl) (by kernel_rfl) (by kernel_rfl) (by kernel_rfl) (by kernel_rfl) (fun _ _ _ h => h) (by kernel_rfl) (by assumption) ?hr26 ?rr26
  case hr26 => (intro w hSw; (try dsimp only at hSw); go_simp; all_goals with_reducible rfl)
  simp only [Act.put,setIfInBounds_toArray,set_cons_zero,set_cons_succ];refine wpAnyH_done (by kernel_rfl) ?_ _;go_wp2;go_ret
  exact ⟨by rw [H.out]; rfl,⟨M,hb0.below (by first | exact hB | exact hB.drew | exact Go.below_drewN hB _),fun h => by rw [H.out] at h; cases h⟩,hK0.then (by first | exact hB | exact hB.drew | exact Go.below_drewN hB _)⟩
 | true =>
  have HO:=Lib.hid hnode
  cases hkk:V.kidsOk k kids with
  | false =>
   have HKK:=Lib.hid (show V.kidsOk (V.kind (.mk k m e s kids)) (V.kids (.mk k m e s kids)) = false from hkk);have H:=Lib.hid (zfp (deep:=deep) (L:=M + 1) (x:=.mk k m e s kids) (by rw [HSN.out,hnode]; exact hkk));clear hnode hkk
   go_enter Tryz.func56,Tryz.ntmps56
   go_wp2;rw [<- HW.out];have hB:=Below.refl W0.heap.size W0
   go_region_held3 (fun W => W.cell? ⟨w.heap.size,0,none⟩ = some (.int .i64 k) /\ W.cell? ⟨w.heap.size,1,none⟩ = some (.int .i64 m) /\ W.cell? ⟨w.heap.size,2,none⟩ = some (.int .i64 e) /\ W.cell? ⟨w.heap.size,3,none⟩ = some (.string ⟨s.toArray⟩) /\ W.cell? ⟨w.heap.size,4,none⟩ = some (.slice a2 kids.length c2) /\ W.cell? ⟨w.heap.size + 1,0,none⟩ = some (.int .i64 deep) /\ W.cell? ⟨w.heap.size + 1 + 1,0,none⟩ = some (.pointer (some ⟨g,0,none⟩)) /\ W.cell? ⟨g,0,none⟩ = some (.int .i64 M))
    (first | exact KB.out _ hB | exact KB.out _ hB.drew)
    (first | (go_at_call 70; with_reducible refine (HF.out _ (by first | exact hB | exact hB.drew)).mono ?_; rw [HO.out]; rintro e1 w1 ⟨rfl,hb1⟩; replace hB:=zag (by first | exact hB | exact hB.drew) hb1 lR) | (go_at_call 71; with_reducible refine (HQ.out _ (by first | exact hB | exact hB.drew)).mono ?_; rw [HKK.out]; rintro e1 w1 ⟨rfl,hb1⟩; replace hB:=zag (by first | exact hB | exact hB.drew) hb1 lR))
   go_wp2;go_ret
   exact ⟨by rw [H.out]; rfl,⟨M,hb0.below (by first | exact hB | exact hB.drew | exact Go.below_drewN hB _),fun h => by rw [H.out] at h; cases h⟩,hK0.then (by first | exact hB | exact hB.drew | exact Go.below_drewN hB _)⟩
  | true =>
   have HKK:=Lib.hid (show V.kidsOk (V.kind (.mk k m e s kids)) (V.kids (.mk k m e s kids)) = true from hkk);have H0:=vGood_yes (L:=M + 1) qc2 (show V.selfI (.mk k m e s kids) = true by rw [HSN.out,hnode]; exact hkk);rw [show M + 1 - 1 = M by omega] at H0;have H:=Lib.hid H0;clear H0 hnode hkk
   go_enter Tryz.func56,Tryz.ntmps56
   go_wp2;rw [<- HW.out];have hB:=Below.refl W0.heap.size W0
   go_region_held3 (fun W => W.cell? ⟨w.heap.size,0,none⟩ = some (.int .i64 k) /\ W.cell? ⟨w.heap.size,1,none⟩ = some (.int .i64 m) /\ W.cell? ⟨w.heap.size,2,none⟩ = some (.int .i64 e) /\ W.cell? ⟨w.heap.size,3,none⟩ = some (.string ⟨s.toArray⟩) /\ W.cell? ⟨w.heap.size,4,none⟩ = some (.slice a2 kids.length c2) /\ W.cell? ⟨w.heap.size + 1,0,none⟩ = some (.int .i64 deep) /\ W.cell? ⟨w.heap.size + 1 + 1,0,none⟩ = some (.pointer (some ⟨g,0,none⟩)) /\ W.cell? ⟨g,0,none⟩ = some (.int .i64 M))
    (first | exact KB.out _ hB | exact KB.out _ hB.drew)
    (first | (go_at_call 70; with_reducible refine (HF.out _ (by first | exact hB | exact hB.drew)).mono ?_; rw [HO.out]; rintro e1 w1 ⟨rfl,hb1⟩; replace hB:=zag (by first | exact hB | exact hB.drew) hb1 lR) | (go_at_call 71; with_reducible refine (HQ.out _ (by first | exact hB | exact hB.drew)).mono ?_; rw [HKK.out]; rintro e1 w1 ⟨rfl,hb1⟩; replace hB:=zag (by first | exact hB | exact hB.drew) hb1 lR))
   obtain ⟨p0,p1,p2,p3,p4,p6,p7,p8⟩:=KB.out _ hB;have hkw:V.wfs kids:=hwf.2.2.2.2.2;have hkb:kids.length + V.bulks kids <= 4294967295:=by simp only [V.bulk] at hbk; omega
   have HCC:=Lib.hid (hC kids _ deep N g (w.heap.size + 1) (w.heap.size + 1 + 1) M _ hnk (HRk.out _ hB) hNg (hb0.below hB) (hbd0.below hB) (by omega) p7 (by omega) hkw hkb (hT0.out.below hB) hG (by omega) (by omega))
   go_wp2_with (go_at_call 72; refine HCC.out.mono ?_; rintro e1 w2 ⟨rfl,⟨L',hbx,hL'⟩,hk2⟩)
   go_ret;exact ⟨by rw [H.out]; simp,⟨L',hbx,fun hh => by rw [H.out] at hh; rw [hL' hh]; simp only [V.nodes]; omega⟩,(hK0.then hB).trans hk2⟩
theorem zfq {n:Nat} (hA:VIsA n) (x:V) (cs:List Value) (deep N g bd bl:Nat) (L:Int) (w:World) (hn:x.nodes <= n) (h:RdN N w x.d cs) (hNg:N <= g) (hbox:intBox w g L) (hbd:intBox w bd deep) (hbl:w.cell? ⟨bl,0,none⟩ = some (.pointer (some ⟨g,0,none⟩)))
  (hwf:x.wf) (hbk:x.bulk <= 4294967295) (hT:Tabs w) (hG:GlobN N) (hdeep:deep <= 1000) (hL:0 <= L /\ L <= 1000) :
  Calls Tryz.prog 73 #[.agg cs.toArray,.pointer (some ⟨bd,0,none⟩),.pointer (some ⟨bl,0,none⟩)] w fun e w' => e = .returned (.bool (!vGood (deep + 1) L x)) /\ (∃ L':Int,intBox w' g L' /\ (vGood (deep + 1) L x = true -> L' = L - x.nodes)) /\ Keep (· = g) w w':=by
 obtain ⟨k,m,e,s,a2,n2,c2,rfl⟩:=V.form h.rd;have hb1:=hbd.cell;have hz1:=hbd.lt;have hz2:bl < w.heap.size:=zen hbl;have hN:N <= w.heap.size:=by have:=hbox.lt; omega
 have hal:Below w.heap.size w (w.alloc (.cells #[.int .i64 k,.int .i64 m,.int .i64 e,.string ⟨s.toArray⟩,.slice a2 n2 c2] 32)):=(Below.refl _ _).alloc lR _;have HCC:=Lib.hid (hA x _ (deep + 1) N g L _ hn (h.below (hal.mono hN)) hNg (hbox.below hal) hwf hbk (hT.below hal) hG (by omega) hL)
 go_enter Tryz.func73,Tryz.ntmps73
 go_wp2_with (go_at_call 56; refine HCC.out.mono ?_; rintro e w1 ⟨rfl,hL',hk1⟩)
 go_ret;exact ⟨rfl,hL',(Keep.of_below hal).trans hk1⟩
theorem zgj (deep:Nat) (L:Int) (xs:List V) (k:Nat) (hk:k < xs.length) (h:vGoods deep L (xs.take k) = true) :
  vGoods deep L (xs.take (k + 1)) = vGood deep (L - V.nodess (xs.take k)) xs[k]:=by
 have hn:∀ (ls:List V) (x:V),V.nodess (ls ++ [x]) = V.nodess ls + x.nodes:=by
  intro ls x; induction ls with
  | nil => simp [V.nodess]
  | cons a ls ih => simp only [cons_append,V.nodess,ih]; omega
 unfold vGoods at h ⊢; unfold vGood
 rw [take_succ_eq_append_getElem hk,hn,V.rightsBy_all,all_append];rw [V.rightsBy_all] at h;simp only [Bool.and_eq_true,decide_eq_true_eq] at h;rw [h.1,Bool.true_and]
 congr 1
 ·simp
 ·exact decide_eq_decide.2 (by omega)
theorem vGoods_cut (deep:Nat) (L:Int) (xs:List V) (k:Nat) (h:vGoods deep L (xs.take k) = false):vGoods deep L xs = false:=by
 have hn:∀ (ls ms:List V),V.nodess (ls ++ ms) = V.nodess ls + V.nodess ms:=by
  intro ls ms; induction ls with
  | nil => simp [V.nodess]
  | cons a ls ih => simp only [cons_append,V.nodess,ih]; omega
 cases hk:vGoods deep L xs with
 | false => rfl
 | true =>
  exfalso;rw [<- take_append_drop k xs] at hk;unfold vGoods at h hk;rw [V.rightsBy_all,all_append,hn] at hk;rw [V.rightsBy_all] at h;simp only [Bool.and_eq_true,decide_eq_true_eq] at hk;rw [hk.1.1,decide_eq_true (by omega)] at h; cases h
theorem zfr {n:Nat} (hA:VIsA n) (xs:List V) (va:Value) (deep N g bd bl:Nat) (L:Int) (w:World) (hn:V.nodess xs <= n) (h:RdN N w (.sl 5 (V.ds xs)) [va]) (hNg:N <= g) (hbox:intBox w g L) (hbd:intBox w bd deep) (hbg:bd ≠ g) (hbl:w.cell? ⟨bl,0,none⟩ = some (.pointer (some ⟨g,0,none⟩))) (hlg:bl ≠ g)
  (hwf:V.wfs xs) (hbk:xs.length + V.bulks xs <= 4294967295) (hT:Tabs w) (hG:GlobN N) (hdeep:deep <= 1000) (hL:0 <= L /\ L <= 1000) :
  Calls Tryz.prog 91 #[va,.func (.func 73) #[] #[.pointer (some ⟨bd,0,none⟩),.pointer (some ⟨bl,0,none⟩)]] w fun e w' => (∃ r:Int,e = .returned (.int .i64 r) /\ decide (0 <= r) = !vGoods (deep + 1) L xs) /\ (∃ L':Int,intBox w' g L' /\ (vGoods (deep + 1) L xs = true -> L' = L - V.nodess xs)) /\ Keep (· = g) w w':=by
 have hN:N <= w.heap.size:=by have:=hbox.lt; omega
 have hng:∀ k,k < N -> ¬ k = g:=by intro k hk e; omega
 have hz1:=hbd.lt;have hz2:bl < w.heap.size:=zen hbl;have hlen:xs.length <= 4294967295:=by omega
 obtain ⟨a,c,rfl,hg⟩:=RepC.values h;obtain ⟨ok,hok⟩:∃ ok,vGoods (deep + 1) L xs = ok:=⟨_,rfl⟩;rw [hok];have HOK:=Lib.hid hok; clear hok
 obtain ⟨hL1,hL2⟩:=hL
 go_enter Tryz.func91,Tryz.ntmps91
 go_wp2
 go_loopw [8] (fun i wr => ∃ (k:Nat),k <= xs.length /\ i = .int .i64 k /\ intBox wr g (L - V.nodess (xs.take k)) /\ vGoods (deep + 1) L (xs.take k) = true /\ Keep (· = g) w wr) (fun i _ => xs.length - (intOf i).toNat)
 case atStart => exact ⟨0,Nat.zero_le _,rfl,by simpa [V.nodess] using hbox,by simp [vGoods,V.rightsBy,V.nodess,hL1],Keep.refl _ _⟩
 case round =>
  obtain ⟨k,hk,rfl,hbx,hgd,hkp⟩:=hrel;have HGD:=Lib.hid hgd;have hle:(V.nodess (xs.take k):Int) <= L:=by unfold vGoods at hgd; simp only [Bool.and_eq_true,decide_eq_true_eq] at hgd; exact hgd.2
  clear hgd;by_cases hlt:k < xs.length
  ·obtain ⟨_,_,b,o,rfl,hb,hcell⟩:=hg (by intro e; rw [e] at hlt; simp at hlt)
   obtain ⟨v0,v1,v2,v3,v4,hr,d0,d1,d2,d3,d4⟩:=hcell k hlt;clear hcell hg;obtain ⟨k1,k2,k3,s4,a6,n6,m6,hcs⟩:=V.formS hr;simp only [cons.injEq,and_true] at hcs;obtain ⟨rfl,rfl,rfl,rfl,rfl⟩:=hcs;have hbN:b < w.heap.size:=by omega
   have hbg':=hng b hb;rw [<- hkp.cell hbN hbg'] at d0 d1 d2 d3 d4;have hi1:(0:Int) <= k:=by omega
   have hi3:(k:Int) < xs.length:=by omega
   have hnk:xs[k].nodes <= n:=Nat.le_trans (V.nodes_get xs k hlt) hn;have HC:=Lib.hid (zfq hA xs[k] _ deep N g bd bl _ wr hnk (RdN.keep (N:=N) hr hkp hN hng) hNg hbx (hbd.keep hkp hbg) (by rw [hkp.cell hz2 hlg]; exact hbl) (V.wfs_get hwf k hlt) (V.bulk_get' hbk k hlt) (hT.keep hG hkp hN hng) hG hdeep (by omega));have HSN:=Lib.hid (zgj (deep + 1) L xs k hlt HGD.out)
   have hns:V.nodess (xs.take (k + 1)) = V.nodess (xs.take k) + xs[k].nodes:=by
    rw [take_succ_eq_append_getElem hlt]
    have hn:∀ (ls:List V) (x:V),V.nodess (ls ++ [x]) = V.nodess ls + x.nodes:=by
     intro ls x; induction ls with
     | nil => simp [V.nodess]
     | cons a ls ih => simp only [cons_append,V.nodess,ih]; omega
    exact hn _ _
   have HNS:=Lib.hid hns;clear hns hr hbx h hT hwf hbk hng hbox hbd hbl
   cases hgd:vGood (deep + 1) (L - V.nodess (xs.take k)) xs[k] with
   | true =>
    have HG:=Lib.hid hgd; clear hgd
    go_wp2_with (go_at_call 73; refine HC.out.mono ?_; rw [HG.out]; rintro e w1 ⟨rfl,⟨L',hbx1,hL'⟩,hk1⟩)
    go_roundw
    case rel => exact ⟨k + 1,by omega,by go_num,by rw [show L - (V.nodess (xs.take (k + 1)):Int) = L' by rw [hL' trivial,HNS.out]; omega]; exact hbx1,by rw [HSN.out,HG.out],hkp.trans hk1⟩
    case measure => simp [intOf]; omega
   | false =>
    have HG:=Lib.hid hgd; clear hgd
    have HF:=Lib.hid (show ok = false by rw [<- HOK.out]; exact vGoods_cut _ _ _ (k + 1) (by rw [HSN.out,HG.out]))
    go_wp2_with (go_at_call 73; refine HC.out.mono ?_; rw [HG.out]; rintro e w1 ⟨rfl,⟨L',hbx1,hL'⟩,hk1⟩)
    go_ret;exact ⟨⟨_,rfl,by rw [HF.out]; simp⟩,⟨L',hbx1,fun hh => by rw [HF.out] at hh; cases hh⟩,hkp.trans hk1⟩
  ·obtain rfl:k = xs.length:=by omega
   have h1:=HGD.out;rw [take_length] at h1 hbx;have HF:=Lib.hid (show ok = true by rw [<- HOK.out]; exact h1);clear h1;go_wp2;go_ret;exact ⟨⟨_,rfl,by rw [HF.out]; rfl⟩,⟨_,hbx,fun _ => rfl⟩,hkp⟩
theorem VIsC_of {n:Nat} (hA:VIsA n):VIsC n:=by
 intro xs va deep N g bd bl L w hn h hNg hbox hbd hbg hbl hlg hwf hbk hT hG hdeep hL;have HC:=Lib.hid (zfr hA xs va deep N g bd bl L w hn h hNg hbox hbd hbg hbl hlg hwf hbk hT hG hdeep hL)
 go_enter Tryz.func72,Tryz.ntmps72
 go_wp2_with (go_at_call 91; refine HC.out.mono ?_; rintro e w1 ⟨⟨r,rfl,hr⟩,hL',hk1⟩; have HR:=Lib.hid hr; clear hr)
 go_ret;exact ⟨by rw [<- HR.out]; rfl,hL',hk1⟩
theorem VIs_all:∀ n,VIsA n
 | 0 => fun x cs deep N g L w hn => absurd x.nodes_pos (by omega)
 | n + 1 => VIsA_of (VIsC_of (VIs_all n))
theorem zfs (x:V) (cs:List Value) (w:World) (h:Rd w x.d cs) (hwf:x.wf) (hbk:x.bulk <= 4294967295) (hT:Tabs w) :
  Calls Tryz.prog 33 #[.agg cs.toArray] w fun e w' => e = .returned (.bool x.ok) /\ Below w.heap.size w w':=by
 obtain ⟨k,m,e,s,a2,n2,c2,rfl⟩:=V.form h;obtain ⟨W0,hW0⟩:∃ W0,W0 = (w.alloc (.cells #[.int .i64 k,.int .i64 m,.int .i64 e,.string ⟨s.toArray⟩,.slice a2 n2 c2] 32)).alloc (.cells #[.int .i64 300] 3):=⟨_,rfl⟩;have HW:=Lib.hid hW0;have hA:Below w.heap.size w W0:=by rw [hW0]; exact ((Below.refl _ _).alloc lR _).alloc (by simp) _
 have hbx:intBox W0 (w.heap.size + 1) 300:=by
  rw [hW0]
  have:=zat (w.alloc (.cells #[.int .i64 k,.int .i64 m,.int .i64 e,.string ⟨s.toArray⟩,.slice a2 n2 c2] 32)) (.cells #[.int .i64 300] 3)
  simpa [intBox] using this
 have HC:=Lib.hid (VIs_all x.nodes x _ 0 w.heap.size (w.heap.size + 1) 300 W0 lR (h.rdN.below hA) (by omega) hbx hwf hbk (hT.below hA) ⟨hT.lt.1,hT.lt.2⟩ (by decide) (by decide));have hsz:W0.heap.size = w.heap.size + 2:=by rw [hW0]; simp
 clear hW0 h hbx
 go_enter Tryz.func33,Tryz.ntmps33
 go_wp2_with (go_at_call 56; rw [<- HW.out]; refine HC.out.mono ?_; rintro e w1 ⟨rfl,_,hk1⟩)
 go_ret;refine ⟨zar ?_,hA.trans (hk1.below (by omega) (fun k hk e => by omega))⟩;show vGood 0 300 x = _;rw [<- V.ok_impl]; unfold vGood; congr 1
 exact decide_eq_decide.2 (by omega)
end
section
variable {T:World -> Prop} {hT:Low ngl T}
theorem zdQ (hTab:∀ w,T w -> Tabs w) (v:V) (hw:v.wf) (hb:v.bulk <= 4294967295):FnV (env T hT) 33 [.ag (vC v)] (.d (pB v.ok)):=by
 refine FnV.old rfl fun w C vs hF _ ht hlen hv => ?_
 match vs,hlen with
 | [a],_ =>
  have h0:=hv 0 _ _ rfl rfl;rw [<- V.pc_eq] at h0;obtain ⟨cs,rfl,h1⟩:=vRd hF (V.wfd v) h0;exact zfs v cs w h1 hw hb (hTab w ht)
end
section
open Go.Lib (validD)
theorem step1_any (s:L8) (w:World) (hl:s.length <= 4294967295) (hT:Tabs w) :
  Calls Tryz.prog 77 #[.string ⟨s.toArray⟩] w fun e w' => e = .returned (.bool (!stepOk s)) /\ Below w.heap.size w w':=by
 have HC:=Lib.hid (zcg s w hl hT);by_cases h20:s.length <= 2000
 ·have i4:¬ (2000:Int) < s.length:=by omega
  have HS:=Lib.hid (show stepOk s = validD s by unfold stepOk; rw [decide_eq_true h20,Bool.and_true]);obtain ⟨r,hr⟩:∃ r,validD s = r:=⟨_,rfl⟩;rw [HS.out];rw [hr] at HC ⊢;clear hr hT
  go_enter Tryz.func77,Tryz.ntmps77
  go_wp2_with (go_at_call 78; refine HC.out.mono ?_; rintro e1 w1 ⟨rfl,hb1⟩)
  go_ret;exact ⟨rfl,hb1⟩
 ·have i4:(2000:Int) < s.length:=by omega
  have HS:=Lib.hid (show stepOk s = false by unfold stepOk; rw [decide_eq_false h20,Bool.and_false]);rw [HS.out];clear hT HC
  go_enter Tryz.func77,Tryz.ntmps77
  go_wp2;go_ret;exact ⟨rfl,Below.refl _ _⟩
theorem stepIx_any (st:List (L8)) (va:Value) (w:World) (h:StrRow w va st) (hl:st.length <= 4294967295) (hs:∀ s ∈ st,s.length <= 4294967295) (hT:Tabs w) :
  Calls Tryz.prog 94 #[va,.func (.func 77) #[] #[]] w fun e w' => (∃ r:Int,e = .returned (.int .i64 r) /\ decide (0 <= r) = !st.all stepOk) /\ Below w.heap.size w w':=by
 obtain ⟨a,c,rfl,hg⟩:=h;obtain ⟨ok,hok⟩:∃ ok,st.all stepOk = ok:=⟨_,rfl⟩;rw [hok];have HOK:=Lib.hid hok; clear hok
 have HH:=fun s (h1:s.length <= 4294967295) W (hW:Below w.heap.size w W) => Lib.hid (step1_any s W h1 (hT.below hW))
 have HG:=Lib.hid hg; clear hg hT
 go_enter Tryz.func94,Tryz.ntmps94
 go_wp2
 go_loopw [8] (fun i wr => ∃ (k:Nat),k <= st.length /\ i = .int .i64 k /\ (st.take k).all stepOk = true /\ Below w.heap.size w wr) (fun i _ => st.length - (intOf i).toNat)
 case atStart => exact ⟨0,Nat.zero_le _,rfl,rfl,Below.refl _ _⟩
 case round =>
  obtain ⟨k,hk,rfl,hgd,hbel⟩:=hrel;have HGD:=Lib.hid hgd; clear hgd
  by_cases hlt:k < st.length
  ·obtain ⟨b,o,rfl,hcell⟩:=HG.out (by intro e; rw [e] at hlt; simp at hlt)
   have hd:=hcell k hlt;have hbb:=zen hd;rw [<- (zaP hbel).1 _ _ hbb] at hd;have hi1:(0:Int) <= k:=by omega
   have hi3:(k:Int) < st.length:=by omega
   have HSN:=Lib.hid (show (st.take (k + 1)).all stepOk = stepOk st[k] by rw [take_succ_eq_append_getElem hlt,all_append,HGD.out]; simp)
   have HNO:=Lib.hid (fun (h:stepOk st[k] = false) => show ok = false by
    rw [<- HOK.out,all_eq_false]; exact ⟨st[k],getElem_mem hlt,by rw [h]; decide⟩)
   have HC:=HH st[k] (hs _ (getElem_mem hlt)) _ hbel;obtain ⟨ob,hob⟩:∃ ob,stepOk st[k] = ob:=⟨_,rfl⟩;rw [hob] at HC HSN HNO;clear hcell hob
   cases ob with
   | true =>
    go_wp2_with (go_at_call 77; refine HC.out.mono ?_; rintro e1 w1 ⟨rfl,hb1⟩)
    go_roundw
    case rel => exact ⟨k + 1,by omega,by go_num,HSN.out,zag hbel hb1 lR⟩
    case measure => simp [intOf]; omega
   | false =>
    go_wp2_with (go_at_call 77; refine HC.out.mono ?_; rintro e1 w1 ⟨rfl,hb1⟩)
    go_ret;exact ⟨⟨_,rfl,by rw [show ok = false by first | exact HNO.out rfl | exact HNO.out trivial]; simp⟩,zag hbel hb1 lR⟩
  ·obtain rfl:k = st.length:=by omega
   have h1:=HGD.out;rw [take_length] at h1;have HF:=Lib.hid (show ok = true by rw [<- HOK.out]; exact h1);clear h1;go_wp2;go_ret;exact ⟨⟨_,rfl,by rw [HF.out]; rfl⟩,hbel⟩
theorem stepF_any (st:List (L8)) (va:Value) (w:World) (h:StrRow w va st) (hl:st.length <= 4294967295) (hs:∀ s ∈ st,s.length <= 4294967295) (hT:Tabs w) :
  Calls Tryz.prog 76 #[va,.func (.func 77) #[] #[]] w fun e w' => e = .returned (.bool (!st.all stepOk)) /\ Below w.heap.size w w':=by
 have HC:=Lib.hid (stepIx_any st va w h hl hs hT);obtain ⟨ok,hok⟩:∃ ok,st.all stepOk = ok:=⟨_,rfl⟩;rw [hok] at HC ⊢;clear h hok hT
 go_enter Tryz.func76,Tryz.ntmps76
 go_wp2_with (go_at_call 94; refine HC.out.mono ?_; rintro e1 w1 ⟨⟨r,rfl,hr⟩,hb1⟩; have HR:=Lib.hid hr; clear hr)
 go_ret;exact ⟨by rw [<- HR.out]; rfl,hb1⟩
theorem zft (st:List (L8)) (va:Value) (w:World) (h:StrRow w va st) (hl:st.length <= 4294967295) (hs:∀ s ∈ st,s.length <= 4294967295) (hT:Tabs w) :
  Calls Tryz.prog 58 #[va] w fun e w' => e = .returned (.bool (stepsOk st)) /\ Below w.heap.size w w':=by
 have HC:=Lib.hid (stepF_any st va w h hl hs hT);obtain ⟨a,c,rfl,_⟩:=h;by_cases h12:st.length <= 12
 ·have i1:(st.length:Int) <= 12:=by omega
  have HF:=Lib.hid (show stepsOk st = st.all stepOk by unfold stepsOk; rw [decide_eq_true h12,Bool.true_and]);obtain ⟨ok,hok⟩:∃ ok,st.all stepOk = ok:=⟨_,rfl⟩;rw [HF.out];rw [hok] at HC ⊢;clear hok hT
  go_enter Tryz.func58,Tryz.ntmps58
  go_wp2_with (go_at_call 76; refine HC.out.mono ?_; rintro e1 w1 ⟨rfl,hb1⟩)
  go_ret;exact ⟨zar (by simp),hb1⟩
 ·have i1:¬ (st.length:Int) <= 12:=by omega
  have HF:=Lib.hid (show stepsOk st = false by unfold stepsOk; rw [decide_eq_false h12,Bool.false_and]);rw [HF.out];clear hT HC
  go_enter Tryz.func58,Tryz.ntmps58
  go_wp2;go_ret;exact ⟨rfl,Below.refl _ _⟩
end
section
variable {T:World -> Prop} {hT:Low ngl T}
theorem zeB (hTab:∀ w,T w -> Tabs w) (st:List (L8)) (hl:st.length <= 4294967295) (hs:∀ s ∈ st,s.length <= 4294967295):FnV (env T hT) 58 [.d (pSs st)] (.d (pB (stepsOk st))):=by
 refine FnV.old rfl fun w C vs hF _ ht hlen hv => ?_
 match vs,hlen with
 | [x],_ => exact zft st x w (strRow_of (hv 0 _ _ rfl rfl)) hl hs (hTab w ht)
end
section
def FnP (E:Env) (f:Nat) (args:List PV) (v:V) (ok:Bool):Prop:=Fn E f args (fun x lv => ∃ cs,x = .tup [.ag cs,.d (pB ok)] /\ erL cs = vC v /\ (toksL cs).Nodup /\ (∀ t ∈ toksL cs,lv t) /\ ownedL cs = true)
theorem FnP.v {E:Env} {f:Nat} {args:List PV} {v:V} {ok:Bool} (h:FnP E f args v ok):FnV E f args (.tup [.ag (vC v),.d (pB ok)]) :=
 h.mono fun x lv ⟨cs,e,he,_⟩ => by subst e; exact congrArg (fun l => some (PV.tup [.ag l,.d (pB ok)])) he
theorem zch {E:Env} {d:Nat} {c:List X} {r:List MOpr} {K:St -> Prop} {tm:Nat -> PV} {bx:LP PC} {nt:Nat} {live:List Nat} {f:Nat} {xs:List X} {args:List PV} {v:V} {ok:Bool} (hd:PV.dats (xs.map (ev tm)) = some args) (hF:FnP E f args v ok)
  (h:∀ (cs:List PC) (nt':Nat),erL cs = vC v -> cs.length = 5 -> nt + 2 <= nt' -> NewL nt nt' cs -> po E r K ⟨up d (.tup [.ag cs,.d (pB ok)]) tm,bx,nt',toksL cs ++ live⟩):po E (⟨some d,.call f xs,none,c⟩ :: r) K ⟨tm,bx,nt,live⟩:=by
 refine ⟨true,rfl,.inl ⟨rfl,.inl ⟨args,_,hd,hF,.inr ?_⟩⟩⟩;rintro x lv k ⟨cs,rfl,he,h2,h3,h4⟩ hk hlt
 have htk0:PV.toks (.tup [.ag cs,.d (pB ok)]) = toksL cs:=by
  show toksL cs ++ PC.toks (pB ok) = _;simp [pB,PC.toks]
 refine ⟨.tup [.ag (shL nt cs),.d (pB ok)],rfl,fun t ht => h3 t (by rw [htk0] at ht; exact ht),?_⟩;have htk:toksL (shL nt cs) = (toksL cs).map (· + nt):=zcZ nt cs;have hl:=congrArg length he;rw [zaw,length_map] at hl
 have:=h (shL nt cs) (nt + k) (by rw [erL_sh]; exact he) (by rw [zcC,length_map]; exact hl) (by omega) ⟨by rw [zcm]; exact h4,by rw [htk]; exact h2.map _ (fun a b hab h => hab (by omega)),fun t ht => by
  rw [htk] at ht;obtain ⟨t0,ht0,rfl⟩:=mem_map.1 ht
  have:=hlt t0 (h3 t0 ht0); omega⟩
 rw [htk] at this;rw [za1,htk0]; exact this
theorem owp {cs:List PC} {v:V} {ok:Bool} {nt nt':Nat} {live:List Nat} (he:erL cs = vC v) (hN:NewL nt nt' cs) (hl:∀ t ∈ toksL cs,t ∈ live):∃ cs',PV.tup [.ag cs,.d (pB ok)] = .tup [.ag cs',.d (pB ok)] /\ erL cs' = vC v /\ (toksL cs').Nodup /\ (∀ t ∈ toksL cs',t ∈ live) /\ ownedL cs' = true:=⟨cs,rfl,he,hN.nd,hl,hN.own⟩
end
section
variable {T:World -> Prop} {hT:Low ngl T}
attribute [local irreducible] po mw pt
theorem st_arg (st:List (L8)):PV.dats [.d (.sl 0 (pSr st))] = some [.d (pSs st)]:=by
 show some [PV.d (.sl 0 (erLL (pSr st)))] = _;rw [zd6]; rfl
theorem turnI_bw {v x:V} {ins:Bool} {st:List (L8)} {S:Nat} (hst:st ≠ []) (hv:v.wf) (hx:x.wf) (hs:∀ s ∈ st,s.length <= S) (hb:v.bulk + x.bulk + S + 2 <= 4294967295) (h:(turnI (withI x ins) v st).2 = true):(turnI (withI x ins) v st).1.wf /\ (turnI (withI x ins) v st).1.bulk <= v.bulk + x.bulk + S + 2:=by
 obtain ⟨h1,h2⟩:=zdG x ins st v hst;rw [<- h2 (by rw [h1]; exact h)];exact ⟨zdB st v x ins S hv hx hs hb,zcz st v x ins S hs⟩
theorem turnO_bw {v:V} {st:List (L8)} (hst:st ≠ []) (hv:v.wf) (hb:v.bulk <= 4294967295) (h:(turnI outI v st).2 = true):(turnI outI v st).1.wf /\ (turnI outI v st).1.bulk <= v.bulk:=by
 obtain ⟨h1,h2⟩:=zcJ st v hst;rw [<- h2 (by rw [h1]; exact h)];exact zc8 st v hv hb
def PBx (x:V) (ins:Bool) (bx:LP PC):Prop:=bx[1]? = some (vC x) /\ bx[2]? = some [pB ins]
theorem PBx.app {x:V} {ins:Bool} (bx r:LP PC) (h:PBx x ins bx):PBx x ins (bx ++ r):=by
 have hl:2 < bx.length:=by
  rcases Nat.lt_or_ge 2 bx.length with h' | h'
  ·exact h'
  ·have:=h.2; rw [getElem?_eq_none h'] at this; cases this
 exact ⟨by rw [getElem?_append_left (by omega)]; exact h.1,by rw [getElem?_append_left hl]; exact h.2⟩
theorem vsxi_arg (v x:V) (s:L8) (b:Bool):PV.dats [.ag (vC v),.d (pS s),.ag (vC x),.d (pB b)] = some [.ag (vC v),.d (pS s),.ag (vC x),.d (pB b)]:=by
 show some [PV.ag (erL (vC v)),.d (pS s),.ag (erL (vC x)),.d (pB b)] = _;rw [zai,zai]
theorem put1_g (hTen:∀ w,T w -> TenTab w) (hErr:∀ w,T w -> ErrTab w) (v x:V) (s:L8) (ins:Bool) (hb:v.kids.length <= 4294967290) (hs:s.length <= 2147483647) {bx:LP PC} {nt:Nat} {live:List Nat} (hP:PBx x ins bx) (hlw:∀ cs ∈ bx,lwL 0 cs) :
  FnG (env T hT) 74 (.ag (vC v) :: .d (pS s) :: [.ref 1 0,.ref 2 0]) bx nt live (fun y b n l => y = .tup [.ag (vC (withI x ins v s).1),.d (pB (withI x ins v s).2)] /\ b = bx /\ nt <= n /\ l = live):=by
 refine FnG.rowAG (fun cs hcs => lwL_le (Nat.zero_le _) (hlw cs hcs)) (zbN (zaf lk_i_put_1) (by show 4 <= 15; decide) fun B hB => ?_);unfold m_i_put_1;refine mO ?_;refine zal (cs:=vC v) rfl ?_;refine mN ?_;show mw _ _ _ _ ⟨up 7 (.d (.v (.bool false))) (up 6 (.ref (bx ++ [vC v]).length 0) (up 4 (.ref bx.length 0) _)),bx ++ [vC v] ++ [z6],nt,live⟩;have hP1:PBx x ins (bx ++ [vC v] ++ [z6]):=PBx.app _ _ (PBx.app _ _ hP);have h0:(bx ++ [vC v] ++ [z6])[bx.length]? = some (vC v):=by simp
 have h1:(bx ++ [vC v] ++ [z6])[(bx ++ [vC v]).length]? = some z6:=zaQ _ _;have hlow:∀ q,q < bx.length -> (bx ++ [vC v] ++ [z6])[q]? = bx[q]?:=fun q hq => by rw [append_assoc,getElem?_append_left hq]
 have hlen:(bx ++ [vC v] ++ [z6]).length = bx.length + 2:=by simp
 have hp1:(bx ++ [vC v]).length = bx.length + 1:=by simp
 generalize bx ++ [vC v] ++ [z6] = b1 at *;generalize (bx ++ [vC v]).length = p1 at *;refine mO ?_;refine zaa (p:=bx.length) (cs:=vC v) rfl rfl h0 rfl ?_;refine mS ?_;refine zaa (p:=1) (cs:=vC x) rfl rfl hP1.1 rfl ?_;refine zaD (p:=2) (o:=0) (cs:=[pB ins]) (v:=.d (pB ins)) rfl rfl hP1.2 (Nat.le_of_ble_eq_true rfl) rfl ?_;refine zac (vsxi_arg v x s ins) (withI_fn (T:=T) (hT:=hT) hTen hErr v x s ins hb hs) ?_;generalize withI x ins v s = pr;(iterate 2 refine mS ?_);refine zad (p:=p1) (cs:=vC pr.1) (z:=z6) rfl rfl h1 rfl rfl rfl ?_;refine mN ?_;obtain ⟨rest,hrest⟩:=zdP (bx:=bx) (b:=b1.set p1 (vC pr.1)) (fun q hq => by rw [getElem?_set_ne (by omega)]; exact hlow q hq);exact zab ⟨.inr rfl,[.ag (vC pr.1),.d (pB pr.2)],zaz rfl (getElem?_set_self (by omega)) rfl rfl,_,rest,rfl,hrest,.inl (zai _),lR,fun t h => h⟩
def PK (v x:V) (ins:Bool) (pr:V × Bool) (s:St):Prop:=has s.tm [(4,.ref 0 0),(8,.ref 3 0),(10,.ref 4 0),(11,.d (pB pr.2))] /\ s.bx = [vC v,vC x,[pB ins],z6,vC pr.1]
theorem putO_fn (hTen:∀ w,T w -> TenTab w) (hErr:∀ w,T w -> ErrTab w) (hTab:∀ w,T w -> Tabs w) (v x:V) (st:List (L8)) (ins:Bool) (S:Nat) (hv:v.wf) (hx:x.wf) (hs:∀ s ∈ st,s.length <= S) (hb:v.bulk + x.bulk + S + 2 <= 2147483647) (hl:st.length <= 2147483647) :
  FnP (env T hT) 57 [.ag (vC v),.d (pSs st),.ag (vC x),.d (pB ins)] (putJ v st x ins).1 (putJ v st x ins).2:=by
 have hJ:∀ pr:V × Bool,(if st = [] then (x,true) else turnI (withI x ins) v st) = pr -> putJ v st x ins = if stepsOk st = true /\ v.ok = true /\ x.ok = true /\ pr.2 = true /\ pr.1.ok = true then (pr.1,true) else (v,false):=fun pr h => by unfold putJ; rw [h]
 have hbw:∀ pr:V × Bool,(if st = [] then (x,true) else turnI (withI x ins) v st) = pr -> pr.2 = true -> pr.1.wf /\ pr.1.bulk <= v.bulk + x.bulk + S + 2:=fun pr h h2 => by
  by_cases hst:st = []
  ·rw [if_pos hst] at h; subst h
   exact ⟨hx,by show x.bulk <= _; omega⟩
  ·rw [if_neg hst] at h; subst h
   exact turnI_bw hst hv hx hs (by omega) h2
 have hno:¬ (stepsOk st = true /\ v.ok = true /\ x.ok = true) -> putJ v st x ins = (v,false):=fun h => by rw [hJ _ rfl,if_neg (fun k => h ⟨k.1,k.2.1,k.2.2.1⟩)]
 have hv1:=zdQ (T:=T) (hT:=hT) hTab v hv (by omega);have hv2:=zdQ (T:=T) (hT:=hT) hTab x hx (by omega);have hkl:v.kids.length <= 4294967290:=by rw [V.bulk_eq v] at hb; omega
 refine zaU (zaf lk_i_put) (by show 4 <= 49; decide) fun B hB => ?_
 unfold m_i_put;refine mO ?_;refine zal (cs:=vC v) rfl ?_;refine zal (cs:=vC x) rfl ?_;refine zal (cs:=[pB ins]) rfl ?_;refine mN ?_;refine mM ?_;refine mS ?_;refine zac (st_arg st) (zeB (T:=T) (hT:=hT) hTab st (by omega) (fun s h => by have:=hs s h; omega)) ?_
 cases ha:stepsOk st with
 | false =>
  (iterate 2 refine mS ?_);refine mZ ?_;(iterate 2 refine mS ?_);refine mZ ?_;refine mT ?_;refine mO ?_;refine zaa (p:=0) (cs:=vC v) rfl rfl rfl rfl ?_;refine zaW (n:=5) (zax v) (zaX (T:=T) (hT:=hT) v hv (by omega)) rfl (fun cs nt1 he hn _ hN => ?_);refine zad (p:=3) (cs:=cs) (z:=z6) rfl rfl rfl hn rfl rfl ?_;refine mN ?_;rw [hno (fun h => by rw [ha] at h; exact Bool.noConfusion h.1)]
  exact zab ⟨.inr rfl,[.ag cs,.d (pB false)],zaz rfl rfl hn rfl,owp he hN (fun t h => List.mem_append_left _ h)⟩
 | true =>
 (iterate 2 refine mS ?_);refine zaa (p:=0) (cs:=vC v) rfl rfl rfl rfl ?_;refine zaM (b:=true) rfl (fun _ => zax v) (fun _ => hv1) ?_
 cases h1:v.ok with
 | false =>
  (iterate 3 refine mS ?_);refine mZ ?_;refine mT ?_;refine mO ?_;refine zaa (p:=0) (cs:=vC v) rfl rfl rfl rfl ?_;refine zaW (n:=5) (zax v) (zaX (T:=T) (hT:=hT) v hv (by omega)) rfl (fun cs nt1 he hn _ hN => ?_);refine zad (p:=3) (cs:=cs) (z:=z6) rfl rfl rfl hn rfl rfl ?_;refine mN ?_;rw [hno (fun h => by rw [h1] at h; exact Bool.noConfusion h.2.1)]
  exact zab ⟨.inr rfl,[.ag cs,.d (pB false)],zaz rfl rfl hn rfl,owp he hN (fun t h => List.mem_append_left _ h)⟩
 | true =>
 (iterate 3 refine mS ?_);refine zaa (p:=1) (cs:=vC x) rfl rfl rfl rfl ?_;refine zaM (b:=true) rfl (fun _ => zax x) (fun _ => hv2) ?_
 cases h2:x.ok with
 | false =>
  refine mT ?_;refine mO ?_;refine zaa (p:=0) (cs:=vC v) rfl rfl rfl rfl ?_;refine zaW (n:=5) (zax v) (zaX (T:=T) (hT:=hT) v hv (by omega)) rfl (fun cs nt1 he hn _ hN => ?_);refine zad (p:=3) (cs:=cs) (z:=z6) rfl rfl rfl hn rfl rfl ?_;refine mN ?_;rw [hno (fun h => by rw [h2] at h; exact Bool.noConfusion h.2.2)]
  exact zab ⟨.inr rfl,[.ag cs,.d (pB false)],zaz rfl rfl hn rfl,owp he hN (fun t h => List.mem_append_left _ h)⟩
 | true =>
 refine mK ?_;refine mO ?_;refine zaa (p:=1) (cs:=vC x) rfl rfl rfl rfl ?_;refine zaH ?_;refine zad (p:=4) (cs:=vC x) (z:=z6) rfl rfl rfl rfl rfl rfl ?_;refine mN ?_;refine zaS (PK v x ins (if st = [] then (x,true) else turnI (withI x ins) v st)) ?_ ?_
 ·refine mQ ?_
  refine zay (n:=st.length) rfl rfl (za6 _) ?_;by_cases hst:st = []
  ·refine zan rfl rfl (decide_eq_false (by subst hst; simp)) ?_
   refine mK ?_;rw [if_pos hst];exact ⟨⟨rfl,rfl,rfl,rfl,trivial⟩,rfl⟩
  ·refine zah rfl rfl (decide_eq_true (by have:=length_pos_iff.2 hst; omega)) ?_
   refine mT ?_;refine zap ?_;refine zaa (p:=0) (cs:=vC v) rfl rfl rfl rfl ?_;(iterate 2 refine mS ?_)
   refine po_g rfl (turn_fn (T:=T) (hT:=hT) hTen hErr (F:=74) (caps:=[.ref 1 0,.ref 2 0]) (P:=PBx x ins) (f:=withI x ins) PBx.app (by kernel_rfl) (M:=v.bulk) (S:=S) (by omega) (by omega) (fun v' s' bx nt live hP hlw hvb hsb => put1_g (T:=T) (hT:=hT) hTen hErr v' x s' ins (by rw [V.bulk_eq v'] at hvb; omega) (by omega) hP hlw) st v [vC v,vC x,[pB ins],z6,vC x] 2 [] hst hs hl lR ⟨rfl,rfl⟩ (fun cs hcs => by
    simp only [mem_cons,not_mem_nil,or_false] at hcs
    rcases hcs with rfl | rfl | rfl | rfl | rfl
    ·exact vlw (zai v)
    ·exact vlw (zai x)
    ·exact ⟨trivial,trivial⟩
    ·exact vlw (v:=zP) rfl
    ·exact vlw (zai x))) ?_
   rw [if_neg hst];generalize turnI (withI x ins) v st = pr;rintro y b n l ⟨rfl,rfl,hn,rfl⟩;(iterate 3 refine mS ?_);refine zad (p:=4) (cs:=vC pr.1) (z:=vC x) rfl rfl rfl rfl rfl rfl ?_;refine mN ?_;exact ⟨⟨rfl,rfl,rfl,rfl,trivial⟩,rfl⟩
 generalize hq:(if st = [] then (x,true) else turnI (withI x ins) v st) = pr;have hJq:=hJ pr hq;have hbq:=hbw pr hq;clear hJ hbw hno;rintro tm bx nt live ⟨ht,hbx⟩;obtain ⟨tm2,rfl⟩:=zaq ht;simp only at hbx; subst hbx
 clear ht hq;obtain ⟨pv,pb⟩:=pr;refine mM ?_
 cases pb with
 | false =>
  have hwe:putJ v st x ins = (v,false):=by rw [hJq,if_neg (fun h => Bool.noConfusion h.2.2.2.1)]
  (iterate 3 refine mS ?_);refine mZ ?_;refine mT ?_;refine mO ?_;refine zaa (p:=0) (cs:=vC v) rfl rfl rfl rfl ?_;refine zaW (n:=5) (zax v) (zaX (T:=T) (hT:=hT) v hv (by omega)) rfl (fun cs nt1 he hn _ hN => ?_);refine zad (p:=3) (cs:=cs) (z:=z6) rfl rfl rfl hn rfl rfl ?_;refine mN ?_;rw [hwe]
  exact zab ⟨.inr rfl,[.ag cs,.d (pB false)],zaz rfl rfl hn rfl,owp he hN (fun t h => List.mem_append_left _ h)⟩
 | true =>
 obtain ⟨hpw,hpb⟩:=hbq rfl;simp only at hpw hpb;have hv3:=zdQ (T:=T) (hT:=hT) hTab pv hpw (by omega);(iterate 3 refine mS ?_);refine zaa (p:=4) (cs:=vC pv) rfl rfl rfl rfl ?_;refine zaM (b:=true) rfl (fun _ => zax pv) (fun _ => hv3) ?_
 cases h3:pv.ok with
 | false =>
  have hwe:putJ v st x ins = (v,false):=by rw [hJq,if_neg (fun h => by have h:=h.2.2.2.2; simp only at h; rw [h3] at h; exact Bool.noConfusion h)]
  refine mT ?_;refine mO ?_;refine zaa (p:=0) (cs:=vC v) rfl rfl rfl rfl ?_;refine zaW (n:=5) (zax v) (zaX (T:=T) (hT:=hT) v hv (by omega)) rfl (fun cs nt1 he hn _ hN => ?_);refine zad (p:=3) (cs:=cs) (z:=z6) rfl rfl rfl hn rfl rfl ?_;refine mN ?_;rw [hwe]
  exact zab ⟨.inr rfl,[.ag cs,.d (pB false)],zaz rfl rfl hn rfl,owp he hN (fun t h => List.mem_append_left _ h)⟩
 | true =>
  have hwe:putJ v st x ins = (pv,true):=by rw [hJq,if_pos ⟨ha,h1,h2,rfl,h3⟩]
  refine mK ?_;refine mO ?_;refine zaa (p:=4) (cs:=vC pv) rfl rfl rfl rfl ?_;refine zaW (n:=5) (zax pv) (zaX (T:=T) (hT:=hT) pv hpw (by omega)) rfl (fun cs nt1 he hn _ hN => ?_);refine zad (p:=3) (cs:=cs) (z:=z6) rfl rfl rfl hn rfl rfl ?_;refine mN ?_;rw [hwe];exact zab ⟨.inr rfl,[.ag cs,.d (pB true)],zaz rfl rfl hn rfl,owp he hN (fun t h => List.mem_append_left _ h)⟩
theorem PutO_fn (hTen:∀ w,T w -> TenTab w) (hErr:∀ w,T w -> ErrTab w) (hTab:∀ w,T w -> Tabs w) (v x:V) (st:List (L8)) (S:Nat) (hv:v.wf) (hx:x.wf) (hs:∀ s ∈ st,s.length <= S) (hb:v.bulk + x.bulk + S + 2 <= 2147483647) (hl:st.length <= 2147483647) :
  FnP (env T hT) 34 [.ag (vC v),.d (pSs st),.ag (vC x)] (putJ v st x false).1 (putJ v st x false).2:=by
 have hput:=putO_fn (T:=T) (hT:=hT) hTen hErr hTab v x st false S hv hx hs hb hl;generalize putJ v st x false = pr at hput ⊢;refine zaU (zaf lk_i_Put) (by show 3 <= 14; decide) fun B hB => ?_
 unfold m_i_Put;refine mO ?_;refine zal (cs:=vC v) rfl ?_;refine zal (cs:=vC x) rfl ?_;refine mN ?_;refine mO ?_;refine zaa (p:=0) (cs:=vC v) rfl rfl rfl rfl ?_;refine mS ?_;refine zaa (p:=1) (cs:=vC x) rfl rfl rfl rfl ?_;refine zch (zdN v x st false) hput (fun cs nt1 he hn _ hN => ?_);(iterate 2 refine mS ?_);refine zad (p:=2) (cs:=cs) (z:=z6) rfl rfl rfl hn rfl rfl ?_;refine mN ?_;exact zab ⟨.inr rfl,[.ag cs,.d (pB pr.2)],zaz rfl rfl hn rfl,owp he hN (fun t h => List.mem_append_left _ h)⟩
theorem InsertO_fn (hTen:∀ w,T w -> TenTab w) (hErr:∀ w,T w -> ErrTab w) (hTab:∀ w,T w -> Tabs w) (v x:V) (st:List (L8)) (S:Nat) (hv:v.wf) (hx:x.wf) (hs:∀ s ∈ st,s.length <= S) (hb:v.bulk + x.bulk + S + 2 <= 2147483647) (hl:st.length <= 2147483647) :
  FnP (env T hT) 35 [.ag (vC v),.d (pSs st),.ag (vC x)] (putJ v st x true).1 (putJ v st x true).2:=by
 have hput:=putO_fn (T:=T) (hT:=hT) hTen hErr hTab v x st true S hv hx hs hb hl;generalize putJ v st x true = pr at hput ⊢;refine zaU (zaf zgg) (by show 3 <= 14; decide) fun B hB => ?_
 unfold m_i_Insert;refine mO ?_;refine zal (cs:=vC v) rfl ?_;refine zal (cs:=vC x) rfl ?_;refine mN ?_;refine mO ?_;refine zaa (p:=0) (cs:=vC v) rfl rfl rfl rfl ?_;refine mS ?_;refine zaa (p:=1) (cs:=vC x) rfl rfl rfl rfl ?_;refine zch (zdN v x st true) hput (fun cs nt1 he hn _ hN => ?_);(iterate 2 refine mS ?_);refine zad (p:=2) (cs:=cs) (z:=z6) rfl rfl rfl hn rfl rfl ?_;refine mN ?_;exact zab ⟨.inr rfl,[.ag cs,.d (pB pr.2)],zaz rfl rfl hn rfl,owp he hN (fun t h => List.mem_append_left _ h)⟩
def remJ (v:V) (st:List (L8)):V × Bool :=
 if stepsOk st = true /\ st ≠ [] /\ v.ok = true /\ (turnI outI v st).2 = true then ((turnI outI v st).1,true) else (v,false)
theorem RemoveO_fn (hTen:∀ w,T w -> TenTab w) (hErr:∀ w,T w -> ErrTab w) (hTab:∀ w,T w -> Tabs w) (v:V) (st:List (L8)) (S:Nat) (hv:v.wf) (hs:∀ s ∈ st,s.length <= S) (hS:S <= 2147483647) (hb:v.bulk <= 2147483647) (hl:st.length <= 2147483647) :
  FnP (env T hT) 36 [.ag (vC v),.d (pSs st)] (remJ v st).1 (remJ v st).2:=by
 have hno:¬ (stepsOk st = true /\ st ≠ [] /\ v.ok = true) -> remJ v st = (v,false):=fun h => by unfold remJ; rw [if_neg (fun k => h ⟨k.1,k.2.1,k.2.2.1⟩)]
 have hv1:=zdQ (T:=T) (hT:=hT) hTab v hv (by omega);refine zaU (zaf zgh) (by show 2 <= 35; decide) fun B hB => ?_
 unfold m_i_Remove;refine mO ?_;refine zal (cs:=vC v) rfl ?_;refine mN ?_;refine mM ?_;refine mS ?_;refine zac (st_arg st) (zeB (T:=T) (hT:=hT) hTab st (by omega) (fun s h => by have:=hs s h; omega)) ?_
 cases ha:stepsOk st with
 | false =>
  (iterate 2 refine mS ?_);refine mZ ?_;(iterate 2 refine mS ?_);refine mZ ?_;refine mT ?_;refine mO ?_;refine zaa (p:=0) (cs:=vC v) rfl rfl rfl rfl ?_;refine zaW (n:=5) (zax v) (zaX (T:=T) (hT:=hT) v hv (by omega)) rfl (fun cs nt1 he hn _ hN => ?_);refine zad (p:=1) (cs:=cs) (z:=z6) rfl rfl rfl hn rfl rfl ?_;refine mN ?_;rw [hno (fun h => by rw [ha] at h; exact Bool.noConfusion h.1)]
  exact zab ⟨.inr rfl,[.ag cs,.d (pB false)],zaz rfl rfl hn rfl,owp he hN (fun t h => List.mem_append_left _ h)⟩
 | true =>
 (iterate 3 refine mS ?_);refine zay (n:=st.length) rfl rfl (za6 _) ?_;by_cases hst:st = []
 ·refine zah rfl rfl (beq_iff_eq.2 (by rw [hst]; rfl)) ?_
  (iterate 2 refine mS ?_);refine mZ ?_;refine mT ?_;refine mO ?_;refine zaa (p:=0) (cs:=vC v) rfl rfl rfl rfl ?_;refine zaW (n:=5) (zax v) (zaX (T:=T) (hT:=hT) v hv (by omega)) rfl (fun cs nt1 he hn _ hN => ?_);refine zad (p:=1) (cs:=cs) (z:=z6) rfl rfl rfl hn rfl rfl ?_;refine mN ?_;rw [hno (fun h => h.2.1 hst)];exact zab ⟨.inr rfl,[.ag cs,.d (pB false)],zaz rfl rfl hn rfl,owp he hN (fun t h => List.mem_append_left _ h)⟩
 refine zan rfl rfl (beq_eq_false_iff_ne.2 (by have:=length_pos_iff.2 hst; omega)) ?_;(iterate 2 refine mS ?_);refine zaa (p:=0) (cs:=vC v) rfl rfl rfl rfl ?_;refine zaM (b:=true) rfl (fun _ => zax v) (fun _ => hv1) ?_
 cases h1:v.ok with
 | false =>
  refine mT ?_;refine mO ?_;refine zaa (p:=0) (cs:=vC v) rfl rfl rfl rfl ?_;refine zaW (n:=5) (zax v) (zaX (T:=T) (hT:=hT) v hv (by omega)) rfl (fun cs nt1 he hn _ hN => ?_);refine zad (p:=1) (cs:=cs) (z:=z6) rfl rfl rfl hn rfl rfl ?_;refine mN ?_;rw [hno (fun h => by rw [h1] at h; exact Bool.noConfusion h.2.2)]
  exact zab ⟨.inr rfl,[.ag cs,.d (pB false)],zaz rfl rfl hn rfl,owp he hN (fun t h => List.mem_append_left _ h)⟩
 | true =>
 refine mK ?_;refine mO ?_;refine zaa (p:=0) (cs:=vC v) rfl rfl rfl rfl ?_;refine mS ?_
 refine po_g rfl (turn_fn (T:=T) (hT:=hT) hTen hErr (F:=60) (caps:=[]) (P:=fun _ => True) (f:=outI) (fun _ _ _ => trivial) (by kernel_rfl) (M:=v.bulk) (S:=S) (by omega) hS (fun v' s' bx nt live _ _ hvb hsb => FnG.ofFnV (zdO v' s') (outI_fn (T:=T) (hT:=hT) hTen hErr v' s' (by rw [V.bulk_eq v'] at hvb; omega) (by omega))) st v [vC v,z6] 2 [] hst hs hl lR trivial (fun cs hcs => by
  simp only [mem_cons,not_mem_nil,or_false] at hcs
  rcases hcs with rfl | rfl
  ·exact vlw (zai v)
  ·exact vlw (v:=zP) rfl)) ?_
 have hR:remJ v st = if (turnI outI v st).2 = true then ((turnI outI v st).1,true) else (v,false):=by
  unfold remJ;by_cases h:(turnI outI v st).2 = true
  ·rw [if_pos ⟨ha,hst,h1,h⟩,if_pos h]
  ·rw [if_neg (fun k => h k.2.2.2),if_neg h]
 have hbq:=turnO_bw hst hv (by omega);generalize turnI outI v st = pr at hR hbq ⊢;rintro y b n l ⟨rfl,rfl,hn,rfl⟩;obtain ⟨pv,pb⟩:=pr;(iterate 3 refine mS ?_);refine zaH ?_;refine zad (p:=2) (cs:=vC pv) (z:=z6) rfl rfl rfl rfl rfl rfl ?_;refine mN ?_;refine mM ?_
 cases pb with
 | false =>
  have hwe:remJ v st = (v,false):=by rw [hR,if_neg (fun h => Bool.noConfusion h)]
  refine mT ?_;refine mO ?_;refine zaa (p:=0) (cs:=vC v) rfl rfl rfl rfl ?_;refine zaW (n:=5) (zax v) (zaX (T:=T) (hT:=hT) v hv (by omega)) rfl (fun cs nt1 he hn _ hN => ?_);refine zad (p:=1) (cs:=cs) (z:=z6) rfl rfl rfl hn rfl rfl ?_;refine mN ?_;rw [hwe]
  exact zab ⟨.inr rfl,[.ag cs,.d (pB false)],zaz rfl rfl hn rfl,owp he hN (fun t h => List.mem_append_left _ h)⟩
 | true =>
  obtain ⟨hpw,hpb⟩:=hbq rfl;simp only at hpw hpb;have hwe:remJ v st = (pv,true):=by rw [hR,if_pos rfl]
  refine mK ?_;refine mO ?_;refine zaa (p:=2) (cs:=vC pv) rfl rfl rfl rfl ?_;refine zaW (n:=5) (zax pv) (zaX (T:=T) (hT:=hT) pv hpw (by omega)) rfl (fun cs nt1 he hn _ hN => ?_);refine zad (p:=1) (cs:=cs) (z:=z6) rfl rfl rfl hn rfl rfl ?_;refine mN ?_;rw [hwe];exact zab ⟨.inr rfl,[.ag cs,.d (pB true)],zaz rfl rfl hn rfl,owp he hN (fun t h => List.mem_append_left _ h)⟩
end
section
theorem odds_set {α:Type} (k:α):∀ (l:List α) (j:Nat),odds (l.set (2 * j + 1) k) = odds l
 | [],j => rfl
 | [a],j => by rw [set_cons_succ,List.set_nil]
 | a :: b :: r,0 => rfl
 | a :: b :: r,j + 1 => by
  show odds (a :: b :: r.set (2 * j + 1) k) = _;simp only [odds]; rw [odds_set k r j]
theorem odds_cut {α:Type}:∀ (l:List α) (j:Nat),2 * j + 2 <= l.length -> (odds (l.take (2 * j) ++ l.drop (2 * j + 2))).Sublist (odds l)
 | [],j,h => by simp at h
 | [a],j,h => by simp at h
 | a :: b :: r,0,h => by
  show (odds r).Sublist (a :: odds r)
  exact List.sublist_cons_self _ _
 | a :: b :: r,j + 1,h => by
  simp only [length_cons] at h;show (odds (a :: b :: (r.take (2 * j) ++ r.drop (2 * j + 2)))).Sublist (a :: odds r);simp only [odds];exact (odds_cut r j (by omega)).cons_cons a
theorem uniq_sub {a l:List V} (hs:a.Sublist l) (h:uniq V.mark l = true):uniq V.mark a = true:=by
 unfold uniq at h ⊢;simp only [Bool.and_eq_true,all_eq_true,decide_eq_true_eq] at h ⊢
 first
 | exact ⟨fun x hx => h.1 x (hs.subset hx),h.2.sublist (hs.map _)⟩
 | exact ⟨h.1.sublist (hs.map _),fun x hx => h.2 x (hs.subset hx)⟩
theorem zdR {d:Int} {v:V} (hv:V.rightBy pairsOk d v = true):(∀ k ∈ v.kids,V.rightBy pairsOk (d - 1) k = true) /\ 0 <= d /\ V.selfBy pairsOk v = true:=by
 obtain ⟨k,n,e,t,kids⟩:=v;simp only [V.rightBy,Bool.and_eq_true,decide_eq_true_eq] at hv;obtain ⟨hks,h0,hs⟩:=hv;rw [V.rightsBy_all,all_eq_true] at hks;exact ⟨hks,h0,hs⟩
theorem right_mk {d:Int} {v:V} (h1:∀ k ∈ v.kids,V.rightBy pairsOk (d - 1) k = true) (h2:0 <= d) (h3:V.selfBy pairsOk v = true):V.rightBy pairsOk d v = true:=by
 obtain ⟨k,n,e,t,kids⟩:=v;simp only [V.rightBy,Bool.and_eq_true,decide_eq_true_eq];exact ⟨by rw [V.rightsBy_all,all_eq_true]; exact h1,h2,h3⟩
theorem zfu {v:V} {ks:List V} (hs:V.selfBy pairsOk v = true) (h:v.kind = 7 \/ v.kind = 8 /\ pairsOk ks = true \/ v.kind = 9 /\ ks.length = 1):V.selfBy pairsOk (v.withK ks) = true:=by
 obtain ⟨k,n,e,t,kids⟩:=v;have hk:k = 7 \/ k = 8 /\ pairsOk ks = true \/ k = 9 /\ ks.length = 1:=h;show V.selfBy pairsOk (.mk k n e t ks) = true;clear h
 rcases hk with rfl | ⟨rfl,hq⟩ | ⟨rfl,hq⟩
 ·simp [V.selfBy] at hs ⊢; exact hs
 ·simp [V.selfBy] at hs ⊢; exact ⟨hs.1,hs.2.1,hs.2.2.1,hq⟩
 ·simp [V.selfBy] at hs ⊢; exact ⟨hs.1,hs.2.1,hs.2.2.1,hq⟩
theorem zeb {v:V} (hs:V.selfBy pairsOk v = true) (h:v.kind = 8):pairsOk v.kids = true:=by
 obtain ⟨k,n,e,t,kids⟩:=v;have h:k = 8:=h;subst h;simp [V.selfBy] at hs;exact hs.2.2.2
theorem pairs_set {ks:List V} {j:Nat} {k:V} (h:pairsOk ks = true):pairsOk (ks.set (2 * j + 1) k) = true:=by
 unfold pairsOk at h ⊢;rw [odds_set,length_set]; exact h
theorem pairs_cut {ks:List V} {j:Nat} (hj:2 * j + 2 <= ks.length) (h:pairsOk ks = true):pairsOk (ks.take (2 * j) ++ ks.drop (2 * j + 2)) = true:=by
 unfold pairsOk at h ⊢;simp only [Bool.and_eq_true,decide_eq_true_eq] at h ⊢;obtain ⟨h1,h2,h3⟩:=h;have hl:(ks.take (2 * j) ++ ks.drop (2 * j + 2)).length = ks.length - 2:=by rw [length_append,length_take,length_drop]; omega
 exact ⟨uniq_sub (odds_cut ks j hj) h1,by omega,by omega⟩
theorem right_set {d:Int} {v k:V} {i:Nat} (hv:V.rightBy pairsOk d v = true) (hi:i < v.kids.length) (hk:V.rightBy pairsOk (d - 1) k = true) (h8:v.kind = 8 -> ∃ j,i = 2 * j + 1):V.rightBy pairsOk d (v.withK (v.kids.set i k)) = true:=by
 obtain ⟨h1,h2,h3⟩:=zdR hv;obtain ⟨g9,_,g,_⟩:=zbu hv;refine right_mk (fun x hx => ?_) h2 (zfu h3 ?_)
 ·rcases mem_or_eq_of_mem_set hx with hx | rfl
  ·exact h1 x hx
  ·exact hk
 ·rcases g (by intro e; rw [e] at hi; simp at hi) with h | h | h
  ·exact .inl h
  ·obtain ⟨j,rfl⟩:=h8 h
   exact .inr (.inl ⟨h,pairs_set (zeb h3 h)⟩)
  ·exact .inr (.inr ⟨h,by rw [length_set]; exact g9 h⟩)
theorem zfv {d:Int} {v:V} {a b:Nat} (hv:V.rightBy pairsOk d v = true) (h:v.kind = 7 \/ v.kind = 8 /\ ∃ j,a = 2 * j /\ b = 2 * j + 2 /\ 2 * j + 2 <= v.kids.length):V.rightBy pairsOk d (v.withK (v.kids.take a ++ v.kids.drop b)) = true:=by
 obtain ⟨h1,h2,h3⟩:=zdR hv;refine right_mk (fun x hx => h1 x ((mem_append.1 hx).elim mem_of_mem_take mem_of_mem_drop)) h2 (zfu h3 ?_)
 rcases h with h | ⟨h,j,rfl,rfl,hj⟩
 ·exact .inl h
 ·exact .inr (.inl ⟨h,pairs_cut hj (zeb h3 h)⟩)
theorem zci (v:V) (ks:List V):(v.withK ks).nodes + V.nodess v.kids = v.nodes + V.nodess ks:=by
 obtain ⟨k,n,e,t,kids⟩:=v;simp only [V.withK,V.nodes,V.kids]; omega
theorem zb2 (a b:List V):V.nodess (a ++ b) = V.nodess a + V.nodess b:=by
 induction a with
 | nil => simp [V.nodess]
 | cons x a ih => simp only [cons_append,V.nodess,ih]; omega
theorem nodess_at (ks:List V) (i:Nat) (h:i < ks.length):V.nodess ks = V.nodess (ks.take i) + (ks[i].nodes + V.nodess (ks.drop (i + 1))):=by
 have h1:V.nodess ks = V.nodess (ks.take i) + V.nodess (ks.drop i):=by rw [<- zb2,take_append_drop]
 rw [h1,drop_eq_getElem_cons h]; rfl
theorem zgk (ks:List V) (i:Nat) (h:i < ks.length) (k:V):V.nodess (ks.set i k) = V.nodess (ks.take i) + (k.nodes + V.nodess (ks.drop (i + 1))):=by
 rw [set_eq_take_append_cons_drop,if_pos h,zb2]; rfl
theorem kid_odd {v:V} {s:L8} (h8:v.kind = 8) (h:0 <= kidI v s):∃ j,kidI v s = ((2 * j + 1:Nat):Int) /\ 2 * j + 2 <= v.kids.length:=by
 have hk:=kid8 (s:=s) h8
 split at hk
 ·rename_i hf
  obtain ⟨j,hj,hl,_⟩:=zda s v.kids 0 hf;exact ⟨j,by omega,by omega⟩
 ·omega
theorem less_ok:∀ (st:List (L8)) (v:V) (d:Int),V.rightBy pairsOk d v = true -> (lessS v st).2 = true -> V.rightBy pairsOk d (lessS v st).1 = true /\ (lessS v st).1.nodes < v.nodes /\ ∃ y,atI v st = some y
 | [],v,d,_,h => by rw [lessS] at h; cases h
 | s :: r,v,d,hv,h => by
  rw [lessS] at h ⊢
  split at h
  ·rename_i hk
   rw [dif_pos hk];have hlt:=zaN hk;obtain ⟨i,hi⟩:∃ i:Nat,kidI v s = i:=⟨(kidI v s).toNat,by omega⟩;have hil:i < v.kids.length:=by omega
   have hpos:=v.kids[i].nodes_pos;have hat:=nodess_at v.kids i hil
   split at h
   ·rename_i hr
    subst hr;rw [if_pos rfl];have h9:v.kind ≠ 9:=of_decide_eq_true h;simp only [hi,Int.toNat_natCast];have hsome:∃ y,atI v [s] = some y:=⟨v.kids[i],by rw [zb1 hi hil,atI]⟩;by_cases h8:v.kind = 8
    ·obtain ⟨j,hj,hjl⟩:=kid_odd h8 hk
     obtain rfl:i = 2 * j + 1:=by omega
     simp only [if_pos h8];refine ⟨zfv hv (.inr ⟨h8,j,by omega,by omega,hjl⟩),?_,hsome⟩;have h1:=zci v (v.kids.take (2 * j + 1 - 1) ++ v.kids.drop (2 * j + 1 + 1));rw [zb2] at h1;have h2:V.nodess (v.kids.take (2 * j + 1)) = V.nodess (v.kids.take (2 * j)) + v.kids[2 * j].nodes:=nodess_one (by omega);have h3:2 * j + 1 - 1 = 2 * j:=by omega
     rw [h3] at h1 ⊢;omega
    ·have h7:v.kind = 7:=by
      rcases (zbu hv).2.2.1 (by intro e; rw [e] at hil; simp at hil) with h | h | h
      ·exact h
      ·exact absurd h h8
      ·exact absurd h h9
     simp only [if_neg h8];refine ⟨zfv hv (.inl h7),?_,hsome⟩;have h1:=zci v (v.kids.take i ++ v.kids.drop (i + 1));rw [zb2] at h1;omega
   ·rename_i hr
    rw [if_neg hr];simp only [hi,Int.toNat_natCast] at h ⊢;obtain ⟨g1,g2,y,g3⟩:=less_ok r v.kids[i] (d - 1) ((zbu hv).2.2.2 _ (getElem_mem hil)) h;refine ⟨right_set hv hil g1 (fun h8 => ?_),?_,y,by rw [zb1 hi hil]; exact g3⟩
    ·obtain ⟨j,hj,_⟩:=kid_odd h8 hk
     exact ⟨j,by omega⟩
    ·have h1:=zci v (v.kids.set i (lessS v.kids[i] r).1)
     rw [zgk _ _ hil] at h1;omega
  ·cases h
theorem rem_same (v:V) (st:List (L8)):remW v st = remJ v st:=by
 unfold remW madeS remJ;by_cases hst:st = []
 ·subst hst
  rw [lessS,if_neg (fun h => Bool.noConfusion h.1),if_neg (fun h => h.2.1 rfl)]
 obtain ⟨h1,h2⟩:=zcJ st v hst;by_cases hv:v.ok = true
 ·by_cases hl:(lessS v st).2 = true
  ·obtain ⟨g1,g2,y,g3⟩:=less_ok st v 12 (ok_by hv).1 hl
   have hok:(lessS v st).1.ok = true:=by
    unfold V.ok; rw [g1,decide_eq_true (by have:=(ok_by hv).2; omega)]; rfl
   obtain ⟨h3,h4⟩:=zey st _ y 12 (ok_by hv).1 g3
   have hso:stepsOk st = true:=by
    unfold stepsOk;rw [decide_eq_true (by omega),all_eq_true.2 h4]; rfl
   rw [if_pos ⟨hl,hv,hok⟩,if_pos ⟨hso,hst,hv,by rw [<- h1]; exact hl⟩,h2 hl]
  ·rw [if_neg (fun h => hl h.1),if_neg (fun h => hl (by rw [h1]; exact h.2.2.2))]
 ·rw [if_neg (fun h => hv h.2.1),if_neg (fun h => hv h.2.2.1)]
end
section
variable {T:World -> Prop} {hT:Low ngl T}
attribute [local irreducible] po mw pt
def zC:List PC:=[pI 0,pI 0,pI 0,pS [],.sl 1 []]
def AtJ (v:V) (st:List (L8)) (m:Nat) (s:St):Prop :=
 ∃ (j:Nat) (x:V),j <= st.length /\ m = st.length - j /\ has s.tm [(2,.ref 0 0),(4,.ref 1 0),(9,.d (pSs st)),(10,.d (pI st.length)),(11,.d (pI j))] /\ s.bx = [vC x,zC] /\ x.bulk <= 4294967295 /\ atI v st = atI x (st.drop j)
def atR:Option V -> PV
 | some x => .tup [.ag (vC x),.d (pB true)]
 | none => .tup [.ag [pI 0,pI 0,pI 0,pS [],.sl 0 []],.d (pB false)]
theorem at_fn (hTen:∀ w,T w -> TenTab w) (hErr:∀ w,T w -> ErrTab w) (v:V) (st:List (L8)) (hb:v.bulk <= 4294967295) (hl:st.length <= 4294967295) (hs:∀ s ∈ st,s.length <= 2147483647):FnV (env T hT) 61 [.ag (vC v),.d (pSs st)] (atR (atI v st)):=by
 refine zaU (zaf lk_i_at) (by show 2 <= 28; decide) fun B hB => ?_
 unfold m_i_at;refine mO ?_;refine zal (cs:=vC v) rfl ?_;refine mN ?_;refine zaS (fun s => ∃ x:V,has s.tm [(2,.ref 0 0),(4,.ref 1 0)] /\ s.bx = [vC x,zC] /\ atI v st = some x) ?_ ?_
 ·refine mQ ?_
  refine zay (n:=st.length) rfl rfl (za6 _) ?_;refine mN ?_;refine zak ?_;refine zaY (AtJ v st) st.length ⟨0,v,Nat.zero_le _,rfl,⟨rfl,rfl,rfl,rfl,rfl,trivial⟩,rfl,hb,by rw [drop_zero]⟩ ?_;rintro m tm bx nt live ⟨j,x,hj,rfl,ht,hbx,hxb,ha⟩;obtain ⟨tm1,rfl⟩:=zaq ht;simp only at hbx; subst hbx
  clear ht;refine mO ?_;refine po_b rfl rfl (fun p hp => ?_);refine zaj ?_;refine zau ?_;refine zdy (p:=(j:Int) < st.length) hp rfl (fun him _ => ?_) (fun him _ => ?_)
  rotate_left
  ·refine za4 ?_
   obtain rfl:j = st.length:=by omega
   rw [drop_length] at ha;exact ⟨x,⟨rfl,rfl,trivial⟩,rfl,ha⟩
  have hjl:j < st.length:=by omega
  have hdr:st.drop j = st[j] :: st.drop (j + 1):=drop_eq_getElem_cons hjl;have hkl:x.kids.length + V.bulks x.kids <= 4294967295:=by cases x; simp only [V.bulk] at hxb; simp only [V.kids]; omega
  rw [hdr] at ha;refine za0 ?_;refine zau (zak (zau (zap ?_)));refine za5 (es:=pSr st) (e:=[pS st[j]]) rfl rfl rfl ⟨by omega,by rw [Int.toNat_natCast]; exact zfU hjl⟩ rfl ?_;(iterate 2 refine mS ?_);refine mN ?_;refine mO ?_;refine zaa (p:=0) (cs:=vC x) rfl rfl rfl rfl ?_;refine mS ?_;refine zac (args:=[.ag (vC x),.d (pS st[j])]) (congrArg (fun l => some [PV.ag l,PV.d (pS st[j])]) (zai x)) (zdb (T:=T) (hT:=hT) hTen hErr x st[j] (by omega) (hs _ (getElem_mem hjl))) ?_;refine mN ?_;refine mM ?_;refine mS ?_;by_cases hk:0 <= kidI x st[j]
  ·have hlt:=zaN hk
   have hkn:(kidI x st[j]).toNat < x.kids.length:=by omega
   refine zan rfl rfl (decide_eq_false (by omega)) ?_;refine mK ?_;refine zap ?_;(iterate 3 refine mS ?_);refine za5 (es:=vK x.kids) (e:=vC x.kids[(kidI x st[j]).toNat]) rfl rfl rfl ⟨hk,zbj hkn⟩ rfl ?_;refine mS ?_;refine zad (p:=0) (cs:=vC x.kids[(kidI x st[j]).toNat]) rfl rfl rfl rfl rfl rfl ?_;refine mN ?_;refine zap ?_;refine zaZ (n:=((j + 1:Nat):Int)) rfl rfl rfl (by omega) (by omega) ?_;refine mN ?_;refine ⟨st.length - (j + 1),by omega,j + 1,x.kids[(kidI x st[j]).toNat],hjl,rfl,⟨rfl,rfl,rfl,rfl,rfl,trivial⟩,rfl,V.bulk_get hkl _ hkn,?_⟩;rw [ha,atI,dif_pos hk]
  ·refine zah rfl rfl (decide_eq_true (by omega)) ?_
   refine mT ?_;refine mQ ?_;refine zad (p:=1) (cs:=zC) rfl rfl rfl rfl rfl rfl ?_;refine mN ?_;refine zab ⟨.inr rfl,[.ag zC,.d (pB false)],rfl,?_⟩;rw [ha,atI,dif_neg hk]; rfl
 rintro tm bx nt live ⟨x,ht,hbx,ha⟩;obtain ⟨tm1,rfl⟩:=zaq ht;simp only at hbx; subst hbx
 refine mO ?_;refine zaa (p:=0) (cs:=vC x) rfl rfl rfl rfl ?_;refine zad (p:=1) (cs:=vC x) rfl rfl rfl rfl rfl rfl ?_;refine mN ?_;refine zab ⟨.inr rfl,[.ag (vC x),.d (pB true)],rfl,?_⟩;rw [ha];exact congrArg (fun l => some (PV.tup [.ag l,.d (pB true)])) (zai x)
def AsI (v:V) (st:List (L8)) (M:Nat) (m:Nat) (s:St):Prop:=∃ (i:Nat) (y:V),i <= st.length /\ m = st.length - i /\ has s.tm [(1,.d (pSs st)),(2,.ref 0 0),(4,.ref 1 0),(6,.d (pI i))] /\ s.bx = [vC y,z6] /\ atI y (st.drop i) = atI v st /\ Bw M y
theorem atS_fn (v:V) (st:List (L8)) (hw:v.wf) (hb:v.bulk <= 2147483647) (hl:st.length <= 2147483647) (hs:∀ s ∈ st,s.length <= 2147483647):FnV (env T hT) 27 [.ag (vC v),.d (pSs st)] (atR (atI v st)):=by
 refine zaU (zaf lk_s_At) (by show 2 <= 30; decide) fun B hB => ?_
 unfold m_s_At;refine mO ?_;refine zal (cs:=vC v) rfl ?_;refine mN ?_;refine zaS (fun s => ∃ y,atI v st = some y /\ Bw v.bulk y /\ has s.tm [(2,.ref 0 0),(4,.ref 1 0)] /\ s.bx = [vC y,z6]) ?_ ?_
 ·refine mP ?_
  refine zak ?_;refine zaY (AsI v st v.bulk) st.length ⟨0,v,Nat.zero_le _,rfl,⟨rfl,rfl,rfl,rfl,trivial⟩,rfl,by rw [drop_zero],hw,lR⟩ ?_;rintro m tm bx nt live ⟨i,y,hi,rfl,ht,hbx,hat,hy⟩;obtain ⟨tm1,rfl⟩:=zaq ht;simp only at hbx; subst hbx
  clear ht;refine mM ?_;(iterate 2 refine mS ?_);refine zay (n:=st.length) rfl rfl (za6 _) ?_;refine po_b rfl rfl (fun p hp => ?_);refine zaj ?_;refine zdy (p:=(i:Int) < st.length) hp rfl (fun him _ => ?_) (fun him _ => ?_)
  rotate_left
  ·refine za4 ?_
   obtain rfl:i = st.length:=by omega
   rw [drop_length,atI] at hat;exact ⟨y,hat.symm,hy,⟨rfl,rfl,trivial⟩,rfl⟩
  have hil:i < st.length:=by omega
  have hyb:=hy.2;have hyk:=hy.2;rw [V.bulk_eq] at hyk;rw [drop_eq_getElem_cons hil] at hat;refine za0 ?_;refine zau (zak (zau (zap ?_)));refine zaa (p:=0) (cs:=vC y) rfl rfl rfl rfl ?_;(iterate 2 refine mS ?_);refine za5 (es:=pSr st) (e:=[pS st[i]]) rfl rfl rfl ⟨by omega,by rw [Int.toNat_natCast]; exact zfU hil⟩ rfl ?_;refine mS ?_;refine zac (args:=[.ag (vC y),.d (pS st[i])]) (zdO y st[i]) (zf9 (T:=T) (hT:=hT) y st[i] (by omega) (hs _ (getElem_mem hil))) ?_;refine mN ?_;refine mM ?_;refine mS ?_;by_cases hk:kidI y st[i] < 0
  ·refine zah rfl rfl (decide_eq_true hk) ?_
   refine mT ?_;refine mQ ?_;refine zad (p:=1) (cs:=z6) (z:=z6) rfl rfl rfl rfl rfl rfl ?_;refine mN ?_;rw [atI,dif_neg (by omega)] at hat;rw [<- hat];exact zab ⟨.inr rfl,[.ag z6,.d (pB false)],rfl,rfl⟩
  obtain ⟨k,hkk⟩:∃ k:Nat,kidI y st[i] = k:=⟨(kidI y st[i]).toNat,by omega⟩;have hlt:=zaN (show 0 <= kidI y st[i] by omega);have hkl:k < y.kids.length:=by omega
  refine zan rfl rfl (decide_eq_false hk) ?_;refine mK ?_;refine zap ?_;(iterate 3 refine mS ?_);refine za5 (es:=vK y.kids) (e:=vC y.kids[k]) rfl rfl rfl ⟨by omega,by rw [hkk,Int.toNat_natCast]; exact zbj hkl⟩ rfl ?_;refine mS ?_;refine zad (p:=0) (cs:=vC y.kids[k]) (z:=vC y) rfl rfl rfl rfl rfl rfl ?_;refine zaj ?_;refine zap ?_;refine mS ?_;refine zaZ (n:=((i + 1:Nat):Int)) rfl rfl rfl (by omega) (by omega) ?_;refine mN ?_;rw [zb1 hkk hkl] at hat;exact ⟨st.length - (i + 1),by omega,i + 1,y.kids[k],hil,rfl,⟨rfl,rfl,rfl,rfl,trivial⟩,rfl,hat,ze4 hy hkl⟩
 rintro tm bx nt live ⟨y,hat,hy,ht,hbx⟩;obtain ⟨tm1,rfl⟩:=zaq ht;simp only at hbx; subst hbx
 have hyb:=hy.2;refine mO ?_;refine zaa (p:=0) (cs:=vC y) rfl rfl rfl rfl ?_;refine zac (zax y) (za8 (T:=T) (hT:=hT) y hy.1 (by omega)) ?_;refine zad (p:=1) (cs:=vC y) (z:=z6) rfl rfl rfl rfl rfl rfl ?_;refine mN ?_;rw [hat];exact zab ⟨.inr rfl,[.ag (vC y),.d (pB true)],rfl,congrArg (fun l => some (PV.tup [.ag l,.d (pB true)])) (zai _)⟩
end
section
theorem Tabs.low:Low ngl Tabs:=by
 intro w w' h hs hk;have h1:0 < ngl:=of_decide_eq_true (by unfold ngl; kernel_rfl);have h2:1 < ngl:=of_decide_eq_true (by unfold ngl; kernel_rfl);refine ⟨fun c hc => ?_,fun i hi => ?_⟩
 ·rw [World.cell?_of_block (a:=⟨_,_,none⟩) (hk _ h1)]; exact h.1 c hc
 ·rw [World.cell?_of_block (a:=⟨_,_,none⟩) (hk _ h2),World.cell?_of_block (a:=⟨_,_,none⟩) (hk _ h2)]; exact h.2 i hi
end
section
def TS (w:World):Prop:=Tabs w /\ TenTab w /\ ErrTab w
theorem TS.low:Low ngl TS:=by
 intro w w' h hs hk;have h1:4 < ngl:=of_decide_eq_true (by unfold ngl; kernel_rfl);have h2:2 < ngl:=of_decide_eq_true (by unfold ngl; kernel_rfl);have h3:3 < ngl:=of_decide_eq_true (by unfold ngl; kernel_rfl);refine ⟨Tabs.low w w' h.1 hs hk,?_,ErrTab.low h2 h3 hk h.2.2⟩;have ht:=h.2.1;unfold TenTab Lib.TabIs at ht ⊢;unfold World.var? at ht ⊢;simp only [tenG,Option.bind_some] at ht ⊢;rw [hk _ h1]; exact ht
theorem TS.a:∀ w,TS w -> Tabs w:=fun _ h => h.1
theorem TS.b:∀ w,TS w -> TenTab w:=fun _ h => h.2.1
theorem TS.c:∀ w,TS w -> ErrTab w:=fun _ h => h.2.2
end
end Go.Proofs.YtaofmfkcfmcmpaaGreatDoor
