/- Part 4 of a proof: ReadHead, ReadHead2, PvF4, PvF5, PvF6, PvF7, DecDef, PvF2M, ValueSz, ValueTo, ValueEq, ValueSame, ValueKids, Shelf, TextI, ValueNode, Region, Box, ValueIs, PvVokI, PvI1, PvH1M, PvH1, PvH4M, PvH4, PvRow, ReadHead3, PutHead, ReadFrame, Dec, PvI5 -/
import Derived.Test.YtanlnhkagepniaaGreatDoorFb3
import Derived.Shelf.Unicode.ValidAny
import Derived.Shelf.Strings.BuilderK
import Derived.Shelf.Strconv.Itoa3
import Derived.Shelf.Strconv.AtoiAll
import Derived.Lib.AppendIntMem
namespace Go.Proofs.YtanlnhkagepniaaGreatDoor
open Go.RowKit
set_option maxHeartbeats 4000000
set_option maxRecDepth 100000
open List
section
theorem anyHd_lt {l:L8} {j:Nat} (hj:j < l.length) (h:l[j].toNat % 32 < 24):anyHd l j = some (l[j].toNat / 32,l[j].toNat % 32,j + 1):=by
 unfold anyHd; rw [getElem?_eq_getElem hj]; simp only; rw [if_pos h]
theorem anyHd_gt {l:L8} {j:Nat} (hj:j < l.length) (h:27 < l[j].toNat % 32):anyHd l j = none:=by
 unfold anyHd; rw [getElem?_eq_getElem hj]; simp only; rw [if_neg (by omega),if_pos h]
theorem zep {l:L8} {j k:Nat} (hj:j < l.length) (h:l[j].toNat % 32 = 24 + k) (hk:k <= 3) (hl:l.length < j + 1 + 2 ^ k):anyHd l j = none:=by
 unfold anyHd; rw [getElem?_eq_getElem hj]; simp only; rw [h,if_neg (by omega),if_neg (by omega),Nat.add_sub_cancel_left,if_pos hl]
theorem zeW {l:L8} {j k:Nat} (hj:j < l.length) (h:l[j].toNat % 32 = 24 + k) (hk:k <= 3) (hl:j + 1 + 2 ^ k <= l.length):anyHd l j = some (l[j].toNat / 32,valBE ((l.drop (j + 1)).take (2 ^ k)),j + 1 + 2 ^ k):=by
 unfold anyHd; rw [getElem?_eq_getElem hj]; simp only; rw [h,if_neg (by omega),if_neg (by omega),Nat.add_sub_cancel_left,if_neg (by omega)]
theorem zeX (l:L8) (s k:Nat) (h:s + k < l.length):valBE ((l.drop s).take (k + 1)) = valBE ((l.drop s).take k) * 256 + l[s + k].toNat:=by
 rw [zeP (l.drop s) k (by simp; omega),getElem_drop]
theorem zb6 (l:L8) (j t:Nat) (h:j + (t + 1) < l.length):valBE ((l.drop (j + 1)).take (t + 1)) = valBE ((l.drop (j + 1)).take t) * 256 + l[j + (t + 1)].toNat:=by
 have:=zeX l (j + 1) t (by omega)
 rw [this]; congr 3; omega
theorem zdR (l:L8) (j t:Nat) (h:t <= 7):valBE ((l.drop (j + 1)).take t) < 72057594037927936 :=
 Nat.lt_of_lt_of_le (zdb _) (Nat.le_trans (Nat.pow_le_pow_right (by decide) (show _ <= 7 by rw [length_take]; omega)) (by decide))
theorem zdS (l:L8) (j k m:Nat) (w:World) (hj:j < l.length) (hm:m = 2 ^ k) (hk:k <= 3) (hq:l[j].toNat % 32 = 24 + k) (hl:l.length <= 9223372036854775000) :
  Calls Tryz.prog 160 #[.string ⟨l.toArray⟩,.int .i64 (j:Nat)] w fun e w' => e = .returned (.tuple #[.int .i64 (hM (anyHd l j)),.int .u64 (hN (anyHd l j)),.int .i64 (hX (anyHd l j))]) /\ Below w.heap.size w w':=by
 have hb:=l[j].toNat_lt;have p1:(0:Int) <= j:=by omega
 have p2:(j:Int) < l.length:=by omega
 have hmk:(k = 0 /\ m = 1) \/ (k = 1 /\ m = 2) \/ (k = 2 /\ m = 4) \/ (k = 3 /\ m = 8):=by
  have:k = 0 \/ k = 1 \/ k = 2 \/ k = 3:=by omega
  rcases this with rfl | rfl | rfl | rfl <;> simp_all
 by_cases hs:l.length < j + 1 + m
 ·have H:=Lib.hid (zep hj hq hk (by rw [<- hm]; exact hs))
  rw [H.out];have HM:=Lib.hid hm;clear hm;generalize hqq:l[j].toNat = q at *;have hmr:(k = 0 /\ m = 1 /\ (q:Int) % 32 = 24) \/ (k = 1 /\ m = 2 /\ (q:Int) % 32 = 25) \/ (k = 2 /\ m = 4 /\ (q:Int) % 32 = 26) \/ (k = 3 /\ m = 8 /\ (q:Int) % 32 = 27):=by omega
  clear hmk hq
  rcases hmr with ⟨rfl,rfl,hr⟩ | ⟨rfl,rfl,hr⟩ | ⟨rfl,rfl,hr⟩ | ⟨rfl,rfl,hr⟩
  all_goals
   go_enter Tryz.func160,Tryz.ntmps160
   go_wp2
   go_quiet (fail)
   have hbel:=below_drewN (Below.refl w.heap.size w) nq;generalize w.drewN nq = w1 at *;have hsz:=hbel.size;go_wp2
   go_ret3
   exact ⟨by simp [hM,hN,hX],hbel.alloc hsz _⟩
 ·have H:=Lib.hid (zeW hj hq hk (by rw [<- hm]; omega))
  rw [H.out];have HM:=Lib.hid hm;rw [<- hm];clear hm;generalize hqq:l[j].toNat = q at *;have hmr:(k = 0 /\ m = 1 /\ (q:Int) % 32 = 24) \/ (k = 1 /\ m = 2 /\ (q:Int) % 32 = 25) \/ (k = 2 /\ m = 4 /\ (q:Int) % 32 = 26) \/ (k = 3 /\ m = 8 /\ (q:Int) % 32 = 27):=by omega
  clear hmk hq
  rcases hmr with ⟨rfl,rfl,hr⟩ | ⟨rfl,rfl,hr⟩ | ⟨rfl,rfl,hr⟩ | ⟨rfl,rfl,hr⟩
  ·go_enter Tryz.func160,Tryz.ntmps160
   go_wp2
   go_quiet (fail)
   have hbel:=below_drewN (Below.refl w.heap.size w) nq;generalize w.drewN nq = w1 at *;have hsz:=hbel.size;go_wp2;have HRR:=Lib.hid hr;clear hr p1 p2
   go_loopw [10,11] (fun n i wr => ∃ t:Nat,t <= 1 /\ i = .int .i64 ((t:Int) + 1) /\ n = .int .u64 (valBE ((l.drop (j + 1)).take t):Nat) /\ Below w.heap.size w wr) (fun _ i _ => (1 + 1 - intOf i).toNat)
   case atStart => exact ⟨0,by omega,rfl,rfl,hbel.alloc hsz _⟩
   case round =>
    obtain ⟨t,ht,rfl,rfl,hbel2⟩:=hrel;by_cases htm:t < 1
    ·have hlt:j + (t + 1) < l.length:=by omega
     have HS:=Lib.hid (zb6 l j t hlt);have hv7:=zdR l j t (by omega);have hby:=(l[j + (t + 1)]).toNat_lt;generalize hvv:valBE ((l.drop (j + 1)).take t) = v at *;clear hvv;generalize hbb:(l[j + (t + 1)]).toNat = bb at *;have p3:(j:Int) + (↑t + 1) < l.length:=by omega
     go_wp2;go_roundw
     case rel => exact ⟨t + 1,by omega,by go_num,by rw [HS.out]; go_num,hbel2⟩
     case measure => simp [intOf] <;> omega
    ·obtain rfl:t = 1:=by omega
     go_wp2
     go_ret3
     exact ⟨by simp [hM,hN,hX],hbel2⟩
  ·go_enter Tryz.func160,Tryz.ntmps160
   go_wp2
   go_quiet (fail)
   have hbel:=below_drewN (Below.refl w.heap.size w) nq;generalize w.drewN nq = w1 at *;have hsz:=hbel.size;go_wp2;have HRR:=Lib.hid hr;clear hr p1 p2
   go_loopw [10,11] (fun n i wr => ∃ t:Nat,t <= 2 /\ i = .int .i64 ((t:Int) + 1) /\ n = .int .u64 (valBE ((l.drop (j + 1)).take t):Nat) /\ Below w.heap.size w wr) (fun _ i _ => (2 + 1 - intOf i).toNat)
   case atStart => exact ⟨0,by omega,rfl,rfl,hbel.alloc hsz _⟩
   case round =>
    obtain ⟨t,ht,rfl,rfl,hbel2⟩:=hrel;by_cases htm:t < 2
    ·have hlt:j + (t + 1) < l.length:=by omega
     have HS:=Lib.hid (zb6 l j t hlt);have hv7:=zdR l j t (by omega);have hby:=(l[j + (t + 1)]).toNat_lt;generalize hvv:valBE ((l.drop (j + 1)).take t) = v at *;clear hvv;generalize hbb:(l[j + (t + 1)]).toNat = bb at *;have p3:(j:Int) + (↑t + 1) < l.length:=by omega
     go_wp2;go_roundw
     case rel => exact ⟨t + 1,by omega,by go_num,by rw [HS.out]; go_num,hbel2⟩
     case measure => simp [intOf] <;> omega
    ·obtain rfl:t = 2:=by omega
     go_wp2
     go_ret3
     exact ⟨by simp [hM,hN,hX],hbel2⟩
  ·go_enter Tryz.func160,Tryz.ntmps160
   go_wp2
   go_quiet (fail)
   have hbel:=below_drewN (Below.refl w.heap.size w) nq;generalize w.drewN nq = w1 at *;have hsz:=hbel.size;go_wp2;have HRR:=Lib.hid hr;clear hr p1 p2
   go_loopw [10,11] (fun n i wr => ∃ t:Nat,t <= 4 /\ i = .int .i64 ((t:Int) + 1) /\ n = .int .u64 (valBE ((l.drop (j + 1)).take t):Nat) /\ Below w.heap.size w wr) (fun _ i _ => (4 + 1 - intOf i).toNat)
   case atStart => exact ⟨0,by omega,rfl,rfl,hbel.alloc hsz _⟩
   case round =>
    obtain ⟨t,ht,rfl,rfl,hbel2⟩:=hrel;by_cases htm:t < 4
    ·have hlt:j + (t + 1) < l.length:=by omega
     have HS:=Lib.hid (zb6 l j t hlt);have hv7:=zdR l j t (by omega);have hby:=(l[j + (t + 1)]).toNat_lt;generalize hvv:valBE ((l.drop (j + 1)).take t) = v at *;clear hvv;generalize hbb:(l[j + (t + 1)]).toNat = bb at *;have p3:(j:Int) + (↑t + 1) < l.length:=by omega
     go_wp2;go_roundw
     case rel => exact ⟨t + 1,by omega,by go_num,by rw [HS.out]; go_num,hbel2⟩
     case measure => simp [intOf] <;> omega
    ·obtain rfl:t = 4:=by omega
     go_wp2
     go_ret3
     exact ⟨by simp [hM,hN,hX],hbel2⟩
  ·go_enter Tryz.func160,Tryz.ntmps160
   go_wp2
   go_quiet (fail)
   have hbel:=below_drewN (Below.refl w.heap.size w) nq;generalize w.drewN nq = w1 at *;have hsz:=hbel.size;go_wp2;have HRR:=Lib.hid hr;clear hr p1 p2
   go_loopw [10,11] (fun n i wr => ∃ t:Nat,t <= 8 /\ i = .int .i64 ((t:Int) + 1) /\ n = .int .u64 (valBE ((l.drop (j + 1)).take t):Nat) /\ Below w.heap.size w wr) (fun _ i _ => (8 + 1 - intOf i).toNat)
   case atStart => exact ⟨0,by omega,rfl,rfl,hbel.alloc hsz _⟩
   case round =>
    obtain ⟨t,ht,rfl,rfl,hbel2⟩:=hrel;by_cases htm:t < 8
    ·have hlt:j + (t + 1) < l.length:=by omega
     have HS:=Lib.hid (zb6 l j t hlt);have hv7:=zdR l j t (by omega);have hby:=(l[j + (t + 1)]).toNat_lt;generalize hvv:valBE ((l.drop (j + 1)).take t) = v at *;clear hvv;generalize hbb:(l[j + (t + 1)]).toNat = bb at *;have p3:(j:Int) + (↑t + 1) < l.length:=by omega
     go_wp2;go_roundw
     case rel => exact ⟨t + 1,by omega,by go_num,by rw [HS.out]; go_num,hbel2⟩
     case measure => simp [intOf] <;> omega
    ·obtain rfl:t = 8:=by omega
     go_wp2
     go_ret3
     exact ⟨by simp [hM,hN,hX],hbel2⟩
theorem zeY (l:L8) (i:Int) (w:World) (hi:i64ok i) (hl:l.length <= 9223372036854775000) :
  Calls Tryz.prog 160 #[.string ⟨l.toArray⟩,.int .i64 i] w fun e w' => e = .returned (.tuple #[.int .i64 (hM (anyAt l i)),.int .u64 (hN (anyAt l i)),.int .i64 (hX (anyAt l i))]) /\ Below w.heap.size w w':=by
 by_cases h0:i < 0
 ·have HR:=Lib.hid (show anyAt l i = none by unfold anyAt; rw [if_pos h0])
  rw [HR.out]
  go_enter Tryz.func160,Tryz.ntmps160
  go_wp2
  go_ret3
  exact ⟨rfl,Below.refl _ _⟩
 ·obtain ⟨j,rfl⟩:=Int.eq_ofNat_of_zero_le (show 0 <= i by omega)
  have HR:=Lib.hid (show anyAt l (j:Nat) = anyHd l j by unfold anyAt; rw [if_neg h0]; rfl);rw [HR.out];by_cases hj:j < l.length
  ·have hb:=l[j].toNat_lt
   generalize hq:l[j].toNat = q at *;have HQ:=Lib.hid hq;have p1:(0:Int) <= j:=by omega
   have p2:(j:Int) < l.length:=by omega
   by_cases h24:q % 32 < 24
   ·have H:=Lib.hid (anyHd_lt hj (by rw [hq]; exact h24))
    rw [H.out,hq]
    go_enter Tryz.func160,Tryz.ntmps160
    go_wp2
    go_quiet (fail)
    go_wp2
    go_ret3
    exact ⟨by simp [hM,hN,hX],below_drewN (Below.refl _ _) _⟩
   ·by_cases h27:27 < q % 32
    ·have H:=Lib.hid (anyHd_gt hj (by rw [hq]; exact h27))
     rw [H.out]
     go_enter Tryz.func160,Tryz.ntmps160
     go_wp2
     go_quiet (fail)
     go_wp2
     go_ret3
     exact ⟨by simp [hM,hN,hX],below_drewN (Below.refl _ _) _⟩
    ·have hk:q % 32 = 24 \/ q % 32 = 25 \/ q % 32 = 26 \/ q % 32 = 27:=by omega
     rcases hk with hk | hk | hk | hk
     ·exact zdS l j 0 1 w hj rfl (by omega) (by rw [hq]; exact hk) hl
     ·exact zdS l j 1 2 w hj rfl (by omega) (by rw [hq]; exact hk) hl
     ·exact zdS l j 2 4 w hj rfl (by omega) (by rw [hq]; exact hk) hl
     ·exact zdS l j 3 8 w hj rfl (by omega) (by rw [hq]; exact hk) hl
  ·have H:=Lib.hid (show anyHd l j = none by unfold anyHd; rw [getElem?_eq_none (by omega)])
   rw [H.out]
   go_enter Tryz.func160,Tryz.ntmps160
   go_wp2
   go_ret3
   exact ⟨rfl,Below.refl _ _⟩
end
section
theorem zgr (l:L8) (i:Int):getAt l i = match anyAt l i with | some (m,n,x) => if i.toNat + (hd m n).length = x then some (m,n,x) else none | none => none:=by
 unfold getAt anyAt getHd
 split <;> rfl
theorem zbP (l:L8) (i:Int) (w:World) (hi:i64ok i) (hl:l.length <= 9223372036854775000) :
  Calls Tryz.prog 118 #[.string ⟨l.toArray⟩,.int .i64 i] w fun e w' => e = .returned (.tuple #[.int .i64 (hM (getAt l i)),.int .u64 (hN (getAt l i)),.int .i64 (hX (getAt l i))]) /\ Below w.heap.size w w':=by
 have hg:=zgr l i
 cases ha:anyAt l i with
 | none =>
  rw [ha] at hg;have HG:=Lib.hid hg;rw [HG.out]
  go_enter Tryz.func118,Tryz.ntmps118
  go_wp2_with (go_at_call 160; refine (zeY l i _ hi hl).mono ?_; rw [ha]; simp only [hM,hN,hX]; rintro e w1 ⟨rfl,hb1⟩)
  go_quiet (fail)
  go_wp2
  go_ret3
  exact ⟨rfl,below_drewN hb1 _⟩
 | some r =>
  obtain ⟨m,n,x⟩:=r;rw [ha] at hg;simp only at hg;have hi0:¬ i < 0:=by intro h; unfold anyAt at ha; rw [if_pos h] at ha; cases ha
  have haa:anyHd l i.toNat = some (m,n,x):=by unfold anyAt at ha; rw [if_neg hi0] at ha; exact ha
  obtain ⟨h1,h2,h3,h4,h5,h6,h7⟩:=zdt haa;obtain ⟨j,rfl⟩:=Int.eq_ofNat_of_zero_le (show 0 <= i by omega);simp only [Int.toNat_natCast] at *;have p1:(0:Int) <= x:=by omega
  have p2:(j:Int) <= x:=by omega
  have p3:(x:Int) <= l.length:=by omega
  have HA:=Lib.hid ha;have HG:=Lib.hid hg;have H7:=Lib.hid h7;clear ha haa hi0 hg h7
  go_enter Tryz.func118,Tryz.ntmps118
  go_wp2_with (go_at_call 160; refine (zeY l j _ hi hl).mono ?_; rw [HA.out]; simp only [hM,hN,hX]; rintro e w1 ⟨rfl,hb1⟩)
  have hB:=hb1;have pd:decide ((x:Int) < 0) = false:=by simp
  have q1:(0:Int) <= m /\ (m:Int) <= 7:=by omega
  have q2:(0:Int) <= n /\ (n:Int) <= 18446744073709551615:=by omega
  go_region_held3 (fun W => Below w.heap.size w W) (first | exact hB | exact hB.drew)
   (first | (go_at_call 122; refine (zcp _ _ _ q1 q2).mono ?_; rintro e w2 ⟨rfl,hb2⟩; replace hB:=zan (by first | exact hB | exact hB.drew) hb2 lR))
  go_wp2
  ·have hne:(!hd m n == take (x - j) (drop j l)) = true:=by assumption
   have hne':¬ (j + (hd m n).length = x):=by rw [<- H7.out]; simpa using hne
   have hg:=HG.out;rw [if_neg hne'] at hg
   go_ret3
   exact ⟨by rw [hg]; rfl,hB⟩
  ·have heq:(!hd m n == take (x - j) (drop j l)) = false:=by assumption
   have heq':j + (hd m n).length = x:=by rw [<- H7.out]; simpa using heq
   have hg:=HG.out;rw [if_pos heq'] at hg
   go_ret3
   exact ⟨by rw [hg]; rfl,hB⟩
def sw (v:Nat):Int:=IntKind.i64.wrap (v:Nat)
theorem or_byte (v:Nat) (b:Nat) (hb:b < 256):bits .or .i64 (wrap64 (sw v * 256)) (b:Int) = sw (v * 256 + b):=by
 have e1:(BitVec.ofInt 64 (wrap64 (sw v * 256))).toNat = v * 256 % 18446744073709551616:=by
  rw [BitVec.toNat_ofInt]; unfold wrap64 sw; rw [IntKind.wrap_i64]; omega
 have e2:(BitVec.ofInt 64 (b:Int)).toNat = b:=by rw [BitVec.toNat_ofInt]; omega
 have e3:bits .or .i64 (wrap64 (sw v * 256)) (b:Int) = IntKind.i64.wrap ((BitVec.ofInt 64 (wrap64 (sw v * 256)) ||| BitVec.ofInt 64 (b:Int)).toNat:Nat):=rfl;rw [e3,BitVec.toNat_or,e1,e2,nat_join8 _ _ (by omega) hb];unfold sw;rw [IntKind.wrap_i64,IntKind.wrap_i64];omega
theorem zcT (l:L8) (j k:Nat) (w:World) (hk:1 <= k /\ k <= 8) (hj:j <= l.length) (hl:l.length <= 9223372036854775000) :
  Calls Tryz.prog 166 #[.string ⟨l.toArray⟩,.int .i64 (j:Nat),.int .i64 (k:Nat)] w fun e w' =>
   e = .returned (if j + k <= l.length then .tuple #[.int .i64 (IntKind.i64.wrap (valBE ((l.drop j).take k):Nat)),.bool true] else .tuple #[.int .i64 0,.bool false]) /\ Below w.heap.size w w':=by
 have hin:inR k 1 8 = true:=zaG (by omega);obtain ⟨hk1,hk2⟩:=hk;by_cases h:j + k <= l.length
 ·rw [if_pos h]
  go_enter Tryz.func166,Tryz.ntmps166
  go_wp2_with (go_at_call 126; refine (zaS _ _ _ _).mono ?_; rintro e w' ⟨rfl,rfl⟩)
  go_loop [8,26] (fun n i => ∃ t:Nat,t <= k /\ i = .int .i64 (t:Nat) /\ n = .int .i64 (sw (valBE ((l.drop j).take t)))) (fun _ i => k - (intOf i).toNat)
  case atStart => exact ⟨0,by omega,rfl,rfl⟩
  case round =>
   obtain ⟨t,ht,rfl,rfl⟩:=hrel;by_cases htk:t < k
   ·have hlt:j + t < l.length:=by omega
    have HS:=Lib.hid (zeX l j t hlt);have hby:=(l[j + t]).toNat_lt;generalize hvv:valBE ((l.drop j).take t) = v at *;clear hvv;generalize hbb:(l[j + t]).toNat = bb at *;have p3:(j:Int) + ↑t < l.length:=by omega
    go_wp2
    go_round
    case rel => exact ⟨t + 1,by omega,by go_num,by rw [HS.out,or_byte v bb hby]⟩
    case measure => simp [intOf] <;> omega
   ·obtain rfl:t = k:=by omega
    go_wp2
    go_ret2
    exact ⟨rfl,Below.refl _ _⟩
 ·rw [if_neg h]
  go_enter Tryz.func166,Tryz.ntmps166
  go_wp2_with (go_at_call 126; refine (zaS _ _ _ _).mono ?_; rintro e w' ⟨rfl,rfl⟩)
  go_ret2
  exact ⟨rfl,Below.refl _ _⟩
end
section
open Go.Lib (validD)
variable {T:World -> Prop} {hT:Low ngl T}
attribute [local irreducible] po mw pt
theorem zdT {nt n1 n2 tk:Nat} {l1 l2:List Nat} {a b:List PC} {rows:LP PC} {cs:List PC} (hown:OwnL n1 l1 (a ++ .sl tk rows :: b)) (htk:tk = 1 /\ rows = [] \/ 2 <= tk) (hge:∀ t ∈ toksL (a ++ .sl tk rows :: b),nt <= t) (hnt:nt <= n1) (hn2:n1 <= n2) (h22:2 <= n2)
  (hnew:NewL n1 n2 cs) (hctk:∀ t ∈ toksL cs,t ∈ l2) (hlv2:∀ t ∈ l1,2 <= t -> t < n1 -> t ∈ l2) :
  OwnL (n2 + 2) ((n2 + 1) :: (n2 :: l2).filter (· != tk)) (a ++ .sl (n2 + 1) (rows ++ [cs]) :: b) /\ (∀ t ∈ toksL (a ++ .sl (n2 + 1) (rows ++ [cs]) :: b),nt <= t):=by
 constructor
 ·have h0:OwnL n1 (l1.filter (fun t => decide (t < n1))) (a ++ .sl tk rows :: b):=⟨hown.own,hown.nd,fun t ht => ⟨mem_filter.2 ⟨(hown.mem t ht).1,decide_eq_true (hown.mem t ht).2⟩,(hown.mem t ht).2⟩⟩
  have:=h0.pushA (nt':=n2 + 1) (e:=cs) htk (by omega) hnew.own hnew.nd (fun t ht => by have:=hnew.mem t ht; omega) (by omega)
  refine this.mono2 (by omega) fun t ht h22 hlt => ?_
  rcases mem_cons.1 ht with rfl | ht
  ·exact mem_cons_self ..
  ·obtain ⟨m1,m2⟩:=mem_filter.1 ht
   refine mem_cons_of_mem _ (mem_filter.2 ⟨?_,m2⟩)
   rcases mem_append.1 m1 with m1 | m1
   ·exact mem_cons_of_mem _ (hctk t m1)
   ·obtain ⟨m3,m4⟩:=mem_filter.1 m1
    exact mem_cons_of_mem _ (hlv2 t m3 h22 (of_decide_eq_true m4))
 ·intro t ht
  rw [zap,mem_append] at ht
  rcases ht with ht | ht
  ·exact hge t (by rw [zap]; exact mem_append.2 (.inl ht))
  ·rw [toksL,mem_append] at ht
   rcases ht with ht | ht
   ·rw [zaF (by omega),zaZ] at ht
    rcases mem_cons.1 ht with rfl | ht
    ·omega
    ·rcases mem_append.1 ht with ht | ht
     ·rcases htk with ⟨_,rfl⟩ | h2
      ·cases ht
      ·refine hge t ?_
       rw [zap,toksL,zaF h2];exact mem_append.2 (.inr (mem_append.2 (.inl (mem_cons_of_mem _ ht))))
     ·have ht:t ∈ toksL cs:=by simpa [toksLL] using ht
      have:=hnew.mem t ht; omega
   ·exact hge t (by rw [zap,toksL]; exact mem_append.2 (.inr (mem_append.2 (.inr ht))))
theorem zeq {nt n1 n2 tk:Nat} {live l1 l2:List Nat} (htk:tk = 1 \/ nt <= tk) (hnt:nt <= n1) (hlv:∀ t ∈ live,2 <= t -> t < nt -> t ∈ l1) (hlv2:∀ t ∈ l1,2 <= t -> t < n1 -> t ∈ l2):∀ t ∈ live,2 <= t -> t < nt -> t ∈ (n2 + 1) :: (n2 :: l2).filter (· != tk):=fun t ht h22 hlt => by
 refine mem_cons_of_mem _ (mem_filter.2 ⟨mem_cons_of_mem _ (hlv2 t (hlv t ht h22 hlt) h22 (by omega)),?_⟩);simp only [bne_iff_ne,ne_eq]; omega
theorem tk_ge {nt tk:Nat} {a b:List PC} {rows:LP PC} (htk:tk = 1 /\ rows = [] \/ 2 <= tk) (hge:∀ t ∈ toksL (a ++ .sl tk rows :: b),nt <= t):tk = 1 \/ nt <= tk :=
 htk.imp (fun h => h.1) fun h => hge tk (by rw [zap,toksL,zaF h]; exact mem_append.2 (.inr (mem_append.2 (.inl (mem_cons_self ..)))))
theorem zdu {nt:Nat} (hnt:2 <= nt) (live:List Nat):OwnL (nt + 1) (nt :: live) ([] ++ .sl nt [] :: []) /\ (∀ t ∈ toksL ([] ++ .sl nt [] :: []),nt <= t):=by
 have e:toksL ([] ++ .sl nt [] :: []) = [nt]:=by show PC.toks (.sl nt []) ++ [] = _; rw [zaF hnt]; rfl
 refine ⟨⟨by show (PC.owned (.sl nt []) && true) = true; rw [zbW hnt]; rfl,by rw [e]; simp,fun t ht => ?_⟩,fun t ht => ?_⟩
 ·rw [e] at ht; simp at ht; subst ht; exact ⟨mem_cons_self ..,Nat.lt_succ_self _⟩
 ·rw [e] at ht; simp at ht; omega
theorem pS_new (n1 n2:Nat) (l:L8):NewL n1 n2 [pS l]:=⟨rfl,nodup_nil,fun t ht => by cases ht⟩
theorem FnV.oldT3 {E:Env} {f:Nat} {args:List PV} {a b d:Value} (ha:a.oneCell' = true) (hb1:b.oneCell' = true) (hd1:d.oneCell' = true) (h:∀ (w:World) (C:Cx) (vs:List Value),(∀ b o,C.F b o -> b < w.heap.size) -> E.NG <= w.heap.size -> E.T w -> vs.length = args.length -> (∀ (j:Nat) (x:PV) (y:Value),args[j]? = some x -> vs[j]? = some y -> RpV C w x y) ->
  Calls E.P f vs.toArray w fun e w' => e = .returned (.tuple #[a,b,d]) /\ Below w.heap.size w w'):FnV E f args (.tup [.d (.v a),.d (.v b),.d (.v d)]):=by
 intro C w vs hI hnt hold hl hv;refine (h w C vs hI.fin hI.ng hI.t hl hv).mono ?_;rintro e w' ⟨rfl,hb⟩;have hF:Fix C w w':=.of (fun b o hF => World.cell?_of_block (a:=⟨b,o,none⟩) (hb.block b (hI.fin b o hF))) hb.block
 refine ⟨_,.tup [.d (.v a),.d (.v b),.d (.v d)],[],fun _ => False,C,rfl,rfl,⟨hI.nb,fun p cs hp => by simp at hp,fun p hp => by simp at hp,fun p hp => by simp at hp,fun p q hp => by simp at hp,fun t ht => ht.elim,fun t s b ht => ht.elim,fun b o h => Nat.lt_of_lt_of_le (hI.fin b o h) hb.size,Nat.le_trans hI.ng hb.size,E.low w w' hI.t hb.size (fun k hk => hb.block k (Nat.lt_of_lt_of_le hk hI.ng))⟩,
  ⟨hb.os,hb.tape,hb.output,hb.size,fun _ _ h => h,hF,fun k hk _ _ => hb.block k hk,⟨lR,fun _ _ => rfl⟩,fun _ _ h => .inl h,fun t b ht => ht.elim,(fun p hp hp2 => by simp at hp2),⟨lR,fun _ _ => ⟨rfl,rfl,rfl,rfl⟩⟩⟩,.tup _ [a,b,d] rfl ?_⟩
 intro j x y hx hy
 match j with
 | 0 => simp at hx hy; subst hx; subst hy; exact .d _ _ (.v a ha)
 | 1 => simp at hx hy; subst hx; subst hy; exact .d _ _ (.v b hb1)
 | 2 => simp at hx hy; subst hx; subst hy; exact .d _ _ (.v d hd1)
 | j + 3 => simp at hx
def hdV (r:Option (Nat × Nat × Nat)):PV:=.tup [.d (pI (hM r)),.d (.v (.int .u64 (hN r))),.d (pI (hX r))]
theorem ghead_fn (s:L8) (i:Int) (hi:i64ok i) (hs:s.length <= 2147483647):FnV (env T hT) 118 [.d (pS s),.d (pI i)] (hdV (getAt s i)):=by
 refine FnV.oldT3 rfl rfl rfl fun w C vs hF _ _ hlen hv => ?_
 match vs,hlen with
 | [x,y],_ =>
  have h1:=zcr (hv 0 _ _ rfl rfl); have h2:=zbj (hv 1 _ _ rfl rfl)
  subst h1; subst h2
  exact zbP s i w hi (by omega)
theorem zer (s:L8) (i:Nat):getAt s (i:Int) = getHd s i:=by unfold getAt; rw [if_neg (by omega)]; rfl
def cntOf (s:L8) (i max:Nat):Option (Nat × Nat):=match getHd s i with
 | some (m,n,x) => if m = 4 /\ n <= max then some (n,x) else none
 | none => none
def cN:Option (Nat × Nat) -> Int | some (n,_) => n | none => 0
def cX:Option (Nat × Nat) -> Int | some (_,x) => x | none => -1
theorem cnt_fn (s:L8) (i max:Nat) (hm:max <= 1000) (hi:i <= s.length) (hs:s.length <= 2147483647):FnV (env T hT) 60 [.d (pS s),.d (pI i),.d (pI max)] (.tup [.d (pI (cN (cntOf s i max))),.d (pI (cX (cntOf s i max)))]):=by
 have hg:=ghead_fn (T:=T) (hT:=hT) s i (by unfold i64ok; omega) hs;rw [zer] at hg;refine zaV (zak zfp) (by show 3 <= 33; decide) fun B hB => ?_
 unfold m_s_l14Count;refine mP ?_;refine mO ?_;(iterate 2 refine mS ?_);refine zac rfl hg ?_;refine mN ?_;refine mM ?_;unfold cntOf
 cases hr:getHd s i with
 | none =>
  refine mS ?_;refine zai rfl rfl rfl ?_;refine mS ?_;refine mZ ?_;(iterate 2 refine mS ?_);refine mZ ?_;refine mT ?_;refine mP ?_
  exact mR
 | some r =>
  obtain ⟨m,n,x⟩:=r;obtain ⟨g1,g2,g3,g4,g5,g6⟩:=zbt hr;refine mS ?_;refine zam rfl rfl (decide_eq_false (show ¬ ((x:Nat):Int) < 0 by omega)) ?_;(iterate 2 refine mS ?_);by_cases h4:m = 4
  case neg =>
   simp only;rw [if_neg (by omega)];refine zai rfl rfl (by show (!decide ((m:Int) = 4)) = true; rw [decide_eq_false (by omega)]; rfl) ?_;(iterate 2 refine mS ?_);refine mZ ?_;refine mT ?_;refine mP ?_;exact mR
  refine zam rfl rfl (by show (!decide ((m:Int) = 4)) = false; rw [decide_eq_true (by omega)]; rfl) ?_;(iterate 4 refine mS ?_);refine zbs (n:=(max:Int)) rfl rfl (by rw [IntKind.wrap_u64]; omega) ?_;by_cases hn:n <= max
  ·simp only
   rw [if_pos ⟨h4,hn⟩];refine zam rfl rfl (decide_eq_false (show ¬ ((n:Nat):Int) > max by omega)) ?_;refine mK ?_;refine mQ ?_;refine zbs (n:=(n:Int)) rfl rfl (by show IntKind.wrap .i64 ((n:Nat):Int) = _; rw [IntKind.wrap_i64]; omega) ?_;refine mN ?_;exact mR
  ·simp only
   rw [if_neg (by omega)];refine zai rfl rfl (decide_eq_true (show ((n:Nat):Int) > max by omega)) ?_;refine mT ?_;refine mP ?_;exact mR
theorem cnt_at {s:L8} {i k max:Nat} (hi:i <= s.length) (hk:k <= max) (hm:max <= 1000) (h:At s i (hd 4 k)):cntOf s i max = some (k,i + (hd 4 k).length):=by
 unfold cntOf;rw [zcC (by decide) (by omega) hi h];simp only;rw [if_pos ⟨by decide,hk⟩]
theorem cnt_some {s:L8} {i max n x:Nat} (h:cntOf s i max = some (n,x)):n <= max /\ i < x /\ x <= s.length:=by
 unfold cntOf at h
 split at h
 ·rename_i m n' x' hr
  split at h
  ·rename_i hc
   simp only [sI,Prod.mk.injEq] at h;obtain ⟨rfl,rfl⟩:=h;obtain ⟨g1,g2,g3,g4,g5,g6⟩:=zbt hr;exact ⟨hc.2,g2,g3⟩
  ·cases h
 ·cases h
theorem nms_at {s:L8} {i:Nat} {us:List (L8)} (h:At s i (nmsT us)) (k:Nat) (hk:k < us.length):At s (i + (nmsT (us.take k)).length) (hd 3 us[k].length ++ us[k]):=by
 have e:us = us.take k ++ (us[k] :: us.drop (k + 1)):=by rw [<- drop_eq_getElem_cons hk,take_append_drop]
 rw [e,zdc] at h;have h2:=h.app.2;simp only [nmsT] at h2;exact h2.app.1
theorem zfw {s:L8} {i:Nat} {us:List V} (h:At s i (msgs us)) (k:Nat) (hk:k < us.length):At s (i + (msgs (us.take k)).length) (msg us[k]):=by
 have e:us = us.take k ++ (us[k] :: us.drop (k + 1)):=by rw [<- drop_eq_getElem_cons hk,take_append_drop]
 rw [e,zcq] at h;have h2:=h.app.2;simp only [msgs] at h2;exact h2.app.1
end
section
open Go.Lib (validD)
variable {T:World -> Prop} {hT:Low ngl T}
attribute [local irreducible] po mw pt
def GmN (s:L8) (i n nt:Nat) (live:List Nat) (x:PV) (nt':Nat) (live':List Nat):Prop :=
 ∃ (t:Nat) (ns:List (L8)) (next:Int),x = .tup [.d (.sl t (pSr ns)),.d (pI next)] /\ 2 <= t /\ NewL nt nt' [.sl t (pSr ns)] /\ t ∈ live' /\ (∀ t ∈ live,2 <= t -> t < nt -> t ∈ live') /\ nt <= nt' /\ ns.length <= n /\ (∀ m ∈ ns,m.length <= s.length) /\
 (next = -1 \/ ∃ j:Nat,next = j /\ j <= s.length) /\ (∀ us:List (L8),us.length = n -> (∀ u ∈ us,u.length <= 4294967295) -> At s i (nmsT us) -> ns = us /\ next = ((i + (nmsT us).length:Nat):Int))
def NmI (s:L8) (i n nt:Nat) (live:List Nat) (m:Nat) (st:St):Prop:=∃ (k j t:Nat) (ns:List (L8)),k <= n /\ m = n - k /\ has st.tm [(0,.d (pS s)),(1,.d (pI j)),(2,.d (pI n)),(8,.d (.sl t (pSr ns))),(9,.d (pI k))] /\ st.bx = [] /\
 2 <= t /\ OwnL st.nt st.live ([] ++ .sl t (pSr ns) :: []) /\ (∀ u ∈ toksL ([] ++ .sl t (pSr ns) :: []),nt <= u) /\ nt <= st.nt /\ (∀ t ∈ live,2 <= t -> t < nt -> t ∈ st.live) /\
 ns.length = k /\ j <= s.length /\ (∀ m ∈ ns,m.length <= s.length) /\ (∀ us:List (L8),us.length = n -> (∀ u ∈ us,u.length <= 4294967295) -> At s i (nmsT us) -> us.take k = ns /\ j = i + (nmsT ns).length)
theorem names_g {s:L8} (hs:s.length <= 2147483647) (i n nt:Nat) (live:List Nat) (hi:i <= s.length) (hn:n <= 1000) (hnt:2 <= nt) :
  FnG (env T hT) 61 [.d (pS s),.d (pI i),.d (pI n)] [] nt live (fun x _ n' l => x.lw 0 /\ GmN s i n nt live x n' l):=by
 refine zaU (zak zfq) (by show 3 <= 55; decide) fun B hB => ?_
 unfold m_s_l14Names;refine mP ?_;refine mO ?_;refine zay (es:=[]) rfl ?_;refine mN ?_;refine zau (fun st => ∃ m,NmI s i n nt live m st /\ m = 0) ?_ ?_
 ·refine mP ?_
  refine zag ?_;refine zaz (NmI s i n nt live) n ⟨0,i,nt,[],Nat.zero_le _,rfl,⟨rfl,rfl,rfl,rfl,rfl,trivial⟩,rfl,hnt,(zdu hnt live).1,(zdu hnt live).2,Nat.le_succ _,fun t ht _ _ => mem_cons_of_mem _ ht,rfl,hi,(fun m hm => by cases hm),fun us _ _ _ => ⟨by simp,by simp [nmsT]⟩⟩ ?_;rintro m tm bx n1 l1 ⟨k,j,t,ns,hk,rfl,ht,hbx,ht2,hown,hge,hn1,hlv,hnl,hj,hnb,hcp⟩;obtain ⟨tm0,rfl⟩:=zae ht;simp only at hbx hown hn1 hlv; subst hbx
  clear ht;refine mM ?_;(iterate 2 refine mS ?_);refine po_b rfl rfl (fun b hb => ?_);refine zaa ?_;refine zbe (p:=(k:Int) < n) hb rfl (fun h _ => ?_) (fun h _ => ?_)
  ·have hkn:k < n:=by omega
   have hg:=ghead_fn (T:=T) (hT:=hT) s j (by unfold i64ok; omega) hs;rw [zer] at hg
   have hstep:∀ us:List (L8),us.length = n -> (∀ u ∈ us,u.length <= 4294967295) -> At s i (nmsT us) -> ∃ hku:k < us.length,us.take k = ns /\ j = i + (nmsT ns).length /\ getHd s j = some (3,us[k].length,j + (hd 3 us[k].length).length) /\ At s (j + (hd 3 us[k].length).length) us[k]:=by
    intro us h1 h2 h3;obtain ⟨e1,e2⟩:=hcp us h1 h2 h3;have hku:k < us.length:=by omega
    have hA:=nms_at h3 k hku;rw [e1,<- e2] at hA;have hul:=h2 _ (getElem_mem hku);exact ⟨hku,e1,e2,zcC (by decide) (by omega) hj hA.app.1,hA.app.2⟩
   have hown0:NewL nt n1 [.sl t (pSr ns)]:=⟨hown.own,hown.nd,fun u hu => ⟨hge u hu,(hown.mem u hu).2⟩⟩;have htl:t ∈ l1:=(hown.mem t (by show t ∈ PC.toks (.sl t (pSr ns)) ++ []; rw [zaF ht2]; simp)).1;have hlw:PV.lw 0 (.tup [.d (.sl t (pSr ns)),.d (pI (-1))]):=⟨(zaC hown0.own).1,trivial,trivial⟩
   have hfail:(∀ us:List (L8),us.length = n -> (∀ u ∈ us,u.length <= 4294967295) -> ¬ At s i (nmsT us)) -> GmN s i n nt live (.tup [.d (.sl t (pSr ns)),.d (pI (-1))]) n1 l1:=fun hno =>
    ⟨t,ns,-1,rfl,ht2,hown0,htl,hlv,hn1,by omega,hnb,.inl rfl,fun us h1 h2 h3 => absurd h3 (hno us h1 h2)⟩
   refine zaj ?_;refine zah (zag (zah (zad ?_)));(iterate 2 refine mS ?_);refine zac rfl hg ?_;refine mN ?_;refine mM ?_
   cases hr:getHd s j with
   | none =>
    have hF:=hfail fun us h1 h2 h3 => by
     obtain ⟨_,_,_,e,_⟩:=hstep us h1 h2 h3;rw [hr] at e; cases e
    refine mS ?_;refine zai rfl rfl rfl ?_;refine mS ?_;refine mZ ?_;(iterate 2 refine mS ?_);refine mZ ?_;refine mT ?_;refine mP ?_
    exact zaf ⟨.inr rfl,[.d (.sl t (pSr ns)),.d (pI (-1))],rfl,hlw,hF⟩
   | some r =>
   obtain ⟨m,n',x⟩:=r;obtain ⟨g1,g2,g3,g4,g5,g6⟩:=zbt hr;refine mS ?_;refine zam rfl rfl (decide_eq_false (show ¬ ((x:Nat):Int) < 0 by omega)) ?_;(iterate 2 refine mS ?_);by_cases h3:m = 3
   case neg =>
    have hF:=hfail fun us k1 k2 k3 => by
     obtain ⟨_,_,_,e,_⟩:=hstep us k1 k2 k3;rw [hr] at e;simp only [sI,Prod.mk.injEq] at e;exact h3 e.1
    refine zai rfl rfl (by show (!decide ((m:Int) = 3)) = true; rw [decide_eq_false (by omega)]; rfl) ?_;(iterate 2 refine mS ?_);refine mZ ?_;refine mT ?_;refine mP ?_;exact zaf ⟨.inr rfl,[.d (.sl t (pSr ns)),.d (pI (-1))],rfl,hlw,hF⟩
   refine zam rfl rfl (by show (!decide ((m:Int) = 3)) = false; rw [decide_eq_true (by omega)]; rfl) ?_;(iterate 4 refine mS ?_);refine po_q (v:=.d (pI s.length)) rfl rfl ?_;refine mS ?_;refine zaQ (a:=(s.length:Int)) (b:=(x:Int)) (n:=(s.length:Int) - x) rfl rfl rfl rfl (by omega) ?_;refine zbs (n:=(s.length:Int) - x) rfl rfl (by rw [IntKind.wrap_u64]; omega) ?_;by_cases hle:x + n' <= s.length
   case neg =>
    have hF:=hfail fun us k1 k2 k3 => by
     obtain ⟨hku,e1,e2,e,hA⟩:=hstep us k1 k2 k3;rw [hr] at e;simp only [sI,Prod.mk.injEq] at e
     have:=hA.len (by omega)
     omega
    refine zai rfl rfl (decide_eq_true (show ((n':Nat):Int) > (s.length:Int) - x by omega)) ?_;refine mT ?_;refine mP ?_;exact zaf ⟨.inr rfl,[.d (.sl t (pSr ns)),.d (pI (-1))],rfl,hlw,hF⟩
   refine zam rfl rfl (decide_eq_false (show ¬ ((n':Nat):Int) > (s.length:Int) - x by omega)) ?_;refine mK ?_;refine mO ?_;(iterate 2 refine mS ?_);refine zbs (n:=(n':Int)) rfl rfl (by show IntKind.wrap .i64 ((n':Nat):Int) = _; rw [IntKind.wrap_i64]; omega) ?_;refine zaq (a:=(x:Int)) (b:=(n':Int)) (n:=((x + n':Nat):Int)) rfl rfl rfl (by omega) (by omega) ?_;refine mN ?_;refine zad ?_;(iterate 4 refine mS ?_);refine zbA (a:=x) (b:=x + n') (rs:=(s.drop x).take n') rfl rfl (zaN (i:=(x:Int)) rfl rfl) (zaN rfl rfl) (by omega) (by rw [show x + n' - x = n' by omega]) ?_;refine zay (es:=[[pS ((s.drop x).take n')]]) rfl ?_;refine zcL (t:=t) (t':=n1) (es:=pSr ns) (ds:=[[pS ((s.drop x).take n')]]) rfl rfl (.inr (mem_cons_of_mem _ htl)) (by simp only [length_singleton,za0]; omega) (fun e he => by simp only [mem_singleton] at he; subst he; rfl) (zea ns) ?_
   refine mN ?_;refine zad ?_;refine mS ?_;refine zaq (n:=((k + 1:Nat):Int)) rfl rfl rfl (by omega) (by omega) ?_;refine mN ?_;have hpush:pSr (ns ++ [(s.drop x).take n']) = pSr ns ++ [[pS ((s.drop x).take n')]]:=by unfold pSr; rw [map_append]; rfl
   obtain ⟨o1,o2⟩:=zdT (n2:=n1) (l2:=l1) hown (.inr ht2) hge hn1 lR (by omega) (pS_new n1 n1 ((s.drop x).take n')) (fun t ht => by cases ht) (fun t ht _ _ => ht);rw [<- hpush] at o1 o2;refine ⟨n - (k + 1),by omega,k + 1,x + n',n1 + 1,ns ++ [(s.drop x).take n'],hkn,rfl,⟨rfl,rfl,rfl,by rw [hpush]; rfl,rfl,trivial⟩,rfl,by omega,o1,o2,Nat.le_succ_of_le (Nat.le_succ_of_le hn1),zeq (tk_ge (.inr ht2) hge) hn1 hlv (fun t ht _ _ => ht),by simp [hnl],hle,?_,fun us k1 k2 k3 => ?_⟩
   ·intro m hm
    rcases mem_append.1 hm with hm | hm
    ·exact hnb m hm
    ·simp only [mem_singleton] at hm; subst hm
     rw [length_take,length_drop]; omega
   ·obtain ⟨hku,e1,e2,e,hA⟩:=hstep us k1 k2 k3
    rw [hr] at e;simp only [sI,Prod.mk.injEq] at e;obtain ⟨_,e3,e4⟩:=e;have hT:=hA.take;rw [<- e4,<- e3] at hT;refine ⟨by rw [take_succ_eq_append_getElem hku,e1,hT],?_⟩;rw [hT,zdc,length_append];simp only [nmsT,length_append,length_nil];omega
  ·refine zaH ?_
   exact ⟨0,⟨k,j,t,ns,hk,by omega,⟨rfl,rfl,rfl,rfl,rfl,trivial⟩,rfl,ht2,hown,hge,hn1,hlv,hnl,hj,hnb,hcp⟩,rfl⟩
 rintro tm bx n1 l1 ⟨m,⟨k,j,t,ns,hk,hmk,ht,hbx,ht2,hown,hge,hn1,hlv,hnl,hj,hnb,hcp⟩,hm0⟩;obtain ⟨tm0,rfl⟩:=zae ht;simp only at hbx hown hn1 hlv; subst hbx
 have hkn:k = n:=by omega
 subst hkn;have hown0:NewL nt n1 [.sl t (pSr ns)]:=⟨hown.own,hown.nd,fun u hu => ⟨hge u hu,(hown.mem u hu).2⟩⟩;have htl:t ∈ l1:=(hown.mem t (by show t ∈ PC.toks (.sl t (pSr ns)) ++ []; rw [zaF ht2]; simp)).1;refine mP ?_;refine zaf ⟨.inr rfl,[.d (.sl t (pSr ns)),.d (pI j)],rfl,⟨(zaC hown0.own).1,trivial,trivial⟩,t,ns,_,rfl,ht2,hown0,htl,hlv,hn1,by omega,hnb,.inr ⟨j,rfl,hj⟩,fun us k1 k2 k3 => ?_⟩;obtain ⟨e1,e2⟩:=hcp us k1 k2 k3;rw [take_of_length_le (by omega)] at e1;subst e1;exact ⟨rfl,by rw [e2]⟩
end
section
open Go.Lib (validD)
variable {T:World -> Prop} {hT:Low ngl T}
attribute [local irreducible] po mw pt
def GmT (s:L8) (i n nt:Nat) (live:List Nat) (x:PV) (nt':Nat) (live':List Nat):Prop :=
 ∃ (t:Nat) (rows:LP PC) (vs:List V) (next:Int),x = .tup [.d (.sl t rows),.d (pI next)] /\ 2 <= t /\ erLL rows = vK vs /\ OwnL nt' live' ([] ++ .sl t rows :: []) /\ (∀ u ∈ toksL ([] ++ .sl t rows :: []),nt <= u) /\ (∀ t ∈ live,2 <= t -> t < nt -> t ∈ live') /\ nt <= nt' /\ vs.length <= n /\ (∀ v ∈ vs,v.wf /\ v.ok = true) /\
 (next = -1 \/ ∃ j:Nat,next = j /\ j <= s.length) /\ (∀ us:List V,us.length = n -> (∀ u ∈ us,u.wf /\ u.ok = true) -> At s i (msgs us) -> vs = us /\ next = ((i + (msgs us).length:Nat):Int))
def TbI (s:L8) (i n nt:Nat) (live:List Nat) (m:Nat) (st:St):Prop:=∃ (k j t:Nat) (rows:LP PC) (vs:List V),k <= n /\ m = n - k /\ has st.tm [(0,.d (pS s)),(1,.d (pI j)),(2,.d (pI n)),(8,.d (.sl t rows)),(9,.d (pI k))] /\
 2 <= t /\ erLL rows = vK vs /\ OwnL st.nt st.live ([] ++ .sl t rows :: []) /\ (∀ u ∈ toksL ([] ++ .sl t rows :: []),nt <= u) /\ nt <= st.nt /\ (∀ t ∈ live,2 <= t -> t < nt -> t ∈ st.live) /\
 vs.length = k /\ j <= s.length /\ (∀ v ∈ vs,v.wf /\ v.ok = true) /\ (∀ us:List V,us.length = n -> (∀ u ∈ us,u.wf /\ u.ok = true) -> At s i (msgs us) -> us.take k = vs /\ j = i + (msgs vs).length)
theorem lw_row {nt' t:Nat} {live:List Nat} {rows:LP PC} (h:OwnL nt' live ([] ++ .sl t rows :: [])) (n:Int):PV.lw 0 (.tup [.d (.sl t rows),.d (pI n)]):=⟨(zaC (n:=0) h.own).1,trivial,trivial⟩
theorem table_g {s:L8} (hs:s.length <= 2147483647) (i n nt:Nat) (live:List Nat) (hi:i <= s.length) (hn:n <= 1000) (hnt:2 <= nt) :
  FnG (env T hT) 62 [.d (pS s),.d (pI i),.d (pI n)] [] nt live (fun x _ n' l => x.lw 0 /\ GmT s i n nt live x n' l):=by
 refine zaU (zak zfr) (by show 3 <= 34; decide) fun B hB => ?_
 unfold m_s_l14Table;refine mP ?_;refine mO ?_;refine zay (es:=[]) rfl ?_;refine mN ?_;refine zau (fun st => ∃ m,TbI s i n nt live m st /\ m = 0) ?_ ?_
 ·refine mP ?_
  refine zag ?_;refine zaz (TbI s i n nt live) n ⟨0,i,nt,[],[],Nat.zero_le _,rfl,⟨rfl,rfl,rfl,rfl,rfl,trivial⟩,hnt,rfl,(zdu hnt live).1,(zdu hnt live).2,Nat.le_succ _,fun t ht _ _ => mem_cons_of_mem _ ht,rfl,hi,(fun m hm => by cases hm),fun us _ _ _ => ⟨by simp,by simp [msgs]⟩⟩ ?_;rintro m tm bx n1 l1 ⟨k,j,t,rows,vs,hk,rfl,ht,ht2,hrows,hown,hge,hn1,hlv,hvl,hj,hvb,hcp⟩;obtain ⟨tm0,rfl⟩:=zae ht;simp only at hown hn1 hlv;clear ht;refine mM ?_;(iterate 2 refine mS ?_);refine po_b rfl rfl (fun b hb => ?_);refine zaa ?_;refine zbe (p:=(k:Int) < n) hb rfl (fun h _ => ?_) (fun h _ => ?_)
  ·have hkn:k < n:=by omega
   have hg:=getMsg_g (T:=T) (hT:=hT) hs (j:Int) n1 l1 (by omega)
   have hstep:∀ us:List V,us.length = n -> (∀ u ∈ us,u.wf /\ u.ok = true) -> At s i (msgs us) -> ∃ hku:k < us.length,us.take k = vs /\ j = i + (msgs vs).length /\ At s j (msg us[k]):=by
    intro us h1 h2 h3;obtain ⟨e1,e2⟩:=hcp us h1 h2 h3;have hku:k < us.length:=by omega
    have hA:=zfw h3 k hku;rw [e1,<- e2] at hA;exact ⟨hku,e1,e2,hA⟩
   refine zaj ?_;refine zah (zag (zah (zad ?_)));(iterate 2 refine mS ?_);refine po_g rfl (FnG.lift0 (bx:=bx) hg ⟨trivial,trivial,trivial⟩) ?_;rintro x b2 n2 l2 ⟨rfl,cs,next,rfl,hc5,hnew,hctk,hlv2,hn2,hres⟩;(iterate 3 refine mS ?_);refine zb5 (cs:=cs) rfl hc5 rfl rfl ?_;refine mL ?_;refine mM ?_;refine mS ?_;refine po_b rfl rfl (fun b3 hb3 => ?_);refine zaa ?_;have hown2:OwnL n2 l2 ([] ++ .sl t rows :: []):=hown.mono2 hn2 hlv2;refine zbe (p:=next < 0) hb3 rfl (fun h3 _ => ?_) (fun h3 _ => ?_)
   ·rcases hres with ⟨hnx,_,hno⟩ | ⟨k',v,_,_,_,_,hnx,_⟩
    case inr => omega
    refine mP ?_;refine zaf ⟨.inr rfl,[.d (.sl t rows),.d (pI (-1))],rfl,lw_row hown2 _,t,rows,vs,-1,rfl,ht2,hrows,hown2,hge,(fun t ht h22 hlt => hlv2 t (hlv t ht h22 hlt) h22 (Nat.lt_of_lt_of_le hlt hn1)),Nat.le_trans hn1 hn2,by omega,hvb,.inl rfl,fun us k1 k2 k3 => ?_⟩;obtain ⟨hku,e1,e2,hA⟩:=hstep us k1 k2 k3;have hu:=k2 _ (getElem_mem hku);exact absurd hA (by have:=hno us[k] hu.1 hu.2 (by omega); rwa [Int.toNat_natCast] at this)
   ·rcases hres with ⟨hnx,_,_⟩ | ⟨j',v,hjj,hvw,hvo,hAt,hnx,hle,he,huniq⟩
    ·omega
    obtain rfl:j' = j:=by omega
    refine zaj ?_;refine mQ ?_;refine za1 (p:=b2.length) (cs:=cs) rfl rfl (za3 b2 cs) hc5 ?_
    refine zay (es:=[cs]) (by
     show (if cs.length = 5 then some [cs] else none) = some [cs];rw [if_pos hc5]) ?_
    have hrl:rows.length = vs.length:=by rw [zcz hrows,zbh]
    refine zcL (t:=t) (t':=n2) (es:=rows) (ds:=[cs]) rfl rfl (.inr (mem_cons_of_mem _ (hown2.mem t (by show t ∈ PC.toks (.sl t rows) ++ []; rw [zaF ht2]; simp)).1)) (by simp only [length_singleton]; omega) (fun e he => by simp only [mem_singleton] at he; subst he; exact hc5) (fun e he => zfg hrows (vK_wid vs) e he) ?_;refine mN ?_;refine zad ?_;refine mN ?_;refine zad ?_;refine mS ?_;refine zaq (n:=((k + 1:Nat):Int)) rfl rfl rfl (by omega) (by omega) ?_;refine mN ?_;obtain ⟨o1,o2⟩:=zdT (n2:=n2) (l2:=l2) hown (.inr ht2) hge hn1 hn2 (by omega) hnew hctk hlv2;refine ⟨n - (k + 1),by omega,k + 1,j' + (msg v).length,n2 + 1,rows ++ [cs],vs ++ [v],hkn,rfl,⟨rfl,by rw [<- hnx]; rfl,rfl,rfl,rfl,trivial⟩,by omega,?_,o1,o2,Nat.le_succ_of_le (Nat.le_succ_of_le (Nat.le_trans hn1 hn2)),zeq (tk_ge (.inr ht2) hge) hn1 hlv hlv2,by simp [hvl],hle,?_,fun us k1 k2 k3 => ?_⟩
    ·rw [zbI,hrows,zb4,zb4,map_append]; simp only [erLL,he]; rfl
    ·intro u hu
     rcases mem_append.1 hu with hu | hu
     ·exact hvb u hu
     ·simp only [mem_singleton] at hu; subst hu; exact ⟨hvw,hvo⟩
    ·obtain ⟨hku,e1,e2,hA⟩:=hstep us k1 k2 k3
     have hu:=k2 _ (getElem_mem hku);have huv:=huniq us[k] hu.1 hu.2 hA;refine ⟨by rw [take_succ_eq_append_getElem hku,e1,huv],?_⟩;rw [zcq,length_append];simp only [msgs,append_nil];omega
  ·refine zaH ?_
   exact ⟨0,⟨k,j,t,rows,vs,hk,by omega,⟨rfl,rfl,rfl,rfl,rfl,trivial⟩,ht2,hrows,hown,hge,hn1,hlv,hvl,hj,hvb,hcp⟩,rfl⟩
 rintro tm bx n1 l1 ⟨m,⟨k,j,t,rows,vs,hk,hmk,ht,ht2,hrows,hown,hge,hn1,hlv,hvl,hj,hvb,hcp⟩,hm0⟩;obtain ⟨tm0,rfl⟩:=zae ht;simp only at hown hn1 hlv;have hkn:k = n:=by omega
 subst hkn;refine mP ?_;refine zaf ⟨.inr rfl,[.d (.sl t rows),.d (pI j)],rfl,lw_row hown _,t,rows,vs,_,rfl,ht2,hrows,hown,hge,hlv,hn1,by omega,hvb,.inr ⟨j,rfl,hj⟩,fun us k1 k2 k3 => ?_⟩;obtain ⟨e1,e2⟩:=hcp us k1 k2 k3;rw [take_of_length_le (by omega)] at e1;subst e1;exact ⟨rfl,by rw [e2]⟩
end
section
open Go.Lib (validD)
variable {T:World -> Prop} {hT:Low ngl T}
attribute [local irreducible] po mw pt
def Good (s:L8) (ns:List (L8)) (vs:List V):Prop:=dictB ns vs = true /\ dictT ns vs = s /\ ∀ v ∈ vs,v.wf
theorem Good.at {s:L8} {ns:List (L8)} {vs:List V} (h:Good s ns vs):At s 0 (hd 4 ns.length) /\ At s (hd 4 ns.length).length (nmsT ns) /\ At s ((hd 4 ns.length).length + (nmsT ns).length) (hd 4 vs.length) /\ At s ((hd 4 ns.length).length + (nmsT ns).length + (hd 4 vs.length).length) (msgs vs) /\
  ns.length <= 100 /\ (∀ n ∈ ns,n.length <= 100) /\ vs.length <= 60 /\ (∀ v ∈ vs,v.wf /\ v.ok = true) /\ s.length <= 60000:=by
 obtain ⟨h1,rfl,h3⟩:=h;unfold dictB at h1;simp only [Bool.and_eq_true,decide_eq_true_eq] at h1;obtain ⟨⟨n,v⟩,hl⟩:=h1;obtain ⟨n1,n2⟩:=zfv n;obtain ⟨v1,v2⟩:=zfu v;have hA:At (dictT ns vs) 0 (hd 4 ns.length ++ nmsT ns ++ hd 4 vs.length ++ msgs vs):=⟨[],by simp [dictT]⟩;have a1:=hA.app.1.app.1.app;have a2:=hA.app.1.app.2;have a3:=hA.app.2;simp only [length_append,Nat.zero_add] at a1 a2 a3;exact ⟨a1.1,a1.2,a2,a3,n1,n2,v1,fun x hx => ⟨h3 x hx,v2 x hx⟩,hl⟩
def DictR (s:L8) (nt:Nat) (live:List Nat) (x:PV) (nt':Nat) (live':List Nat):Prop :=
 ∃ (cs:List PC) (ok:Bool),x = .tup [.ag cs,.d (pB ok)] /\ cs.length = 2 /\ NewL nt nt' cs /\ (∀ t ∈ toksL cs,t ∈ live') /\ (∀ t ∈ live,2 <= t -> t < nt -> t ∈ live') /\ nt <= nt' /\
 ∃ (ns:List (L8)) (vs:List V),erL cs = dC ns vs /\ (ok = true -> Good s ns vs) /\ (ok = false -> ns = [] /\ vs = []) /\ ∀ (ns':List (L8)) (vs':List V),Good s ns' vs' -> ok = true /\ ns' = ns /\ vs' = vs
def d0:List PC:=[.sl 1 [],.sl 1 []]
theorem d0_new (a b:Nat):NewL a b d0:=⟨rfl,nodup_nil,fun t ht => by cases ht⟩
theorem zcE {s:L8} {nt nt':Nat} {live live':List Nat} (h:∀ (ns':List (L8)) (vs':List V),¬ Good s ns' vs') (hl:∀ t ∈ live,2 <= t -> t < nt -> t ∈ live') (hn:nt <= nt'):PV.lw 0 (.tup [.ag d0,.d (pB false)]) /\ DictR s nt live (.tup [.ag d0,.d (pB false)]) nt' live' :=
 ⟨⟨zaC (n:=0) (c:=d0) rfl,trivial,trivial⟩,d0,false,rfl,rfl,d0_new _ _,(fun t ht => by cases ht),hl,hn,[],[],rfl,(fun h => by cases h),fun _ => ⟨rfl,rfl⟩,fun ns' vs' h' => absurd h' (h ns' vs')⟩
theorem getDict_g {s:L8} (hs:s.length <= 2147483647) (nt:Nat) (live:List Nat) (hnt:2 <= nt) :
  FnG (env T hT) 14 [.d (pS s)] [] nt live (fun x _ n' l => x.lw 0 /\ DictR s nt live x n' l):=by
 have hcn:=fun i max (hm:max <= 1000) (hi:i <= s.length) => cnt_fn (T:=T) (hT:=hT) s i max hm hi hs
 refine zaU (zak zgg) (by show 1 <= 63; decide) fun B hB => ?_
 unfold m_s_GetDict;refine mP ?_;refine mQ ?_;refine zac (args:=[.d (pS s),.d (pI (0:Nat)),.d (pI (100:Nat))]) rfl (hcn 0 100 (by decide) (Nat.zero_le _)) ?_;refine mN ?_;refine mM ?_;refine mS ?_
 cases hr:cntOf s 0 100 with
 | none =>
  refine zai rfl rfl rfl ?_;refine mT ?_;refine mQ ?_;refine zao (p:=0) (cs:=d0) rfl rfl rfl rfl rfl rfl ?_;refine mN ?_;refine zaf ⟨.inr rfl,[.ag d0,.d (pB false)],rfl,zcE (fun ns' vs' h => ?_) (fun t ht _ _ => ht) lR⟩;obtain ⟨g1,g2,g3,g4,g5,g6,g7,g8⟩:=h.at;rw [cnt_at (Nat.zero_le _) g5 (by decide) g1] at hr
  cases hr
 | some r =>
 obtain ⟨k1,x1⟩:=r;obtain ⟨q1,q2,q3⟩:=cnt_some hr
 have hc1:∀ ns' vs',Good s ns' vs' -> k1 = ns'.length /\ x1 = (hd 4 ns'.length).length:=fun ns' vs' h => by
  obtain ⟨g1,g2,g3,g4,g5,g6,g7,g8⟩:=h.at
  have:=cnt_at (Nat.zero_le _) g5 (by decide) g1
  rw [hr] at this;simp only [sI,Prod.mk.injEq] at this;omega
 refine zam rfl rfl (decide_eq_false (show ¬ ((x1:Nat):Int) < 0 by omega)) ?_;refine mK ?_;refine mO ?_;(iterate 3 refine mS ?_);refine po_g rfl (FnG.lift0 (names_g (T:=T) (hT:=hT) hs x1 k1 nt live q3 (by omega) hnt) (args:=[.d (pS s),.d (pI x1),.d (pI k1)]) ⟨trivial,trivial,trivial,trivial⟩) ?_;rintro x _ n1 l1 ⟨rfl,t1,ns,next,rfl,ht1,hN1,htl1,hlv1,hn1,hnl,hnb,hnx,hcomp⟩
 have hc2:∀ ns' vs',Good s ns' vs' -> ns' = ns /\ next = (((hd 4 ns'.length).length + (nmsT ns').length:Nat):Int):=fun ns' vs' h => by
  obtain ⟨e1,e2⟩:=hc1 ns' vs' h;obtain ⟨g1,g2,g3,g4,g5,g6,g7,g8⟩:=h.at;obtain ⟨e3,e4⟩:=hcomp ns' (by omega) (fun u hu => Nat.le_trans (g6 u hu) (by decide)) (by rw [e2]; exact g2);exact ⟨e3.symm,by rw [e4,e2]⟩
 refine mN ?_;refine mM ?_;refine mS ?_;refine po_b rfl rfl (fun b hb => ?_);refine zaa ?_;refine zbe (p:=next < 0) hb rfl (fun h3 _ => ?_) (fun h3 _ => ?_)
 ·refine mQ ?_
  refine zao (p:=0) (cs:=d0) rfl rfl rfl rfl rfl rfl ?_;refine mN ?_;exact zaf ⟨.inr rfl,[.ag d0,.d (pB false)],rfl,zcE (fun ns' vs' h => by have:=(hc2 ns' vs' h).2; omega) hlv1 hn1⟩
 obtain ⟨j,rfl,hj⟩:=hnx.resolve_left (by omega);refine zaj ?_;refine mO ?_;(iterate 2 refine mS ?_);refine zac (args:=[.d (pS s),.d (pI j),.d (pI (60:Nat))]) rfl (hcn j 60 (by decide) hj) ?_;refine mN ?_;refine mM ?_;refine mS ?_
 cases hr2:cntOf s j 60 with
 | none =>
  refine zai rfl rfl rfl ?_;refine mT ?_;refine mQ ?_;refine zao (p:=0) (cs:=d0) rfl rfl rfl rfl rfl rfl ?_;refine mN ?_;refine zaf ⟨.inr rfl,[.ag d0,.d (pB false)],rfl,zcE (fun ns' vs' h => ?_) hlv1 hn1⟩;obtain ⟨e1,e2⟩:=hc2 ns' vs' h;obtain ⟨g1,g2,g3,g4,g5,g6,g7,g8⟩:=h.at;rw [show (hd 4 ns'.length).length + (nmsT ns').length = j by omega] at g3;rw [cnt_at hj g7 (by decide) g3] at hr2
  cases hr2
 | some r =>
 obtain ⟨k2,x2⟩:=r;obtain ⟨p1,p2,p3⟩:=cnt_some hr2
 have hc3:∀ ns' vs',Good s ns' vs' -> ns' = ns /\ k2 = vs'.length /\ At s x2 (msgs vs'):=fun ns' vs' h => by
  obtain ⟨e1,e2⟩:=hc2 ns' vs' h;obtain ⟨g1,g2,g3,g4,g5,g6,g7,g8⟩:=h.at;rw [show (hd 4 ns'.length).length + (nmsT ns').length = j by omega] at g3 g4
  have:=cnt_at hj g7 (by decide) g3
  rw [hr2] at this;simp only [sI,Prod.mk.injEq] at this;exact ⟨e1,this.1,by rw [this.2]; exact g4⟩
 refine zam rfl rfl (decide_eq_false (show ¬ ((x2:Nat):Int) < 0 by omega)) ?_;refine mK ?_;refine mO ?_;(iterate 3 refine mS ?_);refine po_g rfl (FnG.lift0 (table_g (T:=T) (hT:=hT) hs x2 k2 n1 l1 p3 (by omega) (by omega)) (args:=[.d (pS s),.d (pI x2),.d (pI k2)]) ⟨trivial,trivial,trivial,trivial⟩) ?_;rintro x _ n2 l2 ⟨rfl,t2,rows,vs,next2,rfl,ht2,hrows,hown2,hge2,hlv2,hn2,hvl,hvb,hnx2,hcomp2⟩
 have hc4:∀ ns' vs',Good s ns' vs' -> ns' = ns /\ vs' = vs /\ 0 <= next2:=fun ns' vs' h => by
  obtain ⟨e1,e2,e3⟩:=hc3 ns' vs' h;obtain ⟨g1,g2,g3,g4,g5,g6,g7,g8,_⟩:=h.at;obtain ⟨e4,e5⟩:=hcomp2 vs' e2.symm g8 e3;exact ⟨e1,e4.symm,by omega⟩
 refine mN ?_;refine mO ?_;(iterate 2 refine mS ?_);refine mS ?_;have hlen2:[PC.sl t1 (pSr ns),.sl t2 rows].length = 2:=rfl;refine zb5 (cs:=[.sl t1 (pSr ns),.sl t2 rows]) rfl hlen2 rfl rfl ?_;refine zaa ?_
 have her:erL [PC.sl t1 (pSr ns),.sl t2 rows] = dC ns vs:=by
  show [PC.sl 0 (erLL (pSr ns)),.sl 0 (erLL rows)] = _;rw [zf0,hrows]; rfl
 have hDS:DSm ns vs:=⟨by omega,fun n hn => Nat.le_trans (hnb n hn) (by omega),by omega,fun v hv => (hvb v hv).1,fun v hv => Nat.le_trans (V.ok_bulk (hvb v hv).2) (by decide)⟩;have hok:=dictOk_fn (T:=T) (hT:=hT) ns vs hDS;have hpd:=zeT (T:=T) (hT:=hT) ns vs hDS;refine zah ?_
 obtain ⟨f,hf⟩:∃ f:Bool,f = true ↔ ¬ (0 <= next2 /\ Good s ns vs):=by
  by_cases h:0 <= next2 /\ Good s ns vs
  ·exact ⟨false,by simp only [h]; decide⟩
  ·exact ⟨true,by simp only [h,not_false_iff]⟩
 refine zau (fun st => has st.tm [(2,.ref 0 0),(10,.ref 1 0),(60,.d (pB f))] /\ st.bx = [d0,[PC.sl t1 (pSr ns),.sl t2 rows]] /\ st.nt = n2 /\ st.live = l2) ?_ ?_
 ·refine zad ?_
  refine mS ?_;by_cases h4:next2 < 0
  ·have hft:f = true:=hf.2 (by omega)
   subst hft;refine zai rfl rfl (decide_eq_true h4) ?_;refine mS ?_;refine mZ ?_;(iterate 2 refine mS ?_);refine mZ ?_;refine mN ?_;exact ⟨⟨rfl,rfl,rfl,trivial⟩,rfl,rfl,rfl⟩
  refine zam rfl rfl (decide_eq_false h4) ?_;refine mS ?_;refine za1 (p:=1) (cs:=[.sl t1 (pSr ns),.sl t2 rows]) rfl rfl rfl hlen2 ?_;refine zaI (b:=true) (args:=[.ag (dC ns vs)]) rfl (fun _ => zf3 her) (fun _ => hok) ?_;(iterate 3 refine mS ?_)
  cases hdb:dictB ns vs with
  | false =>
   have hft:f = true:=hf.2 (fun h => by have:=h.2.1; rw [hdb] at this; cases this);subst hft;refine mZ ?_;refine mN ?_
   exact ⟨⟨rfl,rfl,rfl,trivial⟩,rfl,rfl,rfl⟩
  | true =>
  refine za1 (p:=1) (cs:=[.sl t1 (pSr ns),.sl t2 rows]) rfl rfl rfl hlen2 ?_;refine zaI (b:=true) (args:=[.ag (dC ns vs)]) rfl (fun _ => zf3 her) (fun _ => hpd) ?_;refine mS ?_;refine po_ne (la:=dictP ns vs) (lb:=s) rfl rfl rfl ?_;refine mN ?_
  have hp:dictP ns vs = dictT ns vs:=by
   unfold dictP; unfold dictB at hdb
   rw [if_pos (by simp only [Bool.and_eq_true] at hdb ⊢; exact hdb.1)]
  have:decide (dictP ns vs ≠ s) = f:=by
   rw [Bool.eq_iff_iff,decide_eq_true_iff,hf,hp]
   constructor
   ·intro h1 h2; exact h1 h2.2.2.1
   ·intro h1 h2; exact h1 ⟨by omega,hdb,h2,fun v hv => (hvb v hv).1⟩
  exact ⟨⟨rfl,rfl,by rw [<- this]; rfl,trivial⟩,rfl,rfl,rfl⟩
 rintro tm bx n3 l3 ⟨ht,hbx,hnn,hll⟩;obtain ⟨tm0,rfl⟩:=zae ht;simp only at hbx hnn hll
 subst hbx; subst hnn; subst hll
 clear ht;refine zaO (t:=f) rfl (fun hc => ?_) (fun hc => ?_)
 ·refine mQ ?_
  refine zao (p:=0) (cs:=d0) rfl rfl rfl rfl rfl rfl ?_;refine mN ?_;refine zaf ⟨.inr rfl,[.ag d0,.d (pB false)],rfl,zcE (fun ns' vs' h => ?_) (fun t ht h22 hlt => hlv2 t (hlv1 t ht h22 hlt) h22 (by omega)) (Nat.le_trans hn1 hn2)⟩;obtain ⟨e1,e2,e3⟩:=hc4 ns' vs' h
  subst e1; subst e2
  exact hf.1 hc ⟨e3,h⟩
 ·have hgood:0 <= next2 /\ Good s ns vs:=Classical.byContradiction fun h => by rw [hf.2 h] at hc; cases hc
  refine zaj ?_;refine mO ?_;refine za1 (p:=1) (cs:=[.sl t1 (pSr ns),.sl t2 rows]) rfl rfl rfl hlen2 ?_;refine zao (p:=0) (cs:=[.sl t1 (pSr ns),.sl t2 rows]) rfl rfl rfl hlen2 rfl rfl ?_;refine mN ?_;have hk1:toksL [PC.sl t1 (pSr ns),.sl t2 rows] = toksL [PC.sl t1 (pSr ns)] ++ toksL [PC.sl t2 rows]:=by simp only [toksL,append_nil]
  have hown:NewL nt n3 [PC.sl t1 (pSr ns),.sl t2 rows]:=by
   refine ⟨?_,?_,fun t ht => ?_⟩
   ·have a:=hN1.own; have b:=hown2.own
    simp only [nil_append,ownedL,Bool.and_true] at a b;simp only [ownedL,a,b,Bool.and_true]
   ·rw [hk1,nodup_append]
    refine ⟨hN1.nd,hown2.nd,fun a ha b hb e => ?_⟩
    have:=(hN1.mem a ha).2; have:=hge2 b hb; omega
   ·rw [hk1,mem_append] at ht
    rcases ht with ht | ht
    ·have:=hN1.mem t ht; omega
    ·have:=hge2 t ht; have:=(hown2.mem t ht).2; omega
  refine zaf ⟨.inr rfl,[.ag [.sl t1 (pSr ns),.sl t2 rows],.d (pB true)],zbg rfl rfl hlen2 rfl,⟨zaC hown.own,trivial,trivial⟩,_,true,rfl,rfl,hown,fun t ht => ?_,(fun t ht h22 hlt => hlv2 t (hlv1 t ht h22 hlt) h22 (by omega)),Nat.le_trans hn1 hn2,ns,vs,her,fun _ => hgood.2,(fun h => by cases h),fun ns' vs' h => ?_⟩
  ·rw [hk1,mem_append] at ht
   rcases ht with ht | ht
   ·have:t = t1:=by
     have h0:t ∈ PC.toks (.sl t1 (pSr ns)) ++ []:=ht;rw [zaF ht1,pSr_tok] at h0;simpa using h0
    subst this;exact hlv2 t htl1 ht1 (hN1.mem t ht).2
   ·exact (hown2.mem t ht).1
  ·obtain ⟨e1,e2,e3⟩:=hc4 ns' vs' h
   exact ⟨rfl,e1,e2⟩
end
section
def decOn (u:Nat) (l:L8):L8:=if u = 0 then l else Lib.decDigits u ++ l
theorem zeZ {u:Nat} (h:u ≠ 0) (l:L8):decOn (u / 10) (UInt8.ofNat (48 + u % 10) :: l) = decOn u l:=by
 unfold decOn;rw [if_neg h];by_cases h1:u < 10
 ·rw [if_pos (by omega),Lib.decDigits_one h1,Nat.mod_eq_of_lt h1]; rfl
 ·rw [if_neg (by omega)]
  conv => rhs; rw [Lib.decDigits,dif_neg h1]
  simp
def digs:L8:=[48,49,50,51,52,53,54,55,56,57]
theorem digs_piece:∀ d:Fin 10,(digs.drop d.val).take 1 = [UInt8.ofNat (48 + d.val)]:=by decide
theorem digs_at {d:Nat} (h:d < 10):(([48,49,50,51,52,53,54,55,56,57]:L8).drop d).take 1 = [UInt8.ofNat (48 + d)]:=digs_piece ⟨d,h⟩
theorem tdivAbs (m:Int):(Int.tdiv m 10).natAbs = m.natAbs / 10:=by rw [Int.natAbs_tdiv]; rfl
theorem tmodAbs (m:Int):(Int.tmod m 10).natAbs = m.natAbs % 10:=by rw [Int.natAbs_tmod]; rfl
theorem zct {u:Nat} (h:u <= 9223372036854775808):(Lib.decDigits u).length <= 20:=by rw [Lib.decDigits_length]; exact Lib.nDigits_le20 u (by omega)
end
section
def m_i_GetDict:M:=so [qo 2 (.zero [.slice none 0 0,.slice none 0 0]),qo 3 (.mv (cB false))] (.seq (so [qm 14 0,qo 15 (.lens 14),qo 16 (.bin .gtr false 15 (ci 60000))] (.cond 16 (so [qo 17 (.build [.slice none 0 0,.slice none 0 0] []),qS 2 2 17,qo 3 (.mv (cB false))] .ret) .skip)) (so [qo 18 (.build [.slice none 0 0,.slice none 0 0] []),qo 4 (.zero [.slice none 0 0,.slice none 0 0]),qS 2 4 18] (so [qm 19 0,⟨some 20,.build [.string ⟨[].toArray⟩,.int .i64 0,.bool false,.int .i64 0,.bool false] [(0,1,19)],none,[]⟩,qo 21 (.box 20),qm 5 21] (so [qm 23 5,qc 24 65 [23] 1,qm 22 24,qe 25 22 0,qe 26 22 1,qm 6 25,qm 7 26] (.seq (.block 0 (.loop (.seq (so [qm 27 7,qo 28 (.bin .gtr false 27 (.c (.int .u64 0))),qm 29 28,qg 30 5 29 true,⟨some 31,.nilc 30,some (29,true),[]⟩,⟨some 32,.fld 4 31,some (29,true),[]⟩,⟨some 33,.load false 1 32,some (29,true),[]⟩,⟨some 34,.not 33,some (29,true),[]⟩,qo 35 (.pick 29 34 (cB false))] (.cond 35 .skip (.exit 0))) (.seq (.block 1 (so [qm 39 5,qc 40 65 [39] 1,qm 38 40,qe 41 38 0,qe 42 38 1,qm 8 41,qm 9 42] (.ops [qF 43 0 4,ql 44 1 43,qm 45 5,qm 46 9,⟨some 47,.call 66 [45,46],none,[.f 0,43]⟩,qo 48 (.litq 1 [47]),⟨some 49,.app 1 44 48,none,[.f 0]⟩,qF 50 0 4,qS 1 50 49]))) (.ops [qm 36 7,qo 37 (.bin .sub false 36 (.c (.int .u64 1))),qm 7 37]))))) (so [qm 52 5,qc 53 65 [52] 1,qm 51 53,qe 54 51 0,qe 55 51 1,qm 10 54,qm 11 55] (.seq (.block 2 (.loop (.seq (so [qm 56 11,qo 57 (.bin .gtr false 56 (.c (.int .u64 0))),qm 58 57,qg 59 5 58 true,⟨some 60,.nilc 59,some (58,true),[]⟩,⟨some 61,.fld 4 60,some (58,true),[]⟩,⟨some 62,.load false 1 61,some (58,true),[]⟩,⟨some 63,.not 62,some (58,true),[]⟩,qo 64 (.pick 58 63 (cB false))] (.cond 64 .skip (.exit 2))) (.seq (.block 3 (so [qm 68 0,qm 69 5,qo 70 (.nilc 69),qF 71 1 70,ql 72 1 71,qc 73 67 [68,72] 1,qm 67 73,qe 74 67 0,qe 75 67 1,⟨some 12,.zero [.int .i64 0,.int .i64 0,.int .i64 0,.string ⟨[].toArray⟩,.slice none 0 0],none,[]⟩,qS 5 12 74,qm 13 75] (.seq (so [qm 76 13,qo 77 (.bin .lss false 76 (ci 0))] (.cond 77 (so [qm 78 5,qo 79 (.nilc 78),qF 80 4 79,⟨none,.store 1 80 (cB true),none,[]⟩] (.exit 2)) .skip)) (so [qF 81 1 4,ql 82 1 81,qL 83 5 12,qo 84 (.lit 5 [83]),⟨some 85,.app 5 82 84,none,[.f 1]⟩,qF 86 1 4,qS 1 86 85] (.ops [qm 87 5,qm 88 13,qo 89 (.nilc 87),qF 90 1 89,qS 1 90 88]))))) (.ops [qm 65 11,qo 66 (.bin .sub false 65 (.c (.int .u64 1))),qm 11 66]))))) (.seq (so [qm 91 5,qo 92 (.nilc 91),qF 93 4 92,ql 94 1 93,qm 95 94,⟨some 96,.load true 2 4,some (95,false),[]⟩,⟨some 97,.call 68 [96],some (95,false),[.f 1]⟩,⟨some 98,.not 97,some (95,false),[]⟩,qo 99 (.pick 95 (cB true) 98),qm 100 99,⟨some 101,.load true 2 4,some (100,false),[]⟩,⟨some 102,.call 69 [101],some (100,false),[.f 1]⟩,qg 103 0 100 false,⟨some 104,.bin .neq false 102 103,some (100,false),[]⟩,qo 105 (.pick 100 (cB true) 104)] (.cond 105 (so [qo 106 (.build [.slice none 0 0,.slice none 0 0] []),qS 2 2 106,qo 3 (.mv (cB false))] .ret) .skip)) (so [qL 107 2 4,qS 2 2 107,qo 3 (.mv (cB true))] .ret)))))))))
theorem zgs:look Tryz.prog 15 = some (108,m_i_GetDict,[.cell true 2 2,.tm 3]):=by kernel_rfl
def m_i_decoder_head:M:=so [qo 2 (.mv (ci 0)),qo 3 (.mv (.c (.int .u64 0)))] (so [qo 4 (.mv (.f 124))] (.seq (so [qm 8 0,qo 9 (.nilc 8),qF 10 2 9,ql 11 1 10] (.cond 11 (.ops [qo 4 (.mv (.f 125))]) .skip)) (so [qm 13 4,qm 14 0,qo 15 (.nilc 14),qF 16 0 15,ql 17 1 16,qm 18 0,qo 19 (.nilc 18),qF 20 1 19,ql 21 1 20,⟨some 22,.callv 13 [17,21],none,[.f 0]⟩,qm 12 22,qe 23 12 0,qe 24 12 1,qe 25 12 2,qm 5 23,qm 6 24,qm 7 25] (.seq (so [qm 26 0,qo 27 (.nilc 26),qF 28 4 27,ql 29 1 28,qm 30 29,qg 31 7 30 false,⟨some 32,.bin .lss false 31 (ci 0),some (30,false),[]⟩,qo 33 (.pick 30 (cB true) 32)] (.cond 33 (so [qm 34 0,qo 35 (.nilc 34),qF 36 4 35,⟨none,.store 1 36 (cB true),none,[]⟩] (so [qo 2 (.mv (ci (-1))),qo 3 (.mv (.c (.int .u64 0)))] .ret)) .skip)) (so [qm 37 0,qm 38 7,qo 39 (.nilc 37),qF 40 1 39,qS 1 40 38] (so [qm 41 5,qm 42 6,qm 2 41,qm 3 42] .ret))))))
theorem zdv:look Tryz.prog 65 = some (43,m_i_decoder_head,[.tm 2,.tm 3]):=by kernel_rfl
def m_i_decoder_bytes:M:=so [⟨some 4,.mv (.c (.string ⟨[].toArray⟩)),none,[]⟩] (.seq (so [qm 6 0,qo 7 (.nilc 6),qF 8 4 7,ql 9 1 8,qm 10 9,qg 11 1 10 false,qg 12 0 10 false,⟨some 13,.nilc 12,some (10,false),[]⟩,⟨some 14,.fld 0 13,some (10,false),[]⟩,⟨some 15,.load false 1 14,some (10,false),[]⟩,⟨some 16,.lens 15,some (10,false),[]⟩,qg 17 0 10 false,⟨some 18,.nilc 17,some (10,false),[]⟩,⟨some 19,.fld 1 18,some (10,false),[]⟩,⟨some 20,.load false 1 19,some (10,false),[]⟩,⟨some 21,.bin .sub false 16 20,some (10,false),[]⟩,⟨some 22,.conv .u64 21,some (10,false),[]⟩,⟨some 23,.bin .gtr false 11 22,some (10,false),[]⟩,qo 24 (.pick 10 (cB true) 23)] (.cond 24 (so [qm 25 0,qo 26 (.nilc 25),qF 27 4 26,⟨none,.store 1 27 (cB true),none,[]⟩] (so [⟨some 4,.mv (.c (.string ⟨[].toArray⟩)),none,[]⟩] .ret)) .skip)) (so [qm 28 0,qo 29 (.nilc 28),qF 30 1 29,ql 31 1 30,qm 5 31] (so [qm 32 0,qo 33 (.nilc 32),qF 34 1 33,ql 35 1 34,qm 36 1,qo 37 (.conv .i64 36),qo 38 (.bin .add false 35 37),qo 39 (.nilc 32),qF 40 1 39,qS 1 40 38] (so [qm 41 0,qo 42 (.nilc 41),qF 43 0 42,ql 44 1 43,qm 45 5,qm 46 0,qo 47 (.nilc 46),qF 48 1 47,ql 49 1 48,qo 50 (.slcs 44 (some 45) (some 49)),qm 4 50] .ret))))
theorem zdh:look Tryz.prog 66 = some (51,m_i_decoder_bytes,[.tm 4]):=by kernel_rfl
def m_i_DictOk:M:=so [qo 1 (.box 0),qo 2 (.mv (cB false))] (so [qF 3 0 1,ql 4 1 3,qc 5 129 [4] 1,qm 6 5,⟨some 7,.fld 1 1,some (6,true),[]⟩,⟨some 8,.load false 1 7,some (6,true),[]⟩,⟨some 9,.call 130 [8],some (6,true),[.f 1]⟩,qo 10 (.pick 6 9 (cB false)),qm 11 10,⟨some 12,.load true 2 1,some (11,true),[]⟩,⟨some 13,.call 69 [12],some (11,true),[.f 1]⟩,⟨some 14,.lens 13,some (11,true),[]⟩,⟨some 15,.bin .leq false 14 (ci 60000),some (11,true),[]⟩,qo 16 (.pick 11 15 (cB false)),qm 2 16] .ret)
theorem zhu:look Tryz.prog 68 = some (17,m_i_DictOk,[.tm 2]):=by kernel_rfl
def m_i_putDict:M:=so [qo 1 (.box 0),⟨some 2,.mv (.c (.string ⟨[].toArray⟩)),none,[]⟩] (so [qo 3 (.zbld 152 5)] (so [qF 8 0 1,ql 9 1 8,qo 10 (.len 9),qo 11 (.conv .u64 10),qc 12 132 [ci 4,11] 1,qc 13 131 [3,12] 1] (.seq (so [qF 14 0 1,ql 15 1 14,qo 16 (.len 15),qo 17 (.mv (ci 0))] (.block 0 (.loop (so [qo 18 (.bin .lss false 17 16)] (.seq (.cond 18 .skip (.exit 0)) (.seq (.block 1 (so [qo 19 (.ix 1 15 17),ql 20 1 19,qm 5 20] (.ops [qm 21 5,qo 22 (.lens 21),qo 23 (.conv .u64 22),qc 24 132 [ci 3,23] 1,qm 25 5,qo 26 (.bin .add false 24 25),qc 27 131 [3,26] 1]))) (.ops [qo 28 (.bin .add false 17 (ci 1)),qm 17 28]))))))) (so [qF 29 1 1,ql 30 1 29,qo 31 (.len 30),qo 32 (.conv .u64 31),qc 33 132 [ci 4,32] 1,qc 34 131 [3,33] 1] (.seq (so [qF 35 1 1,ql 36 1 35,qo 37 (.len 36),qo 38 (.mv (ci 0))] (.block 2 (.loop (so [qo 39 (.bin .lss false 38 37)] (.seq (.cond 39 .skip (.exit 2)) (.seq (.block 3 (so [qo 40 (.ix 5 36 38),qL 41 5 40,⟨some 7,.zero [.int .i64 0,.int .i64 0,.int .i64 0,.string ⟨[].toArray⟩,.slice none 0 0],none,[]⟩,qS 5 7 41] (.ops [qL 42 5 7,qc 43 133 [3,42] 1]))) (.ops [qo 44 (.bin .add false 38 (ci 1)),qm 38 44]))))))) (so [qc 45 134 [3] 1,qm 2 45] .ret))))))
theorem zgt:look Tryz.prog 69 = some (46,m_i_putDict,[.tm 2]):=by kernel_rfl
def m_i_NamesOk:M:=so [qo 2 (.mv (cB false))] (.seq (so [qm 5 0,qo 6 (.len 5),qo 7 (.mv (ci 0))] (.block 0 (.loop (so [qo 8 (.bin .lss false 7 6)] (.seq (.cond 8 .skip (.exit 0)) (.seq (.block 1 (so [qm 9 7,qo 10 (.ix 1 5 7),ql 11 1 10,qm 3 9,qm 4 11] (so [qm 12 4,qo 13 (.lens 12),qo 14 (.bin .gtr false 13 (ci 100)),qm 15 14,qg 16 4 15 false,⟨some 17,.call 172 [16],some (15,false),[.f 1]⟩,⟨some 18,.not 17,some (15,false),[]⟩,qo 19 (.pick 15 (cB true) 18),qm 20 19,qg 21 3 20 false,⟨some 22,.bin .geq false 21 (ci 100),some (20,false),[]⟩,qo 23 (.pick 20 (cB true) 22),qm 24 23,qg 25 0 24 false,qg 26 3 24 false,⟨some 27,.slc 1 25 none (some 26),some (24,false),[]⟩,qg 28 4 24 false,⟨some 29,.call 173 [27,28],some (24,false),[.f 1]⟩,qo 30 (.pick 24 (cB true) 29)] (.cond 30 (so [qo 2 (.mv (cB false))] .ret) .skip)))) (.ops [qo 31 (.bin .add false 7 (ci 1)),qm 7 31]))))))) (so [qo 2 (.mv (cB true))] .ret))
theorem zgu:look Tryz.prog 129 = some (32,m_i_NamesOk,[.tm 2]):=by kernel_rfl
def m_i_TableOk:M:=so [qo 2 (.mv (cB false))] (.seq (so [qm 6 0,qo 7 (.len 6),qo 8 (.bin .gtr false 7 (ci 60))] (.cond 8 (so [qo 2 (.mv (cB false))] .ret) .skip)) (.seq (so [qm 9 0,qo 10 (.len 9),qo 11 (.mv (ci 0))] (.block 0 (.loop (so [qo 12 (.bin .lss false 11 10)] (.seq (.cond 12 .skip (.exit 0)) (.seq (.block 1 (so [qm 13 11,qo 14 (.ix 5 9 11),qL 15 5 14,qo 3 (.zero [.int .i64 0]),⟨some 4,.zero [.int .i64 0,.int .i64 0,.int .i64 0,.string ⟨[].toArray⟩,.slice none 0 0],none,[]⟩,qS 1 3 13,qS 5 4 15] (.seq (so [qL 16 5 4,qc 17 87 [16] 1,qo 18 (.not 17)] (.cond 18 (so [qo 2 (.mv (cB false))] .ret) .skip)) (so [qo 5 (.zero [.bool false]),⟨none,.store 1 5 (cB true),none,[]⟩] (so [qL 19 5 4,qo 20 (.mkfn 175 [5,3]),qc 21 174 [19,20] 1] (so [ql 22 1 5,qo 23 (.not 22)] (.cond 23 (so [qo 2 (.mv (cB false))] .ret) .skip))))))) (.ops [qo 24 (.bin .add false 11 (ci 1)),qm 11 24]))))))) (so [qo 2 (.mv (cB true))] .ret)))
theorem zgv:look Tryz.prog 130 = some (25,m_i_TableOk,[.tm 2]):=by kernel_rfl
def m_slices_Contains_impl_Names_string:M:=so [qo 4 (.mv (cB false))] (so [qm 5 0,qm 6 1,qc 7 216 [5,6] 1,qo 8 (.bin .geq false 7 (ci 0)),qm 4 8] .ret)
theorem zbc:look Tryz.prog 173 = some (9,m_slices_Contains_impl_Names_string,[.tm 4]):=by kernel_rfl
def m_i_walk:M:=so [qo 2 (.box 0)] (so [qm 6 1,qL 7 5 2,⟨some 8,.callv 6 [7],none,[.f 1]⟩] (so [qF 9 4 2,ql 10 1 9,qo 11 (.len 10),qo 12 (.mv (ci 0))] (.block 0 (.loop (so [qo 13 (.bin .lss false 12 11)] (.seq (.cond 13 .skip (.exit 0)) (.seq (.block 1 (so [qo 14 (.ix 5 10 12),qL 15 5 14,⟨some 5,.zero [.int .i64 0,.int .i64 0,.int .i64 0,.string ⟨[].toArray⟩,.slice none 0 0],none,[]⟩,qS 5 5 15] (.ops [qL 16 5 5,qm 17 1,qc 18 174 [16,17] 1]))) (.ops [qo 19 (.bin .add false 12 (ci 1)),qm 12 19]))))))))
theorem lk_i_walk:look Tryz.prog 174 = some (20,m_i_walk,[]):=by kernel_rfl
def m_i_TableOk_1:M:=so [qo 3 (.box 0)] (so [qF 4 0 3,ql 5 1 4,qo 6 (.bin .eql false 5 (ci 9)),qm 7 6,⟨some 8,.fld 1 3,some (7,true),[]⟩,⟨some 9,.load false 1 8,some (7,true),[]⟩,⟨some 10,.bin .eql false 9 (ci 6),some (7,true),[]⟩,qo 11 (.pick 7 10 (cB false))] (.cond 11 (.ops [ql 12 1 1,qm 13 12,⟨some 14,.load true 5 3,some (13,true),[]⟩,⟨some 15,.call 176 [14],some (13,true),[.f 0]⟩,qo 16 (.pick 13 15 (cB false)),qm 17 16,⟨some 18,.fld 4 3,some (17,true),[]⟩,⟨some 19,.load false 1 18,some (17,true),[]⟩,⟨some 20,.ix 5 19 (ci 0),some (17,true),[]⟩,⟨some 21,.fld 1 20,some (17,true),[]⟩,⟨some 22,.load false 1 21,some (17,true),[]⟩,⟨some 23,.load false 1 2,some (17,true),[]⟩,⟨some 24,.bin .lss false 22 23,some (17,true),[]⟩,qo 25 (.pick 17 24 (cB false)),qS 1 1 25]) .skip))
theorem zeD:look Tryz.prog 175 = some (26,m_i_TableOk_1,[]):=by kernel_rfl
def m_i_isRef:M:=so [qo 1 (.box 0),qo 2 (.mv (cB false))] (so [qF 3 4 1,ql 4 1 3,qo 5 (.ix 5 4 (ci 0)),qF 6 0 5,ql 7 1 6,qo 8 (.bin .eql false 7 (ci 3)),qm 9 8,⟨some 10,.fld 4 1,some (9,true),[]⟩,⟨some 11,.load false 1 10,some (9,true),[]⟩,⟨some 12,.ix 5 11 (ci 0),some (9,true),[]⟩,⟨some 13,.fld 1 12,some (9,true),[]⟩,⟨some 14,.load false 1 13,some (9,true),[]⟩,⟨some 15,.bin .geq false 14 (ci 0),some (9,true),[]⟩,qo 16 (.pick 9 15 (cB false)),qm 2 16] .ret)
theorem lk_i_isRef:look Tryz.prog 176 = some (17,m_i_isRef,[.tm 2]):=by kernel_rfl
def m_slices_Index_impl_Names_string:M:=so [qo 4 (.mv (ci 0))] (.seq (so [qm 6 0,qo 7 (.len 6),qo 8 (.mv (ci 0))] (.block 0 (.loop (so [qo 9 (.bin .lss false 8 7)] (.seq (.cond 9 .skip (.exit 0)) (.seq (.block 1 (so [qm 10 8,qm 5 10] (so [qm 11 1,qm 12 0,qm 13 5,qo 14 (.ix 1 12 13),ql 15 1 14,qo 16 (.bin .eql false 11 15)] (.cond 16 (so [qm 17 5,qm 4 17] .ret) .skip)))) (.ops [qo 18 (.bin .add false 8 (ci 1)),qm 8 18]))))))) (so [qo 4 (.mv (ci (-1)))] .ret))
theorem zbk:look Tryz.prog 216 = some (19,m_slices_Index_impl_Names_string,[.tm 4]):=by kernel_rfl
end
section
end
section
end
section
def VEqA (n:Nat):Prop:=∀ (x y:V) (cs ds:List Value) (w:World),x.nodes <= n -> Rd w x.d cs -> Rd w y.d ds -> x.bulk <= 1048576 -> y.bulk <= 1048576 ->
 Calls Tryz.prog 25 #[.agg cs.toArray,.agg ds.toArray] w fun e w' => e = .returned (.bool (decide (x = y))) /\ Below w.heap.size w w'
def VEqB (n:Nat):Prop:=∀ (x y:List V) (va vb:Value) (w:World),V.nodess x <= n -> Rd w (.sl 5 (V.ds x)) [va] -> Rd w (.sl 5 (V.ds y)) [vb] -> x.length + V.bulks x <= 1048576 -> y.length + V.bulks y <= 1048576 ->
 Calls Tryz.prog 94 #[va,vb] w fun e w' => e = .returned (.bool (decide (x = y))) /\ Below w.heap.size w w'
theorem V.bulk_get {ls:List V} {m:Nat} (h:ls.length + V.bulks ls <= m) (k:Nat) (hk:k < ls.length):ls[k].bulk <= m:=by
 have h1:=V.bulks_snoc ls k hk; have h2:=V.bulks_take ls (k + 1); omega
theorem VEqB_of {n:Nat} (hA:VEqA n):VEqB n:=by
 intro la lb va vb w hn h h2 hla hlb;obtain ⟨a,c,rfl,hg⟩:=h.values;obtain ⟨a',c',rfl,hg'⟩:=h2.values;by_cases hlen:la.length = lb.length
 ·have hlt:((la.length:Int) != (lb.length:Int)) = false:=by simp [hlen]
  have HL:=Lib.hid hlen; clear hlen
  go_enter Tryz.func94,Tryz.ntmps94
  go_wp2
  go_loopw [5] (fun i wr => ∃ (k:Nat),k <= la.length /\ i = .int .i64 k /\ la.take k = lb.take k /\ Below w.heap.size w wr) (fun i _ => la.length - (intOf i).toNat)
  case atStart => exact ⟨0,Nat.zero_le _,rfl,by simp,Below.refl _ _⟩
  case round =>
   obtain ⟨k,hk,rfl,htk,hbel⟩:=hrel;have HT:=Lib.hid htk; clear htk
   by_cases hk1:k < la.length
   ·have hk2:k < lb.length:=by have:=HL.out; omega
    obtain ⟨_,_,b,o,rfl,hb,hcell⟩:=hg (by intro e; rw [e] at hk1; simp at hk1);obtain ⟨_,_,b',o',rfl,hb',hcell'⟩:=hg' (by intro e; rw [e] at hk2; simp at hk2);obtain ⟨v0,v1,v2,v3,v4,hr,c0,c1,c2,c3,c4⟩:=hcell k hk1;obtain ⟨x0,x1,x2,x3,x4,hs,d0,d1,d2,d3,d4⟩:=hcell' k hk2;clear hcell hcell' hg hg';obtain ⟨hbc,_⟩:=zaY hbel;have hi1:(0:Int) <= k:=by omega
    have hi2:(k:Int) < lb.length:=by omega
    have hnk:=Nat.le_trans (V.nodes_get la k hk1) hn;have hr':=hr.below hbel;have hs':=hs.below hbel;by_cases he:la[k] = lb[k]
    ·have hd:=Lib.hid (decide_eq_true he)
     have HE:=Lib.hid he;clear he
     go_wp2_with fail
     go_still_tail 8,(by kernel_rfl)
     go_wp2_with (go_at_call 25; refine (hA _ _ _ _ _ hnk hr'.drew hs'.drew (V.bulk_get hla k hk1) (V.bulk_get hlb k hk2)).mono ?_; rw [hd.out]; rintro e w1 ⟨rfl,hb1⟩)
     go_roundw
     case rel => exact ⟨k + 1,by omega,by go_num,zdE HT.out hk1 hk2 HE.out,zan hbel.drew hb1 lR⟩
     case measure => simp [intOf] <;> omega
    ·have hd:=Lib.hid (decide_eq_false he)
     have HE:=Lib.hid (decide_eq_false (zfX hk1 hk2 he));clear he
     go_wp2_with fail
     go_still_tail 8,(by kernel_rfl)
     go_wp2_with (go_at_call 25; refine (hA _ _ _ _ _ hnk hr'.drew hs'.drew (V.bulk_get hla k hk1) (V.bulk_get hlb k hk2)).mono ?_; rw [hd.out]; rintro e w1 ⟨rfl,hb1⟩)
     go_ret;exact ⟨by rw [HE.out]; rfl,zan hbel.drew hb1 lR⟩
   ·obtain rfl:k = la.length:=by omega
    have he:la = lb:=by have:=HT.out; rw [take_length,HL.out,take_length] at this; exact this
    have H:=Lib.hid (decide_eq_true he);clear he;go_wp2;go_ret;exact ⟨by rw [H.out]; rfl,hbel⟩
 ·have H:=Lib.hid (decide_eq_false (show ¬ la = lb from fun e => hlen (by rw [e])))
  go_enter Tryz.func94,Tryz.ntmps94
  go_wp2;go_ret;exact ⟨by rw [H.out]; rfl,Below.refl _ _⟩
theorem V.ne_mk {k m e k' m' e':Int} {s s':L8} {kids kids':List V} (h:¬ (k = k' /\ m = m' /\ e = e' /\ s = s' /\ kids = kids')) :
  decide (V.mk k m e s kids = V.mk k' m' e' s' kids') = false:=decide_eq_false (by simpa using h)
theorem VEqA_of {n:Nat} (hB:VEqB n):VEqA (n + 1):=by
 intro x y cs ds w hn h h2 hx hy;obtain ⟨k,m,e,s,kids,v1,rfl,rfl,hkids⟩:=V.lay h;obtain ⟨k',m',e',s',kids',v1',rfl,rfl,hkids'⟩:=V.lay h2;have hnk:V.nodess kids <= n:=by simp only [V.nodes] at hn; omega
 simp only [V.bulk] at hx hy;have hA:=fun a b => ((Below.refl w.heap.size w).alloc lR a).alloc (by simp) b
 by_cases e1:k = k' /\ m = m' /\ e = e' /\ s = s'
 ·obtain ⟨rfl,rfl,rfl,rfl⟩:=e1
  go_enter Tryz.func25,Tryz.ntmps25
  go_wp2_with fail
  refine (hB _ _ _ _ _ hnk ((hkids.alloc _).alloc _) ((hkids'.alloc _).alloc _) (by omega) (by omega)).mono ?_;by_cases e4:kids = kids'
  ·subst e4
   rw [decide_eq_true rfl];rintro e w2 ⟨rfl,hb2⟩;go_wp2;go_ret;exact ⟨by simp,zan (hA _ _) hb2 lR⟩
  ·have H:=Lib.hid (V.ne_mk (k:=k) (m:=m) (e:=e) (s:=s) (kids:=kids) (k':=k) (m':=m) (e':=e) (s':=s) (kids':=kids') (by simp [e4]))
   rw [decide_eq_false e4];rintro e w2 ⟨rfl,hb2⟩;clear e4;go_wp2;go_ret;exact ⟨by rw [H.out]; rfl,zan (hA _ _) hb2 lR⟩
 ·have H:=Lib.hid (V.ne_mk (k:=k) (m:=m) (e:=e) (s:=s) (kids:=kids) (k':=k') (m':=m') (e':=e') (s':=s') (kids':=kids') (by simp only [not_and] at e1 ⊢; intro a b c d; exact absurd d (e1 a b c)))
  by_cases a1:k = k'
  ·subst a1
   by_cases a2:m = m'
   ·subst a2
    by_cases a3:e = e'
    ·subst a3
     have a4:(s == s') = false:=by simp only [true_and] at e1; simpa using e1
     clear e1
     go_enter Tryz.func25,Tryz.ntmps25
     go_wp2_with fail
     all_goals (go_ret; exact ⟨by rw [H.out]; rfl,hA _ _⟩)
    ·have a4:(e == e') = false:=by simpa using a3
     clear e1 a3
     go_enter Tryz.func25,Tryz.ntmps25
     go_wp2_with fail
     all_goals (go_ret; exact ⟨by rw [H.out]; rfl,hA _ _⟩)
   ·have a4:(m == m') = false:=by simpa using a2
    clear e1 a2
    go_enter Tryz.func25,Tryz.ntmps25
    go_wp2_with fail
    all_goals (go_ret; exact ⟨by rw [H.out]; rfl,hA _ _⟩)
  ·have a4:(k == k') = false:=by simpa using a1
   clear e1 a1
   go_enter Tryz.func25,Tryz.ntmps25
   go_wp2_with fail
   all_goals (go_ret; exact ⟨by rw [H.out]; rfl,hA _ _⟩)
theorem VEq_all:∀ n,VEqA n /\ VEqB n
 | 0 => by
  have h0:VEqA 0:=fun sh y cs ds w hn => absurd (V.nodes_pos sh) (by omega)
  exact ⟨h0,VEqB_of h0⟩
 | n + 1 => by
  have h1:=VEqA_of (VEq_all n).2;exact ⟨h1,VEqB_of h1⟩
theorem zhv (x y:V) (cs ds:List Value) (w:World) (h:Rd w x.d cs) (h2:Rd w y.d ds) (hx:x.bulk <= 1048576) (hy:y.bulk <= 1048576) :
  Calls Tryz.prog 25 #[.agg cs.toArray,.agg ds.toArray] w fun e w' => e = .returned (.bool (decide (x = y))) /\ Below w.heap.size w w' :=
 (VEq_all x.nodes).1 x y cs ds w lR h h2 hx hy
end
section
def VSmA (n:Nat):Prop:=∀ (x y:V) (cs ds:List Value) (w:World),x.nodes <= n -> Rd w x.d cs -> Rd w y.d ds -> x.bulk <= 4294967295 -> y.bulk <= 4294967295 ->
 Calls Tryz.prog 93 #[.agg cs.toArray,.agg ds.toArray] w fun e w' => e = .returned (.bool (decide (x = y))) /\ Below w.heap.size w w'
def VSmB (n:Nat):Prop:=∀ (x y:List V) (va vb:Value) (w:World),V.nodess x <= n -> Rd w (.sl 5 (V.ds x)) [va] -> Rd w (.sl 5 (V.ds y)) [vb] -> x.length + V.bulks x <= 4294967295 -> y.length + V.bulks y <= 4294967295 ->
 Calls Tryz.prog 149 #[va,vb,.func (.func 93) #[] #[]] w fun e w' => e = .returned (.bool (decide (x = y))) /\ Below w.heap.size w w'
theorem VSmB_of {n:Nat} (hA:VSmA n):VSmB n:=by
 intro la lb va vb w hn h h2 hla hlb;obtain ⟨a,c,rfl,hg⟩:=h.values;obtain ⟨a',c',rfl,hg'⟩:=h2.values;by_cases hlen:la.length = lb.length
 ·have hlt:((la.length:Int) != (lb.length:Int)) = false:=by simp [hlen]
  have HL:=Lib.hid hlen; clear hlen
  go_enter Tryz.func149,Tryz.ntmps149
  go_wp2
  go_loopw [17] (fun i wr => ∃ (k:Nat),k <= la.length /\ i = .int .i64 k /\ la.take k = lb.take k /\ Below w.heap.size w wr) (fun i _ => la.length - (intOf i).toNat)
  case atStart => exact ⟨0,Nat.zero_le _,rfl,by simp,Below.refl _ _⟩
  case round =>
   obtain ⟨k,hk,rfl,htk,hbel⟩:=hrel;have HT:=Lib.hid htk; clear htk
   by_cases hk1:k < la.length
   ·have hk2:k < lb.length:=by have:=HL.out; omega
    obtain ⟨_,_,b,o,rfl,hb,hcell⟩:=hg (by intro e; rw [e] at hk1; simp at hk1);obtain ⟨_,_,b',o',rfl,hb',hcell'⟩:=hg' (by intro e; rw [e] at hk2; simp at hk2);obtain ⟨v0,v1,v2,v3,v4,hr,c0,c1,c2,c3,c4⟩:=hcell k hk1;obtain ⟨x0,x1,x2,x3,x4,hs,d0,d1,d2,d3,d4⟩:=hcell' k hk2;obtain ⟨k1,k2,k3,s4,a6,n6,m6,hcs⟩:=V.form hr;obtain ⟨j1,j2,j3,t4,b6,p6,q6,hds⟩:=V.form hs;simp only [cons.injEq,and_true] at hcs hds;obtain ⟨rfl,rfl,rfl,rfl,rfl⟩:=hcs;obtain ⟨rfl,rfl,rfl,rfl,rfl⟩:=hds;clear hcell hcell' hg hg';obtain ⟨hbc,_⟩:=zaY hbel;have hsz:=hbel.size;have hi1:(0:Int) <= k:=by omega
    have hi2:(k:Int) < lb.length:=by omega
    have hi3:(k:Int) < la.length:=by omega
    have hz1:b < wr.heap.size:=by omega
    have hz2:b' < wr.heap.size:=by omega
    have hnk:=Nat.le_trans (V.nodes_get la k hk1) hn;have hr':=hr.below hbel;have hs':=hs.below hbel;have hA2:=(hbel.alloc hsz (.cells #[.int .i64 k1,.int .i64 k2,.int .i64 k3,.string ⟨s4.toArray⟩,.slice a6 n6 m6] 41)).alloc (by simp; omega) (.cells #[.int .i64 j1,.int .i64 j2,.int .i64 j3,.string ⟨t4.toArray⟩,.slice b6 p6 q6] 41);by_cases he:la[k] = lb[k]
    ·have hd:=Lib.hid (decide_eq_true he)
     have HE:=Lib.hid he;clear he
     go_wp2_with (go_at_call 93; refine (hA _ _ _ _ _ hnk ((hr'.alloc _).alloc _) ((hs'.alloc _).alloc _) (V.bulk_get hla k hk1) (V.bulk_get hlb k hk2)).mono ?_; rw [hd.out]; rintro e w1 ⟨rfl,hb1⟩)
     go_roundw
     case rel => exact ⟨k + 1,by omega,by go_num,zdE HT.out hk1 hk2 HE.out,zan hA2 hb1 lR⟩
     case measure => simp [intOf] <;> omega
    ·have hd:=Lib.hid (decide_eq_false he)
     have HE:=Lib.hid (decide_eq_false (zfX hk1 hk2 he));clear he
     go_wp2_with (go_at_call 93; refine (hA _ _ _ _ _ hnk ((hr'.alloc _).alloc _) ((hs'.alloc _).alloc _) (V.bulk_get hla k hk1) (V.bulk_get hlb k hk2)).mono ?_; rw [hd.out]; rintro e w1 ⟨rfl,hb1⟩)
     go_ret;exact ⟨by rw [HE.out]; rfl,zan hA2 hb1 lR⟩
   ·obtain rfl:k = la.length:=by omega
    have he:la = lb:=by have:=HT.out; rw [take_length,HL.out,take_length] at this; exact this
    have H:=Lib.hid (decide_eq_true he);clear he;go_wp2;go_ret;exact ⟨by rw [H.out]; rfl,hbel⟩
 ·have H:=Lib.hid (decide_eq_false (show ¬ la = lb from fun e => hlen (by rw [e])))
  go_enter Tryz.func149,Tryz.ntmps149
  go_wp2;go_ret;exact ⟨by rw [H.out]; rfl,Below.refl _ _⟩
theorem VSmA_of {n:Nat} (hB:VSmB n):VSmA (n + 1):=by
 intro x y cs ds w hn h h2 hx hy;obtain ⟨k,m,q,s,kids,v1,rfl,rfl,hkids⟩:=V.lay h;obtain ⟨k',m',q',s',kids',v1',rfl,rfl,hkids'⟩:=V.lay h2;have hnk:V.nodess kids <= n:=by simp only [V.nodes] at hn; omega
 simp only [V.bulk] at hx hy;have hA:=((Below.refl w.heap.size w).alloc lR (.cells #[.int .i64 k,.int .i64 m,.int .i64 q,.string ⟨s.toArray⟩,v1] 41)).alloc (by simp) (.cells #[.int .i64 k',.int .i64 m',.int .i64 q',.string ⟨s'.toArray⟩,v1'] 41);by_cases e1:k = k' /\ m = m' /\ q = q' /\ s = s'
 ·obtain ⟨rfl,rfl,rfl,rfl⟩:=e1
  go_enter Tryz.func93,Tryz.ntmps93
  go_wp2_with fail
  refine (hB _ _ _ _ _ hnk ((hkids.below hA)) (hkids'.below hA) (by omega) (by omega)).mono ?_;by_cases e4:kids = kids'
  ·subst e4
   rw [decide_eq_true rfl];rintro e w2 ⟨rfl,hb2⟩;go_wp2;go_ret;exact ⟨by simp,zan hA hb2 lR⟩
  ·have H:=Lib.hid (V.ne_mk (k:=k) (m:=m) (e:=q) (s:=s) (kids:=kids) (k':=k) (m':=m) (e':=q) (s':=s) (kids':=kids') (by simp [e4]))
   rw [decide_eq_false e4];rintro e w2 ⟨rfl,hb2⟩;clear e4;go_wp2;go_ret;exact ⟨by rw [H.out]; rfl,zan hA hb2 lR⟩
 ·have H:=Lib.hid (V.ne_mk (k:=k) (m:=m) (e:=q) (s:=s) (kids:=kids) (k':=k') (m':=m') (e':=q') (s':=s') (kids':=kids') (by rintro ⟨a,b,c,d,_⟩; exact e1 ⟨a,b,c,d⟩))
  have HA:=Lib.hid hA;by_cases c1:k = k'
  ·subst c1
   by_cases c2:m = m'
   ·subst c2
    by_cases c3:q = q'
    ·subst c3
     have c4:(s == s') = false:=by simpa using fun c => e1 ⟨rfl,rfl,rfl,c⟩
     clear e1
     go_enter Tryz.func93,Tryz.ntmps93
     go_wp2_with fail
     go_ret;exact ⟨by rw [H.out]; rfl,HA.out⟩
    ·clear e1
     have c4:(q == q') = false:=by simpa using c3
     go_enter Tryz.func93,Tryz.ntmps93
     go_wp2_with fail
     go_ret;exact ⟨by rw [H.out]; rfl,HA.out⟩
   ·clear e1
    have c4:(m == m') = false:=by simpa using c2
    go_enter Tryz.func93,Tryz.ntmps93
    go_wp2_with fail
    go_ret;exact ⟨by rw [H.out]; rfl,HA.out⟩
  ·clear e1
   have c4:(k == k') = false:=by simpa using c1
   go_enter Tryz.func93,Tryz.ntmps93
   go_wp2_with fail
   go_ret;exact ⟨by rw [H.out]; rfl,HA.out⟩
theorem VSm_all:∀ n,VSmA n
 | 0 => fun x y cs ds w hn => absurd x.nodes_pos (by omega)
 | n + 1 => VSmA_of (VSmB_of (VSm_all n))
theorem same_any (x y:V) (cs ds:List Value) (w:World) (h:Rd w x.d cs) (h2:Rd w y.d ds) (hx:x.bulk <= 4294967295) (hy:y.bulk <= 4294967295) :
  Calls Tryz.prog 93 #[.agg cs.toArray,.agg ds.toArray] w fun e w' => e = .returned (.bool (decide (x = y))) /\ Below w.heap.size w w':=VSm_all x.nodes x y cs ds w lR h h2 hx hy
end
section
theorem isKey_any (x:V) (cs:List Value) (w:World) (h:Rd w x.d cs) :
  Calls Tryz.prog 222 #[.agg cs.toArray] w fun e w' => e = .returned (.bool (isKeyK x.kind)) /\ Below w.heap.size w w':=by
 obtain ⟨k,m,e,s,kids,v1,rfl,rfl,hkids⟩:=V.lay h;have HA:=Lib.hid ((Below.refl w.heap.size w).alloc lR (.cells #[.int .i64 k,.int .i64 m,.int .i64 e,.string ⟨s.toArray⟩,v1] 41));clear h hkids;show Calls _ _ _ _ fun e' w' => e' = .returned (.bool (isKeyK k)) /\ _
 by_cases h5:k = 5
 ·subst h5
  go_enter Tryz.func222,Tryz.ntmps222
  go_wp2;go_ret;exact ⟨rfl,HA.out⟩
 ·have g5:(k == 5) = false:=by simpa using h5
  have H:=Lib.hid (show isKeyK k = (k == 3) by unfold isKeyK; rw [decide_eq_false h5,Bool.false_or]; rfl)
  go_enter Tryz.func222,Tryz.ntmps222
  go_wp2;go_ret;exact ⟨by rw [H.out]; rfl,HA.out⟩
def V.kidsOk (k:Int) (kids:List V):Bool :=
 if k = 7 then true else if k = 9 then decide (kids.length = 1) else if k = 8 then pairsOkI kids else decide (kids = [])
theorem len0' (l:List V):((l.length:Int) == 0) = decide (l = []):=by
 cases l with
 | nil => rfl
 | cons a r => simp; omega
theorem zhw (x:V) (cs:List Value) (w:World) (h:Rd w x.d cs) (hbk:x.bulk <= 4294967295) :
  Calls Tryz.prog 190 #[.agg cs.toArray] w fun e w' => e = .returned (.bool (V.kidsOk x.kind x.kids)) /\ Below w.heap.size w w':=by
 obtain ⟨q,n,e,s,xs,v1,rfl,rfl,hkids⟩:=V.lay h;have hkb:xs.length + V.bulks xs <= 4294967295:=by simp only [V.bulk] at hbk; omega
 obtain ⟨a,c,rfl,hg⟩:=hkids.values;show Calls _ _ _ _ fun e' w' => e' = .returned (.bool (V.kidsOk q xs)) /\ _
 obtain ⟨ok,hok⟩:∃ ok,V.kidsOk q xs = ok:=⟨_,rfl⟩;rw [hok];have HOK:=Lib.hid hok; clear hok
 obtain ⟨W0,hW0⟩:∃ W0,W0 = w.alloc (.cells #[.int .i64 q,.int .i64 n,.int .i64 e,.string ⟨s.toArray⟩,.slice a xs.length c] 41):=⟨_,rfl⟩;have HW:=Lib.hid hW0;have hA0:Below w.heap.size w W0:=by rw [hW0]; exact (Below.refl _ _).alloc lR _
 have hz:w.heap.size < W0.heap.size:=by rw [hW0]; simp
 have KB:Hid (∀ W,Below W0.heap.size W0 W -> W.cell? ⟨w.heap.size,0,none⟩ = some (.int .i64 q) /\ W.cell? ⟨w.heap.size,4,none⟩ = some (.slice a xs.length c)):=by
  intro W hb;obtain ⟨hc,_⟩:=zaY hb;simp only [hc _ _ hz]; subst hW0; simp
 clear hW0 h hkids hbk;obtain ⟨f0,f4⟩:=KB.out _ (Below.refl _ _);by_cases q7:q = 7
 ·subst q7
  have H:=Lib.hid (show ok = true by rw [<- HOK.out]; rfl)
  go_enter Tryz.func190,Tryz.ntmps190
  go_wp2;rw [<- HW.out];go_ret;exact ⟨by rw [H.out]; rfl,hA0⟩
 by_cases q9:q = 9
 ·subst q9
  have H:=Lib.hid (show ok = decide (xs.length = 1) by rw [<- HOK.out]; rfl)
  go_enter Tryz.func190,Tryz.ntmps190
  go_wp2;rw [<- HW.out];go_ret;exact ⟨by rw [H.out]; exact zaB (by rw [Bool.eq_iff_iff]; simp; omega),hA0⟩
 by_cases q8:q = 8
 ·subst q8
  have HP:=Lib.hid (show ok = pairsOkI xs by rw [<- HOK.out]; rfl);obtain ⟨ks,hks⟩:∃ ks,odds xs = ks:=⟨_,rfl⟩;have hkl:ks.length = (xs.length + 1) / 2:=by rw [<- hks,zbH]
  have HKG:Hid (∀ j (h1:2 * j < xs.length) (h2:j < ks.length),ks[j] = xs[2 * j]):=by
   intro j h1 h2; subst hks; exact odds_get xs j h1
  have HKS:=Lib.hid hks; clear hks
  clear q7 q9
  go_enter Tryz.func190,Tryz.ntmps190
  go_wp2;rw [<- HW.out]
  go_loopw [3] (fun i wr => ∃ (j k:Nat),k = 2 * j /\ j <= ks.length /\ i = .int .i64 k /\ uniq id (ks.take j) = true /\ Below W0.heap.size W0 wr) (fun i _ => xs.length + 1 - (intOf i).toNat)
  case atStart => exact ⟨0,0,rfl,Nat.zero_le _,rfl,by simp [uniq],Below.refl _ _⟩
  case round =>
   obtain ⟨j,k,hkj,hj,rfl,hu,hbel⟩:=hrel;have HKJ:=Lib.hid hkj;have HU:=Lib.hid hu; clear hu f0 f4
   obtain ⟨f0,f4⟩:=KB.out _ hbel;have hbw:=zan hA0 hbel lR;by_cases hlt:k < xs.length
   ·have hjk:j < ks.length:=by omega
    have hkk:=HKG.out j (by omega) hjk;obtain ⟨_,_,b,o,rfl,hb,hcell⟩:=hg (by intro e; rw [e] at hlt; simp at hlt);have HC:=Lib.hid hcell;obtain ⟨v0,v1,v2,v3,v4,hr,d0,d1,d2,d3,d4⟩:=hcell k hlt;clear hcell;obtain ⟨k1,k2,k3,s4,a6,n6,m6,hcs⟩:=V.form hr;simp only [cons.injEq,and_true] at hcs;obtain ⟨rfl,rfl,rfl,rfl,rfl⟩:=hcs;have hbc:=(zaY hbw).1;rw [<- hbc _ _ hb] at d0 d1 d2 d3 d4;have HX:=Lib.hid (show ks[j] = xs[k] by rw [hkk]; subst hkj; rfl);have hi1:(0:Int) <= k:=by omega
    have hi3:(k:Int) < xs.length:=by omega
    have hbz:b < W0.heap.size:=by have:=hA0.size; omega
    have HD:Hid (∀ W,Below W0.heap.size W0 W -> W.cell? ⟨b,o + k * 5,none⟩ = some (.int .i64 k1) /\ W.cell? ⟨b,o + k * 5 + 1,none⟩ = some (.int .i64 k2) /\ W.cell? ⟨b,o + k * 5 + 2,none⟩ = some (.int .i64 k3) /\ W.cell? ⟨b,o + k * 5 + 3,none⟩ = some (.string ⟨s4.toArray⟩) /\ W.cell? ⟨b,o + k * 5 + 4,none⟩ = some (.slice a6 n6 m6)):=by
     intro W hW;have h1:=(zaY hW).1;have h2:=(zaY hbel).1;rw [h2 _ _ hbz] at d0 d1 d2 d3 d4;simp only [h1 _ _ hbz]; exact ⟨d0,d1,d2,d3,d4⟩
    have HK1:=Lib.hid (fun W (hW:Below W0.heap.size W0 W) => isKey_any xs[k] _ W (hr.below (zan hA0 hW lR)));have HXR:=Lib.hid (fun W (hW:Below W0.heap.size W0 W) => (hr.below (zan hA0 hW lR)));clear hbc hkk hkj hr
    cases hkey:isKeyK xs[k].kind with
    | true =>
     have HK:=Lib.hid hkey; clear hkey
     go_wp2_with (go_at_call 222; refine (HK1.out _ hbel).mono ?_; rw [HK.out]; rintro e w1 ⟨rfl,hb1⟩; have hbe1:=zan hbel hb1 lR; clear d0 d1 d2 d3 d4 f0 f4; obtain ⟨f0,f4⟩:=KB.out _ hbe1)
     go_loopw [4] (fun i wr => ∃ (m r:Nat),r = 2 * m /\ m <= j /\ i = .int .i64 r /\ xs[k] ∉ ks.take m /\ Below W0.heap.size W0 wr) (fun i _ => k + 1 - (intOf i).toNat)
     case atStart => exact ⟨0,0,rfl,Nat.zero_le _,rfl,by simp,hbe1⟩
     case round =>
      obtain ⟨m,r,hrm,hm,rfl,hni,hbel2⟩:=hrel;have HRM:=Lib.hid hrm;have HNI:=Lib.hid hni; clear hni
      have hkj:=HKJ.out;have hbw2:=zan hA0 hbel2 lR;clear f0 f4;obtain ⟨f0,f4⟩:=KB.out _ hbel2;by_cases hml:r < k
      ·have hrx:r < xs.length:=by omega
       have hmk:m < ks.length:=by omega
       have hmm:=HKG.out m (by omega) hmk;obtain ⟨u0,u1,u2,u3,u4,hr2,e0,e1,e2,e3,e4⟩:=HC.out r hrx;obtain ⟨y1,y2,y3,t4,b6,p6,r6,hcs2⟩:=V.form hr2;simp only [cons.injEq,and_true] at hcs2;obtain ⟨rfl,rfl,rfl,rfl,rfl⟩:=hcs2;have HY:=Lib.hid (show ks[m] = xs[r] by rw [hmm]; subst hrm; rfl)
       have HE:Hid (∀ W,Below W0.heap.size W0 W -> W.cell? ⟨b,o + r * 5,none⟩ = some (.int .i64 y1) /\ W.cell? ⟨b,o + r * 5 + 1,none⟩ = some (.int .i64 y2) /\ W.cell? ⟨b,o + r * 5 + 2,none⟩ = some (.int .i64 y3) /\ W.cell? ⟨b,o + r * 5 + 3,none⟩ = some (.string ⟨t4.toArray⟩) /\ W.cell? ⟨b,o + r * 5 + 4,none⟩ = some (.slice b6 p6 r6)):=by
        intro W hW;have h1:=(zaY (zan hA0 hW lR)).1;simp only [h1 _ _ hb]; exact ⟨e0,e1,e2,e3,e4⟩
       have hj1:(0:Int) <= r:=by omega
       have hj3:(r:Int) < xs.length:=by omega
       have hj5:(r:Int) < k:=by omega
       have hm5:m < j:=by omega
       have hr5:r + 2 < k + 3:=by omega
       have HS:=Lib.hid (fun W (hW:Below W0.heap.size W0 W) => same_any xs[k] xs[r] _ _ W (HXR.out W hW) (hr2.below (zan hA0 hW lR)) (V.bulk_get hkb k hlt) (V.bulk_get hkb r hrx));have hB:=hbel2;clear hmm hrm hkj e0 e1 e2 e3 e4 hr2 f0 f4;by_cases heq:xs[k] = xs[r]
       ·have HQ:=Lib.hid (decide_eq_true heq)
        have HF:=Lib.hid (show ok = false by
         rw [HP.out]; unfold pairsOkI; rw [HKS.out,zej hjk (by
          rw [HX.out,map_id];exact mem_take_iff_getElem.2 ⟨m,by omega,by rw [HY.out,<- heq]; rfl⟩)]; rfl)
        clear heq
        go_wp2_with fail
        go_region_held3 (fun W => (W.cell? ⟨w.heap.size,0,none⟩ = some (.int .i64 8) /\ W.cell? ⟨w.heap.size,4,none⟩ = some (.slice (some ⟨b,o,none⟩) xs.length c)) /\ (W.cell? ⟨b,o + k * 5,none⟩ = some (.int .i64 k1) /\ W.cell? ⟨b,o + k * 5 + 1,none⟩ = some (.int .i64 k2) /\ W.cell? ⟨b,o + k * 5 + 2,none⟩ = some (.int .i64 k3) /\ W.cell? ⟨b,o + k * 5 + 3,none⟩ = some (.string ⟨s4.toArray⟩) /\ W.cell? ⟨b,o + k * 5 + 4,none⟩ = some (.slice a6 n6 m6)) /\ W.cell? ⟨b,o + r * 5,none⟩ = some (.int .i64 y1) /\ W.cell? ⟨b,o + r * 5 + 1,none⟩ = some (.int .i64 y2) /\ W.cell? ⟨b,o + r * 5 + 2,none⟩ = some (.int .i64 y3) /\ W.cell? ⟨b,o + r * 5 + 3,none⟩ = some (.string ⟨t4.toArray⟩) /\ W.cell? ⟨b,o + r * 5 + 4,none⟩ = some (.slice b6 p6 r6))
         (first | exact ⟨KB.out _ hB,HD.out _ hB,HE.out _ hB⟩ | exact ⟨KB.out _ hB.drew,HD.out _ hB.drew,HE.out _ hB.drew⟩)
         (first | (go_at_call 93; with_reducible refine (HS.out _ (by first | exact hB | exact hB.drew)).mono ?_; rw [HQ.out]; rintro e w2 ⟨rfl,hb2⟩; replace hB:=zan (by first | exact hB | exact hB.drew) hb2 lR))
        go_wp2;go_ret;exact ⟨by rw [HF.out]; rfl,zan hA0 hB lR⟩
       ·have HQ:=Lib.hid (decide_eq_false heq)
        have HM:Hid (xs[k] ∉ ks.take (m + 1)):=by
         show _ ∉ _;rw [take_succ_eq_append_getElem hmk,mem_append,HY.out];rintro (h | h)
         ·exact HNI.out h
         ·exact heq (by simpa using h)
        clear heq
        go_wp2_with fail
        go_region_held3 (fun W => (W.cell? ⟨w.heap.size,0,none⟩ = some (.int .i64 8) /\ W.cell? ⟨w.heap.size,4,none⟩ = some (.slice (some ⟨b,o,none⟩) xs.length c)) /\ (W.cell? ⟨b,o + k * 5,none⟩ = some (.int .i64 k1) /\ W.cell? ⟨b,o + k * 5 + 1,none⟩ = some (.int .i64 k2) /\ W.cell? ⟨b,o + k * 5 + 2,none⟩ = some (.int .i64 k3) /\ W.cell? ⟨b,o + k * 5 + 3,none⟩ = some (.string ⟨s4.toArray⟩) /\ W.cell? ⟨b,o + k * 5 + 4,none⟩ = some (.slice a6 n6 m6)) /\ W.cell? ⟨b,o + r * 5,none⟩ = some (.int .i64 y1) /\ W.cell? ⟨b,o + r * 5 + 1,none⟩ = some (.int .i64 y2) /\ W.cell? ⟨b,o + r * 5 + 2,none⟩ = some (.int .i64 y3) /\ W.cell? ⟨b,o + r * 5 + 3,none⟩ = some (.string ⟨t4.toArray⟩) /\ W.cell? ⟨b,o + r * 5 + 4,none⟩ = some (.slice b6 p6 r6))
         (first | exact ⟨KB.out _ hB,HD.out _ hB,HE.out _ hB⟩ | exact ⟨KB.out _ hB.drew,HD.out _ hB.drew,HE.out _ hB.drew⟩)
         (first | (go_at_call 93; with_reducible refine (HS.out _ (by first | exact hB | exact hB.drew)).mono ?_; rw [HQ.out]; rintro e w2 ⟨rfl,hb2⟩; replace hB:=zan (by first | exact hB | exact hB.drew) hb2 lR))
        go_wp2;go_roundw
        case rel => exact ⟨m + 1,r + 2,by have:=HRM.out; omega,by omega,by go_num,HM.out,hB⟩
        case measure => simp [intOf]; omega
      ·obtain rfl:m = j:=by omega
       have HM:Hid (uniq id (ks.take (m + 1)) = true):=zei hjk HU.out (by rw [HX.out]; exact HK.out) (by rw [HX.out,map_id]; exact HNI.out);clear hrm hkj;go_wp2;go_roundw
       case rel => exact ⟨m + 1,k + 2,by have:=HKJ.out; omega,by omega,by go_num,HM.out,hbel2⟩
       case measure => simp [intOf]; omega
    | false =>
     have HK:=Lib.hid hkey;have HF:=Lib.hid (show ok = false by rw [HP.out]; unfold pairsOkI; rw [HKS.out,zgb hjk (by rw [HX.out]; exact hkey)]; rfl);clear hkey
     go_wp2_with (go_at_call 222; refine (HK1.out _ hbel).mono ?_; rw [HK.out]; rintro e w1 ⟨rfl,hb1⟩)
     go_ret;exact ⟨by rw [HF.out]; rfl,zan hbw hb1 lR⟩
   ·obtain rfl:j = ks.length:=by omega
    clear hkj;have h1:=HU.out;rw [take_length] at h1;have HF:=Lib.hid (show ok = decide (xs.length % 2 = 0) by rw [HP.out]; unfold pairsOkI; rw [HKS.out,h1]; rfl);clear h1;go_wp2;go_ret;exact ⟨by rw [HF.out]; exact zaB (by rw [Bool.eq_iff_iff]; simp <;> omega),hbw⟩
 ·have H:=Lib.hid (show ok = decide (xs = []) by rw [<- HOK.out]; unfold V.kidsOk; rw [if_neg q7,if_neg q9,if_neg q8])
  have g7:(q == 7) = false:=by simpa using q7
  have g8:(q == 8) = false:=by simpa using q8
  have g9:(q == 9) = false:=by simpa using q9
  go_enter Tryz.func190,Tryz.ntmps190
  go_wp2;rw [<- HW.out];go_ret;exact ⟨by rw [H.out,<- len0']; rfl,hA0⟩
end
end Go.Proofs.YtanlnhkagepniaaGreatDoor
/-
  DERIVED: THE SHELF's CONTRACTS AT THIS DUMP, IN PLAIN WORDS (tools/lay-plain.mjs out of 'TryzShelf.lean', which tools/lay-shelf.mjs wrote): THE SAME DECLARATIONS UNDER THE SAME NAMES: 'import', 'namespace', 'open', 'def', 'theorem' AND NOTHING ELSE: no command of the shelf's: FOR A HAND-IN. Each laying: the table of numbers ('.._ren') and one theorem, a field a fact of the dump's own or the kernel's comparison; each contract: ONE APPLICATION.
-/
namespace Go.Proofs
open Go.Shelf
def Tryz.lays172_ren:Go.Shelf.Ren:=⟨fun | 172 => 238 | 244 => 247 | 245 => 248 | 247 => 255 | 279 => 256 | 280 => 257 | 281 => 258 | 282 => 259 | 287 => 262 | 316 => 263 | 171 => 158 | 205 => 264 | 321 => 265 | 322 => 266 | 243 => 202 | 246 => 230 | 283 => 239 | 284 => 240 | 285 => 241 | 286 => 242 | 129 => 250 | 317 => 249 | 318 => 251 | 319 => 252 | 320 => 253 | 337 => 260 | 338 => 261 | n => n,fun | 9 => 9 | 3 => 3 | 75 => 154 | 76 => 155 | 4 => 4 | 5 => 5 | 167 => 249 | 37 => 150 | 0 => 0 | 85 => 250 | 2 => 2 | 168 => 252 | 53 => 98 | 175 => 256 | 46 => 190 | 210 => 259 | 127 => 201 | 145 => 266 | 143 => 264 | 21 => 21 | 171 => 235 | 173 => 238 | 212 => 244 | 51 => 180 | 20 => 20 | 213 => 245 | 232 => 261 | 233 => 262 | 80 => 158 | n => n,fun | 15 => 3 | 16 => 4 | 17 => 2 | 18 => 5 | 19 => 6 | n => n⟩
def Tryz.laysM246_ren:Go.Shelf.Ren:=⟨fun | 246 => 230 | 283 => 239 | 284 => 240 | 285 => 241 | 286 => 242 | 129 => 250 | 317 => 249 | 318 => 251 | 319 => 252 | 320 => 253 | 337 => 260 | 338 => 261 | n => n,fun | 2 => 2 | 3 => 3 | 9 => 9 | 4 => 4 | 171 => 235 | 0 => 0 | 53 => 98 | 37 => 150 | 5 => 5 | 173 => 238 | 212 => 244 | 51 => 180 | 20 => 20 | 213 => 245 | 46 => 190 | 232 => 261 | 233 => 262 | n => n,fun | 17 => 2 | 18 => 5 | 19 => 6 | n => n⟩
def Tryz.laysM243_ren:Go.Shelf.Ren:=⟨fun | 243 => 202 | 246 => 230 | 283 => 239 | 284 => 240 | 285 => 241 | 286 => 242 | 129 => 250 | 317 => 249 | 318 => 251 | 319 => 252 | 320 => 253 | 337 => 260 | 338 => 261 | n => n,fun | 3 => 3 | 9 => 9 | 2 => 2 | 4 => 4 | 171 => 235 | 0 => 0 | 53 => 98 | 37 => 150 | 5 => 5 | 173 => 238 | 212 => 244 | 51 => 180 | 20 => 20 | 213 => 245 | 46 => 190 | 232 => 261 | 233 => 262 | n => n,fun | 17 => 2 | 18 => 5 | 19 => 6 | n => n⟩
def Tryz.laysM171_ren:Go.Shelf.Ren:=⟨fun | 171 => 158 | 243 => 202 | 246 => 230 | 283 => 239 | 284 => 240 | 285 => 241 | 286 => 242 | 129 => 250 | 317 => 249 | 318 => 251 | 319 => 252 | 320 => 253 | 337 => 260 | 338 => 261 | n => n,fun | 3 => 3 | 9 => 9 | 2 => 2 | 4 => 4 | 171 => 235 | 0 => 0 | 53 => 98 | 37 => 150 | 5 => 5 | 173 => 238 | 212 => 244 | 51 => 180 | 20 => 20 | 213 => 245 | 46 => 190 | 232 => 261 | 233 => 262 | n => n,fun | 17 => 2 | 18 => 5 | 19 => 6 | n => n⟩
theorem Tryz.laysM171:Go.Proofs.LaysM.n171 Tryz.prog Tryz.laysM171_ren:={
 mixed:=by kernel_rfl
 f129:=Tryz.func250.trans (congrArg some (by kernel_rfl))
 f171:=Tryz.func158.trans (congrArg some (by kernel_rfl))
 f243:=Tryz.func202.trans (congrArg some (by kernel_rfl))
 f246:=Tryz.func230.trans (congrArg some (by kernel_rfl))
 f283:=Tryz.func239.trans (congrArg some (by kernel_rfl))
 f284:=Tryz.func240.trans (congrArg some (by kernel_rfl))
 f285:=Tryz.func241.trans (congrArg some (by kernel_rfl))
 f286:=Tryz.func242.trans (congrArg some (by kernel_rfl))
 f317:=Tryz.func249.trans (congrArg some (by kernel_rfl))
 f318:=Tryz.func251.trans (congrArg some (by kernel_rfl))
 f319:=Tryz.func252.trans (congrArg some (by kernel_rfl))
 f320:=Tryz.func253.trans (congrArg some (by kernel_rfl))
 f337:=Tryz.func260.trans (congrArg some (by kernel_rfl))
 f338:=Tryz.func261.trans (congrArg some (by kernel_rfl))
 t0:=Tryz.underlying0
 a0:=Tryz.isAgg0
 z0:=Tryz.sizeOf0
 v0:=Tryz.zeroValue0
 t2:=Tryz.underlying2
 a2:=Tryz.isAgg2
 z2:=Tryz.sizeOf2
 v2:=Tryz.zeroValue2
 t3:=Tryz.underlying3
 a3:=Tryz.isAgg3
 z3:=Tryz.sizeOf3
 v3:=Tryz.zeroValue3
 t4:=Tryz.underlying4
 a4:=Tryz.isAgg4
 z4:=Tryz.sizeOf4
 v4:=Tryz.zeroValue4
 t5:=Tryz.underlying5
 a5:=Tryz.isAgg5
 z5:=Tryz.sizeOf5
 v5:=Tryz.zeroValue5
 t9:=Tryz.underlying9
 a9:=Tryz.isAgg9
 z9:=Tryz.sizeOf9
 v9:=Tryz.zeroValue9
 t20:=Tryz.underlying20
 a20:=Tryz.isAgg20
 z20:=Tryz.sizeOf20
 v20:=Tryz.zeroValue20
 t37:=Tryz.underlying150
 a37:=Tryz.isAgg150
 z37:=Tryz.sizeOf150
 v37:=Tryz.zeroValue150
 t46:=Tryz.underlying190
 a46:=Tryz.isAgg190
 z46:=Tryz.sizeOf190
 v46:=Tryz.zeroValue190
 t51:=Tryz.underlying180
 a51:=Tryz.isAgg180
 z51:=Tryz.sizeOf180
 v51:=Tryz.zeroValue180
 t53:=Tryz.underlying98
 a53:=Tryz.isAgg98
 z53:=Tryz.sizeOf98
 v53:=Tryz.zeroValue98
 t171:=Tryz.underlying235
 a171:=Tryz.isAgg235
 z171:=Tryz.sizeOf235
 v171:=Tryz.zeroValue235
 t173:=Tryz.underlying238
 a173:=Tryz.isAgg238
 z173:=Tryz.sizeOf238
 v173:=Tryz.zeroValue238
 t212:=Tryz.underlying244
 a212:=Tryz.isAgg244
 z212:=Tryz.sizeOf244
 v212:=Tryz.zeroValue244
 t213:=Tryz.underlying245
 a213:=Tryz.isAgg245
 z213:=Tryz.sizeOf245
 t232:=Tryz.underlying261
 a232:=Tryz.isAgg261
 z232:=Tryz.sizeOf261
 v232:=Tryz.zeroValue261
 t233:=Tryz.underlying262
 a233:=Tryz.isAgg262
 z233:=Tryz.sizeOf262
 v233:=Tryz.zeroValue262
 g17:=by kernel_rfl
 g18:=by kernel_rfl
 g19:=by kernel_rfl
 i0:=by kernel_rfl
 i2:=by kernel_rfl
 i3:=by kernel_rfl
 i4:=by kernel_rfl
 i5:=by kernel_rfl
 i9:=by kernel_rfl
 i20:=by kernel_rfl
 i37:=by kernel_rfl
 i46:=by kernel_rfl
 i51:=by kernel_rfl
 i53:=by kernel_rfl
 i171:=by kernel_rfl
 i173:=by kernel_rfl
 i212:=by kernel_rfl
 i232:=by kernel_rfl
 i233:=by kernel_rfl
 m17:=by kernel_rfl
 m18:=by kernel_rfl
 m19:=by kernel_rfl }
open Go.RowKit Go.Sort Go.Lib in
theorem Tryz.strconv_Itoa (n : Int) (h0 : -9223372036854775808 ≤ n) (h1 : n ≤ 9223372036854775807) (w : World) (htab : Lib.TabIs Tryz.prog w "internal/strconv.uint64pow10" .u64 Lib.pow10Tab) :
  Calls Tryz.prog 158 #[.int .i64 n] w fun e w' => e = .returned (.string ⟨(Lib.itoa n).toArray⟩) /\ ∃ k os,w' = grow (w.drewN k) os:=Any.strconv_Itoa Tryz.laysM171 n h0 h1 w htab
def Tryz.laysC172_ren:Go.Shelf.Ren:=⟨fun | 172 => 238 | 244 => 247 | 245 => 248 | 247 => 255 | 279 => 256 | 280 => 257 | 281 => 258 | 282 => 259 | 287 => 262 | 316 => 263 | 171 => 158 | 205 => 264 | 321 => 265 | 322 => 266 | 243 => 202 | 246 => 230 | 283 => 239 | 284 => 240 | 285 => 241 | 286 => 242 | 129 => 250 | 317 => 249 | 318 => 251 | 319 => 252 | 320 => 253 | 337 => 260 | 338 => 261 | n => n,fun | 9 => 9 | 3 => 3 | 75 => 154 | 76 => 155 | 4 => 4 | 5 => 5 | 167 => 249 | 37 => 150 | 0 => 0 | 85 => 250 | 2 => 2 | 168 => 252 | 53 => 98 | 175 => 256 | 46 => 190 | 210 => 259 | 127 => 201 | 145 => 266 | 143 => 264 | 21 => 21 | 171 => 235 | 173 => 238 | 212 => 244 | 51 => 180 | 20 => 20 | 213 => 245 | 232 => 261 | 233 => 262 | 80 => 158 | n => n,fun | 15 => 3 | 16 => 4 | 17 => 2 | 18 => 5 | 19 => 6 | n => n⟩
theorem Tryz.laysC172:Go.Proofs.LaysC.n172 Tryz.prog Tryz.laysC172_ren:={
 mixed:=by kernel_rfl
 f129:=Tryz.func250.trans (congrArg some (by kernel_rfl))
 f171:=Tryz.func158.trans (congrArg some (by kernel_rfl))
 f172:=Tryz.func238.trans (congrArg some (by kernel_rfl))
 f205:=Tryz.func264.trans (congrArg some (by kernel_rfl))
 f243:=Tryz.func202.trans (congrArg some (by kernel_rfl))
 f244:=Tryz.func247.trans (congrArg some (by kernel_rfl))
 f245:=Tryz.func248.trans (congrArg some (by kernel_rfl))
 f246:=Tryz.func230.trans (congrArg some (by kernel_rfl))
 f247:=Tryz.func255.trans (congrArg some (by kernel_rfl))
 f279:=Tryz.func256.trans (congrArg some (by kernel_rfl))
 f280:=Tryz.func257.trans (congrArg some (by kernel_rfl))
 f281:=Tryz.func258.trans (congrArg some (by kernel_rfl))
 f282:=Tryz.func259.trans (congrArg some (by kernel_rfl))
 f283:=Tryz.func239.trans (congrArg some (by kernel_rfl))
 f284:=Tryz.func240.trans (congrArg some (by kernel_rfl))
 f285:=Tryz.func241.trans (congrArg some (by kernel_rfl))
 f286:=Tryz.func242.trans (congrArg some (by kernel_rfl))
 f287:=Tryz.func262.trans (congrArg some (by kernel_rfl))
 f316:=Tryz.func263.trans (congrArg some (by kernel_rfl))
 f317:=Tryz.func249.trans (congrArg some (by kernel_rfl))
 f318:=Tryz.func251.trans (congrArg some (by kernel_rfl))
 f319:=Tryz.func252.trans (congrArg some (by kernel_rfl))
 f320:=Tryz.func253.trans (congrArg some (by kernel_rfl))
 f321:=Tryz.func265.trans (congrArg some (by kernel_rfl))
 f322:=Tryz.func266.trans (congrArg some (by kernel_rfl))
 f337:=Tryz.func260.trans (congrArg some (by kernel_rfl))
 f338:=Tryz.func261.trans (congrArg some (by kernel_rfl))
 t0:=Tryz.underlying0
 a0:=Tryz.isAgg0
 z0:=Tryz.sizeOf0
 v0:=Tryz.zeroValue0
 t2:=Tryz.underlying2
 a2:=Tryz.isAgg2
 z2:=Tryz.sizeOf2
 v2:=Tryz.zeroValue2
 t3:=Tryz.underlying3
 a3:=Tryz.isAgg3
 z3:=Tryz.sizeOf3
 v3:=Tryz.zeroValue3
 t4:=Tryz.underlying4
 a4:=Tryz.isAgg4
 z4:=Tryz.sizeOf4
 v4:=Tryz.zeroValue4
 t5:=Tryz.underlying5
 a5:=Tryz.isAgg5
 z5:=Tryz.sizeOf5
 v5:=Tryz.zeroValue5
 t9:=Tryz.underlying9
 a9:=Tryz.isAgg9
 z9:=Tryz.sizeOf9
 v9:=Tryz.zeroValue9
 t20:=Tryz.underlying20
 a20:=Tryz.isAgg20
 z20:=Tryz.sizeOf20
 v20:=Tryz.zeroValue20
 t21:=Tryz.underlying21
 a21:=Tryz.isAgg21
 z21:=Tryz.sizeOf21
 v21:=Tryz.zeroValue21
 t37:=Tryz.underlying150
 a37:=Tryz.isAgg150
 z37:=Tryz.sizeOf150
 v37:=Tryz.zeroValue150
 t46:=Tryz.underlying190
 a46:=Tryz.isAgg190
 z46:=Tryz.sizeOf190
 v46:=Tryz.zeroValue190
 t51:=Tryz.underlying180
 a51:=Tryz.isAgg180
 z51:=Tryz.sizeOf180
 v51:=Tryz.zeroValue180
 t53:=Tryz.underlying98
 a53:=Tryz.isAgg98
 z53:=Tryz.sizeOf98
 v53:=Tryz.zeroValue98
 t75:=Tryz.underlying154
 a75:=Tryz.isAgg154
 z75:=Tryz.sizeOf154
 v75:=Tryz.zeroValue154
 t76:=Tryz.underlying155
 a76:=Tryz.isAgg155
 z76:=Tryz.sizeOf155
 v76:=Tryz.zeroValue155
 t85:=Tryz.underlying250
 a85:=Tryz.isAgg250
 z85:=Tryz.sizeOf250
 v85:=Tryz.zeroValue250
 t127:=Tryz.underlying201
 a127:=Tryz.isAgg201
 z127:=Tryz.sizeOf201
 v127:=Tryz.zeroValue201
 t143:=Tryz.underlying264
 a143:=Tryz.isAgg264
 z143:=Tryz.sizeOf264
 v143:=Tryz.zeroValue264
 t145:=Tryz.underlying266
 a145:=Tryz.isAgg266
 z145:=Tryz.sizeOf266
 v145:=Tryz.zeroValue266
 t167:=Tryz.underlying249
 a167:=Tryz.isAgg249
 z167:=Tryz.sizeOf249
 v167:=Tryz.zeroValue249
 t168:=Tryz.underlying252
 a168:=Tryz.isAgg252
 z168:=Tryz.sizeOf252
 v168:=Tryz.zeroValue252
 t171:=Tryz.underlying235
 a171:=Tryz.isAgg235
 z171:=Tryz.sizeOf235
 v171:=Tryz.zeroValue235
 t173:=Tryz.underlying238
 a173:=Tryz.isAgg238
 z173:=Tryz.sizeOf238
 v173:=Tryz.zeroValue238
 t175:=Tryz.underlying256
 a175:=Tryz.isAgg256
 z175:=Tryz.sizeOf256
 v175:=Tryz.zeroValue256
 t210:=Tryz.underlying259
 a210:=Tryz.isAgg259
 z210:=Tryz.sizeOf259
 v210:=Tryz.zeroValue259
 t212:=Tryz.underlying244
 a212:=Tryz.isAgg244
 z212:=Tryz.sizeOf244
 v212:=Tryz.zeroValue244
 t213:=Tryz.underlying245
 a213:=Tryz.isAgg245
 z213:=Tryz.sizeOf245
 t232:=Tryz.underlying261
 a232:=Tryz.isAgg261
 z232:=Tryz.sizeOf261
 v232:=Tryz.zeroValue261
 t233:=Tryz.underlying262
 a233:=Tryz.isAgg262
 z233:=Tryz.sizeOf262
 v233:=Tryz.zeroValue262
 g15:=by kernel_rfl
 g16:=by kernel_rfl
 g17:=by kernel_rfl
 g18:=by kernel_rfl
 g19:=by kernel_rfl
 t80:=Tryz.underlying158
 a80:=Tryz.isAgg158
 z80:=Tryz.sizeOf158
 v80:=Tryz.zeroValue158
 i0:=by kernel_rfl
 i2:=by kernel_rfl
 i3:=by kernel_rfl
 i4:=by kernel_rfl
 i5:=by kernel_rfl
 i9:=by kernel_rfl
 i20:=by kernel_rfl
 i21:=by kernel_rfl
 i37:=by kernel_rfl
 i46:=by kernel_rfl
 i51:=by kernel_rfl
 i53:=by kernel_rfl
 i75:=by kernel_rfl
 i76:=by kernel_rfl
 i80:=by kernel_rfl
 i85:=by kernel_rfl
 i127:=by kernel_rfl
 i143:=by kernel_rfl
 i145:=by kernel_rfl
 i167:=by kernel_rfl
 i168:=by kernel_rfl
 i171:=by kernel_rfl
 i173:=by kernel_rfl
 i175:=by kernel_rfl
 i210:=by kernel_rfl
 i212:=by kernel_rfl
 i232:=by kernel_rfl
 i233:=by kernel_rfl
 m15:=by kernel_rfl
 m16:=by kernel_rfl
 m17:=by kernel_rfl
 m18:=by kernel_rfl
 m19:=by kernel_rfl
 c0:=by kernel_rfl
 c2:=by kernel_rfl
 c3:=by kernel_rfl
 c4:=by kernel_rfl
 c5:=by kernel_rfl
 c9:=by kernel_rfl
 c20:=by kernel_rfl
 c21:=by kernel_rfl
 c37:=by kernel_rfl
 c46:=by kernel_rfl
 c51:=by kernel_rfl
 c53:=by kernel_rfl
 c75:=by kernel_rfl
 c76:=by kernel_rfl
 c80:=by kernel_rfl
 c85:=by kernel_rfl
 c127:=by kernel_rfl
 c143:=by kernel_rfl
 c145:=by kernel_rfl
 c167:=by kernel_rfl
 c168:=by kernel_rfl
 c171:=by kernel_rfl
 c173:=by kernel_rfl
 c175:=by kernel_rfl
 c210:=by kernel_rfl
 c212:=by kernel_rfl
 c213:=by kernel_rfl
 c232:=by kernel_rfl
 c233:=by kernel_rfl }
open Go.RowKit in
theorem Tryz.strconv_Atoi_ok (s:ByteArray) (hmax:s.size <= 9223372036854775806) (v:Int) (h:Lib.atoiAll s.data.toList = .ok v) (w:World) :
  Calls Tryz.prog 238 #[.string s] w fun e w' => e = .returned (.tuple #[.int .i64 v,.nilIface]) /\ (w' = w \/ ∃ t,w' = Lib.bytesWorld w 5 t):=Any.strconv_Atoi_ok Tryz.laysC172 s hmax v h w
open Go.RowKit in
theorem Tryz.strconv_Atoi_syntax (s:ByteArray) (hlim:s.size <= 281474976710656) (h:Lib.atoiAll s.data.toList =  Lib.NumEnd.syntax) (ev:Value) (w:World) (hv:w.cell? ⟨3,0,none⟩ = some ev) (hev:ev = .nilIface \/ ∃ te pe,ev = .iface te pe) :
  Calls Tryz.prog 238 #[.string s] w fun e w' => ∃ N,e = .returned (.tuple #[.int .i64 (0),.iface 252 (.pointer (some ⟨N,0,none⟩))]) /\ w.heap.size <= N /\ w'.heap[N]? = some (.cells #[.string ⟨#[65,116,111,105]⟩,.string s,ev] 259 (0,0)) /\ Below w.heap.size w w':=Any.strconv_Atoi_syntax Tryz.laysC172 s hlim h ev w hv hev
open Go.RowKit in
theorem Tryz.strconv_Atoi_range (s:ByteArray) (hlim:s.size <= 281474976710656) (h:Lib.atoiAll s.data.toList = .range) (ev:Value) (w:World) (hv:w.cell? ⟨4,0,none⟩ = some ev) (hev:ev = .nilIface \/ ∃ te pe,ev = .iface te pe) :
  Calls Tryz.prog 238 #[.string s] w fun e w' => ∃ N,e = .returned (.tuple #[.int .i64 (Lib.atoiSat s.data.toList),.iface 252 (.pointer (some ⟨N,0,none⟩))]) /\ w.heap.size <= N /\ w'.heap[N]? = some (.cells #[.string ⟨#[65,116,111,105]⟩,.string s,ev] 259 (0,0)) /\ Below w.heap.size w w':=Any.strconv_Atoi_range Tryz.laysC172 s hlim h ev w hv hev
def Tryz.laysValid_ren:Go.Shelf.Ren:=⟨fun | 196 => 215 | 259 => 233 | n => n,fun | 9 => 9 | 4 => 4 | 3 => 3 | 5 => 5 | 12 => 12 | 119 => 229 | 0 => 0 | 46 => 190 | 139 => 232 | 138 => 231 | 53 => 98 | n => n,fun | 3 => 0 | 4 => 1 | n => n⟩
theorem Tryz.laysValid:Go.Proofs.Lays.n196 Tryz.prog Tryz.laysValid_ren:={
 mixed:=by kernel_rfl
 f196:=Tryz.func215.trans (congrArg some (by kernel_rfl))
 f259:=Tryz.func233.trans (congrArg some (by kernel_rfl))
 t0:=Tryz.underlying0
 a0:=Tryz.isAgg0
 z0:=Tryz.sizeOf0
 v0:=Tryz.zeroValue0
 t3:=Tryz.underlying3
 a3:=Tryz.isAgg3
 z3:=Tryz.sizeOf3
 v3:=Tryz.zeroValue3
 t4:=Tryz.underlying4
 a4:=Tryz.isAgg4
 z4:=Tryz.sizeOf4
 v4:=Tryz.zeroValue4
 t5:=Tryz.underlying5
 a5:=Tryz.isAgg5
 z5:=Tryz.sizeOf5
 v5:=Tryz.zeroValue5
 t9:=Tryz.underlying9
 a9:=Tryz.isAgg9
 z9:=Tryz.sizeOf9
 v9:=Tryz.zeroValue9
 t12:=Tryz.underlying12
 a12:=Tryz.isAgg12
 z12:=Tryz.sizeOf12
 v12:=Tryz.zeroValue12
 t46:=Tryz.underlying190
 a46:=Tryz.isAgg190
 z46:=Tryz.sizeOf190
 v46:=Tryz.zeroValue190
 t53:=Tryz.underlying98
 a53:=Tryz.isAgg98
 z53:=Tryz.sizeOf98
 v53:=Tryz.zeroValue98
 t119:=Tryz.underlying229
 a119:=Tryz.isAgg229
 z119:=Tryz.sizeOf229
 t138:=Tryz.underlying231
 a138:=Tryz.isAgg231
 z138:=Tryz.sizeOf231
 v138:=Tryz.zeroValue231
 t139:=Tryz.underlying232
 a139:=Tryz.isAgg232
 z139:=Tryz.sizeOf232
 v139:=Tryz.zeroValue232
 g3:=by kernel_rfl
 g4:=by kernel_rfl }
open Go.RowKit Go.Lib in
theorem Tryz.utf8_ValidString (s:ByteArray) (w:World) (hs:s.size <= 9223372036854775807) (hT:Lib.Utf8Tabs 0 1 w) :
  Calls Tryz.prog 215 #[.string s] w fun e w' => e = .returned (.bool (Lib.validD s.data.toList)) /\ Below w.heap.size w w':=Any.utf8_ValidString Tryz.laysValid s w hs hT
end Go.Proofs
namespace Go.Proofs.YtanlnhkagepniaaGreatDoor
open Go.RowKit
set_option maxHeartbeats 4000000
set_option maxRecDepth 100000
open List
section
open Go.Lib (validD)
def Tabs (w:World):Prop:=Lib.Utf8Tabs 0 1 w
theorem Tabs.below {w w':World} (h:Tabs w) (hb:Below w.heap.size w w'):Tabs w':=Utf8Tabs_below h hb
theorem Tabs.lt {w:World} (h:Tabs w):0 < w.heap.size /\ 1 < w.heap.size:=by
 have key:∀ {b o:Nat} {v:Value},w.cell? ⟨b,o,none⟩ = some v -> b < w.heap.size:=by
  intro b o v h; apply Classical.byContradiction; intro hn
  simp [World.cell?,Array.getElem?_eq_none (Nat.le_of_not_lt hn)] at h
 exact ⟨key (h.1 0 (by decide)),key (h.2 0 (by decide)).1⟩
theorem Tabs.below' {B:Nat} {w w':World} (h:Tabs w) (hb:Below B w w') (h1:0 < B) (h2:1 < B):Tabs w':=by
 refine ⟨fun c hc => ?_,fun i hi => ?_⟩
 ·rw [hb.cell (p:=⟨_,_,none⟩) h1]; exact h.1 c hc
 ·rw [hb.cell (p:=⟨_,_,none⟩) h2,hb.cell (p:=⟨_,_,none⟩) h2]; exact h.2 i hi
theorem zcU (l:L8) (w:World) (hl:l.length <= 4294967295) (hT:Tabs w) :
  Calls Tryz.prog 172 #[.string ⟨l.toArray⟩] w fun e w' => e = .returned (.bool (validD l)) /\ Below w.heap.size w w':=by
 have HC:=Lib.hid (Tryz.utf8_ValidString ⟨l.toArray⟩ w (by simp [ByteArray.size]; omega) hT)
 go_enter Tryz.func172,Tryz.ntmps172
 go_wp2_with (go_at_call 215; refine HC.out.mono ?_; rintro e w1 ⟨rfl,hb1⟩)
 go_ret;exact ⟨rfl,hb1⟩
end
section
open Go.Lib (validD)
def V.node:V -> Bool
 | .mk k n e s _ =>
  if k = 0 \/ k = 1 \/ k = 2 \/ k = 7 \/ k = 8 then decide (n = 0) && (decide (e = 0) && decide (s = []))
  else if k = 3 then decide (e = 0) && decide (s = [])
  else if k = 4 then decOk n e && decide (s = [])
  else if k = 5 then decide (s.length <= 2000) && (validD s && (decide (n = 0) && decide (e = 0)))
  else if k = 6 then decide (s.length <= 2000) && (decide (n = 0) && decide (e = 0))
  else if k = 9 then inR n 0 1000000 && (decide (e = 0) && decide (s = []))
  else false
theorem V.selfI_node (x:V):x.selfI = (x.node && V.kidsOk x.kind x.kids):=by
 obtain ⟨k,n,e,s,kids⟩:=x;show V.selfBy pairsOkI _ = (_ && V.kidsOk k kids);unfold V.node V.kidsOk V.selfBy;by_cases h0:k = 0 \/ k = 1 \/ k = 2
 ·rcases h0 with rfl | rfl | rfl <;> simp [Bool.and_assoc]
 by_cases h3:k = 3
 ·subst h3; simp [Bool.and_assoc]
 by_cases h4:k = 4
 ·subst h4; simp [Bool.and_assoc]
 by_cases h5:k = 5
 ·subst h5
  show (decide (n = 0) && (decide (e = 0) && (validD s && (decide (s.length <= 2000) && decide (kids = []))))) = ((decide (s.length <= 2000) && (validD s && (decide (n = 0) && decide (e = 0)))) && decide (kids = []))
  cases decide (n = 0) <;> cases decide (e = 0) <;> cases validD s <;> cases decide (s.length <= 2000) <;> cases decide (kids = []) <;> rfl
 by_cases h6:k = 6
 ·subst h6
  show (decide (n = 0) && (decide (e = 0) && (decide (s.length <= 2000) && decide (kids = [])))) = ((decide (s.length <= 2000) && (decide (n = 0) && decide (e = 0))) && decide (kids = []))
  cases decide (n = 0) <;> cases decide (e = 0) <;> cases decide (s.length <= 2000) <;> cases decide (kids = []) <;> rfl
 by_cases h7:k = 7
 ·subst h7; simp
 by_cases h8:k = 8
 ·subst h8; simp [Bool.and_assoc]
 by_cases h9:k = 9
 ·subst h9; simp [Bool.and_assoc]
 ·have a0:k ≠ 0:=fun e => h0 (.inl e)
  have a1:k ≠ 1:=fun e => h0 (.inr (.inl e))
  have a2:k ≠ 2:=fun e => h0 (.inr (.inr e))
  simp [a0,a1,a2,h3,h4,h5,h6,h7,h8,h9]
theorem isNode_any (x:V) (cs:List Value) (w:World) (h:Rd w x.d cs) (hwf:x.wf) (hbk:x.bulk <= 4294967295) (hT:Tabs w) :
  Calls Tryz.prog 189 #[.agg cs.toArray] w fun e w' => e = .returned (.bool x.node) /\ Below w.heap.size w w':=by
 obtain ⟨k,n,e,s,kids,v1,rfl,rfl,hkids⟩:=V.lay h;obtain ⟨a1,c1,rfl⟩:=Rd.sl_form hkids;rw [V.ds_map,length_map] at h ⊢;have hsl:s.length <= 4294967295:=by simp only [V.bulk] at hbk; omega
 have HD:=Lib.hid (fun w1 (hb:Below w.heap.size w w1) => isDec_any _ _ w1 (h.below hb) hwf);clear h hkids hbk hwf;obtain ⟨ok,hok⟩:∃ ok,V.node (.mk k n e s kids) = ok:=⟨_,rfl⟩;rw [hok];have HOK:=Lib.hid hok; clear hok
 by_cases q0:k = 0
 ·subst q0
  go_enter Tryz.func189,Tryz.ntmps189
  go_wp2
  all_goals (go_ret; refine ⟨zaB ?_,by first | exact ((Below.refl _ _).alloc lR _).alloc (by simp) _ | exact below_drewN (((Below.refl _ _).alloc lR _).alloc (by simp) _) _⟩; rw [<- HOK.out]; simp_all [V.node,isE])
 by_cases q1:k = 1
 ·subst q1
  go_enter Tryz.func189,Tryz.ntmps189
  go_wp2
  all_goals (go_ret; refine ⟨zaB ?_,by first | exact ((Below.refl _ _).alloc lR _).alloc (by simp) _ | exact below_drewN (((Below.refl _ _).alloc lR _).alloc (by simp) _) _⟩; rw [<- HOK.out]; simp_all [V.node,isE])
 by_cases q2:k = 2
 ·subst q2
  go_enter Tryz.func189,Tryz.ntmps189
  go_wp2
  all_goals (go_ret; refine ⟨zaB ?_,by first | exact ((Below.refl _ _).alloc lR _).alloc (by simp) _ | exact below_drewN (((Below.refl _ _).alloc lR _).alloc (by simp) _) _⟩; rw [<- HOK.out]; simp_all [V.node,isE])
 by_cases q7:k = 7
 ·subst q7
  go_enter Tryz.func189,Tryz.ntmps189
  go_wp2
  all_goals (go_ret; refine ⟨zaB ?_,by first | exact ((Below.refl _ _).alloc lR _).alloc (by simp) _ | exact below_drewN (((Below.refl _ _).alloc lR _).alloc (by simp) _) _⟩; rw [<- HOK.out]; simp_all [V.node,isE])
 by_cases q8:k = 8
 ·subst q8
  go_enter Tryz.func189,Tryz.ntmps189
  go_wp2
  all_goals (go_ret; refine ⟨zaB ?_,by first | exact ((Below.refl _ _).alloc lR _).alloc (by simp) _ | exact below_drewN (((Below.refl _ _).alloc lR _).alloc (by simp) _) _⟩; rw [<- HOK.out]; simp_all [V.node,isE])
 by_cases q3:k = 3
 ·subst q3
  go_enter Tryz.func189,Tryz.ntmps189
  go_wp2
  all_goals (go_ret; refine ⟨zaB ?_,by first | exact ((Below.refl _ _).alloc lR _).alloc (by simp) _ | exact below_drewN (((Below.refl _ _).alloc lR _).alloc (by simp) _) _⟩; rw [<- HOK.out]; simp_all [V.node,isE])
 by_cases q9:k = 9
 ·subst q9
  by_cases g:0 <= n /\ n <= 1000000
  ·have H:=Lib.hid (show ok = (decide (e = 0) && decide (s = [])) by rw [<- HOK.out]; simp [V.node,zaG g])
   go_enter Tryz.func189,Tryz.ntmps189
   go_wp2
   all_goals (go_ret; refine ⟨zaB ?_,by first | exact ((Below.refl _ _).alloc lR _).alloc (by simp) _ | exact (((Below.refl _ _).alloc lR _).alloc (by simp) _).setCell (by simp) _⟩; rw [H.out]; simp_all [isE])
  ·have H:=Lib.hid (show ok = false by rw [<- HOK.out]; simp [V.node,zba g])
   have H2:=Lib.hid (zba g)
   go_enter Tryz.func189,Tryz.ntmps189
   go_wp2_with (go_at_call 126; refine (zaS _ _ _ _).mono ?_; rw [H2.out]; rintro e1 w1 ⟨rfl,rfl⟩)
   all_goals (go_ret; exact ⟨by rw [H.out]; rfl,((Below.refl _ _).alloc lR _).alloc (by simp) _⟩)
 by_cases q6:k = 6
 ·subst q6
  by_cases g:s.length <= 2000
  ·have H:=Lib.hid (show ok = (decide (n = 0) && decide (e = 0)) by rw [<- HOK.out]; simp [V.node,g])
   go_enter Tryz.func189,Tryz.ntmps189
   go_wp2
   all_goals (go_ret; refine ⟨zaB ?_,by first | exact ((Below.refl _ _).alloc lR _).alloc (by simp) _ | exact (((Below.refl _ _).alloc lR _).alloc (by simp) _).setCell (by simp) _⟩; rw [H.out]; simp_all [])
  ·have H:=Lib.hid (show ok = false by rw [<- HOK.out]; simp [V.node,g])
   have g':(2000:Int) < s.length:=by omega
   go_enter Tryz.func189,Tryz.ntmps189
   go_wp2
   all_goals (go_ret; exact ⟨by rw [H.out]; rfl,((Below.refl _ _).alloc lR _).alloc (by simp) _⟩)
 by_cases q5:k = 5
 ·subst q5
  by_cases g:s.length <= 2000
  ·have g':¬ (2000:Int) < s.length:=by omega
   have g2:=decide_eq_false g'
   cases hv:validD s with
   | true =>
    have HV:=Lib.hid hv;have H:=Lib.hid (show ok = (decide (n = 0) && decide (e = 0)) by rw [<- HOK.out]; simp [V.node,g,hv]);clear hv
    go_enter Tryz.func189,Tryz.ntmps189
    go_wp2_with (go_at_call 172; refine (zcU s _ hsl (hT.below (((Below.refl _ _).alloc lR _).alloc (by simp) _))).mono ?_; rw [HV.out]; rintro e1 w1 ⟨rfl,hb1⟩; have C:=(zaY hb1).1; have F:=(zaY hb1).2; have hz1:=hb1.size; have z1:w.heap.size < w1.heap.size:=(by simp at hz1; omega); have z2:w.heap.size + 1 < w1.heap.size:=(by simp at hz1; omega); have f1:w1.cell? ⟨w.heap.size,1,none⟩ = some (.int .i64 n):=(by rw [C _ _ (by simp <;> omega)]; simp [go_sem]); have f2:w1.cell? ⟨w.heap.size,2,none⟩ = some (.int .i64 e):=(by rw [C _ _ (by simp <;> omega)]; simp [go_sem]); have f3:w1.cell? ⟨w.heap.size,3,none⟩ = some (.string ⟨s.toArray⟩):=(by rw [C _ _ (by simp <;> omega)]; simp [go_sem]); have p1:w1.cell? ⟨w.heap.size + 1,1,none⟩ = some (.int .i64 0):=(by rw [C _ _ (by simp <;> omega)]; simp [go_sem]); have p2:w1.cell? ⟨w.heap.size + 1,2,none⟩ = some (.int .i64 0):=(by rw [C _ _ (by simp <;> omega)]; simp [go_sem]); have p3:w1.cell? ⟨w.heap.size + 1,3,none⟩ = some (.string ⟨#[]⟩):=(by rw [C _ _ (by simp <;> omega)]; simp [go_sem]); have p9:w1.frozen? ⟨w.heap.size + 1,3,none⟩ = false:=(by rw [F _ _ (by simp <;> omega)]; simp [go_sem]); clear C F hz1)
    all_goals (go_ret; refine ⟨zaB ?_,by first | exact (zan (((Below.refl _ _).alloc lR _).alloc (by simp) _) hb1 lR).setCell (by simp) _ | exact zan (((Below.refl _ _).alloc lR _).alloc (by simp) _) hb1 lR⟩; rw [H.out]; simp_all [])
   | false =>
    have HV:=Lib.hid hv;have H:=Lib.hid (show ok = false by rw [<- HOK.out]; simp [V.node,hv]);clear hv
    go_enter Tryz.func189,Tryz.ntmps189
    go_wp2_with (go_at_call 172; refine (zcU s _ hsl (hT.below (((Below.refl _ _).alloc lR _).alloc (by simp) _))).mono ?_; rw [HV.out]; rintro e1 w1 ⟨rfl,hb1⟩)
    go_ret;exact ⟨by rw [H.out]; rfl,zan (((Below.refl _ _).alloc lR _).alloc (by simp) _) hb1 lR⟩
  ·have H:=Lib.hid (show ok = false by rw [<- HOK.out]; simp [V.node,g])
   have g':(2000:Int) < s.length:=by omega
   go_enter Tryz.func189,Tryz.ntmps189
   go_wp2
   all_goals (go_ret; exact ⟨by rw [H.out]; rfl,((Below.refl _ _).alloc lR _).alloc (by simp) _⟩)
 by_cases q4:k = 4
 ·subst q4
  cases hv:decOk n e with
  | true =>
   have HV:=Lib.hid (show decOk (V.num (.mk 4 n e s kids)) (V.exp (.mk 4 n e s kids)) = true from hv);have H:=Lib.hid (show ok = decide (s = []) by rw [<- HOK.out]; simp [V.node,hv]);clear hv
   go_enter Tryz.func189,Tryz.ntmps189
   go_wp2_with (go_at_call 221; refine (HD.out _ (((Below.refl _ _).alloc lR _).alloc (by simp) _)).mono ?_; rw [HV.out]; rintro e1 w1 ⟨rfl,hb1⟩; have C:=(zaY hb1).1; have F:=(zaY hb1).2; have hz1:=hb1.size; have z1:w.heap.size < w1.heap.size:=(by simp at hz1; omega); have z2:w.heap.size + 1 < w1.heap.size:=(by simp at hz1; omega); have f1:w1.cell? ⟨w.heap.size,1,none⟩ = some (.int .i64 n):=(by rw [C _ _ (by simp <;> omega)]; simp [go_sem]); have f2:w1.cell? ⟨w.heap.size,2,none⟩ = some (.int .i64 e):=(by rw [C _ _ (by simp <;> omega)]; simp [go_sem]); have f3:w1.cell? ⟨w.heap.size,3,none⟩ = some (.string ⟨s.toArray⟩):=(by rw [C _ _ (by simp <;> omega)]; simp [go_sem]); have p1:w1.cell? ⟨w.heap.size + 1,1,none⟩ = some (.int .i64 0):=(by rw [C _ _ (by simp <;> omega)]; simp [go_sem]); have p2:w1.cell? ⟨w.heap.size + 1,2,none⟩ = some (.int .i64 0):=(by rw [C _ _ (by simp <;> omega)]; simp [go_sem]); have p3:w1.cell? ⟨w.heap.size + 1,3,none⟩ = some (.string ⟨#[]⟩):=(by rw [C _ _ (by simp <;> omega)]; simp [go_sem]); have p8:w1.frozen? ⟨w.heap.size + 1,1,none⟩ = false:=(by rw [F _ _ (by simp <;> omega)]; simp [go_sem]); have p9:w1.frozen? ⟨w.heap.size + 1,2,none⟩ = false:=(by rw [F _ _ (by simp <;> omega)]; simp [go_sem]); clear C F hz1)
   have hbel:Below w.heap.size w w1:=zan (((Below.refl _ _).alloc lR _).alloc (by simp) _) hb1 lR
   go_region
   all_goals (go_wp2; go_ret; refine ⟨zaB ?_,by first | exact ((hbel.setCell (by simp) _).setCell (by simp) _).drew | exact (hbel.setCell (by simp) _).setCell (by simp) _ | exact below_drewN ((hbel.setCell (by simp) _).setCell (by simp) _) _⟩; rw [H.out]; simp [isE])
  | false =>
   have HV:=Lib.hid (show decOk (V.num (.mk 4 n e s kids)) (V.exp (.mk 4 n e s kids)) = false from hv);have H:=Lib.hid (show ok = false by rw [<- HOK.out]; simp [V.node,hv]);clear hv
   go_enter Tryz.func189,Tryz.ntmps189
   go_wp2_with (go_at_call 221; refine (HD.out _ (((Below.refl _ _).alloc lR _).alloc (by simp) _)).mono ?_; rw [HV.out]; rintro e1 w1 ⟨rfl,hb1⟩)
   go_ret;exact ⟨by rw [H.out]; rfl,zan (((Below.refl _ _).alloc lR _).alloc (by simp) _) hb1 lR⟩
 have H:=Lib.hid (show ok = false by rw [<- HOK.out]; simp [V.node,q0,q1,q2,q3,q4,q5,q6,q7,q8,q9])
 go_enter Tryz.func189,Tryz.ntmps189
 go_wp2
 all_goals (go_ret; exact ⟨by rw [H.out]; rfl,((Below.refl _ _).alloc lR _).alloc (by simp) _⟩)
end
section
section
variable {P:Program} {ops:Array Oper} {Q:Exit -> Act -> World -> Prop} {md:Region.Mode} {S:World -> Prop}
theorem zbL {i F fuel:Nat} {oi:Oper} {d:Option Tmp} {v:Value} {listed listed':Array Bool} {a:Act} {w:World} (hi:ops[i]? = some oi) (hd:oi.dst = d) (hF:F = fuel + 1) (hl:listed.setIfInBounds i true = listed')
  (hs:Region.noSelect ops = true) (hf:Region.free md ops listed i = true) (hr:(Region.ready md ops listed).contains i = true)
  (hQ:∀ c a w,Q (.panic c) (a.put d v) w -> Q (.panic c) a w) (hw:Region.wanted oi (yielded ops a.tmps) = true) (hS:S w)
  (hv:∀ w,S w -> (execOp a.eval oi).run P w = .ok (.value v) w)
  (h:wpAnyH P md ops Q S fuel listed' (a.put d v) w):wpAnyH P md ops Q S F listed a w:=by
 subst hF hd hl
 exact wpAnyH_take hi hs hf hr hQ (.inl ⟨hw,hv⟩) hS h
def skipFine (md:Region.Mode) (ops:Array Oper):List (Nat × Tmp) -> Array Bool -> Array Value -> Bool
 | [],_,_ => true
 | (i,d) :: r,listed,tmps => (match ops[i]? with | some o => decide (o.dst = some d) && !Region.wanted o (yielded ops tmps) | none => false) && (Region.free md ops listed i && ((Region.ready md ops listed).contains i &&
   skipFine md ops r (listed.setIfInBounds i true) (tmps.setIfInBounds d undef)))
def skipListed:List (Nat × Tmp) -> Array Bool -> Array Bool
 | [],listed => listed
 | (i,_) :: r,listed => skipListed r (listed.setIfInBounds i true)
def skipAct:List (Nat × Tmp) -> Act -> Act
 | [],a => a
 | (_,d) :: r,a => skipAct r { a with tmps:=a.tmps.setIfInBounds d undef }
theorem takeS {w:World} (hs:Region.noSelect ops = true) (hQ:∀ c a d w,Q (.panic c) (a.put (some d) undef) w -> Q (.panic c) a w) (hS:S w):∀ (l:List (Nat × Tmp)) {F fuel:Nat} {listed listed':Array Bool} {a:Act},F = fuel + l.length -> skipListed l listed = listed' ->
  skipFine md ops l listed a.tmps = true -> wpAnyH P md ops Q S fuel listed' (skipAct l a) w -> wpAnyH P md ops Q S F listed a w
 | [],F,fuel,listed,listed',a,hF,hl,_,h => by subst hF hl; exact h
 | (i,d) :: r,F,fuel,listed,listed',a,hF,hl,hk,h => by
  subst hF hl
  simp only [skipFine,Bool.and_eq_true] at hk;obtain ⟨h1,h2,h3,h4⟩:=hk
  cases ho:ops[i]? with
  | none => rw [ho] at h1; cases h1
  | some o =>
   rw [ho] at h1;simp only [Bool.and_eq_true,decide_eq_true_eq,Bool.not_eq_true'] at h1;obtain ⟨hd,hw⟩:=h1;refine wpAnyH_take (fuel:=fuel + r.length) (v:=undef) ho hs h2 h3 (by rw [hd]; exact fun c a w => hQ c a d w) (.inr ⟨hw,rfl⟩) hS ?_;rw [hd];exact takeS hs hQ hS r rfl rfl h4 h
theorem takeC {i F fuel:Nat} {oi:Oper} {d:Option Tmp} {listed listed':Array Bool} {a:Act} {w:World} (hi:ops[i]? = some oi) (_hd:oi.dst = d) (hF:F = fuel + 1) (hl:listed.setIfInBounds i true = listed')
  (hr:Region.ready md ops listed = [i]) (hw:Region.wanted oi (yielded ops a.tmps) = true)
  (h:∀ K':Act -> World -> Prop,Shut (∀ a w,S w -> (S w -> wpAnyH P md ops Q S fuel listed' a w) -> K' a w) -> Oper.wp P oi a w K' Q):wpAnyH P md ops Q S F listed a w:=by
 subst hF hl _hd
 refine wpAnyH_ready hr (by simp) (AllReadyH.cons hi (fun K' hK => ?_) AllReadyH.nil);rw [if_pos hw]; exact h K' hK
end
end
section
def intBox (w:World) (g:Nat) (n:Int):Prop:=w.heap[g]? = some (.cells #[.int .i64 n] 3 (0,0))
theorem intBox.cell {w:World} {g:Nat} {n:Int} (h:intBox w g n):w.cell? ⟨g,0,none⟩ = some (.int .i64 n):=cell_of_one h
theorem intBox.free {w:World} {g:Nat} {n:Int} (h:intBox w g n):w.frozen? ⟨g,0,none⟩ = false:=free_of_one h
theorem intBox.lt {w:World} {g:Nat} {n:Int} (h:intBox w g n):g < w.heap.size:=lt_of_block h
theorem intBox.below {w w':World} {g:Nat} {n:Int} (h:intBox w g n) (hb:Below w.heap.size w w'):intBox w' g n:=(hb.block g h.lt).trans h
theorem intBox.keep {S:Nat -> Prop} {w w':World} {g:Nat} {n:Int} (h:intBox w g n) (hk:Keep S w w') (hs:¬ S g):intBox w' g n:=(hk.block g h.lt hs).trans h
def GlobN (N:Nat):Prop:=0 < N /\ 1 < N
theorem Tabs.keep {S:Nat -> Prop} {w w':World} {N:Nat} (h:Tabs w) (hg:GlobN N) (hk:Keep S w w') (hN:N <= w.heap.size) (hs:∀ k,k < N -> ¬ S k):Tabs w':=h.below' (hk.below hN hs) hg.1 hg.2
end
section
open Go.Lib (validD)
def vGood (deep:Nat) (L:Int) (x:V):Bool:=V.rightBy pairsOkI (12 - deep) x && decide ((x.nodes:Int) <= L)
def vGoods (deep:Nat) (L:Int) (xs:List V):Bool:=V.rightsBy pairsOkI (12 - deep) xs && decide ((V.nodess xs:Int) <= L)
def VIsA (n:Nat):Prop:=∀ (x:V) (cs:List Value) (deep N g:Nat) (L:Int) (w:World),x.nodes <= n -> RdN N w x.d cs -> N <= g -> intBox w g L -> x.wf -> x.bulk <= 4294967295 -> Tabs w -> GlobN N -> deep <= 1000000 -> 0 <= L /\ L <= 1000 ->
 Calls Tryz.prog 143 #[.agg cs.toArray,.int .i64 deep,.pointer (some ⟨g,0,none⟩)] w fun e w' => e = .returned (.bool (vGood deep L x)) /\ (∃ L':Int,intBox w' g L' /\ (vGood deep L x = true -> L' = L - x.nodes)) /\ Keep (· = g) w w'
theorem vGood_no1 {deep:Nat} {L:Int} {x:V} (h:L - 1 < 0):vGood deep L x = false:=by
 have:=x.nodes_pos; unfold vGood; rw [decide_eq_false (by omega),Bool.and_false]
theorem vGood_no2 {deep:Nat} {L:Int} {x:V} (h:(12:Int) < deep):vGood deep L x = false:=by
 obtain ⟨k,m,e,s,kids⟩:=x;unfold vGood; simp only [V.rightBy]; rw [decide_eq_false (show ¬ (0:Int) <= 12 - deep by omega)]; simp
theorem V.nodess_ge:∀ xs:List V,xs.length <= V.nodess xs
 | [] => by simp
 | x :: xs => by have:=x.nodes_pos; have:=V.nodess_ge xs; simp only [V.nodess,length_cons]; omega
theorem vGood_no3 {deep:Nat} {L:Int} {k m e:Int} {s:L8} {kids:List V} (h:L - 1 < kids.length):vGood deep L (.mk k m e s kids) = false:=by
 have:=V.nodess_ge kids; unfold vGood; rw [decide_eq_false (by simp only [V.nodes]; omega),Bool.and_false]
theorem zgw {deep:Nat} {L:Int} {x:V} (h:x.selfI = false):vGood deep L x = false:=by
 obtain ⟨k,m,e,s,kids⟩:=x;unfold vGood; simp only [V.rightBy]; rw [show V.selfBy pairsOkI (.mk k m e s kids) = false from h]; simp
theorem vGood_yes {deep:Nat} {L:Int} {k m e:Int} {s:L8} {kids:List V} (h2:¬ (12:Int) < deep) (ho:V.selfI (.mk k m e s kids) = true) :
  vGood deep L (.mk k m e s kids) = vGoods (deep + 1) (L - 1) kids:=by
 unfold vGood vGoods; simp only [V.rightBy,V.nodes]
 rw [show V.selfBy pairsOkI (.mk k m e s kids) = true from ho,decide_eq_true (show (0:Int) <= 12 - deep by omega),show (12:Int) - deep - 1 = 12 - (deep + 1:Nat) by omega,Bool.and_true,Bool.and_true]
 congr 1; exact decide_eq_decide.2 (by omega)
def VIsC (n:Nat):Prop:=∀ (xs:List V) (va:Value) (deep N g bd bl:Nat) (L:Int) (w:World),V.nodess xs <= n -> RdN N w (.sl 5 (V.ds xs)) [va] -> N <= g -> intBox w g L -> intBox w bd deep -> bd ≠ g -> w.cell? ⟨bl,0,none⟩ = some (.pointer (some ⟨g,0,none⟩)) -> bl ≠ g ->
  V.wfs xs -> xs.length + V.bulks xs <= 4294967295 -> Tabs w -> GlobN N -> deep <= 1000 -> 0 <= L /\ L <= 1000 ->
 Calls Tryz.prog 191 #[va,.func (.func 192) #[] #[.pointer (some ⟨bd,0,none⟩),.pointer (some ⟨bl,0,none⟩)]] w fun e w' => e = .returned (.bool (!vGoods (deep + 1) L xs)) /\ (∃ L':Int,intBox w' g L' /\ (vGoods (deep + 1) L xs = true -> L' = L - V.nodess xs)) /\ Keep (· = g) w w'
theorem VIsA_of {n:Nat} (hC:VIsC n):VIsA (n + 1):=by
 intro x cs deep N g L w hn h hNg hbox hwf hbk hT hG hdeep hL;obtain ⟨k,m,e,s,kids,v2,hx,rfl,hkids⟩:=V.layS h;subst hx;have hnk:V.nodess kids <= n:=by simp only [V.nodes] at hn; omega
 obtain ⟨hL1,hL2⟩:=hL;obtain ⟨M,rfl⟩:∃ M,L = M + 1:=⟨L - 1,by omega⟩;have hglt:=hbox.lt;obtain ⟨a2,c2,rfl⟩:=Rd.sl_form (Rd.of hkids);simp only [V.ds_map,length_map] at h hkids ⊢;rw [<- V.ds_map] at hkids;have hfree:=hbox.free;have hcell:=hbox.cell;obtain ⟨W0,hW0⟩:∃ W0,W0 = ((((w.setCell ⟨g,0,none⟩ (.int .i64 M)).alloc (.cells #[.int .i64 k,.int .i64 m,.int .i64 e,.string ⟨s.toArray⟩,.slice a2 kids.length c2] 41)).alloc (.cells #[.int .i64 deep] 3)).alloc (.cells #[.pointer (some ⟨g,0,none⟩)] 167)):=⟨_,rfl⟩;have HW:=Lib.hid hW0;have hK0:Keep (· = g) w W0:=by rw [hW0]; exact (((Keep.setCell (S:=(· = g)) (p:=⟨g,0,none⟩) (Keep.refl _ _) (.inl rfl) _).alloc _).alloc _).alloc _
 have hb0:intBox W0 g M:=by
  rw [hW0]
  have:intBox (w.setCell ⟨g,0,none⟩ (.int .i64 M)) g M:=one_setCell hbox
  exact ((this.below ((Below.refl _ _).alloc lR _)).below ((Below.refl _ _).alloc lR _)).below ((Below.refl _ _).alloc lR _)
 have hbd0:intBox W0 (w.heap.size + 1) deep:=by
  rw [hW0]; unfold intBox; rw [Below.heap_alloc _ _ _ (by simp [World.setCell])]
  have:=zaR ((w.setCell ⟨g,0,none⟩ (.int .i64 M)).alloc (.cells #[.int .i64 k,.int .i64 m,.int .i64 e,.string ⟨s.toArray⟩,.slice a2 kids.length c2] 41)) (.cells #[.int .i64 deep] 3)
  simpa [World.setCell] using this
 have hng:∀ k,k < N -> ¬ k = g:=by intro k hk e; omega
 have hN:N <= w.heap.size:=by omega
 have hss:(w.setCell ⟨g,0,none⟩ (.int .i64 M)).heap.size = w.heap.size:=by simp [World.setCell]
 have hsz:W0.heap.size = w.heap.size + 3:=by rw [hW0]; simp [hss]
 have s1:g < w.heap.size + 1:=by omega
 have s2:g < w.heap.size + 1 + 1:=by omega
 have s3:g < w.heap.size + 1 + 1 + 1:=by omega
 have q1:¬ g = w.heap.size:=by omega
 have q2:¬ g = w.heap.size + 1:=by omega
 have q3:¬ g = w.heap.size + 1 + 1:=by omega
 have KB:Hid (∀ W,Below W0.heap.size W0 W -> W.cell? ⟨w.heap.size,0,none⟩ = some (.int .i64 k) /\ W.cell? ⟨w.heap.size,1,none⟩ = some (.int .i64 m) /\ W.cell? ⟨w.heap.size,2,none⟩ = some (.int .i64 e) /\ W.cell? ⟨w.heap.size,3,none⟩ = some (.string ⟨s.toArray⟩) /\ W.cell? ⟨w.heap.size,4,none⟩ = some (.slice a2 kids.length c2) /\ W.cell? ⟨w.heap.size + 1,0,none⟩ = some (.int .i64 deep) /\ W.cell? ⟨w.heap.size + 1 + 1,0,none⟩ = some (.pointer (some ⟨g,0,none⟩)) /\ W.cell? ⟨g,0,none⟩ = some (.int .i64 M)):=by
  intro W hb;obtain ⟨hc,_⟩:=zaY hb;have z1:w.heap.size < W0.heap.size:=by omega
  have z2:w.heap.size + 1 < W0.heap.size:=by omega
  have z3:w.heap.size + 1 + 1 < W0.heap.size:=by omega
  have z4:g < W0.heap.size:=by omega
  simp only [hc _ _ z1,hc _ _ z2,hc _ _ z3,hc _ _ z4,hb0.cell];subst hW0;simp [go_sem,hss]
 have hT0:=Lib.hid (hT.keep hG hK0 hN hng);have HR:=Lib.hid (show ∀ W,Below W0.heap.size W0 W -> RdN N W (V.d (.mk k m e s kids)) [.int .i64 k,.int .i64 m,.int .i64 e,.string ⟨s.toArray⟩,.slice a2 kids.length c2] from fun W hb => (h.keep hK0 hN hng).below (hb.mono (by omega)));have HRk:=Lib.hid (show ∀ W,Below W0.heap.size W0 W -> RdN N W (.sl 5 (V.ds kids)) [.slice a2 kids.length c2] from fun W hb => (RdN.keep hkids hK0 hN hng).below (hb.mono (by omega)));have HF:=Lib.hid (fun W (hb:Below W0.heap.size W0 W) => isNode_any _ _ W (HR.out W hb).rd hwf hbk (hT0.out.below hb));have HQ:=Lib.hid (fun W (hb:Below W0.heap.size W0 W) => zhw _ _ W (HR.out W hb).rd hbk);clear h hkids hT hbox hW0 hng hss q1 q2 q3;by_cases qc1:M < 0
 ·have dqc1:=decide_eq_true qc1
  have H:=Lib.hid (vGood_no1 (deep:=deep) (L:=M + 1) (x:=.mk k m e s kids) (by omega))
  go_enter Tryz.func143,Tryz.ntmps143
  go_wp2;rw [<- HW.out];have hB:=Below.refl W0.heap.size W0;obtain ⟨p0,p1,p2,p3,p4,p6,p7,p8⟩:=KB.out _ hB
  go_quiet (fail)
  go_wp2;go_ret;exact ⟨by rw [H.out]; rfl,⟨M,hb0.below (by first | exact hB | exact hB.drew | exact Go.below_drewN hB _),fun h => by rw [H.out] at h; cases h⟩,hK0.then (by first | exact hB | exact hB.drew | exact Go.below_drewN hB _)⟩
 have dqc1:=decide_eq_false qc1;by_cases qc2:(12:Int) < deep
 ·have dqc2:=decide_eq_true qc2
  have H:=Lib.hid (vGood_no2 (L:=M + 1) (x:=.mk k m e s kids) qc2)
  go_enter Tryz.func143,Tryz.ntmps143
  go_wp2;rw [<- HW.out];have hB:=Below.refl W0.heap.size W0;obtain ⟨p0,p1,p2,p3,p4,p6,p7,p8⟩:=KB.out _ hB
  go_quiet (fail)
  go_wp2;go_ret;exact ⟨by rw [H.out]; rfl,⟨M,hb0.below (by first | exact hB | exact hB.drew | exact Go.below_drewN hB _),fun h => by rw [H.out] at h; cases h⟩,hK0.then (by first | exact hB | exact hB.drew | exact Go.below_drewN hB _)⟩
 have dqc2:=decide_eq_false qc2;by_cases qc3:M < kids.length
 ·have dqc3:=decide_eq_true qc3
  have H:=Lib.hid (vGood_no3 (deep:=deep) (L:=M + 1) (k:=k) (m:=m) (e:=e) (s:=s) (kids:=kids) (by omega))
  go_enter Tryz.func143,Tryz.ntmps143
  go_wp2;rw [<- HW.out];have hB:=Below.refl W0.heap.size W0;obtain ⟨p0,p1,p2,p3,p4,p6,p7,p8⟩:=KB.out _ hB
  go_quiet (fail)
  go_wp2;go_ret;exact ⟨by rw [H.out]; rfl,⟨M,hb0.below (by first | exact hB | exact hB.drew | exact Go.below_drewN hB _),fun h => by rw [H.out] at h; cases h⟩,hK0.then (by first | exact hB | exact hB.drew | exact Go.below_drewN hB _)⟩
 have dqc3:=decide_eq_false qc3;have HSN:=Lib.hid (V.selfI_node (.mk k m e s kids))
 cases hnode:V.node (.mk k m e s kids) with
 | false =>
  have HO:=Lib.hid hnode;have H:=Lib.hid (zgw (deep:=deep) (L:=M + 1) (x:=.mk k m e s kids) (by rw [HSN.out,hnode]; rfl));clear hnode
  go_enter Tryz.func143,Tryz.ntmps143
  go_wp2;rw [<- HW.out];have hB:=Below.refl W0.heap.size W0;refine wp_region_held_drew (S:=(fun W => W.cell? ⟨w.heap.size,0,none⟩ = some (.int .i64 k) /\ W.cell? ⟨w.heap.size,1,none⟩ = some (.int .i64 m) /\ W.cell? ⟨w.heap.size,2,none⟩ = some (.int .i64 e) /\ W.cell? ⟨w.heap.size,3,none⟩ = some (.string ⟨s.toArray⟩) /\ W.cell? ⟨w.heap.size,4,none⟩ = some (.slice a2 kids.length c2) /\ W.cell? ⟨w.heap.size + 1,0,none⟩ = some (.int .i64 deep) /\ W.cell? ⟨w.heap.size + 1 + 1,0,none⟩ = some (.pointer (some ⟨g,0,none⟩)) /\ W.cell? ⟨g,0,none⟩ = some (.int .i64 M))) (by kernel_rfl) ?_ (fun hHeld => ?_)
  ·((try dsimp only); (first | exact KB.out _ hB | exact KB.out _ hB.drew))
  refine zbL (i:=0) (fuel:=26) (d:=some 12) (v:=?vr0) (listed':=#[true,false,false,false,false,false,false,false,false,false,false,false,false,false,false,false,false,false,false,false,false,false,false,false,false,false,false]) rfl rfl (by kernel_rfl) (by kernel_rfl) (by kernel_rfl) (by kernel_rfl) (by kernel_rfl) (fun _ _ _ h => h) (by kernel_rfl) (by assumption) ?hr0 ?rr0
  case hr0 => (intro w hSw; (try dsimp only at hSw); go_simp; all_goals with_reducible rfl)
  simp only [Act.put,setIfInBounds_toArray,set_cons_zero,set_cons_succ];refine zbL (i:=1) (fuel:=25) (d:=some 13) (v:=?vr1) (listed':=#[true,true,false,false,false,false,false,false,false,false,false,false,false,false,false,false,false,false,false,false,false,false,false,false,false,false,false]) rfl rfl (by kernel_rfl) (by kernel_rfl) (by kernel_rfl) (by kernel_rfl) (by kernel_rfl) (fun _ _ _ h => h) (by kernel_rfl) (by assumption) ?hr1 ?rr1
  case hr1 => (intro w hSw; (try dsimp only at hSw); go_simp; all_goals with_reducible rfl)
  simp only [Act.put,setIfInBounds_toArray,set_cons_zero,set_cons_succ];refine zbL (i:=2) (fuel:=24) (d:=some 14) (v:=?vr2) (listed':=#[true,true,true,false,false,false,false,false,false,false,false,false,false,false,false,false,false,false,false,false,false,false,false,false,false,false,false]) rfl rfl (by kernel_rfl) (by kernel_rfl) (by kernel_rfl) (by kernel_rfl) (by kernel_rfl) (fun _ _ _ h => h) (by kernel_rfl) (by assumption) ?hr2 ?rr2
  case hr2 => (intro w hSw; (try dsimp only at hSw); go_simp; all_goals with_reducible rfl)
  simp only [Act.put,setIfInBounds_toArray,set_cons_zero,set_cons_succ];refine zbL (i:=3) (fuel:=23) (d:=some 15) (v:=?vr3) (listed':=#[true,true,true,true,false,false,false,false,false,false,false,false,false,false,false,false,false,false,false,false,false,false,false,false,false,false,false]) rfl rfl (by kernel_rfl) (by kernel_rfl) (by kernel_rfl) (by kernel_rfl) (by kernel_rfl) (fun _ _ _ h => h) (by kernel_rfl) (by assumption) ?hr3 ?rr3
  case hr3 => (intro w hSw; (try dsimp only at hSw); go_simp; all_goals with_reducible rfl)
  simp only [Act.put,setIfInBounds_toArray,set_cons_zero,set_cons_succ];refine zbL (i:=4) (fuel:=22) (d:=some 16) (v:=?vr4) (listed':=#[true,true,true,true,true,false,false,false,false,false,false,false,false,false,false,false,false,false,false,false,false,false,false,false,false,false,false]) rfl rfl (by kernel_rfl) (by kernel_rfl) (by kernel_rfl) (by kernel_rfl) (by kernel_rfl) (fun _ _ _ h => h) (by kernel_rfl) (by assumption) ?hr4 ?rr4
  case hr4 => (intro w hSw; (try dsimp only at hSw); go_simp; all_goals with_reducible rfl)
  simp only [Act.put,setIfInBounds_toArray,set_cons_zero,set_cons_succ];refine zbL (i:=5) (fuel:=21) (d:=some 17) (v:=?vr5) (listed':=#[true,true,true,true,true,true,false,false,false,false,false,false,false,false,false,false,false,false,false,false,false,false,false,false,false,false,false]) rfl rfl (by kernel_rfl) (by kernel_rfl) (by kernel_rfl) (by kernel_rfl) (by kernel_rfl) (fun _ _ _ h => h) (by kernel_rfl) (by assumption) ?hr5 ?rr5
  case hr5 => (intro w hSw; (try dsimp only at hSw); go_simp; all_goals with_reducible rfl)
  simp only [Act.put,setIfInBounds_toArray,set_cons_zero,set_cons_succ];refine zbL (i:=6) (fuel:=20) (d:=some 18) (v:=?vr6) (listed':=#[true,true,true,true,true,true,true,false,false,false,false,false,false,false,false,false,false,false,false,false,false,false,false,false,false,false,false]) rfl rfl (by kernel_rfl) (by kernel_rfl) (by kernel_rfl) (by kernel_rfl) (by kernel_rfl) (fun _ _ _ h => h) (by kernel_rfl) (by assumption) ?hr6 ?rr6
  case hr6 => (intro w hSw; (try dsimp only at hSw); go_simp; all_goals with_reducible rfl)
  simp only [Act.put,setIfInBounds_toArray,set_cons_zero,set_cons_succ];refine zbL (i:=7) (fuel:=19) (d:=some 19) (v:=?vr7) (listed':=#[true,true,true,true,true,true,true,true,false,false,false,false,false,false,false,false,false,false,false,false,false,false,false,false,false,false,false]) rfl rfl (by kernel_rfl) (by kernel_rfl) (by kernel_rfl) (by kernel_rfl) (by kernel_rfl) (fun _ _ _ h => h) (by kernel_rfl) (by assumption) ?hr7 ?rr7
  case hr7 => (intro w hSw; (try dsimp only at hSw); go_simp; all_goals with_reducible rfl)
  simp only [Act.put,setIfInBounds_toArray,set_cons_zero,set_cons_succ];refine zbL (i:=8) (fuel:=18) (d:=some 20) (v:=?vr8) (listed':=#[true,true,true,true,true,true,true,true,true,false,false,false,false,false,false,false,false,false,false,false,false,false,false,false,false,false,false]) rfl rfl (by kernel_rfl) (by kernel_rfl) (by kernel_rfl) (by kernel_rfl) (by kernel_rfl) (fun _ _ _ h => h) (by kernel_rfl) (by assumption) ?hr8 ?rr8
  case hr8 => (intro w hSw; (try dsimp only at hSw); go_simp; all_goals with_reducible rfl)
  simp only [Act.put,setIfInBounds_toArray,set_cons_zero,set_cons_succ];refine zbL (i:=9) (fuel:=17) (d:=some 21) (v:=?vr9) (listed':=#[true,true,true,true,true,true,true,true,true,true,false,false,false,false,false,false,false,false,false,false,false,false,false,false,false,false,false]) rfl rfl (by kernel_rfl) (by kernel_rfl) (by kernel_rfl) (by kernel_rfl) (by kernel_rfl) (fun _ _ _ h => h) (by kernel_rfl) (by assumption) ?hr9 ?rr9
  case hr9 => (intro w hSw; (try dsimp only at hSw); go_simp; all_goals with_reducible rfl)
  simp only [Act.put,setIfInBounds_toArray,set_cons_zero,set_cons_succ];refine zbL (i:=10) (fuel:=16) (d:=some 22) (v:=?vr10) (listed':=#[true,true,true,true,true,true,true,true,true,true,true,false,false,false,false,false,false,false,false,false,false,false,false,false,false,false,false]) rfl rfl (by kernel_rfl) (by kernel_rfl) (by kernel_rfl) (by kernel_rfl) (by kernel_rfl) (fun _ _ _ h => h) (by kernel_rfl) (by assumption) ?hr10 ?rr10
  case hr10 => (intro w hSw; (try dsimp only at hSw); go_simp; all_goals with_reducible rfl)
  simp only [Act.put,setIfInBounds_toArray,set_cons_zero,set_cons_succ];refine zbL (i:=11) (fuel:=15) (d:=some 23) (v:=?vr11) (listed':=#[true,true,true,true,true,true,true,true,true,true,true,true,false,false,false,false,false,false,false,false,false,false,false,false,false,false,false]) rfl rfl (by kernel_rfl) (by kernel_rfl) (by kernel_rfl) (by kernel_rfl) (by kernel_rfl) (fun _ _ _ h => h) (by kernel_rfl) (by assumption) ?hr11 ?rr11
  case hr11 => (intro w hSw; (try dsimp only at hSw); go_simp; all_goals with_reducible rfl)
  simp only [Act.put,setIfInBounds_toArray,set_cons_zero,set_cons_succ];refine zbL (i:=12) (fuel:=14) (d:=some 24) (v:=?vr12) (listed':=#[true,true,true,true,true,true,true,true,true,true,true,true,true,false,false,false,false,false,false,false,false,false,false,false,false,false,false]) rfl rfl (by kernel_rfl) (by kernel_rfl) (by kernel_rfl) (by kernel_rfl) (by kernel_rfl) (fun _ _ _ h => h) (by kernel_rfl) (by assumption) ?hr12 ?rr12
  case hr12 => (intro w hSw; (try dsimp only at hSw); go_simp; all_goals with_reducible rfl)
  simp only [Act.put,setIfInBounds_toArray,set_cons_zero,set_cons_succ];refine zbL (i:=13) (fuel:=13) (d:=some 25) (v:=?vr13) (listed':=#[true,true,true,true,true,true,true,true,true,true,true,true,true,true,false,false,false,false,false,false,false,false,false,false,false,false,false]) rfl rfl (by kernel_rfl) (by kernel_rfl) (by kernel_rfl) (by kernel_rfl) (by kernel_rfl) (fun _ _ _ h => h) (by kernel_rfl) (by assumption) ?hr13 ?rr13
  case hr13 => (intro w hSw; (try dsimp only at hSw); go_simp; all_goals with_reducible rfl)
  simp only [Act.put,setIfInBounds_toArray,set_cons_zero,set_cons_succ];refine zbL (i:=14) (fuel:=12) (d:=some 26) (v:=?vr14) (listed':=#[true,true,true,true,true,true,true,true,true,true,true,true,true,true,true,false,false,false,false,false,false,false,false,false,false,false,false]) rfl rfl (by kernel_rfl) (by kernel_rfl) (by kernel_rfl) (by kernel_rfl) (by kernel_rfl) (fun _ _ _ h => h) (by kernel_rfl) (by assumption) ?hr14 ?rr14
  case hr14 => (intro w hSw; (try dsimp only at hSw); go_simp; all_goals with_reducible rfl)
  simp only [Act.put,setIfInBounds_toArray,set_cons_zero,set_cons_succ];refine zbL (i:=15) (fuel:=11) (d:=some 27) (v:=?vr15) (listed':=#[true,true,true,true,true,true,true,true,true,true,true,true,true,true,true,true,false,false,false,false,false,false,false,false,false,false,false]) rfl rfl (by kernel_rfl) (by kernel_rfl) (by kernel_rfl) (by kernel_rfl) (by kernel_rfl) (fun _ _ _ h => h) (by kernel_rfl) (by assumption) ?hr15 ?rr15
  case hr15 => (intro w hSw; (try dsimp only at hSw); go_simp; all_goals with_reducible rfl)
  simp only [Act.put,setIfInBounds_toArray,set_cons_zero,set_cons_succ];refine zbL (i:=16) (fuel:=10) (d:=some 28) (v:=?vr16) (listed':=#[true,true,true,true,true,true,true,true,true,true,true,true,true,true,true,true,true,false,false,false,false,false,false,false,false,false,false]) rfl rfl (by kernel_rfl) (by kernel_rfl) (by kernel_rfl) (by kernel_rfl) (by kernel_rfl) (fun _ _ _ h => h) (by kernel_rfl) (by assumption) ?hr16 ?rr16
  case hr16 => (intro w hSw; (try dsimp only at hSw); go_simp; all_goals with_reducible rfl)
  simp only [Act.put,setIfInBounds_toArray,set_cons_zero,set_cons_succ];refine zbL (i:=17) (fuel:=9) (d:=some 29) (v:=?vr17) (listed':=#[true,true,true,true,true,true,true,true,true,true,true,true,true,true,true,true,true,true,false,false,false,false,false,false,false,false,false]) rfl rfl (by kernel_rfl) (by kernel_rfl) (by kernel_rfl) (by kernel_rfl) (by kernel_rfl) (fun _ _ _ h => h) (by kernel_rfl) (by assumption) ?hr17 ?rr17
  case hr17 => (intro w hSw; (try dsimp only at hSw); go_simp; all_goals with_reducible rfl)
  simp only [Act.put,setIfInBounds_toArray,set_cons_zero,set_cons_succ];refine zbL (i:=18) (fuel:=8) (d:=some 30) (v:=?vr18) (listed':=#[true,true,true,true,true,true,true,true,true,true,true,true,true,true,true,true,true,true,true,false,false,false,false,false,false,false,false]) rfl rfl (by kernel_rfl) (by kernel_rfl) (by kernel_rfl) (by kernel_rfl) (by kernel_rfl) (fun _ _ _ h => h) (by kernel_rfl) (by assumption) ?hr18 ?rr18
  case hr18 => (intro w hSw; (try dsimp only at hSw); go_simp; all_goals with_reducible rfl)
  simp only [Act.put,setIfInBounds_toArray,set_cons_zero,set_cons_succ];refine takeC (i:=19) (fuel:=7) (d:=some 31) (listed':=#[true,true,true,true,true,true,true,true,true,true,true,true,true,true,true,true,true,true,true,true,false,false,false,false,false,false,false]) rfl rfl (by kernel_rfl) (by kernel_rfl) (by kernel_rfl) (by kernel_rfl) (fun K hK => ?cr19)
  go_simp
  ((go_at_call 189; with_reducible refine (HF.out _ (by first | exact hB | exact hB.drew)).mono ?_; rw [HO.out]; rintro e1 w1 ⟨rfl,hb1⟩; replace hB:=zan (by first | exact hB | exact hB.drew) hb1 lR))
  go_wp2_with fail
  refine hK.out _ _ ?kr19 (fun hHeld => ?nr19)
  case kr19 => ((try dsimp only); (first | exact KB.out _ hB | exact KB.out _ hB.drew))
  clear hK K
  try simp only [skipAct,Act.put,setIfInBounds_toArray,set_cons_zero,set_cons_succ]
  refine zbL (i:=20) (fuel:=6) (d:=some 32) (v:=?vr20) (listed':=#[true,true,true,true,true,true,true,true,true,true,true,true,true,true,true,true,true,true,true,true,true,false,false,false,false,false,false]) rfl rfl (by kernel_rfl) (by kernel_rfl) (by kernel_rfl) (by kernel_rfl) (by kernel_rfl) (fun _ _ _ h => h) (by kernel_rfl) (by assumption) ?hr20 ?rr20
  case hr20 => (intro w hSw; (try dsimp only at hSw); go_simp; all_goals with_reducible rfl)
  simp only [Act.put,setIfInBounds_toArray,set_cons_zero,set_cons_succ];refine zbL (i:=21) (fuel:=5) (d:=some 33) (v:=?vr21) (listed':=#[true,true,true,true,true,true,true,true,true,true,true,true,true,true,true,true,true,true,true,true,true,true,false,false,false,false,false]) rfl rfl (by kernel_rfl) (by kernel_rfl) (by kernel_rfl) (by kernel_rfl) (by kernel_rfl) (fun _ _ _ h => h) (by kernel_rfl) (by assumption) ?hr21 ?rr21
  case hr21 => (intro w hSw; (try dsimp only at hSw); go_simp; all_goals with_reducible rfl)
  simp only [Act.put,setIfInBounds_toArray,set_cons_zero,set_cons_succ];refine zbL (i:=22) (fuel:=4) (d:=some 34) (v:=?vr22) (listed':=#[true,true,true,true,true,true,true,true,true,true,true,true,true,true,true,true,true,true,true,true,true,true,true,false,false,false,false]) rfl rfl (by kernel_rfl) (by kernel_rfl) (by kernel_rfl) (by kernel_rfl) (by kernel_rfl) (fun _ _ _ h => h) (by kernel_rfl) (by assumption) ?hr22 ?rr22
  case hr22 => (intro w hSw; (try dsimp only at hSw); go_simp; all_goals with_reducible rfl)
  simp only [Act.put,setIfInBounds_toArray,set_cons_zero,set_cons_succ];refine takeS (fuel:=1) (listed':=#[true,true,true,true,true,true,true,true,true,true,true,true,true,true,true,true,true,true,true,true,true,true,true,true,true,true,false]) (by kernel_rfl) (fun _ _ _ _ h => h) (by assumption) [(23,35),(24,36),(25,37)] (by kernel_rfl) (by kernel_rfl) (by kernel_rfl) ?_;simp only [skipAct,setIfInBounds_toArray,set_cons_zero,set_cons_succ];refine zbL (i:=26) (fuel:=0) (d:=some 38) (v:=?vr26) (listed':=#[true,true,true,true,true,true,true,true,true,true,true,true,true,true,true,true,true,true,true,true,true,true,true,true,true,true,true]) rfl rfl (by kernel_rfl) (by kernel_rfl) (by kernel_rfl) (by kernel_rfl) (by kernel_rfl) (fun _ _ _ h => h) (by kernel_rfl) (by assumption) ?hr26 ?rr26
  case hr26 => (intro w hSw; (try dsimp only at hSw); go_simp; all_goals with_reducible rfl)
  simp only [Act.put,setIfInBounds_toArray,set_cons_zero,set_cons_succ];refine wpAnyH_done (by kernel_rfl) ?_ _;go_wp2;go_ret
  exact ⟨by rw [H.out]; rfl,⟨M,hb0.below (by first | exact hB | exact hB.drew | exact Go.below_drewN hB _),fun h => by rw [H.out] at h; cases h⟩,hK0.then (by first | exact hB | exact hB.drew | exact Go.below_drewN hB _)⟩
 | true =>
  have HO:=Lib.hid hnode
  cases hkk:V.kidsOk k kids with
  | false =>
   have HKK:=Lib.hid (show V.kidsOk (V.kind (.mk k m e s kids)) (V.kids (.mk k m e s kids)) = false from hkk);have H:=Lib.hid (zgw (deep:=deep) (L:=M + 1) (x:=.mk k m e s kids) (by rw [HSN.out,hnode]; exact hkk));clear hnode hkk
   go_enter Tryz.func143,Tryz.ntmps143
   go_wp2;rw [<- HW.out];have hB:=Below.refl W0.heap.size W0
   go_region_held3 (fun W => W.cell? ⟨w.heap.size,0,none⟩ = some (.int .i64 k) /\ W.cell? ⟨w.heap.size,1,none⟩ = some (.int .i64 m) /\ W.cell? ⟨w.heap.size,2,none⟩ = some (.int .i64 e) /\ W.cell? ⟨w.heap.size,3,none⟩ = some (.string ⟨s.toArray⟩) /\ W.cell? ⟨w.heap.size,4,none⟩ = some (.slice a2 kids.length c2) /\ W.cell? ⟨w.heap.size + 1,0,none⟩ = some (.int .i64 deep) /\ W.cell? ⟨w.heap.size + 1 + 1,0,none⟩ = some (.pointer (some ⟨g,0,none⟩)) /\ W.cell? ⟨g,0,none⟩ = some (.int .i64 M))
    (first | exact KB.out _ hB | exact KB.out _ hB.drew)
    (first | (go_at_call 189; with_reducible refine (HF.out _ (by first | exact hB | exact hB.drew)).mono ?_; rw [HO.out]; rintro e1 w1 ⟨rfl,hb1⟩; replace hB:=zan (by first | exact hB | exact hB.drew) hb1 lR) | (go_at_call 190; with_reducible refine (HQ.out _ (by first | exact hB | exact hB.drew)).mono ?_; rw [HKK.out]; rintro e1 w1 ⟨rfl,hb1⟩; replace hB:=zan (by first | exact hB | exact hB.drew) hb1 lR))
   go_wp2;go_ret
   exact ⟨by rw [H.out]; rfl,⟨M,hb0.below (by first | exact hB | exact hB.drew | exact Go.below_drewN hB _),fun h => by rw [H.out] at h; cases h⟩,hK0.then (by first | exact hB | exact hB.drew | exact Go.below_drewN hB _)⟩
  | true =>
   have HKK:=Lib.hid (show V.kidsOk (V.kind (.mk k m e s kids)) (V.kids (.mk k m e s kids)) = true from hkk);have H0:=vGood_yes (L:=M + 1) qc2 (show V.selfI (.mk k m e s kids) = true by rw [HSN.out,hnode]; exact hkk);rw [show M + 1 - 1 = M by omega] at H0;have H:=Lib.hid H0;clear H0 hnode hkk
   go_enter Tryz.func143,Tryz.ntmps143
   go_wp2;rw [<- HW.out];have hB:=Below.refl W0.heap.size W0
   go_region_held3 (fun W => W.cell? ⟨w.heap.size,0,none⟩ = some (.int .i64 k) /\ W.cell? ⟨w.heap.size,1,none⟩ = some (.int .i64 m) /\ W.cell? ⟨w.heap.size,2,none⟩ = some (.int .i64 e) /\ W.cell? ⟨w.heap.size,3,none⟩ = some (.string ⟨s.toArray⟩) /\ W.cell? ⟨w.heap.size,4,none⟩ = some (.slice a2 kids.length c2) /\ W.cell? ⟨w.heap.size + 1,0,none⟩ = some (.int .i64 deep) /\ W.cell? ⟨w.heap.size + 1 + 1,0,none⟩ = some (.pointer (some ⟨g,0,none⟩)) /\ W.cell? ⟨g,0,none⟩ = some (.int .i64 M))
    (first | exact KB.out _ hB | exact KB.out _ hB.drew)
    (first | (go_at_call 189; with_reducible refine (HF.out _ (by first | exact hB | exact hB.drew)).mono ?_; rw [HO.out]; rintro e1 w1 ⟨rfl,hb1⟩; replace hB:=zan (by first | exact hB | exact hB.drew) hb1 lR) | (go_at_call 190; with_reducible refine (HQ.out _ (by first | exact hB | exact hB.drew)).mono ?_; rw [HKK.out]; rintro e1 w1 ⟨rfl,hb1⟩; replace hB:=zan (by first | exact hB | exact hB.drew) hb1 lR))
   obtain ⟨p0,p1,p2,p3,p4,p6,p7,p8⟩:=KB.out _ hB;have hkw:V.wfs kids:=hwf.2.2.2.2.2;have hkb:kids.length + V.bulks kids <= 4294967295:=by simp only [V.bulk] at hbk; omega
   have HCC:=Lib.hid (hC kids _ deep N g (w.heap.size + 1) (w.heap.size + 1 + 1) M _ hnk (HRk.out _ hB) hNg (hb0.below hB) (hbd0.below hB) (by omega) p7 (by omega) hkw hkb (hT0.out.below hB) hG (by omega) (by omega))
   go_wp2_with (go_at_call 191; refine HCC.out.mono ?_; rintro e1 w2 ⟨rfl,⟨L',hbx,hL'⟩,hk2⟩)
   go_ret;exact ⟨by rw [H.out]; simp,⟨L',hbx,fun hh => by rw [H.out] at hh; rw [hL' hh]; simp only [V.nodes]; omega⟩,(hK0.then hB).trans hk2⟩
theorem zgx {n:Nat} (hA:VIsA n) (x:V) (cs:List Value) (deep N g bd bl:Nat) (L:Int) (w:World) (hn:x.nodes <= n) (h:RdN N w x.d cs) (hNg:N <= g) (hbox:intBox w g L) (hbd:intBox w bd deep) (hbl:w.cell? ⟨bl,0,none⟩ = some (.pointer (some ⟨g,0,none⟩)))
  (hwf:x.wf) (hbk:x.bulk <= 4294967295) (hT:Tabs w) (hG:GlobN N) (hdeep:deep <= 1000) (hL:0 <= L /\ L <= 1000) :
  Calls Tryz.prog 192 #[.agg cs.toArray,.pointer (some ⟨bd,0,none⟩),.pointer (some ⟨bl,0,none⟩)] w fun e w' => e = .returned (.bool (!vGood (deep + 1) L x)) /\ (∃ L':Int,intBox w' g L' /\ (vGood (deep + 1) L x = true -> L' = L - x.nodes)) /\ Keep (· = g) w w':=by
 obtain ⟨k,m,e,s,a2,n2,c2,rfl⟩:=V.form h.rd;have hb1:=hbd.cell;have hz1:=hbd.lt;have hz2:bl < w.heap.size:=zff hbl;have hN:N <= w.heap.size:=by have:=hbox.lt; omega
 have hal:Below w.heap.size w (w.alloc (.cells #[.int .i64 k,.int .i64 m,.int .i64 e,.string ⟨s.toArray⟩,.slice a2 n2 c2] 41)):=(Below.refl _ _).alloc lR _;have HCC:=Lib.hid (hA x _ (deep + 1) N g L _ hn (h.below (hal.mono hN)) hNg (hbox.below hal) hwf hbk (hT.below hal) hG (by omega) hL)
 go_enter Tryz.func192,Tryz.ntmps192
 go_wp2_with (go_at_call 143; refine HCC.out.mono ?_; rintro e w1 ⟨rfl,hL',hk1⟩)
 go_ret;exact ⟨rfl,hL',(Keep.of_below hal).trans hk1⟩
theorem zhx (deep:Nat) (L:Int) (xs:List V) (k:Nat) (hk:k < xs.length) (h:vGoods deep L (xs.take k) = true) :
  vGoods deep L (xs.take (k + 1)) = vGood deep (L - V.nodess (xs.take k)) xs[k]:=by
 have hn:∀ (ls:List V) (x:V),V.nodess (ls ++ [x]) = V.nodess ls + x.nodes:=by
  intro ls x; induction ls with
  | nil => simp [V.nodess]
  | cons a ls ih => simp only [cons_append,V.nodess,ih]; omega
 unfold vGoods at h ⊢; unfold vGood
 rw [take_succ_eq_append_getElem hk,hn,V.rightsBy_all,all_append];rw [V.rightsBy_all] at h;simp only [Bool.and_eq_true,decide_eq_true_eq] at h;rw [h.1,Bool.true_and]
 congr 1
 ·simp
 ·exact decide_eq_decide.2 (by omega)
theorem vGoods_cut (deep:Nat) (L:Int) (xs:List V) (k:Nat) (h:vGoods deep L (xs.take k) = false):vGoods deep L xs = false:=by
 have hn:∀ (ls ms:List V),V.nodess (ls ++ ms) = V.nodess ls + V.nodess ms:=by
  intro ls ms; induction ls with
  | nil => simp [V.nodess]
  | cons a ls ih => simp only [cons_append,V.nodess,ih]; omega
 cases hk:vGoods deep L xs with
 | false => rfl
 | true =>
  exfalso;rw [<- take_append_drop k xs] at hk;unfold vGoods at h hk;rw [V.rightsBy_all,all_append,hn] at hk;rw [V.rightsBy_all] at h;simp only [Bool.and_eq_true,decide_eq_true_eq] at hk;rw [hk.1.1,decide_eq_true (by omega)] at h; cases h
theorem zgy {n:Nat} (hA:VIsA n) (xs:List V) (va:Value) (deep N g bd bl:Nat) (L:Int) (w:World) (hn:V.nodess xs <= n) (h:RdN N w (.sl 5 (V.ds xs)) [va]) (hNg:N <= g) (hbox:intBox w g L) (hbd:intBox w bd deep) (hbg:bd ≠ g) (hbl:w.cell? ⟨bl,0,none⟩ = some (.pointer (some ⟨g,0,none⟩))) (hlg:bl ≠ g)
  (hwf:V.wfs xs) (hbk:xs.length + V.bulks xs <= 4294967295) (hT:Tabs w) (hG:GlobN N) (hdeep:deep <= 1000) (hL:0 <= L /\ L <= 1000) :
  Calls Tryz.prog 223 #[va,.func (.func 192) #[] #[.pointer (some ⟨bd,0,none⟩),.pointer (some ⟨bl,0,none⟩)]] w fun e w' => (∃ r:Int,e = .returned (.int .i64 r) /\ decide (0 <= r) = !vGoods (deep + 1) L xs) /\ (∃ L':Int,intBox w' g L' /\ (vGoods (deep + 1) L xs = true -> L' = L - V.nodess xs)) /\ Keep (· = g) w w':=by
 have hN:N <= w.heap.size:=by have:=hbox.lt; omega
 have hng:∀ k,k < N -> ¬ k = g:=by intro k hk e; omega
 have hz1:=hbd.lt;have hz2:bl < w.heap.size:=zff hbl;have hlen:xs.length <= 4294967295:=by omega
 obtain ⟨a,c,rfl,hg⟩:=RepC.values h;obtain ⟨ok,hok⟩:∃ ok,vGoods (deep + 1) L xs = ok:=⟨_,rfl⟩;rw [hok];have HOK:=Lib.hid hok; clear hok
 obtain ⟨hL1,hL2⟩:=hL
 go_enter Tryz.func223,Tryz.ntmps223
 go_wp2
 go_loopw [8] (fun i wr => ∃ (k:Nat),k <= xs.length /\ i = .int .i64 k /\ intBox wr g (L - V.nodess (xs.take k)) /\ vGoods (deep + 1) L (xs.take k) = true /\ Keep (· = g) w wr) (fun i _ => xs.length - (intOf i).toNat)
 case atStart => exact ⟨0,Nat.zero_le _,rfl,by simpa [V.nodess] using hbox,by simp [vGoods,V.rightsBy,V.nodess,hL1],Keep.refl _ _⟩
 case round =>
  obtain ⟨k,hk,rfl,hbx,hgd,hkp⟩:=hrel;have HGD:=Lib.hid hgd;have hle:(V.nodess (xs.take k):Int) <= L:=by unfold vGoods at hgd; simp only [Bool.and_eq_true,decide_eq_true_eq] at hgd; exact hgd.2
  clear hgd;by_cases hlt:k < xs.length
  ·obtain ⟨_,_,b,o,rfl,hb,hcell⟩:=hg (by intro e; rw [e] at hlt; simp at hlt)
   obtain ⟨v0,v1,v2,v3,v4,hr,d0,d1,d2,d3,d4⟩:=hcell k hlt;clear hcell hg;obtain ⟨k1,k2,k3,s4,a6,n6,m6,hcs⟩:=V.formS hr;simp only [cons.injEq,and_true] at hcs;obtain ⟨rfl,rfl,rfl,rfl,rfl⟩:=hcs;have hbN:b < w.heap.size:=by omega
   have hbg':=hng b hb;rw [<- hkp.cell hbN hbg'] at d0 d1 d2 d3 d4;have hi1:(0:Int) <= k:=by omega
   have hi3:(k:Int) < xs.length:=by omega
   have hnk:xs[k].nodes <= n:=Nat.le_trans (V.nodes_get xs k hlt) hn;have HC:=Lib.hid (zgx hA xs[k] _ deep N g bd bl _ wr hnk (RdN.keep (N:=N) hr hkp hN hng) hNg hbx (hbd.keep hkp hbg) (by rw [hkp.cell hz2 hlg]; exact hbl) (V.wfs_get hwf k hlt) (V.bulk_get' hbk k hlt) (hT.keep hG hkp hN hng) hG hdeep (by omega));have HSN:=Lib.hid (zhx (deep + 1) L xs k hlt HGD.out)
   have hns:V.nodess (xs.take (k + 1)) = V.nodess (xs.take k) + xs[k].nodes:=by
    rw [take_succ_eq_append_getElem hlt]
    have hn:∀ (ls:List V) (x:V),V.nodess (ls ++ [x]) = V.nodess ls + x.nodes:=by
     intro ls x; induction ls with
     | nil => simp [V.nodess]
     | cons a ls ih => simp only [cons_append,V.nodess,ih]; omega
    exact hn _ _
   have HNS:=Lib.hid hns;clear hns hr hbx h hT hwf hbk hng hbox hbd hbl
   cases hgd:vGood (deep + 1) (L - V.nodess (xs.take k)) xs[k] with
   | true =>
    have HG:=Lib.hid hgd; clear hgd
    go_wp2_with (go_at_call 192; refine HC.out.mono ?_; rw [HG.out]; rintro e w1 ⟨rfl,⟨L',hbx1,hL'⟩,hk1⟩)
    go_roundw
    case rel => exact ⟨k + 1,by omega,by go_num,by rw [show L - (V.nodess (xs.take (k + 1)):Int) = L' by rw [hL' trivial,HNS.out]; omega]; exact hbx1,by rw [HSN.out,HG.out],hkp.trans hk1⟩
    case measure => simp [intOf]; omega
   | false =>
    have HG:=Lib.hid hgd; clear hgd
    have HF:=Lib.hid (show ok = false by rw [<- HOK.out]; exact vGoods_cut _ _ _ (k + 1) (by rw [HSN.out,HG.out]))
    go_wp2_with (go_at_call 192; refine HC.out.mono ?_; rw [HG.out]; rintro e w1 ⟨rfl,⟨L',hbx1,hL'⟩,hk1⟩)
    go_ret;exact ⟨⟨_,rfl,by rw [HF.out]; simp⟩,⟨L',hbx1,fun hh => by rw [HF.out] at hh; cases hh⟩,hkp.trans hk1⟩
  ·obtain rfl:k = xs.length:=by omega
   have h1:=HGD.out;rw [take_length] at h1 hbx;have HF:=Lib.hid (show ok = true by rw [<- HOK.out]; exact h1);clear h1;go_wp2;go_ret;exact ⟨⟨_,rfl,by rw [HF.out]; rfl⟩,⟨_,hbx,fun _ => rfl⟩,hkp⟩
theorem VIsC_of {n:Nat} (hA:VIsA n):VIsC n:=by
 intro xs va deep N g bd bl L w hn h hNg hbox hbd hbg hbl hlg hwf hbk hT hG hdeep hL;have HC:=Lib.hid (zgy hA xs va deep N g bd bl L w hn h hNg hbox hbd hbg hbl hlg hwf hbk hT hG hdeep hL)
 go_enter Tryz.func191,Tryz.ntmps191
 go_wp2_with (go_at_call 223; refine HC.out.mono ?_; rintro e w1 ⟨⟨r,rfl,hr⟩,hL',hk1⟩; have HR:=Lib.hid hr; clear hr)
 go_ret;exact ⟨by rw [<- HR.out]; rfl,hL',hk1⟩
theorem VIs_all:∀ n,VIsA n
 | 0 => fun x cs deep N g L w hn => absurd x.nodes_pos (by omega)
 | n + 1 => VIsA_of (VIsC_of (VIs_all n))
theorem zgz (x:V) (cs:List Value) (w:World) (h:Rd w x.d cs) (hwf:x.wf) (hbk:x.bulk <= 4294967295) (hT:Tabs w) :
  Calls Tryz.prog 87 #[.agg cs.toArray] w fun e w' => e = .returned (.bool x.ok) /\ Below w.heap.size w w':=by
 obtain ⟨k,m,e,s,a2,n2,c2,rfl⟩:=V.form h;obtain ⟨W0,hW0⟩:∃ W0,W0 = (w.alloc (.cells #[.int .i64 k,.int .i64 m,.int .i64 e,.string ⟨s.toArray⟩,.slice a2 n2 c2] 41)).alloc (.cells #[.int .i64 300] 3):=⟨_,rfl⟩;have HW:=Lib.hid hW0;have hA:Below w.heap.size w W0:=by rw [hW0]; exact ((Below.refl _ _).alloc lR _).alloc (by simp) _
 have hbx:intBox W0 (w.heap.size + 1) 300:=by
  rw [hW0]
  have:=zaR (w.alloc (.cells #[.int .i64 k,.int .i64 m,.int .i64 e,.string ⟨s.toArray⟩,.slice a2 n2 c2] 41)) (.cells #[.int .i64 300] 3)
  simpa [intBox] using this
 have HC:=Lib.hid (VIs_all x.nodes x _ 0 w.heap.size (w.heap.size + 1) 300 W0 lR (h.rdN.below hA) (by omega) hbx hwf hbk (hT.below hA) ⟨hT.lt.1,hT.lt.2⟩ (by decide) (by decide));have hsz:W0.heap.size = w.heap.size + 2:=by rw [hW0]; simp
 clear hW0 h hbx
 go_enter Tryz.func87,Tryz.ntmps87
 go_wp2_with (go_at_call 143; rw [<- HW.out]; refine HC.out.mono ?_; rintro e w1 ⟨rfl,_,hk1⟩)
 go_ret;refine ⟨zaB ?_,hA.trans (hk1.below (by omega) (fun k hk e => by omega))⟩;show vGood 0 300 x = _;rw [<- V.ok_impl]; unfold vGood; congr 1
 exact decide_eq_decide.2 (by omega)
end
section
variable {T:World -> Prop} {hT:Low ngl T}
theorem voki_fn (hTab:∀ w,T w -> Tabs w) (v:V) (hw:v.wf) (hb:v.bulk <= 4294967295):FnV (env T hT) 87 [.ag (vC v)] (.d (pB v.ok)):=by
 refine FnV.old rfl fun w C vs hF _ ht hlen hv => ?_
 match vs,hlen with
 | [a],_ =>
  have h0:=hv 0 _ _ rfl rfl;rw [<- V.pc_eq] at h0;obtain ⟨cs,rfl,h1⟩:=vRd hF (V.wfd v) h0;exact zgz v cs w h1 hw hb (hTab w ht)
end
section
open Go.Lib (validD)
variable {T:World -> Prop} {hT:Low ngl T}
attribute [local irreducible] po mw pt
theorem po_slcg {E:Env} {d n:Nat} {x:X} {g:Option (Nat × Bool)} {lo hi:Option X} {c:List X} {r:List MOpr} {K:St -> Prop} {tm:Nat -> PV} {bx:LP PC} {nt:Nat} {live:List Nat} {t l h:Nat} {es rs:LP PC} (hg:gd g tm = some true) (hx:ev tm x = .d (.sl t es)) (hl:bound (ev tm) 0 lo = some l) (hh:bound (ev tm) es.length hi = some h) (hle:l <= h /\ h <= es.length) (hw:∀ e ∈ es,e.length = n) (hr:(es.drop l).take (h - l) = rs)
  (k:po E r K ⟨up d (.d (.sl 0 rs)) tm,bx,nt,live⟩):po E (⟨some d,.slc n x lo hi,g,c⟩ :: r) K ⟨tm,bx,nt,live⟩:=by
 refine po_q hg ?_ k;subst hr;simp only [qf,hx,hl,hh];rw [if_pos ⟨hle.1,hle.2,hw⟩]
theorem po_eqs {E:Env} {K:St -> Prop} {tm:Nat -> PV} {bx:LP PC} {nt d:Nat} {live:List Nat} {r:List MOpr} {g:Option (Nat × Bool)} {c:List X} {x y:X} {la lb:L8} {f:Bool} (hg:gd g tm = some true) (hx:ev tm x = .d (pS la)) (hy:ev tm y = .d (pS lb)) (h:po E r K ⟨up d (.d (pB (decide (la = lb)))) tm,bx,nt,live⟩):po E (⟨some d,.bin .eql f x y,g,c⟩ :: r) K ⟨tm,bx,nt,live⟩:=by
 refine po_q hg ?_ h;simp only [qf,hx,hy,pS];show some (PV.d (.v (.bool ((ByteArray.mk la.toArray).toList == (ByteArray.mk lb.toArray).toList)))) = _;rw [ByteArray.toList_eq,ByteArray.toList_eq];show some (PV.d (.v (.bool (la == lb)))) = _;by_cases h:la = lb
 ·subst h; simp [pB]
 ·simp [h,pB]
theorem zgA:∀ (ls:List (L8)) (i:Nat) (h:i < ls.length) (k:Nat),ixF ls ls[i] k = ((k + i:Nat):Int) ↔ ls[i] ∉ ls.take i
 | a :: r,0,h,k => by simp [ixF]
 | a :: r,i + 1,h,k => by
  have ih:=zgA r i (by simpa using h) (k + 1);simp only [getElem_cons_succ,take_succ_cons,mem_cons,not_or];rw [ixF];by_cases he:a = r[i]'(by simpa using h)
  ·rw [if_pos he]
   constructor
   ·intro h2; omega
   ·intro h2; exact absurd he.symm h2.1
  ·rw [if_neg he,show k + (i + 1) = k + 1 + i by omega,ih]
   exact ⟨fun h2 => ⟨fun e => he e.symm,h2⟩,fun h2 => h2.2⟩
theorem ixF_memN:∀ (ls:List (L8)) (s:L8) (k:Nat),(0 <= ixF ls s k) ↔ s ∈ ls
 | [],s,k => by simp [ixF]
 | a :: r,s,k => by
  unfold ixF; split
  ·rename_i h; subst h; simp
  ·rename_i h; rw [ixF_memN r s (k + 1)]; simp [Ne.symm h]
def IxI (ns:List (L8)) (key:L8) (m:Nat) (st:St):Prop:=∃ i:Nat,i <= ns.length /\ m = ns.length - i /\ has st.tm [(0,.d (pSs ns)),(1,.d (pS key)),(7,.d (pI ns.length)),(8,.d (pI i))] /\ ixF (ns.drop i) key i = ixF ns key 0
theorem indexN_fn (ns:List (L8)) (key:L8) (hl:ns.length <= 4294967295):FnV (env T hT) 216 [.d (pSs ns),.d (pS key)] (.d (pI (ixF ns key 0))):=by
 refine zaV (zak zbk) (by show 2 <= 19; decide) fun B hB => ?_
 unfold m_slices_Index_impl_Names_string;refine mP ?_;refine zau (fun s => ixF ns key 0 = -1) ?_ ?_
 ·refine mQ ?_
  refine zaK (n:=ns.length) rfl rfl (za0 ns) ?_;refine mN ?_;refine zag ?_;refine zaz (IxI ns key) ns.length ⟨0,Nat.zero_le _,rfl,⟨rfl,rfl,rfl,rfl,trivial⟩,rfl⟩ ?_;rintro m tm bx nt live ⟨i,hi,rfl,ht,hx⟩;obtain ⟨tm0,rfl⟩:=zae ht;refine mO ?_;refine po_b rfl rfl (fun b hb => ?_);refine zaa ?_;refine zah ?_;refine zbe (p:=(i:Int) < ns.length) hb rfl (fun h _ => ?_) (fun h _ => ?_)
  ·have hil:i < ns.length:=by omega
   refine zaj ?_;refine zah (zag (zah (zad ?_)));refine mN ?_;refine mO ?_;(iterate 3 refine mS ?_);refine zaW (es:=pSr ns) (e:=[pS ns[i]]) rfl rfl rfl ⟨by omega,by rw [Int.toNat_natCast]; exact zbz hil⟩ rfl ?_;refine mS ?_;refine po_eqs (la:=key) (lb:=ns[i]) rfl rfl rfl ?_;refine mN ?_;refine zca (p:=key = ns[i]) rfl (fun hc => ?_) (fun hc => ?_)
   ·rw [<- hx,ixF_yes hil hc.symm]
    refine mP ?_;exact mR
   ·refine zaj ?_
    refine zad ?_;refine zaq (n:=((i + 1:Nat):Int)) rfl rfl rfl (by omega) (by omega) ?_;refine mN ?_;exact ⟨ns.length - (i + 1),by omega,i + 1,hil,rfl,⟨rfl,rfl,rfl,rfl,trivial⟩,by rw [<- hx,ixF_no hil (fun e => hc e.symm)]⟩
  ·refine zaH ?_
   have:i = ns.length:=by omega
   subst this;rw [ixF_end] at hx;exact hx.symm
 intro tm bx nt live hx;refine mP ?_;rw [hx];exact mR
theorem zgB (ns:List (L8)) (key:L8) (hl:ns.length <= 4294967295):FnV (env T hT) 173 [.d (pSs ns),.d (pS key)] (.d (pB (decide (key ∈ ns)))):=by
 refine zaV (zak zbc) (by show 2 <= 9; decide) fun B hB => ?_
 unfold m_slices_Contains_impl_Names_string;refine mP ?_;refine mO ?_;(iterate 2 refine mS ?_);refine zac (ks_arg ns key) (indexN_fn ns key hl) ?_;refine po_b rfl rfl (fun b1 hb1 => ?_);refine mN ?_
 have:decide (key ∈ ns) = b1:=by rw [hb1]; exact decide_eq_decide.2 (ixF_memN ns key 0).symm
 rw [this];exact mR
theorem toki_fn (hTab:∀ w,T w -> Tabs w) (l:L8) (hl:l.length <= 4294967295):FnV (env T hT) 172 [.d (pS l)] (.d (pB (validD l))):=by
 refine FnV.old rfl fun w C vs hF _ ht hlen hv => ?_
 match vs,hlen with
 | [x],_ =>
  have h1:=zcr (hv 0 _ _ rfl rfl);subst h1;exact zcU l w hl (hTab w ht)
def NiI (ns:List (L8)) (m:Nat) (st:St):Prop:=∃ i:Nat,i <= ns.length /\ m = ns.length - i /\ has st.tm [(0,.d (pSs ns)),(5,.d (pSs ns)),(6,.d (pI ns.length)),(7,.d (pI i))] /\ allN i (nmB ns) = true /\ i <= 100
theorem dats_S {l:L8} {a:PV} (ha:a = .d (pS l)):PV.dats [a] = some [.d (pS l)]:=by subst ha; rfl
theorem zhy (hTab:∀ w,T w -> Tabs w) (ns:List (L8)) (hl:ns.length <= 4294967295) (hbn:∀ n ∈ ns,n.length <= 4294967295):FnV (env T hT) 129 [.d (pSs ns)] (.d (pB (nmsB ns))):=by
 refine zaV (zak zgu) (by show 1 <= 32; decide) fun B hB => ?_
 unfold m_i_NamesOk;refine mP ?_;refine zau (fun s => nmsB ns = true) ?_ ?_
 ·refine mQ ?_
  refine zaK (n:=ns.length) rfl rfl (za0 ns) ?_;refine mN ?_;refine zag ?_;refine zaz (NiI ns) ns.length ⟨0,Nat.zero_le _,rfl,⟨rfl,rfl,rfl,rfl,trivial⟩,rfl,Nat.zero_le _⟩ ?_;rintro m tm bx nt live ⟨i,hi,rfl,ht,hall,hi100⟩;obtain ⟨tm0,rfl⟩:=zae ht;refine mO ?_;refine po_b rfl rfl (fun b hb => ?_);refine zaa ?_;refine zah ?_;refine zbe (p:=(i:Int) < ns.length) hb rfl (fun h _ => ?_) (fun h _ => ?_)
  ·have hil:i < ns.length:=by omega
   have hg:=zbf hil [];have hno:=nmsB_no hil;unfold nmB at hno;rw [hg] at hno;have htk:=toki_fn (T:=T) (hT:=hT) hTab ns[i] (hbn ns[i] (getElem_mem hil));refine zaj ?_;refine zah (zag (zah (zad ?_)));refine mS ?_;refine zaW (es:=pSr ns) (e:=[pS ns[i]]) rfl rfl rfl ⟨by omega,by rw [Int.toNat_natCast]; exact zbz hil⟩ rfl ?_;refine mN ?_;refine mQ ?_;refine po_q (v:=.d (pI ns[i].length)) rfl rfl ?_;by_cases h100:ns[i].length > 100
   ·have hF:=hno (by rw [decide_eq_false (show ¬ ns[i].length <= 100 by omega)]; simp)
    refine zai rfl rfl (decide_eq_true (by omega)) ?_;refine mS ?_;refine mZ ?_;(iterate 2 refine mS ?_);refine mZ ?_;(iterate 2 refine mS ?_);refine mZ ?_;refine mT ?_;refine mP ?_;rw [hF];exact mR
   refine zam rfl rfl (decide_eq_false (by omega)) ?_;(iterate 2 refine mS ?_);refine zaI (b:=true) (args:=[.d (pS ns[i])]) rfl (fun _ => dats_S rfl) (fun _ => htk) ?_;(iterate 3 refine mS ?_)
   cases hv:validD ns[i] with
   | false =>
    have hF:=hno (by rw [hv]; rfl);refine mZ ?_;(iterate 2 refine mS ?_);refine mZ ?_;refine mT ?_;refine mP ?_;rw [hF]
    exact mR
   | true =>
   refine mS ?_;by_cases hge:(i:Int) ≥ 100
   ·have hF:nmsB ns = false:=by unfold nmsB; rw [decide_eq_false (by omega)]; rfl
    refine zai rfl rfl (decide_eq_true (by omega)) ?_;(iterate 2 refine mS ?_);refine mZ ?_;refine mT ?_;refine mP ?_;rw [hF];exact mR
   refine zam rfl rfl (decide_eq_false (by omega)) ?_;(iterate 4 refine mS ?_);refine po_slcg (t:=0) (l:=0) (h:=i) (es:=pSr ns) (rs:=pSr (ns.take i)) rfl rfl rfl (zaN (i:=(i:Int)) rfl rfl) (by rw [za0]; omega) (zea ns) (by rw [drop_zero,Nat.sub_zero]; unfold pSr; rw [map_take]) ?_;refine mS ?_;refine zaI (b:=true) (args:=[.d (pSs (ns.take i)),.d (pS ns[i])]) rfl (fun _ => dats_ks rfl rfl) (fun _ => zgB _ _ (by rw [length_take]; omega)) ?_;refine mN ?_;have hf:=zgA ns i hil 0;rw [Nat.zero_add] at hf;refine zca (p:=ns[i] ∈ ns.take i) rfl (fun hc => ?_) (fun hc => ?_)
   ·have hF:=hno (by rw [decide_eq_false (show ¬ ixF ns ns[i] 0 = (i:Int) from fun e => hf.1 e hc)]; simp)
    refine mP ?_;rw [hF];exact mR
   ·refine zaj ?_
    refine zad ?_;refine zaq (n:=((i + 1:Nat):Int)) rfl rfl rfl (by omega) (by omega) ?_;refine mN ?_;exact ⟨ns.length - (i + 1),by omega,i + 1,hil,rfl,⟨rfl,rfl,rfl,rfl,trivial⟩,zcs hall (by unfold nmB; rw [hg,hv,decide_eq_true (show ns[i].length <= 100 by omega),decide_eq_true (show ixF ns ns[i] 0 = (i:Int) from hf.2 hc)]; rfl),by omega⟩
  ·refine zaH ?_
   have:i = ns.length:=by omega
   subst this;show nmsB ns = true;unfold nmsB;rw [decide_eq_true hi100,hall]; rfl
 intro tm bx nt live hF;refine mP ?_;rw [hF];exact mR
end
section
def m_i_PutMsg:M:=so [qo 1 (.box 0),⟨some 2,.mv (.c (.string ⟨[].toArray⟩)),none,[]⟩] (.seq (so [qL 4 5 1,qc 5 87 [4] 1,qo 6 (.not 5)] (.cond 6 (so [⟨some 2,.mv (.c (.string ⟨[].toArray⟩)),none,[]⟩] .ret) .skip)) (so [qo 3 (.zbld 152 5)] (so [qL 7 5 1,qc 8 133 [3,7] 1] (so [qc 9 134 [3] 1,qm 2 9] .ret))))
theorem zhz:look Tryz.prog 128 = some (10,m_i_PutMsg,[.tm 2]):=by kernel_rfl
def m_i_putMsg:M:=so [qo 3 (.box 1)] (.seq (so [qF 6 0 3,ql 7 1 6] (.block 0 (so [qo 9 (.bin .eql false 7 (ci 0)),qm 8 9] (.cond 8 (.ops [qm 10 0,qc 11 179 [10,.c (.int .u8 192)] 1]) (so [qo 13 (.bin .eql false 7 (ci 1)),qm 12 13] (.cond 12 (.ops [qm 14 0,qc 15 179 [14,.c (.int .u8 194)] 1]) (so [qo 17 (.bin .eql false 7 (ci 2)),qm 16 17] (.cond 16 (.ops [qm 18 0,qc 19 179 [18,.c (.int .u8 195)] 1]) (so [qo 21 (.bin .eql false 7 (ci 3)),qm 20 21] (.cond 20 (.ops [qm 22 0,qF 23 1 3,ql 24 1 23,qc 25 180 [24] 1,qc 26 131 [22,25] 1]) (so [qo 28 (.bin .eql false 7 (ci 5)),qm 27 28] (.cond 27 (.ops [qm 29 0,qF 30 3 3,ql 31 1 30,qo 32 (.lens 31),qF 34 3 3,ql 35 1 34,⟨some 33,.call 181 [32,ci 160,ci 32,ci 217,ci 218],none,[.f 0,34]⟩,qo 36 (.bin .add false 33 35),qc 37 131 [29,36] 0]) (so [qo 39 (.bin .eql false 7 (ci 6)),qm 38 39] (.cond 38 (.ops [qm 40 0,qF 41 3 3,ql 42 1 41,qo 43 (.lens 42),qF 45 3 3,ql 46 1 45,⟨some 44,.call 181 [43,ci 0,ci 0,ci 196,ci 197],none,[.f 0,45]⟩,qo 47 (.bin .add false 44 46),qc 48 131 [40,47] 0]) (so [qo 50 (.bin .eql false 7 (ci 7)),qm 49 50] (.cond 49 (.ops [qm 51 0,qF 52 4 3,ql 53 1 52,qo 54 (.len 53),qc 55 181 [54,ci 144,ci 16,ci 0,ci 220] 1,qc 56 131 [51,55] 1]) (so [qo 58 (.bin .eql false 7 (ci 8)),qm 57 58] (.cond 57 (.ops [qm 59 0,qF 60 4 3,ql 61 1 60,qo 62 (.len 61),qo 63 (.bin .quo false 62 (ci 2)),qc 64 181 [63,ci 128,ci 16,ci 0,ci 222] 1,qc 65 131 [59,64] 1]) (so [qo 67 (.bin .eql false 7 (ci 4)),qm 66 67] (.cond 66 (.tree (.node [qm 68 0,qF 71 2 3,ql 72 1 71,qF 75 1 3,ql 76 1 75] (.alt (qo 69 (.lit 1 [.c (.int .u8 199),.c (.int .u8 9),.c (.int .u8 4)])) (.node [qo 70 (.b2s 69)] (.alt ⟨some 73,.call 178 [72,ci 1],none,[.f 0,75]⟩ (.node [qo 74 (.bin .add false 70 73)] (.alt (qc 77 178 [76,ci 8] 0) (.node [qo 78 (.bin .add false 74 77)] (.alt (qc 79 131 [68,78] 0) (.node [] .leaf) .leaf)) .leaf)) .leaf)) (.alt ⟨some 73,.call 178 [72,ci 1],none,[.f 0,75]⟩ (.node [] (.alt (qo 69 (.lit 1 [.c (.int .u8 199),.c (.int .u8 9),.c (.int .u8 4)])) (.node [qo 70 (.b2s 69),qo 74 (.bin .add false 70 73)] (.alt (qc 77 178 [76,ci 8] 0) (.node [qo 78 (.bin .add false 74 77)] (.alt (qc 79 131 [68,78] 0) (.node [] .leaf) .leaf)) .leaf)) (.alt (qc 77 178 [76,ci 8] 0) (.node [] (.alt (qo 69 (.lit 1 [.c (.int .u8 199),.c (.int .u8 9),.c (.int .u8 4)])) (.node [qo 70 (.b2s 69),qo 74 (.bin .add false 70 73),qo 78 (.bin .add false 74 77)] (.alt (qc 79 131 [68,78] 0) (.node [] .leaf) .leaf)) .leaf)) .leaf))) .leaf)))) (so [qo 81 (.bin .eql false 7 (ci 9)),qm 80 81] (.cond 80 (.tree (.node [qm 82 0,qF 85 1 3,ql 86 1 85] (.alt (qo 83 (.lit 1 [.c (.int .u8 199),.c (.int .u8 4),.c (.int .u8 6)])) (.node [qo 84 (.b2s 83)] (.alt (qc 87 178 [86,ci 4] 0) (.node [qo 88 (.bin .add false 84 87)] (.alt (qc 89 131 [82,88] 0) (.node [] .leaf) .leaf)) .leaf)) (.alt (qc 87 178 [86,ci 4] 0) (.node [] (.alt (qo 83 (.lit 1 [.c (.int .u8 199),.c (.int .u8 4),.c (.int .u8 6)])) (.node [qo 84 (.b2s 83),qo 88 (.bin .add false 84 87)] (.alt (qc 89 131 [82,88] 0) (.node [] .leaf) .leaf)) .leaf)) .leaf)))) .skip)))))))))))))))))))))) (so [qF 90 4 3,ql 91 1 90,qo 92 (.len 91),qo 93 (.mv (ci 0))] (.block 1 (.loop (so [qo 94 (.bin .lss false 93 92)] (.seq (.cond 94 .skip (.exit 1)) (.seq (.block 2 (so [qo 95 (.ix 5 91 93),qL 96 5 95,⟨some 5,.zero [.int .i64 0,.int .i64 0,.int .i64 0,.string ⟨[].toArray⟩,.slice none 0 0],none,[]⟩,qS 5 5 96] (.ops [qm 97 0,qL 98 5 5,qc 99 133 [97,98] 1]))) (.ops [qo 100 (.bin .add false 93 (ci 1)),qm 93 100]))))))))
theorem zhA:look Tryz.prog 133 = some (101,m_i_putMsg,[]):=by kernel_rfl
def m_i_SignOf:M:=so [qo 4 (.mv (ci 0))] (.seq (so [qm 6 1,qc 7 126 [6,ci 1,ci 8] 1,qo 8 (.not 7)] (.cond 8 (so [qm 9 0,qm 4 9] .ret) .skip)) (so [qm 10 1,qo 11 (.bin .mul false (ci 8) 10),qo 12 (.bin .sub false (ci 64) 11),qm 5 12] (so [qm 13 0,qm 14 5,qo 15 (.bin .shl false 13 14),qm 16 5,qo 17 (.bin .shr false 15 16),qm 4 17] .ret)))
theorem zhB:look Tryz.prog 170 = some (18,m_i_SignOf,[.tm 4]):=by kernel_rfl
def m_i_putNumber:M:=so [⟨some 2,.mv (.c (.string ⟨[].toArray⟩)),none,[]⟩] (.seq (so [qm 5 0,qc 6 126 [5,ci (-32),ci 127] 1] (.cond 6 (so [qm 7 0,qc 8 178 [7,ci 1] 1,qm 2 8] .ret) .skip)) (.seq (so [qo 9 (.lit 1 [ci 1,ci 2,ci 4,ci 8]),qo 10 (.len 9),qo 11 (.mv (ci 0))] (.block 0 (.loop (so [qo 12 (.bin .lss false 11 10)] (.seq (.cond 12 .skip (.exit 0)) (.seq (.block 1 (so [qm 13 11,qo 14 (.ix 1 9 11),ql 15 1 14,qm 3 13,qm 4 15] (.block 2 (so [qm 17 0,qo 18 (.bin .geq false 17 (ci 0)),qm 19 18,qg 20 4 19 true,⟨some 21,.bin .eql false 20 (ci 8),some (19,true),[]⟩,qg 22 21 19 true,qg 23 0 22 false,qg 24 4 22 false,⟨some 25,.bin .mul false (ci 8) 24,some (22,false),[]⟩,⟨some 26,.bin .shl false (ci 1) 25,some (22,false),[]⟩,⟨some 27,.bin .lss false 23 26,some (22,false),[]⟩,⟨some 28,.pick 22 (cB true) 27,some (19,true),[]⟩,qo 29 (.pick 19 28 (cB false)),qm 16 29] (.cond 16 (.seq (.tree (.node [qm 30 3,qo 31 (.bin .add false (ci 204) 30),qo 32 (.conv .u8 31),qm 35 0,qm 36 4] (.alt (qo 33 (.lit 1 [32])) (.node [qo 34 (.b2s 33)] (.alt (qc 37 178 [35,36] 0) (.node [qo 38 (.bin .add false 34 37),qm 2 38] .leaf) .leaf)) (.alt (qc 37 178 [35,36] 0) (.node [] (.alt (qo 33 (.lit 1 [32])) (.node [qo 34 (.b2s 33),qo 38 (.bin .add false 34 37),qm 2 38] .leaf) .leaf)) .leaf)))) .ret) (so [qm 40 0,qo 41 (.bin .lss false 40 (ci 0)),qm 42 41,qg 43 0 42 true,qg 44 4 42 true,⟨some 45,.call 170 [43,44],some (42,true),[.f 1]⟩,qg 46 0 42 true,⟨some 47,.bin .eql false 45 46,some (42,true),[]⟩,qo 48 (.pick 42 47 (cB false)),qm 39 48] (.cond 39 (.seq (.tree (.node [qm 49 3,qo 50 (.bin .add false (ci 208) 49),qo 51 (.conv .u8 50),qm 54 0,qm 55 4] (.alt (qo 52 (.lit 1 [51])) (.node [qo 53 (.b2s 52)] (.alt (qc 56 178 [54,55] 0) (.node [qo 57 (.bin .add false 53 56),qm 2 57] .leaf) .leaf)) (.alt (qc 56 178 [54,55] 0) (.node [] (.alt (qo 52 (.lit 1 [51])) (.node [qo 53 (.b2s 52),qo 57 (.bin .add false 53 56),qm 2 57] .leaf) .leaf)) .leaf)))) .ret) .skip))))))) (.ops [qo 58 (.bin .add false 11 (ci 1)),qm 11 58]))))))) (so [⟨some 2,.mv (.c (.string ⟨[].toArray⟩)),none,[]⟩] .ret)))
theorem zeE:look Tryz.prog 180 = some (59,m_i_putNumber,[.tm 2]):=by kernel_rfl
def m_i_putLength:M:=so [⟨some 10,.mv (.c (.string ⟨[].toArray⟩)),none,[]⟩] (.seq (.block 0 (so [qm 12 0,qm 13 2,qo 14 (.bin .lss false 12 13),qm 11 14] (.cond 11 (so [qm 15 1,qm 16 0,qo 17 (.bin .add false 15 16),qo 18 (.conv .u8 17),qo 19 (.lit 1 [18]),qo 20 (.b2s 19),qm 10 20] .ret) (so [qm 22 0,qo 23 (.bin .lss false 22 (ci 256)),qm 24 23,qg 25 3 24 true,⟨some 26,.bin .gtr false 25 (ci 0),some (24,true),[]⟩,qo 27 (.pick 24 26 (cB false)),qm 21 27] (.cond 21 (.seq (.tree (.node [qm 28 3,qo 29 (.conv .u8 28),qm 32 0] (.alt (qo 30 (.lit 1 [29])) (.node [qo 31 (.b2s 30)] (.alt (qc 33 178 [32,ci 1] 0) (.node [qo 34 (.bin .add false 31 33),qm 10 34] .leaf) .leaf)) (.alt (qc 33 178 [32,ci 1] 0) (.node [] (.alt (qo 30 (.lit 1 [29])) (.node [qo 31 (.b2s 30),qo 34 (.bin .add false 31 33),qm 10 34] .leaf) .leaf)) .leaf)))) .ret) .skip))))) (.seq (.tree (.node [qm 35 4,qo 36 (.conv .u8 35),qm 39 0] (.alt (qo 37 (.lit 1 [36])) (.node [qo 38 (.b2s 37)] (.alt (qc 40 178 [39,ci 2] 0) (.node [qo 41 (.bin .add false 38 40),qm 10 41] .leaf) .leaf)) (.alt (qc 40 178 [39,ci 2] 0) (.node [] (.alt (qo 37 (.lit 1 [36])) (.node [qo 38 (.b2s 37),qo 41 (.bin .add false 38 40),qm 10 41] .leaf) .leaf)) .leaf)))) .ret))
theorem zeF:look Tryz.prog 181 = some (42,m_i_putLength,[.tm 10]):=by kernel_rfl
end
section
variable {T:World -> Prop} {hT:Low ngl T}
attribute [local irreducible] po mw pt
theorem pS_inv {C:Cx} {W:World} {l:L8} {y:Value} (h:RpV C W (.d (pS l)) y):y = .string ⟨l.toArray⟩:=by
 cases h with
 | d _ _ h => cases h; rfl
theorem zbY (n a b:Int):FnV (env T hT) 126 [.d (pI n),.d (pI a),.d (pI b)] (.d (pB (decide (a <= n /\ n <= b)))):=by
 refine FnV.old rfl fun w C vs hF _ _ hlen hv => ?_
 match vs,hlen with
 | [x,y,z],_ =>
  have h1:=zbj (hv 0 _ _ rfl rfl); have h2:=zbj (hv 1 _ _ rfl rfl); have h3:=zbj (hv 2 _ _ rfl rfl)
  subst h1; subst h2; subst h3
  refine (zaS n a b w).mono ?_;rintro e w' ⟨rfl,rfl⟩;refine ⟨?_,Below.refl _ _⟩;by_cases h:a <= n /\ n <= b
  ·rw [zaG h,decide_eq_true h]
  ·rw [zba h,decide_eq_false h]
theorem zhC (n k:Int) (hk:1 <= k /\ k <= 8) (hn:i64ok n):FnV (env T hT) 178 [.d (pI n),.d (pI k)] (.d (pS (be k.toNat (lo64 n)))):=by
 refine FnV.old rfl fun w C vs hF _ _ hlen hv => ?_
 match vs,hlen with
 | [x,y],_ =>
  have h1:=zbj (hv 0 _ _ rfl rfl); have h2:=zbj (hv 1 _ _ rfl rfl)
  subst h1; subst h2
  exact zee n k w hk hn
theorem zgC {E:Env} {K:St -> Prop} {tm:Nat -> PV} {bx:LP PC} {nt d:Nat} {live:List Nat} {r:List MOpr} {g:Option (Nat × Bool)} {c:List X} {x y:X} {a b n:Int} (hg:gd g tm = some true) (hx:ev tm x = .d (pI a)) (hy:ev tm y = .d (pI b)) (hb:0 <= b) (hn:IntKind.wrap .i64 (a * 2 ^ (min b.toNat 64)) = n) (h:po E r K ⟨up d (.d (pI n)) tm,bx,nt,live⟩):po E (⟨some d,.bin .shl false x y,g,c⟩ :: r) K ⟨tm,bx,nt,live⟩:=by
 refine po_q hg ?_ h;subst hn;simp only [qf,hx,hy,pI];show Option.map _ (if b < 0 then none else some (Value.int .i64 (IntKind.wrap .i64 (a * 2 ^ (min b.toNat 64))))) = _;rw [if_neg (by omega)]; rfl
theorem zbQ (a:Int) (b:Int) (hb:0 < b):a.fdiv b = a / b:=Int.fdiv_eq_ediv_of_nonneg a (by omega)
theorem shsh (n:Int) (k:Nat) (hk:1 <= k /\ k <= 8) (hn:i64ok n):(IntKind.wrap .i64 (n * 2 ^ (min (64 - 8 * (k:Int)).toNat IntKind.i64.bits))).fdiv (2 ^ (min (64 - 8 * (k:Int)).toNat IntKind.i64.bits)) = sgw n k:=by
 have hb:IntKind.i64.bits = 64:=rfl;obtain ⟨hn1,hn2⟩:=hn;have hc:k = 1 \/ k = 2 \/ k = 3 \/ k = 4 \/ k = 5 \/ k = 6 \/ k = 7 \/ k = 8:=by omega
 rw [hb]
 rcases hc with rfl | rfl | rfl | rfl | rfl | rfl | rfl | rfl
 ·rw [show (2:Int) ^ (min (64 - 8 * ((1:Nat):Int)).toNat 64) = 72057594037927936 from rfl,zbQ _ _ (by decide),IntKind.wrap_i64]
  unfold sgw;rw [if_pos (by decide),show ((256 ^ 1:Nat):Int) = 256 from rfl,show ((256 ^ 1 / 2:Nat):Int) = 128 from rfl]
  split <;> omega
 ·rw [show (2:Int) ^ (min (64 - 8 * ((2:Nat):Int)).toNat 64) = 281474976710656 from rfl,zbQ _ _ (by decide),IntKind.wrap_i64]
  unfold sgw;rw [if_pos (by decide),show ((256 ^ 2:Nat):Int) = 65536 from rfl,show ((256 ^ 2 / 2:Nat):Int) = 32768 from rfl]
  split <;> omega
 ·rw [show (2:Int) ^ (min (64 - 8 * ((3:Nat):Int)).toNat 64) = 1099511627776 from rfl,zbQ _ _ (by decide),IntKind.wrap_i64]
  unfold sgw;rw [if_pos (by decide),show ((256 ^ 3:Nat):Int) = 16777216 from rfl,show ((256 ^ 3 / 2:Nat):Int) = 8388608 from rfl]
  split <;> omega
 ·rw [show (2:Int) ^ (min (64 - 8 * ((4:Nat):Int)).toNat 64) = 4294967296 from rfl,zbQ _ _ (by decide),IntKind.wrap_i64]
  unfold sgw;rw [if_pos (by decide),show ((256 ^ 4:Nat):Int) = 4294967296 from rfl,show ((256 ^ 4 / 2:Nat):Int) = 2147483648 from rfl]
  split <;> omega
 ·rw [show (2:Int) ^ (min (64 - 8 * ((5:Nat):Int)).toNat 64) = 16777216 from rfl,zbQ _ _ (by decide),IntKind.wrap_i64]
  unfold sgw;rw [if_pos (by decide),show ((256 ^ 5:Nat):Int) = 1099511627776 from rfl,show ((256 ^ 5 / 2:Nat):Int) = 549755813888 from rfl]
  split <;> omega
 ·rw [show (2:Int) ^ (min (64 - 8 * ((6:Nat):Int)).toNat 64) = 65536 from rfl,zbQ _ _ (by decide),IntKind.wrap_i64]
  unfold sgw;rw [if_pos (by decide),show ((256 ^ 6:Nat):Int) = 281474976710656 from rfl,show ((256 ^ 6 / 2:Nat):Int) = 140737488355328 from rfl]
  split <;> omega
 ·rw [show (2:Int) ^ (min (64 - 8 * ((7:Nat):Int)).toNat 64) = 256 from rfl,zbQ _ _ (by decide),IntKind.wrap_i64]
  unfold sgw;rw [if_pos (by decide),show ((256 ^ 7:Nat):Int) = 72057594037927936 from rfl,show ((256 ^ 7 / 2:Nat):Int) = 36028797018963968 from rfl]
  split <;> omega
 ·rw [show (2:Int) ^ (min (64 - 8 * ((8:Nat):Int)).toNat 64) = 1 from rfl,zbQ _ _ (by decide),IntKind.wrap_i64]
  unfold sgw;rw [if_neg (by decide)]; omega
theorem zfx (n:Int) (k:Nat) (hk:1 <= k /\ k <= 8) (hn:i64ok n):FnV (env T hT) 170 [.d (pI n),.d (pI k)] (.d (pI (sgw n k))):=by
 refine zaV (zak zhB) (by show 2 <= 18; decide) fun B hB => ?_
 unfold m_i_SignOf;refine mP ?_;refine mM ?_;refine mN ?_;refine zac rfl (zbY k 1 8) ?_;rw [decide_eq_true (show (1:Int) <= k /\ (k:Int) <= 8 by omega)];refine mK ?_;refine mQ ?_;refine zc7 (n:=8 * (k:Int)) rfl rfl rfl rfl (by omega) ?_;refine zaQ (n:=64 - 8 * (k:Int)) rfl rfl rfl rfl (by omega) ?_;refine mN ?_;refine mO ?_;(iterate 2 refine mS ?_)
 refine po_q (v:=.d (pI (IntKind.wrap .i64 (n * 2 ^ (min (64 - 8 * (k:Int)).toNat IntKind.i64.bits))))) rfl (by
  show Option.map _ (if 64 - 8 * (k:Int) < 0 then none else some (Value.int .i64 (IntKind.wrap .i64 (n * 2 ^ (min (64 - 8 * (k:Int)).toNat IntKind.i64.bits))))) = _;rw [if_neg (by omega)]; rfl) ?_
 refine mS ?_
 refine po_q (v:=.d (pI (sgw n k))) rfl (by
  show Option.map _ (if 64 - 8 * (k:Int) < 0 then none else some (Value.int .i64 ((IntKind.wrap .i64 (n * 2 ^ (min (64 - 8 * (k:Int)).toNat IntKind.i64.bits))).fdiv (2 ^ (min (64 - 8 * (k:Int)).toNat IntKind.i64.bits))))) = _;rw [if_neg (by omega),shsh n k hk hn]; rfl) ?_
 refine mN ?_;exact mR
def pnP:Nat -> Int
 | 0 => 128 | 1 => 256 | 2 => 65536 | _ => 4294967296
def pnN:Nat -> Int
 | 0 => -32 | 1 => -128 | 2 => -32768 | _ => -2147483648
def PnI (n:Int) (m:Nat) (s:St):Prop:=∃ i:Nat,i <= 3 /\ m = 4 - i /\ (0 <= n -> pnP i <= n) /\ (n < 0 -> n < pnN i) /\ has s.tm [(0,.d (pI n)),(9,.d (.sl 2 [[pI 1],[pI 2],[pI 4],[pI 8]])),(10,.d (pI 4)),(11,.d (pI i))]
theorem putNum_fn (n:Int) (hn:i64ok n):FnV (env T hT) 180 [.d (pI n)] (.d (pS (msgInt n))):=by
 have hput:=fun (k:Int) (hk:1 <= k /\ k <= 8) => zhC (T:=T) (hT:=hT) n k hk hn
 have hsg:=fun (k:Nat) (hk:1 <= k /\ k <= 8) => zfx (T:=T) (hT:=hT) n k hk hn
 obtain ⟨hn1,hn2⟩:=hn;refine zaV (zak zeE) (by show 1 <= 59; decide) fun B hB => ?_
 unfold m_i_putNumber;refine mP ?_;refine mM ?_;refine mN ?_;refine zac rfl (zbY n (-32) 127) ?_;refine zaa ?_;refine zca (p:=-32 <= n /\ n <= 127) rfl (fun h => ?_) (fun h => ?_)
 ·refine mP ?_
  refine zac rfl (hput 1 (by omega)) ?_;refine mN ?_;exact zaf ⟨.inr rfl,_,rfl,by unfold msgInt; rw [if_pos h]; rfl⟩
 refine zaj ?_;refine mM ?_;refine zay (es:=[[pI 1],[pI 2],[pI 4],[pI 8]]) rfl ?_;refine zaK (n:=4) rfl rfl rfl ?_;refine mN ?_;refine zag ?_;refine zaz (PnI n) 4 ⟨0,by omega,rfl,fun h => by simp only [pnP]; omega,fun h => by simp only [pnN]; omega,rfl,rfl,rfl,rfl,trivial⟩ ?_;rintro m tm bx nt live ⟨i,hi,rfl,hp,hq,ht⟩;obtain ⟨tm0,rfl⟩:=zae ht;clear ht;have hc:i = 0 \/ i = 1 \/ i = 2 \/ i = 3:=by omega
 rcases hc with rfl | rfl | rfl | rfl
 ·simp only [pnP,pnN] at hp hq
  refine mO ?_;refine zai rfl rfl rfl ?_;refine zaa ?_;refine zah ?_;refine mwT ?_;refine zaj ?_;refine zah (zag (zah (zad ?_)));refine mS ?_;refine zaW (es:=[[pI 1],[pI 2],[pI 4],[pI 8]]) (e:=[pI 1]) rfl rfl rfl ⟨by decide,rfl⟩ rfl ?_;refine mN ?_;refine zag (zah (zad ?_));refine mS ?_;by_cases h0:0 <= n
  ·have hp:=hp h0
   refine zai rfl rfl (decide_eq_true (show n ≥ 0 from h0)) ?_;(iterate 2 refine mS ?_);refine zam rfl rfl rfl ?_;(iterate 3 refine mS ?_);refine zc7 (n:=8) rfl rfl rfl rfl (by decide) ?_;refine zgC (n:=256) rfl rfl rfl (by decide) (by decide) ?_;by_cases hf:n < 256
   ·refine zai rfl rfl (decide_eq_true hf) ?_
    (iterate 3 refine mS ?_);refine zaa ?_;refine mwT ?_
    have hres:msgInt n = [204] ++ be 1 (lo64 n):=by
     unfold msgInt
     repeat (first | rw [if_pos (by omega)] | rw [if_neg (by omega)])
    refine zah (zbq ?_);refine zal ?_;refine mS ?_;refine zaq (n:=204) rfl rfl rfl rfl (by decide) ?_;refine zbs (n:=204) rfl rfl (by decide) ?_;refine mS ?_;refine mL ?_;refine zas ?_;refine zat ?_ ?_
    ·refine zay (es:=[[.v (.int .u8 204)]]) rfl ?_
     refine zaa ?_;refine zal ?_;refine mL ?_;refine zas ?_;refine zat ?_ zar;refine zac rfl (hput 1 (by omega)) ?_;refine zaa ?_;refine zal ?_;refine zax (la:=[204]) (lb:=be 1 (lo64 n)) rfl rfl rfl (by rw [zab]; simp) ?_;refine mL ?_;refine zaP ?_;refine zaf ⟨.inr rfl,[.d (pS ([204] ++ be 1 (lo64 n)))],rfl,?_⟩;rw [hres]; rfl
    ·refine zat ?_ zar
     refine zac rfl (hput 1 (by omega)) ?_;refine zaa ?_;refine zal ?_;refine zaa ?_;refine zas ?_;refine zat ?_ zar;refine zay (es:=[[.v (.int .u8 204)]]) rfl ?_;refine zaa ?_;refine zal ?_;refine mS ?_;refine zax (la:=[204]) (lb:=be 1 (lo64 n)) rfl rfl rfl (by rw [zab]; simp) ?_;refine mL ?_;refine zaP ?_;refine zaf ⟨.inr rfl,[.d (pS ([204] ++ be 1 (lo64 n)))],rfl,?_⟩;rw [hres]; rfl
   ·refine zam rfl rfl (decide_eq_false hf) ?_
    (iterate 3 refine mS ?_);refine zaa ?_;refine mwF ?_;refine mQ ?_;refine zam rfl rfl (decide_eq_false (show ¬ n < 0 by omega)) ?_;refine mS ?_;refine mZ ?_;(iterate 2 refine mS ?_);refine zaa ?_;refine mwF ?_;refine zaj ?_;refine zad ?_;refine zaq (n:=1) rfl rfl rfl rfl (by decide) ?_;refine mN ?_;exact ⟨3,by omega,1,by omega,rfl,fun _ => by simp only [pnP]; omega,fun h => by omega,rfl,rfl,rfl,rfl,trivial⟩
  ·have hq:=hq (by omega)
   refine zam rfl rfl (decide_eq_false (show ¬ n ≥ 0 from h0)) ?_;refine mS ?_;refine mZ ?_;(iterate 2 refine mS ?_);refine zaa ?_;refine mwF ?_;refine mQ ?_;refine zai rfl rfl (decide_eq_true (show n < 0 by omega)) ?_;(iterate 3 refine mS ?_);refine zaI (b:=true) rfl (fun _ => rfl) (fun _ => hsg 1 (by omega)) ?_;refine mS ?_;by_cases hf:sgw n 1 = n
   ·refine zai rfl rfl (decide_eq_true hf) ?_
    (iterate 2 refine mS ?_);refine zaa ?_;refine mwT ?_
    have hres:msgInt n = [208] ++ be 1 (lo64 n):=by
     unfold sgw at hf;rw [if_pos (by decide),show ((256 ^ 1:Nat):Int) = 256 from rfl,show ((256 ^ 1 / 2:Nat):Int) = 128 from rfl] at hf
     split at hf
     ·unfold msgInt
      repeat (first | rw [if_pos (by omega)] | rw [if_neg (by omega)])
     ·omega
    refine zah (zbq ?_);refine zal ?_;refine mS ?_;refine zaq (n:=208) rfl rfl rfl rfl (by decide) ?_;refine zbs (n:=208) rfl rfl (by decide) ?_;refine mS ?_;refine mL ?_;refine zas ?_;refine zat ?_ ?_
    ·refine zay (es:=[[.v (.int .u8 208)]]) rfl ?_
     refine zaa ?_;refine zal ?_;refine mL ?_;refine zas ?_;refine zat ?_ zar;refine zac rfl (hput 1 (by omega)) ?_;refine zaa ?_;refine zal ?_;refine zax (la:=[208]) (lb:=be 1 (lo64 n)) rfl rfl rfl (by rw [zab]; simp) ?_;refine mL ?_;refine zaP ?_;refine zaf ⟨.inr rfl,[.d (pS ([208] ++ be 1 (lo64 n)))],rfl,?_⟩;rw [hres]; rfl
    ·refine zat ?_ zar
     refine zac rfl (hput 1 (by omega)) ?_;refine zaa ?_;refine zal ?_;refine zaa ?_;refine zas ?_;refine zat ?_ zar;refine zay (es:=[[.v (.int .u8 208)]]) rfl ?_;refine zaa ?_;refine zal ?_;refine mS ?_;refine zax (la:=[208]) (lb:=be 1 (lo64 n)) rfl rfl rfl (by rw [zab]; simp) ?_;refine mL ?_;refine zaP ?_;refine zaf ⟨.inr rfl,[.d (pS ([208] ++ be 1 (lo64 n)))],rfl,?_⟩;rw [hres]; rfl
   ·refine zam rfl rfl (decide_eq_false hf) ?_
    (iterate 2 refine mS ?_);refine zaa ?_;refine mwF ?_;refine zaj ?_
    have hlow:n < -128:=by
     apply Decidable.byContradiction
     intro hlt
     apply hf
     unfold sgw;rw [if_pos (by decide),show ((256 ^ 1:Nat):Int) = 256 from rfl,show ((256 ^ 1 / 2:Nat):Int) = 128 from rfl]
     split <;> omega
    refine zad ?_;refine zaq (n:=1) rfl rfl rfl rfl (by decide) ?_;refine mN ?_;exact ⟨3,by omega,1,by omega,rfl,fun h => by omega,fun _ => by simp only [pnN]; omega,rfl,rfl,rfl,rfl,trivial⟩
 ·simp only [pnP,pnN] at hp hq
  refine mO ?_;refine zai rfl rfl rfl ?_;refine zaa ?_;refine zah ?_;refine mwT ?_;refine zaj ?_;refine zah (zag (zah (zad ?_)));refine mS ?_;refine zaW (es:=[[pI 1],[pI 2],[pI 4],[pI 8]]) (e:=[pI 2]) rfl rfl rfl ⟨by decide,rfl⟩ rfl ?_;refine mN ?_;refine zag (zah (zad ?_));refine mS ?_;by_cases h0:0 <= n
  ·have hp:=hp h0
   refine zai rfl rfl (decide_eq_true (show n ≥ 0 from h0)) ?_;(iterate 2 refine mS ?_);refine zam rfl rfl rfl ?_;(iterate 3 refine mS ?_);refine zc7 (n:=16) rfl rfl rfl rfl (by decide) ?_;refine zgC (n:=65536) rfl rfl rfl (by decide) (by decide) ?_;by_cases hf:n < 65536
   ·refine zai rfl rfl (decide_eq_true hf) ?_
    (iterate 3 refine mS ?_);refine zaa ?_;refine mwT ?_
    have hres:msgInt n = [205] ++ be 2 (lo64 n):=by
     unfold msgInt
     repeat (first | rw [if_pos (by omega)] | rw [if_neg (by omega)])
    refine zah (zbq ?_);refine zal ?_;refine mS ?_;refine zaq (n:=205) rfl rfl rfl rfl (by decide) ?_;refine zbs (n:=205) rfl rfl (by decide) ?_;refine mS ?_;refine mL ?_;refine zas ?_;refine zat ?_ ?_
    ·refine zay (es:=[[.v (.int .u8 205)]]) rfl ?_
     refine zaa ?_;refine zal ?_;refine mL ?_;refine zas ?_;refine zat ?_ zar;refine zac rfl (hput 2 (by omega)) ?_;refine zaa ?_;refine zal ?_;refine zax (la:=[205]) (lb:=be 2 (lo64 n)) rfl rfl rfl (by rw [zab]; simp) ?_;refine mL ?_;refine zaP ?_;refine zaf ⟨.inr rfl,[.d (pS ([205] ++ be 2 (lo64 n)))],rfl,?_⟩;rw [hres]; rfl
    ·refine zat ?_ zar
     refine zac rfl (hput 2 (by omega)) ?_;refine zaa ?_;refine zal ?_;refine zaa ?_;refine zas ?_;refine zat ?_ zar;refine zay (es:=[[.v (.int .u8 205)]]) rfl ?_;refine zaa ?_;refine zal ?_;refine mS ?_;refine zax (la:=[205]) (lb:=be 2 (lo64 n)) rfl rfl rfl (by rw [zab]; simp) ?_;refine mL ?_;refine zaP ?_;refine zaf ⟨.inr rfl,[.d (pS ([205] ++ be 2 (lo64 n)))],rfl,?_⟩;rw [hres]; rfl
   ·refine zam rfl rfl (decide_eq_false hf) ?_
    (iterate 3 refine mS ?_);refine zaa ?_;refine mwF ?_;refine mQ ?_;refine zam rfl rfl (decide_eq_false (show ¬ n < 0 by omega)) ?_;refine mS ?_;refine mZ ?_;(iterate 2 refine mS ?_);refine zaa ?_;refine mwF ?_;refine zaj ?_;refine zad ?_;refine zaq (n:=2) rfl rfl rfl rfl (by decide) ?_;refine mN ?_;exact ⟨2,by omega,2,by omega,rfl,fun _ => by simp only [pnP]; omega,fun h => by omega,rfl,rfl,rfl,rfl,trivial⟩
  ·have hq:=hq (by omega)
   refine zam rfl rfl (decide_eq_false (show ¬ n ≥ 0 from h0)) ?_;refine mS ?_;refine mZ ?_;(iterate 2 refine mS ?_);refine zaa ?_;refine mwF ?_;refine mQ ?_;refine zai rfl rfl (decide_eq_true (show n < 0 by omega)) ?_;(iterate 3 refine mS ?_);refine zaI (b:=true) rfl (fun _ => rfl) (fun _ => hsg 2 (by omega)) ?_;refine mS ?_;by_cases hf:sgw n 2 = n
   ·refine zai rfl rfl (decide_eq_true hf) ?_
    (iterate 2 refine mS ?_);refine zaa ?_;refine mwT ?_
    have hres:msgInt n = [209] ++ be 2 (lo64 n):=by
     unfold sgw at hf;rw [if_pos (by decide),show ((256 ^ 2:Nat):Int) = 65536 from rfl,show ((256 ^ 2 / 2:Nat):Int) = 32768 from rfl] at hf
     split at hf
     ·unfold msgInt
      repeat (first | rw [if_pos (by omega)] | rw [if_neg (by omega)])
     ·omega
    refine zah (zbq ?_);refine zal ?_;refine mS ?_;refine zaq (n:=209) rfl rfl rfl rfl (by decide) ?_;refine zbs (n:=209) rfl rfl (by decide) ?_;refine mS ?_;refine mL ?_;refine zas ?_;refine zat ?_ ?_
    ·refine zay (es:=[[.v (.int .u8 209)]]) rfl ?_
     refine zaa ?_;refine zal ?_;refine mL ?_;refine zas ?_;refine zat ?_ zar;refine zac rfl (hput 2 (by omega)) ?_;refine zaa ?_;refine zal ?_;refine zax (la:=[209]) (lb:=be 2 (lo64 n)) rfl rfl rfl (by rw [zab]; simp) ?_;refine mL ?_;refine zaP ?_;refine zaf ⟨.inr rfl,[.d (pS ([209] ++ be 2 (lo64 n)))],rfl,?_⟩;rw [hres]; rfl
    ·refine zat ?_ zar
     refine zac rfl (hput 2 (by omega)) ?_;refine zaa ?_;refine zal ?_;refine zaa ?_;refine zas ?_;refine zat ?_ zar;refine zay (es:=[[.v (.int .u8 209)]]) rfl ?_;refine zaa ?_;refine zal ?_;refine mS ?_;refine zax (la:=[209]) (lb:=be 2 (lo64 n)) rfl rfl rfl (by rw [zab]; simp) ?_;refine mL ?_;refine zaP ?_;refine zaf ⟨.inr rfl,[.d (pS ([209] ++ be 2 (lo64 n)))],rfl,?_⟩;rw [hres]; rfl
   ·refine zam rfl rfl (decide_eq_false hf) ?_
    (iterate 2 refine mS ?_);refine zaa ?_;refine mwF ?_;refine zaj ?_
    have hlow:n < -32768:=by
     apply Decidable.byContradiction
     intro hlt
     apply hf
     unfold sgw;rw [if_pos (by decide),show ((256 ^ 2:Nat):Int) = 65536 from rfl,show ((256 ^ 2 / 2:Nat):Int) = 32768 from rfl]
     split <;> omega
    refine zad ?_;refine zaq (n:=2) rfl rfl rfl rfl (by decide) ?_;refine mN ?_;exact ⟨2,by omega,2,by omega,rfl,fun h => by omega,fun _ => by simp only [pnN]; omega,rfl,rfl,rfl,rfl,trivial⟩
 ·simp only [pnP,pnN] at hp hq
  refine mO ?_;refine zai rfl rfl rfl ?_;refine zaa ?_;refine zah ?_;refine mwT ?_;refine zaj ?_;refine zah (zag (zah (zad ?_)));refine mS ?_;refine zaW (es:=[[pI 1],[pI 2],[pI 4],[pI 8]]) (e:=[pI 4]) rfl rfl rfl ⟨by decide,rfl⟩ rfl ?_;refine mN ?_;refine zag (zah (zad ?_));refine mS ?_;by_cases h0:0 <= n
  ·have hp:=hp h0
   refine zai rfl rfl (decide_eq_true (show n ≥ 0 from h0)) ?_;(iterate 2 refine mS ?_);refine zam rfl rfl rfl ?_;(iterate 3 refine mS ?_);refine zc7 (n:=32) rfl rfl rfl rfl (by decide) ?_;refine zgC (n:=4294967296) rfl rfl rfl (by decide) (by decide) ?_;by_cases hf:n < 4294967296
   ·refine zai rfl rfl (decide_eq_true hf) ?_
    (iterate 3 refine mS ?_);refine zaa ?_;refine mwT ?_
    have hres:msgInt n = [206] ++ be 4 (lo64 n):=by
     unfold msgInt
     repeat (first | rw [if_pos (by omega)] | rw [if_neg (by omega)])
    refine zah (zbq ?_);refine zal ?_;refine mS ?_;refine zaq (n:=206) rfl rfl rfl rfl (by decide) ?_;refine zbs (n:=206) rfl rfl (by decide) ?_;refine mS ?_;refine mL ?_;refine zas ?_;refine zat ?_ ?_
    ·refine zay (es:=[[.v (.int .u8 206)]]) rfl ?_
     refine zaa ?_;refine zal ?_;refine mL ?_;refine zas ?_;refine zat ?_ zar;refine zac rfl (hput 4 (by omega)) ?_;refine zaa ?_;refine zal ?_;refine zax (la:=[206]) (lb:=be 4 (lo64 n)) rfl rfl rfl (by rw [zab]; simp) ?_;refine mL ?_;refine zaP ?_;refine zaf ⟨.inr rfl,[.d (pS ([206] ++ be 4 (lo64 n)))],rfl,?_⟩;rw [hres]; rfl
    ·refine zat ?_ zar
     refine zac rfl (hput 4 (by omega)) ?_;refine zaa ?_;refine zal ?_;refine zaa ?_;refine zas ?_;refine zat ?_ zar;refine zay (es:=[[.v (.int .u8 206)]]) rfl ?_;refine zaa ?_;refine zal ?_;refine mS ?_;refine zax (la:=[206]) (lb:=be 4 (lo64 n)) rfl rfl rfl (by rw [zab]; simp) ?_;refine mL ?_;refine zaP ?_;refine zaf ⟨.inr rfl,[.d (pS ([206] ++ be 4 (lo64 n)))],rfl,?_⟩;rw [hres]; rfl
   ·refine zam rfl rfl (decide_eq_false hf) ?_
    (iterate 3 refine mS ?_);refine zaa ?_;refine mwF ?_;refine mQ ?_;refine zam rfl rfl (decide_eq_false (show ¬ n < 0 by omega)) ?_;refine mS ?_;refine mZ ?_;(iterate 2 refine mS ?_);refine zaa ?_;refine mwF ?_;refine zaj ?_;refine zad ?_;refine zaq (n:=3) rfl rfl rfl rfl (by decide) ?_;refine mN ?_;exact ⟨1,by omega,3,by omega,rfl,fun _ => by simp only [pnP]; omega,fun h => by omega,rfl,rfl,rfl,rfl,trivial⟩
  ·have hq:=hq (by omega)
   refine zam rfl rfl (decide_eq_false (show ¬ n ≥ 0 from h0)) ?_;refine mS ?_;refine mZ ?_;(iterate 2 refine mS ?_);refine zaa ?_;refine mwF ?_;refine mQ ?_;refine zai rfl rfl (decide_eq_true (show n < 0 by omega)) ?_;(iterate 3 refine mS ?_);refine zaI (b:=true) rfl (fun _ => rfl) (fun _ => hsg 4 (by omega)) ?_;refine mS ?_;by_cases hf:sgw n 4 = n
   ·refine zai rfl rfl (decide_eq_true hf) ?_
    (iterate 2 refine mS ?_);refine zaa ?_;refine mwT ?_
    have hres:msgInt n = [210] ++ be 4 (lo64 n):=by
     unfold sgw at hf;rw [if_pos (by decide),show ((256 ^ 4:Nat):Int) = 4294967296 from rfl,show ((256 ^ 4 / 2:Nat):Int) = 2147483648 from rfl] at hf
     split at hf
     ·unfold msgInt
      repeat (first | rw [if_pos (by omega)] | rw [if_neg (by omega)])
     ·omega
    refine zah (zbq ?_);refine zal ?_;refine mS ?_;refine zaq (n:=210) rfl rfl rfl rfl (by decide) ?_;refine zbs (n:=210) rfl rfl (by decide) ?_;refine mS ?_;refine mL ?_;refine zas ?_;refine zat ?_ ?_
    ·refine zay (es:=[[.v (.int .u8 210)]]) rfl ?_
     refine zaa ?_;refine zal ?_;refine mL ?_;refine zas ?_;refine zat ?_ zar;refine zac rfl (hput 4 (by omega)) ?_;refine zaa ?_;refine zal ?_;refine zax (la:=[210]) (lb:=be 4 (lo64 n)) rfl rfl rfl (by rw [zab]; simp) ?_;refine mL ?_;refine zaP ?_;refine zaf ⟨.inr rfl,[.d (pS ([210] ++ be 4 (lo64 n)))],rfl,?_⟩;rw [hres]; rfl
    ·refine zat ?_ zar
     refine zac rfl (hput 4 (by omega)) ?_;refine zaa ?_;refine zal ?_;refine zaa ?_;refine zas ?_;refine zat ?_ zar;refine zay (es:=[[.v (.int .u8 210)]]) rfl ?_;refine zaa ?_;refine zal ?_;refine mS ?_;refine zax (la:=[210]) (lb:=be 4 (lo64 n)) rfl rfl rfl (by rw [zab]; simp) ?_;refine mL ?_;refine zaP ?_;refine zaf ⟨.inr rfl,[.d (pS ([210] ++ be 4 (lo64 n)))],rfl,?_⟩;rw [hres]; rfl
   ·refine zam rfl rfl (decide_eq_false hf) ?_
    (iterate 2 refine mS ?_);refine zaa ?_;refine mwF ?_;refine zaj ?_
    have hlow:n < -2147483648:=by
     apply Decidable.byContradiction
     intro hlt
     apply hf
     unfold sgw;rw [if_pos (by decide),show ((256 ^ 4:Nat):Int) = 4294967296 from rfl,show ((256 ^ 4 / 2:Nat):Int) = 2147483648 from rfl]
     split <;> omega
    refine zad ?_;refine zaq (n:=3) rfl rfl rfl rfl (by decide) ?_;refine mN ?_;exact ⟨1,by omega,3,by omega,rfl,fun h => by omega,fun _ => by simp only [pnN]; omega,rfl,rfl,rfl,rfl,trivial⟩
 ·simp only [pnP,pnN] at hp hq
  refine mO ?_;refine zai rfl rfl rfl ?_;refine zaa ?_;refine zah ?_;refine mwT ?_;refine zaj ?_;refine zah (zag (zah (zad ?_)));refine mS ?_;refine zaW (es:=[[pI 1],[pI 2],[pI 4],[pI 8]]) (e:=[pI 8]) rfl rfl rfl ⟨by decide,rfl⟩ rfl ?_;refine mN ?_;refine zag (zah (zad ?_));refine mS ?_;by_cases h0:0 <= n
  ·have hp:=hp h0
   refine zai rfl rfl (decide_eq_true (show n ≥ 0 from h0)) ?_;(iterate 2 refine mS ?_);refine zai rfl rfl rfl ?_;refine mS ?_;refine mZ ?_;(iterate 3 refine mS ?_);refine zaa ?_;refine mwT ?_
   have hres:msgInt n = [207] ++ be 8 (lo64 n):=by
    unfold msgInt
    repeat (first | rw [if_pos (by omega)] | rw [if_neg (by omega)])
   refine zah (zbq ?_);refine zal ?_;refine mS ?_;refine zaq (n:=207) rfl rfl rfl rfl (by decide) ?_;refine zbs (n:=207) rfl rfl (by decide) ?_;refine mS ?_;refine mL ?_;refine zas ?_;refine zat ?_ ?_
   ·refine zay (es:=[[.v (.int .u8 207)]]) rfl ?_
    refine zaa ?_;refine zal ?_;refine mL ?_;refine zas ?_;refine zat ?_ zar;refine zac rfl (hput 8 (by omega)) ?_;refine zaa ?_;refine zal ?_;refine zax (la:=[207]) (lb:=be 8 (lo64 n)) rfl rfl rfl (by rw [zab]; simp) ?_;refine mL ?_;refine zaP ?_;refine zaf ⟨.inr rfl,[.d (pS ([207] ++ be 8 (lo64 n)))],rfl,?_⟩;rw [hres]; rfl
   ·refine zat ?_ zar
    refine zac rfl (hput 8 (by omega)) ?_;refine zaa ?_;refine zal ?_;refine zaa ?_;refine zas ?_;refine zat ?_ zar;refine zay (es:=[[.v (.int .u8 207)]]) rfl ?_;refine zaa ?_;refine zal ?_;refine mS ?_;refine zax (la:=[207]) (lb:=be 8 (lo64 n)) rfl rfl rfl (by rw [zab]; simp) ?_;refine mL ?_;refine zaP ?_;refine zaf ⟨.inr rfl,[.d (pS ([207] ++ be 8 (lo64 n)))],rfl,?_⟩;rw [hres]; rfl
  ·have hq:=hq (by omega)
   refine zam rfl rfl (decide_eq_false (show ¬ n ≥ 0 from h0)) ?_;refine mS ?_;refine mZ ?_;(iterate 2 refine mS ?_);refine zaa ?_;refine mwF ?_;refine mQ ?_;refine zai rfl rfl (decide_eq_true (show n < 0 by omega)) ?_;(iterate 3 refine mS ?_);refine zaI (b:=true) rfl (fun _ => rfl) (fun _ => hsg 8 (by omega)) ?_;refine mS ?_;have hf:sgw n 8 = n:=by unfold sgw; rw [if_neg (by decide)]
   refine zai rfl rfl (decide_eq_true hf) ?_;(iterate 2 refine mS ?_);refine zaa ?_;refine mwT ?_
   have hres:msgInt n = [211] ++ be 8 (lo64 n):=by
    unfold msgInt
    repeat (first | rw [if_pos (by omega)] | rw [if_neg (by omega)])
   refine zah (zbq ?_);refine zal ?_;refine mS ?_;refine zaq (n:=211) rfl rfl rfl rfl (by decide) ?_;refine zbs (n:=211) rfl rfl (by decide) ?_;refine mS ?_;refine mL ?_;refine zas ?_;refine zat ?_ ?_
   ·refine zay (es:=[[.v (.int .u8 211)]]) rfl ?_
    refine zaa ?_;refine zal ?_;refine mL ?_;refine zas ?_;refine zat ?_ zar;refine zac rfl (hput 8 (by omega)) ?_;refine zaa ?_;refine zal ?_;refine zax (la:=[211]) (lb:=be 8 (lo64 n)) rfl rfl rfl (by rw [zab]; simp) ?_;refine mL ?_;refine zaP ?_;refine zaf ⟨.inr rfl,[.d (pS ([211] ++ be 8 (lo64 n)))],rfl,?_⟩;rw [hres]; rfl
   ·refine zat ?_ zar
    refine zac rfl (hput 8 (by omega)) ?_;refine zaa ?_;refine zal ?_;refine zaa ?_;refine zas ?_;refine zat ?_ zar;refine zay (es:=[[.v (.int .u8 211)]]) rfl ?_;refine zaa ?_;refine zal ?_;refine mS ?_;refine zax (la:=[211]) (lb:=be 8 (lo64 n)) rfl rfl rfl (by rw [zab]; simp) ?_;refine mL ?_;refine zaP ?_;refine zaf ⟨.inr rfl,[.d (pS ([211] ++ be 8 (lo64 n)))],rfl,?_⟩;rw [hres]; rfl
def u8w (x:Int):Int:=IntKind.wrap .u8 x
theorem be1_u8 (x:Int):be 1 (lo64 x) = [UInt8.ofNat (u8w x).toNat]:=by
 rw [be1]
 congr 1
 apply UInt8.toNat_inj.1
 rw [zaE];unfold u8w lo64;rw [IntKind.wrap_u8];simp;omega
theorem putLen_fn (n least low one two:Int) (hb:0 <= n /\ n <= 4611686018427387904) (hl:0 <= low /\ low <= 1000) (hl2:0 <= least /\ least <= 1000):FnV (env T hT) 181 [.d (pI n),.d (pI low),.d (pI least),.d (pI one),.d (pI two)] (.d (pS (msgMany n least low one two))):=by
 have hput:=fun (k:Int) (hk:1 <= k /\ k <= 8) => zhC (T:=T) (hT:=hT) n k hk (by unfold i64ok; omega)
 refine zaV (zak zeF) (by show 5 <= 42; decide) fun B hB => ?_
 unfold m_i_putLength;refine mP ?_;refine zah (zag (zah (zad ?_)));(iterate 2 refine mS ?_);refine po_b rfl rfl (fun b hb1 => ?_);refine mL ?_;refine zbe (p:=n < least) hb1 rfl (fun h _ => ?_) (fun h _ => ?_)
 ·refine mO ?_
  (iterate 2 refine mS ?_);refine zaq (n:=low + n) rfl rfl rfl rfl (by omega) ?_;refine zbs (n:=(u8w (low + n))) rfl rfl rfl ?_;refine zay (es:=[[.v (.int .u8 (u8w (low + n)))]]) rfl ?_;refine mN ?_;exact zaf ⟨.inr rfl,_,rfl,by unfold msgMany; rw [if_pos h,be1_u8]; rfl⟩
 refine zbN (fun s => has s.tm [(0,.d (pI n)),(3,.d (pI one)),(4,.d (pI two))]) ⟨rfl,rfl,rfl,trivial⟩ (fun tm bx nt live ht => ?_);obtain ⟨tm0,rfl⟩:=zae ht;clear ht hb1;refine mQ ?_;by_cases h2:n < 256
 ·refine zai rfl rfl (decide_eq_true h2) ?_
  (iterate 2 refine mS ?_);by_cases h3:one > 0
  ·refine zai rfl rfl (decide_eq_true h3) ?_
   (iterate 2 refine mS ?_);refine zaa ?_;refine mwT ?_
   have hres:msgMany n least low one two = [UInt8.ofNat (u8w one).toNat] ++ be 1 (lo64 n):=by
    unfold msgMany; rw [if_neg h,if_pos ⟨h2,h3⟩,be1_u8]
   refine zah (zbq ?_);refine zal ?_;refine mS ?_;refine zbs (n:=(u8w one)) rfl rfl rfl ?_;refine mL ?_;refine zas ?_;refine zat ?_ ?_
   ·refine zay (es:=[[.v (.int .u8 (u8w one))]]) rfl ?_
    refine zaa ?_;refine zal ?_;refine mL ?_;refine zas ?_;refine zat ?_ zar;refine zac rfl (hput 1 (by omega)) ?_;refine zaa ?_;refine zal ?_;refine zax (la:=[UInt8.ofNat (u8w one).toNat]) (lb:=be 1 (lo64 n)) rfl rfl rfl (by rw [zab]; simp) ?_;refine mL ?_;refine zaP ?_;refine zaf ⟨.inr rfl,[.d (pS ([UInt8.ofNat (u8w one).toNat] ++ be 1 (lo64 n)))],rfl,?_⟩;rw [hres]; rfl
   ·refine zat ?_ zar
    refine zac rfl (hput 1 (by omega)) ?_;refine zaa ?_;refine zal ?_;refine zaa ?_;refine zas ?_;refine zat ?_ zar;refine zay (es:=[[.v (.int .u8 (u8w one))]]) rfl ?_;refine zaa ?_;refine zal ?_;refine mS ?_;refine zax (la:=[UInt8.ofNat (u8w one).toNat]) (lb:=be 1 (lo64 n)) rfl rfl rfl (by rw [zab]; simp) ?_;refine mL ?_;refine zaP ?_;refine zaf ⟨.inr rfl,[.d (pS ([UInt8.ofNat (u8w one).toNat] ++ be 1 (lo64 n)))],rfl,?_⟩;rw [hres]; rfl
  ·refine zam rfl rfl (decide_eq_false h3) ?_
   (iterate 2 refine mS ?_);refine zaa ?_;refine mwF ?_;refine zaj ?_
   have hres:msgMany n least low one two = [UInt8.ofNat (u8w two).toNat] ++ be 2 (lo64 n):=by
    unfold msgMany; rw [if_neg h,if_neg (fun h => h3 h.2),be1_u8]
   refine zah (zbq ?_);refine zal ?_;refine mS ?_;refine zbs (n:=(u8w two)) rfl rfl rfl ?_;refine mL ?_;refine zas ?_;refine zat ?_ ?_
   ·refine zay (es:=[[.v (.int .u8 (u8w two))]]) rfl ?_
    refine zaa ?_;refine zal ?_;refine mL ?_;refine zas ?_;refine zat ?_ zar;refine zac rfl (hput 2 (by omega)) ?_;refine zaa ?_;refine zal ?_;refine zax (la:=[UInt8.ofNat (u8w two).toNat]) (lb:=be 2 (lo64 n)) rfl rfl rfl (by rw [zab]; simp) ?_;refine mL ?_;refine zaP ?_;refine zaf ⟨.inr rfl,[.d (pS ([UInt8.ofNat (u8w two).toNat] ++ be 2 (lo64 n)))],rfl,?_⟩;rw [hres]; rfl
   ·refine zat ?_ zar
    refine zac rfl (hput 2 (by omega)) ?_;refine zaa ?_;refine zal ?_;refine zaa ?_;refine zas ?_;refine zat ?_ zar;refine zay (es:=[[.v (.int .u8 (u8w two))]]) rfl ?_;refine zaa ?_;refine zal ?_;refine mS ?_;refine zax (la:=[UInt8.ofNat (u8w two).toNat]) (lb:=be 2 (lo64 n)) rfl rfl rfl (by rw [zab]; simp) ?_;refine mL ?_;refine zaP ?_;refine zaf ⟨.inr rfl,[.d (pS ([UInt8.ofNat (u8w two).toNat] ++ be 2 (lo64 n)))],rfl,?_⟩;rw [hres]; rfl
 ·refine zam rfl rfl (decide_eq_false h2) ?_
  refine mS ?_;refine mZ ?_;(iterate 2 refine mS ?_);refine zaa ?_;refine mwF ?_;refine zaj ?_
  have hres:msgMany n least low one two = [UInt8.ofNat (u8w two).toNat] ++ be 2 (lo64 n):=by
   unfold msgMany; rw [if_neg h,if_neg (fun h => h2 h.1),be1_u8]
  refine zah (zbq ?_);refine zal ?_;refine mS ?_;refine zbs (n:=(u8w two)) rfl rfl rfl ?_;refine mL ?_;refine zas ?_;refine zat ?_ ?_
  ·refine zay (es:=[[.v (.int .u8 (u8w two))]]) rfl ?_
   refine zaa ?_;refine zal ?_;refine mL ?_;refine zas ?_;refine zat ?_ zar;refine zac rfl (hput 2 (by omega)) ?_;refine zaa ?_;refine zal ?_;refine zax (la:=[UInt8.ofNat (u8w two).toNat]) (lb:=be 2 (lo64 n)) rfl rfl rfl (by rw [zab]; simp) ?_;refine mL ?_;refine zaP ?_;refine zaf ⟨.inr rfl,[.d (pS ([UInt8.ofNat (u8w two).toNat] ++ be 2 (lo64 n)))],rfl,?_⟩;rw [hres]; rfl
  ·refine zat ?_ zar
   refine zac rfl (hput 2 (by omega)) ?_;refine zaa ?_;refine zal ?_;refine zaa ?_;refine zas ?_;refine zat ?_ zar;refine zay (es:=[[.v (.int .u8 (u8w two))]]) rfl ?_;refine zaa ?_;refine zal ?_;refine mS ?_;refine zax (la:=[UInt8.ofNat (u8w two).toNat]) (lb:=be 2 (lo64 n)) rfl rfl rfl (by rw [zab]; simp) ?_;refine mL ?_;refine zaP ?_;refine zaf ⟨.inr rfl,[.d (pS ([UInt8.ofNat (u8w two).toNat] ++ be 2 (lo64 n)))],rfl,?_⟩;rw [hres]; rfl
end
section
def m_i_GetMsg:M:=so [⟨some 4,.zero [.int .i64 0,.int .i64 0,.int .i64 0,.string ⟨[].toArray⟩,.slice none 0 0],none,[]⟩,qo 5 (.mv (ci 0))] (.seq (so [qm 8 1,qm 9 0,qo 10 (.lens 9),qc 11 126 [8,ci 0,10] 1,qo 12 (.not 11)] (.cond 12 (so [⟨some 13,.build [.int .i64 0,.int .i64 0,.int .i64 0,.string ⟨[].toArray⟩,.slice none 0 0] [],none,[]⟩,qS 5 4 13,qo 5 (.mv (ci (-1)))] .ret) .skip)) (so [qm 14 0,qm 15 1,⟨some 16,.build [.string ⟨[].toArray⟩,.int .i64 0,.int .i64 0,.bool false] [(0,1,14),(1,1,15)],none,[]⟩,qo 17 (.box 16),qm 6 17] (so [qm 18 6,qc 19 127 [18,ci 0] 1,⟨some 7,.zero [.int .i64 0,.int .i64 0,.int .i64 0,.string ⟨[].toArray⟩,.slice none 0 0],none,[]⟩,qS 5 7 19] (.seq (so [qm 20 6,qo 21 (.nilc 20),qF 22 3 21,ql 23 1 22,qm 24 23,⟨some 25,.load true 5 7,some (24,false),[]⟩,qg 27 0 24 false,qg 28 1 24 false,qg 29 6 24 false,⟨some 30,.nilc 29,some (24,false),[]⟩,⟨some 31,.fld 1 30,some (24,false),[]⟩,⟨some 32,.load false 1 31,some (24,false),[]⟩,⟨some 33,.slcs 27 (some 28) (some 32),some (24,false),[]⟩,⟨some 26,.call 128 [25],some (24,false),[.f 0,31]⟩,⟨some 34,.bin .neq false 26 33,some (24,false),[]⟩,qo 35 (.pick 24 (cB true) 34)] (.cond 35 (so [⟨some 36,.build [.int .i64 0,.int .i64 0,.int .i64 0,.string ⟨[].toArray⟩,.slice none 0 0] [],none,[]⟩,qS 5 4 36,qo 5 (.mv (ci (-1)))] .ret) .skip)) (so [qL 37 5 7,qm 38 6,qo 39 (.nilc 38),qF 40 1 39,ql 41 1 40,⟨none,.store 5 4 37,none,[40]⟩,qm 5 41] .ret)))))
theorem zhD:look Tryz.prog 67 = some (42,m_i_GetMsg,[.cell true 5 4,.tm 5]):=by kernel_rfl
def m_i_unpacker_value:M:=so [⟨some 4,.zero [.int .i64 0,.int .i64 0,.int .i64 0,.string ⟨[].toArray⟩,.slice none 0 0],none,[]⟩] (so [qm 7 0,qo 8 (.nilc 7),qF 9 2 8,ql 10 1 9,qo 11 (.bin .add false 10 (ci 1)),qo 12 (.nilc 7),qF 13 2 12,qS 1 13 11] (so [qm 14 0,qc 15 167 [14,ci 1] 1,qm 5 15] (.seq (so [qm 16 0,qo 17 (.nilc 16),qF 18 3 17,ql 19 1 18,qm 20 19,qg 21 0 20 false,⟨some 22,.nilc 21,some (20,false),[]⟩,⟨some 23,.fld 2 22,some (20,false),[]⟩,⟨some 24,.load false 1 23,some (20,false),[]⟩,⟨some 25,.bin .gtr false 24 (ci 300),some (20,false),[]⟩,qo 26 (.pick 20 (cB true) 25),qm 27 26,qg 28 1 27 false,⟨some 29,.bin .gtr false 28 (ci 12),some (27,false),[]⟩,qo 30 (.pick 27 (cB true) 29)] (.cond 30 (so [qm 31 0,qo 32 (.nilc 31),qF 33 3 32,⟨none,.store 1 33 (cB true),none,[]⟩] (so [⟨some 34,.build [.int .i64 0,.int .i64 0,.int .i64 0,.string ⟨[].toArray⟩,.slice none 0 0] [],none,[]⟩,qS 5 4 34] .ret)) .skip)) (.seq (.block 0 (so [qm 36 5,qo 37 (.bin .lss false 36 (ci 128)),qm 35 37] (.cond 35 (so [qm 38 5,⟨some 39,.build [.int .i64 0,.int .i64 0,.int .i64 0,.string ⟨[].toArray⟩,.slice none 0 0] [(0,1,ci 3),(1,1,38)],none,[]⟩,qS 5 4 39] .ret) (so [qm 41 5,qo 42 (.bin .lss false 41 (ci 144)),qm 40 42] (.cond 40 (so [qm 43 0,qm 44 5,qo 45 (.bin .sub false 44 (ci 128)),qo 46 (.bin .mul false (ci 2) 45),qm 47 1,qo 48 (.bin .add false 47 (ci 1)),qc 49 168 [43,46,48] 1,⟨some 50,.build [.int .i64 0,.int .i64 0,.int .i64 0,.string ⟨[].toArray⟩,.slice none 0 0] [(0,1,ci 8),(4,1,49)],none,[]⟩,qS 5 4 50] .ret) (so [qm 52 5,qo 53 (.bin .lss false 52 (ci 160)),qm 51 53] (.cond 51 (so [qm 54 0,qm 55 5,qo 56 (.bin .sub false 55 (ci 144)),qm 57 1,qo 58 (.bin .add false 57 (ci 1)),qc 59 168 [54,56,58] 1,⟨some 60,.build [.int .i64 0,.int .i64 0,.int .i64 0,.string ⟨[].toArray⟩,.slice none 0 0] [(0,1,ci 7),(4,1,59)],none,[]⟩,qS 5 4 60] .ret) (so [qm 62 5,qo 63 (.bin .lss false 62 (ci 192)),qm 61 63] (.cond 61 (so [qm 64 0,qm 65 5,qo 66 (.bin .sub false 65 (ci 160)),qc 67 169 [64,66] 1,⟨some 68,.build [.int .i64 0,.int .i64 0,.int .i64 0,.string ⟨[].toArray⟩,.slice none 0 0] [(0,1,ci 5),(3,1,67)],none,[]⟩,qS 5 4 68] .ret) (so [qm 70 5,qo 71 (.bin .geq false 70 (ci 224)),qm 69 71] (.cond 69 (so [qm 72 5,qo 73 (.bin .sub false 72 (ci 256)),⟨some 74,.build [.int .i64 0,.int .i64 0,.int .i64 0,.string ⟨[].toArray⟩,.slice none 0 0] [(0,1,ci 3),(1,1,73)],none,[]⟩,qS 5 4 74] .ret) (so [qm 76 5,qc 77 126 [76,ci 204,ci 207] 1,qm 75 77] (.cond 75 (so [qm 78 0,qm 79 5,qo 80 (.bin .sub false 79 (ci 204)),qo 81 (.bin .shl false (ci 1) 80),qc 82 167 [78,81] 1,⟨some 83,.build [.int .i64 0,.int .i64 0,.int .i64 0,.string ⟨[].toArray⟩,.slice none 0 0] [(0,1,ci 3),(1,1,82)],none,[]⟩,qS 5 4 83] .ret) (so [qm 85 5,qc 86 126 [85,ci 208,ci 211] 1,qm 84 86] (.cond 84 (so [qm 87 5,qo 88 (.bin .sub false 87 (ci 208)),qo 89 (.bin .shl false (ci 1) 88),qm 6 89] (so [qm 90 0,qm 91 6,qc 92 167 [90,91] 1,qm 93 6,qc 94 170 [92,93] 1,⟨some 95,.build [.int .i64 0,.int .i64 0,.int .i64 0,.string ⟨[].toArray⟩,.slice none 0 0] [(0,1,ci 3),(1,1,94)],none,[]⟩,qS 5 4 95] .ret)) .skip))))))))))))))) (.seq (so [qm 96 5] (.block 1 (so [qo 98 (.bin .eql false 96 (ci 192)),qm 97 98] (.cond 97 (so [⟨some 99,.build [.int .i64 0,.int .i64 0,.int .i64 0,.string ⟨[].toArray⟩,.slice none 0 0] [(0,1,ci 0)],none,[]⟩,qS 5 4 99] .ret) (so [qo 101 (.bin .eql false 96 (ci 194)),qm 100 101] (.cond 100 (so [⟨some 102,.build [.int .i64 0,.int .i64 0,.int .i64 0,.string ⟨[].toArray⟩,.slice none 0 0] [(0,1,ci 1)],none,[]⟩,qS 5 4 102] .ret) (so [qo 104 (.bin .eql false 96 (ci 195)),qm 103 104] (.cond 103 (so [⟨some 105,.build [.int .i64 0,.int .i64 0,.int .i64 0,.string ⟨[].toArray⟩,.slice none 0 0] [(0,1,ci 2)],none,[]⟩,qS 5 4 105] .ret) (.seq (so [qo 107 (.bin .eql false 96 (ci 196)),qm 106 107] (.cond 106 .skip (.ops [qo 108 (.bin .eql false 96 (ci 197)),qm 106 108]))) (.cond 106 (so [qm 109 0,qm 110 0,qm 111 5,qo 112 (.bin .sub false 111 (ci 195)),qc 113 167 [110,112] 1,qc 114 169 [109,113] 1,⟨some 115,.build [.int .i64 0,.int .i64 0,.int .i64 0,.string ⟨[].toArray⟩,.slice none 0 0] [(0,1,ci 6),(3,1,114)],none,[]⟩,qS 5 4 115] .ret) (so [qo 117 (.bin .eql false 96 (ci 199)),qm 116 117] (.cond 116 (so [qm 118 0,qm 119 1,qc 120 171 [118,119] 1,qS 5 4 120] .ret) (.seq (so [qo 122 (.bin .eql false 96 (ci 217)),qm 121 122] (.cond 121 .skip (.ops [qo 123 (.bin .eql false 96 (ci 218)),qm 121 123]))) (.cond 121 (so [qm 124 0,qm 125 0,qm 126 5,qo 127 (.bin .sub false 126 (ci 216)),qc 128 167 [125,127] 1,qc 129 169 [124,128] 1,⟨some 130,.build [.int .i64 0,.int .i64 0,.int .i64 0,.string ⟨[].toArray⟩,.slice none 0 0] [(0,1,ci 5),(3,1,129)],none,[]⟩,qS 5 4 130] .ret) (so [qo 132 (.bin .eql false 96 (ci 220)),qm 131 132] (.cond 131 (so [qm 133 0,qm 134 0,qc 135 167 [134,ci 2] 1,qm 136 1,qo 137 (.bin .add false 136 (ci 1)),qc 138 168 [133,135,137] 1,⟨some 139,.build [.int .i64 0,.int .i64 0,.int .i64 0,.string ⟨[].toArray⟩,.slice none 0 0] [(0,1,ci 7),(4,1,138)],none,[]⟩,qS 5 4 139] .ret) (so [qo 141 (.bin .eql false 96 (ci 222)),qm 140 141] (.cond 140 (so [qm 142 0,qm 143 0,qc 144 167 [143,ci 2] 1,qo 145 (.bin .mul false (ci 2) 144),qm 146 1,qo 147 (.bin .add false 146 (ci 1)),qc 148 168 [142,145,147] 1,⟨some 149,.build [.int .i64 0,.int .i64 0,.int .i64 0,.string ⟨[].toArray⟩,.slice none 0 0] [(0,1,ci 8),(4,1,148)],none,[]⟩,qS 5 4 149] .ret) .skip)))))))))))))))))) (so [qm 150 0,qo 151 (.nilc 150),qF 152 3 151,⟨none,.store 1 152 (cB true),none,[]⟩] (so [⟨some 153,.build [.int .i64 0,.int .i64 0,.int .i64 0,.string ⟨[].toArray⟩,.slice none 0 0] [],none,[]⟩,qS 5 4 153] .ret)))))))
theorem zcV:look Tryz.prog 127 = some (154,m_i_unpacker_value,[.cell true 5 4]):=by kernel_rfl
def m_i_unpacker_wide:M:=so [qo 4 (.mv (ci 0))] (so [qm 8 0,qo 9 (.nilc 8),qF 10 0 9,ql 11 1 10,qm 12 0,qo 13 (.nilc 12),qF 14 1 13,ql 15 1 14,qm 16 1,qc 17 166 [11,15,16] 0,qm 7 17,qe 18 7 0,qe 19 7 1,qm 5 18,qm 6 19] (.seq (so [qm 20 0,qo 21 (.nilc 20),qF 22 3 21,ql 23 1 22,qm 24 23,qg 25 6 24 false,⟨some 26,.not 25,some (24,false),[]⟩,qo 27 (.pick 24 (cB true) 26)] (.cond 27 (so [qm 28 0,qo 29 (.nilc 28),qF 30 3 29,⟨none,.store 1 30 (cB true),none,[]⟩] (so [qo 4 (.mv (ci 0))] .ret)) .skip)) (so [qm 31 0,qo 32 (.nilc 31),qF 33 1 32,ql 34 1 33,qm 35 1,qo 36 (.bin .add false 34 35),qo 37 (.nilc 31),qF 38 1 37,qS 1 38 36] (so [qm 39 5,qm 4 39] .ret))))
theorem zdi:look Tryz.prog 167 = some (40,m_i_unpacker_wide,[.tm 4]):=by kernel_rfl
def m_i_unpacker_many:M:=so [qo 6 (.mv (.c (.slice none 0 0)))] (so [qo 8 (.lit 5 []),qm 7 8] (.seq (.block 0 (.loop (.seq (so [qm 9 1,qo 10 (.bin .gtr false 9 (ci 0)),qm 11 10,qg 12 0 11 true,⟨some 13,.nilc 12,some (11,true),[]⟩,⟨some 14,.fld 3 13,some (11,true),[]⟩,⟨some 15,.load false 1 14,some (11,true),[]⟩,⟨some 16,.not 15,some (11,true),[]⟩,qo 17 (.pick 11 16 (cB false))] (.cond 17 .skip (.exit 0))) (.seq (.block 1 (.ops [qm 20 7,qm 21 0,qm 22 2,qc 23 127 [21,22] 1,qo 24 (.lit 5 [23]),⟨some 25,.app 5 20 24,none,[.f 1]⟩,qm 7 25])) (.ops [qm 18 1,qo 19 (.bin .sub false 18 (ci 1)),qm 1 19]))))) (so [qm 26 7,qm 6 26] .ret)))
theorem zdj:look Tryz.prog 168 = some (27,m_i_unpacker_many,[.tm 6]):=by kernel_rfl
def m_i_unpacker_text:M:=so [⟨some 4,.mv (.c (.string ⟨[].toArray⟩)),none,[]⟩] (.seq (so [qm 5 0,qo 6 (.nilc 5),qF 7 3 6,ql 8 1 7,qm 9 8,qg 10 1 9 false,qg 11 0 9 false,⟨some 12,.nilc 11,some (9,false),[]⟩,⟨some 13,.fld 0 12,some (9,false),[]⟩,⟨some 14,.load false 1 13,some (9,false),[]⟩,⟨some 15,.lens 14,some (9,false),[]⟩,qg 16 0 9 false,⟨some 17,.nilc 16,some (9,false),[]⟩,⟨some 18,.fld 1 17,some (9,false),[]⟩,⟨some 19,.load false 1 18,some (9,false),[]⟩,⟨some 20,.bin .sub false 15 19,some (9,false),[]⟩,⟨some 21,.bin .gtr false 10 20,some (9,false),[]⟩,qo 22 (.pick 9 (cB true) 21)] (.cond 22 (so [qm 23 0,qo 24 (.nilc 23),qF 25 3 24,⟨none,.store 1 25 (cB true),none,[]⟩] (so [⟨some 4,.mv (.c (.string ⟨[].toArray⟩)),none,[]⟩] .ret)) .skip)) (so [qm 26 0,qo 27 (.nilc 26),qF 28 1 27,ql 29 1 28,qm 30 1,qo 31 (.bin .add false 29 30),qo 32 (.nilc 26),qF 33 1 32,qS 1 33 31] (so [qm 34 0,qo 35 (.nilc 34),qF 36 0 35,ql 37 1 36,qm 38 0,qo 39 (.nilc 38),qF 40 1 39,ql 41 1 40,qm 42 1,qo 43 (.bin .sub false 41 42),qm 44 0,qo 45 (.nilc 44),qF 46 1 45,ql 47 1 46,qo 48 (.slcs 37 (some 43) (some 47)),qm 4 48] .ret)))
theorem zdk:look Tryz.prog 169 = some (49,m_i_unpacker_text,[.tm 4]):=by kernel_rfl
def m_i_unpacker_extended:M:=so [⟨some 4,.zero [.int .i64 0,.int .i64 0,.int .i64 0,.string ⟨[].toArray⟩,.slice none 0 0],none,[]⟩] (.seq (so [qm 9 0,qc 10 167 [9,ci 1] 1,qm 11 0,qc 12 167 [11,ci 1] 1,qm 5 10,qm 6 12] (.block 0 (so [qm 14 5,qo 15 (.bin .eql false 14 (ci 9)),qm 16 15,qg 17 6 16 true,⟨some 18,.bin .eql false 17 (ci 4),some (16,true),[]⟩,qo 19 (.pick 16 18 (cB false)),qm 13 19] (.cond 13 (so [qm 20 0,qc 21 167 [20,ci 1] 1,qc 22 170 [21,ci 1] 1,qm 7 22] (so [qm 23 7,qm 24 0,qc 25 167 [24,ci 8] 1,⟨some 26,.build [.int .i64 0,.int .i64 0,.int .i64 0,.string ⟨[].toArray⟩,.slice none 0 0] [(0,1,ci 4),(2,1,23),(1,1,25)],none,[]⟩,qS 5 4 26] .ret)) (so [qm 28 5,qo 29 (.bin .eql false 28 (ci 4)),qm 30 29,qg 31 6 30 true,⟨some 32,.bin .eql false 31 (ci 6),some (30,true),[]⟩,qo 33 (.pick 30 32 (cB false)),qm 27 33] (.cond 27 (so [qm 34 0,qc 35 167 [34,ci 4] 1,qm 8 35] (so [qm 36 8,qm 37 0,qm 38 1,qo 39 (.bin .add false 38 (ci 1)),qc 40 127 [37,39] 1,qo 41 (.lit 5 [40]),⟨some 42,.build [.int .i64 0,.int .i64 0,.int .i64 0,.string ⟨[].toArray⟩,.slice none 0 0] [(0,1,ci 9),(1,1,36),(4,1,41)],none,[]⟩,qS 5 4 42] .ret)) .skip)))))) (so [qm 43 0,qo 44 (.nilc 43),qF 45 3 44,⟨none,.store 1 45 (cB true),none,[]⟩] (so [⟨some 46,.build [.int .i64 0,.int .i64 0,.int .i64 0,.string ⟨[].toArray⟩,.slice none 0 0] [],none,[]⟩,qS 5 4 46] .ret)))
theorem zce:look Tryz.prog 171 = some (47,m_i_unpacker_extended,[.cell true 5 4]):=by kernel_rfl
end
section
variable {T:World -> Prop} {hT:Low ngl T}
attribute [local irreducible] po mw pt
theorem FnV.oldT {E:Env} {f:Nat} {args:List PV} {a b:Value} (ha:a.oneCell' = true) (hb1:b.oneCell' = true) (h:∀ (w:World) (C:Cx) (vs:List Value),(∀ b o,C.F b o -> b < w.heap.size) -> E.NG <= w.heap.size -> E.T w -> vs.length = args.length -> (∀ (j:Nat) (x:PV) (y:Value),args[j]? = some x -> vs[j]? = some y -> RpV C w x y) ->
  Calls E.P f vs.toArray w fun e w' => e = .returned (.tuple #[a,b]) /\ Below w.heap.size w w'):FnV E f args (.tup [.d (.v a),.d (.v b)]):=by
 intro C w vs hI hnt hold hl hv;refine (h w C vs hI.fin hI.ng hI.t hl hv).mono ?_;rintro e w' ⟨rfl,hb⟩;have hF:Fix C w w':=.of (fun b o hF => World.cell?_of_block (a:=⟨b,o,none⟩) (hb.block b (hI.fin b o hF))) hb.block
 refine ⟨_,.tup [.d (.v a),.d (.v b)],[],fun _ => False,C,rfl,rfl,⟨hI.nb,fun p cs hp => by simp at hp,fun p hp => by simp at hp,fun p hp => by simp at hp,fun p q hp => by simp at hp,fun t ht => ht.elim,fun t s b ht => ht.elim,fun b o h => Nat.lt_of_lt_of_le (hI.fin b o h) hb.size,Nat.le_trans hI.ng hb.size,E.low w w' hI.t hb.size (fun k hk => hb.block k (Nat.lt_of_lt_of_le hk hI.ng))⟩,
  ⟨hb.os,hb.tape,hb.output,hb.size,fun _ _ h => h,hF,fun k hk _ _ => hb.block k hk,⟨lR,fun _ _ => rfl⟩,fun _ _ h => .inl h,fun t b ht => ht.elim,(fun p hp hp2 => by simp at hp2),⟨lR,fun _ _ => ⟨rfl,rfl,rfl,rfl⟩⟩⟩,.tup _ [a,b] rfl ?_⟩
 intro j x y hx hy
 match j with
 | 0 => simp at hx hy; subst hx; subst hy; exact .d _ _ (.v a ha)
 | 1 => simp at hx hy; subst hx; subst hy; exact .d _ _ (.v b hb1)
 | j + 2 => simp at hx
theorem getwI_fn (s:L8) (i k:Nat) (hk:1 <= k /\ k <= 8) (hi:i <= s.length) (hl:s.length <= 4611686018427387904):FnV (env T hT) 166 [.d (pS s),.d (pI i),.d (pI k)] (.tup [.d (pI (gwz s i k)),.d (pB (decide (i + k <= s.length)))]):=by
 have key:FnV (env T hT) 166 [.d (pS s),.d (pI i),.d (pI k)] (.tup [.d (.v (.int .i64 (gwz s i k))),.d (.v (.bool (decide (i + k <= s.length))))]):=by
  refine FnV.oldT rfl rfl fun w C vs hF _ _ hlen hv => ?_
  match vs,hlen with
  | [x,y,z],_ =>
   have h1:=pS_inv (hv 0 _ _ rfl rfl); have h2:=zbj (hv 1 _ _ rfl rfl); have h3:=zbj (hv 2 _ _ rfl rfl)
   subst h1; subst h2; subst h3
   refine (zcT s i k w hk hi (by omega)).mono ?_;rintro e w' ⟨rfl,hb⟩;refine ⟨?_,hb⟩;unfold gwz gwN;by_cases h:i + k <= s.length
   ·rw [if_pos h,if_pos h,decide_eq_true h]
   ·rw [if_neg h,if_neg h,decide_eq_false h]
 exact key
def uC (s:L8) (at_ cnt:Nat) (bad:Bool):List PC:=[pS s,pI at_,pI cnt,pB bad]
theorem za5 (s:L8) (a c:Nat) (b:Bool):lwL 0 (uC s a c b):=⟨trivial,trivial,trivial,trivial,trivial⟩
def WideR (s:L8) (a k cnt:Nat) (bad:Bool) (nt:Nat) (live:List Nat) (x:PV) (c':List PC) (n:Nat) (l:List Nat):Prop:=n = nt /\ l = live /\ ((bad = false /\ a + k <= s.length /\ c' = uC s (a + k) cnt false /\ x = .d (pI (gwN s a k))) \/ ((bad = true \/ ¬ a + k <= s.length) /\ c' = uC s a cnt true /\ x = .d (pI 0)))
theorem zbl (s:L8) (a k cnt:Nat) (bad:Bool) (hk:1 <= k /\ k <= 8) (ha:a <= s.length) (hs:s.length <= 2147483647) (nt:Nat) (live:List Nat) :
  FnG (env T hT) 167 [.ref 0 0,.d (pI k)] [uC s a cnt bad] nt live (fun x b n l => ∃ c' rest,b = c' :: rest /\ x.lw 0 /\ lwL 0 c' /\ WideR s a k cnt bad nt live x c' n l):=by
 refine zaU (zak zdi) (by show 2 <= 40; decide) fun B hB => ?_
 unfold m_i_unpacker_wide;refine mP ?_;refine mO ?_;(iterate 9 refine mS ?_);refine zac (args:=[.d (pS s),.d (pI a),.d (pI k)]) rfl (getwI_fn s a k hk ha (by omega)) ?_;refine mN ?_;refine zah ?_;refine zau (fun st => has st.tm [(0,.ref 0 0),(1,.d (pI k)),(5,.d (pI (gwz s a k))),(27,.d (pB (bad || !decide (a + k <= s.length))))] /\ st.bx = [uC s a cnt bad] /\ st.nt = nt /\ st.live = live) ?_ ?_
 ·refine zad ?_
  (iterate 5 refine mS ?_)
  cases bad with
  | true =>
   refine mZ ?_;refine mN ?_
   exact ⟨⟨rfl,rfl,rfl,rfl,trivial⟩,rfl,rfl,rfl⟩
  | false =>
   refine mN ?_;exact ⟨⟨rfl,rfl,rfl,rfl,trivial⟩,rfl,rfl,rfl⟩
 rintro tm bx n1 l1 ⟨ht,rfl,rfl,rfl⟩;obtain ⟨tm0,rfl⟩:=zae ht;refine zaO (t:=bad || !decide (a + k <= s.length)) rfl (fun hc => ?_) (fun hc => ?_)
 ·refine mO ?_
  (iterate 3 refine mS ?_);refine zaw (p:=0) (o':=3) (cs:=[pB true]) (z:=uC s a cnt bad) rfl rfl rfl ⟨rfl,Nat.le_of_ble_eq_true rfl⟩ rfl ?_;refine zaa ?_;refine mP ?_;refine zaf ⟨.inr rfl,[.d (pI 0)],rfl,uC s a cnt true,_,rfl,trivial,za5 _ _ _ _,rfl,rfl,.inr ⟨?_,rfl,rfl⟩⟩;simp only [Bool.or_eq_true,Bool.not_eq_true',decide_eq_false_iff_not] at hc;exact hc
 ·simp only [Bool.or_eq_false_iff,Bool.not_eq_false',decide_eq_true_eq] at hc
  obtain ⟨rfl,hle⟩:=hc;refine zaj ?_;refine mO ?_;(iterate 5 refine mS ?_);refine zaq (n:=((a + k:Nat):Int)) rfl rfl rfl (by omega) (by omega) ?_;(iterate 2 refine mS ?_);refine zaw (p:=0) (o':=1) (cs:=[pI ((a + k:Nat):Int)]) (z:=uC s a cnt false) rfl rfl rfl ⟨rfl,Nat.le_of_ble_eq_true rfl⟩ rfl ?_;refine zaa ?_;refine mP ?_;exact zaf ⟨.inr rfl,[.d (pI (gwz s a k))],rfl,uC s (a + k) cnt false,_,rfl,trivial,za5 _ _ _ _,rfl,rfl,.inl ⟨rfl,hle,rfl,by rw [zdI hle]; rfl⟩⟩
def TextR (s:L8) (a k cnt:Nat) (bad:Bool) (nt:Nat) (live:List Nat) (x:PV) (c':List PC) (n:Nat) (l:List Nat):Prop:=n = nt /\ l = live /\ ((bad = false /\ a + k <= s.length /\ c' = uC s (a + k) cnt false /\ x = .d (pS ((s.drop a).take k))) \/ ((bad = true \/ ¬ a + k <= s.length) /\ c' = uC s a cnt true /\ x = .d (pS [])))
theorem zhE (s:L8) (a k cnt:Nat) (bad:Bool) (hk:k <= 65536) (ha:a <= s.length) (hs:s.length <= 2147483647) (nt:Nat) (live:List Nat) :
  FnG (env T hT) 169 [.ref 0 0,.d (pI k)] [uC s a cnt bad] nt live (fun x b n l => ∃ c' rest,b = c' :: rest /\ x.lw 0 /\ lwL 0 c' /\ TextR s a k cnt bad nt live x c' n l):=by
 refine zaU (zak zdk) (by show 2 <= 49; decide) fun B hB => ?_
 unfold m_i_unpacker_text;refine mP ?_;refine zah ?_;refine zau (fun st => has st.tm [(0,.ref 0 0),(1,.d (pI k)),(22,.d (pB (bad || !decide (a + k <= s.length))))] /\ st.bx = [uC s a cnt bad] /\ st.nt = nt /\ st.live = live) ?_ ?_
 ·refine zad ?_
  (iterate 5 refine mS ?_)
  cases bad with
  | true =>
   refine mZ ?_;refine mN ?_
   exact ⟨⟨rfl,rfl,rfl,trivial⟩,rfl,rfl,rfl⟩
  | false =>
   (iterate 5 refine mS ?_);refine po_q (v:=.d (pI s.length)) rfl rfl ?_;(iterate 4 refine mS ?_);refine zaQ (n:=(s.length:Int) - a) rfl rfl rfl rfl (by omega) ?_;refine po_b rfl rfl (fun b hb => ?_);refine mN ?_
   have:(!decide (a + k <= s.length)) = b:=by
    rw [hb];by_cases h:a + k <= s.length
    ·rw [decide_eq_true h,decide_eq_false (by omega)]; rfl
    ·rw [decide_eq_false h,decide_eq_true (by omega)]; rfl
   exact ⟨⟨rfl,rfl,by rw [Bool.false_or,this]; rfl,trivial⟩,rfl,rfl,rfl⟩
 rintro tm bx n1 l1 ⟨ht,rfl,rfl,rfl⟩;obtain ⟨tm0,rfl⟩:=zae ht;refine zaO (t:=bad || !decide (a + k <= s.length)) rfl (fun hc => ?_) (fun hc => ?_)
 ·refine mO ?_
  (iterate 3 refine mS ?_);refine zaw (p:=0) (o':=3) (cs:=[pB true]) (z:=uC s a cnt bad) rfl rfl rfl ⟨rfl,Nat.le_of_ble_eq_true rfl⟩ rfl ?_;refine zaa ?_;refine mP ?_;refine zaf ⟨.inr rfl,[.d (pS [])],rfl,uC s a cnt true,_,rfl,trivial,za5 _ _ _ _,rfl,rfl,.inr ⟨?_,rfl,rfl⟩⟩;simp only [Bool.or_eq_true,Bool.not_eq_true',decide_eq_false_iff_not] at hc;exact hc
 ·simp only [Bool.or_eq_false_iff,Bool.not_eq_false',decide_eq_true_eq] at hc
  obtain ⟨rfl,hle⟩:=hc;refine zaj ?_;refine mO ?_;(iterate 5 refine mS ?_);refine zaq (n:=((a + k:Nat):Int)) rfl rfl rfl (by omega) (by omega) ?_;(iterate 2 refine mS ?_);refine zaw (p:=0) (o':=1) (cs:=[pI ((a + k:Nat):Int)]) (z:=uC s a cnt false) rfl rfl rfl ⟨rfl,Nat.le_of_ble_eq_true rfl⟩ rfl ?_;refine zaa ?_;refine mO ?_;(iterate 9 refine mS ?_);refine zaQ (n:=(a:Int)) rfl rfl rfl (by omega) (by omega) ?_;(iterate 4 refine mS ?_);refine zbA (a:=a) (b:=a + k) (rs:=(s.drop a).take k) rfl rfl (zaN rfl rfl) (zaN rfl rfl) (by omega) (by rw [Nat.add_sub_cancel_left]) ?_;refine mN ?_;exact zaf ⟨.inr rfl,[.d (pS ((s.drop a).take k))],rfl,uC s (a + k) cnt false,_,rfl,trivial,za5 _ _ _ _,rfl,rfl,.inl ⟨rfl,hle,rfl,rfl⟩⟩
end
section
def okB:PC -> Prop
 | .row _ _ _ => True
 | c => c.lw 0
theorem okB_of {c:PC} (h:c.lw 0):okB c:=by
 cases c with
 | row p l c => trivial
 | _ => exact h
open Classical in
noncomputable def PC.shB (k:Nat) (c:PC):PC:=if okB c then (match c with | .row p l c => .row (p + k) l c | c => c) else .anyp
theorem shB_row (k p l c:Nat):PC.shB k (.row p l c) = .row (p + k) l c:=if_pos trivial
theorem zdl {k:Nat} {c:PC} (h:c.lw 0):c.shB k = c:=by
 unfold PC.shB;rw [if_pos (okB_of h)]
 cases c with
 | row p l c => exact absurd h (Nat.not_lt_zero p)
 | _ => rfl
theorem shB_idL {k:Nat}:∀ {cs:List PC},lwL 0 cs -> cs.map (PC.shB k) = cs
 | [],_ => rfl
 | c :: cs,h => by rw [map_cons,zdl h.1,shB_idL h.2]
mutual
noncomputable def PV.shB (k:Nat):PV -> PV
 | .d c => .d (c.shB k)
 | .ag cs => .ag (cs.map (PC.shB k))
 | .tup vs => .tup (shBs k vs)
 | .ref p o => .ref (p + k) o
 | .pt cs => .pt (cs.map (PC.shB k))
 | .fn f vs => .fn f (shBs k vs)
 | .raw v => .raw v
noncomputable def shBs (k:Nat):List PV -> List PV
 | [] => []
 | v :: vs => PV.shB k v :: shBs k vs
end
theorem zdU (k:Nat):∀ vs:List PV,shBs k vs = vs.map (PV.shB k)
 | [] => rfl
 | v :: vs => by simp only [shBs,map_cons,zdU k vs]
section
variable {C:Cx} {w:World} {k n:Nat} {f:Nat -> Nat}
theorem rp_shB {c:PC} {v:Value} (h:RpC C w c v) (hf:∀ p,p < C.nb -> p + k < n /\ f (p + k) = C.bx p):RpC (C.reb n f) w (c.shB k) v:=by
 unfold PC.shB;by_cases ho:okB c
 ·rw [if_pos ho]
  cases c with
  | row p l c => cases h with
   | row _ _ _ h1 h2 h3 =>
    obtain ⟨a1,a2⟩:=hf p h1
    have:=RpC.row (C:=C.reb n f) (w:=w) (p + k) l c a1 h2 h3
    rw [show (C.reb n f).bx (p + k) = C.bx p from a2] at this; exact this
  | v x => exact RpC.reb (c:=.v x) h ho
  | sl t es => exact RpC.reb (c:=.sl t es) h ho
  | anyp => exact RpC.reb (c:=.anyp) h ho
  | bld p T t U => exact absurd ho (Nat.not_lt_zero p)
 ·rw [if_neg ho]; exact .anyp v h.one
theorem rpL_shB {cs:List PC} {vs:List Value} (h:RpL C w cs vs) (hf:∀ p,p < C.nb -> p + k < n /\ f (p + k) = C.bx p):RpL (C.reb n f) w (cs.map (PC.shB k)) vs:=by
 refine ⟨by rw [length_map]; exact h.1,fun j c y h1 h2 => ?_⟩;rw [getElem?_map] at h1
 cases hj:cs[j]? with
 | none => rw [hj] at h1; cases h1
 | some c0 =>
  rw [hj] at h1; simp only [Option.map_some,sI] at h1; subst h1
  exact rp_shB (h.2 j c0 y hj h2) hf
theorem rpV_shB {x:PV} {v:Value} (h:RpV C w x v) (hf:∀ p,p < C.nb -> p + k < n /\ f (p + k) = C.bx p):RpV (C.reb n f) w (x.shB k) v:=by
 have conv:∀ (xs:List PV) (vs:List Value),(∀ (j:Nat) (x:PV) (y:Value),xs[j]? = some x -> vs[j]? = some y -> RpV (C.reb n f) w (x.shB k) y) -> ∀ (j:Nat) (x:PV) (y:Value),(shBs k xs)[j]? = some x -> vs[j]? = some y -> RpV (C.reb n f) w x y:=by
  intro xs vs ih j x y h1 h2;rw [zdU,getElem?_map] at h1
  cases hj:xs[j]? with
  | none => rw [hj] at h1; cases h1
  | some c0 =>
   rw [hj] at h1; simp only [Option.map_some,sI] at h1; subst h1
   exact ih j c0 y hj h2
 induction h with
 | d x v h => exact .d _ v (rp_shB h hf)
 | ag cs vs h => exact .ag _ vs (rpL_shB h hf)
 | tup xs vs hl _ ih => exact .tup _ vs (by rw [zdU,length_map]; exact hl) (conv xs vs ih)
 | raw v => exact .raw v
 | ref p o h =>
  obtain ⟨a1,a2⟩:=hf p h
  have:=RpV.ref (C:=C.reb n f) (w:=w) (p + k) o a1
  rw [show (C.reb n f).bx (p + k) = C.bx p from a2] at this; exact this
 | pt cs b o u hc hF h =>
  refine .pt _ b o u (fun j hj => hc j (by simpa using hj)) (fun j hj => hF j (by simpa using hj)) fun j c hj => ?_
  rw [getElem?_map] at hj
  cases hh:cs[j]? with
  | none => rw [hh] at hj; cases hj
  | some c0 =>
   rw [hh] at hj; simp only [Option.map_some,sI] at hj; subst hj
   exact rp_shB (h j c0 hh) hf
 | fn f xs vs hl h ih => exact .fn f _ vs (by rw [zdU,length_map]; exact hl) (conv xs vs ih)
end
theorem FnG.liftR {E:Env} {f:Nat} {args:List PV} {nt:Nat} {live:List Nat} {R:PV -> LP PC -> Nat -> List Nat -> Prop}
  (h:FnG E f args [] nt live R) (ha:lwVs 0 args) {bx:LP PC} :
  FnG E f args bx nt live (fun x b n l => ∃ x0 b0,x = x0.shB bx.length /\ b = bx ++ b0.map (·.map (PC.shB bx.length)) /\ R x0 b0 n l):=by
 intro C w vs hI hnt hold hn2 hlen hv;have hnb:=hI.nb
 have hI1:Inv E.NG E.T (C.reb 0 fun _ => 0) [] (· ∈ live) w:=by
  refine ⟨rfl,fun q cs hq => by simp at hq,fun q hq => by simp at hq,fun q hq => by simp at hq,fun q r hq => by simp at hq,fun t ht => ?_,hI.tinj,hI.fin,hI.ng,hI.t⟩;obtain ⟨a1,a2,a3⟩:=hI.tok t ht;refine ⟨a1,a2,a3.imp id ?_⟩;rintro ⟨b,cur,e,c1,c2,c3,c4,c5,c6,c7,c8,c9,c10⟩;exact ⟨b,cur,e,c1,c2,c3,c4,c5,c6,c7,c8,c9,fun q hq => by simp at hq⟩
 have hv1:∀ (j:Nat) (x:PV) (y:Value),args[j]? = some x -> vs[j]? = some y -> RpV (C.reb 0 fun _ => 0) w x y:=fun j x y hx hy => (hv j x y hx hy).reb (zcA j x ha hx)
 refine (h (C.reb 0 fun _ => 0) w vs hI1 hnt hold hn2 hlen hv1).mono ?_;rintro e w' ⟨u,x,b,n,l,C1,rfl,k3,I1,hn,E1,hx⟩;have hn1:=I1.nb;obtain ⟨g,hg⟩:∃ g:Nat -> Nat,g = fun p => if p < bx.length then C.bx p else C1.bx (p - bx.length):=⟨_,rfl⟩
 have g0:∀ p,p < bx.length -> g p = C.bx p:=fun p hp => by rw [hg]; exact if_pos hp
 have g1:∀ p,g (p + bx.length) = C1.bx p:=fun p => by rw [hg]; show (if p + bx.length < bx.length then _ else _) = _; rw [if_neg (by omega),Nat.add_sub_cancel]
 have hle:CxLe C (C1.reb (bx.length + b.length) g):=⟨E1.F,by show C.nb <= bx.length + b.length; omega,fun p hp => g0 p (by omega),E1.tk.1,E1.tk.2⟩;have hF:Fix C w w':=E1.fix;have hsh:∀ p,p < C1.nb -> p + bx.length < bx.length + b.length /\ g (p + bx.length) = C1.bx p:=fun p hp => ⟨by omega,g1 p⟩
 have hnotok:∀ q,q < bx.length -> ∀ t,t ∈ live -> C.tk t ≠ some (C.bx q):=by
  intro q hq t ht he;obtain ⟨_,_,⟨z,_⟩ | ⟨b,cur,e,c1,c2,c3,c4,c5,c6,c7,c8,c9,c10⟩⟩:=hI.tok t ht
  ·rw [he] at z; cases z
  ·rw [he] at c1; simp only [sI] at c1; subst c1; exact c10 q hq rfl
 have hold2:∀ t,(C.reb 0 fun _ => 0).old t -> t ∈ live:=fun t ht => by
  have:C.old t:=ht
  rw [hold] at this; exact this
 have hnewB:∀ p,p < b.length -> w.heap.size <= C1.bx p:=fun p hp => E1.newB p (Nat.zero_le _) hp
 have split:∀ q,q < (bx ++ b.map (·.map (PC.shB bx.length))).length -> q < bx.length \/ ∃ p,p < b.length /\ q = p + bx.length:=fun q hq => by
  rw [length_append,length_map] at hq
  rcases Nat.lt_or_ge q bx.length with h' | h'
  ·exact .inl h'
  ·exact .inr ⟨q - bx.length,by omega,by omega⟩
 refine ⟨u,x.shB bx.length,bx ++ b.map (·.map (PC.shB bx.length)),n,l,C1.reb (bx.length + b.length) g,rfl,⟨x,b,rfl,rfl,k3⟩,?_,hn,?_,rpV_shB hx hsh⟩
 ·refine ⟨by rw [length_append,length_map]; rfl,fun q cs hq => ?_,fun q hq o hFo => ?_,fun q hq => ?_,fun p q hp hq he => ?_,fun t ht => ?_,I1.tinj,I1.fin,I1.ng,I1.t⟩
  ·have hlt:q < (bx ++ b.map (·.map (PC.shB bx.length))).length:=by
    rcases Nat.lt_or_ge q (bx ++ b.map (·.map (PC.shB bx.length))).length with h' | h'
    ·exact h'
    ·rw [getElem?_eq_none h'] at hq; cases hq
   rcases split q hlt with hql | ⟨p,hp,rfl⟩
   ·rw [getElem?_append_left hql] at hq
    obtain ⟨vs,e,h1,h2⟩:=hI.box q cs hq;refine ⟨vs,e,?_,h2.frame hle hF⟩;show w'.heap[g q]? = _;rw [g0 q hql];exact (E1.block (C.bx q) (zaA h1) (fun r hr => by simp [Cx.reb] at hr) (fun t ht he => hnotok q hql t (hold2 t ht) he)).trans h1
   ·rw [getElem?_append_right (by omega),Nat.add_sub_cancel,getElem?_map] at hq
    cases hb:b[p]? with
    | none => rw [hb] at hq; cases hq
    | some c0 =>
     rw [hb] at hq; simp only [Option.map_some,sI] at hq; subst hq
     obtain ⟨vs,e,h1,h2⟩:=I1.box p c0 hb;refine ⟨vs,e,?_,rpL_shB h2 hsh⟩;show w'.heap[g (p + bx.length)]? = _;rw [g1]; exact h1
  ·have hFo:C1.F (g q) o:=hFo
   rcases split q hq with hql | ⟨p,hp,rfl⟩
   ·rw [g0 q hql] at hFo
    rcases E1.newF (C.bx q) o hFo with h1 | h1 | ⟨s,h1,h2⟩
    ·exact hI.boxF q hql o h1
    ·have:=hI.lt hql; omega
    ·exact hnotok q hql s (hold2 s h1) h2
   ·rw [g1] at hFo; exact I1.boxF p hp o hFo
  ·show E.NG <= g q
   rcases split q hq with hql | ⟨p,hp,rfl⟩
   ·rw [g0 q hql]; exact hI.boxG q hql
   ·rw [g1]; exact I1.boxG p hp
  ·have he:g p = g q:=he
   rcases split p hp with hpl | ⟨p',hp',rfl⟩ <;> rcases split q hq with hql | ⟨q',hq',rfl⟩
   ·rw [g0 p hpl,g0 q hql] at he; exact hI.inj p q hpl hql he
   ·rw [g0 p hpl,g1] at he; have:=hI.lt hpl; have:=hnewB q' hq'; omega
   ·rw [g0 q hql,g1] at he; have:=hI.lt hql; have:=hnewB p' hp'; omega
   ·rw [g1,g1] at he; rw [I1.inj p' q' hp' hq' he]
  ·obtain ⟨a1,a2,a3⟩:=I1.tok t ht
   refine ⟨a1,a2,a3.imp id ?_⟩;rintro ⟨b',cur,e,c1,c2,c3,c4,c5,c6,c7,c8,c9,c10⟩;refine ⟨b',cur,e,c1,c2,c3,c4,c5,c6,c7,c8,c9,fun q hq he => ?_⟩;have he:g q = b':=he
   rcases split q hq with hql | ⟨p,hp,rfl⟩
   ·rw [g0 q hql] at he
    rcases E1.newT t b' ht c1 with h1 | ⟨s,h1,h2⟩
    ·have:=hI.lt hql; omega
    ·exact hnotok q hql s (hold2 s h1) (by rw [he]; exact h2)
   ·rw [g1] at he; exact c10 p hp he
 ·refine ⟨E1.os,E1.tape,E1.output,E1.size,E1.F,E1.fix,fun k hk hne ho => E1.block k hk (fun r hr => by simp [Cx.reb] at hr) ho,⟨hle.nb,hle.bx⟩,E1.newF,E1.newT,fun q hq hq2 => ?_,E1.tk⟩
  rcases split q hq2 with hql | ⟨p,hp,rfl⟩
  ·omega
  ·show w.heap.size <= g (p + bx.length)
   rw [g1]; exact hnewB p hp
def RwAt (n lo:Nat) (live:List Nat) (c:PC) (bx:LP PC) (cells:List PC):Prop :=
 lo <= bx.length /\ ((∃ t,c = .sl t [] /\ (t = 1 \/ t ∈ live) /\ cells = []) \/ ∃ p len cap z,c = .row p len cap /\ lo <= p /\ bx[p]? = some z /\ z.length = n * cap /\ len <= cap /\ cells = z.take (n * len))
theorem RwAt.row {n lo:Nat} {live:List Nat} {c:PC} {bx:LP PC} {cells:List PC} (h:RwAt n lo live c bx cells) (hne:cells ≠ []):∃ p len cap z,c = .row p len cap /\ lo <= p /\ bx[p]? = some z /\ z.length = n * cap /\ len <= cap /\ cells = z.take (n * len) /\ cells.length = n * len:=by
 rcases h.2 with ⟨t,_,_,h⟩ | ⟨p,len,cap,z,h1,h2,h3,h4,h5,h6⟩
 ·exact absurd h hne
 ·exact ⟨p,len,cap,z,h1,h2,h3,h4,h5,h6,by rw [h6,length_take,h4]; exact Nat.min_eq_left (Nat.mul_le_mul_left _ h5)⟩
theorem RwAt.cong {n lo:Nat} {live:List Nat} {c:PC} {bx bx':LP PC} {cells:List PC} (h:RwAt n lo live c bx cells) (h1:bx.length <= bx'.length) (hb:∀ q,lo <= q -> q < bx.length -> bx'[q]? = bx[q]?):RwAt n lo live c bx' cells :=
 ⟨Nat.le_trans h.1 h1,h.2.imp id fun ⟨p,len,cap,z,a1,a2,a3,a4⟩ => ⟨p,len,cap,z,a1,a2,by
  rw [hb p a2 (by
   rcases Nat.lt_or_ge p bx.length with h' | h'
   ·exact h'
   ·rw [getElem?_eq_none h'] at a3; cases a3)]; exact a3,a4⟩⟩
theorem RwAt.shB {n lo k:Nat} {live:List Nat} {c:PC} {b bx:LP PC} {cells:List PC} (h:RwAt n lo live c b cells) (hl:lwL 0 cells) (hk:bx.length = k):RwAt n (lo + k) live (c.shB k) (bx ++ b.map (·.map (PC.shB k))) cells:=by
 refine ⟨by rw [length_append,length_map]; have:=h.1; omega,?_⟩
 rcases h.2 with ⟨t,rfl,h1,h2⟩ | ⟨p,len,cap,z,rfl,h2,h3,h4,h5,h6⟩
 ·exact .inl ⟨t,zdl (by show lwLL 0 []; trivial),h1,h2⟩
 ·refine .inr ⟨p + k,len,cap,z.map (PC.shB k),shB_row _ _ _ _,by omega,?_,by rw [length_map]; exact h4,h5,?_⟩
  ·rw [getElem?_append_right (by omega),hk,Nat.add_sub_cancel,getElem?_map,h3]; rfl
  ·rw [<- map_take,<- h6,shB_idL hl]
theorem RwAt.app {n lo len cap p p' cap':Nat} {live:List Nat} {z:List PC} {bx bx':LP PC} {ds:LP PC} (hp:lo <= p) (hlo:lo <= bx.length) (hz:bx[p]? = some z /\ z.length = n * cap /\ len <= cap \/ p = bx.length /\ z = [] /\ len = 0 /\ cap = 0) (hds:∀ e ∈ ds,e.length = n) (hd0:ds ≠ [])
  (h:AppB n len cap z ds p bx p' cap' bx'):RwAt n lo live (.row p' (len + ds.length) cap') bx' (z.take (n * len) ++ ds.flatten) /\ ∀ q,q < lo -> bx'[q]? = bx[q]?:=by
 have hfl:ds.flatten.length = n * ds.length:=zcw hds
 have hpos:0 < ds.length:=by
  rcases Nat.eq_zero_or_pos ds.length with h | h
  ·exact absurd (eq_nil_of_length_eq_zero h) hd0
  ·exact h
 have htk:(z.take (n * len)).length = n * len:=by
  rw [length_take]
  rcases hz with ⟨_,h1,h2⟩ | ⟨_,rfl,rfl,_⟩
  ·rw [h1]; exact Nat.min_eq_left (Nat.mul_le_mul_left _ h2)
  ·simp
 have hlen:(z.take (n * len) ++ ds.flatten).length = n * (len + ds.length):=by rw [length_append,htk,hfl,Nat.mul_add]
 rcases h with ⟨rfl,rfl,h3,rfl⟩ | ⟨rfl,h3,r,hr,rfl⟩
 ·rcases hz with ⟨h1,h2,h4⟩ | ⟨_,_,h5,h6⟩
  ·have hplt:p' < bx.length:=by
    rcases Nat.lt_or_ge p' bx.length with h' | h'
    ·exact h'
    ·rw [getElem?_eq_none h'] at h1; cases h1
   have hfit:n * len + n * ds.length <= z.length:=by rw [h2,<- Nat.mul_add]; exact Nat.mul_le_mul_left _ h3
   have hspl:spl z (n * len) ds.flatten = z.take (n * len) ++ ds.flatten ++ z.drop (n * len + ds.flatten.length):=rfl;refine ⟨⟨by rw [length_set]; exact hlo,.inr ⟨p',_,cap',spl z (n * len) ds.flatten,rfl,hp,getElem?_set_self hplt,by rw [spl_len (by rw [hfl]; exact hfit)]; exact h2,h3,?_⟩⟩,fun q hq => getElem?_set_ne (by omega)⟩;rw [hspl]; exact (take_left' hlen).symm
  ·omega
 ·refine ⟨⟨by rw [length_append]; omega,.inr ⟨bx.length,_,cap',_,rfl,hlo,za3 _ _,?_,h3,?_⟩⟩,fun q hq => getElem?_append_left (by omega)⟩
  ·rw [length_append,hlen,hr,<- Nat.mul_add]; congr 1; omega
  ·exact (take_left' hlen).symm
section
variable {E:Env} {K:St -> Prop} {tm:Nat -> PV} {bx:LP PC} {nt d:Nat} {live:List Nat} {r:List MOpr} {g:Option (Nat × Bool)} {cc:List X} {x y:X} {n lo:Nat} {c:PC} {cells:List PC} {lv:List Nat}
theorem zhF {k:Nat} (hR:RwAt n lo lv c bx cells) (hn:cells.length = n * k) (hpos:0 < n) (hg:gd g tm = some true) (hx:ev tm x = .d c) (h:po E r K ⟨up d (.d (pI k)) tm,bx,nt,live⟩):po E (⟨some d,.len x,g,cc⟩ :: r) K ⟨tm,bx,nt,live⟩:=by
 refine po_q hg ?_ h
 rcases hR.2 with ⟨t,rfl,_,rfl⟩ | ⟨p,len,cap,z,rfl,h2,h3,h4,h5,h6⟩
 ·have:k = 0:=by
   rcases Nat.eq_zero_or_pos k with h | h
   ·exact h
   ·have:=Nat.mul_pos hpos h; simp at hn; omega
  subst this;simp only [qf,hx]; rfl
 ·have:n * len = n * k:=by rw [<- hn,h6,length_take,h4]; exact (Nat.min_eq_left (Nat.mul_le_mul_left _ h5)).symm
  have:len = k:=Nat.eq_of_mul_eq_mul_left hpos this
  subst this;simp only [qf,hx]; rfl
theorem ze0 {kk:IntKind} {j:Int} {i:Nat} (hR:RwAt n lo lv c bx cells) (_hpos:0 < n) (hj:j = i) (hi:n * i < cells.length) (hg:gd g tm = some true) (hx:ev tm x = .d c) (hy:ev tm y = .d (.v (.int kk j)))
  (h:∀ p len cap z,c = .row p len cap -> lo <= p -> bx[p]? = some z -> z.length = n * cap -> len <= cap -> cells = z.take (n * len) -> i < len -> n * i + n <= z.length -> po E r K ⟨up d (.ref p (n * i)) tm,bx,nt,live⟩):po E (⟨some d,.ix n x y,g,cc⟩ :: r) K ⟨tm,bx,nt,live⟩:=by
 subst hj;obtain ⟨p,len,cap,z,e1,h2,h3,h4,h5,h6,h7⟩:=hR.row (fun h => by rw [h] at hi; simp at hi);have hil:i < len:=by rw [h7] at hi; exact Nat.lt_of_mul_lt_mul_left hi
 refine po_q hg ?_ (h p len cap z e1 h2 h3 h4 h5 h6 hil (by rw [h4,<- Nat.mul_succ]; exact Nat.mul_le_mul_left _ (by omega)));simp only [qf,hx,e1,hy];rw [if_pos ⟨by omega,by rw [Int.toNat_natCast]; exact hil⟩,Int.toNat_natCast]
theorem po_appR {k t' m:Nat} {ds:LP PC} (hR:RwAt n lo live c bx cells) (hd0:ds ≠ []) (hn:cells.length = n * m) (hpos:0 < n) (hl:m + ds.length <= 4294967296) (hd:∀ e ∈ ds,e.length = n) (hx:ev tm x = .d c) (hy:ev tm y = .d (.sl t' ds))
  (h:∀ c' bx',RwAt n lo live c' bx' (cells ++ ds.flatten) -> (∀ q,q < lo -> bx'[q]? = bx[q]?) -> po E r K ⟨up d (.d c') tm,bx',nt,live⟩):po E (⟨some d,.app n x y,none,[.f k]⟩ :: r) K ⟨tm,bx,nt,live⟩:=by
 rcases hR.2 with ⟨t,rfl,h1,rfl⟩ | ⟨p,len,cap,z,rfl,h2,h3,h4,h5,h6⟩
 ·refine po_appN hx hy h1 hd0 (by omega) hd fun p' cap' bx' hA => ?_
  obtain ⟨a1,a2⟩:=RwAt.app (live:=live) hR.1 hR.1 (.inr ⟨rfl,rfl,rfl,rfl⟩) hd hd0 hA;rw [Nat.mul_zero,take_zero] at a1;exact h _ _ a1 a2
 ·have:n * len = n * m:=by rw [<- hn,h6,length_take,h4]; exact (Nat.min_eq_left (Nat.mul_le_mul_left _ h5)).symm
  have:len = m:=Nat.eq_of_mul_eq_mul_left hpos this
  refine po_appB hx hy h3 h4 hd0 (by omega) hd fun p' cap' bx' hA => ?_
  obtain ⟨a1,a2⟩:=RwAt.app (live:=live) h2 hR.1 (.inl ⟨h3,h4,h5⟩) hd hd0 hA;rw [<- h6] at a1;exact h _ _ a1 a2
end
theorem RwAt.set {n lo p len cap o:Nat} {live:List Nat} {z:List PC} {bx:LP PC} {v:PC} (hlo:lo <= bx.length) (hp:lo <= p) (hz:bx[p]? = some z) (hl:z.length = n * cap) (hlc:len <= cap) (ho:o < n * len) :
  RwAt n lo live (.row p len cap) (bx.set p (spl z o [v])) ((z.take (n * len)).set o v):=by
 have hplt:p < bx.length:=by
  rcases Nat.lt_or_ge p bx.length with h' | h'
  ·exact h'
  ·rw [getElem?_eq_none h'] at hz; cases hz
 have hle:n * len <= n * cap:=Nat.mul_le_mul_left _ hlc;refine ⟨by rw [length_set]; exact hlo,.inr ⟨p,len,cap,_,rfl,hp,getElem?_set_self hplt,by rw [spl_len (by rw [length_singleton]; omega)]; exact hl,hlc,?_⟩⟩
 have:spl z o [v] = z.set o v:=by
  unfold spl;rw [length_singleton,set_eq_take_append_cons_drop,if_pos (by omega)]; simp
 rw [this,take_set]
theorem lo_cons {b0:List PC} {bx rest:LP PC} (h:∀ q,q < 1 -> bx[q]? = (b0 :: rest)[q]?):∃ rest',bx = b0 :: rest':=by
 have:=h 0 (by omega)
 match bx,this with
 | b :: r,e => simp at e; subst e; exact ⟨r,rfl⟩
end
section
theorem u64_back {v:Nat} (h:v < 18446744073709551616):IntKind.u64.wrap (wrap64 (v:Nat)) = (v:Nat):=by
 have:IntKind.u64.wrap (wrap64 (v:Nat)) = wrap64 (v:Nat) % 18446744073709551616:=by simp [IntKind.wrap,IntKind.bits,IntKind.signed]
 rw [this]; unfold wrap64; omega
theorem zes (l:L8) (i:Int) (w:World) (hi:i64ok i) (hl:l.length <= 9223372036854775000) :
  Calls Tryz.prog 125 #[.string ⟨l.toArray⟩,.int .i64 i] w fun e w' => e = .returned (.tuple #[.int .i64 (hM (anyAt l i)),.int .u64 (hN (anyAt l i)),.int .i64 (hX (anyAt l i))]) /\ Below w.heap.size w w':=by
 by_cases h0:0 <= i /\ i <= (l.length:Int) - 1
 ·have hin:inR i 0 ((l.length:Int) - 1) = true:=zaG h0
  obtain ⟨j,rfl⟩:=Int.eq_ofNat_of_zero_le h0.1;have hj:j < l.length:=by omega
  have HR:=Lib.hid (show anyAt l (j:Nat) = anyHd l j by unfold anyAt; rw [if_neg (by omega)]; rfl);rw [HR.out];clear h0;have hb:=l[j].toNat_lt;have p1:(0:Int) <= j:=by omega
  have p2:(j:Int) < l.length:=by omega
  by_cases h24:l[j].toNat % 32 < 24
  ·have H:=Lib.hid (anyHd_lt hj h24)
   rw [H.out];generalize hq:l[j].toNat = q at *;have ha:=u8_and31 (x:=(q:Int)) (by omega) (by omega)
   go_enter Tryz.func125,Tryz.ntmps125
   go_wp2_with (go_at_call 126; refine (zaS _ _ _ _).mono ?_; rintro e w' ⟨rfl,rfl⟩)
   go_quiet (fail)
   go_wp2
   go_ret3
   exact ⟨by simp [hM,hN,hX],Go.below_drewN (Below.refl _ _) _⟩
  ·by_cases h27:27 < l[j].toNat % 32
   ·have H:=Lib.hid (anyHd_gt hj h27)
    rw [H.out];generalize hq:l[j].toNat = q at *;have ha:=u8_and31 (x:=(q:Int)) (by omega) (by omega)
    go_enter Tryz.func125,Tryz.ntmps125
    go_wp2_with (go_at_call 126; refine (zaS _ _ _ _).mono ?_; rintro e w' ⟨rfl,rfl⟩)
    go_quiet (fail)
    go_wp2
    go_ret3
    exact ⟨by simp [hM,hN,hX],Go.below_drewN (Below.refl _ _) _⟩
   ·obtain ⟨k,hk,hk3⟩:∃ k,l[j].toNat % 32 = 24 + k /\ k <= 3:=⟨l[j].toNat % 32 - 24,by omega,by omega⟩
    have hp:2 ^ k <= 8 /\ 1 <= 2 ^ k:=by
     have:k = 0 \/ k = 1 \/ k = 2 \/ k = 3:=by omega
     rcases this with rfl | rfl | rfl | rfl <;> decide
    obtain ⟨m,hm⟩:∃ m,m = 2 ^ k:=⟨_,rfl⟩
    have hw1:wrap64 (2 ^ k) = (m:Int):=by
     rw [hm]
     have:k = 0 \/ k = 1 \/ k = 2 \/ k = 3:=by omega
     rcases this with rfl | rfl | rfl | rfl <;> (unfold wrap64; decide)
    have hk2:l[j].toNat % 32 - 24 = k:=by omega
    rw [<- hm] at hp;obtain ⟨hp1,hp2⟩:=hp;by_cases hs:j + 1 + m <= l.length
    ·have H:=Lib.hid (zeW hj hk hk3 (by rw [<- hm]; exact hs))
     rw [H.out,<- hm];have HM:=Lib.hid hm;clear hm;generalize hq:l[j].toNat = q at *;have ha:=u8_and31 (x:=(q:Int)) (by omega) (by omega)
     go_enter Tryz.func125,Tryz.ntmps125
     go_wp2_with (go_at_call 126; refine (zaS _ _ _ _).mono ?_; rintro e w' ⟨rfl,rfl⟩)
     go_quiet (fail)
     have HW:=Lib.hid hw1;have HK2:=Lib.hid hk2;clear hw1 hk2
     go_wp2_with fail
     simp only [HK2.out,HW.out];rw [show ((j:Int) + 1) = ((j + 1:Nat):Int) from by omega];refine (zcT l (j + 1) m _ ⟨hp2,hp1⟩ (by omega) hl).mono ?_;rw [if_pos hs];rintro e w2 ⟨rfl,hb2⟩;have hv64:valBE ((l.drop (j + 1)).take m) < 18446744073709551616:=Nat.lt_of_lt_of_le (zdb _) (Nat.le_trans (Nat.pow_le_pow_right (by decide) (show _ <= 8 by rw [length_take]; omega)) (by decide));have HV:=Lib.hid hv64;clear hv64;go_wp2
     go_ret3
     refine ⟨?_,zan (Go.below_drewN (Below.refl _ _) _) hb2 lR⟩;simp [hM,hN,hX];exact u64_back HV.out
    ·have H:=Lib.hid (zep hj hk hk3 (by rw [<- hm]; omega))
     rw [H.out];have HM:=Lib.hid hm;clear hm;generalize hq:l[j].toNat = q at *;have ha:=u8_and31 (x:=(q:Int)) (by omega) (by omega)
     go_enter Tryz.func125,Tryz.ntmps125
     go_wp2_with (go_at_call 126; refine (zaS _ _ _ _).mono ?_; rintro e w' ⟨rfl,rfl⟩)
     go_quiet (fail)
     have HW:=Lib.hid hw1;have HK2:=Lib.hid hk2;clear hw1 hk2
     go_wp2_with fail
     simp only [HK2.out,HW.out];rw [show ((j:Int) + 1) = ((j + 1:Nat):Int) from by omega];refine (zcT l (j + 1) m _ ⟨hp2,hp1⟩ (by omega) hl).mono ?_;rw [if_neg hs];rintro e w2 ⟨rfl,hb2⟩;go_wp2
     go_ret3
     exact ⟨by simp [hM,hN,hX],zan (Go.below_drewN (Below.refl _ _) _) hb2 lR⟩
 ·have hin:inR i 0 ((l.length:Int) - 1) = false:=zba h0
  have H:=Lib.hid (show anyAt l i = none by
   unfold anyAt; split
   ·rfl
   ·unfold anyHd; rw [getElem?_eq_none (by omega)])
  rw [H.out]
  go_enter Tryz.func125,Tryz.ntmps125
  go_wp2_with (go_at_call 126; refine (zaS _ _ _ _).mono ?_; rintro e w' ⟨rfl,rfl⟩)
  go_ret3
  exact ⟨rfl,Below.refl _ _⟩
theorem zdm (a b x:Nat):((a:Int) != (x:Int) - (b:Int)) = !decide (b + a = x):=by
 rw [Bool.eq_iff_iff]; simp; omega
theorem zbR (l:L8) (i:Int) (w:World) (hi:i64ok i) (hl:l.length <= 9223372036854775000) :
  Calls Tryz.prog 124 #[.string ⟨l.toArray⟩,.int .i64 i] w fun e w' => e = .returned (.tuple #[.int .i64 (hM (getAt l i)),.int .u64 (hN (getAt l i)),.int .i64 (hX (getAt l i))]) /\ Below w.heap.size w w':=by
 have hg:=zgr l i
 cases ha:anyAt l i with
 | none =>
  rw [ha] at hg;have HG:=Lib.hid hg;rw [HG.out]
  go_enter Tryz.func124,Tryz.ntmps124
  go_wp2_with (go_at_call 125; refine (zes l i _ hi hl).mono ?_; rw [ha]; simp only [hM,hN,hX]; rintro e w1 ⟨rfl,hb1⟩)
  go_ret3
  exact ⟨rfl,hb1⟩
 | some r =>
  obtain ⟨m,n,x⟩:=r;rw [ha] at hg;simp only at hg;have hi0:¬ i < 0:=by intro h; unfold anyAt at ha; rw [if_pos h] at ha; cases ha
  have haa:anyHd l i.toNat = some (m,n,x):=by unfold anyAt at ha; rw [if_neg hi0] at ha; exact ha
  obtain ⟨h1,h2,h3,h4,h5,_,h7⟩:=zdt haa;obtain ⟨j,rfl⟩:=Int.eq_ofNat_of_zero_le (show 0 <= i by omega);simp only [Int.toNat_natCast] at *;have p1:(0:Int) <= x:=by omega
  have p2:(j:Int) <= x:=by omega
  have p3:(x:Int) <= l.length:=by omega
  have HA:=Lib.hid ha;have HG:=Lib.hid hg;have hhl:=(za9 m n).1;clear ha haa hi0 hg h7;have pd:decide ((x:Int) < 0) = false:=by simp
  have q1:(0:Int) <= m /\ (m:Int) <= 7:=by omega
  have q2:(0:Int) <= n /\ (n:Int) <= 18446744073709551615:=by omega
  go_enter Tryz.func124,Tryz.ntmps124
  go_wp2_with (first | (go_at_call 125; refine (zes l j _ hi hl).mono ?_; rw [HA.out]; simp only [hM,hN,hX]; rintro e w1 ⟨rfl,hb1⟩) | (go_at_call 132; refine (zdG _ _ _ q1 q2).mono ?_; rintro e w2 ⟨rfl,hb2⟩))
  ·have hne:(((hd m n).length:Int) != (x:Int) - (j:Int)) = true:=by assumption
   have hne':¬ (j + (hd m n).length = x):=by rw [zdm] at hne; simpa using hne
   have hg:=HG.out;rw [if_neg hne'] at hg
   go_ret3
   exact ⟨by rw [hg]; rfl,zan hb1 hb2 lR⟩
  ·have hne:(((hd m n).length:Int) != (x:Int) - (j:Int)) = false:=by assumption
   have hne':j + (hd m n).length = x:=by rw [zdm] at hne; simpa using hne
   have hg:=HG.out;rw [if_pos hne'] at hg
   go_ret3
   exact ⟨by rw [hg]; rfl,zan hb1 hb2 lR⟩
end
section
end
section
theorem ze1 {l:L8} {i:Int} {m n x:Nat} (h:getAt l i = some (m,n,x)):∃ j:Nat,i = j /\ j < x /\ x <= l.length /\ m <= 7 /\ n < 18446744073709551616 /\ hd m n = (l.drop j).take (x - j):=by
 unfold getAt at h
 split at h
 ·cases h
 ·obtain ⟨h1,h2,h3,h4,h5,h6⟩:=zbt h
  exact ⟨i.toNat,by omega,h2,h3,h4,h5,h6⟩
theorem ze2 {l:L8} {i:Int} (h:getAt l i = none):getFr l i = none:=by unfold getFr; rw [h]
theorem getFr_of {l:L8} {i:Int} {m n x:Nat} (h:getAt l i = some (m,n,x)):getFr l i =
  if m = 2 /\ n <= 100000 /\ x + n + 4 <= l.length /\ (l.drop (x + n)).take 4 = be 4 (crc ((l.drop x).take n)) then some ((l.drop x).take n,x + n + 4) else none:=by unfold getFr; rw [h]
theorem zfy (l:L8) (i:Int) (w:World) (hi:i64ok i) (hl:l.length <= 9223372036854775000) :
  Calls Tryz.prog 203 #[.string ⟨l.toArray⟩,.int .i64 i] w fun e w' => e = .returned (.tuple #[.string ⟨(fC (getFr l i)).toArray⟩,.int .i64 (fX (getFr l i))]) /\ Below w.heap.size w w':=by
 cases hg:getAt l i with
 | none =>
  have HF:=Lib.hid (ze2 hg);rw [HF.out]
  go_enter Tryz.func203,Tryz.ntmps203
  go_wp2_with (go_at_call 124; refine (zbR l i _ hi hl).mono ?_; rw [hg]; simp only [hM,hN,hX]; rintro e w1 ⟨rfl,hb1⟩)
  go_ret2
  exact ⟨rfl,hb1⟩
 | some r =>
  obtain ⟨m,n,x⟩:=r;obtain ⟨j,rfl,h2,h3,h4,h5,_⟩:=ze1 hg;have HF:=Lib.hid (getFr_of hg);have HA:=Lib.hid hg;clear hg;by_cases hc:m = 2 /\ n <= 100000 /\ x + n + 4 <= l.length
  ·obtain ⟨rfl,hc2,hc3⟩:=hc
   have q0:(0:Int) <= x:=by omega
   have q1:(x:Int) + ↑n <= l.length:=by omega
   have q2:(x:Int) + ↑n + 4 <= l.length:=by omega
   have q3:(x:Int) <= x + ↑n:=by omega
   have hcl:=crc_lt ((l.drop x).take n);have hct:((l.drop x).take n).length <= maxLen:=by rw [length_take]; unfold maxLen; omega
   have HC:=Lib.hid hct;clear hct
   go_enter Tryz.func203,Tryz.ntmps203
   go_wp2_with (first | (go_at_call 124; refine (zbR l j _ hi hl).mono ?_; rw [HA.out]; simp only [hM,hN,hX]; rintro e w1 ⟨rfl,hb1⟩))
   have hB:=hb1;have q5:(0:Int) <= (crc ((l.drop x).take n):Nat) /\ ((crc ((l.drop x).take n):Nat):Int) <= 4294967295:=by omega
   have Q5:=Lib.hid q5;clear q5 hcl;have z1:IntKind.i64.wrap ((x:Int) + n + 4) = (x:Int) + n + 4:=IntWalk.i64_in _ (by omega);have z2:(0:Int) <= (x:Int) + n + 4:=by omega
   have z3:(0:Int) <= (x:Int) + n:=by omega
   have z4:(x:Int) + n <= (x:Int) + n + 4:=by omega
   have z5:((x:Int) + n + 4).toNat = x + n + 4:=by omega
   have z6:((x:Int) + n).toNat = x + n:=by omega
   go_region_held3 (fun W => Below w.heap.size w W) (first | exact hB | exact hB.drew)
    (first | (go_at_call 157; refine (crc_impl _ _ HC.out).mono ?_; rintro e w2 ⟨rfl,rfl⟩) | (go_at_call 156; refine (zf7 _ _ Q5.out).mono ?_; rintro e w2 ⟨rfl,hb2⟩; replace hB:=zan (by first | exact hB | exact hB.drew) hb2 lR))
   go_wp2
   ·have he:(be 4 (crc ((l.drop x).take n)) == take 4 (drop (x + n) l)) = true:=by assumption
    have hF:=HF.out;rw [if_pos ⟨by trivial,hc2,hc3,by simpa using (by simpa using he:be 4 (crc ((l.drop x).take n)) = _).symm⟩] at hF
    go_ret2
    exact ⟨by rw [hF]; simp [fC,fX],hB⟩
   ·have he:(be 4 (crc ((l.drop x).take n)) == take 4 (drop (x + n) l)) = false:=by assumption
    have hF:=HF.out;rw [if_neg (fun e => by rw [e.2.2.2] at he; simp at he)] at hF
    go_ret2
    exact ⟨by rw [hF]; rfl,hB⟩
  ·have hF:getFr l j = none:=by rw [HF.out,if_neg (fun e => hc ⟨e.1,e.2.1,e.2.2.1⟩)]
   rw [hF];clear hF
   go_enter Tryz.func203,Tryz.ntmps203
   go_wp2_with (go_at_call 124; refine (zbR l j _ hi hl).mono ?_; rw [HA.out]; simp only [hM,hN,hX]; rintro e w1 ⟨rfl,hb1⟩)
   all_goals
    go_ret2
    exact ⟨rfl,hb1⟩
theorem frame_eq {l:L8} {j n x:Nat} (hj:j < x) (hn:n <= 100000) (hx:x + n + 4 <= l.length) (hh:hd 2 n = (l.drop j).take (x - j)) :
  frame ((l.drop x).take n) = (l.drop j).take (x + n + 4 - j) ↔ (l.drop (x + n)).take 4 = be 4 (crc ((l.drop x).take n)):=by
 have hl:((l.drop x).take n).length = n:=by rw [length_take,length_drop]; omega
 have hs:(l.drop j).take (x + n + 4 - j) = (l.drop j).take (x - j) ++ ((l.drop x).take n ++ (l.drop (x + n)).take 4):=by
  rw [show x + n + 4 - j = (x - j) + (n + 4) by omega,take_add,drop_drop,show j + (x - j) = x by omega,take_add,drop_drop]
 unfold frame;rw [hl,if_pos hn,hs,<- hh,append_assoc,append_cancel_left_eq,append_cancel_left_eq];exact eq_comm
theorem zfz (l:L8) (i:Int) (w:World) (hi:i64ok i) (hl:l.length <= 9223372036854775000) :
  Calls Tryz.prog 151 #[.string ⟨l.toArray⟩,.int .i64 i] w fun e w' => e = .returned (.tuple #[.string ⟨(fC (getFr l i)).toArray⟩,.int .i64 (fX (getFr l i))]) /\ Below w.heap.size w w':=by
 cases hg:getAt l i with
 | none =>
  have HF:=Lib.hid (ze2 hg);rw [HF.out]
  go_enter Tryz.func151,Tryz.ntmps151
  go_wp2_with (go_at_call 118; refine (zbP l i _ hi hl).mono ?_; rw [hg]; simp only [hM,hN,hX]; rintro e w1 ⟨rfl,hb1⟩)
  go_ret2
  exact ⟨rfl,hb1⟩
 | some r =>
  obtain ⟨m,n,x⟩:=r;obtain ⟨j,rfl,h2,h3,h4,h5,h6⟩:=ze1 hg;have HF:=Lib.hid (getFr_of hg);have HA:=Lib.hid hg;clear hg;by_cases hc:m = 2 /\ n <= 100000 /\ x + n + 4 <= l.length
  ·obtain ⟨rfl,hc2,hc3⟩:=hc
   have HE:=Lib.hid (frame_eq h2 hc2 hc3 h6);clear h6;have q0:(0:Int) <= x:=by omega
   have q00:(0:Int) <= j:=by omega
   have q1:(x:Int) + ↑n <= l.length:=by omega
   have q2:(x:Int) + ↑n + 4 <= l.length:=by omega
   have q3:(x:Int) <= x + ↑n:=by omega
   have HT:=Lib.hid (show ((l.drop x).take n).length <= 9223372036854775807 by rw [length_take]; omega)
   go_enter Tryz.func151,Tryz.ntmps151
   go_wp2_with (first | (go_at_call 118; refine (zbP l j _ hi hl).mono ?_; rw [HA.out]; simp only [hM,hN,hX]; rintro e w1 ⟨rfl,hb1⟩))
   have hB:=hb1;have z1:IntKind.i64.wrap ((x:Int) + n + 4) = (x:Int) + n + 4:=IntWalk.i64_in _ (by omega);have z2:(0:Int) <= (x:Int) + n + 4:=by omega
   have z3:(0:Int) <= (x:Int) + n:=by omega
   have z4:(j:Int) <= (x:Int) + n + 4:=by omega
   have z5:((x:Int) + n + 4).toNat = x + n + 4:=by omega
   have z6:((x:Int) + n).toNat = x + n:=by omega
   go_region_held3 (fun W => Below w.heap.size w W) (first | exact hB | exact hB.drew)
    (first | (go_at_call 108; refine (zfl _ _ HT.out).mono ?_; rintro e w2 ⟨rfl,hb2⟩; replace hB:=zan (by first | exact hB | exact hB.drew) hb2 lR))
   go_wp2
   ·have he:(!frame ((l.drop x).take n) == (l.drop j).take (x + n + 4 - j)) = true:=by assumption
    have hF:=HF.out;rw [if_neg (fun e => by have h:=HE.out.2 e.2.2.2; rw [h] at he; simp at he)] at hF
    go_ret2
    exact ⟨by rw [hF]; rfl,hB⟩
   ·have he:(!frame ((l.drop x).take n) == (l.drop j).take (x + n + 4 - j)) = false:=by assumption
    have hF:=HF.out;rw [if_pos ⟨by trivial,hc2,hc3,HE.out.1 (by simpa using he)⟩] at hF
    go_ret2
    exact ⟨by rw [hF]; simp [fC,fX],hB⟩
  ·have hF:getFr l j = none:=by rw [HF.out,if_neg (fun e => hc ⟨e.1,e.2.1,e.2.2.1⟩)]
   rw [hF];clear hF h6
   go_enter Tryz.func151,Tryz.ntmps151
   go_wp2_with (go_at_call 118; refine (zbP l j _ hi hl).mono ?_; rw [HA.out]; simp only [hM,hN,hX]; rintro e w1 ⟨rfl,hb1⟩)
   all_goals
    go_ret2
    exact ⟨rfl,hb1⟩
end
section
theorem zgD (n:Int) (w:World) (hn:i64ok n) :
  Calls Tryz.prog 109 #[.int .i64 n] w fun e w' => e = .returned (.string ⟨(Lib.itoa n).toArray⟩) /\ Below w.heap.size w w':=by
 obtain ⟨h1,h2⟩:=hn;by_cases h0:n = 0
 ·subst h0
  have HZ:=Lib.hid (show Lib.itoa 0 = [48] by rw [show (0:Int) = ((0:Nat):Int) from rfl,Lib.itoa_nonneg,Lib.decDigits_one (by decide)]; rfl)
  go_enter Tryz.func109,Tryz.ntmps109
  go_wp2;go_ret;exact ⟨zbF HZ.out.symm,Below.refl _ _⟩
 have g0:(n == 0) = false:=by simpa using h0
 obtain ⟨res,hres⟩:∃ res,Lib.decDigits n.natAbs = res:=⟨_,rfl⟩;have hrl:res.length <= 20:=by rw [<- hres]; exact zct (by omega)
 go_enter Tryz.func109,Tryz.ntmps109
 go_wp2
 go_loopw [3,4,5] (fun o m d wr => ∃ (l:L8) (q:Int),o = .string ⟨l.toArray⟩ /\ m = .int .i64 q /\ -9223372036854775808 <= q /\ q <= 9223372036854775807 /\ decOn q.natAbs l = res /\ (0 <= n -> 0 <= q) /\ (n <= 0 -> q <= 0) /\ wr = w) (fun _ m _ _ => (intOf m).natAbs)
 case atStart => exact ⟨[],n,rfl,rfl,h1,h2,by unfold decOn; rw [if_neg (by omega),hres]; simp,fun h => h,fun h => h,rfl⟩
 case round =>
  obtain ⟨l,q,rfl,rfl,hq1,hq2,hd,hs1,hs2,rfl⟩:=hrel;have HD:=Lib.hid hd;by_cases hq:q = 0
  ·subst hq
   have hl:l = res:=by rw [<- hd]; rfl
   subst hl;clear hd;by_cases hneg:n < 0
   ·have HR:=Lib.hid (show Lib.itoa n = 45 :: l by unfold Lib.itoa; rw [if_pos hneg]; exact congrArg _ hres)
    go_wp2;go_ret;exact ⟨by rw [HR.out]; rfl,Below.refl _ _⟩
   ·have HR:=Lib.hid (show Lib.itoa n = l by unfold Lib.itoa; rw [if_neg hneg,show n.toNat = n.natAbs by omega]; exact hres)
    go_wp2;go_ret;exact ⟨by rw [HR.out]; rfl,Below.refl _ _⟩
  ·have gq:(q != 0) = true:=by simpa using hq
   have hu:q.natAbs ≠ 0:=by omega
   have ll:l.length <= 20:=by
    have:=congrArg length hd; unfold decOn at this; rw [if_neg hu,length_append] at this; omega
   have st:=zeZ hu l;rw [hd] at st;clear hd;have ta:=tdivAbs q;have tm:=tmodAbs q;have hb1:-9223372036854775808 <= Int.tdiv q 10:=by omega
   have hb2:Int.tdiv q 10 <= 9223372036854775807:=by omega
   obtain ⟨r,hr⟩:∃ r,Int.tmod q 10 = r:=⟨_,rfl⟩;obtain ⟨t,ht⟩:∃ t,Int.tdiv q 10 = t:=⟨_,rfl⟩;have hz1:0 <= q -> 0 <= t:=fun h => by rw [<- ht]; exact Int.tdiv_nonneg h (by decide)
   have hz2:q <= 0 -> t <= 0:=fun h => by rw [<- ht]; (have hh:=Int.tdiv_nonneg (a:=-q) (b:=10) (by omega) (by decide); rw [Int.neg_tdiv] at hh; omega)
   rw [hr] at tm;rw [ht] at ta hb1 hb2;have hd10:r.natAbs < 10:=by omega
   have P:=digs_at hd10;rw [<- ta,<- tm] at st;have HST:=Lib.hid st;have hmeas:t.natAbs < q.natAbs:=by omega
   clear st tm ta;by_cases hr0:r < 0
   ·obtain ⟨d,rfl⟩:∃ d:Nat,r = -(d:Int):=⟨r.natAbs,by omega⟩
    have e1:(-(d:Int)).natAbs = d:=by omega
    rw [e1] at P hd10 HST;have i1:(0:Int) <= d:=by omega
    have i2:(d:Int) + 1 <= 10:=by omega
    go_wp2;go_roundw
    case rel => exact ⟨_,t,rfl,rfl,hb1,hb2,by simpa using HST.out,fun h => hz1 (hs1 h),fun h => hz2 (hs2 h),by first | rfl | trivial⟩
    case measure => simp only [intOf]; exact hmeas
   ·obtain ⟨d,rfl⟩:∃ d:Nat,r = (d:Int):=⟨r.natAbs,by omega⟩
    have e1:((d:Int)).natAbs = d:=by omega
    rw [e1] at P hd10 HST;have i1:(0:Int) <= d:=by omega
    have i2:(d:Int) + 1 <= 10:=by omega
    go_wp2;go_roundw
    case rel => exact ⟨_,t,rfl,rfl,hb1,hb2,by simpa using HST.out,fun h => hz1 (hs1 h),fun h => hz2 (hs2 h),by first | rfl | trivial⟩
    case measure => simp only [intOf]; exact hmeas
def TenTab (w : World) : Prop := Lib.TabIs Tryz.prog w "internal/strconv.uint64pow10" .u64 Lib.pow10Tab
theorem tenG : Tryz.prog.globalNamed "internal/strconv.uint64pow10" = some 2 := by kernel_rfl
theorem TenTab.lt {w:World} (h:TenTab w):2 < w.heap.size:=zff (Lib.TabIs.cell h tenG 0 (by decide))
theorem TenTab.below' {B:Nat} {w w':World} (h:TenTab w) (hb:Below B w w') (hB:2 < B):TenTab w':=var?_below hb tenG hB h
theorem TenTab.below {w w':World} (h:TenTab w) (hb:Below w.heap.size w w'):TenTab w':=h.below' hb h.lt
end
section
variable {T:World -> Prop} {hT:Low ngl T}
attribute [local irreducible] po mw pt
theorem gheadI_fn (s:L8) (i:Int) (hi:i64ok i) (hs:s.length <= 2147483647):FnV (env T hT) 124 [.d (pS s),.d (pI i)] (hdV (getAt s i)):=by
 refine FnV.oldT3 rfl rfl rfl fun w C vs hF _ _ hlen hv => ?_
 match vs,hlen with
 | [x,y],_ =>
  have h1:=zcr (hv 0 _ _ rfl rfl); have h2:=zbj (hv 1 _ _ rfl rfl)
  subst h1; subst h2
  exact zbR s i w hi (by omega)
def deC (s:L8) (p:Nat) (bad:Bool):List PC:=[pS s,pI p,pB false,pI 0,pB bad]
theorem zdJ (s:L8) (p:Nat) (b:Bool):lwL 0 (deC s p b):=⟨trivial,trivial,trivial,trivial,trivial,trivial⟩
def HeadR (s:L8) (p:Nat) (bad:Bool) (nt:Nat) (live:List Nat) (x:PV) (c':List PC) (n:Nat) (l:List Nat):Prop:=n = nt /\ l = live /\
 (((bad = true \/ getHd s p = none) /\ c' = deC s p true /\ x = .tup [.d (pI (-1)),.d (.v (.int .u64 0))]) \/
  ∃ m n y:Nat,bad = false /\ getHd s p = some (m,n,y) /\ c' = deC s y false /\ x = .tup [.d (pI m),.d (.v (.int .u64 (n:Nat)))])
theorem zfA (s:L8) (p:Nat) (bad:Bool) (hp:p <= s.length) (hs:s.length <= 2147483647) (nt:Nat) (live:List Nat) :
  FnG (env T hT) 65 [.ref 0 0] [deC s p bad] nt live (fun x b n l => ∃ c' rest,b = c' :: rest /\ x.lw 0 /\ lwL 0 c' /\ HeadR s p bad nt live x c' n l):=by
 have hg:=gheadI_fn (T:=T) (hT:=hT) s p (by unfold i64ok; omega) hs;rw [zer] at hg;refine zaU (zak zdv) (by show 1 <= 43; decide) fun B hB => ?_
 unfold m_i_decoder_head;refine mP ?_;refine mP ?_;refine mM ?_;refine mK ?_;refine mO ?_;(iterate 9 refine mS ?_);refine po_v (f:=124) (cap:=[]) (args:=[.d (pS s),.d (pI p)]) rfl (by kernel_rfl) rfl hg ?_;refine mN ?_;refine zah ?_
 have hbad:(bad = true \/ getHd s p = none) -> ∃ c' rest,([deC s p bad].set 0 (spl (deC s p bad) 4 [pB true])) = c' :: rest /\ PV.lw 0 (.tup [.d (pI (-1)),.d (.v (.int .u64 0))]) /\ lwL 0 c' /\ HeadR s p bad nt live (.tup [.d (pI (-1)),.d (.v (.int .u64 0))]) c' nt live:=fun h =>
  ⟨deC s p true,[],rfl,⟨trivial,trivial,trivial⟩,zdJ _ _ _,rfl,rfl,.inl ⟨h,rfl,rfl⟩⟩
 cases bad with
 | true =>
  refine mO ?_;(iterate 5 refine mS ?_);refine mZ ?_;refine mT ?_;refine mO ?_;(iterate 3 refine mS ?_);refine zaw (p:=0) (o':=4) (cs:=[pB true]) (z:=deC s p true) rfl rfl rfl ⟨rfl,Nat.le_of_ble_eq_true rfl⟩ rfl ?_;refine zaa ?_;refine mP ?_
  exact zaf ⟨.inr rfl,[.d (pI (-1)),.d (.v (.int .u64 0))],rfl,hbad (.inl rfl)⟩
 | false =>
 cases hr:getHd s p with
 | none =>
  refine mO ?_;(iterate 6 refine mS ?_);refine zai rfl rfl rfl ?_;refine mT ?_;refine mO ?_;(iterate 3 refine mS ?_);refine zaw (p:=0) (o':=4) (cs:=[pB true]) (z:=deC s p false) rfl rfl rfl ⟨rfl,Nat.le_of_ble_eq_true rfl⟩ rfl ?_;refine zaa ?_;refine mP ?_
  exact zaf ⟨.inr rfl,[.d (pI (-1)),.d (.v (.int .u64 0))],rfl,hbad (.inr hr)⟩
 | some r =>
  obtain ⟨m,n,y⟩:=r;obtain ⟨g1,g2,g3,g4,g5,g6⟩:=zbt hr;refine mO ?_;(iterate 6 refine mS ?_);refine zam rfl rfl (decide_eq_false (show ¬ ((y:Nat):Int) < 0 by omega)) ?_;refine mK ?_;refine mO ?_;(iterate 4 refine mS ?_);refine zaw (p:=0) (o':=1) (cs:=[pI ((y:Nat):Int)]) (z:=deC s p false) rfl rfl rfl ⟨rfl,Nat.le_of_ble_eq_true rfl⟩ rfl ?_;refine zaa ?_;refine mP ?_;exact zaf ⟨.inr rfl,[.d (pI m),.d (.v (.int .u64 (n:Nat)))],rfl,deC s y false,[],rfl,⟨trivial,trivial,trivial⟩,zdJ _ _ _,rfl,rfl,.inr ⟨m,n,y,rfl,hr,rfl,rfl⟩⟩
def BytesR (s:L8) (p k:Nat) (bad:Bool) (nt:Nat) (live:List Nat) (x:PV) (c':List PC) (n:Nat) (l:List Nat):Prop:=n = nt /\ l = live /\
 ((bad = false /\ p + k <= s.length /\ c' = deC s (p + k) false /\ x = .d (pS ((s.drop p).take k))) \/ ((bad = true \/ ¬ p + k <= s.length) /\ c' = deC s p true /\ x = .d (pS [])))
theorem deBytes_g (s:L8) (p k:Nat) (bad:Bool) (hk:k < 18446744073709551616) (hp:p <= s.length) (hs:s.length <= 2147483647) (nt:Nat) (live:List Nat) :
  FnG (env T hT) 66 [.ref 0 0,.d (.v (.int .u64 (k:Nat)))] [deC s p bad] nt live (fun x b n l => ∃ c' rest,b = c' :: rest /\ x.lw 0 /\ lwL 0 c' /\ BytesR s p k bad nt live x c' n l):=by
 refine zaU (zak zdh) (by show 2 <= 51; decide) fun B hB => ?_
 unfold m_i_decoder_bytes;refine mP ?_;refine zah ?_;refine zau (fun st => has st.tm [(0,.ref 0 0),(1,.d (.v (.int .u64 (k:Nat)))),(24,.d (pB (bad || !decide (p + k <= s.length))))] /\ st.bx = [deC s p bad] /\ st.nt = nt /\ st.live = live) ?_ ?_
 ·refine zad ?_
  (iterate 5 refine mS ?_)
  cases bad with
  | true =>
   refine mZ ?_;refine mN ?_
   exact ⟨⟨rfl,rfl,rfl,trivial⟩,rfl,rfl,rfl⟩
  | false =>
   (iterate 5 refine mS ?_);refine po_q (v:=.d (pI s.length)) rfl rfl ?_;(iterate 4 refine mS ?_);refine zaQ (n:=(s.length:Int) - p) rfl rfl rfl rfl (by omega) ?_;refine zbs (n:=(s.length:Int) - p) rfl rfl (by rw [IntKind.wrap_u64]; omega) ?_;refine po_b rfl rfl (fun b hb => ?_);refine mN ?_
   have:(!decide (p + k <= s.length)) = b:=by
    rw [hb];by_cases h:p + k <= s.length
    ·rw [decide_eq_true h,decide_eq_false (by omega)]; rfl
    ·rw [decide_eq_false h,decide_eq_true (by omega)]; rfl
   exact ⟨⟨rfl,rfl,by rw [Bool.false_or,this]; rfl,trivial⟩,rfl,rfl,rfl⟩
 rintro tm bx n1 l1 ⟨ht,rfl,rfl,rfl⟩;obtain ⟨tm0,rfl⟩:=zae ht;refine zaO (t:=bad || !decide (p + k <= s.length)) rfl (fun hc => ?_) (fun hc => ?_)
 ·simp only [Bool.or_eq_true,Bool.not_eq_true',decide_eq_false_iff_not] at hc
  refine mO ?_;(iterate 3 refine mS ?_);refine zaw (p:=0) (o':=4) (cs:=[pB true]) (z:=deC s p bad) rfl rfl rfl ⟨rfl,Nat.le_of_ble_eq_true rfl⟩ rfl ?_;refine zaa ?_;refine mP ?_;exact zaf ⟨.inr rfl,[.d (pS [])],rfl,deC s p true,[],rfl,trivial,zdJ _ _ _,rfl,rfl,.inr ⟨hc,rfl,rfl⟩⟩
 ·simp only [Bool.or_eq_false_iff,Bool.not_eq_false',decide_eq_true_eq] at hc
  obtain ⟨rfl,hle⟩:=hc;refine zaj ?_;refine mP ?_;refine mO ?_;(iterate 5 refine mS ?_);refine zbs (n:=(k:Int)) rfl rfl (by show IntKind.wrap .i64 ((k:Nat):Int) = _; rw [IntKind.wrap_i64]; omega) ?_;refine zaq (n:=((p + k:Nat):Int)) rfl rfl rfl (by omega) (by omega) ?_;(iterate 2 refine mS ?_);refine zaw (p:=0) (o':=1) (cs:=[pI ((p + k:Nat):Int)]) (z:=deC s p false) rfl rfl rfl ⟨rfl,Nat.le_of_ble_eq_true rfl⟩ rfl ?_;refine zaa ?_;refine mO ?_;(iterate 9 refine mS ?_);refine zbA (a:=p) (b:=p + k) (rs:=(s.drop p).take k) rfl rfl (zaN rfl rfl) (zaN rfl rfl) (by omega) (by rw [show p + k - p = k by omega]) ?_;refine mN ?_;exact zaf ⟨.inr rfl,[.d (pS ((s.drop p).take k))],rfl,deC s (p + k) false,[],rfl,trivial,zdJ _ _ _,rfl,rfl,.inl ⟨rfl,hle,rfl,rfl⟩⟩
end
end Go.Proofs.YtanlnhkagepniaaGreatDoor
