/- Part 5 of a proof: ReadHead, ReadHead2, PvF4, ReadHead3, PvI5, PvI2, PvI3, PvH1M, PvH1, PvBl, BuildC, PvBld, PvH2, PvH3, PvI4, PvF5, PvF6, PvF7, PvH4M, PvH4, PvH5 -/
import Derived.Test.YtanlnhkagepniaaGreatDoorC4
import Derived.Deep.QuietTactic
import Derived.BigQuiet
import Derived.Deep.RegionHeld3
import Derived.Test.YtanlnhkagepniaaGreatDoorChecked
import Derived.KernelRfl
import Derived.OwnWalk
import Derived.Test.YtanlnhkagepniaaGreatDoorRows
import Derived.IntWalk
import Derived.Deep.RegionWith
import Derived.Deep.DeepMust
import Derived.Lib.Builder
import Derived.Lib.AppendStr
import Derived.Lib.UnsafeStr
import Derived.Laws.Externs
import Derived.Deep.LoopGhost
namespace Go.Proofs.YtanlnhkagepniaaGreatDoor
/- ReadHead -/
section
open Go.RowKit
theorem anyHd_lt {l:List UInt8} {j:Nat} (hj:j < l.length) (h:l[j].toNat % 32 < 24):anyHd l j = some (l[j].toNat / 32,l[j].toNat % 32,j + 1):=by
 unfold anyHd; rw [List.getElem?_eq_getElem hj]; simp only; rw [if_pos h]
theorem anyHd_gt {l:List UInt8} {j:Nat} (hj:j < l.length) (h:27 < l[j].toNat % 32):anyHd l j = none:=by
 unfold anyHd; rw [List.getElem?_eq_getElem hj]; simp only; rw [if_neg (by omega),if_pos h]
theorem anyHd_short {l:List UInt8} {j k:Nat} (hj:j < l.length) (h:l[j].toNat % 32 = 24 + k) (hk:k <= 3) (hl:l.length < j + 1 + 2 ^ k):anyHd l j = none:=by
 unfold anyHd; rw [List.getElem?_eq_getElem hj]; simp only; rw [h,if_neg (by omega),if_neg (by omega),Nat.add_sub_cancel_left,if_pos hl]
theorem anyHd_long {l:List UInt8} {j k:Nat} (hj:j < l.length) (h:l[j].toNat % 32 = 24 + k) (hk:k <= 3) (hl:j + 1 + 2 ^ k <= l.length):anyHd l j = some (l[j].toNat / 32,valBE ((l.drop (j + 1)).take (2 ^ k)),j + 1 + 2 ^ k):=by
 unfold anyHd; rw [List.getElem?_eq_getElem hj]; simp only; rw [h,if_neg (by omega),if_neg (by omega),Nat.add_sub_cancel_left,if_neg (by omega)]
theorem valBE_step (l:List UInt8) (s k:Nat) (h:s + k < l.length):valBE ((l.drop s).take (k + 1)) = valBE ((l.drop s).take k) * 256 + l[s + k].toNat:=by
 rw [valBE_take (l.drop s) k (by simp; omega),List.getElem_drop]
theorem valBE_step' (l:List UInt8) (j t:Nat) (h:j + (t + 1) < l.length):valBE ((l.drop (j + 1)).take (t + 1)) = valBE ((l.drop (j + 1)).take t) * 256 + l[j + (t + 1)].toNat:=by
 have:=valBE_step l (j + 1) t (by omega)
 rw [this]; congr 3; omega
theorem valBE_bd (l:List UInt8) (j t:Nat) (h:t <= 7):valBE ((l.drop (j + 1)).take t) < 72057594037927936 :=
 Nat.lt_of_lt_of_le (valBE_lt _) (Nat.le_trans (Nat.pow_le_pow_right (by decide) (show _ <= 7 by rw [List.length_take]; omega)) (by decide))
set_option maxHeartbeats 2000000 in
theorem l05Any_k (l:List UInt8) (j k m:Nat) (w:World) (hj:j < l.length) (hm:m = 2 ^ k) (hk:k <= 3) (hq:l[j].toNat % 32 = 24 + k) (hl:l.length <= 9223372036854775000) :
  Calls Tryz.prog 160 #[.string ⟨l.toArray⟩,.int .i64 (j:Nat)] w fun e w' => e = .returned (.tuple #[.int .i64 (hM (anyHd l j)),.int .u64 (hN (anyHd l j)),.int .i64 (hX (anyHd l j))]) /\ Below w.heap.size w w':=by
 have hb:=l[j].toNat_lt
 have p1:(0:Int) <= j:=by omega
 have p2:(j:Int) < l.length:=by omega
 have hmk:(k = 0 /\ m = 1) \/ (k = 1 /\ m = 2) \/ (k = 2 /\ m = 4) \/ (k = 3 /\ m = 8):=by
  have:k = 0 \/ k = 1 \/ k = 2 \/ k = 3:=by omega
  rcases this with rfl | rfl | rfl | rfl <;> simp_all
 by_cases hs:l.length < j + 1 + m
 ·have H:=Lib.hid (anyHd_short hj hq hk (by rw [<- hm]; exact hs))
  rw [H.out]
  have HM:=Lib.hid hm
  clear hm
  generalize hqq:l[j].toNat = q at *
  have hmr:(k = 0 /\ m = 1 /\ (q:Int) % 32 = 24) \/ (k = 1 /\ m = 2 /\ (q:Int) % 32 = 25) \/ (k = 2 /\ m = 4 /\ (q:Int) % 32 = 26) \/ (k = 3 /\ m = 8 /\ (q:Int) % 32 = 27):=by omega
  clear hmk hq
  rcases hmr with ⟨rfl,rfl,hr⟩ | ⟨rfl,rfl,hr⟩ | ⟨rfl,rfl,hr⟩ | ⟨rfl,rfl,hr⟩
  all_goals
   go_enter Tryz.func160,Tryz.ntmps160
   go_wp2
   go_quiet (fail)
   have hbel:=below_drewN (Below.refl w.heap.size w) nq
   generalize w.drewN nq = w1 at *
   have hsz:=hbel.size
   go_wp2
   go_ret3
   exact ⟨by simp [hM,hN,hX],hbel.alloc hsz _⟩
 ·have H:=Lib.hid (anyHd_long hj hq hk (by rw [<- hm]; omega))
  rw [H.out]
  have HM:=Lib.hid hm
  rw [<- hm]
  clear hm
  generalize hqq:l[j].toNat = q at *
  have hmr:(k = 0 /\ m = 1 /\ (q:Int) % 32 = 24) \/ (k = 1 /\ m = 2 /\ (q:Int) % 32 = 25) \/ (k = 2 /\ m = 4 /\ (q:Int) % 32 = 26) \/ (k = 3 /\ m = 8 /\ (q:Int) % 32 = 27):=by omega
  clear hmk hq
  rcases hmr with ⟨rfl,rfl,hr⟩ | ⟨rfl,rfl,hr⟩ | ⟨rfl,rfl,hr⟩ | ⟨rfl,rfl,hr⟩
  ·go_enter Tryz.func160,Tryz.ntmps160
   go_wp2
   go_quiet (fail)
   have hbel:=below_drewN (Below.refl w.heap.size w) nq
   generalize w.drewN nq = w1 at *
   have hsz:=hbel.size
   go_wp2
   have HRR:=Lib.hid hr
   clear hr p1 p2
   go_loopw [10,11] (fun n i wr => ∃ t:Nat,t <= 1 /\ i = .int .i64 ((t:Int) + 1) /\ n = .int .u64 (valBE ((l.drop (j + 1)).take t):Nat) /\ Below w.heap.size w wr) (fun _ i _ => (1 + 1 - intOf i).toNat)
   case atStart => exact ⟨0,by omega,rfl,rfl,hbel.alloc hsz _⟩
   case round =>
    obtain ⟨t,ht,rfl,rfl,hbel2⟩:=hrel
    by_cases htm:t < 1
    ·have hlt:j + (t + 1) < l.length:=by omega
     have HS:=Lib.hid (valBE_step' l j t hlt)
     have hv7:=valBE_bd l j t (by omega)
     have hby:=(l[j + (t + 1)]).toNat_lt
     generalize hvv:valBE ((l.drop (j + 1)).take t) = v at *
     clear hvv
     generalize hbb:(l[j + (t + 1)]).toNat = bb at *
     have p3:(j:Int) + (↑t + 1) < l.length:=by omega
     go_wp2
     go_roundw
     case rel => exact ⟨t + 1,by omega,by go_num,by rw [HS.out]; go_num,hbel2⟩
     case measure => simp [intOf] <;> omega
    ·obtain rfl:t = 1:=by omega
     go_wp2
     go_ret3
     exact ⟨by simp [hM,hN,hX],hbel2⟩
  ·go_enter Tryz.func160,Tryz.ntmps160
   go_wp2
   go_quiet (fail)
   have hbel:=below_drewN (Below.refl w.heap.size w) nq
   generalize w.drewN nq = w1 at *
   have hsz:=hbel.size
   go_wp2
   have HRR:=Lib.hid hr
   clear hr p1 p2
   go_loopw [10,11] (fun n i wr => ∃ t:Nat,t <= 2 /\ i = .int .i64 ((t:Int) + 1) /\ n = .int .u64 (valBE ((l.drop (j + 1)).take t):Nat) /\ Below w.heap.size w wr) (fun _ i _ => (2 + 1 - intOf i).toNat)
   case atStart => exact ⟨0,by omega,rfl,rfl,hbel.alloc hsz _⟩
   case round =>
    obtain ⟨t,ht,rfl,rfl,hbel2⟩:=hrel
    by_cases htm:t < 2
    ·have hlt:j + (t + 1) < l.length:=by omega
     have HS:=Lib.hid (valBE_step' l j t hlt)
     have hv7:=valBE_bd l j t (by omega)
     have hby:=(l[j + (t + 1)]).toNat_lt
     generalize hvv:valBE ((l.drop (j + 1)).take t) = v at *
     clear hvv
     generalize hbb:(l[j + (t + 1)]).toNat = bb at *
     have p3:(j:Int) + (↑t + 1) < l.length:=by omega
     go_wp2
     go_roundw
     case rel => exact ⟨t + 1,by omega,by go_num,by rw [HS.out]; go_num,hbel2⟩
     case measure => simp [intOf] <;> omega
    ·obtain rfl:t = 2:=by omega
     go_wp2
     go_ret3
     exact ⟨by simp [hM,hN,hX],hbel2⟩
  ·go_enter Tryz.func160,Tryz.ntmps160
   go_wp2
   go_quiet (fail)
   have hbel:=below_drewN (Below.refl w.heap.size w) nq
   generalize w.drewN nq = w1 at *
   have hsz:=hbel.size
   go_wp2
   have HRR:=Lib.hid hr
   clear hr p1 p2
   go_loopw [10,11] (fun n i wr => ∃ t:Nat,t <= 4 /\ i = .int .i64 ((t:Int) + 1) /\ n = .int .u64 (valBE ((l.drop (j + 1)).take t):Nat) /\ Below w.heap.size w wr) (fun _ i _ => (4 + 1 - intOf i).toNat)
   case atStart => exact ⟨0,by omega,rfl,rfl,hbel.alloc hsz _⟩
   case round =>
    obtain ⟨t,ht,rfl,rfl,hbel2⟩:=hrel
    by_cases htm:t < 4
    ·have hlt:j + (t + 1) < l.length:=by omega
     have HS:=Lib.hid (valBE_step' l j t hlt)
     have hv7:=valBE_bd l j t (by omega)
     have hby:=(l[j + (t + 1)]).toNat_lt
     generalize hvv:valBE ((l.drop (j + 1)).take t) = v at *
     clear hvv
     generalize hbb:(l[j + (t + 1)]).toNat = bb at *
     have p3:(j:Int) + (↑t + 1) < l.length:=by omega
     go_wp2
     go_roundw
     case rel => exact ⟨t + 1,by omega,by go_num,by rw [HS.out]; go_num,hbel2⟩
     case measure => simp [intOf] <;> omega
    ·obtain rfl:t = 4:=by omega
     go_wp2
     go_ret3
     exact ⟨by simp [hM,hN,hX],hbel2⟩
  ·go_enter Tryz.func160,Tryz.ntmps160
   go_wp2
   go_quiet (fail)
   have hbel:=below_drewN (Below.refl w.heap.size w) nq
   generalize w.drewN nq = w1 at *
   have hsz:=hbel.size
   go_wp2
   have HRR:=Lib.hid hr
   clear hr p1 p2
   go_loopw [10,11] (fun n i wr => ∃ t:Nat,t <= 8 /\ i = .int .i64 ((t:Int) + 1) /\ n = .int .u64 (valBE ((l.drop (j + 1)).take t):Nat) /\ Below w.heap.size w wr) (fun _ i _ => (8 + 1 - intOf i).toNat)
   case atStart => exact ⟨0,by omega,rfl,rfl,hbel.alloc hsz _⟩
   case round =>
    obtain ⟨t,ht,rfl,rfl,hbel2⟩:=hrel
    by_cases htm:t < 8
    ·have hlt:j + (t + 1) < l.length:=by omega
     have HS:=Lib.hid (valBE_step' l j t hlt)
     have hv7:=valBE_bd l j t (by omega)
     have hby:=(l[j + (t + 1)]).toNat_lt
     generalize hvv:valBE ((l.drop (j + 1)).take t) = v at *
     clear hvv
     generalize hbb:(l[j + (t + 1)]).toNat = bb at *
     have p3:(j:Int) + (↑t + 1) < l.length:=by omega
     go_wp2
     go_roundw
     case rel => exact ⟨t + 1,by omega,by go_num,by rw [HS.out]; go_num,hbel2⟩
     case measure => simp [intOf] <;> omega
    ·obtain rfl:t = 8:=by omega
     go_wp2
     go_ret3
     exact ⟨by simp [hM,hN,hX],hbel2⟩
set_option maxHeartbeats 2000000 in
theorem l05Any_any (l:List UInt8) (i:Int) (w:World) (hi:i64ok i) (hl:l.length <= 9223372036854775000) :
  Calls Tryz.prog 160 #[.string ⟨l.toArray⟩,.int .i64 i] w fun e w' => e = .returned (.tuple #[.int .i64 (hM (anyAt l i)),.int .u64 (hN (anyAt l i)),.int .i64 (hX (anyAt l i))]) /\ Below w.heap.size w w':=by
 by_cases h0:i < 0
 ·have HR:=Lib.hid (show anyAt l i = none by unfold anyAt; rw [if_pos h0])
  rw [HR.out]
  go_enter Tryz.func160,Tryz.ntmps160
  go_wp2
  go_ret3
  exact ⟨rfl,Below.refl _ _⟩
 ·obtain ⟨j,rfl⟩:=Int.eq_ofNat_of_zero_le (show 0 <= i by omega)
  have HR:=Lib.hid (show anyAt l (j:Nat) = anyHd l j by unfold anyAt; rw [if_neg h0]; rfl)
  rw [HR.out]
  by_cases hj:j < l.length
  ·have hb:=l[j].toNat_lt
   generalize hq:l[j].toNat = q at *
   have HQ:=Lib.hid hq
   have p1:(0:Int) <= j:=by omega
   have p2:(j:Int) < l.length:=by omega
   by_cases h24:q % 32 < 24
   ·have H:=Lib.hid (anyHd_lt hj (by rw [hq]; exact h24))
    rw [H.out,hq]
    go_enter Tryz.func160,Tryz.ntmps160
    go_wp2
    go_quiet (fail)
    go_wp2
    go_ret3
    exact ⟨by simp [hM,hN,hX],below_drewN (Below.refl _ _) _⟩
   ·by_cases h27:27 < q % 32
    ·have H:=Lib.hid (anyHd_gt hj (by rw [hq]; exact h27))
     rw [H.out]
     go_enter Tryz.func160,Tryz.ntmps160
     go_wp2
     go_quiet (fail)
     go_wp2
     go_ret3
     exact ⟨by simp [hM,hN,hX],below_drewN (Below.refl _ _) _⟩
    ·have hk:q % 32 = 24 \/ q % 32 = 25 \/ q % 32 = 26 \/ q % 32 = 27:=by omega
     rcases hk with hk | hk | hk | hk
     ·exact l05Any_k l j 0 1 w hj rfl (by omega) (by rw [hq]; exact hk) hl
     ·exact l05Any_k l j 1 2 w hj rfl (by omega) (by rw [hq]; exact hk) hl
     ·exact l05Any_k l j 2 4 w hj rfl (by omega) (by rw [hq]; exact hk) hl
     ·exact l05Any_k l j 3 8 w hj rfl (by omega) (by rw [hq]; exact hk) hl
  ·have H:=Lib.hid (show anyHd l j = none by unfold anyHd; rw [List.getElem?_eq_none (by omega)])
   rw [H.out]
   go_enter Tryz.func160,Tryz.ntmps160
   go_wp2
   go_ret3
   exact ⟨rfl,Below.refl _ _⟩
end
/- ReadHead2 -/
section
open Go.RowKit
theorem getAt_any (l:List UInt8) (i:Int):getAt l i = match anyAt l i with | some (m,n,x) => if i.toNat + (hd m n).length = x then some (m,n,x) else none | none => none:=by
 unfold getAt anyAt getHd
 split <;> rfl
set_option maxHeartbeats 800000 in
theorem getHead_spec (l:List UInt8) (i:Int) (w:World) (hi:i64ok i) (hl:l.length <= 9223372036854775000) :
  Calls Tryz.prog 118 #[.string ⟨l.toArray⟩,.int .i64 i] w fun e w' => e = .returned (.tuple #[.int .i64 (hM (getAt l i)),.int .u64 (hN (getAt l i)),.int .i64 (hX (getAt l i))]) /\ Below w.heap.size w w':=by
 have hg:=getAt_any l i
 cases ha:anyAt l i with
 | none =>
  rw [ha] at hg
  have HG:=Lib.hid hg
  rw [HG.out]
  go_enter Tryz.func118,Tryz.ntmps118
  go_wp2_with (go_at_call 160; refine (l05Any_any l i _ hi hl).mono ?_; rw [ha]; simp only [hM,hN,hX]; rintro e w1 ⟨rfl,hb1⟩)
  go_quiet (fail)
  go_wp2
  go_ret3
  exact ⟨rfl,below_drewN hb1 _⟩
 | some r =>
  obtain ⟨m,n,x⟩:=r
  rw [ha] at hg
  simp only at hg
  have hi0:¬ i < 0:=by intro h; unfold anyAt at ha; rw [if_pos h] at ha; cases ha
  have haa:anyHd l i.toNat = some (m,n,x):=by unfold anyAt at ha; rw [if_neg hi0] at ha; exact ha
  obtain ⟨h1,h2,h3,h4,h5,h6,h7⟩:=anyHd_some haa
  obtain ⟨j,rfl⟩:=Int.eq_ofNat_of_zero_le (show 0 <= i by omega)
  simp only [Int.toNat_natCast] at *
  have p1:(0:Int) <= x:=by omega
  have p2:(j:Int) <= x:=by omega
  have p3:(x:Int) <= l.length:=by omega
  have HA:=Lib.hid ha
  have HG:=Lib.hid hg
  have H7:=Lib.hid h7
  clear ha haa hi0 hg h7
  go_enter Tryz.func118,Tryz.ntmps118
  go_wp2_with (go_at_call 160; refine (l05Any_any l j _ hi hl).mono ?_; rw [HA.out]; simp only [hM,hN,hX]; rintro e w1 ⟨rfl,hb1⟩)
  have hB:=hb1
  have pd:decide ((x:Int) < 0) = false:=by simp
  have q1:(0:Int) <= m /\ (m:Int) <= 7:=by omega
  have q2:(0:Int) <= n /\ (n:Int) <= 18446744073709551615:=by omega
  go_region_held3 (fun W => Below w.heap.size w W) (first | exact hB | exact hB.drew)
   (first | (go_at_call 122; refine (putHead_spec _ _ _ q1 q2).mono ?_; rintro e w2 ⟨rfl,hb2⟩; replace hB:=below2 (by first | exact hB | exact hB.drew) hb2 (Nat.le_refl _)))
  go_wp2
  ·have hne:(!hd m n == List.take (x - j) (List.drop j l)) = true:=by assumption
   have hne':¬ (j + (hd m n).length = x):=by rw [<- H7.out]; simpa using hne
   have hg:=HG.out
   rw [if_neg hne'] at hg
   go_ret3
   exact ⟨by rw [hg]; rfl,hB⟩
  ·have heq:(!hd m n == List.take (x - j) (List.drop j l)) = false:=by assumption
   have heq':j + (hd m n).length = x:=by rw [<- H7.out]; simpa using heq
   have hg:=HG.out
   rw [if_pos heq'] at hg
   go_ret3
   exact ⟨by rw [hg]; rfl,hB⟩
def sw (v:Nat):Int:=IntKind.i64.wrap (v:Nat)
theorem or_byte (v:Nat) (b:Nat) (hb:b < 256):bits .or .i64 (wrap64 (sw v * 256)) (b:Int) = sw (v * 256 + b):=by
 have e1:(BitVec.ofInt 64 (wrap64 (sw v * 256))).toNat = v * 256 % 18446744073709551616:=by
  rw [BitVec.toNat_ofInt]; unfold wrap64 sw; rw [IntKind.wrap_i64]; omega
 have e2:(BitVec.ofInt 64 (b:Int)).toNat = b:=by rw [BitVec.toNat_ofInt]; omega
 have e3:bits .or .i64 (wrap64 (sw v * 256)) (b:Int) = IntKind.i64.wrap ((BitVec.ofInt 64 (wrap64 (sw v * 256)) ||| BitVec.ofInt 64 (b:Int)).toNat:Nat):=rfl
 rw [e3,BitVec.toNat_or,e1,e2,nat_join8 _ _ (by omega) hb]
 unfold sw
 rw [IntKind.wrap_i64,IntKind.wrap_i64]
 omega
set_option maxHeartbeats 1600000 in
theorem getWide_any (l:List UInt8) (j k:Nat) (w:World) (hk:1 <= k /\ k <= 8) (hj:j <= l.length) (hl:l.length <= 9223372036854775000) :
  Calls Tryz.prog 166 #[.string ⟨l.toArray⟩,.int .i64 (j:Nat),.int .i64 (k:Nat)] w fun e w' =>
   e = .returned (if j + k <= l.length then .tuple #[.int .i64 (IntKind.i64.wrap (valBE ((l.drop j).take k):Nat)),.bool true] else .tuple #[.int .i64 0,.bool false]) /\ Below w.heap.size w w':=by
 have hin:inR k 1 8 = true:=inR_yes (by omega)
 obtain ⟨hk1,hk2⟩:=hk
 by_cases h:j + k <= l.length
 ·rw [if_pos h]
  go_enter Tryz.func166,Tryz.ntmps166
  go_wp2_with (go_at_call 126; refine (within_any _ _ _ _).mono ?_; rintro e w' ⟨rfl,rfl⟩)
  go_loop [8,26] (fun n i => ∃ t:Nat,t <= k /\ i = .int .i64 (t:Nat) /\ n = .int .i64 (sw (valBE ((l.drop j).take t)))) (fun _ i => k - (intOf i).toNat)
  case atStart => exact ⟨0,by omega,rfl,rfl⟩
  case round =>
   obtain ⟨t,ht,rfl,rfl⟩:=hrel
   by_cases htk:t < k
   ·have hlt:j + t < l.length:=by omega
    have HS:=Lib.hid (valBE_step l j t hlt)
    have hby:=(l[j + t]).toNat_lt
    generalize hvv:valBE ((l.drop j).take t) = v at *
    clear hvv
    generalize hbb:(l[j + t]).toNat = bb at *
    have p3:(j:Int) + ↑t < l.length:=by omega
    go_wp2
    go_round
    case rel => exact ⟨t + 1,by omega,by go_num,by rw [HS.out,or_byte v bb hby]⟩
    case measure => simp [intOf] <;> omega
   ·obtain rfl:t = k:=by omega
    go_wp2
    go_ret2
    exact ⟨rfl,Below.refl _ _⟩
 ·rw [if_neg h]
  go_enter Tryz.func166,Tryz.ntmps166
  go_wp2_with (go_at_call 126; refine (within_any _ _ _ _).mono ?_; rintro e w' ⟨rfl,rfl⟩)
  go_ret2
  exact ⟨rfl,Below.refl _ _⟩
end
/- PvF4 -/
section
open Go.RowKit
open Go.Lib (validD)
variable {T:World -> Prop} {hT:Low ngl T}
attribute [local irreducible] po mw pt
theorem own_grow {nt n1 n2 tk:Nat} {l1 l2:List Nat} {a b:List PC} {rows:List (List PC)} {cs:List PC} (hown:OwnL n1 l1 (a ++ .sl tk rows :: b)) (htk:tk = 1 /\ rows = [] \/ 2 <= tk) (hge:∀ t ∈ toksL (a ++ .sl tk rows :: b),nt <= t) (hnt:nt <= n1) (hn2:n1 <= n2) (h22:2 <= n2)
  (hnew:NewL n1 n2 cs) (hctk:∀ t ∈ toksL cs,t ∈ l2) (hlv2:∀ t ∈ l1,2 <= t -> t < n1 -> t ∈ l2) :
  OwnL (n2 + 2) ((n2 + 1) :: (n2 :: l2).filter (· != tk)) (a ++ .sl (n2 + 1) (rows ++ [cs]) :: b) /\ (∀ t ∈ toksL (a ++ .sl (n2 + 1) (rows ++ [cs]) :: b),nt <= t):=by
 constructor
 ·have h0:OwnL n1 (l1.filter (fun t => decide (t < n1))) (a ++ .sl tk rows :: b):=⟨hown.own,hown.nd,fun t ht => ⟨List.mem_filter.2 ⟨(hown.mem t ht).1,decide_eq_true (hown.mem t ht).2⟩,(hown.mem t ht).2⟩⟩
  have:=h0.pushA (nt':=n2 + 1) (e:=cs) htk (by omega) hnew.own hnew.nd (fun t ht => by have:=hnew.mem t ht; omega) (by omega)
  refine this.mono2 (by omega) fun t ht h22 hlt => ?_
  rcases List.mem_cons.1 ht with rfl | ht
  ·exact List.mem_cons_self ..
  ·obtain ⟨m1,m2⟩:=List.mem_filter.1 ht
   refine List.mem_cons_of_mem _ (List.mem_filter.2 ⟨?_,m2⟩)
   rcases List.mem_append.1 m1 with m1 | m1
   ·exact List.mem_cons_of_mem _ (hctk t m1)
   ·obtain ⟨m3,m4⟩:=List.mem_filter.1 m1
    exact List.mem_cons_of_mem _ (hlv2 t m3 h22 (of_decide_eq_true m4))
 ·intro t ht
  rw [toksL_append,List.mem_append] at ht
  rcases ht with ht | ht
  ·exact hge t (by rw [toksL_append]; exact List.mem_append.2 (.inl ht))
  ·rw [toksL,List.mem_append] at ht
   rcases ht with ht | ht
   ·rw [toks_sl2 (by omega),toksLL_append] at ht
    rcases List.mem_cons.1 ht with rfl | ht
    ·omega
    ·rcases List.mem_append.1 ht with ht | ht
     ·rcases htk with ⟨_,rfl⟩ | h2
      ·cases ht
      ·refine hge t ?_
       rw [toksL_append,toksL,toks_sl2 h2]
       exact List.mem_append.2 (.inr (List.mem_append.2 (.inl (List.mem_cons_of_mem _ ht))))
     ·have ht:t ∈ toksL cs:=by simpa [toksLL] using ht
      have:=hnew.mem t ht; omega
   ·exact hge t (by rw [toksL_append,toksL]; exact List.mem_append.2 (.inr (List.mem_append.2 (.inr ht))))
theorem live_grow {nt n1 n2 tk:Nat} {live l1 l2:List Nat} (htk:tk = 1 \/ nt <= tk) (hnt:nt <= n1) (hlv:∀ t ∈ live,2 <= t -> t < nt -> t ∈ l1) (hlv2:∀ t ∈ l1,2 <= t -> t < n1 -> t ∈ l2):∀ t ∈ live,2 <= t -> t < nt -> t ∈ (n2 + 1) :: (n2 :: l2).filter (· != tk):=fun t ht h22 hlt => by
 refine List.mem_cons_of_mem _ (List.mem_filter.2 ⟨List.mem_cons_of_mem _ (hlv2 t (hlv t ht h22 hlt) h22 (by omega)),?_⟩)
 simp only [bne_iff_ne,ne_eq]; omega
theorem tk_ge {nt tk:Nat} {a b:List PC} {rows:List (List PC)} (htk:tk = 1 /\ rows = [] \/ 2 <= tk) (hge:∀ t ∈ toksL (a ++ .sl tk rows :: b),nt <= t):tk = 1 \/ nt <= tk :=
 htk.imp (fun h => h.1) fun h => hge tk (by rw [toksL_append,toksL,toks_sl2 h]; exact List.mem_append.2 (.inr (List.mem_append.2 (.inl (List.mem_cons_self ..)))))
theorem own_nil {nt:Nat} (hnt:2 <= nt) (live:List Nat):OwnL (nt + 1) (nt :: live) ([] ++ .sl nt [] :: []) /\ (∀ t ∈ toksL ([] ++ .sl nt [] :: []),nt <= t):=by
 have e:toksL ([] ++ .sl nt [] :: []) = [nt]:=by show PC.toks (.sl nt []) ++ [] = _; rw [toks_sl2 hnt]; rfl
 refine ⟨⟨by show (PC.owned (.sl nt []) && true) = true; rw [owned_sl2 hnt]; rfl,by rw [e]; simp,fun t ht => ?_⟩,fun t ht => ?_⟩
 ·rw [e] at ht; simp at ht; subst ht; exact ⟨List.mem_cons_self ..,Nat.lt_succ_self _⟩
 ·rw [e] at ht; simp at ht; omega
theorem pS_new (n1 n2:Nat) (l:List UInt8):NewL n1 n2 [pS l]:=⟨rfl,List.nodup_nil,fun t ht => by cases ht⟩
theorem FnV.oldT3 {E:Env} {f:Nat} {args:List PV} {a b d:Value} (ha:a.oneCell' = true) (hb1:b.oneCell' = true) (hd1:d.oneCell' = true) (h:∀ (w:World) (C:Cx) (vs:List Value),(∀ b o,C.F b o -> b < w.heap.size) -> E.NG <= w.heap.size -> E.T w -> vs.length = args.length -> (∀ (j:Nat) (x:PV) (y:Value),args[j]? = some x -> vs[j]? = some y -> RpV C w x y) ->
  Calls E.P f vs.toArray w fun e w' => e = .returned (.tuple #[a,b,d]) /\ Below w.heap.size w w'):FnV E f args (.tup [.d (.v a),.d (.v b),.d (.v d)]):=by
 intro C w vs hI hnt hold hl hv
 refine (h w C vs hI.fin hI.ng hI.t hl hv).mono ?_
 rintro e w' ⟨rfl,hb⟩
 have hF:Fix C w w':=.of (fun b o hF => World.cell?_of_block (a:=⟨b,o,none⟩) (hb.block b (hI.fin b o hF))) hb.block
 refine ⟨_,.tup [.d (.v a),.d (.v b),.d (.v d)],[],fun _ => False,C,rfl,rfl,⟨hI.nb,fun p cs hp => by simp at hp,fun p hp => by simp at hp,fun p hp => by simp at hp,fun p q hp => by simp at hp,fun t ht => ht.elim,fun t s b ht => ht.elim,fun b o h => Nat.lt_of_lt_of_le (hI.fin b o h) hb.size,Nat.le_trans hI.ng hb.size,E.low w w' hI.t hb.size (fun k hk => hb.block k (Nat.lt_of_lt_of_le hk hI.ng))⟩,
  ⟨hb.os,hb.tape,hb.output,hb.size,fun _ _ h => h,hF,fun k hk _ _ => hb.block k hk,⟨Nat.le_refl _,fun _ _ => rfl⟩,fun _ _ h => .inl h,fun t b ht => ht.elim,(fun p hp hp2 => by simp at hp2),⟨Nat.le_refl _,fun _ _ => ⟨rfl,rfl,rfl,rfl⟩⟩⟩,.tup _ [a,b,d] rfl ?_⟩
 intro j x y hx hy
 match j with
 | 0 => simp at hx hy; subst hx; subst hy; exact .d _ _ (.v a ha)
 | 1 => simp at hx hy; subst hx; subst hy; exact .d _ _ (.v b hb1)
 | 2 => simp at hx hy; subst hx; subst hy; exact .d _ _ (.v d hd1)
 | j + 3 => simp at hx
def hdV (r:Option (Nat × Nat × Nat)):PV:=.tup [.d (pI (hM r)),.d (.v (.int .u64 (hN r))),.d (pI (hX r))]
theorem ghead_fn (s:List UInt8) (i:Int) (hi:i64ok i) (hs:s.length <= 2147483647):FnV (env T hT) 118 [.d (pS s),.d (pI i)] (hdV (getAt s i)):=by
 refine FnV.oldT3 rfl rfl rfl fun w C vs hF _ _ hlen hv => ?_
 match vs,hlen with
 | [x,y],_ =>
  have h1:=pS_inv2 (hv 0 _ _ rfl rfl); have h2:=pI_inv (hv 1 _ _ rfl rfl)
  subst h1; subst h2
  exact getHead_spec s i w hi (by omega)
theorem getAt_nat (s:List UInt8) (i:Nat):getAt s (i:Int) = getHd s i:=by unfold getAt; rw [if_neg (by omega)]; rfl
def cntOf (s:List UInt8) (i max:Nat):Option (Nat × Nat):=match getHd s i with
 | some (m,n,x) => if m = 4 /\ n <= max then some (n,x) else none
 | none => none
def cN:Option (Nat × Nat) -> Int | some (n,_) => n | none => 0
def cX:Option (Nat × Nat) -> Int | some (_,x) => x | none => -1
theorem cnt_fn (s:List UInt8) (i max:Nat) (hm:max <= 1000) (hi:i <= s.length) (hs:s.length <= 2147483647):FnV (env T hT) 60 [.d (pS s),.d (pI i),.d (pI max)] (.tup [.d (pI (cN (cntOf s i max))),.d (pI (cX (cntOf s i max)))]):=by
 have hg:=ghead_fn (T:=T) (hT:=hT) s i (by unfold i64ok; omega) hs
 rw [getAt_nat] at hg
 refine fn_of (look_env lk_s_l14Count) (by show 3 <= 33; decide) fun B hB => ?_
 unfold m_s_l14Count
 refine mw_seq (mw_ops ?_)
 repeat' (first | refine pm ?_ | refine pq ?_ | refine px ?_ | refine po_zero ?_ | refine po_nil ?_)
 refine mw_seq (mw_ops ?_)
 iterate 2 (first | refine pm ?_ | refine pq ?_)
 refine po_call rfl hg ?_
 repeat' (first | refine pm ?_ | refine pq ?_ | refine px ?_ | refine po_zero ?_ | refine po_nil ?_)
 refine mw_seq (mw_seq (mw_ops ?_))
 unfold cntOf
 cases hr:getHd s i with
 | none =>
  first | refine pm ?_ | refine pq ?_
  refine po_yes rfl rfl rfl ?_
  first | refine pm ?_ | refine pq ?_
  iterate 2 (refine po_skip rfl ?_)
  iterate 2 (first | refine pm ?_ | refine pq ?_)
  iterate 4 (refine po_skip rfl ?_)
  repeat' (first | refine pm ?_ | refine pq ?_ | refine px ?_ | refine po_zero ?_ | refine po_nil ?_)
  refine mwT ?_
  refine mw_seq (mw_ops ?_)
  repeat' (first | refine pm ?_ | refine pq ?_ | refine px ?_ | refine po_zero ?_ | refine po_nil ?_)
  exact mw_ret ⟨.inr rfl,_,rfl,rfl⟩
 | some r =>
  obtain ⟨m,n,x⟩:=r
  obtain ⟨g1,g2,g3,g4,g5,g6⟩:=getHd_some hr
  first | refine pm ?_ | refine pq ?_
  refine po_no rfl rfl (decide_eq_false (show ¬ ((x:Nat):Int) < 0 by omega)) ?_
  iterate 2 (first | refine pm ?_ | refine pq ?_)
  by_cases h4:m = 4
  case neg =>
   simp only
   rw [if_neg (by omega)]
   refine po_yes rfl rfl (by show (!decide ((m:Int) = 4)) = true; rw [decide_eq_false (by omega)]; rfl) ?_
   iterate 2 (first | refine pm ?_ | refine pq ?_)
   iterate 4 (refine po_skip rfl ?_)
   repeat' (first | refine pm ?_ | refine pq ?_ | refine px ?_ | refine po_zero ?_ | refine po_nil ?_)
   refine mwT ?_
   refine mw_seq (mw_ops ?_)
   repeat' (first | refine pm ?_ | refine pq ?_ | refine px ?_ | refine po_zero ?_ | refine po_nil ?_)
   exact mw_ret ⟨.inr rfl,_,rfl,rfl⟩
  refine po_no rfl rfl (by show (!decide ((m:Int) = 4)) = false; rw [decide_eq_true (by omega)]; rfl) ?_
  iterate 4 (first | refine pm ?_ | refine pq ?_)
  refine po_cv (n:=(max:Int)) rfl rfl (by rw [IntKind.wrap_u64]; omega) ?_
  by_cases hn:n <= max
  ·simp only
   rw [if_pos ⟨h4,hn⟩]
   refine po_no rfl rfl (decide_eq_false (show ¬ ((n:Nat):Int) > max by omega)) ?_
   repeat' (first | refine pm ?_ | refine pq ?_ | refine px ?_ | refine po_zero ?_ | refine po_nil ?_)
   refine mwF ?_
   refine mw_skip ?_
   refine mw_seq (mw_ops ?_)
   first | refine pm ?_ | refine pq ?_
   refine po_cv (n:=(n:Int)) rfl rfl (by show IntKind.wrap .i64 ((n:Nat):Int) = _; rw [IntKind.wrap_i64]; omega) ?_
   repeat' (first | refine pm ?_ | refine pq ?_ | refine px ?_ | refine po_zero ?_ | refine po_nil ?_)
   exact mw_ret ⟨.inr rfl,_,rfl,rfl⟩
  ·simp only
   rw [if_neg (by omega)]
   refine po_yes rfl rfl (decide_eq_true (show ((n:Nat):Int) > max by omega)) ?_
   repeat' (first | refine pm ?_ | refine pq ?_ | refine px ?_ | refine po_zero ?_ | refine po_nil ?_)
   refine mwT ?_
   refine mw_seq (mw_ops ?_)
   repeat' (first | refine pm ?_ | refine pq ?_ | refine px ?_ | refine po_zero ?_ | refine po_nil ?_)
   exact mw_ret ⟨.inr rfl,_,rfl,rfl⟩
theorem cnt_at {s:List UInt8} {i k max:Nat} (hi:i <= s.length) (hk:k <= max) (hm:max <= 1000) (h:At s i (hd 4 k)):cntOf s i max = some (k,i + (hd 4 k).length):=by
 unfold cntOf
 rw [getHd_at (by decide) (by omega) hi h]
 simp only
 rw [if_pos ⟨by decide,hk⟩]
theorem cnt_some {s:List UInt8} {i max n x:Nat} (h:cntOf s i max = some (n,x)):n <= max /\ i < x /\ x <= s.length:=by
 unfold cntOf at h
 split at h
 ·rename_i m n' x' hr
  split at h
  ·rename_i hc
   simp only [Option.some.injEq,Prod.mk.injEq] at h
   obtain ⟨rfl,rfl⟩:=h
   obtain ⟨g1,g2,g3,g4,g5,g6⟩:=getHd_some hr
   exact ⟨hc.2,g2,g3⟩
  ·cases h
 ·cases h
theorem nms_at {s:List UInt8} {i:Nat} {us:List (List UInt8)} (h:At s i (nmsT us)) (k:Nat) (hk:k < us.length):At s (i + (nmsT (us.take k)).length) (hd 3 us[k].length ++ us[k]):=by
 have e:us = us.take k ++ (us[k] :: us.drop (k + 1)):=by rw [<- List.drop_eq_getElem_cons hk,List.take_append_drop]
 rw [e,nmsT_app] at h
 have h2:=h.app.2
 simp only [nmsT] at h2
 exact h2.app.1
theorem msgs_at2 {s:List UInt8} {i:Nat} {us:List V} (h:At s i (msgs us)) (k:Nat) (hk:k < us.length):At s (i + (msgs (us.take k)).length) (msg us[k]):=by
 have e:us = us.take k ++ (us[k] :: us.drop (k + 1)):=by rw [<- List.drop_eq_getElem_cons hk,List.take_append_drop]
 rw [e,msgs_app2] at h
 have h2:=h.app.2
 simp only [msgs] at h2
 exact h2.app.1
end
/- ReadHead3 -/
section
open Go.RowKit
theorem u64_back {v:Nat} (h:v < 18446744073709551616):IntKind.u64.wrap (wrap64 (v:Nat)) = (v:Nat):=by
 have:IntKind.u64.wrap (wrap64 (v:Nat)) = wrap64 (v:Nat) % 18446744073709551616:=by simp [IntKind.wrap,IntKind.bits,IntKind.signed]
 rw [this]; unfold wrap64; omega
set_option maxHeartbeats 2000000 in
theorem anyHead_any (l:List UInt8) (i:Int) (w:World) (hi:i64ok i) (hl:l.length <= 9223372036854775000) :
  Calls Tryz.prog 125 #[.string ⟨l.toArray⟩,.int .i64 i] w fun e w' => e = .returned (.tuple #[.int .i64 (hM (anyAt l i)),.int .u64 (hN (anyAt l i)),.int .i64 (hX (anyAt l i))]) /\ Below w.heap.size w w':=by
 by_cases h0:0 <= i /\ i <= (l.length:Int) - 1
 ·have hin:inR i 0 ((l.length:Int) - 1) = true:=inR_yes h0
  obtain ⟨j,rfl⟩:=Int.eq_ofNat_of_zero_le h0.1
  have hj:j < l.length:=by omega
  have HR:=Lib.hid (show anyAt l (j:Nat) = anyHd l j by unfold anyAt; rw [if_neg (by omega)]; rfl)
  rw [HR.out]
  clear h0
  have hb:=l[j].toNat_lt
  have p1:(0:Int) <= j:=by omega
  have p2:(j:Int) < l.length:=by omega
  by_cases h24:l[j].toNat % 32 < 24
  ·have H:=Lib.hid (anyHd_lt hj h24)
   rw [H.out]
   generalize hq:l[j].toNat = q at *
   have ha:=u8_and31 (x:=(q:Int)) (by omega) (by omega)
   go_enter Tryz.func125,Tryz.ntmps125
   go_wp2_with (go_at_call 126; refine (within_any _ _ _ _).mono ?_; rintro e w' ⟨rfl,rfl⟩)
   go_quiet (fail)
   go_wp2
   go_ret3
   exact ⟨by simp [hM,hN,hX],below_drewN (Below.refl _ _) _⟩
  ·by_cases h27:27 < l[j].toNat % 32
   ·have H:=Lib.hid (anyHd_gt hj h27)
    rw [H.out]
    generalize hq:l[j].toNat = q at *
    have ha:=u8_and31 (x:=(q:Int)) (by omega) (by omega)
    go_enter Tryz.func125,Tryz.ntmps125
    go_wp2_with (go_at_call 126; refine (within_any _ _ _ _).mono ?_; rintro e w' ⟨rfl,rfl⟩)
    go_quiet (fail)
    go_wp2
    go_ret3
    exact ⟨by simp [hM,hN,hX],below_drewN (Below.refl _ _) _⟩
   ·obtain ⟨k,hk,hk3⟩:∃ k,l[j].toNat % 32 = 24 + k /\ k <= 3:=⟨l[j].toNat % 32 - 24,by omega,by omega⟩
    have hp:2 ^ k <= 8 /\ 1 <= 2 ^ k:=by
     have:k = 0 \/ k = 1 \/ k = 2 \/ k = 3:=by omega
     rcases this with rfl | rfl | rfl | rfl <;> decide
    obtain ⟨m,hm⟩:∃ m,m = 2 ^ k:=⟨_,rfl⟩
    have hw1:wrap64 (2 ^ k) = (m:Int):=by
     rw [hm]
     have:k = 0 \/ k = 1 \/ k = 2 \/ k = 3:=by omega
     rcases this with rfl | rfl | rfl | rfl <;> (unfold wrap64; decide)
    have hk2:l[j].toNat % 32 - 24 = k:=by omega
    rw [<- hm] at hp
    obtain ⟨hp1,hp2⟩:=hp
    by_cases hs:j + 1 + m <= l.length
    ·have H:=Lib.hid (anyHd_long hj hk hk3 (by rw [<- hm]; exact hs))
     rw [H.out,<- hm]
     have HM:=Lib.hid hm
     clear hm
     generalize hq:l[j].toNat = q at *
     have ha:=u8_and31 (x:=(q:Int)) (by omega) (by omega)
     go_enter Tryz.func125,Tryz.ntmps125
     go_wp2_with (go_at_call 126; refine (within_any _ _ _ _).mono ?_; rintro e w' ⟨rfl,rfl⟩)
     go_quiet (fail)
     have HW:=Lib.hid hw1
     have HK2:=Lib.hid hk2
     clear hw1 hk2
     go_wp2_with fail
     simp only [HK2.out,HW.out]
     rw [show ((j:Int) + 1) = ((j + 1:Nat):Int) from by omega]
     refine (getWide_any l (j + 1) m _ ⟨hp2,hp1⟩ (by omega) hl).mono ?_
     rw [if_pos hs]
     rintro e w2 ⟨rfl,hb2⟩
     have hv64:valBE ((l.drop (j + 1)).take m) < 18446744073709551616:=Nat.lt_of_lt_of_le (valBE_lt _) (Nat.le_trans (Nat.pow_le_pow_right (by decide) (show _ <= 8 by rw [List.length_take]; omega)) (by decide))
     have HV:=Lib.hid hv64
     clear hv64
     go_wp2
     go_ret3
     refine ⟨?_,below2 (below_drewN (Below.refl _ _) _) hb2 (Nat.le_refl _)⟩
     simp [hM,hN,hX]
     exact u64_back HV.out
    ·have H:=Lib.hid (anyHd_short hj hk hk3 (by rw [<- hm]; omega))
     rw [H.out]
     have HM:=Lib.hid hm
     clear hm
     generalize hq:l[j].toNat = q at *
     have ha:=u8_and31 (x:=(q:Int)) (by omega) (by omega)
     go_enter Tryz.func125,Tryz.ntmps125
     go_wp2_with (go_at_call 126; refine (within_any _ _ _ _).mono ?_; rintro e w' ⟨rfl,rfl⟩)
     go_quiet (fail)
     have HW:=Lib.hid hw1
     have HK2:=Lib.hid hk2
     clear hw1 hk2
     go_wp2_with fail
     simp only [HK2.out,HW.out]
     rw [show ((j:Int) + 1) = ((j + 1:Nat):Int) from by omega]
     refine (getWide_any l (j + 1) m _ ⟨hp2,hp1⟩ (by omega) hl).mono ?_
     rw [if_neg hs]
     rintro e w2 ⟨rfl,hb2⟩
     go_wp2
     go_ret3
     exact ⟨by simp [hM,hN,hX],below2 (below_drewN (Below.refl _ _) _) hb2 (Nat.le_refl _)⟩
 ·have hin:inR i 0 ((l.length:Int) - 1) = false:=inR_no h0
  have H:=Lib.hid (show anyAt l i = none by
   unfold anyAt; split
   ·rfl
   ·unfold anyHd; rw [List.getElem?_eq_none (by omega)])
  rw [H.out]
  go_enter Tryz.func125,Tryz.ntmps125
  go_wp2_with (go_at_call 126; refine (within_any _ _ _ _).mono ?_; rintro e w' ⟨rfl,rfl⟩)
  go_ret3
  exact ⟨rfl,Below.refl _ _⟩
theorem length_eq_iff (a b x:Nat):((a:Int) != (x:Int) - (b:Int)) = !decide (b + a = x):=by
 rw [Bool.eq_iff_iff]; simp; omega
set_option maxHeartbeats 800000 in
theorem getHead_impl (l:List UInt8) (i:Int) (w:World) (hi:i64ok i) (hl:l.length <= 9223372036854775000) :
  Calls Tryz.prog 124 #[.string ⟨l.toArray⟩,.int .i64 i] w fun e w' => e = .returned (.tuple #[.int .i64 (hM (getAt l i)),.int .u64 (hN (getAt l i)),.int .i64 (hX (getAt l i))]) /\ Below w.heap.size w w':=by
 have hg:=getAt_any l i
 cases ha:anyAt l i with
 | none =>
  rw [ha] at hg
  have HG:=Lib.hid hg
  rw [HG.out]
  go_enter Tryz.func124,Tryz.ntmps124
  go_wp2_with (go_at_call 125; refine (anyHead_any l i _ hi hl).mono ?_; rw [ha]; simp only [hM,hN,hX]; rintro e w1 ⟨rfl,hb1⟩)
  go_ret3
  exact ⟨rfl,hb1⟩
 | some r =>
  obtain ⟨m,n,x⟩:=r
  rw [ha] at hg
  simp only at hg
  have hi0:¬ i < 0:=by intro h; unfold anyAt at ha; rw [if_pos h] at ha; cases ha
  have haa:anyHd l i.toNat = some (m,n,x):=by unfold anyAt at ha; rw [if_neg hi0] at ha; exact ha
  obtain ⟨h1,h2,h3,h4,h5,_,h7⟩:=anyHd_some haa
  obtain ⟨j,rfl⟩:=Int.eq_ofNat_of_zero_le (show 0 <= i by omega)
  simp only [Int.toNat_natCast] at *
  have p1:(0:Int) <= x:=by omega
  have p2:(j:Int) <= x:=by omega
  have p3:(x:Int) <= l.length:=by omega
  have HA:=Lib.hid ha
  have HG:=Lib.hid hg
  have hhl:=(hd_length m n).1
  clear ha haa hi0 hg h7
  have pd:decide ((x:Int) < 0) = false:=by simp
  have q1:(0:Int) <= m /\ (m:Int) <= 7:=by omega
  have q2:(0:Int) <= n /\ (n:Int) <= 18446744073709551615:=by omega
  go_enter Tryz.func124,Tryz.ntmps124
  go_wp2_with (first | (go_at_call 125; refine (anyHead_any l j _ hi hl).mono ?_; rw [HA.out]; simp only [hM,hN,hX]; rintro e w1 ⟨rfl,hb1⟩) | (go_at_call 132; refine (putHead_impl _ _ _ q1 q2).mono ?_; rintro e w2 ⟨rfl,hb2⟩))
  ·have hne:(((hd m n).length:Int) != (x:Int) - (j:Int)) = true:=by assumption
   have hne':¬ (j + (hd m n).length = x):=by rw [length_eq_iff] at hne; simpa using hne
   have hg:=HG.out
   rw [if_neg hne'] at hg
   go_ret3
   exact ⟨by rw [hg]; rfl,below2 hb1 hb2 (Nat.le_refl _)⟩
  ·have hne:(((hd m n).length:Int) != (x:Int) - (j:Int)) = false:=by assumption
   have hne':j + (hd m n).length = x:=by rw [length_eq_iff] at hne; simpa using hne
   have hg:=HG.out
   rw [if_pos hne'] at hg
   go_ret3
   exact ⟨by rw [hg]; rfl,below2 hb1 hb2 (Nat.le_refl _)⟩
end
/- PvI5 -/
section
open Go.RowKit
variable {T:World -> Prop} {hT:Low ngl T}
attribute [local irreducible] po mw pt
theorem gheadI_fn (s:List UInt8) (i:Int) (hi:i64ok i) (hs:s.length <= 2147483647):FnV (env T hT) 124 [.d (pS s),.d (pI i)] (hdV (getAt s i)):=by
 refine FnV.oldT3 rfl rfl rfl fun w C vs hF _ _ hlen hv => ?_
 match vs,hlen with
 | [x,y],_ =>
  have h1:=pS_inv2 (hv 0 _ _ rfl rfl); have h2:=pI_inv (hv 1 _ _ rfl rfl)
  subst h1; subst h2
  exact getHead_impl s i w hi (by omega)
def deC (s:List UInt8) (p:Nat) (bad:Bool):List PC:=[pS s,pI p,pB false,pI 0,pB bad]
theorem lw_deC (s:List UInt8) (p:Nat) (b:Bool):lwL 0 (deC s p b):=⟨trivial,trivial,trivial,trivial,trivial,trivial⟩
def HeadR (s:List UInt8) (p:Nat) (bad:Bool) (nt:Nat) (live:List Nat) (x:PV) (c':List PC) (n:Nat) (l:List Nat):Prop:=n = nt /\ l = live /\
 (((bad = true \/ getHd s p = none) /\ c' = deC s p true /\ x = .tup [.d (pI (-1)),.d (.v (.int .u64 0))]) \/
  ∃ m n y:Nat,bad = false /\ getHd s p = some (m,n,y) /\ c' = deC s y false /\ x = .tup [.d (pI m),.d (.v (.int .u64 (n:Nat)))])
set_option maxHeartbeats 1000000 in
theorem deHead_g (s:List UInt8) (p:Nat) (bad:Bool) (hp:p <= s.length) (hs:s.length <= 2147483647) (nt:Nat) (live:List Nat) :
  FnG (env T hT) 65 [.ref 0 0] [deC s p bad] nt live (fun x b n l => ∃ c' rest,b = c' :: rest /\ x.lw 0 /\ lwL 0 c' /\ HeadR s p bad nt live x c' n l):=by
 have hg:=gheadI_fn (T:=T) (hT:=hT) s p (by unfold i64ok; omega) hs
 rw [getAt_nat] at hg
 refine fng_of (look_env lk_i_decoder_head) (by show 1 <= 43; decide) fun B hB => ?_
 unfold m_i_decoder_head
 refine mw_seq (mw_ops ?_)
 repeat' (first | refine pm ?_ | refine pq ?_ | refine px ?_ | refine po_zero ?_ | refine po_nil ?_)
 refine mw_seq (mw_ops ?_)
 repeat' (first | refine pm ?_ | refine pq ?_ | refine px ?_ | refine po_zero ?_ | refine po_nil ?_)
 refine mw_seq (mw_seq (mw_ops ?_))
 repeat' (first | refine pm ?_ | refine pq ?_ | refine px ?_ | refine po_zero ?_ | refine po_nil ?_)
 refine mwF ?_
 refine mw_skip ?_
 refine mw_seq (mw_ops ?_)
 iterate 9 (first | refine pm ?_ | refine pq ?_)
 refine po_v (f:=124) (cap:=[]) (args:=[.d (pS s),.d (pI p)]) rfl (by kernel_rfl) rfl hg ?_
 repeat' (first | refine pm ?_ | refine pq ?_ | refine px ?_ | refine po_zero ?_ | refine po_nil ?_)
 refine mw_seq ?_
 have hbad:(bad = true \/ getHd s p = none) -> ∃ c' rest,([deC s p bad].set 0 (spl (deC s p bad) 4 [pB true])) = c' :: rest /\ PV.lw 0 (.tup [.d (pI (-1)),.d (.v (.int .u64 0))]) /\ lwL 0 c' /\ HeadR s p bad nt live (.tup [.d (pI (-1)),.d (.v (.int .u64 0))]) c' nt live:=fun h =>
  ⟨deC s p true,[],rfl,⟨trivial,trivial,trivial⟩,lw_deC _ _ _,rfl,rfl,.inl ⟨h,rfl,rfl⟩⟩
 cases bad with
 | true =>
  refine mw_seq (mw_ops ?_)
  iterate 5 (first | refine pm ?_ | refine pq ?_)
  iterate 2 (refine po_skip rfl ?_)
  repeat' (first | refine pm ?_ | refine pq ?_ | refine px ?_ | refine po_zero ?_ | refine po_nil ?_)
  refine mwT ?_
  refine mw_seq (mw_ops ?_)
  iterate 3 (first | refine pm ?_ | refine pq ?_)
  refine po_store (p:=0) (o':=4) (cs:=[pB true]) (z:=deC s p true) rfl rfl rfl ⟨rfl,Nat.le_of_ble_eq_true rfl⟩ rfl ?_
  refine po_nil ?_
  refine mw_seq (mw_ops ?_)
  repeat' (first | refine pm ?_ | refine pq ?_ | refine px ?_ | refine po_zero ?_ | refine po_nil ?_)
  exact mw_ret ⟨.inr rfl,[.d (pI (-1)),.d (.v (.int .u64 0))],rfl,hbad (.inl rfl)⟩
 | false =>
 cases hr:getHd s p with
 | none =>
  refine mw_seq (mw_ops ?_)
  iterate 6 (first | refine pm ?_ | refine pq ?_)
  refine po_yes rfl rfl rfl ?_
  repeat' (first | refine pm ?_ | refine pq ?_ | refine px ?_ | refine po_zero ?_ | refine po_nil ?_)
  refine mwT ?_
  refine mw_seq (mw_ops ?_)
  iterate 3 (first | refine pm ?_ | refine pq ?_)
  refine po_store (p:=0) (o':=4) (cs:=[pB true]) (z:=deC s p false) rfl rfl rfl ⟨rfl,Nat.le_of_ble_eq_true rfl⟩ rfl ?_
  refine po_nil ?_
  refine mw_seq (mw_ops ?_)
  repeat' (first | refine pm ?_ | refine pq ?_ | refine px ?_ | refine po_zero ?_ | refine po_nil ?_)
  exact mw_ret ⟨.inr rfl,[.d (pI (-1)),.d (.v (.int .u64 0))],rfl,hbad (.inr hr)⟩
 | some r =>
  obtain ⟨m,n,y⟩:=r
  obtain ⟨g1,g2,g3,g4,g5,g6⟩:=getHd_some hr
  refine mw_seq (mw_ops ?_)
  iterate 6 (first | refine pm ?_ | refine pq ?_)
  refine po_no rfl rfl (decide_eq_false (show ¬ ((y:Nat):Int) < 0 by omega)) ?_
  repeat' (first | refine pm ?_ | refine pq ?_ | refine px ?_ | refine po_zero ?_ | refine po_nil ?_)
  refine mwF ?_
  refine mw_skip ?_
  refine mw_seq (mw_ops ?_)
  iterate 4 (first | refine pm ?_ | refine pq ?_)
  refine po_store (p:=0) (o':=1) (cs:=[pI ((y:Nat):Int)]) (z:=deC s p false) rfl rfl rfl ⟨rfl,Nat.le_of_ble_eq_true rfl⟩ rfl ?_
  refine po_nil ?_
  refine mw_seq (mw_ops ?_)
  repeat' (first | refine pm ?_ | refine pq ?_ | refine px ?_ | refine po_zero ?_ | refine po_nil ?_)
  exact mw_ret ⟨.inr rfl,[.d (pI m),.d (.v (.int .u64 (n:Nat)))],rfl,deC s y false,[],rfl,⟨trivial,trivial,trivial⟩,lw_deC _ _ _,rfl,rfl,.inr ⟨m,n,y,rfl,hr,rfl,rfl⟩⟩
def BytesR (s:List UInt8) (p k:Nat) (bad:Bool) (nt:Nat) (live:List Nat) (x:PV) (c':List PC) (n:Nat) (l:List Nat):Prop:=n = nt /\ l = live /\
 ((bad = false /\ p + k <= s.length /\ c' = deC s (p + k) false /\ x = .d (pS ((s.drop p).take k))) \/ ((bad = true \/ ¬ p + k <= s.length) /\ c' = deC s p true /\ x = .d (pS [])))
set_option maxHeartbeats 1000000 in
theorem deBytes_g (s:List UInt8) (p k:Nat) (bad:Bool) (hk:k < 18446744073709551616) (hp:p <= s.length) (hs:s.length <= 2147483647) (nt:Nat) (live:List Nat) :
  FnG (env T hT) 66 [.ref 0 0,.d (.v (.int .u64 (k:Nat)))] [deC s p bad] nt live (fun x b n l => ∃ c' rest,b = c' :: rest /\ x.lw 0 /\ lwL 0 c' /\ BytesR s p k bad nt live x c' n l):=by
 refine fng_of (look_env lk_i_decoder_bytes) (by show 2 <= 51; decide) fun B hB => ?_
 unfold m_i_decoder_bytes
 refine mw_seq (mw_ops ?_)
 repeat' (first | refine pm ?_ | refine pq ?_ | refine px ?_ | refine po_zero ?_ | refine po_nil ?_)
 refine mw_seq ?_
 refine mw_cut (fun st => has st.tm [(0,.ref 0 0),(1,.d (.v (.int .u64 (k:Nat)))),(24,.d (pB (bad || !decide (p + k <= s.length))))] /\ st.bx = [deC s p bad] /\ st.nt = nt /\ st.live = live) ?_ ?_
 ·refine mw_ops ?_
  iterate 5 (first | refine pm ?_ | refine pq ?_)
  cases bad with
  | true =>
   iterate 13 (refine po_skip rfl ?_)
   repeat' (first | refine pm ?_ | refine pq ?_ | refine px ?_ | refine po_zero ?_ | refine po_nil ?_)
   exact ⟨⟨rfl,rfl,rfl,trivial⟩,rfl,rfl,rfl⟩
  | false =>
   iterate 5 (first | refine pm ?_ | refine pq ?_)
   refine po_q (v:=.d (pI s.length)) rfl rfl ?_
   iterate 4 (first | refine pm ?_ | refine pq ?_)
   refine po_sub (n:=(s.length:Int) - p) rfl rfl rfl rfl (by omega) ?_
   refine po_cv (n:=(s.length:Int) - p) rfl rfl (by rw [IntKind.wrap_u64]; omega) ?_
   refine po_b rfl rfl (fun b hb => ?_)
   repeat' (first | refine pm ?_ | refine pq ?_ | refine px ?_ | refine po_zero ?_ | refine po_nil ?_)
   have:(!decide (p + k <= s.length)) = b:=by
    rw [hb]
    by_cases h:p + k <= s.length
    ·rw [decide_eq_true h,decide_eq_false (by omega)]; rfl
    ·rw [decide_eq_false h,decide_eq_true (by omega)]; rfl
   exact ⟨⟨rfl,rfl,by rw [Bool.false_or,this]; rfl,trivial⟩,rfl,rfl,rfl⟩
 rintro tm bx n1 l1 ⟨ht,rfl,rfl,rfl⟩
 obtain ⟨tm0,rfl⟩:=has_ups ht
 refine mw_cond (t:=bad || !decide (p + k <= s.length)) rfl (fun hc => ?_) (fun hc => ?_)
 ·simp only [Bool.or_eq_true,Bool.not_eq_true',decide_eq_false_iff_not] at hc
  refine mw_seq (mw_ops ?_)
  iterate 3 (first | refine pm ?_ | refine pq ?_)
  refine po_store (p:=0) (o':=4) (cs:=[pB true]) (z:=deC s p bad) rfl rfl rfl ⟨rfl,Nat.le_of_ble_eq_true rfl⟩ rfl ?_
  refine po_nil ?_
  refine mw_seq (mw_ops ?_)
  repeat' (first | refine pm ?_ | refine pq ?_ | refine px ?_ | refine po_zero ?_ | refine po_nil ?_)
  exact mw_ret ⟨.inr rfl,[.d (pS [])],rfl,deC s p true,[],rfl,trivial,lw_deC _ _ _,rfl,rfl,.inr ⟨hc,rfl,rfl⟩⟩
 ·simp only [Bool.or_eq_false_iff,Bool.not_eq_false',decide_eq_true_eq] at hc
  obtain ⟨rfl,hle⟩:=hc
  refine mw_skip ?_
  refine mw_seq (mw_ops ?_)
  repeat' (first | refine pm ?_ | refine pq ?_ | refine px ?_ | refine po_zero ?_ | refine po_nil ?_)
  refine mw_seq (mw_ops ?_)
  iterate 5 (first | refine pm ?_ | refine pq ?_)
  refine po_cv (n:=(k:Int)) rfl rfl (by show IntKind.wrap .i64 ((k:Nat):Int) = _; rw [IntKind.wrap_i64]; omega) ?_
  refine po_add (n:=((p + k:Nat):Int)) rfl rfl rfl (by omega) (by omega) ?_
  iterate 2 (first | refine pm ?_ | refine pq ?_)
  refine po_store (p:=0) (o':=1) (cs:=[pI ((p + k:Nat):Int)]) (z:=deC s p false) rfl rfl rfl ⟨rfl,Nat.le_of_ble_eq_true rfl⟩ rfl ?_
  refine po_nil ?_
  refine mw_seq (mw_ops ?_)
  iterate 9 (first | refine pm ?_ | refine pq ?_)
  refine po_slcs (a:=p) (b:=p + k) (rs:=(s.drop p).take k) rfl rfl (bound_nat rfl rfl) (bound_nat rfl rfl) (by omega) (by rw [show p + k - p = k by omega]) ?_
  repeat' (first | refine pm ?_ | refine pq ?_ | refine px ?_ | refine po_zero ?_ | refine po_nil ?_)
  exact mw_ret ⟨.inr rfl,[.d (pS ((s.drop p).take k))],rfl,deC s (p + k) false,[],rfl,trivial,lw_deC _ _ _,rfl,rfl,.inl ⟨rfl,hle,rfl,rfl⟩⟩
end
/- PvI2 -/
section
open Go.RowKit
variable {T:World -> Prop} {hT:Low ngl T}
attribute [local irreducible] po mw pt
theorem isRef_fn (v:V) (x:V) (hx:v.kids = [x]):FnV (env T hT) 176 [.ag (vC v)] (.d (pB (decide (x.kind = 3 /\ x.num ≥ 0)))):=by
 have hget:(vK v.kids)[(0:Int).toNat]? = some (vC x):=by rw [hx]; rw [vK_eq]; rfl
 refine fn_of (look_env lk_i_isRef) (by show 1 <= 17; decide) fun B hB => ?_
 unfold m_i_isRef
 refine mw_seq (mw_ops ?_)
 repeat' (first | refine pm ?_ | refine pq ?_ | refine px ?_ | refine po_zero ?_ | refine po_nil ?_)
 refine mw_seq (mw_ops ?_)
 iterate 2 (first | refine pm ?_ | refine pq ?_)
 refine po_ix (es:=vK v.kids) (e:=vC x) rfl rfl rfl ⟨by omega,hget⟩ rfl ?_
 iterate 2 (first | refine pm ?_ | refine pq ?_)
 by_cases h3:x.kind = 3
 ·refine po_yes rfl rfl (decide_eq_true h3) ?_
  iterate 3 (first | refine pm ?_ | refine pq ?_)
  refine po_ix (es:=vK v.kids) (e:=vC x) rfl rfl rfl ⟨by omega,hget⟩ rfl ?_
  iterate 2 (first | refine pm ?_ | refine pq ?_)
  refine po_b rfl rfl (fun b hb => ?_)
  repeat' (first | refine pm ?_ | refine pq ?_ | refine px ?_ | refine po_zero ?_ | refine po_nil ?_)
  have:decide (x.kind = 3 /\ x.num ≥ 0) = b:=by rw [hb]; exact decide_eq_decide.2 ⟨fun h => h.2,fun h => ⟨h3,h⟩⟩
  rw [this]
  exact mw_ret ⟨.inr rfl,_,rfl,rfl⟩
 ·refine po_no rfl rfl (decide_eq_false h3) ?_
  first | refine pm ?_ | refine pq ?_
  iterate 6 (refine po_skip rfl ?_)
  repeat' (first | refine pm ?_ | refine pq ?_ | refine px ?_ | refine po_zero ?_ | refine po_nil ?_)
  rw [decide_eq_false (fun h => h3 h.1)]
  exact mw_ret ⟨.inr rfl,_,rfl,rfl⟩
theorem refOf_one {v x:V} (h9:v.kind = 9 /\ v.num = 6) (hx:v.kids = [x]):refOf v = if x.kind = 3 /\ 0 <= x.num then x.num else -1:=by unfold refOf; rw [if_pos h9,hx]
theorem gl_set {α:Type} {l:List α} {p q:Nat} {x y:α} (h:l[q]? = some y) (hne:p ≠ q):(l.set p x)[q]? = some y:=by rw [List.getElem?_set_ne hne]; exact h
theorem getE_app {α:Type} {l r:List α} {p:Nat} {x:α} (h:l[p]? = some x):(l ++ r)[p]? = some x:=by
 rw [List.getElem?_append_left]; exact h
 rcases Nat.lt_or_ge p l.length with h' | h'
 ·exact h'
 ·rw [List.getElem?_eq_none h'] at h; cases h
theorem getE_lt {α:Type} {l:List α} {p:Nat} {x:α} (h:l[p]? = some x):p < l.length:=by
 rcases Nat.lt_or_ge p l.length with h' | h'
 ·exact h'
 ·rw [List.getElem?_eq_none h'] at h; cases h
theorem set_app {α:Type} {l r:List α} {p:Nat} {x y:α} (h:l[p]? = some y):(l ++ r).set p x = l.set p x ++ r:=List.set_append_left _ _ (getE_lt h)
theorem set_same {α:Type} {l:List α} {p:Nat} {x:α} (h:l[p]? = some x):l.set p x = l:=by
 refine List.ext_getElem? fun j => ?_
 by_cases hj:p = j
 ·subst hj; rw [List.getElem?_set_self (getE_lt h),h]
 ·rw [List.getElem?_set_ne hj]
def AhB (p:Nat) (a:Bool) (bx b:List (List PC)):Prop:=∃ rest,b = bx.set p [pB a] ++ rest
set_option maxHeartbeats 1000000 in
theorem ahClo_g (v:V) (hk:v.ok = true) (a:Bool) (i:Int) {bx:List (List PC)} {p q nt:Nat} {live:List Nat} (hp:bx[p]? = some [pB a]) (hq:bx[q]? = some [pI i]) :
  FnG (env T hT) 175 [.ag (vC v),.ref p 0,.ref q 0] bx nt live (fun _ b n l => AhB p (a && ownA i v) bx b /\ n = nt /\ l = live):=by
 refine fng_of (look_env lk_i_TableOk_1) (by show 3 <= 26; decide) fun B hB => ?_
 unfold m_i_TableOk_1
 refine mw_seq (mw_ops ?_)
 repeat' (first | refine pm ?_ | refine pq ?_ | refine px ?_ | refine po_zero ?_ | refine po_nil ?_)
 have hlb:(bx ++ [vC v])[bx.length]? = some (vC v):=gl_last bx (vC v)
 have hp':(bx ++ [vC v])[p]? = some [pB a]:=getE_app hp
 have hq':(bx ++ [vC v])[q]? = some [pI i]:=getE_app hq
 have hplt:=getE_lt hp
 have hset:∀ c:Bool,(bx ++ [vC v]).set p [pB c] = bx.set p [pB c] ++ [vC v]:=fun c => set_app hp
 have hid:AhB p (a && true) bx (bx ++ [vC v]):=⟨[vC v],by rw [Bool.and_true]; congr 1; exact (set_same hp).symm⟩
 refine mw_seq (mw_ops ?_)
 first | refine pm ?_ | refine pq ?_
 refine po_ldx (cs:=vC v) (v:=.d (pI v.kind)) rfl rfl hlb (Nat.le_of_ble_eq_true rfl) rfl ?_
 by_cases h9:v.kind = 9
 case neg =>
  refine po_no rfl rfl (decide_eq_false h9) ?_
  first | refine pm ?_ | refine pq ?_
  iterate 3 (refine po_skip rfl ?_)
  repeat' (first | refine pm ?_ | refine pq ?_ | refine px ?_ | refine po_zero ?_ | refine po_nil ?_)
  refine mwF ?_
  refine mw_skip ?_
  refine ⟨.inl rfl,[],rfl,?_,rfl,rfl⟩
  have:ownA i v = true:=by unfold ownA; rw [if_neg (fun h => h9 h.1)]
  rw [this]; exact hid
 refine po_yes rfl rfl (decide_eq_true h9) ?_
 iterate 2 (first | refine pm ?_ | refine pq ?_)
 refine po_ldx (cs:=vC v) (v:=.d (pI v.num)) rfl rfl hlb (Nat.le_of_ble_eq_true rfl) rfl ?_
 by_cases h6:v.num = 6
 case neg =>
  refine po_no rfl rfl (decide_eq_false h6) ?_
  repeat' (first | refine pm ?_ | refine pq ?_ | refine px ?_ | refine po_zero ?_ | refine po_nil ?_)
  refine mwF ?_
  refine mw_skip ?_
  refine ⟨.inl rfl,[],rfl,?_,rfl,rfl⟩
  have:ownA i v = true:=by unfold ownA; rw [if_neg (fun h => h6 h.2)]
  rw [this]; exact hid
 refine po_yes rfl rfl (decide_eq_true h6) ?_
 repeat' (first | refine pm ?_ | refine pq ?_ | refine px ?_ | refine po_zero ?_ | refine po_nil ?_)
 refine mwT ?_
 obtain ⟨x,hx⟩:∃ x,v.kids = [x]:=List.length_eq_one_iff.1 (V.ok_one hk h9)
 have hget:(vK v.kids)[(0:Int).toNat]? = some (vC x):=by rw [hx]; rw [vK_eq]; rfl
 have hR:=refOf_one ⟨h9,h6⟩ hx
 have hO:ownA i v = (decide (0 <= refOf v) && decide (refOf v < i)):=by unfold ownA; rw [if_pos ⟨h9,h6⟩]
 rw [hO]
 refine mw_ops ?_
 refine po_ldx (cs:=[pB a]) (v:=.d (pB a)) rfl rfl hp' (Nat.le_of_ble_eq_true rfl) rfl ?_
 first | refine pm ?_ | refine pq ?_
 cases a with
 | false =>
  iterate 2 (refine po_skip rfl ?_)
  iterate 2 (first | refine pm ?_ | refine pq ?_)
  iterate 7 (refine po_skip rfl ?_)
  first | refine pm ?_ | refine pq ?_
  refine po_store (p:=p) (o':=0) (cs:=[pB false]) (z:=[pB false]) rfl rfl hp' ⟨rfl,Nat.le_of_ble_eq_true rfl⟩ rfl ?_
  refine po_nil ?_
  exact ⟨.inl rfl,[],rfl,⟨[vC v],hset false⟩,rfl,rfl⟩
 | true =>
 refine po_ldx (cs:=vC v) (v:=.ag (vC v)) rfl rfl hlb (Nat.le_of_ble_eq_true rfl) rfl ?_
 refine po_gcall (b:=true) (args:=[.ag (vC v)]) rfl (fun _ => vC_arg v) (fun _ => isRef_fn v x hx) ?_
 iterate 2 (first | refine pm ?_ | refine pq ?_)
 by_cases hc:x.kind = 3 /\ x.num ≥ 0
 case neg =>
  rw [decide_eq_false hc]
  rw [if_neg (fun h => hc ⟨h.1,h.2⟩)] at hR
  iterate 7 (refine po_skip rfl ?_)
  first | refine pm ?_ | refine pq ?_
  refine po_store (p:=p) (o':=0) (cs:=[pB false]) (z:=[pB true]) rfl rfl hp' ⟨rfl,Nat.le_of_ble_eq_true rfl⟩ rfl ?_
  refine po_nil ?_
  refine ⟨.inl rfl,[],rfl,⟨[vC v],?_⟩,rfl,rfl⟩
  rw [hR]; exact hset false
 rw [decide_eq_true hc]
 rw [if_pos ⟨hc.1,hc.2⟩] at hR
 first | refine pm ?_ | refine pq ?_
 refine po_ldx (cs:=vC v) (v:=.d (.sl 0 (vK v.kids))) rfl rfl hlb (Nat.le_of_ble_eq_true rfl) rfl ?_
 refine po_ix (es:=vK v.kids) (e:=vC x) rfl rfl rfl ⟨by omega,hget⟩ rfl ?_
 iterate 2 (first | refine pm ?_ | refine pq ?_)
 refine po_ldx (cs:=[pI i]) (v:=.d (pI i)) rfl rfl hq' (Nat.le_of_ble_eq_true rfl) rfl ?_
 refine po_b rfl rfl (fun b hb => ?_)
 first | refine pm ?_ | refine pq ?_
 refine po_store (p:=p) (o':=0) (cs:=[pB b]) (z:=[pB true]) rfl rfl hp' ⟨rfl,Nat.le_of_ble_eq_true rfl⟩ rfl ?_
 refine po_nil ?_
 refine ⟨.inl rfl,[],rfl,⟨[vC v],?_⟩,rfl,rfl⟩
 have:(true && (decide (0 <= refOf v) && decide (refOf v < i))) = b:=by rw [hR,hb,decide_eq_true (show (0:Int) <= x.num by omega)]; rfl
 rw [this]; exact hset b
end
/- PvI3 -/
section
open Go.RowKit
variable {T:World -> Prop} {hT:Low ngl T}
attribute [local irreducible] po mw pt
theorem AhB.trans {p:Nat} {a1 a2:Bool} {bx b c:List (List PC)} {z:List PC} (hp:bx[p]? = some z) (h:AhB p a1 bx b) (k:AhB p a2 b c):AhB p a2 bx c:=by
 obtain ⟨r1,rfl⟩:=h
 obtain ⟨r2,rfl⟩:=k
 have hlt:=getE_lt hp
 refine ⟨r1 ++ r2,?_⟩
 rw [List.set_append_left _ _ (by rw [List.length_set]; exact hlt),List.set_set,List.append_assoc]
theorem AhB.push {p:Nat} {a:Bool} {bx b:List (List PC)} (h:AhB p a bx b) (x:List PC):AhB p a bx (b ++ [x]):=by
 obtain ⟨r,rfl⟩:=h
 exact ⟨r ++ [x],by rw [List.append_assoc]⟩
theorem AhB.self {p:Nat} {a:Bool} {bx:List (List PC)} (h:bx[p]? = some [pB a]):AhB p a bx bx:=⟨[],by rw [List.append_nil,set_same h]⟩
theorem AhB.at {p:Nat} {a:Bool} {bx b:List (List PC)} {z:List PC} (h:AhB p a bx b) (hp:bx[p]? = some z):b[p]? = some [pB a]:=by
 obtain ⟨r,rfl⟩:=h
 exact getE_app (List.getElem?_set_self (getE_lt hp))
theorem AhB.other {p q:Nat} {a:Bool} {bx b:List (List PC)} {z:List PC} (h:AhB p a bx b) (hq:bx[q]? = some z) (hne:p ≠ q):b[q]? = some z:=by
 obtain ⟨r,rfl⟩:=h
 exact getE_app (gl_set hq hne)
theorem po_nw2 {E:Env} {K:St -> Prop} {tm:Nat -> PV} {bx:List (List PC)} {nt d1 d2 n1 n2:Nat} {live:List Nat} {r:List MOpr} {z1 z2:List Value} {x1 x2:X} {cs1 cs2:List PC} {c1 c2:List X}
  (hx1:pcells (ev (up d2 (.ref (bx.length + 1) 0) (up d1 (.ref bx.length 0) tm)) x1) = some cs1) (hx2:pcells (ev (up d2 (.ref (bx.length + 1) 0) (up d1 (.ref bx.length 0) tm)) x2) = some cs2) (hn1:cs1.length = n1) (hz1:z1.length = n1) (hn2:cs2.length = n2) (hz2:z2.length = n2)
  (hc1:c1.all (apartX (ev (up d2 (.ref (bx.length + 1) 0) (up d1 (.ref bx.length 0) tm))) (.t d1)) = true) (hc2:c2.all (apartX (ev (up d2 (.ref (bx.length + 1) 0) (up d1 (.ref bx.length 0) tm))) (.t d2)) = true) (ha1:ev (up d2 (.ref (bx.length + 1) 0) (up d1 (.ref bx.length 0) tm)) (.t d1) = .ref bx.length 0)
  (h:po E r K ⟨up d2 (.ref (bx.length + 1) 0) (up d1 (.ref bx.length 0) tm),bx ++ [cs1] ++ [cs2],nt,live⟩) :
  po E (⟨some d1,.zero z1,none,[]⟩ :: ⟨some d2,.zero z2,none,[]⟩ :: ⟨none,.store n1 (.t d1) x1,none,c1⟩ :: ⟨none,.store n2 (.t d2) x2,none,c2⟩ :: r) K ⟨tm,bx,nt,live⟩:=by
 refine po_zero ?_
 refine po_zero ?_
 have hl:(bx ++ [z1.map ofC]).length = bx.length + 1:=by simp
 rw [hl]
 have hb0:(bx ++ [z1.map ofC] ++ [z2.map ofC])[bx.length]? = some (z1.map ofC):=getE_app (gl_last _ _)
 have ha2:ev (up d2 (.ref (bx.length + 1) 0) (up d1 (.ref bx.length 0) tm)) (.t d2) = .ref (bx.length + 1) 0:=by
  show up d2 (.ref (bx.length + 1) 0) (up d1 (.ref bx.length 0) tm) d2 = _
  rw [<- up_eq]; exact if_pos rfl
 have spl_all:∀ (z:List Value) (cs:List PC) (n:Nat),cs.length = n -> z.length = n -> spl (z.map ofC) 0 cs = cs:=fun z cs n h1 h2 => by
  unfold spl
  rw [List.take_zero,List.nil_append,List.drop_of_length_le (by rw [List.length_map]; omega),List.append_nil]
 refine po_store ha1 hx1 hb0 ⟨hn1,by rw [List.length_map]; omega⟩ hc1 ?_
 have e2:(bx ++ [z1.map ofC] ++ [z2.map ofC]).set bx.length cs1 = bx ++ [cs1] ++ [z2.map ofC]:=by
  rw [List.set_append_left _ _ (by simp),List.set_append_right _ _ (Nat.le_refl _),Nat.sub_self]; rfl
 rw [spl_all z1 cs1 n1 hn1 hz1,e2]
 have hb1:(bx ++ [cs1] ++ [z2.map ofC])[bx.length + 1]? = some (z2.map ofC):=by
  have:=gl_last (bx ++ [cs1]) (z2.map ofC)
  rwa [show (bx ++ [cs1]).length = bx.length + 1 by simp] at this
 refine po_store ha2 hx2 hb1 ⟨hn2,by rw [List.length_map]; omega⟩ hc2 ?_
 have e3:(bx ++ [cs1] ++ [z2.map ofC]).set (bx.length + 1) cs2 = bx ++ [cs1] ++ [cs2]:=by
  rw [List.set_append_right _ _ (by simp),show bx.length + 1 - (bx ++ [cs1]).length = 0 by simp]; rfl
 rw [spl_all z2 cs2 n2 hn2 hz2,e3]
 exact h
def WkP (T:World -> Prop) (hT:Low ngl T) (N:Nat):Prop:=∀ (v:V) (i:Int) (a:Bool) (bx:List (List PC)) (p q nt:Nat) (live:List Nat),v.nodes <= N -> v.ok = true -> bx[p]? = some [pB a] -> bx[q]? = some [pI i] -> p ≠ q ->
 FnG (env T hT) 174 [.ag (vC v),.fn 175 [.ref p 0,.ref q 0]] bx nt live (fun _ b n l => AhB p (a && v.ahW i) bx b /\ n = nt /\ l = live)
def WkI (v:V) (i:Int) (a:Bool) (bx:List (List PC)) (p q nt:Nat) (live:List Nat) (m:Nat) (s:St):Prop:=∃ j:Nat,j <= v.kids.length /\ m = v.kids.length - j /\ has s.tm [(1,.fn 175 [.ref p 0,.ref q 0]),(10,.d (.sl 0 (vK v.kids))),(11,.d (pI v.kids.length)),(12,.d (pI j))] /\ AhB p (a && (ownA i v && V.ahWs i (v.kids.take j))) bx s.bx /\ s.nt = nt /\ s.live = live
set_option maxHeartbeats 1000000 in
theorem walk_step {N:Nat} (hS:WkP T hT N) (v:V) (i:Int) (a:Bool) (bx:List (List PC)) (p q nt:Nat) (live:List Nat) (hn:v.nodes <= N + 1) (hk:v.ok = true) (hp:bx[p]? = some [pB a]) (hq:bx[q]? = some [pI i]) (hne:p ≠ q) :
  FnG (env T hT) 174 [.ag (vC v),.fn 175 [.ref p 0,.ref q 0]] bx nt live (fun _ b n l => AhB p (a && v.ahW i) bx b /\ n = nt /\ l = live):=by
 have hkl:=V.ok_len hk
 have hplt:=getE_lt hp
 refine fng_of (look_env lk_i_walk) (by show 2 <= 20; decide) fun B hB => ?_
 unfold m_i_walk
 refine mw_seq (mw_ops ?_)
 repeat' (first | refine pm ?_ | refine pq ?_ | refine px ?_ | refine po_zero ?_ | refine po_nil ?_)
 refine mw_seq (mw_ops ?_)
 first | refine pm ?_ | refine pq ?_
 refine po_ldx (cs:=vC v) (v:=.ag (vC v)) rfl rfl (gl_last bx (vC v)) (Nat.le_of_ble_eq_true rfl) rfl ?_
 refine po_vg (f:=175) (cap:=[.ref p 0,.ref q 0]) rfl (by kernel_rfl) rfl (ahClo_g v hk a i (getE_app hp) (getE_app hq)) ?_
 rintro y b1 n1 l1 ⟨hA,rfl,rfl⟩
 refine po_nil ?_
 have hA1:AhB p (a && ownA i v) bx b1:=AhB.trans hp ((AhB.self hp).push (vC v)) hA
 have hv1:b1[bx.length]? = some (vC v):=hA.other (gl_last bx (vC v)) (by omega)
 refine mw_seq (mw_ops ?_)
 first | refine pm ?_ | refine pq ?_
 refine po_ldx (cs:=vC v) (v:=.d (.sl 0 (vK v.kids))) rfl rfl hv1 (Nat.le_of_ble_eq_true rfl) rfl ?_
 refine po_len (n:=v.kids.length) rfl rfl (vK_len _) ?_
 repeat' (first | refine pm ?_ | refine pq ?_ | refine px ?_ | refine po_zero ?_ | refine po_nil ?_)
 refine mw_block ?_
 refine mw_while (WkI v i a bx p q n1 l1) v.kids.length ⟨0,Nat.zero_le _,rfl,⟨rfl,rfl,rfl,rfl,trivial⟩,by rw [List.take_zero]; show AhB p (a && (ownA i v && true)) bx b1; rw [Bool.and_true]; exact hA1,rfl,rfl⟩ ?_
 rintro m tm bx2 nt2 live2 ⟨j,hj,rfl,ht,hB2,hnn,hll⟩
 obtain ⟨tm0,rfl⟩:=has_ups ht
 simp only at hB2 hnn hll
 subst hnn; subst hll
 clear ht
 refine mw_seq (mw_ops ?_)
 refine po_b rfl rfl (fun b hb => ?_)
 refine po_nil ?_
 refine mw_seq ?_
 refine mw_cd (p:=(j:Int) < v.kids.length) hb rfl (fun h _ => ?_) (fun h _ => ?_)
 ·have hjl:j < v.kids.length:=by omega
  refine mw_skip ?_
  refine mw_seq (mw_block (mw_seq (mw_ops ?_)))
  refine po_ix (es:=vK v.kids) (e:=vC v.kids[j]) rfl rfl rfl ⟨by omega,by rw [Int.toNat_natCast]; exact vK_get hjl⟩ rfl ?_
  refine po_q (v:=.ag (vC v.kids[j])) rfl rfl ?_
  refine po_nw (cs:=vC v.kids[j]) rfl rfl rfl rfl ?_
  refine po_nil ?_
  refine mw_ops ?_
  refine po_ldx (cs:=vC v.kids[j]) (v:=.ag (vC v.kids[j])) rfl rfl (gl_last bx2 (vC v.kids[j])) (Nat.le_of_ble_eq_true rfl) rfl ?_
  first | refine pm ?_ | refine pq ?_
  have hB3:=hB2.push (vC v.kids[j])
  refine po_g rfl (hS v.kids[j] i _ _ p q nt2 live2 (V.nodes_kid hn j hjl) (V.ok_kid hk j hjl) (hB3.at hp) (hB3.other hq hne) hne) ?_
  rintro y b4 n4 l4 ⟨hB4,rfl,rfl⟩
  refine po_nil ?_
  refine mw_ops ?_
  refine po_add (n:=((j + 1:Nat):Int)) rfl rfl rfl (by omega) (by omega) ?_
  repeat' (first | refine pm ?_ | refine pq ?_ | refine px ?_ | refine po_zero ?_ | refine po_nil ?_)
  refine ⟨v.kids.length - (j + 1),by omega,j + 1,hjl,rfl,⟨rfl,rfl,rfl,rfl,trivial⟩,?_,rfl,rfl⟩
  have e:(a && (ownA i v && V.ahWs i (v.kids.take (j + 1)))) = ((a && (ownA i v && V.ahWs i (v.kids.take j))) && v.kids[j].ahW i):=by
   rw [List.take_succ_eq_append_getElem hjl,V.ahWs_app]
   simp only [V.ahWs,Bool.and_true,Bool.and_assoc]
  rw [e]
  exact AhB.trans hp hB3 hB4
 ·refine mw_exit ?_
  have:j = v.kids.length:=by omega
  subst this
  refine ⟨.inl rfl,[],rfl,?_,rfl,rfl⟩
  rw [List.take_length] at hB2
  rw [V.ahW_eq]; exact hB2
theorem walk_g:∀ (N:Nat),WkP T hT N
 | 0,v,i,a,bx,p,q,nt,live,hn,_,_,_,_ => by obtain ⟨k,n,e,s,kids⟩:=v; simp only [V.nodes] at hn; omega
 | N + 1,v,i,a,bx,p,q,nt,live,hn,hk,hp,hq,hne => walk_step (walk_g N) v i a bx p q nt live hn hk hp hq hne
def TiI (vs:List V) (m:Nat) (st:St):Prop:=∃ i:Nat,i <= vs.length /\ m = vs.length - i /\ has st.tm [(9,.d (.sl 0 (vK vs))),(10,.d (pI vs.length)),(11,.d (pI i))] /\ allN i (fun i => (vs.getD i (.mk 0 0 0 [] [])).ok && (vs.getD i (.mk 0 0 0 [] [])).ahead i) = true
set_option maxHeartbeats 1000000 in
theorem tableOkI_fn (hTab:∀ w,T w -> Tabs w) (vs:List V) (hl:vs.length <= 4294967295) (hw:∀ v ∈ vs,v.wf) (hb':∀ v ∈ vs,v.bulk <= 4294967295):FnV (env T hT) 130 [.d (.sl 0 (vK vs))] (.d (pB (tabB vs))):=by
 refine fn_of (look_env lk_i_TableOk) (by show 1 <= 25; decide) fun B hB => ?_
 unfold m_i_TableOk
 refine mw_seq (mw_ops ?_)
 repeat' (first | refine pm ?_ | refine pq ?_ | refine px ?_ | refine po_zero ?_ | refine po_nil ?_)
 refine mw_seq (mw_seq (mw_ops ?_))
 first | refine pm ?_ | refine pq ?_
 refine po_len (n:=vs.length) rfl rfl (vK_len _) ?_
 refine po_b rfl rfl (fun b60 hb60 => ?_)
 refine po_nil ?_
 refine mw_cd (p:=(vs.length:Int) > 60) hb60 rfl (fun h60 _ => ?_) (fun h60 _ => ?_)
 ·have hF:tabB vs = false:=by unfold tabB; rw [decide_eq_false (by omega)]; rfl
  refine mw_seq (mw_ops ?_)
  repeat' (first | refine pm ?_ | refine pq ?_ | refine px ?_ | refine po_zero ?_ | refine po_nil ?_)
  rw [hF]
  exact mw_ret ⟨.inr rfl,_,rfl,rfl⟩
 refine mw_skip ?_
 refine mw_cut (fun s => tabB vs = true) ?_ ?_
 ·refine mw_seq (mw_ops ?_)
  first | refine pm ?_ | refine pq ?_
  refine po_len (n:=vs.length) rfl rfl (vK_len _) ?_
  repeat' (first | refine pm ?_ | refine pq ?_ | refine px ?_ | refine po_zero ?_ | refine po_nil ?_)
  refine mw_block ?_
  refine mw_while (TiI vs) vs.length ⟨0,Nat.zero_le _,rfl,⟨rfl,rfl,rfl,trivial⟩,rfl⟩ ?_
  rintro m tm bx nt live ⟨i,hi,rfl,ht,hall⟩
  obtain ⟨tm0,rfl⟩:=has_ups ht
  refine mw_seq (mw_ops ?_)
  refine po_b rfl rfl (fun b hb => ?_)
  refine po_nil ?_
  refine mw_seq ?_
  refine mw_cd (p:=(i:Int) < vs.length) hb rfl (fun h _ => ?_) (fun h _ => ?_)
  ·have hil:i < vs.length:=by omega
   have hg:=getD_at hil (.mk 0 0 0 [] [])
   have hno:=tabB_no hil
   rw [hg] at hno
   have hmem:=List.getElem_mem hil
   have hvk:=voki_fn (T:=T) (hT:=hT) hTab vs[i] (hw _ hmem) (hb' _ hmem)
   refine mw_skip ?_
   refine mw_seq (mw_block (mw_seq (mw_ops ?_)))
   first | refine pm ?_ | refine pq ?_
   refine po_ix (es:=vK vs) (e:=vC vs[i]) rfl rfl rfl ⟨by omega,by rw [Int.toNat_natCast]; exact vK_get hil⟩ rfl ?_
   refine po_q (v:=.ag (vC vs[i])) rfl rfl ?_
   refine po_nw2 (cs1:=[pI i]) (cs2:=vC vs[i]) rfl rfl rfl rfl rfl rfl rfl rfl rfl ?_
   refine po_nil ?_
   have hb1:(bx ++ [[pI i]] ++ [vC vs[i]])[bx.length + 1]? = some (vC vs[i]):=by
    have:=gl_last (bx ++ [[pI i]]) (vC vs[i])
    rwa [show (bx ++ [[pI i]]).length = bx.length + 1 by simp] at this
   have hb0:(bx ++ [[pI i]] ++ [vC vs[i]])[bx.length]? = some [pI i]:=getE_app (gl_last _ _)
   refine mw_seq (mw_seq (mw_ops ?_))
   refine po_ldx (cs:=vC vs[i]) (v:=.ag (vC vs[i])) rfl rfl hb1 (Nat.le_of_ble_eq_true rfl) rfl ?_
   refine po_call (vC_arg vs[i]) hvk ?_
   repeat' (first | refine pm ?_ | refine pq ?_ | refine px ?_ | refine po_zero ?_ | refine po_nil ?_)
   cases hv:vs[i].ok with
   | false =>
    have hF:=hno (by rw [hv]; rfl)
    refine mwT ?_
    refine mw_seq (mw_ops ?_)
    repeat' (first | refine pm ?_ | refine pq ?_ | refine px ?_ | refine po_zero ?_ | refine po_nil ?_)
    rw [hF]
    exact mw_ret ⟨.inr rfl,_,rfl,rfl⟩
   | true =>
   refine mwF ?_
   refine mw_skip ?_
   refine mw_seq (mw_ops ?_)
   refine po_nw (cs:=[pB true]) rfl rfl rfl rfl ?_
   refine po_nil ?_
   refine mw_seq (mw_ops ?_)
   refine po_ldx (cs:=vC vs[i]) (v:=.ag (vC vs[i])) rfl rfl (getE_app hb1) (Nat.le_of_ble_eq_true rfl) rfl ?_
   first | refine pm ?_ | refine pq ?_
   have hP:=gl_last (bx ++ [[pI i]] ++ [vC vs[i]]) [pB true]
   refine po_g rfl (walk_g vs[i].nodes vs[i] i true (bx ++ [[pI i]] ++ [vC vs[i]] ++ [[pB true]]) (bx ++ [[pI i]] ++ [vC vs[i]]).length bx.length nt live (Nat.le_refl _) hv hP (getE_app hb0) (by simp)) ?_
   rintro y b4 n4 l4 ⟨hB4,rfl,rfl⟩
   refine po_nil ?_
   rw [ahW_ahead i _ vs[i] (Nat.le_refl _) hv,Bool.true_and] at hB4
   refine mw_seq (mw_ops ?_)
   refine po_ldx (cs:=[pB (vs[i].ahead i)]) (v:=.d (pB (vs[i].ahead i))) rfl rfl (hB4.at hP) (Nat.le_of_ble_eq_true rfl) rfl ?_
   repeat' (first | refine pm ?_ | refine pq ?_ | refine px ?_ | refine po_zero ?_ | refine po_nil ?_)
   refine mw_cond (t:=!vs[i].ahead i) rfl (fun hc => ?_) (fun hc => ?_)
   ·have hF:=hno (by rw [hv]; simpa using hc)
    refine mw_seq (mw_ops ?_)
    repeat' (first | refine pm ?_ | refine pq ?_ | refine px ?_ | refine po_zero ?_ | refine po_nil ?_)
    rw [hF]
    exact mw_ret ⟨.inr rfl,_,rfl,rfl⟩
   ·refine mw_skip ?_
    refine mw_ops ?_
    refine po_add (n:=((i + 1:Nat):Int)) rfl rfl rfl (by omega) (by omega) ?_
    repeat' (first | refine pm ?_ | refine pq ?_ | refine px ?_ | refine po_zero ?_ | refine po_nil ?_)
    exact ⟨vs.length - (i + 1),by omega,i + 1,hil,rfl,⟨rfl,rfl,rfl,trivial⟩,allN_succ hall (by rw [hg,hv]; simpa using hc)⟩
  ·refine mw_exit ?_
   have:i = vs.length:=by omega
   subst this
   show tabB vs = true
   unfold tabB
   rw [hall,decide_eq_true (by omega)]; rfl
 intro tm bx nt live hF
 refine mw_seq (mw_ops ?_)
 repeat' (first | refine pm ?_ | refine pq ?_ | refine px ?_ | refine po_zero ?_ | refine po_nil ?_)
 rw [hF]
 exact mw_ret ⟨.inr rfl,_,rfl,rfl⟩
end
/- PvH1M -/
section
set_option maxRecDepth 100000
def m_i_PutMsg:M:=.seq (.ops [qo 1 (.box (.t 0)),
 ⟨some 2,.mv (.c (.string ⟨[].toArray⟩)),none,[]⟩])
 (.seq (.seq (.ops [qo 4 (.load true 5 (.t 1)),
 ⟨some 5,.call 87 [.t 4],none,[.f 1]⟩,
 qo 6 (.not (.t 5))])
 (.cond (.t 6) (.seq (.ops [⟨some 2,.mv (.c (.string ⟨[].toArray⟩)),none,[]⟩])
 (.ret))
 (.skip)))
 (.seq (.ops [qo 3 (.zbld 152 5)])
 (.seq (.ops [qo 7 (.load true 5 (.t 1)),
 ⟨some 8,.call 133 [.t 3,.t 7],none,[.f 1]⟩])
 (.seq (.ops [⟨some 9,.call 134 [.t 3],none,[.f 1]⟩,
 qo 2 (.mv (.t 9))])
 (.ret)))))
theorem lk_i_PutMsg:look Tryz.prog 128 = some (10,m_i_PutMsg,[.tm 2]):=by kernel_rfl
def m_i_putMsg:M:=.seq (.ops [qo 3 (.box (.t 1))])
 (.seq (.seq (.ops [qo 6 (.fld 0 (.t 3)),
 qo 7 (.load false 1 (.t 6))])
 (.block 0 (.seq (.ops [qo 9 (.bin .eql false (.t 7) (ci 0)),
 qo 8 (.mv (.t 9))])
 (.cond (.t 8) (.ops [qo 10 (.mv (.t 0)),
 ⟨some 11,.call 179 [.t 10,.c (.int .u8 192)],none,[.f 1]⟩])
 (.seq (.ops [qo 13 (.bin .eql false (.t 7) (ci 1)),
 qo 12 (.mv (.t 13))])
 (.cond (.t 12) (.ops [qo 14 (.mv (.t 0)),
 ⟨some 15,.call 179 [.t 14,.c (.int .u8 194)],none,[.f 1]⟩])
 (.seq (.ops [qo 17 (.bin .eql false (.t 7) (ci 2)),
 qo 16 (.mv (.t 17))])
 (.cond (.t 16) (.ops [qo 18 (.mv (.t 0)),
 ⟨some 19,.call 179 [.t 18,.c (.int .u8 195)],none,[.f 1]⟩])
 (.seq (.ops [qo 21 (.bin .eql false (.t 7) (ci 3)),
 qo 20 (.mv (.t 21))])
 (.cond (.t 20) (.ops [qo 22 (.mv (.t 0)),
 qo 23 (.fld 1 (.t 3)),
 qo 24 (.load false 1 (.t 23)),
 ⟨some 25,.call 180 [.t 24],none,[.f 1]⟩,
 ⟨some 26,.call 131 [.t 22,.t 25],none,[.f 1]⟩])
 (.seq (.ops [qo 28 (.bin .eql false (.t 7) (ci 5)),
 qo 27 (.mv (.t 28))])
 (.cond (.t 27) (.ops [qo 29 (.mv (.t 0)),
 qo 30 (.fld 3 (.t 3)),
 qo 31 (.load false 1 (.t 30)),
 qo 32 (.lens (.t 31)),
 qo 34 (.fld 3 (.t 3)),
 qo 35 (.load false 1 (.t 34)),
 ⟨some 33,.call 181 [.t 32,ci 160,ci 32,ci 217,ci 218],none,[.f 0,.t 34]⟩,
 qo 36 (.bin .add false (.t 33) (.t 35)),
 ⟨some 37,.call 131 [.t 29,.t 36],none,[.f 0]⟩])
 (.seq (.ops [qo 39 (.bin .eql false (.t 7) (ci 6)),
 qo 38 (.mv (.t 39))])
 (.cond (.t 38) (.ops [qo 40 (.mv (.t 0)),
 qo 41 (.fld 3 (.t 3)),
 qo 42 (.load false 1 (.t 41)),
 qo 43 (.lens (.t 42)),
 qo 45 (.fld 3 (.t 3)),
 qo 46 (.load false 1 (.t 45)),
 ⟨some 44,.call 181 [.t 43,ci 0,ci 0,ci 196,ci 197],none,[.f 0,.t 45]⟩,
 qo 47 (.bin .add false (.t 44) (.t 46)),
 ⟨some 48,.call 131 [.t 40,.t 47],none,[.f 0]⟩])
 (.seq (.ops [qo 50 (.bin .eql false (.t 7) (ci 7)),
 qo 49 (.mv (.t 50))])
 (.cond (.t 49) (.ops [qo 51 (.mv (.t 0)),
 qo 52 (.fld 4 (.t 3)),
 qo 53 (.load false 1 (.t 52)),
 qo 54 (.len (.t 53)),
 ⟨some 55,.call 181 [.t 54,ci 144,ci 16,ci 0,ci 220],none,[.f 1]⟩,
 ⟨some 56,.call 131 [.t 51,.t 55],none,[.f 1]⟩])
 (.seq (.ops [qo 58 (.bin .eql false (.t 7) (ci 8)),
 qo 57 (.mv (.t 58))])
 (.cond (.t 57) (.ops [qo 59 (.mv (.t 0)),
 qo 60 (.fld 4 (.t 3)),
 qo 61 (.load false 1 (.t 60)),
 qo 62 (.len (.t 61)),
 qo 63 (.bin .quo false (.t 62) (ci 2)),
 ⟨some 64,.call 181 [.t 63,ci 128,ci 16,ci 0,ci 222],none,[.f 1]⟩,
 ⟨some 65,.call 131 [.t 59,.t 64],none,[.f 1]⟩])
 (.seq (.ops [qo 67 (.bin .eql false (.t 7) (ci 4)),
 qo 66 (.mv (.t 67))])
 (.cond (.t 66) (.tree (.node [qo 68 (.mv (.t 0)),
 qo 71 (.fld 2 (.t 3)),
 qo 72 (.load false 1 (.t 71)),
 qo 75 (.fld 1 (.t 3)),
 qo 76 (.load false 1 (.t 75))] (.alt (qo 69 (.lit 1 [.c (.int .u8 199),.c (.int .u8 9),.c (.int .u8 4)])) (.node [qo 70 (.b2s (.t 69))] (.alt ⟨some 73,.call 178 [.t 72,ci 1],none,[.f 0,.t 75]⟩ (.node [qo 74 (.bin .add false (.t 70) (.t 73))] (.alt ⟨some 77,.call 178 [.t 76,ci 8],none,[.f 0]⟩ (.node [qo 78 (.bin .add false (.t 74) (.t 77))] (.alt ⟨some 79,.call 131 [.t 68,.t 78],none,[.f 0]⟩ (.node [] (.leaf))
 (.leaf)))
 (.leaf)))
 (.leaf)))
 (.alt ⟨some 73,.call 178 [.t 72,ci 1],none,[.f 0,.t 75]⟩ (.node [] (.alt (qo 69 (.lit 1 [.c (.int .u8 199),.c (.int .u8 9),.c (.int .u8 4)])) (.node [qo 70 (.b2s (.t 69)),
 qo 74 (.bin .add false (.t 70) (.t 73))] (.alt ⟨some 77,.call 178 [.t 76,ci 8],none,[.f 0]⟩ (.node [qo 78 (.bin .add false (.t 74) (.t 77))] (.alt ⟨some 79,.call 131 [.t 68,.t 78],none,[.f 0]⟩ (.node [] (.leaf))
 (.leaf)))
 (.leaf)))
 (.alt ⟨some 77,.call 178 [.t 76,ci 8],none,[.f 0]⟩ (.node [] (.alt (qo 69 (.lit 1 [.c (.int .u8 199),.c (.int .u8 9),.c (.int .u8 4)])) (.node [qo 70 (.b2s (.t 69)),
 qo 74 (.bin .add false (.t 70) (.t 73)),
 qo 78 (.bin .add false (.t 74) (.t 77))] (.alt ⟨some 79,.call 131 [.t 68,.t 78],none,[.f 0]⟩ (.node [] (.leaf))
 (.leaf)))
 (.leaf)))
 (.leaf))))
 (.leaf)))))
 (.seq (.ops [qo 81 (.bin .eql false (.t 7) (ci 9)),
 qo 80 (.mv (.t 81))])
 (.cond (.t 80) (.tree (.node [qo 82 (.mv (.t 0)),
 qo 85 (.fld 1 (.t 3)),
 qo 86 (.load false 1 (.t 85))] (.alt (qo 83 (.lit 1 [.c (.int .u8 199),.c (.int .u8 4),.c (.int .u8 6)])) (.node [qo 84 (.b2s (.t 83))] (.alt ⟨some 87,.call 178 [.t 86,ci 4],none,[.f 0]⟩ (.node [qo 88 (.bin .add false (.t 84) (.t 87))] (.alt ⟨some 89,.call 131 [.t 82,.t 88],none,[.f 0]⟩ (.node [] (.leaf))
 (.leaf)))
 (.leaf)))
 (.alt ⟨some 87,.call 178 [.t 86,ci 4],none,[.f 0]⟩ (.node [] (.alt (qo 83 (.lit 1 [.c (.int .u8 199),.c (.int .u8 4),.c (.int .u8 6)])) (.node [qo 84 (.b2s (.t 83)),
 qo 88 (.bin .add false (.t 84) (.t 87))] (.alt ⟨some 89,.call 131 [.t 82,.t 88],none,[.f 0]⟩ (.node [] (.leaf))
 (.leaf)))
 (.leaf)))
 (.leaf)))))
 (.skip)))))))))))))))))))))))
 (.seq (.ops [qo 90 (.fld 4 (.t 3)),
 qo 91 (.load false 1 (.t 90)),
 qo 92 (.len (.t 91)),
 qo 93 (.mv (ci 0))])
 (.block 1 (.loop (.seq (.ops [qo 94 (.bin .lss false (.t 93) (.t 92))])
 (.seq (.cond (.t 94) (.skip)
 (.exit 1))
 (.seq (.block 2 (.seq (.ops [qo 95 (.ix 5 (.t 91) (.t 93)),
 qo 96 (.load true 5 (.t 95)),
 ⟨some 5,.zero [.int .i64 0,.int .i64 0,.int .i64 0,.string ⟨[].toArray⟩,.slice none 0 0],none,[]⟩,
 ⟨none,.store 5 (.t 5) (.t 96),none,[]⟩])
 (.ops [qo 97 (.mv (.t 0)),
 qo 98 (.load true 5 (.t 5)),
 ⟨some 99,.call 133 [.t 97,.t 98],none,[.f 1]⟩])))
 (.ops [qo 100 (.bin .add false (.t 93) (ci 1)),
 qo 93 (.mv (.t 100))]))))))))
theorem lk_i_putMsg:look Tryz.prog 133 = some (101,m_i_putMsg,[]):=by kernel_rfl
def m_i_SignOf:M:=.seq (.ops [qo 4 (.mv (ci 0))])
 (.seq (.seq (.ops [qo 6 (.mv (.t 1)),
 ⟨some 7,.call 126 [.t 6,ci 1,ci 8],none,[.f 1]⟩,
 qo 8 (.not (.t 7))])
 (.cond (.t 8) (.seq (.ops [qo 9 (.mv (.t 0)),
 qo 4 (.mv (.t 9))])
 (.ret))
 (.skip)))
 (.seq (.ops [qo 10 (.mv (.t 1)),
 qo 11 (.bin .mul false (ci 8) (.t 10)),
 qo 12 (.bin .sub false (ci 64) (.t 11)),
 qo 5 (.mv (.t 12))])
 (.seq (.ops [qo 13 (.mv (.t 0)),
 qo 14 (.mv (.t 5)),
 qo 15 (.bin .shl false (.t 13) (.t 14)),
 qo 16 (.mv (.t 5)),
 qo 17 (.bin .shr false (.t 15) (.t 16)),
 qo 4 (.mv (.t 17))])
 (.ret))))
theorem lk_i_SignOf:look Tryz.prog 170 = some (18,m_i_SignOf,[.tm 4]):=by kernel_rfl
def m_i_putNumber:M:=.seq (.ops [⟨some 2,.mv (.c (.string ⟨[].toArray⟩)),none,[]⟩])
 (.seq (.seq (.ops [qo 5 (.mv (.t 0)),
 ⟨some 6,.call 126 [.t 5,ci (-32),ci 127],none,[.f 1]⟩])
 (.cond (.t 6) (.seq (.ops [qo 7 (.mv (.t 0)),
 ⟨some 8,.call 178 [.t 7,ci 1],none,[.f 1]⟩,
 qo 2 (.mv (.t 8))])
 (.ret))
 (.skip)))
 (.seq (.seq (.ops [qo 9 (.lit 1 [ci 1,ci 2,ci 4,ci 8]),
 qo 10 (.len (.t 9)),
 qo 11 (.mv (ci 0))])
 (.block 0 (.loop (.seq (.ops [qo 12 (.bin .lss false (.t 11) (.t 10))])
 (.seq (.cond (.t 12) (.skip)
 (.exit 0))
 (.seq (.block 1 (.seq (.ops [qo 13 (.mv (.t 11)),
 qo 14 (.ix 1 (.t 9) (.t 11)),
 qo 15 (.load false 1 (.t 14)),
 qo 3 (.mv (.t 13)),
 qo 4 (.mv (.t 15))])
 (.block 2 (.seq (.ops [qo 17 (.mv (.t 0)),
 qo 18 (.bin .geq false (.t 17) (ci 0)),
 qo 19 (.mv (.t 18)),
 ⟨some 20,.mv (.t 4),some (19,true),[]⟩,
 ⟨some 21,.bin .eql false (.t 20) (ci 8),some (19,true),[]⟩,
 ⟨some 22,.mv (.t 21),some (19,true),[]⟩,
 ⟨some 23,.mv (.t 0),some (22,false),[]⟩,
 ⟨some 24,.mv (.t 4),some (22,false),[]⟩,
 ⟨some 25,.bin .mul false (ci 8) (.t 24),some (22,false),[]⟩,
 ⟨some 26,.bin .shl false (ci 1) (.t 25),some (22,false),[]⟩,
 ⟨some 27,.bin .lss false (.t 23) (.t 26),some (22,false),[]⟩,
 ⟨some 28,.pick (.t 22) (.c (.bool true)) (.t 27),some (19,true),[]⟩,
 qo 29 (.pick (.t 19) (.t 28) (.c (.bool false))),
 qo 16 (.mv (.t 29))])
 (.cond (.t 16) (.seq (.tree (.node [qo 30 (.mv (.t 3)),
 qo 31 (.bin .add false (ci 204) (.t 30)),
 qo 32 (.conv .u8 (.t 31)),
 qo 35 (.mv (.t 0)),
 qo 36 (.mv (.t 4))] (.alt (qo 33 (.lit 1 [.t 32])) (.node [qo 34 (.b2s (.t 33))] (.alt ⟨some 37,.call 178 [.t 35,.t 36],none,[.f 0]⟩ (.node [qo 38 (.bin .add false (.t 34) (.t 37)),
 qo 2 (.mv (.t 38))] (.leaf))
 (.leaf)))
 (.alt ⟨some 37,.call 178 [.t 35,.t 36],none,[.f 0]⟩ (.node [] (.alt (qo 33 (.lit 1 [.t 32])) (.node [qo 34 (.b2s (.t 33)),
 qo 38 (.bin .add false (.t 34) (.t 37)),
 qo 2 (.mv (.t 38))] (.leaf))
 (.leaf)))
 (.leaf)))))
 (.ret))
 (.seq (.ops [qo 40 (.mv (.t 0)),
 qo 41 (.bin .lss false (.t 40) (ci 0)),
 qo 42 (.mv (.t 41)),
 ⟨some 43,.mv (.t 0),some (42,true),[]⟩,
 ⟨some 44,.mv (.t 4),some (42,true),[]⟩,
 ⟨some 45,.call 170 [.t 43,.t 44],some (42,true),[.f 1]⟩,
 ⟨some 46,.mv (.t 0),some (42,true),[]⟩,
 ⟨some 47,.bin .eql false (.t 45) (.t 46),some (42,true),[]⟩,
 qo 48 (.pick (.t 42) (.t 47) (.c (.bool false))),
 qo 39 (.mv (.t 48))])
 (.cond (.t 39) (.seq (.tree (.node [qo 49 (.mv (.t 3)),
 qo 50 (.bin .add false (ci 208) (.t 49)),
 qo 51 (.conv .u8 (.t 50)),
 qo 54 (.mv (.t 0)),
 qo 55 (.mv (.t 4))] (.alt (qo 52 (.lit 1 [.t 51])) (.node [qo 53 (.b2s (.t 52))] (.alt ⟨some 56,.call 178 [.t 54,.t 55],none,[.f 0]⟩ (.node [qo 57 (.bin .add false (.t 53) (.t 56)),
 qo 2 (.mv (.t 57))] (.leaf))
 (.leaf)))
 (.alt ⟨some 56,.call 178 [.t 54,.t 55],none,[.f 0]⟩ (.node [] (.alt (qo 52 (.lit 1 [.t 51])) (.node [qo 53 (.b2s (.t 52)),
 qo 57 (.bin .add false (.t 53) (.t 56)),
 qo 2 (.mv (.t 57))] (.leaf))
 (.leaf)))
 (.leaf)))))
 (.ret))
 (.skip))))))))
 (.ops [qo 58 (.bin .add false (.t 11) (ci 1)),
 qo 11 (.mv (.t 58))])))))))
 (.seq (.ops [⟨some 2,.mv (.c (.string ⟨[].toArray⟩)),none,[]⟩])
 (.ret))))
theorem lk_i_putNumber:look Tryz.prog 180 = some (59,m_i_putNumber,[.tm 2]):=by kernel_rfl
def m_i_putLength:M:=.seq (.ops [⟨some 10,.mv (.c (.string ⟨[].toArray⟩)),none,[]⟩])
 (.seq (.block 0 (.seq (.ops [qo 12 (.mv (.t 0)),
 qo 13 (.mv (.t 2)),
 qo 14 (.bin .lss false (.t 12) (.t 13)),
 qo 11 (.mv (.t 14))])
 (.cond (.t 11) (.seq (.ops [qo 15 (.mv (.t 1)),
 qo 16 (.mv (.t 0)),
 qo 17 (.bin .add false (.t 15) (.t 16)),
 qo 18 (.conv .u8 (.t 17)),
 qo 19 (.lit 1 [.t 18]),
 qo 20 (.b2s (.t 19)),
 qo 10 (.mv (.t 20))])
 (.ret))
 (.seq (.ops [qo 22 (.mv (.t 0)),
 qo 23 (.bin .lss false (.t 22) (ci 256)),
 qo 24 (.mv (.t 23)),
 ⟨some 25,.mv (.t 3),some (24,true),[]⟩,
 ⟨some 26,.bin .gtr false (.t 25) (ci 0),some (24,true),[]⟩,
 qo 27 (.pick (.t 24) (.t 26) (.c (.bool false))),
 qo 21 (.mv (.t 27))])
 (.cond (.t 21) (.seq (.tree (.node [qo 28 (.mv (.t 3)),
 qo 29 (.conv .u8 (.t 28)),
 qo 32 (.mv (.t 0))] (.alt (qo 30 (.lit 1 [.t 29])) (.node [qo 31 (.b2s (.t 30))] (.alt ⟨some 33,.call 178 [.t 32,ci 1],none,[.f 0]⟩ (.node [qo 34 (.bin .add false (.t 31) (.t 33)),
 qo 10 (.mv (.t 34))] (.leaf))
 (.leaf)))
 (.alt ⟨some 33,.call 178 [.t 32,ci 1],none,[.f 0]⟩ (.node [] (.alt (qo 30 (.lit 1 [.t 29])) (.node [qo 31 (.b2s (.t 30)),
 qo 34 (.bin .add false (.t 31) (.t 33)),
 qo 10 (.mv (.t 34))] (.leaf))
 (.leaf)))
 (.leaf)))))
 (.ret))
 (.skip))))))
 (.seq (.tree (.node [qo 35 (.mv (.t 4)),
 qo 36 (.conv .u8 (.t 35)),
 qo 39 (.mv (.t 0))] (.alt (qo 37 (.lit 1 [.t 36])) (.node [qo 38 (.b2s (.t 37))] (.alt ⟨some 40,.call 178 [.t 39,ci 2],none,[.f 0]⟩ (.node [qo 41 (.bin .add false (.t 38) (.t 40)),
 qo 10 (.mv (.t 41))] (.leaf))
 (.leaf)))
 (.alt ⟨some 40,.call 178 [.t 39,ci 2],none,[.f 0]⟩ (.node [] (.alt (qo 37 (.lit 1 [.t 36])) (.node [qo 38 (.b2s (.t 37)),
 qo 41 (.bin .add false (.t 38) (.t 40)),
 qo 10 (.mv (.t 41))] (.leaf))
 (.leaf)))
 (.leaf)))))
 (.ret)))
theorem lk_i_putLength:look Tryz.prog 181 = some (42,m_i_putLength,[.tm 10]):=by kernel_rfl
end
/- PvH1 -/
section
open Go.RowKit
variable {T:World -> Prop} {hT:Low ngl T}
attribute [local irreducible] po mw pt
theorem pS_inv {C:Cx} {W:World} {l:List UInt8} {y:Value} (h:RpV C W (.d (pS l)) y):y = .string ⟨l.toArray⟩:=by
 cases h with
 | d _ _ h => cases h; rfl
theorem within_fn (n a b:Int):FnV (env T hT) 126 [.d (pI n),.d (pI a),.d (pI b)] (.d (pB (decide (a <= n /\ n <= b)))):=by
 refine FnV.old rfl fun w C vs hF _ _ hlen hv => ?_
 match vs,hlen with
 | [x,y,z],_ =>
  have h1:=pI_inv (hv 0 _ _ rfl rfl); have h2:=pI_inv (hv 1 _ _ rfl rfl); have h3:=pI_inv (hv 2 _ _ rfl rfl)
  subst h1; subst h2; subst h3
  refine (within_any n a b w).mono ?_
  rintro e w' ⟨rfl,rfl⟩
  refine ⟨?_,Below.refl _ _⟩
  by_cases h:a <= n /\ n <= b
  ·rw [inR_yes h,decide_eq_true h]
  ·rw [inR_no h,decide_eq_false h]
theorem putw_fn (n k:Int) (hk:1 <= k /\ k <= 8) (hn:i64ok n):FnV (env T hT) 178 [.d (pI n),.d (pI k)] (.d (pS (be k.toNat (lo64 n)))):=by
 refine FnV.old rfl fun w C vs hF _ _ hlen hv => ?_
 match vs,hlen with
 | [x,y],_ =>
  have h1:=pI_inv (hv 0 _ _ rfl rfl); have h2:=pI_inv (hv 1 _ _ rfl rfl)
  subst h1; subst h2
  exact putWide_i n k w hk hn
theorem po_shl {E:Env} {K:St -> Prop} {tm:Nat -> PV} {bx:List (List PC)} {nt d:Nat} {live:List Nat} {r:List MOpr} {g:Option (Nat × Bool)} {c:List X} {x y:X} {a b n:Int} (hg:gd g tm = some true) (hx:ev tm x = .d (pI a)) (hy:ev tm y = .d (pI b)) (hb:0 <= b) (hn:IntKind.wrap .i64 (a * 2 ^ (min b.toNat 64)) = n) (h:po E r K ⟨up d (.d (pI n)) tm,bx,nt,live⟩):po E (⟨some d,.bin .shl false x y,g,c⟩ :: r) K ⟨tm,bx,nt,live⟩:=by
 refine po_q hg ?_ h
 subst hn
 simp only [qf,hx,hy,pI]
 show Option.map _ (if b < 0 then none else some (Value.int .i64 (IntKind.wrap .i64 (a * 2 ^ (min b.toNat 64))))) = _
 rw [if_neg (by omega)]; rfl
theorem fdiv_pos (a:Int) (b:Int) (hb:0 < b):a.fdiv b = a / b:=Int.fdiv_eq_ediv_of_nonneg a (by omega)
theorem shsh (n:Int) (k:Nat) (hk:1 <= k /\ k <= 8) (hn:i64ok n):(IntKind.wrap .i64 (n * 2 ^ (min (64 - 8 * (k:Int)).toNat IntKind.i64.bits))).fdiv (2 ^ (min (64 - 8 * (k:Int)).toNat IntKind.i64.bits)) = sgw n k:=by
 have hb:IntKind.i64.bits = 64:=rfl
 obtain ⟨hn1,hn2⟩:=hn
 have hc:k = 1 \/ k = 2 \/ k = 3 \/ k = 4 \/ k = 5 \/ k = 6 \/ k = 7 \/ k = 8:=by omega
 rw [hb]
 rcases hc with rfl | rfl | rfl | rfl | rfl | rfl | rfl | rfl
 ·rw [show (2:Int) ^ (min (64 - 8 * ((1:Nat):Int)).toNat 64) = 72057594037927936 from rfl,fdiv_pos _ _ (by decide),IntKind.wrap_i64]
  unfold sgw
  rw [if_pos (by decide),show ((256 ^ 1:Nat):Int) = 256 from rfl,show ((256 ^ 1 / 2:Nat):Int) = 128 from rfl]
  split <;> omega
 ·rw [show (2:Int) ^ (min (64 - 8 * ((2:Nat):Int)).toNat 64) = 281474976710656 from rfl,fdiv_pos _ _ (by decide),IntKind.wrap_i64]
  unfold sgw
  rw [if_pos (by decide),show ((256 ^ 2:Nat):Int) = 65536 from rfl,show ((256 ^ 2 / 2:Nat):Int) = 32768 from rfl]
  split <;> omega
 ·rw [show (2:Int) ^ (min (64 - 8 * ((3:Nat):Int)).toNat 64) = 1099511627776 from rfl,fdiv_pos _ _ (by decide),IntKind.wrap_i64]
  unfold sgw
  rw [if_pos (by decide),show ((256 ^ 3:Nat):Int) = 16777216 from rfl,show ((256 ^ 3 / 2:Nat):Int) = 8388608 from rfl]
  split <;> omega
 ·rw [show (2:Int) ^ (min (64 - 8 * ((4:Nat):Int)).toNat 64) = 4294967296 from rfl,fdiv_pos _ _ (by decide),IntKind.wrap_i64]
  unfold sgw
  rw [if_pos (by decide),show ((256 ^ 4:Nat):Int) = 4294967296 from rfl,show ((256 ^ 4 / 2:Nat):Int) = 2147483648 from rfl]
  split <;> omega
 ·rw [show (2:Int) ^ (min (64 - 8 * ((5:Nat):Int)).toNat 64) = 16777216 from rfl,fdiv_pos _ _ (by decide),IntKind.wrap_i64]
  unfold sgw
  rw [if_pos (by decide),show ((256 ^ 5:Nat):Int) = 1099511627776 from rfl,show ((256 ^ 5 / 2:Nat):Int) = 549755813888 from rfl]
  split <;> omega
 ·rw [show (2:Int) ^ (min (64 - 8 * ((6:Nat):Int)).toNat 64) = 65536 from rfl,fdiv_pos _ _ (by decide),IntKind.wrap_i64]
  unfold sgw
  rw [if_pos (by decide),show ((256 ^ 6:Nat):Int) = 281474976710656 from rfl,show ((256 ^ 6 / 2:Nat):Int) = 140737488355328 from rfl]
  split <;> omega
 ·rw [show (2:Int) ^ (min (64 - 8 * ((7:Nat):Int)).toNat 64) = 256 from rfl,fdiv_pos _ _ (by decide),IntKind.wrap_i64]
  unfold sgw
  rw [if_pos (by decide),show ((256 ^ 7:Nat):Int) = 72057594037927936 from rfl,show ((256 ^ 7 / 2:Nat):Int) = 36028797018963968 from rfl]
  split <;> omega
 ·rw [show (2:Int) ^ (min (64 - 8 * ((8:Nat):Int)).toNat 64) = 1 from rfl,fdiv_pos _ _ (by decide),IntKind.wrap_i64]
  unfold sgw
  rw [if_neg (by decide)]; omega
theorem sgni_fn (n:Int) (k:Nat) (hk:1 <= k /\ k <= 8) (hn:i64ok n):FnV (env T hT) 170 [.d (pI n),.d (pI k)] (.d (pI (sgw n k))):=by
 refine fn_of (look_env lk_i_SignOf) (by show 2 <= 18; decide) fun B hB => ?_
 unfold m_i_SignOf
 refine mw_seq (mw_ops ?_)
 repeat' (first | refine pm ?_ | refine pq ?_ | refine px ?_ | refine po_zero ?_ | refine po_nil ?_)
 refine mw_seq (mw_seq (mw_ops ?_))
 repeat' (first | refine pm ?_ | refine pq ?_ | refine px ?_ | refine po_zero ?_ | refine po_nil ?_)
 refine po_call rfl (within_fn k 1 8) ?_
 rw [decide_eq_true (show (1:Int) <= k /\ (k:Int) <= 8 by omega)]
 repeat' (first | refine pm ?_ | refine pq ?_ | refine px ?_ | refine po_zero ?_ | refine po_nil ?_)
 refine mwF ?_
 refine mw_skip ?_
 refine mw_seq (mw_ops ?_)
 first | refine pm ?_ | refine pq ?_
 refine po_mul (n:=8 * (k:Int)) rfl rfl rfl rfl (by omega) ?_
 refine po_sub (n:=64 - 8 * (k:Int)) rfl rfl rfl rfl (by omega) ?_
 repeat' (first | refine pm ?_ | refine pq ?_ | refine px ?_ | refine po_zero ?_ | refine po_nil ?_)
 refine mw_seq (mw_ops ?_)
 iterate 2 (first | refine pm ?_ | refine pq ?_)
 refine po_q (v:=.d (pI (IntKind.wrap .i64 (n * 2 ^ (min (64 - 8 * (k:Int)).toNat IntKind.i64.bits))))) rfl (by
  show Option.map _ (if 64 - 8 * (k:Int) < 0 then none else some (Value.int .i64 (IntKind.wrap .i64 (n * 2 ^ (min (64 - 8 * (k:Int)).toNat IntKind.i64.bits))))) = _
  rw [if_neg (by omega)]; rfl) ?_
 first | refine pm ?_ | refine pq ?_
 refine po_q (v:=.d (pI (sgw n k))) rfl (by
  show Option.map _ (if 64 - 8 * (k:Int) < 0 then none else some (Value.int .i64 ((IntKind.wrap .i64 (n * 2 ^ (min (64 - 8 * (k:Int)).toNat IntKind.i64.bits))).fdiv (2 ^ (min (64 - 8 * (k:Int)).toNat IntKind.i64.bits))))) = _
  rw [if_neg (by omega),shsh n k hk hn]; rfl) ?_
 repeat' (first | refine pm ?_ | refine pq ?_ | refine px ?_ | refine po_zero ?_ | refine po_nil ?_)
 exact mw_ret ⟨.inr rfl,_,rfl,rfl⟩
def pnP:Nat -> Int
 | 0 => 128 | 1 => 256 | 2 => 65536 | _ => 4294967296
def pnN:Nat -> Int
 | 0 => -32 | 1 => -128 | 2 => -32768 | _ => -2147483648
def PnI (n:Int) (m:Nat) (s:St):Prop:=∃ i:Nat,i <= 3 /\ m = 4 - i /\ (0 <= n -> pnP i <= n) /\ (n < 0 -> n < pnN i) /\ has s.tm [(0,.d (pI n)),(9,.d (.sl 2 [[pI 1],[pI 2],[pI 4],[pI 8]])),(10,.d (pI 4)),(11,.d (pI i))]
set_option maxHeartbeats 1000000 in
theorem putNum_fn (n:Int) (hn:i64ok n):FnV (env T hT) 180 [.d (pI n)] (.d (pS (msgInt n))):=by
 have hput:=fun (k:Int) (hk:1 <= k /\ k <= 8) => putw_fn (T:=T) (hT:=hT) n k hk hn
 have hsg:=fun (k:Nat) (hk:1 <= k /\ k <= 8) => sgni_fn (T:=T) (hT:=hT) n k hk hn
 obtain ⟨hn1,hn2⟩:=hn
 refine fn_of (look_env lk_i_putNumber) (by show 1 <= 59; decide) fun B hB => ?_
 unfold m_i_putNumber
 refine mw_seq (mw_ops ?_)
 repeat' (first | refine pm ?_ | refine pq ?_ | refine px ?_ | refine po_zero ?_ | refine po_nil ?_)
 refine mw_seq (mw_seq (mw_ops ?_))
 repeat' (first | refine pm ?_ | refine pq ?_ | refine px ?_ | refine po_zero ?_ | refine po_nil ?_)
 refine po_call rfl (within_fn n (-32) 127) ?_
 refine po_nil ?_
 refine mw_cd0 (p:=-32 <= n /\ n <= 127) rfl (fun h => ?_) (fun h => ?_)
 ·refine mw_seq (mw_ops ?_)
  repeat' (first | refine pm ?_ | refine pq ?_ | refine px ?_ | refine po_zero ?_ | refine po_nil ?_)
  refine po_call rfl (hput 1 (by omega)) ?_
  repeat' (first | refine pm ?_ | refine pq ?_ | refine px ?_ | refine po_zero ?_ | refine po_nil ?_)
  exact mw_ret ⟨.inr rfl,_,rfl,by unfold msgInt; rw [if_pos h]; rfl⟩
 refine mw_skip ?_
 refine mw_seq (mw_seq (mw_ops ?_))
 refine po_lit (es:=[[pI 1],[pI 2],[pI 4],[pI 8]]) rfl ?_
 refine po_len (n:=4) rfl rfl rfl ?_
 repeat' (first | refine pm ?_ | refine pq ?_ | refine px ?_ | refine po_zero ?_ | refine po_nil ?_)
 refine mw_block ?_
 refine mw_while (PnI n) 4 ⟨0,by omega,rfl,fun h => by simp only [pnP]; omega,fun h => by simp only [pnN]; omega,rfl,rfl,rfl,rfl,trivial⟩ ?_
 rintro m tm bx nt live ⟨i,hi,rfl,hp,hq,ht⟩
 obtain ⟨tm0,rfl⟩:=has_ups ht
 clear ht
 have hc:i = 0 \/ i = 1 \/ i = 2 \/ i = 3:=by omega
 rcases hc with rfl | rfl | rfl | rfl
 ·simp only [pnP,pnN] at hp hq
  refine mw_seq (mw_ops ?_)
  refine po_yes rfl rfl rfl ?_
  refine po_nil ?_
  refine mw_seq ?_
  refine mwT ?_
  refine mw_skip ?_
  refine mw_seq (mw_block (mw_seq (mw_ops ?_)))
  first | refine pm ?_ | refine pq ?_
  refine po_ix (es:=[[pI 1],[pI 2],[pI 4],[pI 8]]) (e:=[pI 1]) rfl rfl rfl ⟨by decide,rfl⟩ rfl ?_
  repeat' (first | refine pm ?_ | refine pq ?_ | refine px ?_ | refine po_zero ?_ | refine po_nil ?_)
  refine mw_block (mw_seq (mw_ops ?_))
  first | refine pm ?_ | refine pq ?_
  by_cases h0:0 <= n
  ·have hp:=hp h0
   refine po_yes rfl rfl (decide_eq_true (show n ≥ 0 from h0)) ?_
   iterate 2 (first | refine pm ?_ | refine pq ?_)
   refine po_no rfl rfl rfl ?_
   iterate 3 (first | refine pm ?_ | refine pq ?_)
   refine po_mul (n:=8) rfl rfl rfl rfl (by decide) ?_
   refine po_shl (n:=256) rfl rfl rfl (by decide) (by decide) ?_
   by_cases hf:n < 256
   ·refine po_yes rfl rfl (decide_eq_true hf) ?_
    iterate 3 (first | refine pm ?_ | refine pq ?_)
    refine po_nil ?_
    refine mwT ?_
    have hres:msgInt n = [204] ++ be 1 (lo64 n):=by
     unfold msgInt
     repeat (first | rw [if_pos (by omega)] | rw [if_neg (by omega)])
    refine mw_seq (mw_tree ?_)
    refine pt_node ?_
    first | refine pm ?_ | refine pq ?_
    refine po_add (n:=204) rfl rfl rfl rfl (by decide) ?_
    refine po_cv (n:=204) rfl rfl (by decide) ?_
    first | refine pm ?_ | refine pq ?_
    first | refine pm ?_ | refine pq ?_
    refine po_nil ?_
    refine pt_more ?_
    refine pt_alt ?_ ?_
    ·refine po_lit (es:=[[.v (.int .u8 204)]]) rfl ?_
     refine po_nil ?_
     refine pt_node ?_
     first | refine pm ?_ | refine pq ?_
     refine po_nil ?_
     refine pt_more ?_
     refine pt_alt ?_ pt_leaf
     refine po_call rfl (hput 1 (by omega)) ?_
     refine po_nil ?_
     refine pt_node ?_
     refine po_cat (la:=[204]) (lb:=be 1 (lo64 n)) rfl rfl rfl (by rw [be_length]; simp) ?_
     first | refine pm ?_ | refine pq ?_
     refine po_nil ?_
     refine pt_last ?_
     refine mw_ret ⟨.inr rfl,[.d (pS ([204] ++ be 1 (lo64 n)))],rfl,?_⟩
     rw [hres]; rfl
    ·refine pt_alt ?_ pt_leaf
     refine po_call rfl (hput 1 (by omega)) ?_
     refine po_nil ?_
     refine pt_node ?_
     refine po_nil ?_
     refine pt_more ?_
     refine pt_alt ?_ pt_leaf
     refine po_lit (es:=[[.v (.int .u8 204)]]) rfl ?_
     refine po_nil ?_
     refine pt_node ?_
     first | refine pm ?_ | refine pq ?_
     refine po_cat (la:=[204]) (lb:=be 1 (lo64 n)) rfl rfl rfl (by rw [be_length]; simp) ?_
     first | refine pm ?_ | refine pq ?_
     refine po_nil ?_
     refine pt_last ?_
     refine mw_ret ⟨.inr rfl,[.d (pS ([204] ++ be 1 (lo64 n)))],rfl,?_⟩
     rw [hres]; rfl
   ·refine po_no rfl rfl (decide_eq_false hf) ?_
    iterate 3 (first | refine pm ?_ | refine pq ?_)
    refine po_nil ?_
    refine mwF ?_
    refine mw_seq (mw_ops ?_)
    first | refine pm ?_ | refine pq ?_
    refine po_no rfl rfl (decide_eq_false (show ¬ n < 0 by omega)) ?_
    first | refine pm ?_ | refine pq ?_
    iterate 5 (refine po_skip rfl ?_)
    iterate 2 (first | refine pm ?_ | refine pq ?_)
    refine po_nil ?_
    refine mwF ?_
    refine mw_skip ?_
    refine mw_ops ?_
    refine po_add (n:=1) rfl rfl rfl rfl (by decide) ?_
    repeat' (first | refine pm ?_ | refine pq ?_ | refine px ?_ | refine po_zero ?_ | refine po_nil ?_)
    exact ⟨3,by omega,1,by omega,rfl,fun _ => by simp only [pnP]; omega,fun h => by omega,rfl,rfl,rfl,rfl,trivial⟩
  ·have hq:=hq (by omega)
   refine po_no rfl rfl (decide_eq_false (show ¬ n ≥ 0 from h0)) ?_
   first | refine pm ?_ | refine pq ?_
   iterate 9 (refine po_skip rfl ?_)
   iterate 2 (first | refine pm ?_ | refine pq ?_)
   refine po_nil ?_
   refine mwF ?_
   refine mw_seq (mw_ops ?_)
   first | refine pm ?_ | refine pq ?_
   refine po_yes rfl rfl (decide_eq_true (show n < 0 by omega)) ?_
   iterate 3 (first | refine pm ?_ | refine pq ?_)
   refine po_gcall (b:=true) rfl (fun _ => rfl) (fun _ => hsg 1 (by omega)) ?_
   first | refine pm ?_ | refine pq ?_
   by_cases hf:sgw n 1 = n
   ·refine po_yes rfl rfl (decide_eq_true hf) ?_
    iterate 2 (first | refine pm ?_ | refine pq ?_)
    refine po_nil ?_
    refine mwT ?_
    have hres:msgInt n = [208] ++ be 1 (lo64 n):=by
     unfold sgw at hf
     rw [if_pos (by decide),show ((256 ^ 1:Nat):Int) = 256 from rfl,show ((256 ^ 1 / 2:Nat):Int) = 128 from rfl] at hf
     split at hf
     ·unfold msgInt
      repeat (first | rw [if_pos (by omega)] | rw [if_neg (by omega)])
     ·omega
    refine mw_seq (mw_tree ?_)
    refine pt_node ?_
    first | refine pm ?_ | refine pq ?_
    refine po_add (n:=208) rfl rfl rfl rfl (by decide) ?_
    refine po_cv (n:=208) rfl rfl (by decide) ?_
    first | refine pm ?_ | refine pq ?_
    first | refine pm ?_ | refine pq ?_
    refine po_nil ?_
    refine pt_more ?_
    refine pt_alt ?_ ?_
    ·refine po_lit (es:=[[.v (.int .u8 208)]]) rfl ?_
     refine po_nil ?_
     refine pt_node ?_
     first | refine pm ?_ | refine pq ?_
     refine po_nil ?_
     refine pt_more ?_
     refine pt_alt ?_ pt_leaf
     refine po_call rfl (hput 1 (by omega)) ?_
     refine po_nil ?_
     refine pt_node ?_
     refine po_cat (la:=[208]) (lb:=be 1 (lo64 n)) rfl rfl rfl (by rw [be_length]; simp) ?_
     first | refine pm ?_ | refine pq ?_
     refine po_nil ?_
     refine pt_last ?_
     refine mw_ret ⟨.inr rfl,[.d (pS ([208] ++ be 1 (lo64 n)))],rfl,?_⟩
     rw [hres]; rfl
    ·refine pt_alt ?_ pt_leaf
     refine po_call rfl (hput 1 (by omega)) ?_
     refine po_nil ?_
     refine pt_node ?_
     refine po_nil ?_
     refine pt_more ?_
     refine pt_alt ?_ pt_leaf
     refine po_lit (es:=[[.v (.int .u8 208)]]) rfl ?_
     refine po_nil ?_
     refine pt_node ?_
     first | refine pm ?_ | refine pq ?_
     refine po_cat (la:=[208]) (lb:=be 1 (lo64 n)) rfl rfl rfl (by rw [be_length]; simp) ?_
     first | refine pm ?_ | refine pq ?_
     refine po_nil ?_
     refine pt_last ?_
     refine mw_ret ⟨.inr rfl,[.d (pS ([208] ++ be 1 (lo64 n)))],rfl,?_⟩
     rw [hres]; rfl
   ·refine po_no rfl rfl (decide_eq_false hf) ?_
    iterate 2 (first | refine pm ?_ | refine pq ?_)
    refine po_nil ?_
    refine mwF ?_
    refine mw_skip ?_
    have hlow:n < -128:=by
     apply Decidable.byContradiction
     intro hlt
     apply hf
     unfold sgw
     rw [if_pos (by decide),show ((256 ^ 1:Nat):Int) = 256 from rfl,show ((256 ^ 1 / 2:Nat):Int) = 128 from rfl]
     split <;> omega
    refine mw_ops ?_
    refine po_add (n:=1) rfl rfl rfl rfl (by decide) ?_
    repeat' (first | refine pm ?_ | refine pq ?_ | refine px ?_ | refine po_zero ?_ | refine po_nil ?_)
    exact ⟨3,by omega,1,by omega,rfl,fun h => by omega,fun _ => by simp only [pnN]; omega,rfl,rfl,rfl,rfl,trivial⟩
 ·simp only [pnP,pnN] at hp hq
  refine mw_seq (mw_ops ?_)
  refine po_yes rfl rfl rfl ?_
  refine po_nil ?_
  refine mw_seq ?_
  refine mwT ?_
  refine mw_skip ?_
  refine mw_seq (mw_block (mw_seq (mw_ops ?_)))
  first | refine pm ?_ | refine pq ?_
  refine po_ix (es:=[[pI 1],[pI 2],[pI 4],[pI 8]]) (e:=[pI 2]) rfl rfl rfl ⟨by decide,rfl⟩ rfl ?_
  repeat' (first | refine pm ?_ | refine pq ?_ | refine px ?_ | refine po_zero ?_ | refine po_nil ?_)
  refine mw_block (mw_seq (mw_ops ?_))
  first | refine pm ?_ | refine pq ?_
  by_cases h0:0 <= n
  ·have hp:=hp h0
   refine po_yes rfl rfl (decide_eq_true (show n ≥ 0 from h0)) ?_
   iterate 2 (first | refine pm ?_ | refine pq ?_)
   refine po_no rfl rfl rfl ?_
   iterate 3 (first | refine pm ?_ | refine pq ?_)
   refine po_mul (n:=16) rfl rfl rfl rfl (by decide) ?_
   refine po_shl (n:=65536) rfl rfl rfl (by decide) (by decide) ?_
   by_cases hf:n < 65536
   ·refine po_yes rfl rfl (decide_eq_true hf) ?_
    iterate 3 (first | refine pm ?_ | refine pq ?_)
    refine po_nil ?_
    refine mwT ?_
    have hres:msgInt n = [205] ++ be 2 (lo64 n):=by
     unfold msgInt
     repeat (first | rw [if_pos (by omega)] | rw [if_neg (by omega)])
    refine mw_seq (mw_tree ?_)
    refine pt_node ?_
    first | refine pm ?_ | refine pq ?_
    refine po_add (n:=205) rfl rfl rfl rfl (by decide) ?_
    refine po_cv (n:=205) rfl rfl (by decide) ?_
    first | refine pm ?_ | refine pq ?_
    first | refine pm ?_ | refine pq ?_
    refine po_nil ?_
    refine pt_more ?_
    refine pt_alt ?_ ?_
    ·refine po_lit (es:=[[.v (.int .u8 205)]]) rfl ?_
     refine po_nil ?_
     refine pt_node ?_
     first | refine pm ?_ | refine pq ?_
     refine po_nil ?_
     refine pt_more ?_
     refine pt_alt ?_ pt_leaf
     refine po_call rfl (hput 2 (by omega)) ?_
     refine po_nil ?_
     refine pt_node ?_
     refine po_cat (la:=[205]) (lb:=be 2 (lo64 n)) rfl rfl rfl (by rw [be_length]; simp) ?_
     first | refine pm ?_ | refine pq ?_
     refine po_nil ?_
     refine pt_last ?_
     refine mw_ret ⟨.inr rfl,[.d (pS ([205] ++ be 2 (lo64 n)))],rfl,?_⟩
     rw [hres]; rfl
    ·refine pt_alt ?_ pt_leaf
     refine po_call rfl (hput 2 (by omega)) ?_
     refine po_nil ?_
     refine pt_node ?_
     refine po_nil ?_
     refine pt_more ?_
     refine pt_alt ?_ pt_leaf
     refine po_lit (es:=[[.v (.int .u8 205)]]) rfl ?_
     refine po_nil ?_
     refine pt_node ?_
     first | refine pm ?_ | refine pq ?_
     refine po_cat (la:=[205]) (lb:=be 2 (lo64 n)) rfl rfl rfl (by rw [be_length]; simp) ?_
     first | refine pm ?_ | refine pq ?_
     refine po_nil ?_
     refine pt_last ?_
     refine mw_ret ⟨.inr rfl,[.d (pS ([205] ++ be 2 (lo64 n)))],rfl,?_⟩
     rw [hres]; rfl
   ·refine po_no rfl rfl (decide_eq_false hf) ?_
    iterate 3 (first | refine pm ?_ | refine pq ?_)
    refine po_nil ?_
    refine mwF ?_
    refine mw_seq (mw_ops ?_)
    first | refine pm ?_ | refine pq ?_
    refine po_no rfl rfl (decide_eq_false (show ¬ n < 0 by omega)) ?_
    first | refine pm ?_ | refine pq ?_
    iterate 5 (refine po_skip rfl ?_)
    iterate 2 (first | refine pm ?_ | refine pq ?_)
    refine po_nil ?_
    refine mwF ?_
    refine mw_skip ?_
    refine mw_ops ?_
    refine po_add (n:=2) rfl rfl rfl rfl (by decide) ?_
    repeat' (first | refine pm ?_ | refine pq ?_ | refine px ?_ | refine po_zero ?_ | refine po_nil ?_)
    exact ⟨2,by omega,2,by omega,rfl,fun _ => by simp only [pnP]; omega,fun h => by omega,rfl,rfl,rfl,rfl,trivial⟩
  ·have hq:=hq (by omega)
   refine po_no rfl rfl (decide_eq_false (show ¬ n ≥ 0 from h0)) ?_
   first | refine pm ?_ | refine pq ?_
   iterate 9 (refine po_skip rfl ?_)
   iterate 2 (first | refine pm ?_ | refine pq ?_)
   refine po_nil ?_
   refine mwF ?_
   refine mw_seq (mw_ops ?_)
   first | refine pm ?_ | refine pq ?_
   refine po_yes rfl rfl (decide_eq_true (show n < 0 by omega)) ?_
   iterate 3 (first | refine pm ?_ | refine pq ?_)
   refine po_gcall (b:=true) rfl (fun _ => rfl) (fun _ => hsg 2 (by omega)) ?_
   first | refine pm ?_ | refine pq ?_
   by_cases hf:sgw n 2 = n
   ·refine po_yes rfl rfl (decide_eq_true hf) ?_
    iterate 2 (first | refine pm ?_ | refine pq ?_)
    refine po_nil ?_
    refine mwT ?_
    have hres:msgInt n = [209] ++ be 2 (lo64 n):=by
     unfold sgw at hf
     rw [if_pos (by decide),show ((256 ^ 2:Nat):Int) = 65536 from rfl,show ((256 ^ 2 / 2:Nat):Int) = 32768 from rfl] at hf
     split at hf
     ·unfold msgInt
      repeat (first | rw [if_pos (by omega)] | rw [if_neg (by omega)])
     ·omega
    refine mw_seq (mw_tree ?_)
    refine pt_node ?_
    first | refine pm ?_ | refine pq ?_
    refine po_add (n:=209) rfl rfl rfl rfl (by decide) ?_
    refine po_cv (n:=209) rfl rfl (by decide) ?_
    first | refine pm ?_ | refine pq ?_
    first | refine pm ?_ | refine pq ?_
    refine po_nil ?_
    refine pt_more ?_
    refine pt_alt ?_ ?_
    ·refine po_lit (es:=[[.v (.int .u8 209)]]) rfl ?_
     refine po_nil ?_
     refine pt_node ?_
     first | refine pm ?_ | refine pq ?_
     refine po_nil ?_
     refine pt_more ?_
     refine pt_alt ?_ pt_leaf
     refine po_call rfl (hput 2 (by omega)) ?_
     refine po_nil ?_
     refine pt_node ?_
     refine po_cat (la:=[209]) (lb:=be 2 (lo64 n)) rfl rfl rfl (by rw [be_length]; simp) ?_
     first | refine pm ?_ | refine pq ?_
     refine po_nil ?_
     refine pt_last ?_
     refine mw_ret ⟨.inr rfl,[.d (pS ([209] ++ be 2 (lo64 n)))],rfl,?_⟩
     rw [hres]; rfl
    ·refine pt_alt ?_ pt_leaf
     refine po_call rfl (hput 2 (by omega)) ?_
     refine po_nil ?_
     refine pt_node ?_
     refine po_nil ?_
     refine pt_more ?_
     refine pt_alt ?_ pt_leaf
     refine po_lit (es:=[[.v (.int .u8 209)]]) rfl ?_
     refine po_nil ?_
     refine pt_node ?_
     first | refine pm ?_ | refine pq ?_
     refine po_cat (la:=[209]) (lb:=be 2 (lo64 n)) rfl rfl rfl (by rw [be_length]; simp) ?_
     first | refine pm ?_ | refine pq ?_
     refine po_nil ?_
     refine pt_last ?_
     refine mw_ret ⟨.inr rfl,[.d (pS ([209] ++ be 2 (lo64 n)))],rfl,?_⟩
     rw [hres]; rfl
   ·refine po_no rfl rfl (decide_eq_false hf) ?_
    iterate 2 (first | refine pm ?_ | refine pq ?_)
    refine po_nil ?_
    refine mwF ?_
    refine mw_skip ?_
    have hlow:n < -32768:=by
     apply Decidable.byContradiction
     intro hlt
     apply hf
     unfold sgw
     rw [if_pos (by decide),show ((256 ^ 2:Nat):Int) = 65536 from rfl,show ((256 ^ 2 / 2:Nat):Int) = 32768 from rfl]
     split <;> omega
    refine mw_ops ?_
    refine po_add (n:=2) rfl rfl rfl rfl (by decide) ?_
    repeat' (first | refine pm ?_ | refine pq ?_ | refine px ?_ | refine po_zero ?_ | refine po_nil ?_)
    exact ⟨2,by omega,2,by omega,rfl,fun h => by omega,fun _ => by simp only [pnN]; omega,rfl,rfl,rfl,rfl,trivial⟩
 ·simp only [pnP,pnN] at hp hq
  refine mw_seq (mw_ops ?_)
  refine po_yes rfl rfl rfl ?_
  refine po_nil ?_
  refine mw_seq ?_
  refine mwT ?_
  refine mw_skip ?_
  refine mw_seq (mw_block (mw_seq (mw_ops ?_)))
  first | refine pm ?_ | refine pq ?_
  refine po_ix (es:=[[pI 1],[pI 2],[pI 4],[pI 8]]) (e:=[pI 4]) rfl rfl rfl ⟨by decide,rfl⟩ rfl ?_
  repeat' (first | refine pm ?_ | refine pq ?_ | refine px ?_ | refine po_zero ?_ | refine po_nil ?_)
  refine mw_block (mw_seq (mw_ops ?_))
  first | refine pm ?_ | refine pq ?_
  by_cases h0:0 <= n
  ·have hp:=hp h0
   refine po_yes rfl rfl (decide_eq_true (show n ≥ 0 from h0)) ?_
   iterate 2 (first | refine pm ?_ | refine pq ?_)
   refine po_no rfl rfl rfl ?_
   iterate 3 (first | refine pm ?_ | refine pq ?_)
   refine po_mul (n:=32) rfl rfl rfl rfl (by decide) ?_
   refine po_shl (n:=4294967296) rfl rfl rfl (by decide) (by decide) ?_
   by_cases hf:n < 4294967296
   ·refine po_yes rfl rfl (decide_eq_true hf) ?_
    iterate 3 (first | refine pm ?_ | refine pq ?_)
    refine po_nil ?_
    refine mwT ?_
    have hres:msgInt n = [206] ++ be 4 (lo64 n):=by
     unfold msgInt
     repeat (first | rw [if_pos (by omega)] | rw [if_neg (by omega)])
    refine mw_seq (mw_tree ?_)
    refine pt_node ?_
    first | refine pm ?_ | refine pq ?_
    refine po_add (n:=206) rfl rfl rfl rfl (by decide) ?_
    refine po_cv (n:=206) rfl rfl (by decide) ?_
    first | refine pm ?_ | refine pq ?_
    first | refine pm ?_ | refine pq ?_
    refine po_nil ?_
    refine pt_more ?_
    refine pt_alt ?_ ?_
    ·refine po_lit (es:=[[.v (.int .u8 206)]]) rfl ?_
     refine po_nil ?_
     refine pt_node ?_
     first | refine pm ?_ | refine pq ?_
     refine po_nil ?_
     refine pt_more ?_
     refine pt_alt ?_ pt_leaf
     refine po_call rfl (hput 4 (by omega)) ?_
     refine po_nil ?_
     refine pt_node ?_
     refine po_cat (la:=[206]) (lb:=be 4 (lo64 n)) rfl rfl rfl (by rw [be_length]; simp) ?_
     first | refine pm ?_ | refine pq ?_
     refine po_nil ?_
     refine pt_last ?_
     refine mw_ret ⟨.inr rfl,[.d (pS ([206] ++ be 4 (lo64 n)))],rfl,?_⟩
     rw [hres]; rfl
    ·refine pt_alt ?_ pt_leaf
     refine po_call rfl (hput 4 (by omega)) ?_
     refine po_nil ?_
     refine pt_node ?_
     refine po_nil ?_
     refine pt_more ?_
     refine pt_alt ?_ pt_leaf
     refine po_lit (es:=[[.v (.int .u8 206)]]) rfl ?_
     refine po_nil ?_
     refine pt_node ?_
     first | refine pm ?_ | refine pq ?_
     refine po_cat (la:=[206]) (lb:=be 4 (lo64 n)) rfl rfl rfl (by rw [be_length]; simp) ?_
     first | refine pm ?_ | refine pq ?_
     refine po_nil ?_
     refine pt_last ?_
     refine mw_ret ⟨.inr rfl,[.d (pS ([206] ++ be 4 (lo64 n)))],rfl,?_⟩
     rw [hres]; rfl
   ·refine po_no rfl rfl (decide_eq_false hf) ?_
    iterate 3 (first | refine pm ?_ | refine pq ?_)
    refine po_nil ?_
    refine mwF ?_
    refine mw_seq (mw_ops ?_)
    first | refine pm ?_ | refine pq ?_
    refine po_no rfl rfl (decide_eq_false (show ¬ n < 0 by omega)) ?_
    first | refine pm ?_ | refine pq ?_
    iterate 5 (refine po_skip rfl ?_)
    iterate 2 (first | refine pm ?_ | refine pq ?_)
    refine po_nil ?_
    refine mwF ?_
    refine mw_skip ?_
    refine mw_ops ?_
    refine po_add (n:=3) rfl rfl rfl rfl (by decide) ?_
    repeat' (first | refine pm ?_ | refine pq ?_ | refine px ?_ | refine po_zero ?_ | refine po_nil ?_)
    exact ⟨1,by omega,3,by omega,rfl,fun _ => by simp only [pnP]; omega,fun h => by omega,rfl,rfl,rfl,rfl,trivial⟩
  ·have hq:=hq (by omega)
   refine po_no rfl rfl (decide_eq_false (show ¬ n ≥ 0 from h0)) ?_
   first | refine pm ?_ | refine pq ?_
   iterate 9 (refine po_skip rfl ?_)
   iterate 2 (first | refine pm ?_ | refine pq ?_)
   refine po_nil ?_
   refine mwF ?_
   refine mw_seq (mw_ops ?_)
   first | refine pm ?_ | refine pq ?_
   refine po_yes rfl rfl (decide_eq_true (show n < 0 by omega)) ?_
   iterate 3 (first | refine pm ?_ | refine pq ?_)
   refine po_gcall (b:=true) rfl (fun _ => rfl) (fun _ => hsg 4 (by omega)) ?_
   first | refine pm ?_ | refine pq ?_
   by_cases hf:sgw n 4 = n
   ·refine po_yes rfl rfl (decide_eq_true hf) ?_
    iterate 2 (first | refine pm ?_ | refine pq ?_)
    refine po_nil ?_
    refine mwT ?_
    have hres:msgInt n = [210] ++ be 4 (lo64 n):=by
     unfold sgw at hf
     rw [if_pos (by decide),show ((256 ^ 4:Nat):Int) = 4294967296 from rfl,show ((256 ^ 4 / 2:Nat):Int) = 2147483648 from rfl] at hf
     split at hf
     ·unfold msgInt
      repeat (first | rw [if_pos (by omega)] | rw [if_neg (by omega)])
     ·omega
    refine mw_seq (mw_tree ?_)
    refine pt_node ?_
    first | refine pm ?_ | refine pq ?_
    refine po_add (n:=210) rfl rfl rfl rfl (by decide) ?_
    refine po_cv (n:=210) rfl rfl (by decide) ?_
    first | refine pm ?_ | refine pq ?_
    first | refine pm ?_ | refine pq ?_
    refine po_nil ?_
    refine pt_more ?_
    refine pt_alt ?_ ?_
    ·refine po_lit (es:=[[.v (.int .u8 210)]]) rfl ?_
     refine po_nil ?_
     refine pt_node ?_
     first | refine pm ?_ | refine pq ?_
     refine po_nil ?_
     refine pt_more ?_
     refine pt_alt ?_ pt_leaf
     refine po_call rfl (hput 4 (by omega)) ?_
     refine po_nil ?_
     refine pt_node ?_
     refine po_cat (la:=[210]) (lb:=be 4 (lo64 n)) rfl rfl rfl (by rw [be_length]; simp) ?_
     first | refine pm ?_ | refine pq ?_
     refine po_nil ?_
     refine pt_last ?_
     refine mw_ret ⟨.inr rfl,[.d (pS ([210] ++ be 4 (lo64 n)))],rfl,?_⟩
     rw [hres]; rfl
    ·refine pt_alt ?_ pt_leaf
     refine po_call rfl (hput 4 (by omega)) ?_
     refine po_nil ?_
     refine pt_node ?_
     refine po_nil ?_
     refine pt_more ?_
     refine pt_alt ?_ pt_leaf
     refine po_lit (es:=[[.v (.int .u8 210)]]) rfl ?_
     refine po_nil ?_
     refine pt_node ?_
     first | refine pm ?_ | refine pq ?_
     refine po_cat (la:=[210]) (lb:=be 4 (lo64 n)) rfl rfl rfl (by rw [be_length]; simp) ?_
     first | refine pm ?_ | refine pq ?_
     refine po_nil ?_
     refine pt_last ?_
     refine mw_ret ⟨.inr rfl,[.d (pS ([210] ++ be 4 (lo64 n)))],rfl,?_⟩
     rw [hres]; rfl
   ·refine po_no rfl rfl (decide_eq_false hf) ?_
    iterate 2 (first | refine pm ?_ | refine pq ?_)
    refine po_nil ?_
    refine mwF ?_
    refine mw_skip ?_
    have hlow:n < -2147483648:=by
     apply Decidable.byContradiction
     intro hlt
     apply hf
     unfold sgw
     rw [if_pos (by decide),show ((256 ^ 4:Nat):Int) = 4294967296 from rfl,show ((256 ^ 4 / 2:Nat):Int) = 2147483648 from rfl]
     split <;> omega
    refine mw_ops ?_
    refine po_add (n:=3) rfl rfl rfl rfl (by decide) ?_
    repeat' (first | refine pm ?_ | refine pq ?_ | refine px ?_ | refine po_zero ?_ | refine po_nil ?_)
    exact ⟨1,by omega,3,by omega,rfl,fun h => by omega,fun _ => by simp only [pnN]; omega,rfl,rfl,rfl,rfl,trivial⟩
 ·simp only [pnP,pnN] at hp hq
  refine mw_seq (mw_ops ?_)
  refine po_yes rfl rfl rfl ?_
  refine po_nil ?_
  refine mw_seq ?_
  refine mwT ?_
  refine mw_skip ?_
  refine mw_seq (mw_block (mw_seq (mw_ops ?_)))
  first | refine pm ?_ | refine pq ?_
  refine po_ix (es:=[[pI 1],[pI 2],[pI 4],[pI 8]]) (e:=[pI 8]) rfl rfl rfl ⟨by decide,rfl⟩ rfl ?_
  repeat' (first | refine pm ?_ | refine pq ?_ | refine px ?_ | refine po_zero ?_ | refine po_nil ?_)
  refine mw_block (mw_seq (mw_ops ?_))
  first | refine pm ?_ | refine pq ?_
  by_cases h0:0 <= n
  ·have hp:=hp h0
   refine po_yes rfl rfl (decide_eq_true (show n ≥ 0 from h0)) ?_
   iterate 2 (first | refine pm ?_ | refine pq ?_)
   refine po_yes rfl rfl rfl ?_
   first | refine pm ?_ | refine pq ?_
   iterate 5 (refine po_skip rfl ?_)
   iterate 3 (first | refine pm ?_ | refine pq ?_)
   refine po_nil ?_
   refine mwT ?_
   have hres:msgInt n = [207] ++ be 8 (lo64 n):=by
    unfold msgInt
    repeat (first | rw [if_pos (by omega)] | rw [if_neg (by omega)])
   refine mw_seq (mw_tree ?_)
   refine pt_node ?_
   first | refine pm ?_ | refine pq ?_
   refine po_add (n:=207) rfl rfl rfl rfl (by decide) ?_
   refine po_cv (n:=207) rfl rfl (by decide) ?_
   first | refine pm ?_ | refine pq ?_
   first | refine pm ?_ | refine pq ?_
   refine po_nil ?_
   refine pt_more ?_
   refine pt_alt ?_ ?_
   ·refine po_lit (es:=[[.v (.int .u8 207)]]) rfl ?_
    refine po_nil ?_
    refine pt_node ?_
    first | refine pm ?_ | refine pq ?_
    refine po_nil ?_
    refine pt_more ?_
    refine pt_alt ?_ pt_leaf
    refine po_call rfl (hput 8 (by omega)) ?_
    refine po_nil ?_
    refine pt_node ?_
    refine po_cat (la:=[207]) (lb:=be 8 (lo64 n)) rfl rfl rfl (by rw [be_length]; simp) ?_
    first | refine pm ?_ | refine pq ?_
    refine po_nil ?_
    refine pt_last ?_
    refine mw_ret ⟨.inr rfl,[.d (pS ([207] ++ be 8 (lo64 n)))],rfl,?_⟩
    rw [hres]; rfl
   ·refine pt_alt ?_ pt_leaf
    refine po_call rfl (hput 8 (by omega)) ?_
    refine po_nil ?_
    refine pt_node ?_
    refine po_nil ?_
    refine pt_more ?_
    refine pt_alt ?_ pt_leaf
    refine po_lit (es:=[[.v (.int .u8 207)]]) rfl ?_
    refine po_nil ?_
    refine pt_node ?_
    first | refine pm ?_ | refine pq ?_
    refine po_cat (la:=[207]) (lb:=be 8 (lo64 n)) rfl rfl rfl (by rw [be_length]; simp) ?_
    first | refine pm ?_ | refine pq ?_
    refine po_nil ?_
    refine pt_last ?_
    refine mw_ret ⟨.inr rfl,[.d (pS ([207] ++ be 8 (lo64 n)))],rfl,?_⟩
    rw [hres]; rfl
  ·have hq:=hq (by omega)
   refine po_no rfl rfl (decide_eq_false (show ¬ n ≥ 0 from h0)) ?_
   first | refine pm ?_ | refine pq ?_
   iterate 9 (refine po_skip rfl ?_)
   iterate 2 (first | refine pm ?_ | refine pq ?_)
   refine po_nil ?_
   refine mwF ?_
   refine mw_seq (mw_ops ?_)
   first | refine pm ?_ | refine pq ?_
   refine po_yes rfl rfl (decide_eq_true (show n < 0 by omega)) ?_
   iterate 3 (first | refine pm ?_ | refine pq ?_)
   refine po_gcall (b:=true) rfl (fun _ => rfl) (fun _ => hsg 8 (by omega)) ?_
   first | refine pm ?_ | refine pq ?_
   have hf:sgw n 8 = n:=by unfold sgw; rw [if_neg (by decide)]
   refine po_yes rfl rfl (decide_eq_true hf) ?_
   iterate 2 (first | refine pm ?_ | refine pq ?_)
   refine po_nil ?_
   refine mwT ?_
   have hres:msgInt n = [211] ++ be 8 (lo64 n):=by
    unfold msgInt
    repeat (first | rw [if_pos (by omega)] | rw [if_neg (by omega)])
   refine mw_seq (mw_tree ?_)
   refine pt_node ?_
   first | refine pm ?_ | refine pq ?_
   refine po_add (n:=211) rfl rfl rfl rfl (by decide) ?_
   refine po_cv (n:=211) rfl rfl (by decide) ?_
   first | refine pm ?_ | refine pq ?_
   first | refine pm ?_ | refine pq ?_
   refine po_nil ?_
   refine pt_more ?_
   refine pt_alt ?_ ?_
   ·refine po_lit (es:=[[.v (.int .u8 211)]]) rfl ?_
    refine po_nil ?_
    refine pt_node ?_
    first | refine pm ?_ | refine pq ?_
    refine po_nil ?_
    refine pt_more ?_
    refine pt_alt ?_ pt_leaf
    refine po_call rfl (hput 8 (by omega)) ?_
    refine po_nil ?_
    refine pt_node ?_
    refine po_cat (la:=[211]) (lb:=be 8 (lo64 n)) rfl rfl rfl (by rw [be_length]; simp) ?_
    first | refine pm ?_ | refine pq ?_
    refine po_nil ?_
    refine pt_last ?_
    refine mw_ret ⟨.inr rfl,[.d (pS ([211] ++ be 8 (lo64 n)))],rfl,?_⟩
    rw [hres]; rfl
   ·refine pt_alt ?_ pt_leaf
    refine po_call rfl (hput 8 (by omega)) ?_
    refine po_nil ?_
    refine pt_node ?_
    refine po_nil ?_
    refine pt_more ?_
    refine pt_alt ?_ pt_leaf
    refine po_lit (es:=[[.v (.int .u8 211)]]) rfl ?_
    refine po_nil ?_
    refine pt_node ?_
    first | refine pm ?_ | refine pq ?_
    refine po_cat (la:=[211]) (lb:=be 8 (lo64 n)) rfl rfl rfl (by rw [be_length]; simp) ?_
    first | refine pm ?_ | refine pq ?_
    refine po_nil ?_
    refine pt_last ?_
    refine mw_ret ⟨.inr rfl,[.d (pS ([211] ++ be 8 (lo64 n)))],rfl,?_⟩
    rw [hres]; rfl
def u8w (x:Int):Int:=IntKind.wrap .u8 x
theorem be1_u8 (x:Int):be 1 (lo64 x) = [UInt8.ofNat (u8w x).toNat]:=by
 rw [be1]
 congr 1
 apply UInt8.toNat_inj.1
 rw [byteOf_toNat]
 unfold u8w lo64
 rw [IntKind.wrap_u8]
 simp
 omega
set_option maxHeartbeats 1000000 in
theorem putLen_fn (n least low one two:Int) (hb:0 <= n /\ n <= 4611686018427387904) (hl:0 <= low /\ low <= 1000) (hl2:0 <= least /\ least <= 1000):FnV (env T hT) 181 [.d (pI n),.d (pI low),.d (pI least),.d (pI one),.d (pI two)] (.d (pS (msgMany n least low one two))):=by
 have hput:=fun (k:Int) (hk:1 <= k /\ k <= 8) => putw_fn (T:=T) (hT:=hT) n k hk (by unfold i64ok; omega)
 refine fn_of (look_env lk_i_putLength) (by show 5 <= 42; decide) fun B hB => ?_
 unfold m_i_putLength
 refine mw_seq (mw_ops ?_)
 repeat' (first | refine pm ?_ | refine pq ?_ | refine px ?_ | refine po_zero ?_ | refine po_nil ?_)
 refine mw_seq (mw_block (mw_seq (mw_ops ?_)))
 iterate 2 (first | refine pm ?_ | refine pq ?_)
 refine po_b rfl rfl (fun b hb1 => ?_)
 first | refine pm ?_ | refine pq ?_
 refine po_nil ?_
 refine mw_cd (p:=n < least) hb1 rfl (fun h _ => ?_) (fun h _ => ?_)
 ·refine mw_seq (mw_ops ?_)
  iterate 2 (first | refine pm ?_ | refine pq ?_)
  refine po_add (n:=low + n) rfl rfl rfl rfl (by omega) ?_
  refine po_cv (n:=(u8w (low + n))) rfl rfl rfl ?_
  refine po_lit (es:=[[.v (.int .u8 (u8w (low + n)))]]) rfl ?_
  repeat' (first | refine pm ?_ | refine pq ?_ | refine px ?_ | refine po_zero ?_ | refine po_nil ?_)
  exact mw_ret ⟨.inr rfl,_,rfl,by unfold msgMany; rw [if_pos h,be1_u8]; rfl⟩
 refine mw_at (fun s => has s.tm [(0,.d (pI n)),(3,.d (pI one)),(4,.d (pI two))]) ⟨rfl,rfl,rfl,trivial⟩ (fun tm bx nt live ht => ?_)
 obtain ⟨tm0,rfl⟩:=has_ups ht
 clear ht hb1
 refine mw_seq (mw_ops ?_)
 first | refine pm ?_ | refine pq ?_
 by_cases h2:n < 256
 ·refine po_yes rfl rfl (decide_eq_true h2) ?_
  iterate 2 (first | refine pm ?_ | refine pq ?_)
  by_cases h3:one > 0
  ·refine po_yes rfl rfl (decide_eq_true h3) ?_
   iterate 2 (first | refine pm ?_ | refine pq ?_)
   refine po_nil ?_
   refine mwT ?_
   have hres:msgMany n least low one two = [UInt8.ofNat (u8w one).toNat] ++ be 1 (lo64 n):=by
    unfold msgMany; rw [if_neg h,if_pos ⟨h2,h3⟩,be1_u8]
   refine mw_seq (mw_tree ?_)
   refine pt_node ?_
   first | refine pm ?_ | refine pq ?_
   refine po_cv (n:=(u8w one)) rfl rfl rfl ?_
   first | refine pm ?_ | refine pq ?_
   refine po_nil ?_
   refine pt_more ?_
   refine pt_alt ?_ ?_
   ·refine po_lit (es:=[[.v (.int .u8 (u8w one))]]) rfl ?_
    refine po_nil ?_
    refine pt_node ?_
    first | refine pm ?_ | refine pq ?_
    refine po_nil ?_
    refine pt_more ?_
    refine pt_alt ?_ pt_leaf
    refine po_call rfl (hput 1 (by omega)) ?_
    refine po_nil ?_
    refine pt_node ?_
    refine po_cat (la:=[UInt8.ofNat (u8w one).toNat]) (lb:=be 1 (lo64 n)) rfl rfl rfl (by rw [be_length]; simp) ?_
    first | refine pm ?_ | refine pq ?_
    refine po_nil ?_
    refine pt_last ?_
    refine mw_ret ⟨.inr rfl,[.d (pS ([UInt8.ofNat (u8w one).toNat] ++ be 1 (lo64 n)))],rfl,?_⟩
    rw [hres]; rfl
   ·refine pt_alt ?_ pt_leaf
    refine po_call rfl (hput 1 (by omega)) ?_
    refine po_nil ?_
    refine pt_node ?_
    refine po_nil ?_
    refine pt_more ?_
    refine pt_alt ?_ pt_leaf
    refine po_lit (es:=[[.v (.int .u8 (u8w one))]]) rfl ?_
    refine po_nil ?_
    refine pt_node ?_
    first | refine pm ?_ | refine pq ?_
    refine po_cat (la:=[UInt8.ofNat (u8w one).toNat]) (lb:=be 1 (lo64 n)) rfl rfl rfl (by rw [be_length]; simp) ?_
    first | refine pm ?_ | refine pq ?_
    refine po_nil ?_
    refine pt_last ?_
    refine mw_ret ⟨.inr rfl,[.d (pS ([UInt8.ofNat (u8w one).toNat] ++ be 1 (lo64 n)))],rfl,?_⟩
    rw [hres]; rfl
  ·refine po_no rfl rfl (decide_eq_false h3) ?_
   iterate 2 (first | refine pm ?_ | refine pq ?_)
   refine po_nil ?_
   refine mwF ?_
   refine mw_skip ?_
   have hres:msgMany n least low one two = [UInt8.ofNat (u8w two).toNat] ++ be 2 (lo64 n):=by
    unfold msgMany; rw [if_neg h,if_neg (fun h => h3 h.2),be1_u8]
   refine mw_seq (mw_tree ?_)
   refine pt_node ?_
   first | refine pm ?_ | refine pq ?_
   refine po_cv (n:=(u8w two)) rfl rfl rfl ?_
   first | refine pm ?_ | refine pq ?_
   refine po_nil ?_
   refine pt_more ?_
   refine pt_alt ?_ ?_
   ·refine po_lit (es:=[[.v (.int .u8 (u8w two))]]) rfl ?_
    refine po_nil ?_
    refine pt_node ?_
    first | refine pm ?_ | refine pq ?_
    refine po_nil ?_
    refine pt_more ?_
    refine pt_alt ?_ pt_leaf
    refine po_call rfl (hput 2 (by omega)) ?_
    refine po_nil ?_
    refine pt_node ?_
    refine po_cat (la:=[UInt8.ofNat (u8w two).toNat]) (lb:=be 2 (lo64 n)) rfl rfl rfl (by rw [be_length]; simp) ?_
    first | refine pm ?_ | refine pq ?_
    refine po_nil ?_
    refine pt_last ?_
    refine mw_ret ⟨.inr rfl,[.d (pS ([UInt8.ofNat (u8w two).toNat] ++ be 2 (lo64 n)))],rfl,?_⟩
    rw [hres]; rfl
   ·refine pt_alt ?_ pt_leaf
    refine po_call rfl (hput 2 (by omega)) ?_
    refine po_nil ?_
    refine pt_node ?_
    refine po_nil ?_
    refine pt_more ?_
    refine pt_alt ?_ pt_leaf
    refine po_lit (es:=[[.v (.int .u8 (u8w two))]]) rfl ?_
    refine po_nil ?_
    refine pt_node ?_
    first | refine pm ?_ | refine pq ?_
    refine po_cat (la:=[UInt8.ofNat (u8w two).toNat]) (lb:=be 2 (lo64 n)) rfl rfl rfl (by rw [be_length]; simp) ?_
    first | refine pm ?_ | refine pq ?_
    refine po_nil ?_
    refine pt_last ?_
    refine mw_ret ⟨.inr rfl,[.d (pS ([UInt8.ofNat (u8w two).toNat] ++ be 2 (lo64 n)))],rfl,?_⟩
    rw [hres]; rfl
 ·refine po_no rfl rfl (decide_eq_false h2) ?_
  first | refine pm ?_ | refine pq ?_
  iterate 2 (refine po_skip rfl ?_)
  iterate 2 (first | refine pm ?_ | refine pq ?_)
  refine po_nil ?_
  refine mwF ?_
  refine mw_skip ?_
  have hres:msgMany n least low one two = [UInt8.ofNat (u8w two).toNat] ++ be 2 (lo64 n):=by
   unfold msgMany; rw [if_neg h,if_neg (fun h => h2 h.1),be1_u8]
  refine mw_seq (mw_tree ?_)
  refine pt_node ?_
  first | refine pm ?_ | refine pq ?_
  refine po_cv (n:=(u8w two)) rfl rfl rfl ?_
  first | refine pm ?_ | refine pq ?_
  refine po_nil ?_
  refine pt_more ?_
  refine pt_alt ?_ ?_
  ·refine po_lit (es:=[[.v (.int .u8 (u8w two))]]) rfl ?_
   refine po_nil ?_
   refine pt_node ?_
   first | refine pm ?_ | refine pq ?_
   refine po_nil ?_
   refine pt_more ?_
   refine pt_alt ?_ pt_leaf
   refine po_call rfl (hput 2 (by omega)) ?_
   refine po_nil ?_
   refine pt_node ?_
   refine po_cat (la:=[UInt8.ofNat (u8w two).toNat]) (lb:=be 2 (lo64 n)) rfl rfl rfl (by rw [be_length]; simp) ?_
   first | refine pm ?_ | refine pq ?_
   refine po_nil ?_
   refine pt_last ?_
   refine mw_ret ⟨.inr rfl,[.d (pS ([UInt8.ofNat (u8w two).toNat] ++ be 2 (lo64 n)))],rfl,?_⟩
   rw [hres]; rfl
  ·refine pt_alt ?_ pt_leaf
   refine po_call rfl (hput 2 (by omega)) ?_
   refine po_nil ?_
   refine pt_node ?_
   refine po_nil ?_
   refine pt_more ?_
   refine pt_alt ?_ pt_leaf
   refine po_lit (es:=[[.v (.int .u8 (u8w two))]]) rfl ?_
   refine po_nil ?_
   refine pt_node ?_
   first | refine pm ?_ | refine pq ?_
   refine po_cat (la:=[UInt8.ofNat (u8w two).toNat]) (lb:=be 2 (lo64 n)) rfl rfl rfl (by rw [be_length]; simp) ?_
   first | refine pm ?_ | refine pq ?_
   refine po_nil ?_
   refine pt_last ?_
   refine mw_ret ⟨.inr rfl,[.d (pS ([UInt8.ofNat (u8w two).toNat] ++ be 2 (lo64 n)))],rfl,?_⟩
   rw [hres]; rfl
end
/- PvBl -/
section
open Go.RowKit
section
variable {P:Program} {NG:Nat} {T:World -> Prop}
theorem wpList_append_run {w:World} {ops:Array Oper} {rest:List Oper} {o:Oper} {a:Act} {Q:Exit -> Act -> World -> Prop} (hgd:o.guard = none) (sl x:Operand) (t u:TypeId)
  (ho:o.op = .call { callee:=.builtin .append,args:=#[sl,x],argTypes:=#[t,u] }) (v y v':Value) (w':World) (hs:a.eval sl = v) (hx:a.eval x = y) (hr:(Builtin.append_ #[t,u] o.type #[v,y]).run P w = .ok v' w') (h:wpList P ops Q rest (a.put o.dst v') w'):wpList P ops Q (o :: rest) a w:=by
 refine wpList_plain hgd fun K hK => ?_
 unfold Oper.wp execOp
 simp only [ho,resolve,invoke,builtin,Sem.run_bind,Sem.run_pure,Result.andThen_ok,List.map_toArray,List.map_cons,List.map_nil,hs,hx,hr]
 exact hK _ _ h
theorem Inv.alloc (hL:Low NG T) {C:Cx} {bx:List (List PC)} {live:Nat -> Prop} {w:World} (h:Inv NG T C bx live w) (o:Obj):Inv NG T C bx live (w.alloc o):=by
 have hold:∀ k,k < w.heap.size -> (w.alloc o).heap[k]? = w.heap[k]?:=fun k hk => heap_alloc_old w o hk
 have hfix:=fix_alloc h.fin o
 have hs:w.heap.size <= (w.alloc o).heap.size:=by simp
 refine ⟨h.nb,fun p cs hp => ?_,h.boxF,h.boxG,h.inj,fun t ht => ?_,h.tinj,fun b o' hF => Nat.lt_of_lt_of_le (h.fin b o' hF) hs,Nat.le_trans h.ng hs,hL w _ h.t hs fun k hk => hold k (Nat.lt_of_lt_of_le hk h.ng)⟩
 ·obtain ⟨vs,e,h1,h2⟩:=h.box p cs hp
  exact ⟨vs,e,(hold _ (heap_lt h1)).trans h1,h2.frame (CxLe.refl C) hfix⟩
 ·obtain ⟨a1,a2,a3⟩:=h.tok t ht
  refine ⟨a1,a2,a3.imp id ?_⟩
  rintro ⟨b,cur,e,c1,c2,c3,c4⟩
  exact ⟨b,cur,e,c1,c2,(hold _ (heap_lt c3)).trans c3,c4⟩
theorem Inv.drewn (hL:Low NG T) {C:Cx} {bx:List (List PC)} {live:Nat -> Prop} {w:World} (h:Inv NG T C bx live w) (n:Nat):Inv NG T C bx live { w with drawn:=n } /\ Fix C w { w with drawn:=n }:=by
 have hF:Fix C w { w with drawn:=n }:=⟨fun _ _ _ => rfl,fun _ _ cs fz h => ⟨cs,fz,h⟩⟩
 refine ⟨⟨h.nb,fun p cs hp => ?_,h.boxF,h.boxG,h.inj,h.tok,h.tinj,h.fin,h.ng,hL w _ h.t (Nat.le_refl _) (fun _ _ => rfl)⟩,hF⟩
 obtain ⟨vs,e,hh,hl⟩:=h.box p cs hp
 exact ⟨vs,e,hh,hl.frame (CxLe.refl C) hF⟩
theorem Ext.start {C:Cx} {bx:List (List PC)} {live:List Nat} {w:World} (h:Inv NG T C bx (· ∈ live) w) (hold:C.old = (· ∈ live)):Ext C w C bx.length (· ∈ live) w :=
 ⟨rfl,rfl,rfl,Nat.le_refl _,fun _ _ h => h,Fix.refl C w,fun _ _ _ _ => rfl,⟨Nat.le_refl _,fun _ _ => rfl⟩,fun _ _ h => .inl h,(fun t b ht hb => .inr ⟨t,by rw [hold]; exact ht,hb⟩),(fun p hp hp2 => by have h1:=h.nb; omega),⟨Nat.le_refl _,fun _ _ => ⟨rfl,rfl,rfl,rfl⟩⟩⟩
theorem set_self {bx:List (List PC)} {p:Nat} {cs:List PC} (h:bx[p]? = some cs):bx.set p cs = bx:=by
 apply List.ext_getElem?
 intro q
 by_cases hq:p = q
 ·subst hq
  have hlt:p < bx.length:=by
   rcases Nat.lt_or_ge p bx.length with h' | h'
   ·exact h'
   ·rw [List.getElem?_eq_none h'] at h; cases h
  rw [List.getElem?_set_self hlt,h]
 ·rw [List.getElem?_set_ne hq]
theorem bld_inv {C:Cx} {bx:List (List PC)} {live:Nat -> Prop} {w:World} (hI:Inv NG T C bx live w) {p t:Nat} {TT U:TypeId} {es:List (List PC)} (hp:bx[p]? = some [.bld p TT t U,.sl t es]) :
  ∃ v0 v1,w.heap[C.bx p]? = some (.cells #[v0,v1] TT (0,0)) /\ (v0 = .pointer none \/ v0 = .pointer (some ⟨C.bx p,0,none⟩)) /\ RpC C w (.sl t es) v1 /\ (t = 1 \/ 2 <= t /\ t < C.nt /\ ∀ b,C.tk t = some b -> ∃ cs fz,w.heap[b]? = some (.cells cs U fz)):=by
 obtain ⟨vs,e,hh,hl⟩:=hI.box p _ hp
 obtain ⟨v0,vr,rfl,h0,h1⟩:=hl.inv1
 obtain ⟨v1,vr,rfl,k1,k2⟩:=h1.inv1
 obtain rfl:=k2.inv0
 cases h0 with
 | bld _ _ _ _ _ h cs fz ht hv hU =>
  rw [ht] at hh
  simp only [Option.some.injEq,Obj.cells.injEq] at hh
  obtain ⟨rfl,rfl,rfl⟩:=hh
  exact ⟨v0,v1,ht,hv,k1,hU⟩
theorem Inv.froze (hL:Low NG T) {C:Cx} {bx:List (List PC)} {live:List Nat} {w:World} (h:Inv NG T C bx (· ∈ live) w) {t g n:Nat} (ht:t ∈ live) (hg:C.tk t = some g) :
  Inv NG T C bx (· ∈ live.filter (· != t)) (w.freeze ⟨g,0,none⟩ n) /\ Fix C w (w.freeze ⟨g,0,none⟩ n) /\ (w.freeze ⟨g,0,none⟩ n).os = w.os /\ (w.freeze ⟨g,0,none⟩ n).tape = w.tape /\ (w.freeze ⟨g,0,none⟩ n).output = w.output /\ (w.freeze ⟨g,0,none⟩ n).heap.size = w.heap.size /\ ∀ k,k ≠ g -> (w.freeze ⟨g,0,none⟩ n).heap[k]? = w.heap[k]?:=by
 obtain ⟨_,_,⟨z,_⟩ | ⟨g',cur,e,c1,c2,c3,c4,c5,c6,c7,c8,c9,c10⟩⟩:=h.tok t ht
 ·rw [hg] at z; cases z
 rw [hg] at c1; simp only [Option.some.injEq] at c1; subst c1
 have other:∀ k,k ≠ g -> (w.freeze ⟨g,0,none⟩ n).heap[k]? = w.heap[k]?:=by
  intro k hk
  have hk':g ≠ k:=fun h => hk h.symm
  unfold World.freeze
  split
  ·rfl
  ·simp [Array.getElem?_modify,hk']
 have hat:∃ fz,(w.freeze ⟨g,0,none⟩ n).heap[g]? = some (.cells cur e fz):=by
  unfold World.freeze
  split
  ·exact ⟨_,c3⟩
  ·simp [Array.getElem?_modify,c3]
 obtain ⟨fz0,hat⟩:=hat
 have hcell:∀ b o,(w.freeze ⟨g,0,none⟩ n).cell? ⟨b,o,none⟩ = w.cell? ⟨b,o,none⟩:=by
  intro b o
  by_cases hb:b = g
  ·subst hb; simp [World.cell?,hat,c3]
  ·exact World.cell?_of_block (a:=⟨b,o,none⟩) (other b hb)
 have hs:(w.freeze ⟨g,0,none⟩ n).heap.size = w.heap.size:=by
  unfold World.freeze; split <;> simp
 have o1:(w.freeze ⟨g,0,none⟩ n).os = w.os:=by unfold World.freeze; split <;> rfl
 have o2:(w.freeze ⟨g,0,none⟩ n).tape = w.tape:=by unfold World.freeze; split <;> rfl
 have o3:(w.freeze ⟨g,0,none⟩ n).output = w.output:=by unfold World.freeze; split <;> rfl
 have hF:Fix C w (w.freeze ⟨g,0,none⟩ n):=⟨fun b o _ => hcell b o,fun k T cs fz hh => by
  by_cases hk:k = g
  ·subst hk; rw [c3] at hh; simp only [Option.some.injEq,Obj.cells.injEq] at hh; obtain ⟨_,rfl,_⟩:=hh; exact ⟨_,_,hat⟩
  ·exact ⟨cs,fz,(other k hk).trans hh⟩⟩
 refine ⟨⟨h.nb,fun p cs hp => ?_,h.boxF,h.boxG,h.inj,fun s hs' => ?_,fun a b c ha hb => h.tinj a b c (List.mem_filter.1 ha).1 (List.mem_filter.1 hb).1,by rw [hs]; exact h.fin,by rw [hs]; exact h.ng,hL w _ h.t (by rw [hs]; exact Nat.le_refl _) fun k hk => other k (by omega)⟩,hF,o1,o2,o3,hs,other⟩
 ·obtain ⟨vs,e',h1,h2⟩:=h.box p cs hp
  have hlt:p < bx.length:=by
   rcases Nat.lt_or_ge p bx.length with h' | h'
   ·exact h'
   ·rw [List.getElem?_eq_none h'] at hp; cases hp
  exact ⟨vs,e',(other _ (c10 p hlt)).trans h1,h2.frame (CxLe.refl C) hF⟩
 ·obtain ⟨m1,m2⟩:=List.mem_filter.1 hs'
  obtain ⟨a1,a2,a3⟩:=h.tok s m1
  refine ⟨a1,a2,a3.imp id ?_⟩
  rintro ⟨b,cur',e',d1,d2,d3,d4⟩
  refine ⟨b,cur',e',d1,d2,(other b fun hb => ?_).trans d3,d4⟩
  subst hb
  have:=h.tinj s t b m1 ht d1 hg
  subst this; simp at m2
end
end
/- BuildC -/
section
open Go.RowKit
theorem sizeBld:(Tryz.prog.info? 152).map (·.size) = some 2:=by kernel_rfl
theorem liesBld:liesAt Tryz.prog Tryz.prog.depth 152 (2 / Tryz.prog.cellsOf 152) 0 152 1 = true:=by kernel_rfl
theorem infoByteB:(Tryz.prog.info? 5).map (fun i => (i.zero,i.size,i.bytes)) = some (some (.int .u8 0),1,1):=by kernel_rfl
set_option maxHeartbeats 1000000 in
set_option maxRecDepth 100000 in
theorem copyCheck_used (b:Nat) (w:World) (h0:w.cell? ⟨b,0,none⟩ = some (.pointer (some ⟨b,0,none⟩))) :
  Calls Tryz.prog 177 #[.pointer (some ⟨b,0,none⟩)] w fun e w' => e = .returned (.tuple #[]) /\ w' = w:=by
 obtain ⟨j,hj,_⟩:=Option.map_eq_some_iff.1 sizeBld
 go_enter Tryz.func177,Tryz.ntmps177
 go_wp2
 rw [Lib.run_neq_ptr_same w _ Tryz.underlying149 hj]
 go_wp2
 go_end0
 exact ⟨rfl,rfl⟩
set_option maxHeartbeats 1000000 in
set_option maxRecDepth 100000 in
theorem copyCheck_fresh (b:Nat) (w:World) (h0:w.cell? ⟨b,0,none⟩ = some (.pointer none)) (hsh:w.shape? b = some (152,2)) (hfz:w.frozen? ⟨b,0,none⟩ = false) :
  Calls Tryz.prog 177 #[.pointer (some ⟨b,0,none⟩)] w fun e w' => e = .returned (.tuple #[]) /\ w' = w.setCell ⟨b,0,none⟩ (.pointer (some ⟨b,0,none⟩)):=by
 obtain ⟨j,hj,hjs⟩:=Option.map_eq_some_iff.1 sizeBld
 go_enter Tryz.func177,Tryz.ntmps177
 go_wp2
 rw [Lib.run_to_unsafe w ⟨b,0,none⟩ Tryz.underlying149 Tryz.underlying216 hj (by rw [hjs]; decide) hsh (Nat.zero_lt_succ 1)]
 simp only [Result.andThen]
 rw [Oper.upon_value]
 go_wp2
 rw [run_callFunc_extern Tryz.func217 (by kernel_rfl) (by kernel_rfl) (by kernel_rfl) (e:=Extern.AbiNoEscape.same) (by kernel_rfl)]
 rw [Lib.run_noEscape]
 simp only [Result.andThen]
 rw [Oper.upon_value]
 go_wp2
 rw [Lib.run_from_unsafe w ⟨b,0,none⟩ Tryz.underlying216 Tryz.underlying149 hj hsh liesBld]
 simp only [Result.andThen]
 rw [Oper.upon_value]
 go_wp2
 go_end0
 exact ⟨rfl,rfl⟩
end
/- PvBld -/
section
open Go.RowKit
variable {T:World -> Prop} {hT:Low ngl T}
def bldC (p t:Nat) (l:List UInt8):List PC:=[.bld p 152 t 5,.sl t (pcB l)]
def CcP (C:Cx) (w:World) (bx:List (List PC)) (live:List Nat) (T:World -> Prop) (b:Nat) (v1:Value) (w':World):Prop :=
 Inv ngl T C bx (· ∈ live) w' /\ Fix C w w' /\ w'.os = w.os /\ w'.tape = w.tape /\ w'.output = w.output /\ w'.heap.size = w.heap.size /\ (∀ k,k ≠ b -> w'.heap[k]? = w.heap[k]?) /\ w'.heap[b]? = some (.cells #[.pointer (some ⟨b,0,none⟩),v1] 152 (0,0))
theorem ccheck {C:Cx} {bx:List (List PC)} {live:List Nat} {w:World} (hI:Inv ngl T C bx (· ∈ live) w) {p t:Nat} {l:List UInt8} (hp:bx[p]? = some (bldC p t l)) (hL:Low ngl T) :
  ∃ v1,Calls Tryz.prog 177 #[.pointer (some ⟨C.bx p,0,none⟩)] w (fun e w' => e = .returned (.tuple #[]) /\ CcP C w bx live T (C.bx p) v1 w') /\ RpC C w (.sl t (pcB l)) v1:=by
 obtain ⟨v0,v1,hh,hv,h1,hU⟩:=bld_inv hI hp
 have hlt:p < bx.length:=by
  rcases Nat.lt_or_ge p bx.length with h' | h'
  ·exact h'
  ·rw [List.getElem?_eq_none h'] at hp; cases hp
 have c0:w.cell? ⟨C.bx p,0,none⟩ = some v0:=by rw [Lib.cell_of_heap hh]; rfl
 refine ⟨v1,?_,h1⟩
 rcases hv with rfl | rfl
 ·refine (copyCheck_fresh (C.bx p) w c0 (by simp [World.shape?,hh]) (Lib.frozen_of_heap hh 0)).mono ?_
  rintro e w' ⟨rfl,rfl⟩
  have hnew:(w.setCell ⟨C.bx p,0,none⟩ (.pointer (some ⟨C.bx p,0,none⟩))).heap[C.bx p]? = some (.cells #[.pointer (some ⟨C.bx p,0,none⟩),v1] 152 (0,0)):=by
   simp [World.setCell,Array.getElem?_modify,hh]
  have hother:∀ k,k ≠ C.bx p -> (w.setCell ⟨C.bx p,0,none⟩ (.pointer (some ⟨C.bx p,0,none⟩))).heap[k]? = w.heap[k]?:=by
   intro k hk
   have hk':C.bx p ≠ k:=fun h => hk h.symm
   simp [World.setCell,Array.getElem?_modify,hk']
  have hsz:w.heap.size = (w.setCell ⟨C.bx p,0,none⟩ (.pointer (some ⟨C.bx p,0,none⟩))).heap.size:=by simp [World.setCell]
  obtain ⟨k1,k2⟩:=hI.write hL hlt (us:=[.pointer (some ⟨C.bx p,0,none⟩),v1]) (cs:=bldC p t l) (e:=152) hnew (.cons (.bld _ _ _ _ _ (by rw [hI.nb]; exact hlt) _ _ hh (.inr rfl) hU) (.cons h1 .nil)) (fun T cs0 h0 => by rw [hh] at h0; simp only [Option.some.injEq,Obj.cells.injEq] at h0; exact h0.2.1) hsz hother
  rw [set_self hp] at k1
  exact ⟨rfl,⟨k1,k2,rfl,rfl,rfl,hsz.symm,hother,hnew⟩⟩
 ·refine (copyCheck_used (C.bx p) w c0).mono ?_
  rintro e w' ⟨rfl,rfl⟩
  exact ⟨rfl,⟨hI,Fix.refl _ _,rfl,rfl,rfl,rfl,fun _ _ => rfl,hh⟩⟩
def WrP (C:Cx) (w:World) (bx:List (List PC)) (live:List Nat) (T:World -> Prop) (p t:Nat) (l:List UInt8) (w':World):Prop :=
 ∃ C',Inv ngl T C' (bx.set p (bldC p C.nt l)) (· ∈ C.nt :: live.filter (· != t)) w' /\ C'.nt = C.nt + 1 /\ Ext C w C' (bx.set p (bldC p C.nt l)).length (· ∈ C.nt :: live.filter (· != t)) w'
theorem bld_done (hL:Low ngl T) {C:Cx} {bx:List (List PC)} {live:List Nat} {w w1 w2 w':World} (hI:Inv ngl T C bx (· ∈ live) w1) (hE:Ext C w C bx.length (· ∈ live) w1) (hn2:2 <= C.nt) {p t:Nat} {l l':List UInt8} (hp:bx[p]? = some (bldC p t l)) {u self:Value} {g:Option Nat} {cap:Nat}
  (k2:Inv ngl T (C.tok g cap (pcB l').length 1) bx (· ∈ C.nt :: live.filter (· != t)) w2) (k3:Fix C w1 w2) (k4:RpC (C.tok g cap (pcB l').length 1) w2 (.sl C.nt (pcB l')) u) (k5:w2.os = w1.os) (k6:w2.tape = w1.tape) (k7:w2.output = w1.output) (k8:w1.heap.size <= w2.heap.size)
  (k9:∀ k,k < w1.heap.size -> g ≠ some k -> w2.heap[k]? = w1.heap[k]?) (k10:∀ b,g = some b -> (w1.heap.size <= b /\ ∃ cs,w2.heap[b]? = some (.cells cs 5 (0,0))) \/ (t ∈ live /\ C.tk t = some b))
  (hs:self = .pointer (some ⟨C.bx p,0,none⟩)) (hw2:∃ v1,w2.heap[C.bx p]? = some (.cells #[self,v1] 152 (0,0)))
  (hw:w' = w2.setCell ⟨C.bx p,1,none⟩ u):WrP C w bx live T p t l' w':=by
 obtain ⟨v1,hw2⟩:=hw2
 subst hw
 have hlt:p < bx.length:=by
  rcases Nat.lt_or_ge p bx.length with h' | h'
  ·exact h'
  ·rw [List.getElem?_eq_none h'] at hp; cases hp
 have hbx:(C.tok g cap (pcB l').length 1).bx p = C.bx p:=rfl
 have hnew:(w2.setCell ⟨C.bx p,1,none⟩ u).heap[C.bx p]? = some (.cells #[self,u] 152 (0,0)):=by
  simp [World.setCell,Array.getElem?_modify,hw2]
 have hother:∀ k,k ≠ C.bx p -> (w2.setCell ⟨C.bx p,1,none⟩ u).heap[k]? = w2.heap[k]?:=by
  intro k hk
  have hk':C.bx p ≠ k:=fun h => hk h.symm
  simp [World.setCell,Array.getElem?_modify,hk']
 have hsz:w2.heap.size = (w2.setCell ⟨C.bx p,1,none⟩ u).heap.size:=by simp [World.setCell]
 obtain ⟨v0',v1',hh1,_,_,hU⟩:=bld_inv hI hp
 have htok:=(Cx.tok_new C g cap (pcB l').length 1).1
 have hgw:∀ b,g = some b -> w.heap.size <= b \/ ∃ s,C.old s /\ C.tk s = some b:=by
  intro b hb
  rcases k10 b hb with ⟨h,_⟩ | ⟨h,h'⟩
  ·have:=hE.size; exact .inl (by omega)
  ·exact hE.newT t b h h'
 obtain ⟨q1,q2⟩:=k2.write hL hlt (us:=[self,u]) (cs:=bldC p C.nt l') (e:=152) hnew (.cons (.bld _ _ _ _ _ (by show p < C.nb; rw [hI.nb]; exact hlt) _ _ hw2 (.inr hs) (.inr ⟨hn2,by simp [Cx.tok],fun b hb => by
   rw [htok] at hb
   rcases k10 b hb with ⟨_,cs,h⟩ | ⟨h,h'⟩
   ·exact ⟨cs,_,h⟩
   ·rcases hU with rfl | ⟨_,_,h3⟩
    ·have:=(hI.tok 1 h).1; omega
    ·obtain ⟨cs,fz,h4⟩:=h3 b h'
     exact k3.2 _ _ _ _ h4⟩)) (.cons k4 .nil)) (fun T cs0 h0 => by rw [hbx,hw2] at h0; simp only [Option.some.injEq,Obj.cells.injEq] at h0; exact h0.2.1) hsz hother
 refine ⟨_,q1,by simp [Cx.tok],?_⟩
 have hE2:Ext C w (C.tok g cap (pcB l').length 1) bx.length (· ∈ C.nt :: live.filter (· != t)) w2:=by
  refine hE.step (Cx.tok_le _ _ _ _ _) k3 k5 k6 k7 k8 (fun k hk _ ho => k9 k (by have:=hE.size; omega) (fun hgk => by
   rcases hgw k hgk with h | ⟨t,h1,h2⟩
   ·omega
   ·exact ho t h1 h2)) ?_ ?_ (fun p hp hp2 => hE.newB p hp hp2)
  ·rintro b o (hb | ⟨hb,_⟩)
   ·exact .inl hb
   ·exact .inr (hgw b hb)
  ·intro s b htl hb
   simp only [List.mem_cons,List.mem_filter] at htl
   by_cases htn:s = C.nt
   ·subst htn; rw [htok] at hb; exact hgw b hb
   ·have hm:s ∈ live:=(htl.resolve_left htn).1
    rw [((Cx.tok_le C _ _ _ _).tk s (hI.tok s hm).2.1).1] at hb; exact hE.newT s b hm hb
 have hE3:=hE2.step (C':=C.tok g cap (pcB l').length 1) (nb':=bx.length) (live':=(· ∈ C.nt :: live.filter (· != t))) (CxLe.refl _) q2 rfl rfl rfl (by omega) (fun k hk hne _ => hother k fun hkp => hne p (by rw [hI.nb]; exact hlt) hkp.symm) (fun b o x => .inl x) hE2.newT hE2.newB
 rw [List.length_set]; exact hE3
set_option maxHeartbeats 400000 in
set_option maxRecDepth 100000 in
theorem wstr_fn {bx:List (List PC)} {nt p t:Nat} {live:List Nat} {l:List UInt8} (s:List UInt8) (hp:bx[p]? = some (bldC p t l)) (ht:t = 1 \/ t ∈ live) (hlen:l.length + s.length <= 4294967296) :
  FnG (env T hT) 131 [.ref p 0,.d (pS s)] bx nt live (fun _ bx' nt' live' => bx' = bx.set p (bldC p nt (l ++ s)) /\ nt' = nt + 1 /\ live' = nt :: live.filter (· != t)):=by
 intro C w vs hI hnt hold hn2 hl hv
 match vs,hl with
 | [a0,a1],_ =>
  have g0:=hv 0 _ _ rfl rfl; have g1:=hv 1 _ _ rfl rfl
  have e1:a1 = .string ⟨s.toArray⟩:=by
   cases g1 with
   | d _ _ h => cases h; rfl
  have e0:a0 = .pointer (some ⟨C.bx p,0,none⟩):=by
   cases g0; rfl
  subst e0; subst e1
  obtain ⟨i0,hi,hz0,hz1,hz2⟩:=info_parts infoByteB
  obtain ⟨v1,hc,hr1⟩:=ccheck hI hp hT
  have HC:=Lib.hid hc; clear hc
  have hE0:=Ext.start hI hold
  have HF:=Lib.hid (fun w' (h:WrP C w bx live T p t (l ++ s) w') => show ∃ u x bx' nt' live' C',Ending.returned (.tuple #[.int .i64 s.length,.nilIface]) = .returned u /\ (bx' = bx.set p (bldC p nt (l ++ s)) /\ nt' = nt + 1 /\ live' = nt :: live.filter (· != t)) /\ Inv ngl T C' bx' (· ∈ live') w' /\ C'.nt = nt' /\ Ext C w C' bx'.length (· ∈ live') w' /\ RpV C' w' x u by
   obtain ⟨C',h1,h2,h3⟩:=h
   rw [hnt] at h1 h2 h3
   exact ⟨_,.raw _,_,_,_,C',rfl,⟨rfl,rfl,rfl⟩,h1,h2,h3,.raw _⟩)
  have HD:=Lib.hid (fun w1 w2 w' u self g cap hI1 hE1 => bld_done (C:=C) (w:=w) (w1:=w1) (w2:=w2) (w':=w') (u:=u) (self:=self) (g:=g) (cap:=cap) (l:=l) (l':=l ++ s) (bx:=bx) (live:=live) hT hI1 hE1 (by omega) hp)
  obtain ⟨b,hb⟩:∃ b,b = C.bx p:=⟨_,rfl⟩
  rw [<- hb] at HC HD ⊢
  have HB:=Lib.hid hb; clear hb
  show Calls Tryz.prog 131 #[.pointer (some ⟨b,0,none⟩),.string ⟨s.toArray⟩] w _
  go_enter Tryz.func131,Tryz.ntmps131
  go_wp2_with (go_at_call 177; refine HC.out.mono ?_)
  rintro e1 w1 rfl ⟨hI1,hF1,o1,o2,o3,o4,o5,hbk⟩
  have hE1:Ext C w C bx.length (· ∈ live) w1:=hE0.step (CxLe.refl C) hF1 o1 o2 o3 (by omega) (fun k _ hne _ => o5 k fun h => hne p (by rw [hI.nb]; rcases Nat.lt_or_ge p bx.length with h' | h'; exact h'; rw [List.getElem?_eq_none h'] at hp; cases hp) (by rw [h]; exact HB.out.symm)) (fun b o x => .inl x) hE0.newT hE0.newB
  have c0:w1.cell? ⟨b,0,none⟩ = some (.pointer (some ⟨b,0,none⟩)):=by rw [Lib.cell_of_heap hbk]; rfl
  have c1:w1.cell? ⟨b,1,none⟩ = some v1:=by rw [Lib.cell_of_heap hbk]; rfl
  obtain ⟨u,w2,g,cap,k1,k2,k3,k4,k5,k6,k7,k8,k9,k10⟩:=apps_run (P:=Tryz.prog) hT hI1 (by omega) (t:=150) (t':=9) (e:=5) (i:=i0) Tryz.underlying150 Tryz.underlying9 hi hz0 hz1 hz2 (hr1.frame (CxLe.refl C) hF1) ht s (by rw [pcB_len]; exact hlen) (pcB_wid l) 150
  have hcat:pcB l ++ pcB s = pcB (l ++ s):=by simp [pcB]
  rw [hcat] at k2 k4
  have hne:g ≠ some b:=fun h => by
   rcases k10 b h with ⟨h1,_⟩ | ⟨h1,h2⟩
   ·have:=heap_lt hbk; omega
   ·obtain ⟨_,_,⟨z,_⟩ | ⟨b',cur,e',d1,_,d3,_,_,_,_,_,_,d9⟩⟩:=hI1.tok t h1
    ·rw [z] at h2; cases h2
    ·rw [h2] at d1; simp only [Option.some.injEq] at d1; subst d1
     exact d9 p (by rcases Nat.lt_or_ge p bx.length with h' | h'; exact h'; rw [List.getElem?_eq_none h'] at hp; cases hp) HB.out.symm
  have hb2:w2.heap[b]? = some (.cells #[.pointer (some ⟨b,0,none⟩),v1] 152 (0,0)):=(k9 b (heap_lt hbk) hne).trans hbk
  have HW:=Lib.hid (HD.out w1 _ _ _ _ _ _ hI1 hE1 k2 k3 k4 k5 k6 k7 k8 k9 k10 rfl ⟨v1,hb2⟩ rfl)
  have d0:w2.cell? ⟨b,0,none⟩ = some (.pointer (some ⟨b,0,none⟩)):=by rw [Lib.cell_of_heap hb2]; rfl
  have d1:w2.cell? ⟨b,1,none⟩ = some v1:=by rw [Lib.cell_of_heap hb2]; rfl
  have f1:w2.frozen? ⟨b,1,none⟩ = false:=Lib.frozen_of_heap hb2 1
  obtain ⟨ao,cp,rfl,_⟩:=sl_form k4
  clear k2 k3 k4 k5 k6 k7 k8 k9 k10 hI hI1 hE0 hE1 hF1 HD o1 o2 o3 o4 o5 hr1
  go_wp2_with (at_builtin; refine wpList_append_run rfl _ _ 150 9 rfl _ _ _ _ rfl rfl k1 ?_)
  go_wp2
  go_ret2
  exact HF.out _ HW.out
set_option maxHeartbeats 400000 in
set_option maxRecDepth 100000 in
theorem wbyte_fn {bx:List (List PC)} {nt p t:Nat} {live:List Nat} {l:List UInt8} (s:UInt8) (hp:bx[p]? = some (bldC p t l)) (ht:t = 1 \/ t ∈ live) (hlen:l.length + 1 <= 4294967296) :
  FnG (env T hT) 179 [.ref p 0,.d (.v (.int .u8 s.toNat))] bx nt live (fun _ bx' nt' live' => bx' = bx.set p (bldC p nt (l ++ [s])) /\ nt' = nt + 1 /\ live' = nt :: live.filter (· != t)):=by
 intro C w vs hI hnt hold hn2 hl hv
 match vs,hl with
 | [a0,a1],_ =>
  have g0:=hv 0 _ _ rfl rfl; have g1:=hv 1 _ _ rfl rfl
  have e1:a1 = .int .u8 s.toNat:=by
   cases g1 with
   | d _ _ h => cases h; rfl
  have e0:a0 = .pointer (some ⟨C.bx p,0,none⟩):=by
   cases g0; rfl
  subst e0; subst e1
  obtain ⟨i0,hi,hz0,hz1,hz2⟩:=info_parts infoByteB
  obtain ⟨v1,hc,hr1⟩:=ccheck hI hp hT
  have HC:=Lib.hid hc; clear hc
  have hE0:=Ext.start hI hold
  have HF:=Lib.hid (fun w' (h:WrP C w bx live T p t (l ++ [s]) w') => show ∃ u x bx' nt' live' C',Ending.returned (.nilIface) = .returned u /\ (bx' = bx.set p (bldC p nt (l ++ [s])) /\ nt' = nt + 1 /\ live' = nt :: live.filter (· != t)) /\ Inv ngl T C' bx' (· ∈ live') w' /\ C'.nt = nt' /\ Ext C w C' bx'.length (· ∈ live') w' /\ RpV C' w' x u by
   obtain ⟨C',h1,h2,h3⟩:=h
   rw [hnt] at h1 h2 h3
   exact ⟨_,.raw _,_,_,_,C',rfl,⟨rfl,rfl,rfl⟩,h1,h2,h3,.raw _⟩)
  have HD:=Lib.hid (fun w1 w2 w' u self g cap hI1 hE1 => bld_done (C:=C) (w:=w) (w1:=w1) (w2:=w2) (w':=w') (u:=u) (self:=self) (g:=g) (cap:=cap) (l:=l) (l':=l ++ [s]) (bx:=bx) (live:=live) hT hI1 hE1 (by omega) hp)
  obtain ⟨b,hb⟩:∃ b,b = C.bx p:=⟨_,rfl⟩
  rw [<- hb] at HC HD ⊢
  have HB:=Lib.hid hb; clear hb
  show Calls Tryz.prog 179 #[.pointer (some ⟨b,0,none⟩),.int .u8 s.toNat] w _
  go_enter Tryz.func179,Tryz.ntmps179
  go_wp2_with (go_at_call 177; refine HC.out.mono ?_)
  rintro e1 w0 rfl ⟨hI1,hF1,o1,o2,o3,o4,o5,hbk⟩
  have hplt:p < bx.length:=by
   rcases Nat.lt_or_ge p bx.length with h' | h'
   ·exact h'
   ·rw [List.getElem?_eq_none h'] at hp; cases hp
  have hE1:Ext C w C bx.length (· ∈ live) w0:=hE0.step (CxLe.refl C) hF1 o1 o2 o3 (by omega) (fun k _ hne _ => o5 k fun h => hne p (by rw [hI.nb]; exact hplt) (by rw [h]; exact HB.out.symm)) (fun b o x => .inl x) hE0.newT hE0.newB
  obtain ⟨w1,hw1⟩:∃ w1,w1 = w0.alloc (.cells #[.int .u8 s.toNat] 5):=⟨_,rfl⟩
  have hI2:Inv ngl T C bx (· ∈ live) w1:=by rw [hw1]; exact hI1.alloc hT _
  have hF2:Fix C w0 w1:=by rw [hw1]; exact fix_alloc hI1.fin _
  have hE2:Ext C w C bx.length (· ∈ live) w1:=hE1.step (CxLe.refl C) hF2 (by rw [hw1]; rfl) (by rw [hw1]; rfl) (by rw [hw1]; rfl) (by rw [hw1]; simp) (fun k hk _ _ => by rw [hw1]; exact heap_alloc_old w0 _ (by have:=hE1.size; omega)) (fun b o x => .inl x) hE1.newT hE1.newB
  have hcell:w1.cell? ⟨w0.heap.size,0,none⟩ = some (.int .u8 s.toNat):=by rw [hw1,Lib.cell_of_heap (heap_alloc_new w0 _)]; rfl
  have hbk1:w1.heap[b]? = some (.cells #[.pointer (some ⟨b,0,none⟩),v1] 152 (0,0)):=by rw [hw1]; exact (heap_alloc_old w0 _ (heap_lt hbk)).trans hbk
  have c0:w1.cell? ⟨b,0,none⟩ = some (.pointer (some ⟨b,0,none⟩)):=by rw [Lib.cell_of_heap hbk1]; rfl
  have c1:w1.cell? ⟨b,1,none⟩ = some v1:=by rw [Lib.cell_of_heap hbk1]; rfl
  have c2:w0.cell? ⟨b,1,none⟩ = some v1:=by rw [Lib.cell_of_heap hbk]; rfl
  obtain ⟨u,w2,g,cap,k1,k2,k3,k4,k5,k6,k7,k8,k9,k10⟩:=appc_run (P:=Tryz.prog) hT hI2 (by omega) (t:=150) (e:=5) (i:=i0) Tryz.underlying150 hi hz0 hz1 hz2 ((hr1.frame (CxLe.refl C) hF1).frame (CxLe.refl C) hF2) ht s (cy:=1) hcell (by rw [pcB_len]; exact hlen) (pcB_wid l) 150
  have hcat:pcB l ++ pcB [s] = pcB (l ++ [s]):=by simp [pcB]
  rw [hcat] at k2 k4
  have hne:g ≠ some b:=fun h => by
   rcases k10 b h with ⟨h1,_⟩ | ⟨h1,h2⟩
   ·have:=heap_lt hbk1; omega
   ·obtain ⟨_,_,⟨z,_⟩ | ⟨b',cur,e',d1,_,d3,_,_,_,_,_,_,d9⟩⟩:=hI2.tok t h1
    ·rw [z] at h2; cases h2
    ·rw [h2] at d1; simp only [Option.some.injEq] at d1; subst d1
     exact d9 p hplt HB.out.symm
  have hb2:w2.heap[b]? = some (.cells #[.pointer (some ⟨b,0,none⟩),v1] 152 (0,0)):=(k9 b (heap_lt hbk1) hne).trans hbk1
  have HW:=Lib.hid (HD.out w1 _ _ _ _ _ _ hI2 hE2 k2 k3 k4 k5 k6 k7 k8 k9 k10 rfl ⟨v1,hb2⟩ rfl)
  have d0:w2.cell? ⟨b,0,none⟩ = some (.pointer (some ⟨b,0,none⟩)):=by rw [Lib.cell_of_heap hb2]; rfl
  have d1:w2.cell? ⟨b,1,none⟩ = some v1:=by rw [Lib.cell_of_heap hb2]; rfl
  have f1:w2.frozen? ⟨b,1,none⟩ = false:=Lib.frozen_of_heap hb2 1
  obtain ⟨ao,cp,rfl,_⟩:=sl_form k4
  clear k2 k3 k4 k5 k6 k7 k8 k9 k10 hI hI1 hI2 hE0 hE1 hE2 hF1 hF2 HD o1 o2 o3 o4 o5 hr1
  subst hw1
  go_wp2_with (at_builtin; refine wpList_append_run rfl _ _ 150 150 rfl _ _ _ _ rfl rfl k1 ?_)
  go_wp2
  go_ret
  exact HF.out _ HW.out
theorem cellsByteB:(Tryz.prog.cellsOf 5) = 1:=by kernel_rfl
set_option maxHeartbeats 400000 in
set_option maxRecDepth 100000 in
theorem bstr_fn {bx:List (List PC)} {nt p t:Nat} {live:List Nat} {l:List UInt8} (hl0:l ≠ []) (hp:bx[p]? = some (bldC p t l)) (ht:t = 1 \/ t ∈ live) :
  FnG (env T hT) 134 [.ref p 0] bx nt live (fun x bx' nt' live' => x = .d (pS l) /\ bx' = bx /\ nt' = nt /\ live' = live.filter (· != t)):=by
 intro C w vs hI hnt hold hn2 hl hv
 match vs,hl with
 | [a0],_ =>
  have g0:=hv 0 _ _ rfl rfl
  have e0:a0 = .pointer (some ⟨C.bx p,0,none⟩):=by
   cases g0; rfl
  subst e0
  obtain ⟨v0,v1,hh,hv0,h1,hU⟩:=bld_inv hI hp
  have hE0:=Ext.start hI hold
  have hne:pcB l ≠ []:=by simpa [pcB] using hl0
  have hpl:0 < l.length:=by cases l with | nil => exact absurd rfl hl0 | cons => simp
  obtain ⟨g,cap,cur,rfl,htl,htk,hg,hcp,hcm,hcs,hcell⟩:∃ g cap cur,v1 = .slice (some ⟨g,0,none⟩) l.length cap /\ t ∈ live /\ C.tk t = some g /\ w.heap[g]? = some (.cells cur 5 (0,0)) /\ l.length <= cap /\ cap <= maxLen /\ l.length <= cur.size /\ ∀ j x,l[j]? = some x -> w.cell? ((⟨g,0,none⟩:Addr).add j) = some (.int .u8 x.toNat):=by
   generalize hes:pcB l = es at h1 hne
   cases h1 with
   | emp => exact absurd rfl hne
   | nil => exact absurd rfl hne
   | nilo => exact absurd rfl hne
   | rd es b o n c u hl hc hr h =>
    rcases ht with h0 | h0
    ·cases h0
    ·have:=(hI.tok 0 h0).1; omega
   | own t es b u h2 hlt hb hlen hcl hc hr h =>
    have htl:t ∈ live:=ht.resolve_left (by omega)
    subst hes
    obtain ⟨_,_,⟨z,_⟩ | ⟨b',cur,e',d1,_,d3,d4,d5,d6,d7,_,_,_⟩⟩:=hI.tok t htl
    ·rw [hb] at z; cases z
    rw [hb] at d1; simp only [Option.some.injEq] at d1; subst d1
    obtain ⟨_,_,h3⟩:=hU.resolve_left (by omega)
    obtain ⟨cs,fz,h4⟩:=h3 b hb
    rw [d3] at h4; simp only [Option.some.injEq,Obj.cells.injEq] at h4
    obtain ⟨_,rfl,_⟩:=h4
    have hn1:C.tn t = 1:=by
     obtain ⟨d,hd⟩:=List.exists_mem_of_ne_nil _ hne
     rw [<- hr.wid d hd,pcB_wid l d hd]
    rw [hn1] at d4
    rw [pcB_len] at hcl ⊢
    refine ⟨b,C.cp t,cur,rfl,htl,hb,d3,hcl,hc,by omega,fun j x hx => ?_⟩
    have hj:j < l.length:=by
     rcases Nat.lt_or_ge j l.length with h' | h'
     ·exact h'
     ·rw [List.getElem?_eq_none h'] at hx; cases hx
    have q1:=hr.cell j 0 (by rw [pcB_len]; exact hj) (by omega)
    have q2:=h j 0 [.v (.int .u8 x.toNat)] _ (by simp [pcB,hx]) rfl
    rw [hn1,Nat.one_mul,Nat.add_zero,Nat.zero_add] at q1
    rw [add_plain,Nat.zero_add,q1]
    generalize u j 0 = y at q2
    cases q2; rfl
  obtain ⟨b,hb⟩:∃ b,b = C.bx p:=⟨_,rfl⟩
  obtain ⟨hId,hFd⟩:=hI.drewn hT (w.drawn + 1)
  obtain ⟨q1,q2,q3,q4,q5,q6,q7⟩:=hId.froze hT (n:=l.length) htl htk
  have hE1:Ext C w C bx.length (· ∈ live) { w with drawn:=w.drawn + 1 }:=hE0.step (CxLe.refl C) hFd rfl rfl rfl (Nat.le_refl _) (fun _ _ _ _ => rfl) (fun b o x => .inl x) hE0.newT hE0.newB
  have hE2:=hE1.step (CxLe.refl C) (live':=(· ∈ live.filter (· != t))) (nb':=bx.length) q2 q3 q4 q5 (by omega) (fun k hk hne ho => q7 k fun h => ho t (by rw [hold]; exact htl) (by rw [htk,h])) (fun b o x => .inl x) (fun s b hs hb => hE1.newT s b (List.mem_filter.1 hs).1 hb) hE1.newB
  have HF:=Lib.hid (show ∃ u x bx' nt' live' C',Ending.returned (.string ⟨l.toArray⟩) = .returned u /\ (x = .d (pS l) /\ bx' = bx /\ nt' = nt /\ live' = live.filter (· != t)) /\ Inv ngl T C' bx' (· ∈ live') (w.drew.freeze ⟨g,0,none⟩ l.length) /\ C'.nt = nt' /\ Ext C w C' bx'.length (· ∈ live') (w.drew.freeze ⟨g,0,none⟩ l.length) /\ RpV C' (w.drew.freeze ⟨g,0,none⟩ l.length) x u from ⟨_,_,bx,nt,_,C,rfl,⟨rfl,rfl,rfl,rfl⟩,q1,hnt,hE2,.d _ _ (.v _ rfl)⟩)
  rw [<- hb] at hh hv0 ⊢
  clear hb
  have c1:w.drew.cell? ⟨b,1,none⟩ = some (.slice (some ⟨g,0,none⟩) l.length cap):=by
   have:w.drew.heap[b]? = some (.cells #[v0,.slice (some ⟨g,0,none⟩) l.length cap] 152 (0,0)):=hh
   rw [Lib.cell_of_heap this]; rfl
  have hSD:(Builtin.unsafeSliceData_ #[150] 201 #[.slice (some ⟨g,0,none⟩) l.length cap]).run Tryz.prog w.drew = .ok (.pointer (some ⟨g,0,none⟩)) w.drew :=
   Lib.run_unsafeSliceData_row _ _ _ _ _ _ (by omega)
  have hUS:(Builtin.unsafeString_ #[201,3] 9 #[.pointer (some ⟨g,0,none⟩),.int .i64 l.length]).run Tryz.prog w.drew = .ok (.string ⟨l.toArray⟩) (w.drew.freeze ⟨g,0,none⟩ l.length):=by
   refine Lib.run_unsafeString_row w.drew 201 3 9 5 Tryz.underlying201 cellsByteB g cur.size (by have hg':w.drew.heap[g]? = some (.cells cur 5 (0,0)):=hg; simp [World.shape?,hg']) l hl0 (by omega) (by unfold maxLen at hcm; omega) ?_
   intro j x hx
   exact hcell j x hx
  clear q1 q2 q3 q4 q5 q6 q7 hE1 hE2 hE0 hI hId hFd hcell h1 hU hcs
  show Calls Tryz.prog 134 #[.pointer (some ⟨b,0,none⟩)] w _
  go_enter Tryz.func134,Tryz.ntmps134
  go_wp2
  go_region
  all_goals (go_wp2; go_ret; exact HF.out)
end
/- PvH2 -/
section
open Go.RowKit
variable {T:World -> Prop} {hT:Low ngl T}
attribute [local irreducible] po mw pt
def WrN (t:Nat) (live:List Nat) (nt:Nat) (t' nt':Nat) (live':List Nat):Prop:=(t' = 1 \/ t' ∈ live') /\ nt <= nt' /\ (∀ s ∈ live,s < nt -> s ≠ t -> s ∈ live') /\ (t' = t \/ nt <= t')
theorem WrN.step {t nt n1:Nat} {live l1:List Nat} (hn:nt <= n1) (hl:∀ s ∈ live,s ∈ l1):WrN t live nt n1 (n1 + 1) (n1 :: l1.filter (· != t)) :=
 ⟨.inr (List.mem_cons_self ..),by omega,fun s hs _ hne => List.mem_cons_of_mem _ (List.mem_filter.2 ⟨hl s hs,by simpa using hne⟩),.inr hn⟩
theorem WrN.trans {t t1 t2 nt n1 n2:Nat} {live l1 l2:List Nat} (h:WrN t live nt t1 n1 l1) (k:WrN t1 l1 n1 t2 n2 l2):WrN t live nt t2 n2 l2:=by
 obtain ⟨_,h2,h3,h4⟩:=h
 obtain ⟨k1,k2,k3,k4⟩:=k
 exact ⟨k1,by omega,fun s hs hlt hne => k3 s (h3 s hs hlt hne) (by omega) (by omega),by omega⟩
theorem WrN.refl {t nt:Nat} {live:List Nat} (h:t = 1 \/ t ∈ live):WrN t live nt t nt live:=⟨h,Nat.le_refl _,fun _ hs _ _ => hs,.inl rfl⟩
mutual
theorem er_lw:∀ {c:PC},c.er = c -> c.lw 0
 | .v _,_ => by simp only [PC.lw]
 | .bld _ _ _ _,h => by simp [PC.er] at h
 | .anyp,_ => by simp only [PC.lw]
 | .row _ _ _,h => by simp [PC.er] at h
 | .sl t es,h => by
  simp only [PC.er,PC.sl.injEq] at h
  simp only [PC.lw]
  exact erLL_lw h.2
theorem erL_lw:∀ {c:List PC},erL c = c -> lwL 0 c
 | [],_ => by simp only [lwL]
 | c :: cs,h => by
  simp only [erL,List.cons.injEq] at h
  simp only [lwL]
  exact ⟨er_lw h.1,erL_lw h.2⟩
theorem erLL_lw:∀ {c:List (List PC)},erLL c = c -> lwLL 0 c
 | [],_ => by simp only [lwLL]
 | c :: cs,h => by
  simp only [erLL,List.cons.injEq] at h
  simp only [lwLL]
  exact ⟨erL_lw h.1,erLL_lw h.2⟩
end
theorem lw_vC (v:V):lwL 0 (vC v):=erL_lw (vC_er v)
theorem V.wf_num {v:V} (h:v.wf):i64ok v.num:=by obtain ⟨k,n,e,s,kids⟩:=v; exact h.2.1
theorem V.wf_exp {v:V} (h:v.wf):i64ok v.exp:=by obtain ⟨k,n,e,s,kids⟩:=v; exact h.2.2.1
theorem bldC_ok (t:Nat) (l:List UInt8):∀ y ∈ bldC 0 t l,okC0 y:=by
 intro y hy
 simp only [bldC,List.mem_cons,List.mem_nil_iff,or_false] at hy
 rcases hy with rfl | rfl
 ·rfl
 ·show PC.lw 0 (.sl t (pcB l))
  simp only [PC.lw]
  unfold pcB
  induction l with
  | nil => simp [lwLL]
  | cons b l ih => simp only [List.map_cons,lwLL,lwL,PC.lw,true_and]; exact ih
theorem V.ok_kind9 {v:V} (h:v.ok = true) (h0:¬ v.kind = 0) (h1:¬ v.kind = 1) (h2:¬ v.kind = 2) (h3:¬ v.kind = 3) (h4:¬ v.kind = 4) (h5:¬ v.kind = 5) (h6:¬ v.kind = 6) (h7:¬ v.kind = 7) (h8:¬ v.kind = 8):v.kind = 9:=by
 obtain ⟨k,n,e,s,kids⟩:=v
 unfold V.ok at h
 simp only [V.rightBy,Bool.and_eq_true,decide_eq_true_eq] at h
 have h2':=h.1.2.2
 simp only [V.kind] at *
 simp only [V.selfBy] at h2'
 rw [if_neg (by omega)] at h2'
 simp only [h3,h4,h5,h6,h7,h8,if_false] at h2'
 split at h2'
 ·assumption
 ·cases h2'
def PmG (T:World -> Prop) (hT:Low ngl T) (v:V):Prop:=∀ (t nt:Nat) (live:List Nat) (l:List UInt8),(t = 1 \/ t ∈ live) -> l.length + (msg v).length <= 4294967296 ->
 FnG (env T hT) 133 [.ref 0 0,.ag (vC v)] [bldC 0 t l] nt live (fun x b n l' => ∃ c' rest,b = c' :: rest /\ x.lw 0 /\ (∀ y ∈ c',okC0 y) /\ ∃ t',c' = bldC 0 t' (l ++ msg v) /\ WrN t live nt t' n l')
def PmL (v:V) (l:List UInt8) (t nt:Nat) (live:List Nat) (m:Nat) (s:St):Prop:=∃ i:Nat,i <= v.kids.length /\ m = v.kids.length - i /\ has s.tm [(0,.ref 0 0),(91,.d (.sl 0 (vK v.kids))),(92,.d (pI v.kids.length)),(93,.d (pI i))] /\
 ∃ t' rest,s.bx = bldC 0 t' (l ++ (msgHd v ++ msgs (v.kids.take i))) :: vC v :: rest /\ WrN t live nt t' s.nt s.live
set_option maxHeartbeats 4000000 in
theorem pm_step {v:V} (hw:v.wf) (hk:v.ok = true) (hkid:∀ (i:Nat) (h:i < v.kids.length),PmG T hT v.kids[i]):PmG T hT v:=by
 intro t nt live l ht htot
 obtain ⟨hml,htl⟩:=V.ok_msg hk
 have hvlen:(vK v.kids).length = v.kids.length:=vK_len _
 have hkl:=V.ok_len hk
 have mm:=msgMany_len
 have wnum:i64ok v.num:=V.wf_num hw
 have wexp:i64ok v.exp:=V.wf_exp hw
 have hnum:=putNum_fn (T:=T) (hT:=hT) v.num wnum
 have hwide:=fun x k h hx => putw_fn (T:=T) (hT:=hT) x k h hx
 have hlen5:=fun n a b c d h1 h2 h3 => putLen_fn (T:=T) (hT:=hT) n a b c d h1 h2 h3
 have hM:(msg v).length = (msgHd v).length + (msgs v.kids).length:=by rw [msg_eq,List.length_append]
 have ht2:t = 1 \/ t ∈ nt :: live:=ht.imp id fun h => List.mem_cons_of_mem _ h
 refine fng_of (look_env lk_i_putMsg) (by show 2 <= 101; decide) fun B hB => ?_
 unfold m_i_putMsg
 refine mw_seq (mw_ops ?_)
 refine po_box rfl ?_
 refine po_nil ?_
 refine mw_cut (fun s => has s.tm [(0,.ref 0 0),(3,.ref 1 0)] /\ ∃ t',s.bx = [bldC 0 t' (l ++ msgHd v),vC v] /\ WrN t live nt t' s.nt s.live) ?_ ?_
 ·refine mw_seq (mw_ops ?_)
  iterate 2 (first | refine pm ?_ | refine pq ?_)
  refine po_nil ?_
  refine mw_block (mw_seq (mw_ops ?_))
  by_cases h0:v.kind = 0
  ·refine po_yes rfl rfl (decide_eq_true h0) ?_
   repeat' (first | refine pm ?_ | refine pq ?_ | refine px ?_ | refine po_zero ?_ | refine po_nil ?_)
   refine mwT ?_
   have e:msgHd v = [192]:=by unfold msgHd; simp [h0]
   have hlen:1 <= (msg v).length:=by rw [hM,e]; exact Nat.le_add_right 1 _
   refine mw_ops ?_
   first | refine pm ?_ | refine pq ?_
   refine po_g rfl (wbyte_fn 192 (l:=l) (t:=t) rfl ht (by omega)) ?_
   rintro x _ _ _ ⟨rfl,rfl,rfl⟩
   refine po_nil ?_
   exact ⟨⟨rfl,rfl,trivial⟩,nt,by rw [e]; rfl,WrN.step (Nat.le_refl _) fun _ h => h⟩
  refine po_no rfl rfl (decide_eq_false h0) ?_
  repeat' (first | refine pm ?_ | refine pq ?_ | refine px ?_ | refine po_zero ?_ | refine po_nil ?_)
  refine mwF ?_
  refine mw_seq (mw_ops ?_)
  by_cases h1:v.kind = 1
  ·refine po_yes rfl rfl (decide_eq_true h1) ?_
   repeat' (first | refine pm ?_ | refine pq ?_ | refine px ?_ | refine po_zero ?_ | refine po_nil ?_)
   refine mwT ?_
   have e:msgHd v = [194]:=by unfold msgHd; simp [h1]
   have hlen:1 <= (msg v).length:=by rw [hM,e]; exact Nat.le_add_right 1 _
   refine mw_ops ?_
   first | refine pm ?_ | refine pq ?_
   refine po_g rfl (wbyte_fn 194 (l:=l) (t:=t) rfl ht (by omega)) ?_
   rintro x _ _ _ ⟨rfl,rfl,rfl⟩
   refine po_nil ?_
   exact ⟨⟨rfl,rfl,trivial⟩,nt,by rw [e]; rfl,WrN.step (Nat.le_refl _) fun _ h => h⟩
  refine po_no rfl rfl (decide_eq_false h1) ?_
  repeat' (first | refine pm ?_ | refine pq ?_ | refine px ?_ | refine po_zero ?_ | refine po_nil ?_)
  refine mwF ?_
  refine mw_seq (mw_ops ?_)
  by_cases h2:v.kind = 2
  ·refine po_yes rfl rfl (decide_eq_true h2) ?_
   repeat' (first | refine pm ?_ | refine pq ?_ | refine px ?_ | refine po_zero ?_ | refine po_nil ?_)
   refine mwT ?_
   have e:msgHd v = [195]:=by unfold msgHd; simp [h2]
   have hlen:1 <= (msg v).length:=by rw [hM,e]; exact Nat.le_add_right 1 _
   refine mw_ops ?_
   first | refine pm ?_ | refine pq ?_
   refine po_g rfl (wbyte_fn 195 (l:=l) (t:=t) rfl ht (by omega)) ?_
   rintro x _ _ _ ⟨rfl,rfl,rfl⟩
   refine po_nil ?_
   exact ⟨⟨rfl,rfl,trivial⟩,nt,by rw [e]; rfl,WrN.step (Nat.le_refl _) fun _ h => h⟩
  refine po_no rfl rfl (decide_eq_false h2) ?_
  repeat' (first | refine pm ?_ | refine pq ?_ | refine px ?_ | refine po_zero ?_ | refine po_nil ?_)
  refine mwF ?_
  refine mw_seq (mw_ops ?_)
  by_cases h3:v.kind = 3
  ·refine po_yes rfl rfl (decide_eq_true h3) ?_
   repeat' (first | refine pm ?_ | refine pq ?_ | refine px ?_ | refine po_zero ?_ | refine po_nil ?_)
   refine mwT ?_
   have e:msgHd v = msgInt v.num:=by unfold msgHd; simp [h3]
   have hlen:(msgInt v.num).length <= (msg v).length:=by rw [hM,e]; exact Nat.le_add_right _ _
   refine mw_ops ?_
   iterate 3 (first | refine pm ?_ | refine pq ?_)
   refine po_call rfl hnum ?_
   refine po_g rfl (wstr_fn (msgInt v.num) (l:=l) (t:=t) rfl ht (by omega)) ?_
   rintro x _ _ _ ⟨rfl,rfl,rfl⟩
   refine po_nil ?_
   exact ⟨⟨rfl,rfl,trivial⟩,nt,by rw [e]; rfl,WrN.step (Nat.le_refl _) (fun _ h => h)⟩
  refine po_no rfl rfl (decide_eq_false h3) ?_
  repeat' (first | refine pm ?_ | refine pq ?_ | refine px ?_ | refine po_zero ?_ | refine po_nil ?_)
  refine mwF ?_
  refine mw_seq (mw_ops ?_)
  by_cases h5:v.kind = 5
  ·refine po_yes rfl rfl (decide_eq_true h5) ?_
   repeat' (first | refine pm ?_ | refine pq ?_ | refine px ?_ | refine po_zero ?_ | refine po_nil ?_)
   refine mwT ?_
   have e:msgHd v = msgMany v.text.length 32 160 217 218 ++ v.text:=by unfold msgHd; simp [h5]
   have hlen:(msgMany v.text.length 32 160 217 218 ++ v.text).length <= (msg v).length:=by rw [hM,e]; exact Nat.le_add_right _ _
   refine mw_ops ?_
   iterate 4 (first | refine pm ?_ | refine pq ?_)
   iterate 2 (first | refine pm ?_ | refine pq ?_)
   refine po_call (args:=[.d (pI v.text.length),.d (pI 160),.d (pI 32),.d (pI 217),.d (pI 218)]) rfl (hlen5 v.text.length 32 160 217 218 (by omega) (by omega) (by omega)) ?_
   refine po_cat (lb:=v.text) rfl rfl rfl (by have:=mm v.text.length 32 160 217 218; omega) ?_
   refine po_g rfl (wstr_fn (msgMany v.text.length 32 160 217 218 ++ v.text) (l:=l) (t:=t) rfl ht (by omega)) ?_
   rintro x _ _ _ ⟨rfl,rfl,rfl⟩
   refine po_nil ?_
   exact ⟨⟨rfl,rfl,trivial⟩,nt,by rw [e]; rfl,WrN.step (Nat.le_refl _) (fun _ h => h)⟩
  refine po_no rfl rfl (decide_eq_false h5) ?_
  repeat' (first | refine pm ?_ | refine pq ?_ | refine px ?_ | refine po_zero ?_ | refine po_nil ?_)
  refine mwF ?_
  refine mw_seq (mw_ops ?_)
  by_cases h6:v.kind = 6
  ·refine po_yes rfl rfl (decide_eq_true h6) ?_
   repeat' (first | refine pm ?_ | refine pq ?_ | refine px ?_ | refine po_zero ?_ | refine po_nil ?_)
   refine mwT ?_
   have e:msgHd v = msgMany v.text.length 0 0 196 197 ++ v.text:=by unfold msgHd; simp [h6]
   have hlen:(msgMany v.text.length 0 0 196 197 ++ v.text).length <= (msg v).length:=by rw [hM,e]; exact Nat.le_add_right _ _
   refine mw_ops ?_
   iterate 4 (first | refine pm ?_ | refine pq ?_)
   iterate 2 (first | refine pm ?_ | refine pq ?_)
   refine po_call (args:=[.d (pI v.text.length),.d (pI 0),.d (pI 0),.d (pI 196),.d (pI 197)]) rfl (hlen5 v.text.length 0 0 196 197 (by omega) (by omega) (by omega)) ?_
   refine po_cat (lb:=v.text) rfl rfl rfl (by have:=mm v.text.length 0 0 196 197; omega) ?_
   refine po_g rfl (wstr_fn (msgMany v.text.length 0 0 196 197 ++ v.text) (l:=l) (t:=t) rfl ht (by omega)) ?_
   rintro x _ _ _ ⟨rfl,rfl,rfl⟩
   refine po_nil ?_
   exact ⟨⟨rfl,rfl,trivial⟩,nt,by rw [e]; rfl,WrN.step (Nat.le_refl _) (fun _ h => h)⟩
  refine po_no rfl rfl (decide_eq_false h6) ?_
  repeat' (first | refine pm ?_ | refine pq ?_ | refine px ?_ | refine po_zero ?_ | refine po_nil ?_)
  refine mwF ?_
  refine mw_seq (mw_ops ?_)
  by_cases h7:v.kind = 7
  ·refine po_yes rfl rfl (decide_eq_true h7) ?_
   repeat' (first | refine pm ?_ | refine pq ?_ | refine px ?_ | refine po_zero ?_ | refine po_nil ?_)
   refine mwT ?_
   have e:msgHd v = msgMany v.kids.length 16 144 0 220:=by unfold msgHd; simp [h7]
   have hlen:(msgMany v.kids.length 16 144 0 220).length <= (msg v).length:=by rw [hM,e]; exact Nat.le_add_right _ _
   refine mw_ops ?_
   iterate 3 (first | refine pm ?_ | refine pq ?_)
   refine po_len (n:=v.kids.length) rfl rfl hvlen ?_
   refine po_call (args:=[.d (pI v.kids.length),.d (pI 144),.d (pI 16),.d (pI 0),.d (pI 220)]) rfl (hlen5 v.kids.length 16 144 0 220 (by omega) (by omega) (by omega)) ?_
   refine po_g rfl (wstr_fn (msgMany v.kids.length 16 144 0 220) (l:=l) (t:=t) rfl ht (by omega)) ?_
   rintro x _ _ _ ⟨rfl,rfl,rfl⟩
   refine po_nil ?_
   exact ⟨⟨rfl,rfl,trivial⟩,nt,by rw [e]; rfl,WrN.step (Nat.le_refl _) (fun _ h => h)⟩
  refine po_no rfl rfl (decide_eq_false h7) ?_
  repeat' (first | refine pm ?_ | refine pq ?_ | refine px ?_ | refine po_zero ?_ | refine po_nil ?_)
  refine mwF ?_
  refine mw_seq (mw_ops ?_)
  by_cases h8:v.kind = 8
  ·refine po_yes rfl rfl (decide_eq_true h8) ?_
   repeat' (first | refine pm ?_ | refine pq ?_ | refine px ?_ | refine po_zero ?_ | refine po_nil ?_)
   refine mwT ?_
   have e:msgHd v = msgMany ((v.kids.length / 2:Nat):Int) 16 128 0 222:=by unfold msgHd; simp [h8]
   have hlen:(msgMany ((v.kids.length / 2:Nat):Int) 16 128 0 222).length <= (msg v).length:=by rw [hM,e]; exact Nat.le_add_right _ _
   refine mw_ops ?_
   iterate 3 (first | refine pm ?_ | refine pq ?_)
   refine po_len (n:=v.kids.length) rfl rfl hvlen ?_
   refine po_q (v:=.d (pI ((v.kids.length / 2:Nat):Int))) rfl (by show some (PV.d (.v (.int .i64 (IntKind.wrap .i64 (((v.kids.length:Nat):Int).tdiv 2))))) = _; rw [show IntKind.wrap .i64 (((v.kids.length:Nat):Int).tdiv 2) = ((v.kids.length / 2:Nat):Int) by rw [IntKind.wrap_i64,Int.tdiv_eq_ediv_of_nonneg (by omega)]; omega]; rfl) ?_
   refine po_call (args:=[.d (pI ((v.kids.length / 2:Nat):Int)),.d (pI 128),.d (pI 16),.d (pI 0),.d (pI 222)]) rfl (hlen5 ((v.kids.length / 2:Nat):Int) 16 128 0 222 (by omega) (by omega) (by omega)) ?_
   refine po_g rfl (wstr_fn (msgMany ((v.kids.length / 2:Nat):Int) 16 128 0 222) (l:=l) (t:=t) rfl ht (by omega)) ?_
   rintro x _ _ _ ⟨rfl,rfl,rfl⟩
   refine po_nil ?_
   exact ⟨⟨rfl,rfl,trivial⟩,nt,by rw [e]; rfl,WrN.step (Nat.le_refl _) (fun _ h => h)⟩
  refine po_no rfl rfl (decide_eq_false h8) ?_
  repeat' (first | refine pm ?_ | refine pq ?_ | refine px ?_ | refine po_zero ?_ | refine po_nil ?_)
  refine mwF ?_
  refine mw_seq (mw_ops ?_)
  by_cases h4:v.kind = 4
  ·refine po_yes rfl rfl (decide_eq_true h4) ?_
   repeat' (first | refine pm ?_ | refine pq ?_ | refine px ?_ | refine po_zero ?_ | refine po_nil ?_)
   refine mwT ?_
   have e:msgHd v = [199,9,4] ++ be 1 (lo64 v.exp) ++ be 8 (lo64 v.num):=by unfold msgHd; simp [h4]
   have hlen:([199,9,4] ++ be 1 (lo64 v.exp) ++ be 8 (lo64 v.num)).length <= (msg v).length:=by rw [hM,e]; exact Nat.le_add_right _ _
   refine mw_tree ?_
   refine pt_node ?_
   first | refine pm ?_ | refine pq ?_
   first | refine pm ?_ | refine pq ?_
   first | refine pm ?_ | refine pq ?_
   first | refine pm ?_ | refine pq ?_
   first | refine pm ?_ | refine pq ?_
   refine po_nil ?_
   refine pt_more ?_
   refine pt_alt ?_ ?_
   ·refine po_lit (es:=[[.v (.int .u8 199)],[.v (.int .u8 9)],[.v (.int .u8 4)]]) rfl ?_
    refine po_nil ?_
    refine pt_node ?_
    first | refine pm ?_ | refine pq ?_
    refine po_nil ?_
    refine pt_more ?_
    refine pt_alt ?_ pt_leaf
    refine po_call rfl (hwide v.exp 1 (by omega) wexp) ?_
    refine po_nil ?_
    refine pt_node ?_
    refine po_cat (la:=[199,9,4]) (lb:=be 1 (lo64 v.exp)) rfl rfl rfl (by rw [be_length]; simp) ?_
    refine po_nil ?_
    refine pt_more ?_
    refine pt_alt ?_ pt_leaf
    refine po_call rfl (hwide v.num 8 (by omega) wnum) ?_
    refine po_nil ?_
    refine pt_node ?_
    refine po_cat (la:=[199,9,4] ++ be 1 (lo64 v.exp)) (lb:=be 8 (lo64 v.num)) rfl rfl rfl (by rw [List.length_append,be_length,be_length]; simp) ?_
    refine po_nil ?_
    refine pt_more ?_
    refine pt_alt ?_ pt_leaf
    refine po_g rfl (wstr_fn ([199,9,4] ++ be 1 (lo64 v.exp) ++ be 8 (lo64 v.num)) (l:=l) (t:=t) rfl ht2 (by omega)) ?_
    rintro x _ _ _ ⟨rfl,rfl,rfl⟩
    refine po_nil ?_
    refine pt_node ?_
    refine po_nil ?_
    refine pt_last ?_
    exact ⟨⟨rfl,rfl,trivial⟩,nt + 1,by rw [e]; rfl,WrN.step (Nat.le_succ _) fun _ h => List.mem_cons_of_mem _ h⟩
   refine pt_alt ?_ pt_leaf
   refine po_call rfl (hwide v.exp 1 (by omega) wexp) ?_
   refine po_nil ?_
   refine pt_node ?_
   refine po_nil ?_
   refine pt_more ?_
   refine pt_alt ?_ ?_
   ·refine po_lit (es:=[[.v (.int .u8 199)],[.v (.int .u8 9)],[.v (.int .u8 4)]]) rfl ?_
    refine po_nil ?_
    refine pt_node ?_
    first | refine pm ?_ | refine pq ?_
    refine po_cat (la:=[199,9,4]) (lb:=be 1 (lo64 v.exp)) rfl rfl rfl (by rw [be_length]; simp) ?_
    refine po_nil ?_
    refine pt_more ?_
    refine pt_alt ?_ pt_leaf
    refine po_call rfl (hwide v.num 8 (by omega) wnum) ?_
    refine po_nil ?_
    refine pt_node ?_
    refine po_cat (la:=[199,9,4] ++ be 1 (lo64 v.exp)) (lb:=be 8 (lo64 v.num)) rfl rfl rfl (by rw [List.length_append,be_length,be_length]; simp) ?_
    refine po_nil ?_
    refine pt_more ?_
    refine pt_alt ?_ pt_leaf
    refine po_g rfl (wstr_fn ([199,9,4] ++ be 1 (lo64 v.exp) ++ be 8 (lo64 v.num)) (l:=l) (t:=t) rfl ht2 (by omega)) ?_
    rintro x _ _ _ ⟨rfl,rfl,rfl⟩
    refine po_nil ?_
    refine pt_node ?_
    refine po_nil ?_
    refine pt_last ?_
    exact ⟨⟨rfl,rfl,trivial⟩,nt + 1,by rw [e]; rfl,WrN.step (Nat.le_succ _) fun _ h => List.mem_cons_of_mem _ h⟩
   refine pt_alt ?_ pt_leaf
   refine po_call rfl (hwide v.num 8 (by omega) wnum) ?_
   refine po_nil ?_
   refine pt_node ?_
   refine po_nil ?_
   refine pt_more ?_
   refine pt_alt ?_ pt_leaf
   refine po_lit (es:=[[.v (.int .u8 199)],[.v (.int .u8 9)],[.v (.int .u8 4)]]) rfl ?_
   refine po_nil ?_
   refine pt_node ?_
   first | refine pm ?_ | refine pq ?_
   refine po_cat (la:=[199,9,4]) (lb:=be 1 (lo64 v.exp)) rfl rfl rfl (by rw [be_length]; simp) ?_
   refine po_cat (la:=[199,9,4] ++ be 1 (lo64 v.exp)) (lb:=be 8 (lo64 v.num)) rfl rfl rfl (by rw [List.length_append,be_length,be_length]; simp) ?_
   refine po_nil ?_
   refine pt_more ?_
   refine pt_alt ?_ pt_leaf
   refine po_g rfl (wstr_fn ([199,9,4] ++ be 1 (lo64 v.exp) ++ be 8 (lo64 v.num)) (l:=l) (t:=t) rfl ht2 (by omega)) ?_
   rintro x _ _ _ ⟨rfl,rfl,rfl⟩
   refine po_nil ?_
   refine pt_node ?_
   refine po_nil ?_
   refine pt_last ?_
   exact ⟨⟨rfl,rfl,trivial⟩,nt + 1,by rw [e]; rfl,WrN.step (Nat.le_succ _) fun _ h => List.mem_cons_of_mem _ h⟩
  refine po_no rfl rfl (decide_eq_false h4) ?_
  repeat' (first | refine pm ?_ | refine pq ?_ | refine px ?_ | refine po_zero ?_ | refine po_nil ?_)
  refine mwF ?_
  refine mw_seq (mw_ops ?_)
  have h9:v.kind = 9:=V.ok_kind9 hk h0 h1 h2 h3 h4 h5 h6 h7 h8
  refine po_yes rfl rfl (decide_eq_true h9) ?_
  repeat' (first | refine pm ?_ | refine pq ?_ | refine px ?_ | refine po_zero ?_ | refine po_nil ?_)
  refine mwT ?_
  have e:msgHd v = [199,4,6] ++ be 4 (lo64 v.num):=by unfold msgHd; simp [h9]
  have hlen:([199,4,6] ++ be 4 (lo64 v.num)).length <= (msg v).length:=by rw [hM,e]; exact Nat.le_add_right _ _
  refine mw_tree ?_
  refine pt_node ?_
  first | refine pm ?_ | refine pq ?_
  first | refine pm ?_ | refine pq ?_
  first | refine pm ?_ | refine pq ?_
  refine po_nil ?_
  refine pt_more ?_
  refine pt_alt ?_ ?_
  ·refine po_lit (es:=[[.v (.int .u8 199)],[.v (.int .u8 4)],[.v (.int .u8 6)]]) rfl ?_
   refine po_nil ?_
   refine pt_node ?_
   first | refine pm ?_ | refine pq ?_
   refine po_nil ?_
   refine pt_more ?_
   refine pt_alt ?_ pt_leaf
   refine po_call rfl (hwide v.num 4 (by omega) wnum) ?_
   refine po_nil ?_
   refine pt_node ?_
   refine po_cat (la:=[199,4,6]) (lb:=be 4 (lo64 v.num)) rfl rfl rfl (by rw [be_length]; simp) ?_
   refine po_nil ?_
   refine pt_more ?_
   refine pt_alt ?_ pt_leaf
   refine po_g rfl (wstr_fn ([199,4,6] ++ be 4 (lo64 v.num)) (l:=l) (t:=t) rfl ht2 (by omega)) ?_
   rintro x _ _ _ ⟨rfl,rfl,rfl⟩
   refine po_nil ?_
   refine pt_node ?_
   refine po_nil ?_
   refine pt_last ?_
   exact ⟨⟨rfl,rfl,trivial⟩,nt + 1,by rw [e]; rfl,WrN.step (Nat.le_succ _) fun _ h => List.mem_cons_of_mem _ h⟩
  refine pt_alt ?_ pt_leaf
  refine po_call rfl (hwide v.num 4 (by omega) wnum) ?_
  refine po_nil ?_
  refine pt_node ?_
  refine po_nil ?_
  refine pt_more ?_
  refine pt_alt ?_ pt_leaf
  refine po_lit (es:=[[.v (.int .u8 199)],[.v (.int .u8 4)],[.v (.int .u8 6)]]) rfl ?_
  refine po_nil ?_
  refine pt_node ?_
  first | refine pm ?_ | refine pq ?_
  refine po_cat (la:=[199,4,6]) (lb:=be 4 (lo64 v.num)) rfl rfl rfl (by rw [be_length]; simp) ?_
  refine po_nil ?_
  refine pt_more ?_
  refine pt_alt ?_ pt_leaf
  refine po_g rfl (wstr_fn ([199,4,6] ++ be 4 (lo64 v.num)) (l:=l) (t:=t) rfl ht2 (by omega)) ?_
  rintro x _ _ _ ⟨rfl,rfl,rfl⟩
  refine po_nil ?_
  refine pt_node ?_
  refine po_nil ?_
  refine pt_last ?_
  exact ⟨⟨rfl,rfl,trivial⟩,nt + 1,by rw [e]; rfl,WrN.step (Nat.le_succ _) fun _ h => List.mem_cons_of_mem _ h⟩
 rintro tm bx nt1 live1 ⟨ht0,t1,hbx,hW⟩
 obtain ⟨tm0,rfl⟩:=has_ups ht0
 simp only at hbx hW; subst hbx
 clear ht0
 refine mw_seq (mw_ops ?_)
 iterate 2 (first | refine pm ?_ | refine pq ?_)
 refine po_len (n:=v.kids.length) rfl rfl hvlen ?_
 repeat' (first | refine pm ?_ | refine pq ?_ | refine px ?_ | refine po_zero ?_ | refine po_nil ?_)
 refine mw_block ?_
 refine mw_while (PmL v l t nt live) v.kids.length ⟨0,Nat.zero_le _,by simp,⟨rfl,rfl,rfl,rfl,trivial⟩,t1,[],by rw [List.take_zero]; show [bldC 0 t1 (l ++ msgHd v),vC v] = [bldC 0 t1 (l ++ (msgHd v ++ [])),vC v]; rw [List.append_nil],hW⟩ ?_
 rintro m tm bx n2 live2 ⟨i,hi,rfl,ht0,t2,rest,hbx,hV⟩
 obtain ⟨tm0,rfl⟩:=has_ups ht0
 simp only at hbx hV; subst hbx
 clear ht0
 refine mw_seq (mw_ops ?_)
 refine po_b rfl rfl (fun b hb => ?_)
 refine po_nil ?_
 refine mw_seq ?_
 refine mw_cd (p:=(i:Int) < (v.kids.length:Int)) hb rfl (fun h _ => ?_) (fun h _ => ?_)
 ·have hil:i < v.kids.length:=by omega
  have hT1:=msgs_take hil
  have hL:=msgs_take_len (i + 1) v.kids
  rw [hT1,List.length_append] at hL
  refine mw_skip ?_
  refine mw_seq (mw_block (mw_seq (mw_ops ?_)))
  refine po_ix (es:=vK v.kids) (e:=vC v.kids[i]) rfl rfl rfl ⟨by omega,by rw [Int.toNat_natCast]; exact vK_get hil⟩ rfl ?_
  first | refine pm ?_ | refine pq ?_
  refine po_nw (cs:=vC v.kids[i]) rfl rfl rfl rfl ?_
  refine po_nil ?_
  refine mw_ops ?_
  first | refine pm ?_ | refine pq ?_
  refine po_ldx (cs:=vC v.kids[i]) (v:=.ag (vC v.kids[i])) rfl rfl (gl_last (bldC 0 t2 (l ++ (msgHd v ++ msgs (v.kids.take i))) :: vC v :: rest) _) (Nat.le_refl 5) rfl ?_
  refine po_g rfl (FnG.liftM (p:=0) (hkid i hil t2 n2 live2 (l ++ (msgHd v ++ msgs (v.kids.take i))) hV.1 (by simp only [List.length_append] at *; omega)) ⟨lw_vC _,trivial⟩ (bldC_ok _ _) rfl) ?_
  rintro x _ n3 live3 ⟨c',rfl,t3,rfl,hW2⟩
  refine po_nil ?_
  refine mw_ops ?_
  refine po_add (n:=((i + 1:Nat):Int)) rfl rfl rfl (by omega) (by omega) ?_
  repeat' (first | refine pm ?_ | refine pq ?_ | refine px ?_ | refine po_zero ?_ | refine po_nil ?_)
  refine ⟨v.kids.length - (i + 1),by omega,i + 1,hil,rfl,⟨rfl,rfl,rfl,rfl,trivial⟩,t3,rest ++ [vC v.kids[i]],?_,hV.trans hW2⟩
  rw [hT1]; simp only [List.append_assoc]; rfl
 ·refine mw_exit ?_
  have hie:i = v.kids.length:=by omega
  subst hie
  refine ⟨.inl rfl,[],rfl,_,_,rfl,?_,bldC_ok t2 _,t2,?_,hV⟩
  ·trivial
  ·rw [List.take_length,msg_eq]
end
/- PvH3 -/
section
open Go.RowKit
variable {T:World -> Prop} {hT:Low ngl T}
attribute [local irreducible] po mw pt
theorem pm_all:∀ (N:Nat) (v:V),v.nodes <= N -> v.wf -> v.ok = true -> PmG T hT v
 | 0,v,hn,_,_ => by obtain ⟨k,n,e,s,kids⟩:=v; simp only [V.nodes] at hn; omega
 | N + 1,v,hn,hw,hk => pm_step hw hk fun i h => pm_all N v.kids[i] (V.nodes_kid hn i h) (V.wf_kid hw i h) (V.ok_kid hk i h)
theorem V.ok_right {v:V} (h:v.ok = true):v.rightBy pairsOk 12 = true:=by
 unfold V.ok at h; simp only [Bool.and_eq_true] at h; exact h.1
theorem msg_ne {v:V} (hw:v.wf) (h:v.ok = true):msg v ≠ []:=by
 obtain ⟨b,t,_,_,e⟩:=msg_top (V.ok_right h) (V.ok_len h) (V.wf_num hw)
 rw [e]; exact fun h => by cases h
theorem putMsgI_fn (hTab:∀ w,T w -> Tabs w) (v:V) (hw:v.wf) (hb:v.bulk <= 4294967295):FnV (env T hT) 128 [.ag (vC v)] (.d (pS (msgTop v))):=by
 have hvok:=voki_fn (T:=T) (hT:=hT) hTab v hw hb
 have hpm:=fun hk => pm_all (T:=T) (hT:=hT) v.nodes v (Nat.le_refl _) hw hk
 refine fn_of (look_env lk_i_PutMsg) (by show 1 <= 10; decide) fun B hB => ?_
 unfold m_i_PutMsg
 refine mw_seq (mw_ops ?_)
 repeat' (first | refine pm ?_ | refine pq ?_ | refine px ?_ | refine po_zero ?_ | refine po_nil ?_)
 refine mw_seq (mw_seq (mw_ops ?_))
 first | refine pm ?_ | refine pq ?_
 refine po_call (vC_arg v) hvok ?_
 repeat' (first | refine pm ?_ | refine pq ?_ | refine px ?_ | refine po_zero ?_ | refine po_nil ?_)
 unfold msgTop
 by_cases hk:v.ok = true
 ·rw [if_pos hk,hk]
  refine mwF ?_
  refine mw_skip ?_
  refine mw_seq (mw_ops ?_)
  refine po_zbld ?_
  refine po_nil ?_
  refine mw_seq (mw_ops ?_)
  first | refine pm ?_ | refine pq ?_
  have hml:=V.ok_msg hk
  refine po_g rfl (FnG.liftM (p:=1) (hpm hk 1 _ _ [] (.inl rfl) (by rw [msg_eq,List.length_append]; simp only [List.length_nil]; omega)) ⟨lw_vC _,trivial⟩ (bldC_ok 1 []) rfl) ?_
  rintro x _ n1 live1 ⟨c',rfl,t1,rfl,hW⟩
  refine po_nil ?_
  refine mw_seq (mw_ops ?_)
  refine po_g rfl (bstr_fn (p:=1) (t:=t1) (l:=[] ++ msg v) (msg_ne hw hk) rfl hW.1) ?_
  rintro x _ _ _ ⟨rfl,rfl,rfl,rfl⟩
  repeat' (first | refine pm ?_ | refine pq ?_ | refine px ?_ | refine po_zero ?_ | refine po_nil ?_)
  exact mw_ret ⟨.inr rfl,_,rfl,rfl⟩
 ·have hk':v.ok = false:=by simpa using hk
  rw [if_neg hk,hk']
  refine mwT ?_
  refine mw_seq (mw_ops ?_)
  repeat' (first | refine pm ?_ | refine pq ?_ | refine px ?_ | refine po_zero ?_ | refine po_nil ?_)
  exact mw_ret ⟨.inr rfl,_,rfl,rfl⟩
end
/- PvI4 -/
section
open Go.RowKit
variable {T:World -> Prop} {hT:Low ngl T}
attribute [local irreducible] po mw pt
theorem headI_fn (m n:Int) (hm:0 <= m /\ m <= 7) (hn:0 <= n /\ n <= 18446744073709551615):FnV (env T hT) 132 [.d (pI m),.d (.v (.int .u64 n))] (.d (pS (hd m.toNat n.toNat))):=by
 refine FnV.old rfl fun w C vs hF _ _ hlen hv => ?_
 match vs,hlen with
 | [x,y],_ =>
  have h1:=pI_inv (hv 0 _ _ rfl rfl); have h2:=pI_inv (hv 1 _ _ rfl rfl)
  subst h1; subst h2
  exact putHead_impl m n w hm hn
def DnI (ns:List (List UInt8)) (vs:List V) (m:Nat) (s:St):Prop:=∃ i t:Nat,i <= ns.length /\ m = ns.length - i /\ has s.tm [(1,.ref 0 0),(3,.ref 1 0),(15,.d (pSs ns)),(16,.d (pI ns.length)),(17,.d (pI i))] /\ s.bx = [dC ns vs,bldC 1 t (hd 4 ns.length ++ nmsT (ns.take i))] /\ (t = 1 \/ t ∈ s.live)
def DvI (ns:List (List UInt8)) (vs:List V) (m:Nat) (s:St):Prop:=∃ (i t:Nat) (rest:List (List PC)),i <= vs.length /\ m = vs.length - i /\ has s.tm [(3,.ref 1 0),(36,.d (.sl 0 (vK vs))),(37,.d (pI vs.length)),(38,.d (pI i))] /\ s.bx = dC ns vs :: bldC 1 t (hd 4 ns.length ++ nmsT ns ++ hd 4 vs.length ++ msgs (vs.take i)) :: rest /\ (t = 1 \/ t ∈ s.live)
set_option maxHeartbeats 2000000 in
theorem putDictI_fn (ns:List (List UInt8)) (vs:List V) (hn:nmsB ns = true) (hv:tabB vs = true) (d4:∀ v ∈ vs,v.wf):FnV (env T hT) 69 [.ag (dC ns vs)] (.d (pS (dictT ns vs))):=by
 have hhd:=fun (m n:Nat) (h:m <= 7 /\ n <= 18446744073709551615) => headI_fn (T:=T) (hT:=hT) m n (by omega) (by omega)
 obtain ⟨n1,n2⟩:=nmsB_ok hn
 obtain ⟨v1,v2⟩:=tabB_ok hv
 have hd4:=hd_length 4 ns.length
 have hd4v:=hd_length 4 vs.length
 have ht0:=nmsT_small hn
 have hm0:=msgs_small hv
 have htN:=nmsT_small hn ns.length
 rw [List.take_length] at htN
 refine fn_of (look_env lk_i_putDict) (by show 1 <= 46; decide) fun B hB => ?_
 unfold m_i_putDict
 refine mw_seq (mw_ops ?_)
 repeat' (first | refine pm ?_ | refine pq ?_ | refine px ?_ | refine po_zero ?_ | refine po_nil ?_)
 refine mw_seq (mw_ops ?_)
 refine po_zbld ?_
 refine po_nil ?_
 refine mw_seq (mw_ops ?_)
 iterate 2 (first | refine pm ?_ | refine pq ?_)
 refine po_len (n:=ns.length) rfl rfl (pSr_len ns) ?_
 refine po_cv (n:=(ns.length:Int)) rfl rfl (by rw [IntKind.wrap_u64]; omega) ?_
 refine po_call (args:=[.d (pI (4:Nat)),.d (.v (.int .u64 (ns.length:Nat)))]) rfl (hhd 4 ns.length (by omega)) ?_
 refine po_g rfl (wstr_fn (hd 4 ns.length) (p:=1) (l:=[]) (t:=1) rfl (.inl rfl) (by simp only [List.length_nil]; omega)) ?_
 rintro x b2 nt2 l2 ⟨rfl,rfl,rfl⟩
 refine po_nil ?_
 refine mw_cut (fun s => has s.tm [(1,.ref 0 0),(3,.ref 1 0)] /\ ∃ t,s.bx = [dC ns vs,bldC 1 t (hd 4 ns.length ++ nmsT ns)] /\ (t = 1 \/ t ∈ s.live)) ?_ ?_
 ·refine mw_seq (mw_ops ?_)
  iterate 2 (first | refine pm ?_ | refine pq ?_)
  refine po_len (n:=ns.length) rfl rfl (pSr_len ns) ?_
  repeat' (first | refine pm ?_ | refine pq ?_ | refine px ?_ | refine po_zero ?_ | refine po_nil ?_)
  refine mw_block ?_
  refine mw_while (DnI ns vs) ns.length ⟨0,_,Nat.zero_le _,rfl,⟨rfl,rfl,rfl,rfl,rfl,trivial⟩,by rw [List.take_zero]; show _ = [dC ns vs,bldC 1 _ (hd 4 ns.length ++ [])]; rw [List.append_nil]; rfl,.inr (List.mem_cons_self ..)⟩ ?_
  rintro m tm bx nt live ⟨i,t,hi,rfl,ht,hbx,htl⟩
  obtain ⟨tm0,rfl⟩:=has_ups ht
  simp only at hbx htl; subst hbx
  refine mw_seq (mw_ops ?_)
  refine po_b rfl rfl (fun b hb => ?_)
  refine po_nil ?_
  refine mw_seq ?_
  refine mw_cd (p:=(i:Int) < ns.length) hb rfl (fun h _ => ?_) (fun h _ => ?_)
  ·have hil:i < ns.length:=by omega
   have hnl:=n2 _ (List.getElem_mem hil)
   have hh3:=hd_length 3 ns[i].length
   have hti:=ht0 i
   refine mw_skip ?_
   refine mw_seq (mw_block (mw_seq (mw_ops ?_)))
   refine po_ix (es:=pSr ns) (e:=[pS ns[i]]) rfl rfl rfl ⟨by omega,by rw [Int.toNat_natCast]; exact pSr_get hil⟩ rfl ?_
   repeat' (first | refine pm ?_ | refine pq ?_ | refine px ?_ | refine po_zero ?_ | refine po_nil ?_)
   refine mw_ops ?_
   first | refine pm ?_ | refine pq ?_
   refine po_q (v:=.d (pI ns[i].length)) rfl rfl ?_
   refine po_cv (n:=(ns[i].length:Int)) rfl rfl (by rw [IntKind.wrap_u64]; omega) ?_
   refine po_call (args:=[.d (pI (3:Nat)),.d (.v (.int .u64 (ns[i].length:Nat)))]) rfl (hhd 3 ns[i].length (by omega)) ?_
   first | refine pm ?_ | refine pq ?_
   refine po_cat (la:=hd 3 ns[i].length) (lb:=ns[i]) rfl rfl rfl (by omega) ?_
   refine po_g rfl (wstr_fn (hd 3 ns[i].length ++ ns[i]) (p:=1) (l:=hd 4 ns.length ++ nmsT (ns.take i)) (t:=t) rfl htl (by simp only [List.length_append]; omega)) ?_
   rintro x b3 nt3 l3 ⟨rfl,rfl,rfl⟩
   refine po_nil ?_
   refine mw_ops ?_
   refine po_add (n:=((i + 1:Nat):Int)) rfl rfl rfl (by omega) (by omega) ?_
   repeat' (first | refine pm ?_ | refine pq ?_ | refine px ?_ | refine po_zero ?_ | refine po_nil ?_)
   exact ⟨ns.length - (i + 1),by omega,i + 1,_,hil,rfl,⟨rfl,rfl,rfl,rfl,rfl,trivial⟩,by rw [show hd 4 ns.length ++ nmsT (ns.take (i + 1)) = hd 4 ns.length ++ nmsT (ns.take i) ++ (hd 3 ns[i].length ++ ns[i]) by rw [nmsT_take hil,List.append_assoc]]; rfl,.inr (List.mem_cons_self ..)⟩
  ·refine mw_exit ?_
   have:i = ns.length:=by omega
   subst this
   exact ⟨⟨rfl,rfl,trivial⟩,t,by rw [List.take_length],htl⟩
 rintro tm bx nt live ⟨ht,t,hbx,htl⟩
 obtain ⟨tm0,rfl⟩:=has_ups ht
 simp only at hbx htl; subst hbx
 clear ht
 refine mw_seq (mw_ops ?_)
 iterate 2 (first | refine pm ?_ | refine pq ?_)
 refine po_len (n:=vs.length) rfl rfl (vK_len vs) ?_
 refine po_cv (n:=(vs.length:Int)) rfl rfl (by rw [IntKind.wrap_u64]; omega) ?_
 refine po_call (args:=[.d (pI (4:Nat)),.d (.v (.int .u64 (vs.length:Nat)))]) rfl (hhd 4 vs.length (by omega)) ?_
 refine po_g rfl (wstr_fn (hd 4 vs.length) (p:=1) (l:=hd 4 ns.length ++ nmsT ns) (t:=t) rfl htl (by simp only [List.length_append]; omega)) ?_
 rintro x b2 nt2 l2 ⟨rfl,rfl,rfl⟩
 refine po_nil ?_
 refine mw_cut (fun s => has s.tm [(3,.ref 1 0)] /\ ∃ t rest,s.bx = dC ns vs :: bldC 1 t (dictT ns vs) :: rest /\ (t = 1 \/ t ∈ s.live)) ?_ ?_
 ·refine mw_seq (mw_ops ?_)
  iterate 2 (first | refine pm ?_ | refine pq ?_)
  refine po_len (n:=vs.length) rfl rfl (vK_len vs) ?_
  repeat' (first | refine pm ?_ | refine pq ?_ | refine px ?_ | refine po_zero ?_ | refine po_nil ?_)
  refine mw_block ?_
  refine mw_while (DvI ns vs) vs.length ⟨0,_,[],Nat.zero_le _,rfl,⟨rfl,rfl,rfl,rfl,trivial⟩,by rw [List.take_zero]; show _ = [dC ns vs,bldC 1 _ (hd 4 ns.length ++ nmsT ns ++ hd 4 vs.length ++ [])]; rw [List.append_nil]; rfl,.inr (List.mem_cons_self ..)⟩ ?_
  rintro m tm bx nt live ⟨i,t,rest,hi,rfl,ht,hbx,htl⟩
  obtain ⟨tm0,rfl⟩:=has_ups ht
  simp only at hbx htl; subst hbx
  refine mw_seq (mw_ops ?_)
  refine po_b rfl rfl (fun b hb => ?_)
  refine po_nil ?_
  refine mw_seq ?_
  refine mw_cd (p:=(i:Int) < vs.length) hb rfl (fun h _ => ?_) (fun h _ => ?_)
  ·have hil:i < vs.length:=by omega
   have hmem:=List.getElem_mem hil
   have hok:=v2 _ hmem
   have hmi:=hm0 i
   have hml:=msg_okLen hok
   have hpm:=pm_all (T:=T) (hT:=hT) vs[i].nodes vs[i] (Nat.le_refl _) (d4 _ hmem) hok
   refine mw_skip ?_
   refine mw_seq (mw_block (mw_seq (mw_ops ?_)))
   refine po_ix (es:=vK vs) (e:=vC vs[i]) rfl rfl rfl ⟨by omega,by rw [Int.toNat_natCast]; exact vK_get hil⟩ rfl ?_
   refine po_q (v:=.ag (vC vs[i])) rfl rfl ?_
   refine po_nw (cs:=vC vs[i]) rfl rfl rfl rfl ?_
   refine po_nil ?_
   refine mw_ops ?_
   refine po_ldx (cs:=vC vs[i]) (v:=.ag (vC vs[i])) rfl rfl (gl_last (dC ns vs :: bldC 1 t (hd 4 ns.length ++ nmsT ns ++ hd 4 vs.length ++ msgs (vs.take i)) :: rest) _) (Nat.le_of_ble_eq_true rfl) rfl ?_
   refine po_g rfl (FnG.liftM (p:=1) (hpm t nt live (hd 4 ns.length ++ nmsT ns ++ hd 4 vs.length ++ msgs (vs.take i)) htl (by simp only [List.length_append]; omega)) ⟨lw_vC _,trivial⟩ (bldC_ok _ _) rfl) ?_
   rintro x b3 nt3 l3 ⟨c',rfl,t3,rfl,hW2⟩
   refine po_nil ?_
   refine mw_ops ?_
   refine po_add (n:=((i + 1:Nat):Int)) rfl rfl rfl (by omega) (by omega) ?_
   repeat' (first | refine pm ?_ | refine pq ?_ | refine px ?_ | refine po_zero ?_ | refine po_nil ?_)
   exact ⟨vs.length - (i + 1),by omega,i + 1,t3,rest ++ [vC vs[i]],hil,rfl,⟨rfl,rfl,rfl,rfl,trivial⟩,by rw [msgs_take2 hil,<- List.append_assoc]; rfl,hW2.1⟩
  ·refine mw_exit ?_
   have:i = vs.length:=by omega
   subst this
   exact ⟨⟨rfl,trivial⟩,t,rest,by rw [List.take_length]; rfl,htl⟩
 rintro tm bx nt live ⟨ht,t,rest,hbx,htl⟩
 obtain ⟨tm0,rfl⟩:=has_ups ht
 simp only at hbx htl; subst hbx
 have hne:dictT ns vs ≠ []:=fun h => by have:=dictT_pos ns vs; rw [h] at this; simp at this
 refine mw_seq (mw_ops ?_)
 refine po_g rfl (bstr_fn (p:=1) (t:=t) (l:=dictT ns vs) hne rfl htl) ?_
 rintro x _ _ _ ⟨rfl,rfl,rfl,rfl⟩
 repeat' (first | refine pm ?_ | refine pq ?_ | refine px ?_ | refine po_zero ?_ | refine po_nil ?_)
 exact mw_ret ⟨.inr rfl,_,rfl,rfl⟩
theorem dats_d {ns:List (List UInt8)} {vs:List V} {cs:List PC} {a:PV} (ha:a = .ag cs) (he:erL cs = dC ns vs):PV.dats [a] = some [.ag (dC ns vs)]:=by subst ha; exact dats1 he
theorem dictOkI_fn (hTab:∀ w,T w -> Tabs w) (ns:List (List UInt8)) (vs:List V) (hD:DSm ns vs):FnV (env T hT) 68 [.ag (dC ns vs)] (.d (pB (dictB ns vs))):=by
 obtain ⟨d1,d2,d3,d4,d5⟩:=hD
 have hnm:=namesOkI_fn (T:=T) (hT:=hT) hTab ns d1 d2
 have htb:=tableOkI_fn (T:=T) (hT:=hT) hTab vs d3 d4 d5
 refine fn_of (look_env lk_i_DictOk) (by show 1 <= 17; decide) fun B hB => ?_
 unfold m_i_DictOk
 refine mw_seq (mw_ops ?_)
 repeat' (first | refine pm ?_ | refine pq ?_ | refine px ?_ | refine po_zero ?_ | refine po_nil ?_)
 refine mw_seq (mw_ops ?_)
 iterate 2 (first | refine pm ?_ | refine pq ?_)
 refine po_call (nms_arg ns) hnm ?_
 first | refine pm ?_ | refine pq ?_
 unfold dictB
 cases hn:nmsB ns with
 | false =>
  iterate 3 (refine po_skip rfl ?_)
  iterate 2 (first | refine pm ?_ | refine pq ?_)
  iterate 4 (refine po_skip rfl ?_)
  repeat' (first | refine pm ?_ | refine pq ?_ | refine px ?_ | refine po_zero ?_ | refine po_nil ?_)
  exact mw_ret ⟨.inr rfl,_,rfl,rfl⟩
 | true =>
 iterate 2 (first | refine pm ?_ | refine pq ?_)
 refine po_gcall (b:=true) (args:=[.d (.sl 0 (vK vs))]) rfl (fun _ => dats_tab rfl) (fun _ => htb) ?_
 iterate 2 (first | refine pm ?_ | refine pq ?_)
 cases hv:tabB vs with
 | false =>
  iterate 4 (refine po_skip rfl ?_)
  repeat' (first | refine pm ?_ | refine pq ?_ | refine px ?_ | refine po_zero ?_ | refine po_nil ?_)
  exact mw_ret ⟨.inr rfl,_,rfl,rfl⟩
 | true =>
 refine po_ldx (p:=0) (cs:=dC ns vs) (v:=.ag (dC ns vs)) rfl rfl rfl (Nat.le_of_ble_eq_true rfl) rfl ?_
 refine po_gcall (b:=true) (args:=[.ag (dC ns vs)]) rfl (fun _ => dats_d rfl (dC_er ns vs)) (fun _ => putDictI_fn ns vs hn hv d4) ?_
 refine po_q (v:=.d (pI (dictT ns vs).length)) rfl rfl ?_
 refine po_b rfl rfl (fun b hb => ?_)
 repeat' (first | refine pm ?_ | refine pq ?_ | refine px ?_ | refine po_zero ?_ | refine po_nil ?_)
 have:(true && true && decide ((dictT ns vs).length <= 60000)) = b:=by rw [hb]; simp only [Bool.true_and]; exact decide_eq_decide.2 (by omega)
 rw [this]
 exact mw_ret ⟨.inr rfl,_,rfl,rfl⟩
end
/- PvF5 -/
section
open Go.RowKit
open Go.Lib (validD)
variable {T:World -> Prop} {hT:Low ngl T}
attribute [local irreducible] po mw pt
def GmN (s:List UInt8) (i n nt:Nat) (live:List Nat) (x:PV) (nt':Nat) (live':List Nat):Prop :=
 ∃ (t:Nat) (ns:List (List UInt8)) (next:Int),x = .tup [.d (.sl t (pSr ns)),.d (pI next)] /\ 2 <= t /\ NewL nt nt' [.sl t (pSr ns)] /\ t ∈ live' /\ (∀ t ∈ live,2 <= t -> t < nt -> t ∈ live') /\ nt <= nt' /\ ns.length <= n /\ (∀ m ∈ ns,m.length <= s.length) /\
 (next = -1 \/ ∃ j:Nat,next = j /\ j <= s.length) /\ (∀ us:List (List UInt8),us.length = n -> (∀ u ∈ us,u.length <= 4294967295) -> At s i (nmsT us) -> ns = us /\ next = ((i + (nmsT us).length:Nat):Int))
def NmI (s:List UInt8) (i n nt:Nat) (live:List Nat) (m:Nat) (st:St):Prop:=∃ (k j t:Nat) (ns:List (List UInt8)),k <= n /\ m = n - k /\ has st.tm [(0,.d (pS s)),(1,.d (pI j)),(2,.d (pI n)),(8,.d (.sl t (pSr ns))),(9,.d (pI k))] /\ st.bx = [] /\
 2 <= t /\ OwnL st.nt st.live ([] ++ .sl t (pSr ns) :: []) /\ (∀ u ∈ toksL ([] ++ .sl t (pSr ns) :: []),nt <= u) /\ nt <= st.nt /\ (∀ t ∈ live,2 <= t -> t < nt -> t ∈ st.live) /\
 ns.length = k /\ j <= s.length /\ (∀ m ∈ ns,m.length <= s.length) /\ (∀ us:List (List UInt8),us.length = n -> (∀ u ∈ us,u.length <= 4294967295) -> At s i (nmsT us) -> us.take k = ns /\ j = i + (nmsT ns).length)
set_option maxHeartbeats 2000000 in
theorem names_g {s:List UInt8} (hs:s.length <= 2147483647) (i n nt:Nat) (live:List Nat) (hi:i <= s.length) (hn:n <= 1000) (hnt:2 <= nt) :
  FnG (env T hT) 61 [.d (pS s),.d (pI i),.d (pI n)] [] nt live (fun x _ n' l => x.lw 0 /\ GmN s i n nt live x n' l):=by
 refine fng_of (look_env lk_s_l14Names) (by show 3 <= 55; decide) fun B hB => ?_
 unfold m_s_l14Names
 refine mw_seq (mw_ops ?_)
 repeat' (first | refine pm ?_ | refine pq ?_ | refine px ?_ | refine po_zero ?_ | refine po_nil ?_)
 refine mw_seq (mw_ops ?_)
 refine po_lit (es:=[]) rfl ?_
 repeat' (first | refine pm ?_ | refine pq ?_ | refine px ?_ | refine po_zero ?_ | refine po_nil ?_)
 refine mw_cut (fun st => ∃ m,NmI s i n nt live m st /\ m = 0) ?_ ?_
 ·refine mw_seq (mw_ops ?_)
  repeat' (first | refine pm ?_ | refine pq ?_ | refine px ?_ | refine po_zero ?_ | refine po_nil ?_)
  refine mw_block ?_
  refine mw_while (NmI s i n nt live) n ⟨0,i,nt,[],Nat.zero_le _,rfl,⟨rfl,rfl,rfl,rfl,rfl,trivial⟩,rfl,hnt,(own_nil hnt live).1,(own_nil hnt live).2,Nat.le_succ _,fun t ht _ _ => List.mem_cons_of_mem _ ht,rfl,hi,(fun m hm => by cases hm),fun us _ _ _ => ⟨by simp,by simp [nmsT]⟩⟩ ?_
  rintro m tm bx n1 l1 ⟨k,j,t,ns,hk,rfl,ht,hbx,ht2,hown,hge,hn1,hlv,hnl,hj,hnb,hcp⟩
  obtain ⟨tm0,rfl⟩:=has_ups ht
  simp only at hbx hown hn1 hlv; subst hbx
  clear ht
  refine mw_seq (mw_seq (mw_ops ?_))
  iterate 2 (first | refine pm ?_ | refine pq ?_)
  refine po_b rfl rfl (fun b hb => ?_)
  refine po_nil ?_
  refine mw_cd (p:=(k:Int) < n) hb rfl (fun h _ => ?_) (fun h _ => ?_)
  ·have hkn:k < n:=by omega
   have hg:=ghead_fn (T:=T) (hT:=hT) s j (by unfold i64ok; omega) hs
   rw [getAt_nat] at hg
   have hstep:∀ us:List (List UInt8),us.length = n -> (∀ u ∈ us,u.length <= 4294967295) -> At s i (nmsT us) -> ∃ hku:k < us.length,us.take k = ns /\ j = i + (nmsT ns).length /\ getHd s j = some (3,us[k].length,j + (hd 3 us[k].length).length) /\ At s (j + (hd 3 us[k].length).length) us[k]:=by
    intro us h1 h2 h3
    obtain ⟨e1,e2⟩:=hcp us h1 h2 h3
    have hku:k < us.length:=by omega
    have hA:=nms_at h3 k hku
    rw [e1,<- e2] at hA
    have hul:=h2 _ (List.getElem_mem hku)
    exact ⟨hku,e1,e2,getHd_at (by decide) (by omega) hj hA.app.1,hA.app.2⟩
   have hown0:NewL nt n1 [.sl t (pSr ns)]:=⟨hown.own,hown.nd,fun u hu => ⟨hge u hu,(hown.mem u hu).2⟩⟩
   have htl:t ∈ l1:=(hown.mem t (by show t ∈ PC.toks (.sl t (pSr ns)) ++ []; rw [toks_sl2 ht2]; simp)).1
   have hlw:PV.lw 0 (.tup [.d (.sl t (pSr ns)),.d (pI (-1))]):=⟨(ownedL_lw hown0.own).1,trivial,trivial⟩
   have hfail:(∀ us:List (List UInt8),us.length = n -> (∀ u ∈ us,u.length <= 4294967295) -> ¬ At s i (nmsT us)) -> GmN s i n nt live (.tup [.d (.sl t (pSr ns)),.d (pI (-1))]) n1 l1:=fun hno =>
    ⟨t,ns,-1,rfl,ht2,hown0,htl,hlv,hn1,by omega,hnb,.inl rfl,fun us h1 h2 h3 => absurd h3 (hno us h1 h2)⟩
   refine mw_skip ?_
   refine mw_seq (mw_block (mw_seq (mw_ops ?_)))
   iterate 2 (first | refine pm ?_ | refine pq ?_)
   refine po_call rfl hg ?_
   repeat' (first | refine pm ?_ | refine pq ?_ | refine px ?_ | refine po_zero ?_ | refine po_nil ?_)
   refine mw_seq (mw_seq (mw_ops ?_))
   cases hr:getHd s j with
   | none =>
    have hF:=hfail fun us h1 h2 h3 => by
     obtain ⟨_,_,_,e,_⟩:=hstep us h1 h2 h3
     rw [hr] at e; cases e
    first | refine pm ?_ | refine pq ?_
    refine po_yes rfl rfl rfl ?_
    first | refine pm ?_ | refine pq ?_
    iterate 2 (refine po_skip rfl ?_)
    iterate 2 (first | refine pm ?_ | refine pq ?_)
    iterate 7 (refine po_skip rfl ?_)
    repeat' (first | refine pm ?_ | refine pq ?_ | refine px ?_ | refine po_zero ?_ | refine po_nil ?_)
    refine mwT ?_
    refine mw_seq (mw_ops ?_)
    repeat' (first | refine pm ?_ | refine pq ?_ | refine px ?_ | refine po_zero ?_ | refine po_nil ?_)
    exact mw_ret ⟨.inr rfl,[.d (.sl t (pSr ns)),.d (pI (-1))],rfl,hlw,hF⟩
   | some r =>
   obtain ⟨m,n',x⟩:=r
   obtain ⟨g1,g2,g3,g4,g5,g6⟩:=getHd_some hr
   first | refine pm ?_ | refine pq ?_
   refine po_no rfl rfl (decide_eq_false (show ¬ ((x:Nat):Int) < 0 by omega)) ?_
   iterate 2 (first | refine pm ?_ | refine pq ?_)
   by_cases h3:m = 3
   case neg =>
    have hF:=hfail fun us k1 k2 k3 => by
     obtain ⟨_,_,_,e,_⟩:=hstep us k1 k2 k3
     rw [hr] at e
     simp only [Option.some.injEq,Prod.mk.injEq] at e
     exact h3 e.1
    refine po_yes rfl rfl (by show (!decide ((m:Int) = 3)) = true; rw [decide_eq_false (by omega)]; rfl) ?_
    iterate 2 (first | refine pm ?_ | refine pq ?_)
    iterate 7 (refine po_skip rfl ?_)
    repeat' (first | refine pm ?_ | refine pq ?_ | refine px ?_ | refine po_zero ?_ | refine po_nil ?_)
    refine mwT ?_
    refine mw_seq (mw_ops ?_)
    repeat' (first | refine pm ?_ | refine pq ?_ | refine px ?_ | refine po_zero ?_ | refine po_nil ?_)
    exact mw_ret ⟨.inr rfl,[.d (.sl t (pSr ns)),.d (pI (-1))],rfl,hlw,hF⟩
   refine po_no rfl rfl (by show (!decide ((m:Int) = 3)) = false; rw [decide_eq_true (by omega)]; rfl) ?_
   iterate 4 (first | refine pm ?_ | refine pq ?_)
   refine po_q (v:=.d (pI s.length)) rfl rfl ?_
   first | refine pm ?_ | refine pq ?_
   refine po_sub (a:=(s.length:Int)) (b:=(x:Int)) (n:=(s.length:Int) - x) rfl rfl rfl rfl (by omega) ?_
   refine po_cv (n:=(s.length:Int) - x) rfl rfl (by rw [IntKind.wrap_u64]; omega) ?_
   by_cases hle:x + n' <= s.length
   case neg =>
    have hF:=hfail fun us k1 k2 k3 => by
     obtain ⟨hku,e1,e2,e,hA⟩:=hstep us k1 k2 k3
     rw [hr] at e
     simp only [Option.some.injEq,Prod.mk.injEq] at e
     have:=hA.len (by omega)
     omega
    refine po_yes rfl rfl (decide_eq_true (show ((n':Nat):Int) > (s.length:Int) - x by omega)) ?_
    repeat' (first | refine pm ?_ | refine pq ?_ | refine px ?_ | refine po_zero ?_ | refine po_nil ?_)
    refine mwT ?_
    refine mw_seq (mw_ops ?_)
    repeat' (first | refine pm ?_ | refine pq ?_ | refine px ?_ | refine po_zero ?_ | refine po_nil ?_)
    exact mw_ret ⟨.inr rfl,[.d (.sl t (pSr ns)),.d (pI (-1))],rfl,hlw,hF⟩
   refine po_no rfl rfl (decide_eq_false (show ¬ ((n':Nat):Int) > (s.length:Int) - x by omega)) ?_
   repeat' (first | refine pm ?_ | refine pq ?_ | refine px ?_ | refine po_zero ?_ | refine po_nil ?_)
   refine mwF ?_
   refine mw_skip ?_
   refine mw_seq (mw_ops ?_)
   iterate 2 (first | refine pm ?_ | refine pq ?_)
   refine po_cv (n:=(n':Int)) rfl rfl (by show IntKind.wrap .i64 ((n':Nat):Int) = _; rw [IntKind.wrap_i64]; omega) ?_
   refine po_add (a:=(x:Int)) (b:=(n':Int)) (n:=((x + n':Nat):Int)) rfl rfl rfl (by omega) (by omega) ?_
   repeat' (first | refine pm ?_ | refine pq ?_ | refine px ?_ | refine po_zero ?_ | refine po_nil ?_)
   refine mw_ops ?_
   iterate 4 (first | refine pm ?_ | refine pq ?_)
   refine po_slcs (a:=x) (b:=x + n') (rs:=(s.drop x).take n') rfl rfl (bound_nat (i:=(x:Int)) rfl rfl) (bound_nat rfl rfl) (by omega) (by rw [show x + n' - x = n' by omega]) ?_
   refine po_lit (es:=[[pS ((s.drop x).take n')]]) rfl ?_
   refine po_app (t:=t) (t':=n1) (es:=pSr ns) (ds:=[[pS ((s.drop x).take n')]]) rfl rfl (.inr (List.mem_cons_of_mem _ htl)) (by simp only [List.length_singleton,pSr_len]; omega) (fun e he => by simp only [List.mem_singleton] at he; subst he; rfl) (pSr_wid ns) ?_
   repeat' (first | refine pm ?_ | refine pq ?_ | refine px ?_ | refine po_zero ?_ | refine po_nil ?_)
   refine mw_ops ?_
   first | refine pm ?_ | refine pq ?_
   refine po_add (n:=((k + 1:Nat):Int)) rfl rfl rfl (by omega) (by omega) ?_
   repeat' (first | refine pm ?_ | refine pq ?_ | refine px ?_ | refine po_zero ?_ | refine po_nil ?_)
   have hpush:pSr (ns ++ [(s.drop x).take n']) = pSr ns ++ [[pS ((s.drop x).take n')]]:=by unfold pSr; rw [List.map_append]; rfl
   obtain ⟨o1,o2⟩:=own_grow (n2:=n1) (l2:=l1) hown (.inr ht2) hge hn1 (Nat.le_refl _) (by omega) (pS_new n1 n1 ((s.drop x).take n')) (fun t ht => by cases ht) (fun t ht _ _ => ht)
   rw [<- hpush] at o1 o2
   refine ⟨n - (k + 1),by omega,k + 1,x + n',n1 + 1,ns ++ [(s.drop x).take n'],hkn,rfl,⟨rfl,rfl,rfl,by rw [hpush]; rfl,rfl,trivial⟩,rfl,by omega,o1,o2,Nat.le_succ_of_le (Nat.le_succ_of_le hn1),live_grow (tk_ge (.inr ht2) hge) hn1 hlv (fun t ht _ _ => ht),by simp [hnl],hle,?_,fun us k1 k2 k3 => ?_⟩
   ·intro m hm
    rcases List.mem_append.1 hm with hm | hm
    ·exact hnb m hm
    ·simp only [List.mem_singleton] at hm; subst hm
     rw [List.length_take,List.length_drop]; omega
   ·obtain ⟨hku,e1,e2,e,hA⟩:=hstep us k1 k2 k3
    rw [hr] at e
    simp only [Option.some.injEq,Prod.mk.injEq] at e
    obtain ⟨_,e3,e4⟩:=e
    have hT:=hA.take
    rw [<- e4,<- e3] at hT
    refine ⟨by rw [List.take_succ_eq_append_getElem hku,e1,hT],?_⟩
    rw [hT,nmsT_app,List.length_append]
    simp only [nmsT,List.length_append,List.length_nil]
    omega
  ·refine mw_exit ?_
   exact ⟨0,⟨k,j,t,ns,hk,by omega,⟨rfl,rfl,rfl,rfl,rfl,trivial⟩,rfl,ht2,hown,hge,hn1,hlv,hnl,hj,hnb,hcp⟩,rfl⟩
 rintro tm bx n1 l1 ⟨m,⟨k,j,t,ns,hk,hmk,ht,hbx,ht2,hown,hge,hn1,hlv,hnl,hj,hnb,hcp⟩,hm0⟩
 obtain ⟨tm0,rfl⟩:=has_ups ht
 simp only at hbx hown hn1 hlv; subst hbx
 have hkn:k = n:=by omega
 subst hkn
 have hown0:NewL nt n1 [.sl t (pSr ns)]:=⟨hown.own,hown.nd,fun u hu => ⟨hge u hu,(hown.mem u hu).2⟩⟩
 have htl:t ∈ l1:=(hown.mem t (by show t ∈ PC.toks (.sl t (pSr ns)) ++ []; rw [toks_sl2 ht2]; simp)).1
 refine mw_seq (mw_ops ?_)
 repeat' (first | refine pm ?_ | refine pq ?_ | refine px ?_ | refine po_zero ?_ | refine po_nil ?_)
 refine mw_ret ⟨.inr rfl,[.d (.sl t (pSr ns)),.d (pI j)],rfl,⟨(ownedL_lw hown0.own).1,trivial,trivial⟩,t,ns,_,rfl,ht2,hown0,htl,hlv,hn1,by omega,hnb,.inr ⟨j,rfl,hj⟩,fun us k1 k2 k3 => ?_⟩
 obtain ⟨e1,e2⟩:=hcp us k1 k2 k3
 rw [List.take_of_length_le (by omega)] at e1
 subst e1
 exact ⟨rfl,by rw [e2]⟩
end
/- PvF6 -/
section
open Go.RowKit
open Go.Lib (validD)
variable {T:World -> Prop} {hT:Low ngl T}
attribute [local irreducible] po mw pt
def GmT (s:List UInt8) (i n nt:Nat) (live:List Nat) (x:PV) (nt':Nat) (live':List Nat):Prop :=
 ∃ (t:Nat) (rows:List (List PC)) (vs:List V) (next:Int),x = .tup [.d (.sl t rows),.d (pI next)] /\ 2 <= t /\ erLL rows = vK vs /\ OwnL nt' live' ([] ++ .sl t rows :: []) /\ (∀ u ∈ toksL ([] ++ .sl t rows :: []),nt <= u) /\ (∀ t ∈ live,2 <= t -> t < nt -> t ∈ live') /\ nt <= nt' /\ vs.length <= n /\ (∀ v ∈ vs,v.wf /\ v.ok = true) /\
 (next = -1 \/ ∃ j:Nat,next = j /\ j <= s.length) /\ (∀ us:List V,us.length = n -> (∀ u ∈ us,u.wf /\ u.ok = true) -> At s i (msgs us) -> vs = us /\ next = ((i + (msgs us).length:Nat):Int))
def TbI (s:List UInt8) (i n nt:Nat) (live:List Nat) (m:Nat) (st:St):Prop:=∃ (k j t:Nat) (rows:List (List PC)) (vs:List V),k <= n /\ m = n - k /\ has st.tm [(0,.d (pS s)),(1,.d (pI j)),(2,.d (pI n)),(8,.d (.sl t rows)),(9,.d (pI k))] /\
 2 <= t /\ erLL rows = vK vs /\ OwnL st.nt st.live ([] ++ .sl t rows :: []) /\ (∀ u ∈ toksL ([] ++ .sl t rows :: []),nt <= u) /\ nt <= st.nt /\ (∀ t ∈ live,2 <= t -> t < nt -> t ∈ st.live) /\
 vs.length = k /\ j <= s.length /\ (∀ v ∈ vs,v.wf /\ v.ok = true) /\ (∀ us:List V,us.length = n -> (∀ u ∈ us,u.wf /\ u.ok = true) -> At s i (msgs us) -> us.take k = vs /\ j = i + (msgs vs).length)
theorem lw_row {nt' t:Nat} {live:List Nat} {rows:List (List PC)} (h:OwnL nt' live ([] ++ .sl t rows :: [])) (n:Int):PV.lw 0 (.tup [.d (.sl t rows),.d (pI n)]):=⟨(ownedL_lw (n:=0) h.own).1,trivial,trivial⟩
set_option maxHeartbeats 2000000 in
theorem table_g {s:List UInt8} (hs:s.length <= 2147483647) (i n nt:Nat) (live:List Nat) (hi:i <= s.length) (hn:n <= 1000) (hnt:2 <= nt) :
  FnG (env T hT) 62 [.d (pS s),.d (pI i),.d (pI n)] [] nt live (fun x _ n' l => x.lw 0 /\ GmT s i n nt live x n' l):=by
 refine fng_of (look_env lk_s_l14Table) (by show 3 <= 34; decide) fun B hB => ?_
 unfold m_s_l14Table
 refine mw_seq (mw_ops ?_)
 repeat' (first | refine pm ?_ | refine pq ?_ | refine px ?_ | refine po_zero ?_ | refine po_nil ?_)
 refine mw_seq (mw_ops ?_)
 refine po_lit (es:=[]) rfl ?_
 repeat' (first | refine pm ?_ | refine pq ?_ | refine px ?_ | refine po_zero ?_ | refine po_nil ?_)
 refine mw_cut (fun st => ∃ m,TbI s i n nt live m st /\ m = 0) ?_ ?_
 ·refine mw_seq (mw_ops ?_)
  repeat' (first | refine pm ?_ | refine pq ?_ | refine px ?_ | refine po_zero ?_ | refine po_nil ?_)
  refine mw_block ?_
  refine mw_while (TbI s i n nt live) n ⟨0,i,nt,[],[],Nat.zero_le _,rfl,⟨rfl,rfl,rfl,rfl,rfl,trivial⟩,hnt,rfl,(own_nil hnt live).1,(own_nil hnt live).2,Nat.le_succ _,fun t ht _ _ => List.mem_cons_of_mem _ ht,rfl,hi,(fun m hm => by cases hm),fun us _ _ _ => ⟨by simp,by simp [msgs]⟩⟩ ?_
  rintro m tm bx n1 l1 ⟨k,j,t,rows,vs,hk,rfl,ht,ht2,hrows,hown,hge,hn1,hlv,hvl,hj,hvb,hcp⟩
  obtain ⟨tm0,rfl⟩:=has_ups ht
  simp only at hown hn1 hlv
  clear ht
  refine mw_seq (mw_seq (mw_ops ?_))
  iterate 2 (first | refine pm ?_ | refine pq ?_)
  refine po_b rfl rfl (fun b hb => ?_)
  refine po_nil ?_
  refine mw_cd (p:=(k:Int) < n) hb rfl (fun h _ => ?_) (fun h _ => ?_)
  ·have hkn:k < n:=by omega
   have hg:=getMsg_g (T:=T) (hT:=hT) hs (j:Int) n1 l1 (by omega)
   have hstep:∀ us:List V,us.length = n -> (∀ u ∈ us,u.wf /\ u.ok = true) -> At s i (msgs us) -> ∃ hku:k < us.length,us.take k = vs /\ j = i + (msgs vs).length /\ At s j (msg us[k]):=by
    intro us h1 h2 h3
    obtain ⟨e1,e2⟩:=hcp us h1 h2 h3
    have hku:k < us.length:=by omega
    have hA:=msgs_at2 h3 k hku
    rw [e1,<- e2] at hA
    exact ⟨hku,e1,e2,hA⟩
   refine mw_skip ?_
   refine mw_seq (mw_block (mw_seq (mw_ops ?_)))
   iterate 2 (first | refine pm ?_ | refine pq ?_)
   refine po_g rfl (FnG.lift0 (bx:=bx) hg ⟨trivial,trivial,trivial⟩) ?_
   rintro x b2 n2 l2 ⟨rfl,cs,next,rfl,hc5,hnew,hctk,hlv2,hn2,hres⟩
   iterate 3 (first | refine pm ?_ | refine pq ?_)
   refine po_nw (cs:=cs) rfl hc5 rfl rfl ?_
   first | refine pm ?_ | refine pq ?_
   refine po_nil ?_
   refine mw_seq (mw_seq (mw_ops ?_))
   first | refine pm ?_ | refine pq ?_
   refine po_b rfl rfl (fun b3 hb3 => ?_)
   refine po_nil ?_
   have hown2:OwnL n2 l2 ([] ++ .sl t rows :: []):=hown.mono2 hn2 hlv2
   refine mw_cd (p:=next < 0) hb3 rfl (fun h3 _ => ?_) (fun h3 _ => ?_)
   ·rcases hres with ⟨hnx,_,hno⟩ | ⟨k',v,_,_,_,_,hnx,_⟩
    case inr => omega
    refine mw_seq (mw_ops ?_)
    repeat' (first | refine pm ?_ | refine pq ?_ | refine px ?_ | refine po_zero ?_ | refine po_nil ?_)
    refine mw_ret ⟨.inr rfl,[.d (.sl t rows),.d (pI (-1))],rfl,lw_row hown2 _,t,rows,vs,-1,rfl,ht2,hrows,hown2,hge,(fun t ht h22 hlt => hlv2 t (hlv t ht h22 hlt) h22 (Nat.lt_of_lt_of_le hlt hn1)),Nat.le_trans hn1 hn2,by omega,hvb,.inl rfl,fun us k1 k2 k3 => ?_⟩
    obtain ⟨hku,e1,e2,hA⟩:=hstep us k1 k2 k3
    have hu:=k2 _ (List.getElem_mem hku)
    exact absurd hA (by have:=hno us[k] hu.1 hu.2 (by omega); rwa [Int.toNat_natCast] at this)
   ·rcases hres with ⟨hnx,_,_⟩ | ⟨j',v,hjj,hvw,hvo,hAt,hnx,hle,he,huniq⟩
    ·omega
    obtain rfl:j' = j:=by omega
    refine mw_skip ?_
    refine mw_seq (mw_ops ?_)
    first | refine pm ?_ | refine pq ?_
    refine po_ldw (p:=b2.length) (cs:=cs) rfl rfl (gl_last b2 cs) hc5 ?_
    refine po_lit (es:=[cs]) (by
     show (if cs.length = 5 then some [cs] else none) = some [cs]
     rw [if_pos hc5]) ?_
    have hrl:rows.length = vs.length:=by rw [erLL_len hrows,vK_len]
    refine po_app (t:=t) (t':=n2) (es:=rows) (ds:=[cs]) rfl rfl (.inr (List.mem_cons_of_mem _ (hown2.mem t (by show t ∈ PC.toks (.sl t rows) ++ []; rw [toks_sl2 ht2]; simp)).1)) (by simp only [List.length_singleton]; omega) (fun e he => by simp only [List.mem_singleton] at he; subst he; exact hc5) (fun e he => erLL_wid hrows (vK_wid vs) e he) ?_
    repeat' (first | refine pm ?_ | refine pq ?_ | refine px ?_ | refine po_zero ?_ | refine po_nil ?_)
    refine mw_ops ?_
    repeat' (first | refine pm ?_ | refine pq ?_ | refine px ?_ | refine po_zero ?_ | refine po_nil ?_)
    refine mw_ops ?_
    first | refine pm ?_ | refine pq ?_
    refine po_add (n:=((k + 1:Nat):Int)) rfl rfl rfl (by omega) (by omega) ?_
    repeat' (first | refine pm ?_ | refine pq ?_ | refine px ?_ | refine po_zero ?_ | refine po_nil ?_)
    obtain ⟨o1,o2⟩:=own_grow (n2:=n2) (l2:=l2) hown (.inr ht2) hge hn1 hn2 (by omega) hnew hctk hlv2
    refine ⟨n - (k + 1),by omega,k + 1,j' + (msg v).length,n2 + 1,rows ++ [cs],vs ++ [v],hkn,rfl,⟨rfl,by rw [<- hnx]; rfl,rfl,rfl,rfl,trivial⟩,by omega,?_,o1,o2,Nat.le_succ_of_le (Nat.le_succ_of_le (Nat.le_trans hn1 hn2)),live_grow (tk_ge (.inr ht2) hge) hn1 hlv hlv2,by simp [hvl],hle,?_,fun us k1 k2 k3 => ?_⟩
    ·rw [erLL_append,hrows,vK_eq,vK_eq,List.map_append]; simp only [erLL,he]; rfl
    ·intro u hu
     rcases List.mem_append.1 hu with hu | hu
     ·exact hvb u hu
     ·simp only [List.mem_singleton] at hu; subst hu; exact ⟨hvw,hvo⟩
    ·obtain ⟨hku,e1,e2,hA⟩:=hstep us k1 k2 k3
     have hu:=k2 _ (List.getElem_mem hku)
     have huv:=huniq us[k] hu.1 hu.2 hA
     refine ⟨by rw [List.take_succ_eq_append_getElem hku,e1,huv],?_⟩
     rw [msgs_app2,List.length_append]
     simp only [msgs,List.append_nil]
     omega
  ·refine mw_exit ?_
   exact ⟨0,⟨k,j,t,rows,vs,hk,by omega,⟨rfl,rfl,rfl,rfl,rfl,trivial⟩,ht2,hrows,hown,hge,hn1,hlv,hvl,hj,hvb,hcp⟩,rfl⟩
 rintro tm bx n1 l1 ⟨m,⟨k,j,t,rows,vs,hk,hmk,ht,ht2,hrows,hown,hge,hn1,hlv,hvl,hj,hvb,hcp⟩,hm0⟩
 obtain ⟨tm0,rfl⟩:=has_ups ht
 simp only at hown hn1 hlv
 have hkn:k = n:=by omega
 subst hkn
 refine mw_seq (mw_ops ?_)
 repeat' (first | refine pm ?_ | refine pq ?_ | refine px ?_ | refine po_zero ?_ | refine po_nil ?_)
 refine mw_ret ⟨.inr rfl,[.d (.sl t rows),.d (pI j)],rfl,lw_row hown _,t,rows,vs,_,rfl,ht2,hrows,hown,hge,hlv,hn1,by omega,hvb,.inr ⟨j,rfl,hj⟩,fun us k1 k2 k3 => ?_⟩
 obtain ⟨e1,e2⟩:=hcp us k1 k2 k3
 rw [List.take_of_length_le (by omega)] at e1
 subst e1
 exact ⟨rfl,by rw [e2]⟩
end
/- PvF7 -/
section
open Go.RowKit
open Go.Lib (validD)
variable {T:World -> Prop} {hT:Low ngl T}
attribute [local irreducible] po mw pt
def Good (s:List UInt8) (ns:List (List UInt8)) (vs:List V):Prop:=dictB ns vs = true /\ dictT ns vs = s /\ ∀ v ∈ vs,v.wf
theorem Good.at {s:List UInt8} {ns:List (List UInt8)} {vs:List V} (h:Good s ns vs):At s 0 (hd 4 ns.length) /\ At s (hd 4 ns.length).length (nmsT ns) /\ At s ((hd 4 ns.length).length + (nmsT ns).length) (hd 4 vs.length) /\ At s ((hd 4 ns.length).length + (nmsT ns).length + (hd 4 vs.length).length) (msgs vs) /\
  ns.length <= 100 /\ (∀ n ∈ ns,n.length <= 100) /\ vs.length <= 60 /\ (∀ v ∈ vs,v.wf /\ v.ok = true) /\ s.length <= 60000:=by
 obtain ⟨h1,rfl,h3⟩:=h
 unfold dictB at h1
 simp only [Bool.and_eq_true,decide_eq_true_eq] at h1
 obtain ⟨⟨n,v⟩,hl⟩:=h1
 obtain ⟨n1,n2⟩:=nmsB_ok n
 obtain ⟨v1,v2⟩:=tabB_ok v
 have hA:At (dictT ns vs) 0 (hd 4 ns.length ++ nmsT ns ++ hd 4 vs.length ++ msgs vs):=⟨[],by simp [dictT]⟩
 have a1:=hA.app.1.app.1.app
 have a2:=hA.app.1.app.2
 have a3:=hA.app.2
 simp only [List.length_append,Nat.zero_add] at a1 a2 a3
 exact ⟨a1.1,a1.2,a2,a3,n1,n2,v1,fun x hx => ⟨h3 x hx,v2 x hx⟩,hl⟩
def DictR (s:List UInt8) (nt:Nat) (live:List Nat) (x:PV) (nt':Nat) (live':List Nat):Prop :=
 ∃ (cs:List PC) (ok:Bool),x = .tup [.ag cs,.d (pB ok)] /\ cs.length = 2 /\ NewL nt nt' cs /\ (∀ t ∈ toksL cs,t ∈ live') /\ (∀ t ∈ live,2 <= t -> t < nt -> t ∈ live') /\ nt <= nt' /\
 ∃ (ns:List (List UInt8)) (vs:List V),erL cs = dC ns vs /\ (ok = true -> Good s ns vs) /\ (ok = false -> ns = [] /\ vs = []) /\ ∀ (ns':List (List UInt8)) (vs':List V),Good s ns' vs' -> ok = true /\ ns' = ns /\ vs' = vs
def d0:List PC:=[.sl 1 [],.sl 1 []]
theorem d0_new (a b:Nat):NewL a b d0:=⟨rfl,List.nodup_nil,fun t ht => by cases ht⟩
theorem dictR_no {s:List UInt8} {nt nt':Nat} {live live':List Nat} (h:∀ (ns':List (List UInt8)) (vs':List V),¬ Good s ns' vs') (hl:∀ t ∈ live,2 <= t -> t < nt -> t ∈ live') (hn:nt <= nt'):PV.lw 0 (.tup [.ag d0,.d (pB false)]) /\ DictR s nt live (.tup [.ag d0,.d (pB false)]) nt' live' :=
 ⟨⟨ownedL_lw (n:=0) (c:=d0) rfl,trivial,trivial⟩,d0,false,rfl,rfl,d0_new _ _,(fun t ht => by cases ht),hl,hn,[],[],rfl,(fun h => by cases h),fun _ => ⟨rfl,rfl⟩,fun ns' vs' h' => absurd h' (h ns' vs')⟩
set_option maxHeartbeats 2000000 in
theorem getDict_g {s:List UInt8} (hs:s.length <= 2147483647) (nt:Nat) (live:List Nat) (hnt:2 <= nt) :
  FnG (env T hT) 14 [.d (pS s)] [] nt live (fun x _ n' l => x.lw 0 /\ DictR s nt live x n' l):=by
 have hcn:=fun i max (hm:max <= 1000) (hi:i <= s.length) => cnt_fn (T:=T) (hT:=hT) s i max hm hi hs
 refine fng_of (look_env lk_s_GetDict) (by show 1 <= 63; decide) fun B hB => ?_
 unfold m_s_GetDict
 refine mw_seq (mw_ops ?_)
 repeat' (first | refine pm ?_ | refine pq ?_ | refine px ?_ | refine po_zero ?_ | refine po_nil ?_)
 refine mw_seq (mw_ops ?_)
 first | refine pm ?_ | refine pq ?_
 refine po_call (args:=[.d (pS s),.d (pI (0:Nat)),.d (pI (100:Nat))]) rfl (hcn 0 100 (by decide) (Nat.zero_le _)) ?_
 repeat' (first | refine pm ?_ | refine pq ?_ | refine px ?_ | refine po_zero ?_ | refine po_nil ?_)
 refine mw_seq (mw_seq (mw_ops ?_))
 first | refine pm ?_ | refine pq ?_
 cases hr:cntOf s 0 100 with
 | none =>
  refine po_yes rfl rfl rfl ?_
  repeat' (first | refine pm ?_ | refine pq ?_ | refine px ?_ | refine po_zero ?_ | refine po_nil ?_)
  refine mwT ?_
  refine mw_seq (mw_ops ?_)
  first | refine pm ?_ | refine pq ?_
  refine po_stw (p:=0) (cs:=d0) rfl rfl rfl rfl rfl rfl ?_
  repeat' (first | refine pm ?_ | refine pq ?_ | refine px ?_ | refine po_zero ?_ | refine po_nil ?_)
  refine mw_ret ⟨.inr rfl,[.ag d0,.d (pB false)],rfl,dictR_no (fun ns' vs' h => ?_) (fun t ht _ _ => ht) (Nat.le_refl _)⟩
  obtain ⟨g1,g2,g3,g4,g5,g6,g7,g8⟩:=h.at
  rw [cnt_at (Nat.zero_le _) g5 (by decide) g1] at hr
  cases hr
 | some r =>
 obtain ⟨k1,x1⟩:=r
 obtain ⟨q1,q2,q3⟩:=cnt_some hr
 have hc1:∀ ns' vs',Good s ns' vs' -> k1 = ns'.length /\ x1 = (hd 4 ns'.length).length:=fun ns' vs' h => by
  obtain ⟨g1,g2,g3,g4,g5,g6,g7,g8⟩:=h.at
  have:=cnt_at (Nat.zero_le _) g5 (by decide) g1
  rw [hr] at this
  simp only [Option.some.injEq,Prod.mk.injEq] at this
  omega
 refine po_no rfl rfl (decide_eq_false (show ¬ ((x1:Nat):Int) < 0 by omega)) ?_
 repeat' (first | refine pm ?_ | refine pq ?_ | refine px ?_ | refine po_zero ?_ | refine po_nil ?_)
 refine mwF ?_
 refine mw_skip ?_
 refine mw_seq (mw_ops ?_)
 iterate 3 (first | refine pm ?_ | refine pq ?_)
 refine po_g rfl (FnG.lift0 (names_g (T:=T) (hT:=hT) hs x1 k1 nt live q3 (by omega) hnt) (args:=[.d (pS s),.d (pI x1),.d (pI k1)]) ⟨trivial,trivial,trivial,trivial⟩) ?_
 rintro x _ n1 l1 ⟨rfl,t1,ns,next,rfl,ht1,hN1,htl1,hlv1,hn1,hnl,hnb,hnx,hcomp⟩
 have hc2:∀ ns' vs',Good s ns' vs' -> ns' = ns /\ next = (((hd 4 ns'.length).length + (nmsT ns').length:Nat):Int):=fun ns' vs' h => by
  obtain ⟨e1,e2⟩:=hc1 ns' vs' h
  obtain ⟨g1,g2,g3,g4,g5,g6,g7,g8⟩:=h.at
  obtain ⟨e3,e4⟩:=hcomp ns' (by omega) (fun u hu => Nat.le_trans (g6 u hu) (by decide)) (by rw [e2]; exact g2)
  exact ⟨e3.symm,by rw [e4,e2]⟩
 repeat' (first | refine pm ?_ | refine pq ?_ | refine px ?_ | refine po_zero ?_ | refine po_nil ?_)
 refine mw_seq (mw_seq (mw_ops ?_))
 first | refine pm ?_ | refine pq ?_
 refine po_b rfl rfl (fun b hb => ?_)
 refine po_nil ?_
 refine mw_cd (p:=next < 0) hb rfl (fun h3 _ => ?_) (fun h3 _ => ?_)
 ·refine mw_seq (mw_ops ?_)
  first | refine pm ?_ | refine pq ?_
  refine po_stw (p:=0) (cs:=d0) rfl rfl rfl rfl rfl rfl ?_
  repeat' (first | refine pm ?_ | refine pq ?_ | refine px ?_ | refine po_zero ?_ | refine po_nil ?_)
  exact mw_ret ⟨.inr rfl,[.ag d0,.d (pB false)],rfl,dictR_no (fun ns' vs' h => by have:=(hc2 ns' vs' h).2; omega) hlv1 hn1⟩
 obtain ⟨j,rfl,hj⟩:=hnx.resolve_left (by omega)
 refine mw_skip ?_
 refine mw_seq (mw_ops ?_)
 iterate 2 (first | refine pm ?_ | refine pq ?_)
 refine po_call (args:=[.d (pS s),.d (pI j),.d (pI (60:Nat))]) rfl (hcn j 60 (by decide) hj) ?_
 repeat' (first | refine pm ?_ | refine pq ?_ | refine px ?_ | refine po_zero ?_ | refine po_nil ?_)
 refine mw_seq (mw_seq (mw_ops ?_))
 first | refine pm ?_ | refine pq ?_
 cases hr2:cntOf s j 60 with
 | none =>
  refine po_yes rfl rfl rfl ?_
  repeat' (first | refine pm ?_ | refine pq ?_ | refine px ?_ | refine po_zero ?_ | refine po_nil ?_)
  refine mwT ?_
  refine mw_seq (mw_ops ?_)
  first | refine pm ?_ | refine pq ?_
  refine po_stw (p:=0) (cs:=d0) rfl rfl rfl rfl rfl rfl ?_
  repeat' (first | refine pm ?_ | refine pq ?_ | refine px ?_ | refine po_zero ?_ | refine po_nil ?_)
  refine mw_ret ⟨.inr rfl,[.ag d0,.d (pB false)],rfl,dictR_no (fun ns' vs' h => ?_) hlv1 hn1⟩
  obtain ⟨e1,e2⟩:=hc2 ns' vs' h
  obtain ⟨g1,g2,g3,g4,g5,g6,g7,g8⟩:=h.at
  rw [show (hd 4 ns'.length).length + (nmsT ns').length = j by omega] at g3
  rw [cnt_at hj g7 (by decide) g3] at hr2
  cases hr2
 | some r =>
 obtain ⟨k2,x2⟩:=r
 obtain ⟨p1,p2,p3⟩:=cnt_some hr2
 have hc3:∀ ns' vs',Good s ns' vs' -> ns' = ns /\ k2 = vs'.length /\ At s x2 (msgs vs'):=fun ns' vs' h => by
  obtain ⟨e1,e2⟩:=hc2 ns' vs' h
  obtain ⟨g1,g2,g3,g4,g5,g6,g7,g8⟩:=h.at
  rw [show (hd 4 ns'.length).length + (nmsT ns').length = j by omega] at g3 g4
  have:=cnt_at hj g7 (by decide) g3
  rw [hr2] at this
  simp only [Option.some.injEq,Prod.mk.injEq] at this
  exact ⟨e1,this.1,by rw [this.2]; exact g4⟩
 refine po_no rfl rfl (decide_eq_false (show ¬ ((x2:Nat):Int) < 0 by omega)) ?_
 repeat' (first | refine pm ?_ | refine pq ?_ | refine px ?_ | refine po_zero ?_ | refine po_nil ?_)
 refine mwF ?_
 refine mw_skip ?_
 refine mw_seq (mw_ops ?_)
 iterate 3 (first | refine pm ?_ | refine pq ?_)
 refine po_g rfl (FnG.lift0 (table_g (T:=T) (hT:=hT) hs x2 k2 n1 l1 p3 (by omega) (by omega)) (args:=[.d (pS s),.d (pI x2),.d (pI k2)]) ⟨trivial,trivial,trivial,trivial⟩) ?_
 rintro x _ n2 l2 ⟨rfl,t2,rows,vs,next2,rfl,ht2,hrows,hown2,hge2,hlv2,hn2,hvl,hvb,hnx2,hcomp2⟩
 have hc4:∀ ns' vs',Good s ns' vs' -> ns' = ns /\ vs' = vs /\ 0 <= next2:=fun ns' vs' h => by
  obtain ⟨e1,e2,e3⟩:=hc3 ns' vs' h
  obtain ⟨g1,g2,g3,g4,g5,g6,g7,g8,_⟩:=h.at
  obtain ⟨e4,e5⟩:=hcomp2 vs' e2.symm g8 e3
  exact ⟨e1,e4.symm,by omega⟩
 repeat' (first | refine pm ?_ | refine pq ?_ | refine px ?_ | refine po_zero ?_ | refine po_nil ?_)
 refine mw_seq (mw_ops ?_)
 iterate 2 (first | refine pm ?_ | refine pq ?_)
 first | refine pm ?_ | refine pq ?_
 have hlen2:[PC.sl t1 (pSr ns),.sl t2 rows].length = 2:=rfl
 refine po_nw (cs:=[.sl t1 (pSr ns),.sl t2 rows]) rfl hlen2 rfl rfl ?_
 refine po_nil ?_
 have her:erL [PC.sl t1 (pSr ns),.sl t2 rows] = dC ns vs:=by
  show [PC.sl 0 (erLL (pSr ns)),.sl 0 (erLL rows)] = _
  rw [pSr_er,hrows]; rfl
 have hDS:DSm ns vs:=⟨by omega,fun n hn => Nat.le_trans (hnb n hn) (by omega),by omega,fun v hv => (hvb v hv).1,fun v hv => Nat.le_trans (V.ok_bulk (hvb v hv).2) (by decide)⟩
 have hok:=dictOk_fn (T:=T) (hT:=hT) ns vs hDS
 have hpd:=putDict_fn (T:=T) (hT:=hT) ns vs hDS
 refine mw_seq ?_
 obtain ⟨f,hf⟩:∃ f:Bool,f = true ↔ ¬ (0 <= next2 /\ Good s ns vs):=by
  by_cases h:0 <= next2 /\ Good s ns vs
  ·exact ⟨false,by simp only [h,not_true]; decide⟩
  ·exact ⟨true,by simp only [h,not_false_iff]⟩
 refine mw_cut (fun st => has st.tm [(2,.ref 0 0),(10,.ref 1 0),(60,.d (pB f))] /\ st.bx = [d0,[PC.sl t1 (pSr ns),.sl t2 rows]] /\ st.nt = n2 /\ st.live = l2) ?_ ?_
 ·refine mw_ops ?_
  first | refine pm ?_ | refine pq ?_
  by_cases h4:next2 < 0
  ·have hft:f = true:=hf.2 (by omega)
   subst hft
   refine po_yes rfl rfl (decide_eq_true h4) ?_
   first | refine pm ?_ | refine pq ?_
   iterate 3 (refine po_skip rfl ?_)
   iterate 2 (first | refine pm ?_ | refine pq ?_)
   iterate 4 (refine po_skip rfl ?_)
   repeat' (first | refine pm ?_ | refine pq ?_ | refine px ?_ | refine po_zero ?_ | refine po_nil ?_)
   exact ⟨⟨rfl,rfl,rfl,trivial⟩,rfl,rfl,rfl⟩
  refine po_no rfl rfl (decide_eq_false h4) ?_
  first | refine pm ?_ | refine pq ?_
  refine po_ldw (p:=1) (cs:=[.sl t1 (pSr ns),.sl t2 rows]) rfl rfl rfl hlen2 ?_
  refine po_gcall (b:=true) (args:=[.ag (dC ns vs)]) rfl (fun _ => dats1 her) (fun _ => hok) ?_
  iterate 3 (first | refine pm ?_ | refine pq ?_)
  cases hdb:dictB ns vs with
  | false =>
   have hft:f = true:=hf.2 (fun h => by have:=h.2.1; rw [hdb] at this; cases this)
   subst hft
   iterate 4 (refine po_skip rfl ?_)
   repeat' (first | refine pm ?_ | refine pq ?_ | refine px ?_ | refine po_zero ?_ | refine po_nil ?_)
   exact ⟨⟨rfl,rfl,rfl,trivial⟩,rfl,rfl,rfl⟩
  | true =>
  refine po_ldw (p:=1) (cs:=[.sl t1 (pSr ns),.sl t2 rows]) rfl rfl rfl hlen2 ?_
  refine po_gcall (b:=true) (args:=[.ag (dC ns vs)]) rfl (fun _ => dats1 her) (fun _ => hpd) ?_
  first | refine pm ?_ | refine pq ?_
  refine po_ne (la:=dictP ns vs) (lb:=s) rfl rfl rfl ?_
  repeat' (first | refine pm ?_ | refine pq ?_ | refine px ?_ | refine po_zero ?_ | refine po_nil ?_)
  have hp:dictP ns vs = dictT ns vs:=by
   unfold dictP; unfold dictB at hdb
   rw [if_pos (by simp only [Bool.and_eq_true] at hdb ⊢; exact hdb.1)]
  have:decide (dictP ns vs ≠ s) = f:=by
   rw [Bool.eq_iff_iff,decide_eq_true_iff,hf,hp]
   constructor
   ·intro h1 h2; exact h1 h2.2.2.1
   ·intro h1 h2; exact h1 ⟨by omega,hdb,h2,fun v hv => (hvb v hv).1⟩
  exact ⟨⟨rfl,rfl,by rw [<- this]; rfl,trivial⟩,rfl,rfl,rfl⟩
 rintro tm bx n3 l3 ⟨ht,hbx,hnn,hll⟩
 obtain ⟨tm0,rfl⟩:=has_ups ht
 simp only at hbx hnn hll
 subst hbx; subst hnn; subst hll
 clear ht
 refine mw_cond (t:=f) rfl (fun hc => ?_) (fun hc => ?_)
 ·refine mw_seq (mw_ops ?_)
  first | refine pm ?_ | refine pq ?_
  refine po_stw (p:=0) (cs:=d0) rfl rfl rfl rfl rfl rfl ?_
  repeat' (first | refine pm ?_ | refine pq ?_ | refine px ?_ | refine po_zero ?_ | refine po_nil ?_)
  refine mw_ret ⟨.inr rfl,[.ag d0,.d (pB false)],rfl,dictR_no (fun ns' vs' h => ?_) (fun t ht h22 hlt => hlv2 t (hlv1 t ht h22 hlt) h22 (by omega)) (Nat.le_trans hn1 hn2)⟩
  obtain ⟨e1,e2,e3⟩:=hc4 ns' vs' h
  subst e1; subst e2
  exact hf.1 hc ⟨e3,h⟩
 ·have hgood:0 <= next2 /\ Good s ns vs:=Classical.byContradiction fun h => by rw [hf.2 h] at hc; cases hc
  refine mw_skip ?_
  refine mw_seq (mw_ops ?_)
  refine po_ldw (p:=1) (cs:=[.sl t1 (pSr ns),.sl t2 rows]) rfl rfl rfl hlen2 ?_
  refine po_stw (p:=0) (cs:=[.sl t1 (pSr ns),.sl t2 rows]) rfl rfl rfl hlen2 rfl rfl ?_
  repeat' (first | refine pm ?_ | refine pq ?_ | refine px ?_ | refine po_zero ?_ | refine po_nil ?_)
  have hk1:toksL [PC.sl t1 (pSr ns),.sl t2 rows] = toksL [PC.sl t1 (pSr ns)] ++ toksL [PC.sl t2 rows]:=by simp only [toksL,List.append_nil]
  have hown:NewL nt n3 [PC.sl t1 (pSr ns),.sl t2 rows]:=by
   refine ⟨?_,?_,fun t ht => ?_⟩
   ·have a:=hN1.own; have b:=hown2.own
    simp only [List.nil_append,ownedL,Bool.and_true] at a b
    simp only [ownedL,a,b,Bool.and_true]
   ·rw [hk1,List.nodup_append]
    refine ⟨hN1.nd,hown2.nd,fun a ha b hb e => ?_⟩
    have:=(hN1.mem a ha).2; have:=hge2 b hb; omega
   ·rw [hk1,List.mem_append] at ht
    rcases ht with ht | ht
    ·have:=hN1.mem t ht; omega
    ·have:=hge2 t ht; have:=(hown2.mem t ht).2; omega
  refine mw_ret ⟨.inr rfl,[.ag [.sl t1 (pSr ns),.sl t2 rows],.d (pB true)],ress_bt rfl rfl hlen2 rfl,⟨ownedL_lw hown.own,trivial,trivial⟩,_,true,rfl,rfl,hown,fun t ht => ?_,(fun t ht h22 hlt => hlv2 t (hlv1 t ht h22 hlt) h22 (by omega)),Nat.le_trans hn1 hn2,ns,vs,her,fun _ => hgood.2,(fun h => by cases h),fun ns' vs' h => ?_⟩
  ·rw [hk1,List.mem_append] at ht
   rcases ht with ht | ht
   ·have:t = t1:=by
     have h0:t ∈ PC.toks (.sl t1 (pSr ns)) ++ []:=ht
     rw [toks_sl2 ht1,pSr_tok] at h0
     simpa using h0
    subst this
    exact hlv2 t htl1 ht1 (hN1.mem t ht).2
   ·exact (hown2.mem t ht).1
  ·obtain ⟨e1,e2,e3⟩:=hc4 ns' vs' h
   exact ⟨rfl,e1,e2⟩
end
/- PvH4M -/
section
set_option maxRecDepth 100000
def m_i_GetMsg:M:=.seq (.ops [⟨some 4,.zero [.int .i64 0,.int .i64 0,.int .i64 0,.string ⟨[].toArray⟩,.slice none 0 0],none,[]⟩,
 qo 5 (.mv (ci 0))])
 (.seq (.seq (.ops [qo 8 (.mv (.t 1)),
 qo 9 (.mv (.t 0)),
 qo 10 (.lens (.t 9)),
 ⟨some 11,.call 126 [.t 8,ci 0,.t 10],none,[.f 1]⟩,
 qo 12 (.not (.t 11))])
 (.cond (.t 12) (.seq (.ops [⟨some 13,.build [.int .i64 0,.int .i64 0,.int .i64 0,.string ⟨[].toArray⟩,.slice none 0 0] [],none,[]⟩,
 ⟨none,.store 5 (.t 4) (.t 13),none,[]⟩,
 qo 5 (.mv (ci (-1)))])
 (.ret))
 (.skip)))
 (.seq (.ops [qo 14 (.mv (.t 0)),
 qo 15 (.mv (.t 1)),
 ⟨some 16,.build [.string ⟨[].toArray⟩,.int .i64 0,.int .i64 0,.bool false] [(0,1,.t 14),(1,1,.t 15)],none,[]⟩,
 qo 17 (.box (.t 16)),
 qo 6 (.mv (.t 17))])
 (.seq (.ops [qo 18 (.mv (.t 6)),
 ⟨some 19,.call 127 [.t 18,ci 0],none,[.f 1]⟩,
 ⟨some 7,.zero [.int .i64 0,.int .i64 0,.int .i64 0,.string ⟨[].toArray⟩,.slice none 0 0],none,[]⟩,
 ⟨none,.store 5 (.t 7) (.t 19),none,[]⟩])
 (.seq (.seq (.ops [qo 20 (.mv (.t 6)),
 qo 21 (.nilc (.t 20)),
 qo 22 (.fld 3 (.t 21)),
 qo 23 (.load false 1 (.t 22)),
 qo 24 (.mv (.t 23)),
 ⟨some 25,.load true 5 (.t 7),some (24,false),[]⟩,
 ⟨some 27,.mv (.t 0),some (24,false),[]⟩,
 ⟨some 28,.mv (.t 1),some (24,false),[]⟩,
 ⟨some 29,.mv (.t 6),some (24,false),[]⟩,
 ⟨some 30,.nilc (.t 29),some (24,false),[]⟩,
 ⟨some 31,.fld 1 (.t 30),some (24,false),[]⟩,
 ⟨some 32,.load false 1 (.t 31),some (24,false),[]⟩,
 ⟨some 33,.slcs (.t 27) (some (.t 28)) (some (.t 32)),some (24,false),[]⟩,
 ⟨some 26,.call 128 [.t 25],some (24,false),[.f 0,.t 31]⟩,
 ⟨some 34,.bin .neq false (.t 26) (.t 33),some (24,false),[]⟩,
 qo 35 (.pick (.t 24) (.c (.bool true)) (.t 34))])
 (.cond (.t 35) (.seq (.ops [⟨some 36,.build [.int .i64 0,.int .i64 0,.int .i64 0,.string ⟨[].toArray⟩,.slice none 0 0] [],none,[]⟩,
 ⟨none,.store 5 (.t 4) (.t 36),none,[]⟩,
 qo 5 (.mv (ci (-1)))])
 (.ret))
 (.skip)))
 (.seq (.ops [qo 37 (.load true 5 (.t 7)),
 qo 38 (.mv (.t 6)),
 qo 39 (.nilc (.t 38)),
 qo 40 (.fld 1 (.t 39)),
 qo 41 (.load false 1 (.t 40)),
 ⟨none,.store 5 (.t 4) (.t 37),none,[.t 40]⟩,
 qo 5 (.mv (.t 41))])
 (.ret))))))
theorem lk_i_GetMsg:look Tryz.prog 67 = some (42,m_i_GetMsg,[.cell true 5 4,.tm 5]):=by kernel_rfl
def m_i_unpacker_value:M:=.seq (.ops [⟨some 4,.zero [.int .i64 0,.int .i64 0,.int .i64 0,.string ⟨[].toArray⟩,.slice none 0 0],none,[]⟩])
 (.seq (.ops [qo 7 (.mv (.t 0)),
 qo 8 (.nilc (.t 7)),
 qo 9 (.fld 2 (.t 8)),
 qo 10 (.load false 1 (.t 9)),
 qo 11 (.bin .add false (.t 10) (ci 1)),
 qo 12 (.nilc (.t 7)),
 qo 13 (.fld 2 (.t 12)),
 ⟨none,.store 1 (.t 13) (.t 11),none,[]⟩])
 (.seq (.ops [qo 14 (.mv (.t 0)),
 ⟨some 15,.call 167 [.t 14,ci 1],none,[.f 1]⟩,
 qo 5 (.mv (.t 15))])
 (.seq (.seq (.ops [qo 16 (.mv (.t 0)),
 qo 17 (.nilc (.t 16)),
 qo 18 (.fld 3 (.t 17)),
 qo 19 (.load false 1 (.t 18)),
 qo 20 (.mv (.t 19)),
 ⟨some 21,.mv (.t 0),some (20,false),[]⟩,
 ⟨some 22,.nilc (.t 21),some (20,false),[]⟩,
 ⟨some 23,.fld 2 (.t 22),some (20,false),[]⟩,
 ⟨some 24,.load false 1 (.t 23),some (20,false),[]⟩,
 ⟨some 25,.bin .gtr false (.t 24) (ci 300),some (20,false),[]⟩,
 qo 26 (.pick (.t 20) (.c (.bool true)) (.t 25)),
 qo 27 (.mv (.t 26)),
 ⟨some 28,.mv (.t 1),some (27,false),[]⟩,
 ⟨some 29,.bin .gtr false (.t 28) (ci 12),some (27,false),[]⟩,
 qo 30 (.pick (.t 27) (.c (.bool true)) (.t 29))])
 (.cond (.t 30) (.seq (.ops [qo 31 (.mv (.t 0)),
 qo 32 (.nilc (.t 31)),
 qo 33 (.fld 3 (.t 32)),
 ⟨none,.store 1 (.t 33) (.c (.bool true)),none,[]⟩])
 (.seq (.ops [⟨some 34,.build [.int .i64 0,.int .i64 0,.int .i64 0,.string ⟨[].toArray⟩,.slice none 0 0] [],none,[]⟩,
 ⟨none,.store 5 (.t 4) (.t 34),none,[]⟩])
 (.ret)))
 (.skip)))
 (.seq (.block 0 (.seq (.ops [qo 36 (.mv (.t 5)),
 qo 37 (.bin .lss false (.t 36) (ci 128)),
 qo 35 (.mv (.t 37))])
 (.cond (.t 35) (.seq (.ops [qo 38 (.mv (.t 5)),
 ⟨some 39,.build [.int .i64 0,.int .i64 0,.int .i64 0,.string ⟨[].toArray⟩,.slice none 0 0] [(0,1,ci 3),(1,1,.t 38)],none,[]⟩,
 ⟨none,.store 5 (.t 4) (.t 39),none,[]⟩])
 (.ret))
 (.seq (.ops [qo 41 (.mv (.t 5)),
 qo 42 (.bin .lss false (.t 41) (ci 144)),
 qo 40 (.mv (.t 42))])
 (.cond (.t 40) (.seq (.ops [qo 43 (.mv (.t 0)),
 qo 44 (.mv (.t 5)),
 qo 45 (.bin .sub false (.t 44) (ci 128)),
 qo 46 (.bin .mul false (ci 2) (.t 45)),
 qo 47 (.mv (.t 1)),
 qo 48 (.bin .add false (.t 47) (ci 1)),
 ⟨some 49,.call 168 [.t 43,.t 46,.t 48],none,[.f 1]⟩,
 ⟨some 50,.build [.int .i64 0,.int .i64 0,.int .i64 0,.string ⟨[].toArray⟩,.slice none 0 0] [(0,1,ci 8),(4,1,.t 49)],none,[]⟩,
 ⟨none,.store 5 (.t 4) (.t 50),none,[]⟩])
 (.ret))
 (.seq (.ops [qo 52 (.mv (.t 5)),
 qo 53 (.bin .lss false (.t 52) (ci 160)),
 qo 51 (.mv (.t 53))])
 (.cond (.t 51) (.seq (.ops [qo 54 (.mv (.t 0)),
 qo 55 (.mv (.t 5)),
 qo 56 (.bin .sub false (.t 55) (ci 144)),
 qo 57 (.mv (.t 1)),
 qo 58 (.bin .add false (.t 57) (ci 1)),
 ⟨some 59,.call 168 [.t 54,.t 56,.t 58],none,[.f 1]⟩,
 ⟨some 60,.build [.int .i64 0,.int .i64 0,.int .i64 0,.string ⟨[].toArray⟩,.slice none 0 0] [(0,1,ci 7),(4,1,.t 59)],none,[]⟩,
 ⟨none,.store 5 (.t 4) (.t 60),none,[]⟩])
 (.ret))
 (.seq (.ops [qo 62 (.mv (.t 5)),
 qo 63 (.bin .lss false (.t 62) (ci 192)),
 qo 61 (.mv (.t 63))])
 (.cond (.t 61) (.seq (.ops [qo 64 (.mv (.t 0)),
 qo 65 (.mv (.t 5)),
 qo 66 (.bin .sub false (.t 65) (ci 160)),
 ⟨some 67,.call 169 [.t 64,.t 66],none,[.f 1]⟩,
 ⟨some 68,.build [.int .i64 0,.int .i64 0,.int .i64 0,.string ⟨[].toArray⟩,.slice none 0 0] [(0,1,ci 5),(3,1,.t 67)],none,[]⟩,
 ⟨none,.store 5 (.t 4) (.t 68),none,[]⟩])
 (.ret))
 (.seq (.ops [qo 70 (.mv (.t 5)),
 qo 71 (.bin .geq false (.t 70) (ci 224)),
 qo 69 (.mv (.t 71))])
 (.cond (.t 69) (.seq (.ops [qo 72 (.mv (.t 5)),
 qo 73 (.bin .sub false (.t 72) (ci 256)),
 ⟨some 74,.build [.int .i64 0,.int .i64 0,.int .i64 0,.string ⟨[].toArray⟩,.slice none 0 0] [(0,1,ci 3),(1,1,.t 73)],none,[]⟩,
 ⟨none,.store 5 (.t 4) (.t 74),none,[]⟩])
 (.ret))
 (.seq (.ops [qo 76 (.mv (.t 5)),
 ⟨some 77,.call 126 [.t 76,ci 204,ci 207],none,[.f 1]⟩,
 qo 75 (.mv (.t 77))])
 (.cond (.t 75) (.seq (.ops [qo 78 (.mv (.t 0)),
 qo 79 (.mv (.t 5)),
 qo 80 (.bin .sub false (.t 79) (ci 204)),
 qo 81 (.bin .shl false (ci 1) (.t 80)),
 ⟨some 82,.call 167 [.t 78,.t 81],none,[.f 1]⟩,
 ⟨some 83,.build [.int .i64 0,.int .i64 0,.int .i64 0,.string ⟨[].toArray⟩,.slice none 0 0] [(0,1,ci 3),(1,1,.t 82)],none,[]⟩,
 ⟨none,.store 5 (.t 4) (.t 83),none,[]⟩])
 (.ret))
 (.seq (.ops [qo 85 (.mv (.t 5)),
 ⟨some 86,.call 126 [.t 85,ci 208,ci 211],none,[.f 1]⟩,
 qo 84 (.mv (.t 86))])
 (.cond (.t 84) (.seq (.ops [qo 87 (.mv (.t 5)),
 qo 88 (.bin .sub false (.t 87) (ci 208)),
 qo 89 (.bin .shl false (ci 1) (.t 88)),
 qo 6 (.mv (.t 89))])
 (.seq (.ops [qo 90 (.mv (.t 0)),
 qo 91 (.mv (.t 6)),
 ⟨some 92,.call 167 [.t 90,.t 91],none,[.f 1]⟩,
 qo 93 (.mv (.t 6)),
 ⟨some 94,.call 170 [.t 92,.t 93],none,[.f 1]⟩,
 ⟨some 95,.build [.int .i64 0,.int .i64 0,.int .i64 0,.string ⟨[].toArray⟩,.slice none 0 0] [(0,1,ci 3),(1,1,.t 94)],none,[]⟩,
 ⟨none,.store 5 (.t 4) (.t 95),none,[]⟩])
 (.ret)))
 (.skip))))))))))))))))
 (.seq (.seq (.ops [qo 96 (.mv (.t 5))])
 (.block 1 (.seq (.ops [qo 98 (.bin .eql false (.t 96) (ci 192)),
 qo 97 (.mv (.t 98))])
 (.cond (.t 97) (.seq (.ops [⟨some 99,.build [.int .i64 0,.int .i64 0,.int .i64 0,.string ⟨[].toArray⟩,.slice none 0 0] [(0,1,ci 0)],none,[]⟩,
 ⟨none,.store 5 (.t 4) (.t 99),none,[]⟩])
 (.ret))
 (.seq (.ops [qo 101 (.bin .eql false (.t 96) (ci 194)),
 qo 100 (.mv (.t 101))])
 (.cond (.t 100) (.seq (.ops [⟨some 102,.build [.int .i64 0,.int .i64 0,.int .i64 0,.string ⟨[].toArray⟩,.slice none 0 0] [(0,1,ci 1)],none,[]⟩,
 ⟨none,.store 5 (.t 4) (.t 102),none,[]⟩])
 (.ret))
 (.seq (.ops [qo 104 (.bin .eql false (.t 96) (ci 195)),
 qo 103 (.mv (.t 104))])
 (.cond (.t 103) (.seq (.ops [⟨some 105,.build [.int .i64 0,.int .i64 0,.int .i64 0,.string ⟨[].toArray⟩,.slice none 0 0] [(0,1,ci 2)],none,[]⟩,
 ⟨none,.store 5 (.t 4) (.t 105),none,[]⟩])
 (.ret))
 (.seq (.seq (.ops [qo 107 (.bin .eql false (.t 96) (ci 196)),
 qo 106 (.mv (.t 107))])
 (.cond (.t 106) (.skip)
 (.ops [qo 108 (.bin .eql false (.t 96) (ci 197)),
 qo 106 (.mv (.t 108))])))
 (.cond (.t 106) (.seq (.ops [qo 109 (.mv (.t 0)),
 qo 110 (.mv (.t 0)),
 qo 111 (.mv (.t 5)),
 qo 112 (.bin .sub false (.t 111) (ci 195)),
 ⟨some 113,.call 167 [.t 110,.t 112],none,[.f 1]⟩,
 ⟨some 114,.call 169 [.t 109,.t 113],none,[.f 1]⟩,
 ⟨some 115,.build [.int .i64 0,.int .i64 0,.int .i64 0,.string ⟨[].toArray⟩,.slice none 0 0] [(0,1,ci 6),(3,1,.t 114)],none,[]⟩,
 ⟨none,.store 5 (.t 4) (.t 115),none,[]⟩])
 (.ret))
 (.seq (.ops [qo 117 (.bin .eql false (.t 96) (ci 199)),
 qo 116 (.mv (.t 117))])
 (.cond (.t 116) (.seq (.ops [qo 118 (.mv (.t 0)),
 qo 119 (.mv (.t 1)),
 ⟨some 120,.call 171 [.t 118,.t 119],none,[.f 1]⟩,
 ⟨none,.store 5 (.t 4) (.t 120),none,[]⟩])
 (.ret))
 (.seq (.seq (.ops [qo 122 (.bin .eql false (.t 96) (ci 217)),
 qo 121 (.mv (.t 122))])
 (.cond (.t 121) (.skip)
 (.ops [qo 123 (.bin .eql false (.t 96) (ci 218)),
 qo 121 (.mv (.t 123))])))
 (.cond (.t 121) (.seq (.ops [qo 124 (.mv (.t 0)),
 qo 125 (.mv (.t 0)),
 qo 126 (.mv (.t 5)),
 qo 127 (.bin .sub false (.t 126) (ci 216)),
 ⟨some 128,.call 167 [.t 125,.t 127],none,[.f 1]⟩,
 ⟨some 129,.call 169 [.t 124,.t 128],none,[.f 1]⟩,
 ⟨some 130,.build [.int .i64 0,.int .i64 0,.int .i64 0,.string ⟨[].toArray⟩,.slice none 0 0] [(0,1,ci 5),(3,1,.t 129)],none,[]⟩,
 ⟨none,.store 5 (.t 4) (.t 130),none,[]⟩])
 (.ret))
 (.seq (.ops [qo 132 (.bin .eql false (.t 96) (ci 220)),
 qo 131 (.mv (.t 132))])
 (.cond (.t 131) (.seq (.ops [qo 133 (.mv (.t 0)),
 qo 134 (.mv (.t 0)),
 ⟨some 135,.call 167 [.t 134,ci 2],none,[.f 1]⟩,
 qo 136 (.mv (.t 1)),
 qo 137 (.bin .add false (.t 136) (ci 1)),
 ⟨some 138,.call 168 [.t 133,.t 135,.t 137],none,[.f 1]⟩,
 ⟨some 139,.build [.int .i64 0,.int .i64 0,.int .i64 0,.string ⟨[].toArray⟩,.slice none 0 0] [(0,1,ci 7),(4,1,.t 138)],none,[]⟩,
 ⟨none,.store 5 (.t 4) (.t 139),none,[]⟩])
 (.ret))
 (.seq (.ops [qo 141 (.bin .eql false (.t 96) (ci 222)),
 qo 140 (.mv (.t 141))])
 (.cond (.t 140) (.seq (.ops [qo 142 (.mv (.t 0)),
 qo 143 (.mv (.t 0)),
 ⟨some 144,.call 167 [.t 143,ci 2],none,[.f 1]⟩,
 qo 145 (.bin .mul false (ci 2) (.t 144)),
 qo 146 (.mv (.t 1)),
 qo 147 (.bin .add false (.t 146) (ci 1)),
 ⟨some 148,.call 168 [.t 142,.t 145,.t 147],none,[.f 1]⟩,
 ⟨some 149,.build [.int .i64 0,.int .i64 0,.int .i64 0,.string ⟨[].toArray⟩,.slice none 0 0] [(0,1,ci 8),(4,1,.t 148)],none,[]⟩,
 ⟨none,.store 5 (.t 4) (.t 149),none,[]⟩])
 (.ret))
 (.skip)))))))))))))))))))
 (.seq (.ops [qo 150 (.mv (.t 0)),
 qo 151 (.nilc (.t 150)),
 qo 152 (.fld 3 (.t 151)),
 ⟨none,.store 1 (.t 152) (.c (.bool true)),none,[]⟩])
 (.seq (.ops [⟨some 153,.build [.int .i64 0,.int .i64 0,.int .i64 0,.string ⟨[].toArray⟩,.slice none 0 0] [],none,[]⟩,
 ⟨none,.store 5 (.t 4) (.t 153),none,[]⟩])
 (.ret))))))))
theorem lk_i_unpacker_value:look Tryz.prog 127 = some (154,m_i_unpacker_value,[.cell true 5 4]):=by kernel_rfl
def m_i_unpacker_wide:M:=.seq (.ops [qo 4 (.mv (ci 0))])
 (.seq (.ops [qo 8 (.mv (.t 0)),
 qo 9 (.nilc (.t 8)),
 qo 10 (.fld 0 (.t 9)),
 qo 11 (.load false 1 (.t 10)),
 qo 12 (.mv (.t 0)),
 qo 13 (.nilc (.t 12)),
 qo 14 (.fld 1 (.t 13)),
 qo 15 (.load false 1 (.t 14)),
 qo 16 (.mv (.t 1)),
 ⟨some 17,.call 166 [.t 11,.t 15,.t 16],none,[.f 0]⟩,
 qo 7 (.mv (.t 17)),
 qo 18 (.ext (.t 7) 0),
 qo 19 (.ext (.t 7) 1),
 qo 5 (.mv (.t 18)),
 qo 6 (.mv (.t 19))])
 (.seq (.seq (.ops [qo 20 (.mv (.t 0)),
 qo 21 (.nilc (.t 20)),
 qo 22 (.fld 3 (.t 21)),
 qo 23 (.load false 1 (.t 22)),
 qo 24 (.mv (.t 23)),
 ⟨some 25,.mv (.t 6),some (24,false),[]⟩,
 ⟨some 26,.not (.t 25),some (24,false),[]⟩,
 qo 27 (.pick (.t 24) (.c (.bool true)) (.t 26))])
 (.cond (.t 27) (.seq (.ops [qo 28 (.mv (.t 0)),
 qo 29 (.nilc (.t 28)),
 qo 30 (.fld 3 (.t 29)),
 ⟨none,.store 1 (.t 30) (.c (.bool true)),none,[]⟩])
 (.seq (.ops [qo 4 (.mv (ci 0))])
 (.ret)))
 (.skip)))
 (.seq (.ops [qo 31 (.mv (.t 0)),
 qo 32 (.nilc (.t 31)),
 qo 33 (.fld 1 (.t 32)),
 qo 34 (.load false 1 (.t 33)),
 qo 35 (.mv (.t 1)),
 qo 36 (.bin .add false (.t 34) (.t 35)),
 qo 37 (.nilc (.t 31)),
 qo 38 (.fld 1 (.t 37)),
 ⟨none,.store 1 (.t 38) (.t 36),none,[]⟩])
 (.seq (.ops [qo 39 (.mv (.t 5)),
 qo 4 (.mv (.t 39))])
 (.ret)))))
theorem lk_i_unpacker_wide:look Tryz.prog 167 = some (40,m_i_unpacker_wide,[.tm 4]):=by kernel_rfl
def m_i_unpacker_many:M:=.seq (.ops [qo 6 (.mv (.c (.slice none 0 0)))])
 (.seq (.ops [qo 8 (.lit 5 []),
 qo 7 (.mv (.t 8))])
 (.seq (.block 0 (.loop (.seq (.seq (.ops [qo 9 (.mv (.t 1)),
 qo 10 (.bin .gtr false (.t 9) (ci 0)),
 qo 11 (.mv (.t 10)),
 ⟨some 12,.mv (.t 0),some (11,true),[]⟩,
 ⟨some 13,.nilc (.t 12),some (11,true),[]⟩,
 ⟨some 14,.fld 3 (.t 13),some (11,true),[]⟩,
 ⟨some 15,.load false 1 (.t 14),some (11,true),[]⟩,
 ⟨some 16,.not (.t 15),some (11,true),[]⟩,
 qo 17 (.pick (.t 11) (.t 16) (.c (.bool false)))])
 (.cond (.t 17) (.skip)
 (.exit 0)))
 (.seq (.block 1 (.ops [qo 20 (.mv (.t 7)),
 qo 21 (.mv (.t 0)),
 qo 22 (.mv (.t 2)),
 ⟨some 23,.call 127 [.t 21,.t 22],none,[.f 1]⟩,
 qo 24 (.lit 5 [.t 23]),
 ⟨some 25,.app 5 (.t 20) (.t 24),none,[.f 1]⟩,
 qo 7 (.mv (.t 25))]))
 (.ops [qo 18 (.mv (.t 1)),
 qo 19 (.bin .sub false (.t 18) (ci 1)),
 qo 1 (.mv (.t 19))])))))
 (.seq (.ops [qo 26 (.mv (.t 7)),
 qo 6 (.mv (.t 26))])
 (.ret))))
theorem lk_i_unpacker_many:look Tryz.prog 168 = some (27,m_i_unpacker_many,[.tm 6]):=by kernel_rfl
def m_i_unpacker_text:M:=.seq (.ops [⟨some 4,.mv (.c (.string ⟨[].toArray⟩)),none,[]⟩])
 (.seq (.seq (.ops [qo 5 (.mv (.t 0)),
 qo 6 (.nilc (.t 5)),
 qo 7 (.fld 3 (.t 6)),
 qo 8 (.load false 1 (.t 7)),
 qo 9 (.mv (.t 8)),
 ⟨some 10,.mv (.t 1),some (9,false),[]⟩,
 ⟨some 11,.mv (.t 0),some (9,false),[]⟩,
 ⟨some 12,.nilc (.t 11),some (9,false),[]⟩,
 ⟨some 13,.fld 0 (.t 12),some (9,false),[]⟩,
 ⟨some 14,.load false 1 (.t 13),some (9,false),[]⟩,
 ⟨some 15,.lens (.t 14),some (9,false),[]⟩,
 ⟨some 16,.mv (.t 0),some (9,false),[]⟩,
 ⟨some 17,.nilc (.t 16),some (9,false),[]⟩,
 ⟨some 18,.fld 1 (.t 17),some (9,false),[]⟩,
 ⟨some 19,.load false 1 (.t 18),some (9,false),[]⟩,
 ⟨some 20,.bin .sub false (.t 15) (.t 19),some (9,false),[]⟩,
 ⟨some 21,.bin .gtr false (.t 10) (.t 20),some (9,false),[]⟩,
 qo 22 (.pick (.t 9) (.c (.bool true)) (.t 21))])
 (.cond (.t 22) (.seq (.ops [qo 23 (.mv (.t 0)),
 qo 24 (.nilc (.t 23)),
 qo 25 (.fld 3 (.t 24)),
 ⟨none,.store 1 (.t 25) (.c (.bool true)),none,[]⟩])
 (.seq (.ops [⟨some 4,.mv (.c (.string ⟨[].toArray⟩)),none,[]⟩])
 (.ret)))
 (.skip)))
 (.seq (.ops [qo 26 (.mv (.t 0)),
 qo 27 (.nilc (.t 26)),
 qo 28 (.fld 1 (.t 27)),
 qo 29 (.load false 1 (.t 28)),
 qo 30 (.mv (.t 1)),
 qo 31 (.bin .add false (.t 29) (.t 30)),
 qo 32 (.nilc (.t 26)),
 qo 33 (.fld 1 (.t 32)),
 ⟨none,.store 1 (.t 33) (.t 31),none,[]⟩])
 (.seq (.ops [qo 34 (.mv (.t 0)),
 qo 35 (.nilc (.t 34)),
 qo 36 (.fld 0 (.t 35)),
 qo 37 (.load false 1 (.t 36)),
 qo 38 (.mv (.t 0)),
 qo 39 (.nilc (.t 38)),
 qo 40 (.fld 1 (.t 39)),
 qo 41 (.load false 1 (.t 40)),
 qo 42 (.mv (.t 1)),
 qo 43 (.bin .sub false (.t 41) (.t 42)),
 qo 44 (.mv (.t 0)),
 qo 45 (.nilc (.t 44)),
 qo 46 (.fld 1 (.t 45)),
 qo 47 (.load false 1 (.t 46)),
 qo 48 (.slcs (.t 37) (some (.t 43)) (some (.t 47))),
 qo 4 (.mv (.t 48))])
 (.ret))))
theorem lk_i_unpacker_text:look Tryz.prog 169 = some (49,m_i_unpacker_text,[.tm 4]):=by kernel_rfl
def m_i_unpacker_extended:M:=.seq (.ops [⟨some 4,.zero [.int .i64 0,.int .i64 0,.int .i64 0,.string ⟨[].toArray⟩,.slice none 0 0],none,[]⟩])
 (.seq (.seq (.ops [qo 9 (.mv (.t 0)),
 ⟨some 10,.call 167 [.t 9,ci 1],none,[.f 1]⟩,
 qo 11 (.mv (.t 0)),
 ⟨some 12,.call 167 [.t 11,ci 1],none,[.f 1]⟩,
 qo 5 (.mv (.t 10)),
 qo 6 (.mv (.t 12))])
 (.block 0 (.seq (.ops [qo 14 (.mv (.t 5)),
 qo 15 (.bin .eql false (.t 14) (ci 9)),
 qo 16 (.mv (.t 15)),
 ⟨some 17,.mv (.t 6),some (16,true),[]⟩,
 ⟨some 18,.bin .eql false (.t 17) (ci 4),some (16,true),[]⟩,
 qo 19 (.pick (.t 16) (.t 18) (.c (.bool false))),
 qo 13 (.mv (.t 19))])
 (.cond (.t 13) (.seq (.ops [qo 20 (.mv (.t 0)),
 ⟨some 21,.call 167 [.t 20,ci 1],none,[.f 1]⟩,
 ⟨some 22,.call 170 [.t 21,ci 1],none,[.f 1]⟩,
 qo 7 (.mv (.t 22))])
 (.seq (.ops [qo 23 (.mv (.t 7)),
 qo 24 (.mv (.t 0)),
 ⟨some 25,.call 167 [.t 24,ci 8],none,[.f 1]⟩,
 ⟨some 26,.build [.int .i64 0,.int .i64 0,.int .i64 0,.string ⟨[].toArray⟩,.slice none 0 0] [(0,1,ci 4),(2,1,.t 23),(1,1,.t 25)],none,[]⟩,
 ⟨none,.store 5 (.t 4) (.t 26),none,[]⟩])
 (.ret)))
 (.seq (.ops [qo 28 (.mv (.t 5)),
 qo 29 (.bin .eql false (.t 28) (ci 4)),
 qo 30 (.mv (.t 29)),
 ⟨some 31,.mv (.t 6),some (30,true),[]⟩,
 ⟨some 32,.bin .eql false (.t 31) (ci 6),some (30,true),[]⟩,
 qo 33 (.pick (.t 30) (.t 32) (.c (.bool false))),
 qo 27 (.mv (.t 33))])
 (.cond (.t 27) (.seq (.ops [qo 34 (.mv (.t 0)),
 ⟨some 35,.call 167 [.t 34,ci 4],none,[.f 1]⟩,
 qo 8 (.mv (.t 35))])
 (.seq (.ops [qo 36 (.mv (.t 8)),
 qo 37 (.mv (.t 0)),
 qo 38 (.mv (.t 1)),
 qo 39 (.bin .add false (.t 38) (ci 1)),
 ⟨some 40,.call 127 [.t 37,.t 39],none,[.f 1]⟩,
 qo 41 (.lit 5 [.t 40]),
 ⟨some 42,.build [.int .i64 0,.int .i64 0,.int .i64 0,.string ⟨[].toArray⟩,.slice none 0 0] [(0,1,ci 9),(1,1,.t 36),(4,1,.t 41)],none,[]⟩,
 ⟨none,.store 5 (.t 4) (.t 42),none,[]⟩])
 (.ret)))
 (.skip)))))))
 (.seq (.ops [qo 43 (.mv (.t 0)),
 qo 44 (.nilc (.t 43)),
 qo 45 (.fld 3 (.t 44)),
 ⟨none,.store 1 (.t 45) (.c (.bool true)),none,[]⟩])
 (.seq (.ops [⟨some 46,.build [.int .i64 0,.int .i64 0,.int .i64 0,.string ⟨[].toArray⟩,.slice none 0 0] [],none,[]⟩,
 ⟨none,.store 5 (.t 4) (.t 46),none,[]⟩])
 (.ret))))
theorem lk_i_unpacker_extended:look Tryz.prog 171 = some (47,m_i_unpacker_extended,[.cell true 5 4]):=by kernel_rfl
end
/- PvH4 -/
section
open Go.RowKit
variable {T:World -> Prop} {hT:Low ngl T}
attribute [local irreducible] po mw pt
theorem FnV.oldT {E:Env} {f:Nat} {args:List PV} {a b:Value} (ha:a.oneCell' = true) (hb1:b.oneCell' = true) (h:∀ (w:World) (C:Cx) (vs:List Value),(∀ b o,C.F b o -> b < w.heap.size) -> E.NG <= w.heap.size -> E.T w -> vs.length = args.length -> (∀ (j:Nat) (x:PV) (y:Value),args[j]? = some x -> vs[j]? = some y -> RpV C w x y) ->
  Calls E.P f vs.toArray w fun e w' => e = .returned (.tuple #[a,b]) /\ Below w.heap.size w w'):FnV E f args (.tup [.d (.v a),.d (.v b)]):=by
 intro C w vs hI hnt hold hl hv
 refine (h w C vs hI.fin hI.ng hI.t hl hv).mono ?_
 rintro e w' ⟨rfl,hb⟩
 have hF:Fix C w w':=.of (fun b o hF => World.cell?_of_block (a:=⟨b,o,none⟩) (hb.block b (hI.fin b o hF))) hb.block
 refine ⟨_,.tup [.d (.v a),.d (.v b)],[],fun _ => False,C,rfl,rfl,⟨hI.nb,fun p cs hp => by simp at hp,fun p hp => by simp at hp,fun p hp => by simp at hp,fun p q hp => by simp at hp,fun t ht => ht.elim,fun t s b ht => ht.elim,fun b o h => Nat.lt_of_lt_of_le (hI.fin b o h) hb.size,Nat.le_trans hI.ng hb.size,E.low w w' hI.t hb.size (fun k hk => hb.block k (Nat.lt_of_lt_of_le hk hI.ng))⟩,
  ⟨hb.os,hb.tape,hb.output,hb.size,fun _ _ h => h,hF,fun k hk _ _ => hb.block k hk,⟨Nat.le_refl _,fun _ _ => rfl⟩,fun _ _ h => .inl h,fun t b ht => ht.elim,(fun p hp hp2 => by simp at hp2),⟨Nat.le_refl _,fun _ _ => ⟨rfl,rfl,rfl,rfl⟩⟩⟩,.tup _ [a,b] rfl ?_⟩
 intro j x y hx hy
 match j with
 | 0 => simp at hx hy; subst hx; subst hy; exact .d _ _ (.v a ha)
 | 1 => simp at hx hy; subst hx; subst hy; exact .d _ _ (.v b hb1)
 | j + 2 => simp at hx
theorem getwI_fn (s:List UInt8) (i k:Nat) (hk:1 <= k /\ k <= 8) (hi:i <= s.length) (hl:s.length <= 4611686018427387904):FnV (env T hT) 166 [.d (pS s),.d (pI i),.d (pI k)] (.tup [.d (pI (gwz s i k)),.d (pB (decide (i + k <= s.length)))]):=by
 have key:FnV (env T hT) 166 [.d (pS s),.d (pI i),.d (pI k)] (.tup [.d (.v (.int .i64 (gwz s i k))),.d (.v (.bool (decide (i + k <= s.length))))]):=by
  refine FnV.oldT rfl rfl fun w C vs hF _ _ hlen hv => ?_
  match vs,hlen with
  | [x,y,z],_ =>
   have h1:=pS_inv (hv 0 _ _ rfl rfl); have h2:=pI_inv (hv 1 _ _ rfl rfl); have h3:=pI_inv (hv 2 _ _ rfl rfl)
   subst h1; subst h2; subst h3
   refine (getWide_any s i k w hk hi (by omega)).mono ?_
   rintro e w' ⟨rfl,hb⟩
   refine ⟨?_,hb⟩
   unfold gwz gwN
   by_cases h:i + k <= s.length
   ·rw [if_pos h,if_pos h,decide_eq_true h]
   ·rw [if_neg h,if_neg h,decide_eq_false h]
 exact key
def uC (s:List UInt8) (at_ cnt:Nat) (bad:Bool):List PC:=[pS s,pI at_,pI cnt,pB bad]
theorem lw_uC (s:List UInt8) (a c:Nat) (b:Bool):lwL 0 (uC s a c b):=⟨trivial,trivial,trivial,trivial,trivial⟩
def WideR (s:List UInt8) (a k cnt:Nat) (bad:Bool) (nt:Nat) (live:List Nat) (x:PV) (c':List PC) (n:Nat) (l:List Nat):Prop:=n = nt /\ l = live /\ ((bad = false /\ a + k <= s.length /\ c' = uC s (a + k) cnt false /\ x = .d (pI (gwN s a k))) \/ ((bad = true \/ ¬ a + k <= s.length) /\ c' = uC s a cnt true /\ x = .d (pI 0)))
theorem wideI_g (s:List UInt8) (a k cnt:Nat) (bad:Bool) (hk:1 <= k /\ k <= 8) (ha:a <= s.length) (hs:s.length <= 2147483647) (nt:Nat) (live:List Nat) :
  FnG (env T hT) 167 [.ref 0 0,.d (pI k)] [uC s a cnt bad] nt live (fun x b n l => ∃ c' rest,b = c' :: rest /\ x.lw 0 /\ lwL 0 c' /\ WideR s a k cnt bad nt live x c' n l):=by
 refine fng_of (look_env lk_i_unpacker_wide) (by show 2 <= 40; decide) fun B hB => ?_
 unfold m_i_unpacker_wide
 refine mw_seq (mw_ops ?_)
 repeat' (first | refine pm ?_ | refine pq ?_ | refine px ?_ | refine po_zero ?_ | refine po_nil ?_)
 refine mw_seq (mw_ops ?_)
 iterate 9 (first | refine pm ?_ | refine pq ?_)
 refine po_call (args:=[.d (pS s),.d (pI a),.d (pI k)]) rfl (getwI_fn s a k hk ha (by omega)) ?_
 repeat' (first | refine pm ?_ | refine pq ?_ | refine px ?_ | refine po_zero ?_ | refine po_nil ?_)
 refine mw_seq ?_
 refine mw_cut (fun st => has st.tm [(0,.ref 0 0),(1,.d (pI k)),(5,.d (pI (gwz s a k))),(27,.d (pB (bad || !decide (a + k <= s.length))))] /\ st.bx = [uC s a cnt bad] /\ st.nt = nt /\ st.live = live) ?_ ?_
 ·refine mw_ops ?_
  iterate 5 (first | refine pm ?_ | refine pq ?_)
  cases bad with
  | true =>
   iterate 2 (refine po_skip rfl ?_)
   repeat' (first | refine pm ?_ | refine pq ?_ | refine px ?_ | refine po_zero ?_ | refine po_nil ?_)
   exact ⟨⟨rfl,rfl,rfl,rfl,trivial⟩,rfl,rfl,rfl⟩
  | false =>
   repeat' (first | refine pm ?_ | refine pq ?_ | refine px ?_ | refine po_zero ?_ | refine po_nil ?_)
   exact ⟨⟨rfl,rfl,rfl,rfl,trivial⟩,rfl,rfl,rfl⟩
 rintro tm bx n1 l1 ⟨ht,rfl,rfl,rfl⟩
 obtain ⟨tm0,rfl⟩:=has_ups ht
 refine mw_cond (t:=bad || !decide (a + k <= s.length)) rfl (fun hc => ?_) (fun hc => ?_)
 ·refine mw_seq (mw_ops ?_)
  iterate 3 (first | refine pm ?_ | refine pq ?_)
  refine po_store (p:=0) (o':=3) (cs:=[pB true]) (z:=uC s a cnt bad) rfl rfl rfl ⟨rfl,Nat.le_of_ble_eq_true rfl⟩ rfl ?_
  refine po_nil ?_
  refine mw_seq (mw_ops ?_)
  repeat' (first | refine pm ?_ | refine pq ?_ | refine px ?_ | refine po_zero ?_ | refine po_nil ?_)
  refine mw_ret ⟨.inr rfl,[.d (pI 0)],rfl,uC s a cnt true,_,rfl,trivial,lw_uC _ _ _ _,rfl,rfl,.inr ⟨?_,rfl,rfl⟩⟩
  simp only [Bool.or_eq_true,Bool.not_eq_true',decide_eq_false_iff_not] at hc
  exact hc
 ·simp only [Bool.or_eq_false_iff,Bool.not_eq_false',decide_eq_true_eq] at hc
  obtain ⟨rfl,hle⟩:=hc
  refine mw_skip ?_
  refine mw_seq (mw_ops ?_)
  iterate 5 (first | refine pm ?_ | refine pq ?_)
  refine po_add (n:=((a + k:Nat):Int)) rfl rfl rfl (by omega) (by omega) ?_
  iterate 2 (first | refine pm ?_ | refine pq ?_)
  refine po_store (p:=0) (o':=1) (cs:=[pI ((a + k:Nat):Int)]) (z:=uC s a cnt false) rfl rfl rfl ⟨rfl,Nat.le_of_ble_eq_true rfl⟩ rfl ?_
  refine po_nil ?_
  refine mw_seq (mw_ops ?_)
  repeat' (first | refine pm ?_ | refine pq ?_ | refine px ?_ | refine po_zero ?_ | refine po_nil ?_)
  exact mw_ret ⟨.inr rfl,[.d (pI (gwz s a k))],rfl,uC s (a + k) cnt false,_,rfl,trivial,lw_uC _ _ _ _,rfl,rfl,.inl ⟨rfl,hle,rfl,by rw [gwz_ok hle]; rfl⟩⟩
def TextR (s:List UInt8) (a k cnt:Nat) (bad:Bool) (nt:Nat) (live:List Nat) (x:PV) (c':List PC) (n:Nat) (l:List Nat):Prop:=n = nt /\ l = live /\ ((bad = false /\ a + k <= s.length /\ c' = uC s (a + k) cnt false /\ x = .d (pS ((s.drop a).take k))) \/ ((bad = true \/ ¬ a + k <= s.length) /\ c' = uC s a cnt true /\ x = .d (pS [])))
theorem textI_g (s:List UInt8) (a k cnt:Nat) (bad:Bool) (hk:k <= 65536) (ha:a <= s.length) (hs:s.length <= 2147483647) (nt:Nat) (live:List Nat) :
  FnG (env T hT) 169 [.ref 0 0,.d (pI k)] [uC s a cnt bad] nt live (fun x b n l => ∃ c' rest,b = c' :: rest /\ x.lw 0 /\ lwL 0 c' /\ TextR s a k cnt bad nt live x c' n l):=by
 refine fng_of (look_env lk_i_unpacker_text) (by show 2 <= 49; decide) fun B hB => ?_
 unfold m_i_unpacker_text
 refine mw_seq (mw_ops ?_)
 repeat' (first | refine pm ?_ | refine pq ?_ | refine px ?_ | refine po_zero ?_ | refine po_nil ?_)
 refine mw_seq ?_
 refine mw_cut (fun st => has st.tm [(0,.ref 0 0),(1,.d (pI k)),(22,.d (pB (bad || !decide (a + k <= s.length))))] /\ st.bx = [uC s a cnt bad] /\ st.nt = nt /\ st.live = live) ?_ ?_
 ·refine mw_ops ?_
  iterate 5 (first | refine pm ?_ | refine pq ?_)
  cases bad with
  | true =>
   iterate 12 (refine po_skip rfl ?_)
   repeat' (first | refine pm ?_ | refine pq ?_ | refine px ?_ | refine po_zero ?_ | refine po_nil ?_)
   exact ⟨⟨rfl,rfl,rfl,trivial⟩,rfl,rfl,rfl⟩
  | false =>
   iterate 5 (first | refine pm ?_ | refine pq ?_)
   refine po_q (v:=.d (pI s.length)) rfl rfl ?_
   iterate 4 (first | refine pm ?_ | refine pq ?_)
   refine po_sub (n:=(s.length:Int) - a) rfl rfl rfl rfl (by omega) ?_
   refine po_b rfl rfl (fun b hb => ?_)
   repeat' (first | refine pm ?_ | refine pq ?_ | refine px ?_ | refine po_zero ?_ | refine po_nil ?_)
   have:(!decide (a + k <= s.length)) = b:=by
    rw [hb]
    by_cases h:a + k <= s.length
    ·rw [decide_eq_true h,decide_eq_false (by omega)]; rfl
    ·rw [decide_eq_false h,decide_eq_true (by omega)]; rfl
   exact ⟨⟨rfl,rfl,by rw [Bool.false_or,this]; rfl,trivial⟩,rfl,rfl,rfl⟩
 rintro tm bx n1 l1 ⟨ht,rfl,rfl,rfl⟩
 obtain ⟨tm0,rfl⟩:=has_ups ht
 refine mw_cond (t:=bad || !decide (a + k <= s.length)) rfl (fun hc => ?_) (fun hc => ?_)
 ·refine mw_seq (mw_ops ?_)
  iterate 3 (first | refine pm ?_ | refine pq ?_)
  refine po_store (p:=0) (o':=3) (cs:=[pB true]) (z:=uC s a cnt bad) rfl rfl rfl ⟨rfl,Nat.le_of_ble_eq_true rfl⟩ rfl ?_
  refine po_nil ?_
  refine mw_seq (mw_ops ?_)
  repeat' (first | refine pm ?_ | refine pq ?_ | refine px ?_ | refine po_zero ?_ | refine po_nil ?_)
  refine mw_ret ⟨.inr rfl,[.d (pS [])],rfl,uC s a cnt true,_,rfl,trivial,lw_uC _ _ _ _,rfl,rfl,.inr ⟨?_,rfl,rfl⟩⟩
  simp only [Bool.or_eq_true,Bool.not_eq_true',decide_eq_false_iff_not] at hc
  exact hc
 ·simp only [Bool.or_eq_false_iff,Bool.not_eq_false',decide_eq_true_eq] at hc
  obtain ⟨rfl,hle⟩:=hc
  refine mw_skip ?_
  refine mw_seq (mw_ops ?_)
  iterate 5 (first | refine pm ?_ | refine pq ?_)
  refine po_add (n:=((a + k:Nat):Int)) rfl rfl rfl (by omega) (by omega) ?_
  iterate 2 (first | refine pm ?_ | refine pq ?_)
  refine po_store (p:=0) (o':=1) (cs:=[pI ((a + k:Nat):Int)]) (z:=uC s a cnt false) rfl rfl rfl ⟨rfl,Nat.le_of_ble_eq_true rfl⟩ rfl ?_
  refine po_nil ?_
  refine mw_seq (mw_ops ?_)
  iterate 9 (first | refine pm ?_ | refine pq ?_)
  refine po_sub (n:=(a:Int)) rfl rfl rfl (by omega) (by omega) ?_
  iterate 4 (first | refine pm ?_ | refine pq ?_)
  refine po_slcs (a:=a) (b:=a + k) (rs:=(s.drop a).take k) rfl rfl (bound_nat rfl rfl) (bound_nat rfl rfl) (by omega) (by rw [Nat.add_sub_cancel_left]) ?_
  repeat' (first | refine pm ?_ | refine pq ?_ | refine px ?_ | refine po_zero ?_ | refine po_nil ?_)
  exact mw_ret ⟨.inr rfl,[.d (pS ((s.drop a).take k))],rfl,uC s (a + k) cnt false,_,rfl,trivial,lw_uC _ _ _ _,rfl,rfl,.inl ⟨rfl,hle,rfl,rfl⟩⟩
end
/- PvH5 -/
section
open Go.RowKit
variable {T:World -> Prop} {hT:Low ngl T}
attribute [local irreducible] po mw pt
def GotU (s:List UInt8) (d:Int) (a cnt:Nat) (bad:Bool) (nt:Nat) (live:List Nat) (x:PV) (a' cnt':Nat) (bad':Bool) (nt':Nat) (live':List Nat):Prop :=
 ∃ cs:List PC,x = .ag cs /\ cs.length = 5 /\ NewL nt nt' cs /\ (∀ t ∈ toksL cs,t ∈ live') /\ (∀ t ∈ live,2 <= t -> t < nt -> t ∈ live') /\ nt <= nt' /\ (a <= a' /\ a' <= s.length /\ cnt' <= 301) /\ (bad = true -> bad' = true) /\
 (bad' = false -> cnt' <= 300 /\ ∃ u:V,erL cs = vC u /\ u.wf /\ a < a' /\ u.bulk + 1 <= 2 * (a' - a)) /\
 (bad = false -> ∀ v:V,v.wf -> v.rightBy pairsOk (12 - d) = true -> cnt + v.nodes <= 300 -> At s a (msg v) -> bad' = false /\ a' = a + (msg v).length /\ erL cs = vC v /\ cnt' = cnt + v.nodes)
def ValU (T:World -> Prop) (hT:Low ngl T) (s:List UInt8) (d:Int):Prop:=∀ (a cnt:Nat) (bad:Bool) (nt:Nat) (live:List Nat),a <= s.length -> cnt <= 300 -> 2 <= nt ->
 FnG (env T hT) 127 [.ref 0 0,.d (pI d)] [uC s a cnt bad] nt live (fun x b n l => ∃ c' rest,b = c' :: rest /\ x.lw 0 /\ lwL 0 c' /\ ∃ a' cnt' bad',c' = uC s a' cnt' bad' /\ GotU s d a cnt bad nt live x a' cnt' bad' n l)
def GotM (s:List UInt8) (d many:Int) (a cnt:Nat) (bad:Bool) (nt:Nat) (live:List Nat) (x:PV) (a' cnt':Nat) (bad':Bool) (nt':Nat) (live':List Nat):Prop :=
 ∃ (tk:Nat) (rows:List (List PC)),x = .d (.sl tk rows) /\ NewL nt nt' [.sl tk rows] /\ (∀ t ∈ toksL [.sl tk rows],t ∈ live') /\ (∀ t ∈ live,2 <= t -> t < nt -> t ∈ live') /\ nt <= nt' /\ (a <= a' /\ a' <= s.length /\ cnt' <= 301) /\ (bad = true -> bad' = true) /\
 (bad' = false -> cnt' <= 300 /\ ∃ vs:List V,erLL rows = vK vs /\ V.wfs vs /\ (vs.length:Int) = many /\ V.bulks vs + vs.length <= 2 * (a' - a)) /\
 (bad = false -> ∀ us:List V,V.wfs us -> V.rightsBy pairsOk (12 - d) us = true -> cnt + V.nodess us <= 300 -> (us.length:Int) = many -> At s a (msgs us) -> bad' = false /\ a' = a + (msgs us).length /\ erLL rows = vK us /\ cnt' = cnt + V.nodess us)
def MnP (s:List UInt8) (d many:Int) (a cnt:Nat) (bad:Bool) (k:Nat) (rows:List (List PC)) (a1 cnt1:Nat) (bad1:Bool):Prop :=
 rows.length = k /\ (∀ e ∈ rows,e.length = 5) /\ (a <= a1 /\ a1 <= s.length /\ cnt1 <= 301) /\ (bad = true -> bad1 = true) /\
 (bad1 = false -> cnt1 <= 300 /\ ∃ vs:List V,erLL rows = vK vs /\ V.wfs vs /\ V.bulks vs + vs.length <= 2 * (a1 - a)) /\
 (bad = false -> ∀ us:List V,V.wfs us -> V.rightsBy pairsOk (12 - d) us = true -> cnt + V.nodess us <= 300 -> (us.length:Int) = many -> At s a (msgs us) -> bad1 = false /\ erLL rows = vK (us.take k) /\ a1 = a + (msgs (us.take k)).length /\ cnt1 = cnt + V.nodess (us.take k))
def MnI (s:List UInt8) (d many:Int) (a cnt:Nat) (bad:Bool) (nt:Nat) (live:List Nat) (m:Nat) (st:St):Prop:=∃ (k tk:Nat) (rows:List (List PC)) (a1 cnt1:Nat) (bad1:Bool),(k:Int) <= many /\ (m:Int) = many - k /\
 has st.tm [(0,.ref 0 0),(1,.d (pI (many - k))),(2,.d (pI d)),(7,.d (.sl tk rows))] /\ st.bx = [uC s a1 cnt1 bad1] /\ 2 <= tk /\ OwnL st.nt st.live ([] ++ .sl tk rows :: []) /\ (∀ t ∈ toksL [.sl tk rows],nt <= t) /\ nt <= st.nt /\ (∀ t ∈ live,2 <= t -> t < nt -> t ∈ st.live) /\ MnP s d many a cnt bad k rows a1 cnt1 bad1
set_option maxHeartbeats 2000000 in
theorem many_g {s:List UInt8} (hs:s.length <= 2147483647) {d:Int} (hV:ValU T hT s d) (many:Int) (hm:0 <= many /\ many <= 131072) (a cnt:Nat) (bad:Bool) (nt:Nat) (live:List Nat) (ha:a <= s.length) (hcnt:cnt <= 300) (hnt:2 <= nt) :
  FnG (env T hT) 168 [.ref 0 0,.d (pI many),.d (pI d)] [uC s a cnt bad] nt live (fun x b n l => ∃ c' rest,b = c' :: rest /\ x.lw 0 /\ lwL 0 c' /\ ∃ a' cnt' bad',c' = uC s a' cnt' bad' /\ GotM s d many a cnt bad nt live x a' cnt' bad' n l):=by
 refine fng_of (look_env lk_i_unpacker_many) (by show 3 <= 27; decide) fun B hB => ?_
 unfold m_i_unpacker_many
 refine mw_seq (mw_ops ?_)
 repeat' (first | refine pm ?_ | refine pq ?_ | refine px ?_ | refine po_zero ?_ | refine po_nil ?_)
 refine mw_seq (mw_ops ?_)
 refine po_lit (es:=[]) rfl ?_
 repeat' (first | refine pm ?_ | refine pq ?_ | refine px ?_ | refine po_zero ?_ | refine po_nil ?_)
 refine mw_cut (fun st => ∃ (tk:Nat) (rows:List (List PC)) (a1 cnt1:Nat) (bad1:Bool),has st.tm [(0,.ref 0 0),(7,.d (.sl tk rows))] /\ st.bx = [uC s a1 cnt1 bad1] /\ GotM s d many a cnt bad nt live (.d (.sl tk rows)) a1 cnt1 bad1 st.nt st.live) ?_ ?_
 ·refine mw_block ?_
  refine mw_while (MnI s d many a cnt bad nt live) many.toNat ⟨0,nt,[],a,cnt,bad,hm.1,by omega,⟨rfl,by rw [show many - ((0:Nat):Int) = many by omega]; rfl,rfl,rfl,trivial⟩,rfl,hnt,⟨by simp [ownedL,PC.owned,ownedLL],by simp [toksL,toks_sl2 hnt,toksLL],fun t ht => by
    have:t = nt:=by simpa [toksL,toks_sl2 hnt,toksLL] using ht
    subst this; exact ⟨List.mem_cons_self ..,Nat.lt_succ_self _⟩⟩,(fun t ht => by
    have:t = nt:=by simpa [toksL,toks_sl2 hnt,toksLL] using ht
    omega),Nat.le_succ _,fun t ht _ _ => List.mem_cons_of_mem _ ht,rfl,(fun e he => by cases he),⟨Nat.le_refl _,ha,by omega⟩,fun h => h,fun _ => ⟨hcnt,[],rfl,trivial,by simp [V.bulks]⟩,fun hb us _ _ _ _ _ => ⟨hb,by simp [erLL,vK],by simp [msgs],by simp [V.nodess]⟩⟩ ?_
  rintro m tm bx n1 l1 ⟨k,tk,rows,a1,cnt1,bad1,hk,hmk,ht,hbx,htk2,hown,hge,hn1,hlv,hrl,hrw,⟨haa,has1,hc1⟩,hbb,hgood,hcp⟩
  obtain ⟨tm0,rfl⟩:=has_ups ht
  simp only at hbx hown hn1 hlv; subst hbx
  clear ht
  have hdone:∀ (hx:bad1 = true \/ (k:Int) = many),∃ (tk':Nat) (rows':List (List PC)) (a1' cnt1':Nat) (bad1':Bool),tk' = tk /\ rows' = rows /\ a1' = a1 /\ cnt1' = cnt1 /\ bad1' = bad1 /\ GotM s d many a cnt bad nt live (.d (.sl tk rows)) a1 cnt1 bad1 n1 l1:=fun hx =>
   ⟨tk,rows,a1,cnt1,bad1,rfl,rfl,rfl,rfl,rfl,tk,rows,rfl,⟨hown.own,hown.nd,fun t ht => ⟨hge t ht,(hown.mem t ht).2⟩⟩,fun t ht => (hown.mem t ht).1,hlv,hn1,⟨haa,has1,hc1⟩,hbb,(fun hb => by
    obtain ⟨q1,vs,q2,q3,q4⟩:=hgood hb
    have:vs.length = rows.length:=by have:=erLL_len q2; rw [vK_len] at this; omega
    exact ⟨q1,vs,q2,q3,by rcases hx with hx | hx; (rw [hb] at hx; cases hx); omega,q4⟩),fun hb us h1 h2 h3 h4 h5 => by
    obtain ⟨e1,e2,e3,e4⟩:=hcp hb us h1 h2 h3 h4 h5
    have hkm:(k:Int) = many:=by
     rcases hx with hx | hx
     ·rw [hx] at e1; cases e1
     ·exact hx
    have:us.take k = us:=List.take_of_length_le (by omega)
    rw [this] at e2 e3 e4
    exact ⟨e1,e3,e2,e4⟩⟩
  refine mw_seq ?_
  refine mw_cut (fun st => has st.tm [(0,.ref 0 0),(1,.d (pI (many - k))),(2,.d (pI d)),(7,.d (.sl tk rows)),(17,.d (pB (decide ((k:Int) < many) && !bad1)))] /\ st.bx = [uC s a1 cnt1 bad1] /\ st.nt = n1 /\ st.live = l1) ?_ ?_
  ·refine mw_ops ?_
   first | refine pm ?_ | refine pq ?_
   by_cases hlt:(k:Int) < many
   ·refine po_yes rfl rfl (decide_eq_true (show many - (k:Int) > 0 by omega)) ?_
    repeat' (first | refine pm ?_ | refine pq ?_ | refine px ?_ | refine po_zero ?_ | refine po_nil ?_)
    exact ⟨⟨rfl,rfl,rfl,rfl,by rw [decide_eq_true hlt]; rfl,trivial⟩,rfl,rfl,rfl⟩
   ·refine po_no rfl rfl (decide_eq_false (show ¬ many - (k:Int) > 0 by omega)) ?_
    first | refine pm ?_ | refine pq ?_
    iterate 5 (refine po_skip rfl ?_)
    repeat' (first | refine pm ?_ | refine pq ?_ | refine px ?_ | refine po_zero ?_ | refine po_nil ?_)
    exact ⟨⟨rfl,rfl,rfl,rfl,by rw [decide_eq_false hlt]; rfl,trivial⟩,rfl,rfl,rfl⟩
  rintro tm bx n1' l1' ⟨ht,hb',hn',hl'⟩
  simp only at hb' hn' hl'; subst hb'; subst n1'; subst l1'
  obtain ⟨tm1,rfl⟩:=has_ups ht
  clear ht
  refine mw_cond (t:=decide ((k:Int) < many) && !bad1) rfl (fun hc => ?_) (fun hc => ?_)
  ·simp only [Bool.and_eq_true,decide_eq_true_eq,Bool.not_eq_true'] at hc
   obtain ⟨hlt,rfl⟩:=hc
   clear hdone
   obtain ⟨hc300,vs,hvr,hvw,hvb⟩:=hgood rfl
   clear hgood
   have hb0:bad = false:=by cases bad with | false => rfl | true => cases hbb rfl
   refine mw_skip ?_
   refine mw_seq (mw_block (mw_ops ?_))
   iterate 3 (first | refine pm ?_ | refine pq ?_)
   refine po_g rfl (FnG.lift1 (p:=0) (hV a1 cnt1 false n1 l1 has1 hc300 (by omega)) (args:=[.d (pI d)]) ⟨trivial,trivial⟩ (lw_uC _ _ _ _) rfl) ?_
   rintro x _ n2 l2 ⟨c',rfl,a2,cnt2,bad2,rfl,cs,rfl,hc5,hnew,hctk,hlv2,hn2,⟨ha2,ha2s,hc2⟩,_,hg2,hcomp⟩
   refine po_lit (es:=[cs]) (by
    show (if cs.length = 5 then some [cs] else none) = some [cs]
    rw [if_pos hc5]) ?_
   have hmem:tk ∈ l2:=by
    have h1:=(hown.mem tk (by simp [toksL,toks_sl2 htk2]))
    exact hlv2 tk h1.1 htk2 h1.2
   refine po_app (t:=tk) (t':=n2) (es:=rows) (ds:=[cs]) rfl rfl (.inr (List.mem_cons_of_mem _ hmem)) (by simp only [List.length_singleton]; omega) (fun e he => by simp only [List.mem_singleton] at he; subst he; exact hc5) hrw ?_
   repeat' (first | refine pm ?_ | refine pq ?_ | refine px ?_ | refine po_zero ?_ | refine po_nil ?_)
   refine mw_ops ?_
   first | refine pm ?_ | refine pq ?_
   refine po_sub (n:=many - ((k + 1:Nat):Int)) rfl rfl rfl (by omega) (by omega) ?_
   repeat' (first | refine pm ?_ | refine pq ?_ | refine px ?_ | refine po_zero ?_ | refine po_nil ?_)
   have h0:OwnL n1 (l1.filter (fun t => decide (t < n1))) ([] ++ .sl tk rows :: []):=⟨hown.own,hown.nd,fun t ht => ⟨List.mem_filter.2 ⟨(hown.mem t ht).1,decide_eq_true (hown.mem t ht).2⟩,(hown.mem t ht).2⟩⟩
   have hpush:OwnL (n2 + 2) ((n2 + 1) :: (n2 :: l2).filter (· != tk)) ([] ++ .sl (n2 + 1) (rows ++ [cs]) :: []):=by
    have:=h0.pushA (nt':=n2 + 1) (e:=cs) (.inr htk2) (by omega) hnew.own hnew.nd (fun t ht => by have:=hnew.mem t ht; omega) (by omega)
    refine this.mono2 (by omega) fun t ht h22 hlt => ?_
    rcases List.mem_cons.1 ht with rfl | ht
    ·exact List.mem_cons_self ..
    ·obtain ⟨m1,m2⟩:=List.mem_filter.1 ht
     refine List.mem_cons_of_mem _ (List.mem_filter.2 ⟨?_,m2⟩)
     rcases List.mem_append.1 m1 with m1 | m1
     ·exact List.mem_cons_of_mem _ (hctk t m1)
     ·obtain ⟨m3,m4⟩:=List.mem_filter.1 m1
      exact List.mem_cons_of_mem _ (hlv2 t m3 h22 (of_decide_eq_true m4))
   have htkn:nt <= tk:=hge tk (by simp [toksL,toks_sl2 htk2])
   refine ⟨m - 1,by omega,k + 1,n2 + 1,rows ++ [cs],a2,cnt2,bad2,by omega,by omega,⟨rfl,rfl,rfl,rfl,trivial⟩,rfl,by omega,hpush,?_,(show nt <= n2 + 2 by omega),?_,by simp [hrl],?_,⟨by omega,ha2s,hc2⟩,(fun h => by rw [hb0] at h; cases h),?_,?_⟩
   ·intro t ht
    have ht:t ∈ PC.toks (.sl (n2 + 1) (rows ++ [cs])):=by simpa [toksL] using ht
    rw [toks_sl2 (by omega),toksLL_append] at ht
    rcases List.mem_cons.1 ht with rfl | ht
    ·omega
    ·rcases List.mem_append.1 ht with ht | ht
     ·exact hge t (by simp [toksL,toks_sl2 htk2,ht])
     ·have ht:t ∈ toksL cs:=by simpa [toksLL] using ht
      have:=hnew.mem t ht; omega
   ·intro t ht h22 hlt
    refine List.mem_cons_of_mem _ (List.mem_filter.2 ⟨List.mem_cons_of_mem _ (hlv2 t (hlv t ht h22 hlt) h22 (by omega)),?_⟩)
    simp only [bne_iff_ne,ne_eq]; omega
   ·intro e he
    rcases List.mem_append.1 he with he | he
    ·exact hrw e he
    ·simp only [List.mem_singleton] at he; subst he; exact hc5
   ·intro hb2
    obtain ⟨r1,u,r2,r3,r4,r5⟩:=hg2 hb2
    refine ⟨r1,vs ++ [u],?_,V.wfs_app hvw ⟨r3,trivial⟩,?_⟩
    ·rw [erLL_append,hvr,vK_eq,vK_eq,List.map_append]; simp only [erLL,r2]; rfl
    ·rw [V.bulks_app,List.length_append]; simp only [V.bulks,List.length_singleton]; omega
   ·intro _ us h3 h4 h5 h6 h8
    obtain ⟨_,e1,e2,e3⟩:=hcp hb0 us h3 h4 h5 h6 h8
    have hku:k < us.length:=by omega
    have hA:=msgs_at h8 k hku
    rw [<- e2] at hA
    have hnd:=nodess_take us k hku
    have h4':=h4
    rw [V.rightsBy_all,List.all_eq_true] at h4'
    obtain ⟨q1,q2,q3,q4⟩:=hcomp rfl us[k] (V.wfs_get h3 k hku) (h4' _ (List.getElem_mem hku)) (by omega) hA
    refine ⟨q1,?_,?_,?_⟩
    ·rw [erLL_append,e1,List.take_succ_eq_append_getElem hku,vK_eq,vK_eq,List.map_append]; simp only [erLL,q3]; rfl
    ·rw [List.take_succ_eq_append_getElem hku,msgs_snoc,List.length_append]; omega
    ·rw [List.take_succ_eq_append_getElem hku,V.nodess_app]; simp only [V.nodess]; omega
  ·refine mw_exit ?_
   obtain ⟨_,_,_,_,_,rfl,rfl,rfl,rfl,rfl,hG⟩:=hdone (by
    simp only [Bool.and_eq_false_iff,decide_eq_false_iff_not,Bool.not_eq_false'] at hc
    rcases hc with hc | hc
    ·exact .inr (by omega)
    ·exact .inl hc)
   exact ⟨_,_,_,_,_,⟨rfl,rfl,trivial⟩,rfl,hG⟩
 rintro tm bx n1 l1 ⟨tk,rows,a1,cnt1,bad1,ht,rfl,hG⟩
 obtain ⟨tm0,rfl⟩:=has_ups ht
 refine mw_seq (mw_ops ?_)
 repeat' (first | refine pm ?_ | refine pq ?_ | refine px ?_ | refine po_zero ?_ | refine po_nil ?_)
 have hlw:PV.lw 0 (.d (.sl tk rows)):=by
  obtain ⟨tk',rows',e,hN,_⟩:=hG
  simp only [PV.d.injEq] at e
  rw [<- e] at hN
  exact (ownedL_lw hN.own).1
 exact mw_ret ⟨.inr rfl,[.d (.sl tk rows)],rfl,_,_,rfl,hlw,lw_uC _ _ _ _,a1,cnt1,bad1,rfl,hG⟩
end
end Go.Proofs.YtanlnhkagepniaaGreatDoor
