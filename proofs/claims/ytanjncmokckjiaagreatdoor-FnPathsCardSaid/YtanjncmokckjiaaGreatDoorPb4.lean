/- Part 4 of a proof: ValueOkS, ValueSame, ValueKids, ValueNode, Region, Box, ValueIs, PvVokI, PvVok, AtI, PvTop, AtT, PthOk, BntM, Bent, Vl5M, Val5, LawM, Code, Law1, PthDrw, SmnM, SameN, FnPaths, Laid, Tabs, Ten, ErrTab -/
import Derived.Test.YtanjncmokckjiaaGreatDoorPb3
import Derived.HandedShaped
import Derived.Lay
import Derived.LaidMore
import Derived.Stop.Joined
import Derived.Lib.LaidU8T
/- Decimals of a value: the program's fits and isDec, the reference's l02Whole. -/
namespace Go.Proofs.YtanjncmokckjiaaGreatDoor
open Go.RowKit
theorem zc8 {k:Nat} {n:Int} (h:-9223372036854775808 <= n * 10 /\ n * 10 <= 9223372036854775807):fitsN (k + 1) n = fitsN k (n * 10):=by
 show (inR _ _ _ && _) = _; rw [zat h]; rfl
theorem fitsN_no {k:Nat} {n:Int} (h:¬ (-9223372036854775808 <= n * 10 /\ n * 10 <= 9223372036854775807)):fitsN (k + 1) n = false:=by
 show (inR _ _ _ && _) = _; rw [zaM h]; rfl
theorem tdiv10 (q:Int):Int.tdiv q 10 * 10 - 9 <= q /\ q <= Int.tdiv q 10 * 10 + 9 /\ (0 <= q -> Int.tdiv q 10 * 10 <= q) /\ (q <= 0 -> q <= Int.tdiv q 10 * 10):=by
 have h1:=Int.mul_tdiv_add_tmod q 10;have h2:=Int.tmod_lt_of_pos q (show (0:Int) < 10 by decide);have h3:-10 < Int.tmod q 10:=by have:=Int.tmod_lt_of_pos (-q) (show (0:Int) < 10 by decide); rw [Int.neg_tmod] at this; omega
 have h4:0 <= q -> 0 <= Int.tmod q 10:=fun h => Int.tmod_nonneg 10 h
 have h5:q <= 0 -> Int.tmod q 10 <= 0:=fun h => by have:=Int.tmod_nonneg 10 (show 0 <= -q by omega); rw [Int.neg_tmod] at this; omega
 refine ⟨by omega,by omega,fun h => ?_,fun h => ?_⟩
 ·have:=h4 h; omega
 ·have:=h5 h; omega
theorem wrap_no {n:Int} (h:¬ (-9223372036854775808 <= n * 10 /\ n * 10 <= 9223372036854775807)):(wrap64 (Int.tdiv (wrap64 (n * 10)) 10) != n) = true:=by
 simp only [bne_iff_ne,ne_eq];intro e;have hq:-9223372036854775808 <= wrap64 (n * 10) /\ wrap64 (n * 10) <= 9223372036854775807:=by unfold wrap64; omega
 generalize wrap64 (n * 10) = q at e hq;obtain ⟨a,b,c,d⟩:=tdiv10 q
 have:wrap64 (Int.tdiv q 10) = Int.tdiv q 10:=by unfold wrap64; omega
 rw [this] at e;subst e;by_cases h0:0 <= q
 ·have:=c h0; omega
 ·have:=d (by omega); omega
set_option maxHeartbeats 400000 in
theorem zeG (n:Int) (k:Nat) (w:World) (hn:i64ok n) (hk:k <= 1000) :
  Calls Tryz.prog 73 #[.int .i64 n,.int .i64 k] w fun e w' => e = .returned (.bool (decide (0 < k) && fitsN k n)) /\ w = w':=by
 obtain ⟨ok,hok⟩:∃ ok,fitsN k n = ok:=⟨_,rfl⟩;rw [hok];have HOK:=Lib.hid hok; clear hok
 go_enter Tryz.func73,Tryz.ntmps73
 go_wp2
 go_loopw [0,5] (fun x i wr => ∃ (j:Nat) (m:Int),j <= k /\ i = .int .i64 j /\ x = .int .i64 m /\ i64ok m /\ fitsN (k - j) m = ok /\ w = wr) (fun _ i _ => k - (intOf i).toNat)
 case atStart => exact ⟨0,n,Nat.zero_le _,rfl,rfl,hn,HOK.out,rfl⟩
 case round =>
  obtain ⟨j,m,hj,rfl,rfl,hm,hf,rfl⟩:=hrel;by_cases hlt:j < k
  ·obtain ⟨r,hr⟩:∃ r,k - j = r + 1:=⟨k - j - 1,by omega⟩
   rw [hr] at hf;have hlt':(j:Int) < k:=by omega
   by_cases hin:-9223372036854775808 <= m * 10 /\ m * 10 <= 9223372036854775807
   ·rw [zc8 hin] at hf
    have HF:=Lib.hid hf; clear hf
    go_wp2;exact ⟨⟨j + 1,m * 10,by omega,by go_num,rfl,hin,by rw [show k - (j + 1) = r by omega]; exact HF.out,trivial⟩,by simp [intOf]; omega⟩
   ·rw [fitsN_no hin] at hf
    have HF:=Lib.hid hf; clear hf
    have hw:=wrap_no hin;go_wp2;go_ret;exact ⟨by rw [<- HF.out]; simp,rfl⟩
  ·obtain rfl:j = k:=by omega
   rw [Nat.sub_self] at hf;have HF:=Lib.hid (show true = ok from hf); clear hf
   go_wp2;go_ret;exact ⟨by rw [<- HF.out]; simp,rfl⟩
def fitsR (ok:Bool) (p:Int):Value:=if ok then .tuple #[.int .i64 p,.bool true] else .tuple #[.int .i64 0,.bool false]
set_option maxHeartbeats 400000 in
theorem fits_any (n:Int) (k:Nat) (w:World) (hn:i64ok n) (hk:k <= 1000) :
  Calls Tryz.prog 97 #[.int .i64 n,.int .i64 k] w fun e w' => e = .returned (fitsR (fitsN k n) (n * 10 ^ k)) /\ w = w':=by
 obtain ⟨ok,hok⟩:∃ ok,fitsN k n = ok:=⟨_,rfl⟩;obtain ⟨p,hp⟩:∃ p,n * 10 ^ k = p:=⟨_,rfl⟩;rw [hok,hp];have HOK:=Lib.hid hok; clear hok
 have HP:=Lib.hid hp; clear hp
 go_enter Tryz.func97,Tryz.ntmps97
 go_wp2
 go_loopw [0,1] (fun x i wr => ∃ (j:Nat) (m:Int),j <= k /\ i = .int .i64 j /\ x = .int .i64 m /\ i64ok m /\ fitsN j m = ok /\ m * 10 ^ j = p /\ w = wr) (fun _ i _ => (intOf i).toNat)
 case atStart => exact ⟨k,n,Nat.le_refl _,rfl,rfl,hn,HOK.out,HP.out,rfl⟩
 case round =>
  obtain ⟨j,m,hj,rfl,rfl,hm,hf,hpp,rfl⟩:=hrel;by_cases hj0:j = 0
  ·subst hj0
   have HF:=Lib.hid (show true = ok from hf);have HPP:=Lib.hid (show m = p by simpa using hpp);clear hf hpp;go_wp2
   go_ret2
   exact ⟨by rw [<- HF.out,HPP.out]; rfl,rfl⟩
  ·obtain ⟨r,rfl⟩:∃ r,j = r + 1:=⟨j - 1,by omega⟩
   have hj1:(0:Int) < (r + 1:Nat):=by omega
   have hpp2:m * 10 * 10 ^ r = p:=by rw [<- hpp,Int.pow_succ,Int.mul_assoc,Int.mul_comm 10]
   have HPP:=Lib.hid hpp2;by_cases hm0:m = 0
   ·subst hm0
    have h0:∀ r,fitsN r 0 = true:=by intro r; induction r with
     | zero => rfl
     | succ r ih => rw [zc8 (by decide)]; exact ih
    have HF:=Lib.hid (show true = ok by rw [<- hf,h0]);have HP0:=Lib.hid (show (0:Int) = p by simpa using hpp);clear hf hpp hpp2 h0;go_wp2
    go_ret2
    exact ⟨by rw [<- HF.out,<- HP0.out]; rfl,rfl⟩
   ·have hne:(m != 0) = true:=by simpa using hm0
    by_cases hin:-9223372036854775808 <= m * 10 /\ m * 10 <= 9223372036854775807
    ·rw [zc8 hin] at hf
     have HF:=Lib.hid hf; clear hf hpp hpp2
     have g1:¬ (922337203685477580:Int) < m:=by omega
     have g2:¬ m < (-922337203685477580:Int):=by omega
     go_wp2;exact ⟨⟨r,m * 10,by omega,by go_num,rfl,hin,HF.out,HPP.out,trivial⟩,by simp [intOf]⟩
    ·rw [fitsN_no hin] at hf
     have HF:=Lib.hid hf; clear hf hpp hpp2
     by_cases g1:(922337203685477580:Int) < m
     ·go_wp2
      go_ret2
      exact ⟨by rw [<- HF.out]; rfl,rfl⟩
     ·have g2:m < (-922337203685477580:Int):=by omega
      go_wp2
      go_ret2
      exact ⟨by rw [<- HF.out]; rfl,rfl⟩
theorem decOk_e {n e:Int} (h:¬ (-20 <= e /\ e <= 20)):decOk n e = false:=by unfold decOk; rw [zaM h]; rfl
set_option maxHeartbeats 1000000 in
set_option maxRecDepth 10000 in
theorem isDec_any (x:V) (cs:List Value) (w:World) (h:Rd w x.d cs) (hwf:x.wf) :
  Calls Tryz.prog 83 #[.agg cs.toArray] w fun e w' => e = .returned (.bool (decOk x.num x.exp)) /\ Below w.heap.size w w':=by
 obtain ⟨k,n,e,s,kids,v1,rfl,rfl,hkids⟩:=V.lay h;obtain ⟨a1,c1,rfl⟩:=Rd.sl_form hkids;obtain ⟨hk,hn,he,hs,_⟩:=hwf;have H1:=Lib.hid (decOk_e (n:=n) (e:=e));show Calls _ _ _ _ fun e' w' => e' = .returned (.bool (decOk n e)) /\ _
 obtain ⟨ok,hok⟩:∃ ok,decOk n e = ok:=⟨_,rfl⟩;rw [hok];have HA:=Lib.hid ((Below.refl w.heap.size w).alloc (Nat.le_refl _) (.cells #[.int .i64 k,.int .i64 n,.int .i64 e,.string ⟨s.toArray⟩,.slice a1 (V.ds kids).length c1] 32));clear h hkids;by_cases h1:-20 <= e /\ e <= 20
 ·by_cases h2:e = 0
  ·have H:Hid (ok = false):=by show _ = _; rw [<- hok,h2]; unfold decOk; rw [zat (by decide)]; simp
   subst h2;clear hok
   go_enter Tryz.func83,Tryz.ntmps83
   go_wp2;go_ret;exact ⟨by rw [H.out]; rfl,HA.out⟩
  ·have g2:(e == 0) = false:=by simpa using h2
   by_cases h3:-999999999999999999 <= n /\ n <= 999999999999999999
   ·by_cases h4:Int.tmod n 10 = 0
    ·have H:Hid (ok = false):=by show _ = _; rw [<- hok]; unfold decOk; rw [h4]; simp
     have g4:(Int.tmod n 10 == 0) = true:=by simpa using h4
     clear hok
     go_enter Tryz.func83,Tryz.ntmps83
     go_wp2;go_ret;exact ⟨by rw [H.out]; rfl,HA.out⟩
    ·have g4:(Int.tmod n 10 == 0) = false:=by simpa using h4
     by_cases h5:0 < e
     ·obtain ⟨j,rfl⟩:∃ j:Nat,e = j:=⟨e.toNat,by omega⟩
      have H:Hid (ok = !fitsN j n):=by show _ = _; rw [<- hok]; unfold decOk; rw [zat h1,zat h3]; simp [h4,show j ≠ 0 by omega,show 0 < j by omega]
      clear hok
      go_enter Tryz.func83,Tryz.ntmps83
      cases hf:fitsN j n with
      | true =>
       have HF:=Lib.hid hf; clear hf
       go_wp2_with (first | (go_at_call 84; refine (zbs _ _ _ _).mono ?_; rintro e w1 ⟨rfl,rfl⟩; first | rw [zat h1] | rw [zat h3]) | (go_at_call 97; refine (fits_any n j _ hn (by omega)).mono ?_; rw [HF.out]; rintro e w1 ⟨rfl,rfl⟩; simp only [fitsR,if_true]))
       go_ret
       exact ⟨by rw [H.out,HF.out]; rfl,HA.out⟩
      | false =>
       have HF:=Lib.hid hf; clear hf
       go_wp2_with (first | (go_at_call 84; refine (zbs _ _ _ _).mono ?_; rintro e w1 ⟨rfl,rfl⟩; first | rw [zat h1] | rw [zat h3]) | (go_at_call 97; refine (fits_any n j _ hn (by omega)).mono ?_; rw [HF.out]; rintro e w1 ⟨rfl,rfl⟩; simp only [fitsR,Bool.false_eq_true,if_false]))
       go_ret;exact ⟨by rw [H.out,HF.out]; rfl,HA.out⟩
     ·have H:Hid (ok = true):=by show _ = _; rw [<- hok]; unfold decOk; rw [zat h1,zat h3]; simp [h2,h4,h5]
      clear hok
      go_enter Tryz.func83,Tryz.ntmps83
      go_wp2;go_ret;exact ⟨by rw [H.out]; rfl,HA.out⟩
   ·have H:Hid (ok = false):=by show _ = _; rw [<- hok]; unfold decOk; rw [zaM h3]; simp
    clear hok
    go_enter Tryz.func83,Tryz.ntmps83
    go_wp2
    all_goals (go_ret; exact ⟨by rw [H.out]; rfl,HA.out⟩)
 ·have H:Hid (ok = false):=hok.symm.trans (H1.out h1)
  clear hok
  go_enter Tryz.func83,Tryz.ntmps83
  go_wp2
  all_goals (go_ret; exact ⟨by rw [H.out]; rfl,HA.out⟩)
end Go.Proofs.YtanjncmokckjiaaGreatDoor
/- Whether values are keys and values by turns: the reference's l02Pairs. -/
namespace Go.Proofs.YtanjncmokckjiaaGreatDoor
open Go.RowKit
theorem zdw {α:Type} (f:V -> α) (ks:List V) (m:Nat) (h:m < ks.length):(ks.take (m + 1)).map f = (ks.take m).map f ++ [f ks[m]]:=by
 rw [List.take_succ_eq_append_getElem h,List.map_append]; rfl
theorem zc9 {α:Type} [DecidableEq α] {f:V -> α} {ks:List V} {j:Nat} (hj:j < ks.length) (h:uniq f (ks.take j) = true) (hk:isKeyK ks[j].kind = true) (hn:f ks[j] ∉ (ks.take j).map f):uniq f (ks.take (j + 1)) = true:=by
 rw [List.take_succ_eq_append_getElem hj,zcM,h,hk,decide_eq_true hn]; rfl
theorem zeH {α:Type} [DecidableEq α] {f:V -> α} {ks:List V} {j:Nat} (hj:j < ks.length) (hk:isKeyK ks[j].kind = false):uniq f ks = false:=by
 apply zea (j + 1)
 rw [List.take_succ_eq_append_getElem hj,zcM,hk,Bool.false_and,Bool.and_false]
theorem zda {α:Type} [DecidableEq α] {f:V -> α} {ks:List V} {j:Nat} (hj:j < ks.length) (hn:f ks[j] ∈ (ks.take j).map f):uniq f ks = false:=by
 apply zea (j + 1)
 rw [List.take_succ_eq_append_getElem hj,zcM,decide_eq_false (fun h => h hn),Bool.and_false,Bool.and_false]
set_option maxHeartbeats 4000000 in
set_option maxRecDepth 10000 in
theorem zeI (xs:List V) (v:Value) (w:World) (h:Rd w (.sl 5 (V.ds xs)) [v]) (hlen:xs.length <= 4294967295) :
  Calls Tryz.prog 74 #[v] w fun e w' => e = .returned (.bool (pairsOk xs)) /\ Below w.heap.size w w':=by
 obtain ⟨a,c,rfl,hg⟩:=h.values;obtain ⟨ok,hok⟩:∃ ok,pairsOk xs = ok:=⟨_,rfl⟩;rw [hok];have HOK:=Lib.hid hok; clear hok h
 obtain ⟨ks,hks⟩:∃ ks,odds xs = ks:=⟨_,rfl⟩;have hkl:ks.length = (xs.length + 1) / 2:=by rw [<- hks,zaF]
 have HKG:Hid (∀ j (h1:2 * j < xs.length) (h2:j < ks.length),ks[j] = xs[2 * j]):=by
  intro j h1 h2; subst hks; exact zcv xs j h1
 have HKS:=Lib.hid hks; clear hks
 go_enter Tryz.func74,Tryz.ntmps74
 go_wp2
 go_loopw [3] (fun i wr => ∃ (j k:Nat),k = 2 * j /\ j <= ks.length /\ i = .int .i64 k /\ uniq V.mark (ks.take j) = true /\ Below w.heap.size w wr) (fun i _ => xs.length + 1 - (intOf i).toNat)
 case atStart => exact ⟨0,0,rfl,Nat.zero_le _,rfl,by simp [uniq],Below.refl _ _⟩
 case round =>
  obtain ⟨j,k,hkj,hj,rfl,hu,hbel⟩:=hrel;have HKJ:=Lib.hid hkj;have HU:=Lib.hid hu; clear hu
  by_cases hlt:k < xs.length
  ·have hjk:j < ks.length:=by omega
   have hkk:=HKG.out j (by omega) hjk;obtain ⟨_,_,b,o,rfl,hb,hcell⟩:=hg (by intro e; rw [e] at hlt; simp at hlt);have HC:=Lib.hid hcell;obtain ⟨v0,v1,v2,v3,v4,hr,d0,d1,d2,d3,d4⟩:=hcell k hlt;clear hcell;obtain ⟨xk,xn,xe,xs',xkids,y4,hx,hcs,_⟩:=V.lay hr;simp only [List.cons.injEq,and_true] at hcs;obtain ⟨rfl,rfl,rfl,rfl,rfl⟩:=hcs;have hbc:=(zaI hbel).1;have D0:=Lib.hid d0;have D1:=Lib.hid d1;have D3:=Lib.hid d3;rw [<- hbc _ _ hb] at d0 d1 d3;clear hr d2 d4;have hkx:ks[j] = .mk xk xn xe xs' xkids:=by rw [hkk,<- hx]; subst hkj; rfl
   have hi1:(0:Int) <= k:=by omega
   have hi3:(k:Int) < xs.length:=by omega
   have HX:=Lib.hid hkx;clear hbc hkk hx hkx hkj;by_cases hkey:isKeyK xk = true
   ·have HK:=Lib.hid hkey
    have hkk:(xk != 5) = false \/ ((xk != 5) = true /\ (xk != 3) = false):=by simp [isKeyK] at hkey ⊢; omega
    clear hkey
    rcases hkk with hk5 | ⟨hk5,hk3⟩
    ·go_wp2
     go_loopw [4] (fun i wr => ∃ (m r:Nat),r = 2 * m /\ m <= j /\ i = .int .i64 r /\ (V.mk xk xn xe xs' xkids).mark ∉ (ks.take m).map V.mark /\ Below w.heap.size w wr) (fun i _ => k + 1 - (intOf i).toNat)
     case atStart => exact ⟨0,0,rfl,Nat.zero_le _,rfl,by simp,hbel⟩
     case round =>
      obtain ⟨m,r,hrm,hm,rfl,hni,hbel2⟩:=hrel;have HRM:=Lib.hid hrm;have HNI:=Lib.hid hni; clear hni
      have hkj:=HKJ.out;by_cases hml:r < k
      ·have hmk:m < ks.length:=by omega
       have hmm:=HKG.out m (by omega) hmk;obtain ⟨u0,u1,u2,u3,u4,hr2,e0,e1,e2,e3,e4⟩:=HC.out r (by omega);obtain ⟨yk,yn,ye,ys,ykids,y5,hy,hcs2,_⟩:=V.lay hr2;simp only [List.cons.injEq,and_true] at hcs2;obtain ⟨rfl,rfl,rfl,rfl,rfl⟩:=hcs2;have hbc2:=(zaI hbel2).1;rw [<- hbc2 _ _ hb] at e0 e1 e3;have d0':=(hbc2 _ _ hb).trans D0.out;have d1':=(hbc2 _ _ hb).trans D1.out;have d3':=(hbc2 _ _ hb).trans D3.out;clear hr2 e2 e4 d0 d1 d3;have hky:ks[m] = .mk yk yn ye ys ykids:=by rw [hmm,<- hy]; subst hrm; rfl
       have HY:=Lib.hid hky;have hj1:(0:Int) <= r:=by omega
       have hj3:(r:Int) < xs.length:=by omega
       have hj5:(r:Int) < k:=by omega
       have hm5:m < j:=by omega
       have hr5:r + 2 < k + 3:=by omega
       clear hbc2 hmm hy hky hrm hkj;by_cases heq:yk = xk /\ yn = xn /\ ys = xs'
       ·obtain ⟨rfl,rfl,rfl⟩:=heq
        have HF:Hid (pairsOk xs = false):=by
         show _ = _; unfold pairsOk; rw [HKS.out,zda hjk (by
          rw [HX.out];refine List.mem_map.2 ⟨ks[m],List.mem_take_iff_getElem.2 ⟨m,by omega,rfl⟩,by rw [HY.out]; rfl⟩)]; rfl
        have g1:(yk == yk) = true:=by simp
        have g2:(yn == yn) = true:=by simp
        go_wp2
        go_quiet (fail)
        go_wp2;go_ret;exact ⟨by rw [<- HOK.out,HF.out]; rfl,by first | exact hbel2 | exact hbel2.drew | exact Go.below_drewN hbel2 _⟩
       ·have HM:Hid ((V.mk xk xn xe xs' xkids).mark ∉ (ks.take (m + 1)).map V.mark):=by
         show _ ∉ _;rw [zdw _ _ _ hmk,List.mem_append,HY.out];rintro (h | h)
         ·exact HNI.out h
         ·simp only [List.mem_singleton,V.mark,V.kind,V.num,V.text,Prod.mk.injEq] at h
          exact heq ⟨h.1.symm,h.2.1.symm,h.2.2.symm⟩
        by_cases h1:yk = xk
        ·subst h1
         have g1:(yk == yk) = true:=by simp
         by_cases h2:yn = xn
         ·subst h2
          have g2:(yn == yn) = true:=by simp
          have h3:¬ ys = xs':=fun e => heq ⟨rfl,rfl,e⟩
          have g3:(ys == xs') = false:=by simpa using h3
          clear heq h3;go_wp2
          go_quiet (fail)
          go_wp2;go_roundw
          case rel => exact ⟨m + 1,r + 2,by have:=HRM.out; omega,by omega,by go_num,HM.out,by first | exact hbel2 | exact hbel2.drew | exact Go.below_drewN hbel2 _⟩
          case measure => simp [intOf]; omega
         ·have g2:(yn == xn) = false:=by simpa using h2
          clear heq h2;go_wp2
          go_quiet (fail)
          go_wp2;go_roundw
          case rel => exact ⟨m + 1,r + 2,by have:=HRM.out; omega,by omega,by go_num,HM.out,by first | exact hbel2 | exact hbel2.drew | exact Go.below_drewN hbel2 _⟩
          case measure => simp [intOf]; omega
        ·have g1:(yk == xk) = false:=by simpa using h1
         clear heq h1;go_wp2
         go_quiet (fail)
         go_wp2;go_roundw
         case rel => exact ⟨m + 1,r + 2,by have:=HRM.out; omega,by omega,by go_num,HM.out,by first | exact hbel2 | exact hbel2.drew | exact Go.below_drewN hbel2 _⟩
         case measure => simp [intOf]; omega
      ·obtain rfl:m = j:=by omega
       have HM:Hid (uniq V.mark (ks.take (m + 1)) = true):=zc9 hjk HU.out (by rw [HX.out]; exact HK.out) (by rw [HX.out]; exact HNI.out);clear hrm hkj;go_wp2;go_roundw
       case rel => exact ⟨m + 1,k + 2,by have:=HKJ.out; omega,by omega,by go_num,HM.out,hbel2⟩
       case measure => simp [intOf]; omega
    ·go_wp2
     go_loopw [4] (fun i wr => ∃ (m r:Nat),r = 2 * m /\ m <= j /\ i = .int .i64 r /\ (V.mk xk xn xe xs' xkids).mark ∉ (ks.take m).map V.mark /\ Below w.heap.size w wr) (fun i _ => k + 1 - (intOf i).toNat)
     case atStart => exact ⟨0,0,rfl,Nat.zero_le _,rfl,by simp,hbel⟩
     case round =>
      obtain ⟨m,r,hrm,hm,rfl,hni,hbel2⟩:=hrel;have HRM:=Lib.hid hrm;have HNI:=Lib.hid hni; clear hni
      have hkj:=HKJ.out;by_cases hml:r < k
      ·have hmk:m < ks.length:=by omega
       have hmm:=HKG.out m (by omega) hmk;obtain ⟨u0,u1,u2,u3,u4,hr2,e0,e1,e2,e3,e4⟩:=HC.out r (by omega);obtain ⟨yk,yn,ye,ys,ykids,y5,hy,hcs2,_⟩:=V.lay hr2;simp only [List.cons.injEq,and_true] at hcs2;obtain ⟨rfl,rfl,rfl,rfl,rfl⟩:=hcs2;have hbc2:=(zaI hbel2).1;rw [<- hbc2 _ _ hb] at e0 e1 e3;have d0':=(hbc2 _ _ hb).trans D0.out;have d1':=(hbc2 _ _ hb).trans D1.out;have d3':=(hbc2 _ _ hb).trans D3.out;clear hr2 e2 e4 d0 d1 d3;have hky:ks[m] = .mk yk yn ye ys ykids:=by rw [hmm,<- hy]; subst hrm; rfl
       have HY:=Lib.hid hky;have hj1:(0:Int) <= r:=by omega
       have hj3:(r:Int) < xs.length:=by omega
       have hj5:(r:Int) < k:=by omega
       have hm5:m < j:=by omega
       have hr5:r + 2 < k + 3:=by omega
       clear hbc2 hmm hy hky hrm hkj;by_cases heq:yk = xk /\ yn = xn /\ ys = xs'
       ·obtain ⟨rfl,rfl,rfl⟩:=heq
        have HF:Hid (pairsOk xs = false):=by
         show _ = _; unfold pairsOk; rw [HKS.out,zda hjk (by
          rw [HX.out];refine List.mem_map.2 ⟨ks[m],List.mem_take_iff_getElem.2 ⟨m,by omega,rfl⟩,by rw [HY.out]; rfl⟩)]; rfl
        have g1:(yk == yk) = true:=by simp
        have g2:(yn == yn) = true:=by simp
        go_wp2
        go_quiet (fail)
        go_wp2;go_ret;exact ⟨by rw [<- HOK.out,HF.out]; rfl,by first | exact hbel2 | exact hbel2.drew | exact Go.below_drewN hbel2 _⟩
       ·have HM:Hid ((V.mk xk xn xe xs' xkids).mark ∉ (ks.take (m + 1)).map V.mark):=by
         show _ ∉ _;rw [zdw _ _ _ hmk,List.mem_append,HY.out];rintro (h | h)
         ·exact HNI.out h
         ·simp only [List.mem_singleton,V.mark,V.kind,V.num,V.text,Prod.mk.injEq] at h
          exact heq ⟨h.1.symm,h.2.1.symm,h.2.2.symm⟩
        by_cases h1:yk = xk
        ·subst h1
         have g1:(yk == yk) = true:=by simp
         by_cases h2:yn = xn
         ·subst h2
          have g2:(yn == yn) = true:=by simp
          have h3:¬ ys = xs':=fun e => heq ⟨rfl,rfl,e⟩
          have g3:(ys == xs') = false:=by simpa using h3
          clear heq h3;go_wp2
          go_quiet (fail)
          go_wp2;go_roundw
          case rel => exact ⟨m + 1,r + 2,by have:=HRM.out; omega,by omega,by go_num,HM.out,by first | exact hbel2 | exact hbel2.drew | exact Go.below_drewN hbel2 _⟩
          case measure => simp [intOf]; omega
         ·have g2:(yn == xn) = false:=by simpa using h2
          clear heq h2;go_wp2
          go_quiet (fail)
          go_wp2;go_roundw
          case rel => exact ⟨m + 1,r + 2,by have:=HRM.out; omega,by omega,by go_num,HM.out,by first | exact hbel2 | exact hbel2.drew | exact Go.below_drewN hbel2 _⟩
          case measure => simp [intOf]; omega
        ·have g1:(yk == xk) = false:=by simpa using h1
         clear heq h1;go_wp2
         go_quiet (fail)
         go_wp2;go_roundw
         case rel => exact ⟨m + 1,r + 2,by have:=HRM.out; omega,by omega,by go_num,HM.out,by first | exact hbel2 | exact hbel2.drew | exact Go.below_drewN hbel2 _⟩
         case measure => simp [intOf]; omega
      ·obtain rfl:m = j:=by omega
       have HM:Hid (uniq V.mark (ks.take (m + 1)) = true):=zc9 hjk HU.out (by rw [HX.out]; exact HK.out) (by rw [HX.out]; exact HNI.out);clear hrm hkj;go_wp2;go_roundw
       case rel => exact ⟨m + 1,k + 2,by have:=HKJ.out; omega,by omega,by go_num,HM.out,hbel2⟩
       case measure => simp [intOf]; omega
   ·have hk5:(xk != 5) = true:=by simp [isKeyK] at hkey ⊢; omega
    have hk3:(xk != 3) = true:=by simp [isKeyK] at hkey ⊢; omega
    have HF:Hid (pairsOk xs = false):=by
     show _ = _; unfold pairsOk; rw [HKS.out,zeH hjk (by rw [HX.out]; simpa [V.kind] using hkey)]; rfl
    clear hkey;go_wp2;go_ret;exact ⟨by rw [<- HOK.out,HF.out]; rfl,hbel⟩
  ·obtain rfl:j = ks.length:=by omega
   clear hkj;have h1:=HU.out;rw [List.take_length] at h1
   have HF:Hid (pairsOk xs = (decide (xs.length % 2 = 0) && decide (xs.length <= 300))):=by
    show _ = _; unfold pairsOk; rw [HKS.out,h1]; rfl
   clear h1;by_cases he:xs.length % 2 = 0
   ·have he':((xs.length:Int) % 2 == 0) = true:=by simp; omega
    rw [decide_eq_true he] at HF;clear he;go_wp2;go_ret;exact ⟨by rw [<- HOK.out,HF.out]; go_num,hbel⟩
   ·have he':((xs.length:Int) % 2 == 0) = false:=by simp; omega
    rw [decide_eq_false he] at HF;clear he;go_wp2;go_ret;exact ⟨by rw [<- HOK.out,HF.out]; rfl,hbel⟩
end Go.Proofs.YtanjncmokckjiaaGreatDoor
/- When a value is right but for its kids: the reference's l02Own. -/
namespace Go.Proofs.YtanjncmokckjiaaGreatDoor
open Go.RowKit
open Go.Lib (validD)
theorem isE (s:List UInt8):s.isEmpty = decide (s = []):=by cases s <;> simp
theorem len0 (l:List V):((l.length:Int) == 0) = decide (l = []):=by
 cases l with
 | nil => rfl
 | cons a r => simp; omega
theorem len1 (l:List V):((l.length:Int) == 1) = decide (l.length = 1):=by rw [Bool.eq_iff_iff]; simp; omega
set_option maxHeartbeats 400000 in
theorem zeJ (n e:Int) (w:World) (hn:i64ok n) (he:-1000 <= e /\ e <= 1000) :
  Calls Tryz.prog 73 #[.int .i64 n,.int .i64 e] w fun r w' => r = .returned (.bool (decide (0 < e) && fitsN e.toNat n)) /\ w = w':=by
 by_cases h:0 < e
 ·obtain ⟨k,rfl⟩:∃ k:Nat,e = k:=⟨e.toNat,by omega⟩
  refine (zeG n k w hn (by omega)).mono ?_;rintro r w' ⟨rfl,rfl⟩;exact ⟨zal (by rw [decide_eq_true (show 0 < k by omega),decide_eq_true h]; rfl),rfl⟩
 ·have H:=Lib.hid (show (decide (0 < e) && fitsN e.toNat n) = false by rw [decide_eq_false h]; rfl)
  have h2:¬ (0:Int) < e:=h
  go_enter Tryz.func73,Tryz.ntmps73
  go_wp2
  go_loopw [5] (fun i wr => i = .int .i64 0 /\ w = wr) (fun _ _ => 0)
  case atStart => exact ⟨rfl,rfl⟩
  case round =>
   obtain ⟨rfl,rfl⟩:=hrel;go_wp2;go_ret;exact ⟨by rw [H.out]; simp <;> omega,rfl⟩
set_option maxHeartbeats 4000000 in
set_option maxRecDepth 10000 in
theorem l02Own_any (x:V) (cs:List Value) (w:World) (h:Rd w x.d cs) (hwf:x.wf) (hbk:x.bulk <= 4294967295) :
  Calls Tryz.prog 51 #[.agg cs.toArray] w fun e w' => e = .returned (.bool x.self) /\ Below w.heap.size w w':=by
 obtain ⟨k,n,e,s,kids,v1,rfl,rfl,hkids⟩:=V.lay h;have hP:=Lib.hid (fun w1 (hb:Below w.heap.size w w1) => zeI kids v1 w1 (hkids.below hb) (by simp only [V.bulk] at hbk; omega));obtain ⟨a1,c1,rfl⟩:=Rd.sl_form hkids;rw [V.ds_map,List.length_map] at hP ⊢;have hsl:s.length <= 4294967295:=by simp only [V.bulk] at hbk; omega
 have hkl:kids.length <= 4294967295:=by simp only [V.bulk] at hbk; omega
 obtain ⟨hk,hn,he,_,_,_⟩:=hwf;obtain ⟨ok,hok⟩:∃ ok,V.self (.mk k n e s kids) = ok:=⟨_,rfl⟩;rw [hok];have hA:=(Below.refl w.heap.size w).alloc (Nat.le_refl _) (.cells #[.int .i64 k,.int .i64 n,.int .i64 e,.string ⟨s.toArray⟩,.slice a1 kids.length c1] 32);clear h hkids hbk;have HOK:=Lib.hid hok; clear hok
 have HA:=Lib.hid hA; clear hA; have hW0:=Lib.hid hn; clear hW0
 by_cases q7:k = 7
 ·subst q7
  go_enter Tryz.func51,Tryz.ntmps51
  go_wp2
  go_quiet (fail)
  go_wp2
  all_goals (go_ret; refine ⟨zal ?_,by first | exact Go.below_drewN ((Below.refl _ _).alloc (Nat.le_refl _) _) _ | exact zac (Go.below_drewN ((Below.refl _ _).alloc (Nat.le_refl _) _) _) (by assumption) (by first | exact Nat.le_refl _ | simp)⟩; rw [<- HOK.out]; simp_all [V.self,V.selfBy,isE] <;> (intros; omega))
 by_cases q0:k = 0
 ·subst q0
  go_enter Tryz.func51,Tryz.ntmps51
  go_wp2
  go_quiet (fail)
  go_wp2
  all_goals (go_ret; refine ⟨zal ?_,by first | exact Go.below_drewN ((Below.refl _ _).alloc (Nat.le_refl _) _) _ | exact zac (Go.below_drewN ((Below.refl _ _).alloc (Nat.le_refl _) _) _) (by assumption) (by first | exact Nat.le_refl _ | simp)⟩; rw [<- HOK.out]; simp_all [V.self,V.selfBy,len0] <;> (intros; omega))
 by_cases q1:k = 1
 ·subst q1
  go_enter Tryz.func51,Tryz.ntmps51
  go_wp2
  go_quiet (fail)
  go_wp2
  all_goals (go_ret; refine ⟨zal ?_,by first | exact Go.below_drewN ((Below.refl _ _).alloc (Nat.le_refl _) _) _ | exact zac (Go.below_drewN ((Below.refl _ _).alloc (Nat.le_refl _) _) _) (by assumption) (by first | exact Nat.le_refl _ | simp)⟩; rw [<- HOK.out]; simp_all [V.self,V.selfBy,len0] <;> (intros; omega))
 by_cases q2:k = 2
 ·subst q2
  go_enter Tryz.func51,Tryz.ntmps51
  go_wp2
  go_quiet (fail)
  go_wp2
  all_goals (go_ret; refine ⟨zal ?_,by first | exact Go.below_drewN ((Below.refl _ _).alloc (Nat.le_refl _) _) _ | exact zac (Go.below_drewN ((Below.refl _ _).alloc (Nat.le_refl _) _) _) (by assumption) (by first | exact Nat.le_refl _ | simp)⟩; rw [<- HOK.out]; simp_all [V.self,V.selfBy,len0] <;> (intros; omega))
 by_cases q3:k = 3
 ·subst q3
  go_enter Tryz.func51,Tryz.ntmps51
  go_wp2
  go_quiet (fail)
  go_wp2
  all_goals (go_ret; refine ⟨zal ?_,by first | exact Go.below_drewN ((Below.refl _ _).alloc (Nat.le_refl _) _) _ | exact zac (Go.below_drewN ((Below.refl _ _).alloc (Nat.le_refl _) _) _) (by assumption) (by first | exact Nat.le_refl _ | simp)⟩; rw [<- HOK.out]; simp_all [V.self,V.selfBy,len0] <;> (intros; omega))
 by_cases q6:k = 6
 ·subst q6
  by_cases hs2:s.length <= 2000
  ·skip
   go_enter Tryz.func51,Tryz.ntmps51
   go_wp2
   go_quiet (fail)
   go_wp2
   all_goals (go_ret; refine ⟨zal ?_,by first | exact Go.below_drewN ((Below.refl _ _).alloc (Nat.le_refl _) _) _ | exact zac (Go.below_drewN ((Below.refl _ _).alloc (Nat.le_refl _) _) _) (by assumption) (by first | exact Nat.le_refl _ | simp)⟩; rw [<- HOK.out]; simp_all [V.self,V.selfBy,len0] <;> (intros; omega))
  ·skip
   go_enter Tryz.func51,Tryz.ntmps51
   go_wp2
   go_quiet (fail)
   go_wp2
   all_goals (go_ret; refine ⟨zal ?_,by first | exact Go.below_drewN ((Below.refl _ _).alloc (Nat.le_refl _) _) _ | exact zac (Go.below_drewN ((Below.refl _ _).alloc (Nat.le_refl _) _) _) (by assumption) (by first | exact Nat.le_refl _ | simp)⟩; rw [<- HOK.out]; simp_all [V.self,V.selfBy] <;> (intros; omega))
 by_cases q5:k = 5
 ·subst q5
  by_cases hs2:s.length <= 2000
  ·skip
   go_enter Tryz.func51,Tryz.ntmps51
   go_wp2
   go_quiet (fail)
   go_wp2_with (go_at_call 30; refine (zbK s _ hsl).mono ?_; rintro e1 w1 ⟨rfl,hb1⟩; have f3:w1.cell? ⟨w.heap.size,3,none⟩ = some (.string ⟨s.toArray⟩):=(by rw [(zaI hb1).1 _ _ (by simp)]; simp [go_sem]); have f4:w1.cell? ⟨w.heap.size,4,none⟩ = some (.slice a1 kids.length c1):=(by rw [(zaI hb1).1 _ _ (by simp)]; simp [go_sem]))
   all_goals (go_ret; refine ⟨zal ?_,by first | exact Go.below_drewN ((Below.refl _ _).alloc (Nat.le_refl _) _) _ | exact zac (Go.below_drewN ((Below.refl _ _).alloc (Nat.le_refl _) _) _) (by assumption) (by first | exact Nat.le_refl _ | simp)⟩; rw [<- HOK.out]; simp_all [V.self,V.selfBy,len0] <;> (intros; omega))
  ·skip
   go_enter Tryz.func51,Tryz.ntmps51
   go_wp2
   go_quiet (fail)
   go_wp2_with (go_at_call 30; refine (zbK s _ hsl).mono ?_; rintro e1 w1 ⟨rfl,hb1⟩; have f3:w1.cell? ⟨w.heap.size,3,none⟩ = some (.string ⟨s.toArray⟩):=(by rw [(zaI hb1).1 _ _ (by simp)]; simp [go_sem]); have f4:w1.cell? ⟨w.heap.size,4,none⟩ = some (.slice a1 kids.length c1):=(by rw [(zaI hb1).1 _ _ (by simp)]; simp [go_sem]))
   all_goals (go_ret; refine ⟨zal ?_,by first | exact Go.below_drewN ((Below.refl _ _).alloc (Nat.le_refl _) _) _ | exact zac (Go.below_drewN ((Below.refl _ _).alloc (Nat.le_refl _) _) _) (by assumption) (by first | exact Nat.le_refl _ | simp)⟩; rw [<- HOK.out]; simp_all [V.self,V.selfBy] <;> (intros; omega))
 by_cases q8:k = 8
 ·subst q8
  go_enter Tryz.func51,Tryz.ntmps51
  go_wp2
  go_quiet (fail)
  go_wp2_with (go_at_call 74; refine (hP.out _ (Go.below_drewN ((Below.refl _ _).alloc (Nat.le_refl _) _) _)).mono ?_; rintro e1 w1 ⟨rfl,hb1⟩)
  all_goals (go_ret; refine ⟨zal ?_,by first | exact Go.below_drewN ((Below.refl _ _).alloc (Nat.le_refl _) _) _ | exact zac (Go.below_drewN ((Below.refl _ _).alloc (Nat.le_refl _) _) _) (by assumption) (by first | exact Nat.le_refl _ | simp)⟩; rw [<- HOK.out]; simp_all [V.self,V.selfBy] <;> (intros; omega))
 by_cases q9:k = 9
 ·subst q9
  go_enter Tryz.func51,Tryz.ntmps51
  go_wp2
  go_quiet (fail)
  go_wp2_with (go_at_call 72; refine (zau _ _ _ _).mono ?_; rintro e1 w1 ⟨rfl,rfl⟩)
  all_goals (go_ret; refine ⟨zal ?_,by first | exact Go.below_drewN ((Below.refl _ _).alloc (Nat.le_refl _) _) _ | exact zac (Go.below_drewN ((Below.refl _ _).alloc (Nat.le_refl _) _) _) (by assumption) (by first | exact Nat.le_refl _ | simp)⟩; rw [<- HOK.out]; simp_all [V.self,V.selfBy,len1] <;> (intros; omega))
 by_cases q4:k = 4
 ·subst q4
  by_cases g1:Int.tmod n 10 = 0
  ·have g1':(Int.tmod n 10 != 0) = false:=by simpa using g1
   have H:=Lib.hid (show ok = false by rw [<- HOK.out]; simp [V.self,V.selfBy,decOk,g1])
   go_enter Tryz.func51,Tryz.ntmps51
   go_wp2
   go_quiet (fail)
   go_wp2;go_ret;exact ⟨by rw [H.out]; rfl,Go.below_drewN ((Below.refl _ _).alloc (Nat.le_refl _) _) _⟩
  ·have g1':(Int.tmod n 10 != 0) = true:=by simpa using g1
   by_cases g2:-20 <= e /\ e <= 20
   ·by_cases g3:e = 0
    ·subst g3
     have H:=Lib.hid (show ok = false by rw [<- HOK.out]; simp [V.self,V.selfBy,decOk])
     go_enter Tryz.func51,Tryz.ntmps51
     go_wp2
     go_quiet (fail)
     go_wp2_with (go_at_call 72; refine (zau _ _ _ _).mono ?_; rintro e1 w1 ⟨rfl,rfl⟩)
     all_goals (go_ret; exact ⟨by rw [H.out]; rfl,Go.below_drewN ((Below.refl _ _).alloc (Nat.le_refl _) _) _⟩)
    ·have g3':(e == 0) = false:=by simpa using g3
     by_cases g4:-999999999999999999 <= n /\ n <= 999999999999999999
     ·by_cases g5:s = []
      ·subst g5
       by_cases g6:kids = []
       ·subst g6
        have H:=Lib.hid (show ok = !(decide (0 < e) && fitsN e.toNat n) by rw [<- HOK.out]; simp [V.self,V.selfBy,decOk,zat g2,zat g4,g1,g3])
        go_enter Tryz.func51,Tryz.ntmps51
        go_wp2
        go_quiet (fail)
        go_wp2_with (first | (go_at_call 72; refine (zau _ _ _ _).mono ?_; rintro e1 w1 ⟨rfl,rfl⟩; first | rw [zat g2] | rw [zat g4]) | (go_at_call 73; refine (zeJ n e _ hn (by omega)).mono ?_; rintro e1 w1 ⟨rfl,rfl⟩))
        go_ret;exact ⟨by rw [H.out]; simp,Go.below_drewN ((Below.refl _ _).alloc (Nat.le_refl _) _) _⟩
       ·have H:=Lib.hid (show ok = false by rw [<- HOK.out]; simp [V.self,V.selfBy,g6])
        have g6':((kids.length:Int) == 0) = false:=by rw [len0,decide_eq_false g6]
        go_enter Tryz.func51,Tryz.ntmps51
        go_wp2
        go_quiet (fail)
        go_wp2_with (first | (go_at_call 72; refine (zau _ _ _ _).mono ?_; rintro e1 w1 ⟨rfl,rfl⟩; first | rw [zat g2] | rw [zat g4]))
        go_ret;exact ⟨by rw [H.out]; rfl,Go.below_drewN ((Below.refl _ _).alloc (Nat.le_refl _) _) _⟩
      ·have H:=Lib.hid (show ok = false by rw [<- HOK.out]; simp [V.self,V.selfBy,g5])
       have g5':s.isEmpty = false:=by rw [isE,decide_eq_false g5]
       go_enter Tryz.func51,Tryz.ntmps51
       go_wp2
       go_quiet (fail)
       go_wp2_with (first | (go_at_call 72; refine (zau _ _ _ _).mono ?_; rintro e1 w1 ⟨rfl,rfl⟩; first | rw [zat g2] | rw [zat g4]))
       go_ret;exact ⟨by rw [H.out]; rfl,Go.below_drewN ((Below.refl _ _).alloc (Nat.le_refl _) _) _⟩
     ·have H:=Lib.hid (show ok = false by rw [<- HOK.out]; simp [V.self,V.selfBy,decOk,zaM g4])
      go_enter Tryz.func51,Tryz.ntmps51
      go_wp2
      go_quiet (fail)
      go_wp2_with (first | (go_at_call 72; refine (zau _ _ _ _).mono ?_; rintro e1 w1 ⟨rfl,rfl⟩; first | rw [zaM g4] | rw [zat g2]))
      go_ret;exact ⟨by rw [H.out]; rfl,Go.below_drewN ((Below.refl _ _).alloc (Nat.le_refl _) _) _⟩
   ·have H:=Lib.hid (show ok = false by rw [<- HOK.out]; simp [V.self,V.selfBy,decOk,zaM g2])
    have H2:=Lib.hid (zaM g2)
    go_enter Tryz.func51,Tryz.ntmps51
    go_wp2
    go_quiet (fail)
    go_wp2_with (go_at_call 72; refine (zau _ _ _ _).mono ?_; rintro e1 w1 ⟨rfl,rfl⟩; try rw [H2.out])
    all_goals (go_ret; exact ⟨by rw [H.out]; rfl,Go.below_drewN ((Below.refl _ _).alloc (Nat.le_refl _) _) _⟩)
 have H:=Lib.hid (show ok = false by rw [<- HOK.out]; simp [V.self,V.selfBy,q0,q1,q2,q3,q4,q5,q6,q7,q8,q9])
 go_enter Tryz.func51,Tryz.ntmps51
 go_wp2
 go_quiet (fail)
 go_wp2
 all_goals (go_ret; exact ⟨by rw [H.out]; rfl,Go.below_drewN ((Below.refl _ _).alloc (Nat.le_refl _) _) _⟩)
end Go.Proofs.YtanjncmokckjiaaGreatDoor
/- When a value is right: the reference's l02Right, Nodes and ValueOk. -/
namespace Go.Proofs.YtanjncmokckjiaaGreatDoor
open Go.RowKit
def VRtA (n:Nat):Prop:=∀ (x:V) (cs:List Value) (d:Int) (w:World),x.nodes <= n -> Rd w x.d cs -> x.wf -> x.bulk <= 4294967295 -> -1000 <= d -> d <= 1000 ->
 Calls Tryz.prog 34 #[.agg cs.toArray,.int .i64 d] w fun e w' => e = .returned (.bool (V.rightBy pairsOk d x)) /\ Below w.heap.size w w'
theorem V.rights_false {q:List V -> Bool} {d:Int} {xs:List V} (k:Nat) (hk:k < xs.length) (h:V.rightBy q d xs[k] = false):V.rightsBy q d xs = false:=by
 rw [V.rightsBy_all]; apply Bool.eq_false_iff.2; intro hh
 rw [List.all_eq_true] at hh
 have:=hh xs[k] (List.getElem_mem hk); rw [h] at this; cases this
theorem V.rights_snoc {q:List V -> Bool} {d:Int} {xs:List V} (k:Nat) (hk:k < xs.length) (h:V.rightsBy q d (xs.take k) = true) (h2:V.rightBy q d xs[k] = true):V.rightsBy q d (xs.take (k + 1)) = true:=by
 rw [List.take_succ_eq_append_getElem hk,V.rightsBy_all,List.all_append]; rw [V.rightsBy_all] at h; rw [h]; simp [h2]
theorem V.nodes_split (xs:List V) (k:Nat) (hk:k < xs.length):V.nodess (xs.take (k + 1)) = V.nodess (xs.take k) + xs[k].nodes:=by
 rw [List.take_succ_eq_append_getElem hk]
 have hn:∀ (ls:List V) (x:V),V.nodess (ls ++ [x]) = V.nodess ls + x.nodes:=by
  intro ls x; induction ls with
  | nil => simp [V.nodess]
  | cons a ls ih => simp only [List.cons_append,V.nodess,ih]; omega
 exact hn _ _
theorem V.nodess_take:∀ (xs:List V) (k:Nat),V.nodess (xs.take k) <= V.nodess xs
 | [],k => by simp [V.nodess]
 | x :: xs,0 => by simp [V.nodess]
 | x :: xs,k + 1 => by have:=V.nodess_take xs k; simp only [List.take_succ_cons,V.nodess]; omega
mutual
theorem V.nodes_bulk:∀ x:V,x.nodes <= x.bulk + 1
 | .mk _ _ _ s kids => by have:=V.nodess_bulks kids; simp only [V.nodes,V.bulk]; omega
theorem V.nodess_bulks:∀ xs:List V,V.nodess xs <= xs.length + V.bulks xs
 | [] => by simp [V.nodess]
 | x :: xs => by have:=V.nodes_bulk x; have:=V.nodess_bulks xs; simp only [V.nodess,V.bulks,List.length_cons]; omega
end
theorem V.bulk_get' {ls:List V} {m:Nat} (h:ls.length + V.bulks ls <= m) (k:Nat) (hk:k < ls.length):ls[k].bulk <= m:=by
 have h1:=V.bulks_snoc ls k hk; have h2:=V.bulks_take ls (k + 1); omega
set_option maxHeartbeats 2000000 in
set_option maxRecDepth 10000 in
theorem VRtA_of {n:Nat} (hA:VRtA n):VRtA (n + 1):=by
 intro x cs d w hn h hwf hbk hd1 hd2;have HO:=Lib.hid (fun w1 (hb:Below w.heap.size w w1) => l02Own_any x cs w1 (h.below hb) hwf hbk);obtain ⟨k,m,e,s,kids,v1,rfl,rfl,hkids⟩:=V.lay h;have hnk:V.nodess kids <= n:=by simp only [V.nodes] at hn; omega
 have hkw:V.wfs kids:=hwf.2.2.2.2.2;have hkb:kids.length + V.bulks kids <= 4294967295:=by simp only [V.bulk] at hbk; omega
 obtain ⟨a2,c2,rfl,hg⟩:=hkids.values;obtain ⟨ok,hok⟩:∃ ok,V.rightBy pairsOk d (.mk k m e s kids) = ok:=⟨_,rfl⟩;rw [hok];have HOK:=Lib.hid hok; clear hok
 obtain ⟨W0,hW0⟩:∃ W0,W0 = w.alloc (.cells #[.int .i64 k,.int .i64 m,.int .i64 e,.string ⟨s.toArray⟩,.slice a2 kids.length c2] 32):=⟨_,rfl⟩;have HW:=Lib.hid hW0;have hA0:Below w.heap.size w W0:=by rw [hW0]; exact (Below.refl _ _).alloc (Nat.le_refl _) _
 have hz:w.heap.size < W0.heap.size:=by rw [hW0]; simp
 have KB:Hid (∀ W,Below W0.heap.size W0 W -> W.cell? ⟨w.heap.size,0,none⟩ = some (.int .i64 k) /\ W.cell? ⟨w.heap.size,1,none⟩ = some (.int .i64 m) /\ W.cell? ⟨w.heap.size,2,none⟩ = some (.int .i64 e) /\ W.cell? ⟨w.heap.size,3,none⟩ = some (.string ⟨s.toArray⟩) /\ W.cell? ⟨w.heap.size,4,none⟩ = some (.slice a2 kids.length c2)):=by
  intro W hb;obtain ⟨hc,_⟩:=zaI hb;simp only [hc _ _ hz]; subst hW0; simp
 clear hW0 h hkids hwf hbk;obtain ⟨f0,f1,f2,f3,f4⟩:=KB.out _ (Below.refl _ _);by_cases hd0:d < 0
 ·have HF:=Lib.hid (show ok = false by rw [<- HOK.out]; simp only [V.rightBy]; rw [decide_eq_false (show ¬ 0 <= d by omega)]; simp)
  go_enter Tryz.func34,Tryz.ntmps34
  go_wp2;rw [<- HW.out];go_ret;exact ⟨by rw [HF.out]; rfl,hA0⟩
 have D0:=Lib.hid (decide_eq_true (show 0 <= d by omega))
 cases hs:V.self (.mk k m e s kids) with
 | false =>
  have HS:=Lib.hid hs;have HF:=Lib.hid (show ok = false by rw [<- HOK.out]; simp only [V.rightBy]; rw [show V.selfBy pairsOk (.mk k m e s kids) = false from hs]; simp);clear hs
  go_enter Tryz.func34,Tryz.ntmps34
  go_wp2_with (go_at_call 51; rw [<- HW.out]; refine (HO.out _ hA0).mono ?_; rw [HS.out]; rintro e w1 ⟨rfl,hb1⟩)
  go_ret
  exact ⟨by rw [HF.out]; rfl,zac hA0 hb1 (Nat.le_refl _)⟩
 | true =>
 have HS:=Lib.hid hs;have HF0:=Lib.hid (show ok = V.rightsBy pairsOk (d - 1) kids by rw [<- HOK.out]; simp only [V.rightBy]; rw [show V.selfBy pairsOk (.mk k m e s kids) = true from hs,D0.out]; simp);clear hs
 go_enter Tryz.func34,Tryz.ntmps34
 go_wp2_with (go_at_call 51; rw [<- HW.out]; refine (HO.out _ hA0).mono ?_; rw [HS.out]; rintro e w1 ⟨rfl,hb1⟩)
 go_loopw [5] (fun i wr => ∃ (j:Nat),j <= kids.length /\ i = .int .i64 j /\ V.rightsBy pairsOk (d - 1) (kids.take j) = true /\ Below W0.heap.size W0 wr) (fun i _ => kids.length - (intOf i).toNat)
 case atStart => exact ⟨0,Nat.zero_le _,rfl,by simp [V.rightsBy],hb1⟩
 case round =>
  obtain ⟨j,hj,rfl,hr,hbel⟩:=hrel;have HR:=Lib.hid hr; clear hr f0 f1 f2 f3 f4
  obtain ⟨f0,f1,f2,f3,f4⟩:=KB.out _ hbel;have hbw:=zac hA0 hbel (Nat.le_refl _);by_cases hlt:j < kids.length
  ·obtain ⟨_,_,b,o,rfl,hb,hcell⟩:=hg (by intro e; rw [e] at hlt; simp at hlt)
   obtain ⟨v0,v1,v2,v3,v4,hr,d0,d1,d2,d3,d4⟩:=hcell j hlt;clear hcell hg;obtain ⟨k1,k2,k3,s4,a6,n6,m6,hcs⟩:=V.form hr;simp only [List.cons.injEq,and_true] at hcs;obtain ⟨rfl,rfl,rfl,rfl,rfl⟩:=hcs;have hbc:=(zaI hbw).1;rw [<- hbc _ _ hb] at d0 d1 d2 d3 d4;clear hbc;have hi1:(0:Int) <= j:=by omega
   have hi3:(j:Int) < kids.length:=by omega
   have hn1:=V.nodes_get kids j hlt;have HC:=Lib.hid (hA kids[j] _ (d - 1) wr (Nat.le_trans hn1 hnk) (hr.below hbw) (V.wfs_get hkw j hlt) (V.bulk_get' hkb j hlt) (by omega) (by omega))
   cases hv:V.rightBy pairsOk (d - 1) kids[j] with
   | true =>
    have HV:=Lib.hid hv;have HS2:=Lib.hid (V.rights_snoc j hlt HR.out hv);clear hv
    go_wp2_with (go_at_call 34; refine HC.out.mono ?_; rw [HV.out]; rintro e w2 ⟨rfl,hb2⟩)
    go_roundw
    case rel => exact ⟨j + 1,by omega,by go_num,HS2.out,zac hbel hb2 (Nat.le_refl _)⟩
    case measure => simp [intOf]; omega
   | false =>
    have HV:=Lib.hid hv;have HF:=Lib.hid (show ok = false by rw [HF0.out]; exact V.rights_false j hlt hv);clear hv
    go_wp2_with (go_at_call 34; refine HC.out.mono ?_; rw [HV.out]; rintro e w2 ⟨rfl,hb2⟩)
    go_ret;exact ⟨by rw [HF.out]; rfl,zac hbw hb2 (Nat.le_refl _)⟩
  ·obtain rfl:j = kids.length:=by omega
   have h1:=HR.out;rw [List.take_length] at h1;have HF:=Lib.hid (show ok = true by rw [HF0.out]; exact h1);clear h1;go_wp2;go_ret;exact ⟨by rw [HF.out]; rfl,hbw⟩
theorem VRt_all:∀ n,VRtA n
 | 0 => fun x cs d w hn => absurd x.nodes_pos (by omega)
 | n + 1 => VRtA_of (VRt_all n)
def VMnA (n:Nat):Prop:=∀ (x:V) (cs:List Value) (w:World),x.nodes <= n -> Rd w x.d cs -> x.bulk <= 4294967295 ->
 Calls Tryz.prog 35 #[.agg cs.toArray] w fun e w' => e = .returned (.int .i64 (x.nodes:Nat)) /\ Below w.heap.size w w'
set_option maxHeartbeats 2000000 in
set_option maxRecDepth 10000 in
theorem VMnA_of {n:Nat} (hA:VMnA n):VMnA (n + 1):=by
 intro x cs w hn h hbk;obtain ⟨k,m,e,s,kids,v1,rfl,rfl,hkids⟩:=V.lay h;have hnk:V.nodess kids <= n:=by simp only [V.nodes] at hn; omega
 have hkb:kids.length + V.bulks kids <= 4294967295:=by simp only [V.bulk] at hbk; omega
 have hnb:=V.nodess_bulks kids;obtain ⟨a2,c2,rfl,hg⟩:=hkids.values;obtain ⟨W0,hW0⟩:∃ W0,W0 = w.alloc (.cells #[.int .i64 k,.int .i64 m,.int .i64 e,.string ⟨s.toArray⟩,.slice a2 kids.length c2] 32):=⟨_,rfl⟩;have HW:=Lib.hid hW0;have hA0:Below w.heap.size w W0:=by rw [hW0]; exact (Below.refl _ _).alloc (Nat.le_refl _) _
 have hz:w.heap.size < W0.heap.size:=by rw [hW0]; simp
 have KB:Hid (∀ W,Below W0.heap.size W0 W -> W.cell? ⟨w.heap.size,4,none⟩ = some (.slice a2 kids.length c2)):=by
  intro W hb;obtain ⟨hc,_⟩:=zaI hb;simp only [hc _ _ hz]; subst hW0; simp
 clear hW0 h hkids hbk
 go_enter Tryz.func35,Tryz.ntmps35
 go_wp2;rw [<- HW.out]
 go_loopw [3,4] (fun x i wr => ∃ (j:Nat),j <= kids.length /\ i = .int .i64 j /\ x = .int .i64 (1 + V.nodess (kids.take j):Nat) /\ Below W0.heap.size W0 wr) (fun _ i _ => kids.length - (intOf i).toNat)
 case atStart => exact ⟨0,Nat.zero_le _,rfl,by simp [V.nodess],Below.refl _ _⟩
 case round =>
  obtain ⟨j,hj,rfl,rfl,hbel⟩:=hrel;have f5:=KB.out _ hbel;have hbw:=zac hA0 hbel (Nat.le_refl _);by_cases hlt:j < kids.length
  ·obtain ⟨_,_,b,o,rfl,hb,hcell⟩:=hg (by intro e; rw [e] at hlt; simp at hlt)
   obtain ⟨v0,v1,v2,v3,v4,hr,d0,d1,d2,d3,d4⟩:=hcell j hlt;clear hcell hg;obtain ⟨k1,k2,k3,s4,a6,n6,m6,hcs⟩:=V.form hr;simp only [List.cons.injEq,and_true] at hcs;obtain ⟨rfl,rfl,rfl,rfl,rfl⟩:=hcs;have hbc:=(zaI hbw).1;rw [<- hbc _ _ hb] at d0 d1 d2 d3 d4;clear hbc;have hi1:(0:Int) <= j:=by omega
   have hi3:(j:Int) < kids.length:=by omega
   have hn1:=V.nodes_get kids j hlt;have HC:=Lib.hid (hA kids[j] _ wr (Nat.le_trans hn1 hnk) (hr.below hbw) (V.bulk_get' hkb j hlt));have HS:=Lib.hid (V.nodes_split kids j hlt);have ht1:=V.nodess_take kids j;obtain ⟨q,hq⟩:∃ q,V.nodess (kids.take j) = q:=⟨_,rfl⟩;rw [hq] at HS ht1 ⊢;clear hq;obtain ⟨p,hp⟩:∃ p,kids[j].nodes = p:=⟨_,rfl⟩;rw [hp] at HS hn1 HC;clear hp
   go_wp2_with (go_at_call 35; refine HC.out.mono ?_; rintro e w1 ⟨rfl,hb1⟩)
   go_roundw
   case rel => exact ⟨j + 1,by omega,by go_num,by rw [HS.out]; go_num,zac hbel hb1 (Nat.le_refl _)⟩
   case measure => simp [intOf]; omega
  ·obtain rfl:j = kids.length:=by omega
   rw [List.take_length];go_wp2;go_ret;exact ⟨rfl,hbw⟩
theorem VMn_all:∀ n,VMnA n
 | 0 => fun x cs w hn => absurd x.nodes_pos (by omega)
 | n + 1 => VMnA_of (VMn_all n)
set_option maxHeartbeats 400000 in
set_option maxRecDepth 10000 in
theorem zeK (x:V) (cs:List Value) (w:World) (h:Rd w x.d cs) (hwf:x.wf) (hbk:x.bulk <= 4294967295) :
  Calls Tryz.prog 16 #[.agg cs.toArray] w fun e w' => e = .returned (.bool x.ok) /\ Below w.heap.size w w':=by
 obtain ⟨k,m,e,s,a2,n2,c2,rfl⟩:=V.form h;obtain ⟨W0,hW0⟩:∃ W0,W0 = w.alloc (.cells #[.int .i64 k,.int .i64 m,.int .i64 e,.string ⟨s.toArray⟩,.slice a2 n2 c2] 32):=⟨_,rfl⟩;have HW:=Lib.hid hW0;have hA:Below w.heap.size w W0:=by rw [hW0]; exact (Below.refl _ _).alloc (Nat.le_refl _) _
 have hz:w.heap.size < W0.heap.size:=by rw [hW0]; simp
 have KB:Hid (∀ W,Below W0.heap.size W0 W -> W.cell? ⟨w.heap.size,0,none⟩ = some (.int .i64 k) /\ W.cell? ⟨w.heap.size,1,none⟩ = some (.int .i64 m) /\ W.cell? ⟨w.heap.size,2,none⟩ = some (.int .i64 e) /\ W.cell? ⟨w.heap.size,3,none⟩ = some (.string ⟨s.toArray⟩) /\ W.cell? ⟨w.heap.size,4,none⟩ = some (.slice a2 n2 c2)):=by
  intro W hb;obtain ⟨hc,_⟩:=zaI hb;simp only [hc _ _ hz]; subst hW0; simp
 have hnb:=x.nodes_bulk;have HR:=Lib.hid (fun W (hb:Below W0.heap.size W0 W) => VRt_all x.nodes x _ 12 W (Nat.le_refl _) (h.below (zac hA hb (Nat.le_refl _))) hwf hbk (by decide) (by decide));have HM:=Lib.hid (fun W (hb:Below W0.heap.size W0 W) => VMn_all x.nodes x _ W (Nat.le_refl _) (h.below (zac hA hb (Nat.le_refl _))) hbk);have hB:=Below.refl W0.heap.size W0;clear hW0 h
 go_enter Tryz.func16,Tryz.ntmps16
 cases hr:V.rightBy pairsOk 12 x with
 | true =>
  have HV:=Lib.hid hr; clear hr
  go_wp2_with (first | (go_at_call 34; rw [<- HW.out]; refine (HR.out _ hB).mono ?_; rw [HV.out]; rintro e w1 ⟨rfl,hb1⟩; obtain ⟨p0,p1,p2,p3,p4⟩:=KB.out _ hb1) | (go_at_call 35; refine (HM.out _ hb1).mono ?_; rintro e w2 ⟨rfl,hb2⟩))
  go_ret;refine ⟨zal ?_,zac hA (zac hb1 hb2 (Nat.le_refl _)) (Nat.le_refl _)⟩
  unfold V.ok; rw [HV.out,Bool.true_and,Bool.eq_iff_iff]; simp; omega
 | false =>
  have HV:=Lib.hid hr; clear hr
  go_wp2_with (first | (go_at_call 34; rw [<- HW.out]; refine (HR.out _ hB).mono ?_; rw [HV.out]; rintro e w1 ⟨rfl,hb1⟩))
  go_ret;refine ⟨zal ?_,zac hA hb1 (Nat.le_refl _)⟩;unfold V.ok; rw [HV.out]; rfl
end Go.Proofs.YtanjncmokckjiaaGreatDoor
namespace Go.Proofs.YtanjncmokckjiaaGreatDoor
open Go.RowKit
set_option maxHeartbeats 4000000
set_option maxRecDepth 100000
open List
section
def VSmA (n:Nat):Prop:=∀ (x y:V) (cs ds:List Value) (w:World),x.nodes <= n -> Rd w x.d cs -> Rd w y.d ds -> x.bulk <= 4294967295 -> y.bulk <= 4294967295 ->
 Calls Tryz.prog 86 #[.agg cs.toArray,.agg ds.toArray] w fun e w' => e = .returned (.bool (decide (x = y))) /\ Below w.heap.size w w'
def VSmB (n:Nat):Prop:=∀ (x y:List V) (va vb:Value) (w:World),V.nodess x <= n -> Rd w (.sl 5 (V.ds x)) [va] -> Rd w (.sl 5 (V.ds y)) [vb] -> x.length + V.bulks x <= 4294967295 -> y.length + V.bulks y <= 4294967295 ->
 Calls Tryz.prog 98 #[va,vb,.func (.func 86) #[] #[]] w fun e w' => e = .returned (.bool (decide (x = y))) /\ Below w.heap.size w w'
theorem VSmB_of {n:Nat} (hA:VSmA n):VSmB n:=by
 intro la lb va vb w hn h h2 hla hlb;obtain ⟨a,c,rfl,hg⟩:=h.values;obtain ⟨a',c',rfl,hg'⟩:=h2.values;by_cases hlen:la.length = lb.length
 ·have hlt:((la.length:Int) != (lb.length:Int)) = false:=by simp [hlen]
  have HL:=Lib.hid hlen; clear hlen
  go_enter Tryz.func98,Tryz.ntmps98
  go_wp2
  go_loopw [17] (fun i wr => ∃ (k:Nat),k <= la.length /\ i = .int .i64 k /\ la.take k = lb.take k /\ Below w.heap.size w wr) (fun i _ => la.length - (intOf i).toNat)
  case atStart => exact ⟨0,Nat.zero_le _,rfl,by simp,Below.refl _ _⟩
  case round =>
   obtain ⟨k,hk,rfl,htk,hbel⟩:=hrel;have HT:=Lib.hid htk; clear htk
   by_cases hk1:k < la.length
   ·have hk2:k < lb.length:=by have:=HL.out; omega
    obtain ⟨_,_,b,o,rfl,hb,hcell⟩:=hg (by intro e; rw [e] at hk1; simp at hk1);obtain ⟨_,_,b',o',rfl,hb',hcell'⟩:=hg' (by intro e; rw [e] at hk2; simp at hk2);obtain ⟨v0,v1,v2,v3,v4,hr,c0,c1,c2,c3,c4⟩:=hcell k hk1;obtain ⟨x0,x1,x2,x3,x4,hs,d0,d1,d2,d3,d4⟩:=hcell' k hk2;obtain ⟨k1,k2,k3,s4,a6,n6,m6,hcs⟩:=V.form hr;obtain ⟨j1,j2,j3,t4,b6,p6,q6,hds⟩:=V.form hs;simp only [cons.injEq,and_true] at hcs hds;obtain ⟨rfl,rfl,rfl,rfl,rfl⟩:=hcs;obtain ⟨rfl,rfl,rfl,rfl,rfl⟩:=hds;clear hcell hcell' hg hg';obtain ⟨hbc,_⟩:=zaI hbel;have hsz:=hbel.size;have hi1:(0:Int) <= k:=by omega
    have hi2:(k:Int) < lb.length:=by omega
    have hi3:(k:Int) < la.length:=by omega
    have hz1:b < wr.heap.size:=by omega
    have hz2:b' < wr.heap.size:=by omega
    have hnk:=Nat.le_trans (V.nodes_get la k hk1) hn;have hr':=hr.below hbel;have hs':=hs.below hbel;have hA2:=(hbel.alloc hsz (.cells #[.int .i64 k1,.int .i64 k2,.int .i64 k3,.string ⟨s4.toArray⟩,.slice a6 n6 m6] 32)).alloc (by simp; omega) (.cells #[.int .i64 j1,.int .i64 j2,.int .i64 j3,.string ⟨t4.toArray⟩,.slice b6 p6 q6] 32);by_cases he:la[k] = lb[k]
    ·have hd:=Lib.hid (decide_eq_true he)
     have HE:=Lib.hid he;clear he
     go_wp2_with (go_at_call 86; refine (hA _ _ _ _ _ hnk ((hr'.alloc _).alloc _) ((hs'.alloc _).alloc _) (V.bulk_get hla k hk1) (V.bulk_get hlb k hk2)).mono ?_; rw [hd.out]; rintro e w1 ⟨rfl,hb1⟩)
     go_roundw
     case rel => exact ⟨k + 1,by omega,by go_num,zd0 HT.out hk1 hk2 HE.out,zac hA2 hb1 lR⟩
     case measure => simp [intOf] <;> omega
    ·have hd:=Lib.hid (decide_eq_false he)
     have HE:=Lib.hid (decide_eq_false (ne_of_get hk1 hk2 he));clear he
     go_wp2_with (go_at_call 86; refine (hA _ _ _ _ _ hnk ((hr'.alloc _).alloc _) ((hs'.alloc _).alloc _) (V.bulk_get hla k hk1) (V.bulk_get hlb k hk2)).mono ?_; rw [hd.out]; rintro e w1 ⟨rfl,hb1⟩)
     go_ret;exact ⟨by rw [HE.out]; rfl,zac hA2 hb1 lR⟩
   ·obtain rfl:k = la.length:=by omega
    have he:la = lb:=by have:=HT.out; rw [take_length,HL.out,take_length] at this; exact this
    have H:=Lib.hid (decide_eq_true he);clear he;go_wp2;go_ret;exact ⟨by rw [H.out]; rfl,hbel⟩
 ·have H:=Lib.hid (decide_eq_false (show ¬ la = lb from fun e => hlen (by rw [e])))
  go_enter Tryz.func98,Tryz.ntmps98
  go_wp2;go_ret;exact ⟨by rw [H.out]; rfl,Below.refl _ _⟩
theorem VSmA_of {n:Nat} (hB:VSmB n):VSmA (n + 1):=by
 intro x y cs ds w hn h h2 hx hy;obtain ⟨k,m,q,s,kids,v1,rfl,rfl,hkids⟩:=V.lay h;obtain ⟨k',m',q',s',kids',v1',rfl,rfl,hkids'⟩:=V.lay h2;have hnk:V.nodess kids <= n:=by simp only [V.nodes] at hn; omega
 simp only [V.bulk] at hx hy;have hA:=((Below.refl w.heap.size w).alloc lR (.cells #[.int .i64 k,.int .i64 m,.int .i64 q,.string ⟨s.toArray⟩,v1] 32)).alloc (by simp) (.cells #[.int .i64 k',.int .i64 m',.int .i64 q',.string ⟨s'.toArray⟩,v1'] 32);by_cases e1:k = k' /\ m = m' /\ q = q' /\ s = s'
 ·obtain ⟨rfl,rfl,rfl,rfl⟩:=e1
  go_enter Tryz.func86,Tryz.ntmps86
  go_wp2_with fail
  refine (hB _ _ _ _ _ hnk ((hkids.below hA)) (hkids'.below hA) (by omega) (by omega)).mono ?_;by_cases e4:kids = kids'
  ·subst e4
   rw [decide_eq_true rfl];rintro e w2 ⟨rfl,hb2⟩;go_wp2;go_ret;exact ⟨by simp,zac hA hb2 lR⟩
  ·have H:=Lib.hid (V.ne_mk (k:=k) (m:=m) (e:=q) (s:=s) (kids:=kids) (k':=k) (m':=m) (e':=q) (s':=s) (kids':=kids') (by simp [e4]))
   rw [decide_eq_false e4];rintro e w2 ⟨rfl,hb2⟩;clear e4;go_wp2;go_ret;exact ⟨by rw [H.out]; rfl,zac hA hb2 lR⟩
 ·have H:=Lib.hid (V.ne_mk (k:=k) (m:=m) (e:=q) (s:=s) (kids:=kids) (k':=k') (m':=m') (e':=q') (s':=s') (kids':=kids') (by rintro ⟨a,b,c,d,_⟩; exact e1 ⟨a,b,c,d⟩))
  have HA:=Lib.hid hA;by_cases c1:k = k'
  ·subst c1
   by_cases c2:m = m'
   ·subst c2
    by_cases c3:q = q'
    ·subst c3
     have c4:(s == s') = false:=by simpa using fun c => e1 ⟨rfl,rfl,rfl,c⟩
     clear e1
     go_enter Tryz.func86,Tryz.ntmps86
     go_wp2_with fail
     go_ret;exact ⟨by rw [H.out]; rfl,HA.out⟩
    ·clear e1
     have c4:(q == q') = false:=by simpa using c3
     go_enter Tryz.func86,Tryz.ntmps86
     go_wp2_with fail
     go_ret;exact ⟨by rw [H.out]; rfl,HA.out⟩
   ·clear e1
    have c4:(m == m') = false:=by simpa using c2
    go_enter Tryz.func86,Tryz.ntmps86
    go_wp2_with fail
    go_ret;exact ⟨by rw [H.out]; rfl,HA.out⟩
  ·clear e1
   have c4:(k == k') = false:=by simpa using c1
   go_enter Tryz.func86,Tryz.ntmps86
   go_wp2_with fail
   go_ret;exact ⟨by rw [H.out]; rfl,HA.out⟩
theorem VSm_all:∀ n,VSmA n
 | 0 => fun x y cs ds w hn => absurd x.nodes_pos (by omega)
 | n + 1 => VSmA_of (VSmB_of (VSm_all n))
theorem same_any (x y:V) (cs ds:List Value) (w:World) (h:Rd w x.d cs) (h2:Rd w y.d ds) (hx:x.bulk <= 4294967295) (hy:y.bulk <= 4294967295) :
  Calls Tryz.prog 86 #[.agg cs.toArray,.agg ds.toArray] w fun e w' => e = .returned (.bool (decide (x = y))) /\ Below w.heap.size w w':=VSm_all x.nodes x y cs ds w lR h h2 hx hy
end
section
theorem isKey_any (x:V) (cs:List Value) (w:World) (h:Rd w x.d cs) :
  Calls Tryz.prog 85 #[.agg cs.toArray] w fun e w' => e = .returned (.bool (isKeyK x.kind)) /\ Below w.heap.size w w':=by
 obtain ⟨k,m,e,s,kids,v1,rfl,rfl,hkids⟩:=V.lay h;have HA:=Lib.hid ((Below.refl w.heap.size w).alloc lR (.cells #[.int .i64 k,.int .i64 m,.int .i64 e,.string ⟨s.toArray⟩,v1] 32));clear h hkids;show Calls _ _ _ _ fun e' w' => e' = .returned (.bool (isKeyK k)) /\ _
 by_cases h5:k = 5
 ·subst h5
  go_enter Tryz.func85,Tryz.ntmps85
  go_wp2;go_ret;exact ⟨rfl,HA.out⟩
 ·have g5:(k == 5) = false:=by simpa using h5
  have H:=Lib.hid (show isKeyK k = (k == 3) by unfold isKeyK; rw [decide_eq_false h5,Bool.false_or]; rfl)
  go_enter Tryz.func85,Tryz.ntmps85
  go_wp2;go_ret;exact ⟨by rw [H.out]; rfl,HA.out⟩
def V.kidsOk (k:Int) (kids:List V):Bool :=
 if k = 7 then true else if k = 9 then decide (kids.length = 1) else if k = 8 then pairsOkI kids else decide (kids = [])
theorem len0' (l:List V):((l.length:Int) == 0) = decide (l = []):=by
 cases l with
 | nil => rfl
 | cons a r => simp; omega
theorem zfc (x:V) (cs:List Value) (w:World) (h:Rd w x.d cs) (hbk:x.bulk <= 4294967295) :
  Calls Tryz.prog 65 #[.agg cs.toArray] w fun e w' => e = .returned (.bool (V.kidsOk x.kind x.kids)) /\ Below w.heap.size w w':=by
 obtain ⟨q,n,e,s,xs,v1,rfl,rfl,hkids⟩:=V.lay h;have hkb:xs.length + V.bulks xs <= 4294967295:=by simp only [V.bulk] at hbk; omega
 obtain ⟨a,c,rfl,hg⟩:=hkids.values;show Calls _ _ _ _ fun e' w' => e' = .returned (.bool (V.kidsOk q xs)) /\ _
 obtain ⟨ok,hok⟩:∃ ok,V.kidsOk q xs = ok:=⟨_,rfl⟩;rw [hok];have HOK:=Lib.hid hok; clear hok
 obtain ⟨W0,hW0⟩:∃ W0,W0 = w.alloc (.cells #[.int .i64 q,.int .i64 n,.int .i64 e,.string ⟨s.toArray⟩,.slice a xs.length c] 32):=⟨_,rfl⟩;have HW:=Lib.hid hW0;have hA0:Below w.heap.size w W0:=by rw [hW0]; exact (Below.refl _ _).alloc lR _
 have hz:w.heap.size < W0.heap.size:=by rw [hW0]; simp
 have KB:Hid (∀ W,Below W0.heap.size W0 W -> W.cell? ⟨w.heap.size,0,none⟩ = some (.int .i64 q) /\ W.cell? ⟨w.heap.size,4,none⟩ = some (.slice a xs.length c)):=by
  intro W hb;obtain ⟨hc,_⟩:=zaI hb;simp only [hc _ _ hz]; subst hW0; simp
 clear hW0 h hkids hbk;obtain ⟨f0,f4⟩:=KB.out _ (Below.refl _ _);by_cases q7:q = 7
 ·subst q7
  have H:=Lib.hid (show ok = true by rw [<- HOK.out]; rfl)
  go_enter Tryz.func65,Tryz.ntmps65
  go_wp2;rw [<- HW.out];go_ret;exact ⟨by rw [H.out]; rfl,hA0⟩
 by_cases q9:q = 9
 ·subst q9
  have H:=Lib.hid (show ok = decide (xs.length = 1) by rw [<- HOK.out]; rfl)
  go_enter Tryz.func65,Tryz.ntmps65
  go_wp2;rw [<- HW.out];go_ret;exact ⟨by rw [H.out]; exact zal (by rw [Bool.eq_iff_iff]; simp; omega),hA0⟩
 by_cases q8:q = 8
 ·subst q8
  have HP:=Lib.hid (show ok = pairsOkI xs by rw [<- HOK.out]; rfl);obtain ⟨ks,hks⟩:∃ ks,odds xs = ks:=⟨_,rfl⟩;have hkl:ks.length = (xs.length + 1) / 2:=by rw [<- hks,zaF]
  have HKG:Hid (∀ j (h1:2 * j < xs.length) (h2:j < ks.length),ks[j] = xs[2 * j]):=by
   intro j h1 h2; subst hks; exact zcv xs j h1
  have HKS:=Lib.hid hks; clear hks
  clear q7 q9
  go_enter Tryz.func65,Tryz.ntmps65
  go_wp2;rw [<- HW.out]
  go_loopw [3] (fun i wr => ∃ (j k:Nat),k = 2 * j /\ j <= ks.length /\ i = .int .i64 k /\ uniq id (ks.take j) = true /\ Below W0.heap.size W0 wr) (fun i _ => xs.length + 1 - (intOf i).toNat)
  case atStart => exact ⟨0,0,rfl,Nat.zero_le _,rfl,by simp [uniq],Below.refl _ _⟩
  case round =>
   obtain ⟨j,k,hkj,hj,rfl,hu,hbel⟩:=hrel;have HKJ:=Lib.hid hkj;have HU:=Lib.hid hu; clear hu f0 f4
   obtain ⟨f0,f4⟩:=KB.out _ hbel;have hbw:=zac hA0 hbel lR;by_cases hlt:k < xs.length
   ·have hjk:j < ks.length:=by omega
    have hkk:=HKG.out j (by omega) hjk;obtain ⟨_,_,b,o,rfl,hb,hcell⟩:=hg (by intro e; rw [e] at hlt; simp at hlt);have HC:=Lib.hid hcell;obtain ⟨v0,v1,v2,v3,v4,hr,d0,d1,d2,d3,d4⟩:=hcell k hlt;clear hcell;obtain ⟨k1,k2,k3,s4,a6,n6,m6,hcs⟩:=V.form hr;simp only [cons.injEq,and_true] at hcs;obtain ⟨rfl,rfl,rfl,rfl,rfl⟩:=hcs;have hbc:=(zaI hbw).1;rw [<- hbc _ _ hb] at d0 d1 d2 d3 d4;have HX:=Lib.hid (show ks[j] = xs[k] by rw [hkk]; subst hkj; rfl);have hi1:(0:Int) <= k:=by omega
    have hi3:(k:Int) < xs.length:=by omega
    have hbz:b < W0.heap.size:=by have:=hA0.size; omega
    have HD:Hid (∀ W,Below W0.heap.size W0 W -> W.cell? ⟨b,o + k * 5,none⟩ = some (.int .i64 k1) /\ W.cell? ⟨b,o + k * 5 + 1,none⟩ = some (.int .i64 k2) /\ W.cell? ⟨b,o + k * 5 + 2,none⟩ = some (.int .i64 k3) /\ W.cell? ⟨b,o + k * 5 + 3,none⟩ = some (.string ⟨s4.toArray⟩) /\ W.cell? ⟨b,o + k * 5 + 4,none⟩ = some (.slice a6 n6 m6)):=by
     intro W hW;have h1:=(zaI hW).1;have h2:=(zaI hbel).1;rw [h2 _ _ hbz] at d0 d1 d2 d3 d4;simp only [h1 _ _ hbz]; exact ⟨d0,d1,d2,d3,d4⟩
    have HK1:=Lib.hid (fun W (hW:Below W0.heap.size W0 W) => isKey_any xs[k] _ W (hr.below (zac hA0 hW lR)));have HXR:=Lib.hid (fun W (hW:Below W0.heap.size W0 W) => (hr.below (zac hA0 hW lR)));clear hbc hkk hkj hr
    cases hkey:isKeyK xs[k].kind with
    | true =>
     have HK:=Lib.hid hkey; clear hkey
     go_wp2_with (go_at_call 85; refine (HK1.out _ hbel).mono ?_; rw [HK.out]; rintro e w1 ⟨rfl,hb1⟩; have hbe1:=zac hbel hb1 lR; clear d0 d1 d2 d3 d4 f0 f4; obtain ⟨f0,f4⟩:=KB.out _ hbe1)
     go_loopw [4] (fun i wr => ∃ (m r:Nat),r = 2 * m /\ m <= j /\ i = .int .i64 r /\ xs[k] ∉ ks.take m /\ Below W0.heap.size W0 wr) (fun i _ => k + 1 - (intOf i).toNat)
     case atStart => exact ⟨0,0,rfl,Nat.zero_le _,rfl,by simp,hbe1⟩
     case round =>
      obtain ⟨m,r,hrm,hm,rfl,hni,hbel2⟩:=hrel;have HRM:=Lib.hid hrm;have HNI:=Lib.hid hni; clear hni
      have hkj:=HKJ.out;have hbw2:=zac hA0 hbel2 lR;clear f0 f4;obtain ⟨f0,f4⟩:=KB.out _ hbel2;by_cases hml:r < k
      ·have hrx:r < xs.length:=by omega
       have hmk:m < ks.length:=by omega
       have hmm:=HKG.out m (by omega) hmk;obtain ⟨u0,u1,u2,u3,u4,hr2,e0,e1,e2,e3,e4⟩:=HC.out r hrx;obtain ⟨y1,y2,y3,t4,b6,p6,r6,hcs2⟩:=V.form hr2;simp only [cons.injEq,and_true] at hcs2;obtain ⟨rfl,rfl,rfl,rfl,rfl⟩:=hcs2;have HY:=Lib.hid (show ks[m] = xs[r] by rw [hmm]; subst hrm; rfl)
       have HE:Hid (∀ W,Below W0.heap.size W0 W -> W.cell? ⟨b,o + r * 5,none⟩ = some (.int .i64 y1) /\ W.cell? ⟨b,o + r * 5 + 1,none⟩ = some (.int .i64 y2) /\ W.cell? ⟨b,o + r * 5 + 2,none⟩ = some (.int .i64 y3) /\ W.cell? ⟨b,o + r * 5 + 3,none⟩ = some (.string ⟨t4.toArray⟩) /\ W.cell? ⟨b,o + r * 5 + 4,none⟩ = some (.slice b6 p6 r6)):=by
        intro W hW;have h1:=(zaI (zac hA0 hW lR)).1;simp only [h1 _ _ hb]; exact ⟨e0,e1,e2,e3,e4⟩
       have hj1:(0:Int) <= r:=by omega
       have hj3:(r:Int) < xs.length:=by omega
       have hj5:(r:Int) < k:=by omega
       have hm5:m < j:=by omega
       have hr5:r + 2 < k + 3:=by omega
       have HS:=Lib.hid (fun W (hW:Below W0.heap.size W0 W) => same_any xs[k] xs[r] _ _ W (HXR.out W hW) (hr2.below (zac hA0 hW lR)) (V.bulk_get hkb k hlt) (V.bulk_get hkb r hrx));have hB:=hbel2;clear hmm hrm hkj e0 e1 e2 e3 e4 hr2 f0 f4;by_cases heq:xs[k] = xs[r]
       ·have HQ:=Lib.hid (decide_eq_true heq)
        have HF:=Lib.hid (show ok = false by
         rw [HP.out]; unfold pairsOkI; rw [HKS.out,zda hjk (by
          rw [HX.out,map_id];exact mem_take_iff_getElem.2 ⟨m,by omega,by rw [HY.out,<- heq]; rfl⟩)]; rfl)
        clear heq
        go_wp2_with fail
        go_region_held3 (fun W => (W.cell? ⟨w.heap.size,0,none⟩ = some (.int .i64 8) /\ W.cell? ⟨w.heap.size,4,none⟩ = some (.slice (some ⟨b,o,none⟩) xs.length c)) /\ (W.cell? ⟨b,o + k * 5,none⟩ = some (.int .i64 k1) /\ W.cell? ⟨b,o + k * 5 + 1,none⟩ = some (.int .i64 k2) /\ W.cell? ⟨b,o + k * 5 + 2,none⟩ = some (.int .i64 k3) /\ W.cell? ⟨b,o + k * 5 + 3,none⟩ = some (.string ⟨s4.toArray⟩) /\ W.cell? ⟨b,o + k * 5 + 4,none⟩ = some (.slice a6 n6 m6)) /\ W.cell? ⟨b,o + r * 5,none⟩ = some (.int .i64 y1) /\ W.cell? ⟨b,o + r * 5 + 1,none⟩ = some (.int .i64 y2) /\ W.cell? ⟨b,o + r * 5 + 2,none⟩ = some (.int .i64 y3) /\ W.cell? ⟨b,o + r * 5 + 3,none⟩ = some (.string ⟨t4.toArray⟩) /\ W.cell? ⟨b,o + r * 5 + 4,none⟩ = some (.slice b6 p6 r6))
         (first | exact ⟨KB.out _ hB,HD.out _ hB,HE.out _ hB⟩ | exact ⟨KB.out _ hB.drew,HD.out _ hB.drew,HE.out _ hB.drew⟩)
         (first | (go_at_call 86; with_reducible refine (HS.out _ (by first | exact hB | exact hB.drew)).mono ?_; rw [HQ.out]; rintro e w2 ⟨rfl,hb2⟩; replace hB:=zac (by first | exact hB | exact hB.drew) hb2 lR))
        go_wp2;go_ret;exact ⟨by rw [HF.out]; rfl,zac hA0 hB lR⟩
       ·have HQ:=Lib.hid (decide_eq_false heq)
        have HM:Hid (xs[k] ∉ ks.take (m + 1)):=by
         show _ ∉ _;rw [take_succ_eq_append_getElem hmk,mem_append,HY.out];rintro (h | h)
         ·exact HNI.out h
         ·exact heq (by simpa using h)
        clear heq
        go_wp2_with fail
        go_region_held3 (fun W => (W.cell? ⟨w.heap.size,0,none⟩ = some (.int .i64 8) /\ W.cell? ⟨w.heap.size,4,none⟩ = some (.slice (some ⟨b,o,none⟩) xs.length c)) /\ (W.cell? ⟨b,o + k * 5,none⟩ = some (.int .i64 k1) /\ W.cell? ⟨b,o + k * 5 + 1,none⟩ = some (.int .i64 k2) /\ W.cell? ⟨b,o + k * 5 + 2,none⟩ = some (.int .i64 k3) /\ W.cell? ⟨b,o + k * 5 + 3,none⟩ = some (.string ⟨s4.toArray⟩) /\ W.cell? ⟨b,o + k * 5 + 4,none⟩ = some (.slice a6 n6 m6)) /\ W.cell? ⟨b,o + r * 5,none⟩ = some (.int .i64 y1) /\ W.cell? ⟨b,o + r * 5 + 1,none⟩ = some (.int .i64 y2) /\ W.cell? ⟨b,o + r * 5 + 2,none⟩ = some (.int .i64 y3) /\ W.cell? ⟨b,o + r * 5 + 3,none⟩ = some (.string ⟨t4.toArray⟩) /\ W.cell? ⟨b,o + r * 5 + 4,none⟩ = some (.slice b6 p6 r6))
         (first | exact ⟨KB.out _ hB,HD.out _ hB,HE.out _ hB⟩ | exact ⟨KB.out _ hB.drew,HD.out _ hB.drew,HE.out _ hB.drew⟩)
         (first | (go_at_call 86; with_reducible refine (HS.out _ (by first | exact hB | exact hB.drew)).mono ?_; rw [HQ.out]; rintro e w2 ⟨rfl,hb2⟩; replace hB:=zac (by first | exact hB | exact hB.drew) hb2 lR))
        go_wp2;go_roundw
        case rel => exact ⟨m + 1,r + 2,by have:=HRM.out; omega,by omega,by go_num,HM.out,hB⟩
        case measure => simp [intOf]; omega
      ·obtain rfl:m = j:=by omega
       have HM:Hid (uniq id (ks.take (m + 1)) = true):=zc9 hjk HU.out (by rw [HX.out]; exact HK.out) (by rw [HX.out,map_id]; exact HNI.out);clear hrm hkj;go_wp2;go_roundw
       case rel => exact ⟨m + 1,k + 2,by have:=HKJ.out; omega,by omega,by go_num,HM.out,hbel2⟩
       case measure => simp [intOf]; omega
    | false =>
     have HK:=Lib.hid hkey;have HF:=Lib.hid (show ok = false by rw [HP.out]; unfold pairsOkI; rw [HKS.out,zeH hjk (by rw [HX.out]; exact hkey)]; rfl);clear hkey
     go_wp2_with (go_at_call 85; refine (HK1.out _ hbel).mono ?_; rw [HK.out]; rintro e w1 ⟨rfl,hb1⟩)
     go_ret;exact ⟨by rw [HF.out]; rfl,zac hbw hb1 lR⟩
   ·obtain rfl:j = ks.length:=by omega
    clear hkj;have h1:=HU.out;rw [take_length] at h1;have HF:=Lib.hid (show ok = decide (xs.length % 2 = 0) by rw [HP.out]; unfold pairsOkI; rw [HKS.out,h1]; rfl);clear h1;go_wp2;go_ret;exact ⟨by rw [HF.out]; exact zal (by rw [Bool.eq_iff_iff]; simp <;> omega),hbw⟩
 ·have H:=Lib.hid (show ok = decide (xs = []) by rw [<- HOK.out]; unfold V.kidsOk; rw [if_neg q7,if_neg q9,if_neg q8])
  have g7:(q == 7) = false:=by simpa using q7
  have g8:(q == 8) = false:=by simpa using q8
  have g9:(q == 9) = false:=by simpa using q9
  go_enter Tryz.func65,Tryz.ntmps65
  go_wp2;rw [<- HW.out];go_ret;exact ⟨by rw [H.out,<- len0']; rfl,hA0⟩
end
section
open Go.Lib (validD)
def V.node:V -> Bool
 | .mk k n e s _ =>
  if k = 0 \/ k = 1 \/ k = 2 \/ k = 7 \/ k = 8 then decide (n = 0) && (decide (e = 0) && decide (s = []))
  else if k = 3 then decide (e = 0) && decide (s = [])
  else if k = 4 then decOk n e && decide (s = [])
  else if k = 5 then decide (s.length <= 2000) && (validD s && (decide (n = 0) && decide (e = 0)))
  else if k = 6 then decide (s.length <= 2000) && (decide (n = 0) && decide (e = 0))
  else if k = 9 then inR n 0 1000000 && (decide (e = 0) && decide (s = []))
  else false
theorem V.selfI_node (x:V):x.selfI = (x.node && V.kidsOk x.kind x.kids):=by
 obtain ⟨k,n,e,s,kids⟩:=x;show V.selfBy pairsOkI _ = (_ && V.kidsOk k kids);unfold V.node V.kidsOk V.selfBy;by_cases h0:k = 0 \/ k = 1 \/ k = 2
 ·rcases h0 with rfl | rfl | rfl <;> simp [Bool.and_assoc]
 by_cases h3:k = 3
 ·subst h3; simp [Bool.and_assoc]
 by_cases h4:k = 4
 ·subst h4; simp [Bool.and_assoc]
 by_cases h5:k = 5
 ·subst h5
  show (decide (n = 0) && (decide (e = 0) && (validD s && (decide (s.length <= 2000) && decide (kids = []))))) = ((decide (s.length <= 2000) && (validD s && (decide (n = 0) && decide (e = 0)))) && decide (kids = []))
  cases decide (n = 0) <;> cases decide (e = 0) <;> cases validD s <;> cases decide (s.length <= 2000) <;> cases decide (kids = []) <;> rfl
 by_cases h6:k = 6
 ·subst h6
  show (decide (n = 0) && (decide (e = 0) && (decide (s.length <= 2000) && decide (kids = [])))) = ((decide (s.length <= 2000) && (decide (n = 0) && decide (e = 0))) && decide (kids = []))
  cases decide (n = 0) <;> cases decide (e = 0) <;> cases decide (s.length <= 2000) <;> cases decide (kids = []) <;> rfl
 by_cases h7:k = 7
 ·subst h7; simp
 by_cases h8:k = 8
 ·subst h8; simp [Bool.and_assoc]
 by_cases h9:k = 9
 ·subst h9; simp [Bool.and_assoc]
 ·have a0:k ≠ 0:=fun e => h0 (.inl e)
  have a1:k ≠ 1:=fun e => h0 (.inr (.inl e))
  have a2:k ≠ 2:=fun e => h0 (.inr (.inr e))
  simp [a0,a1,a2,h3,h4,h5,h6,h7,h8,h9]
theorem isNode_any (x:V) (cs:List Value) (w:World) (h:Rd w x.d cs) (hwf:x.wf) (hbk:x.bulk <= 4294967295) (hT:Tabs w) :
  Calls Tryz.prog 64 #[.agg cs.toArray] w fun e w' => e = .returned (.bool x.node) /\ Below w.heap.size w w':=by
 obtain ⟨k,n,e,s,kids,v1,rfl,rfl,hkids⟩:=V.lay h;obtain ⟨a1,c1,rfl⟩:=Rd.sl_form hkids;rw [V.ds_map,length_map] at h ⊢;have hsl:s.length <= 4294967295:=by simp only [V.bulk] at hbk; omega
 have HD:=Lib.hid (fun w1 (hb:Below w.heap.size w w1) => isDec_any _ _ w1 (h.below hb) hwf);clear h hkids hbk hwf;obtain ⟨ok,hok⟩:∃ ok,V.node (.mk k n e s kids) = ok:=⟨_,rfl⟩;rw [hok];have HOK:=Lib.hid hok; clear hok
 by_cases q0:k = 0
 ·subst q0
  go_enter Tryz.func64,Tryz.ntmps64
  go_wp2
  all_goals (go_ret; refine ⟨zal ?_,by first | exact ((Below.refl _ _).alloc lR _).alloc (by simp) _ | exact Go.below_drewN (((Below.refl _ _).alloc lR _).alloc (by simp) _) _⟩; rw [<- HOK.out]; simp_all [V.node,isE])
 by_cases q1:k = 1
 ·subst q1
  go_enter Tryz.func64,Tryz.ntmps64
  go_wp2
  all_goals (go_ret; refine ⟨zal ?_,by first | exact ((Below.refl _ _).alloc lR _).alloc (by simp) _ | exact Go.below_drewN (((Below.refl _ _).alloc lR _).alloc (by simp) _) _⟩; rw [<- HOK.out]; simp_all [V.node,isE])
 by_cases q2:k = 2
 ·subst q2
  go_enter Tryz.func64,Tryz.ntmps64
  go_wp2
  all_goals (go_ret; refine ⟨zal ?_,by first | exact ((Below.refl _ _).alloc lR _).alloc (by simp) _ | exact Go.below_drewN (((Below.refl _ _).alloc lR _).alloc (by simp) _) _⟩; rw [<- HOK.out]; simp_all [V.node,isE])
 by_cases q7:k = 7
 ·subst q7
  go_enter Tryz.func64,Tryz.ntmps64
  go_wp2
  all_goals (go_ret; refine ⟨zal ?_,by first | exact ((Below.refl _ _).alloc lR _).alloc (by simp) _ | exact Go.below_drewN (((Below.refl _ _).alloc lR _).alloc (by simp) _) _⟩; rw [<- HOK.out]; simp_all [V.node,isE])
 by_cases q8:k = 8
 ·subst q8
  go_enter Tryz.func64,Tryz.ntmps64
  go_wp2
  all_goals (go_ret; refine ⟨zal ?_,by first | exact ((Below.refl _ _).alloc lR _).alloc (by simp) _ | exact Go.below_drewN (((Below.refl _ _).alloc lR _).alloc (by simp) _) _⟩; rw [<- HOK.out]; simp_all [V.node,isE])
 by_cases q3:k = 3
 ·subst q3
  go_enter Tryz.func64,Tryz.ntmps64
  go_wp2
  all_goals (go_ret; refine ⟨zal ?_,by first | exact ((Below.refl _ _).alloc lR _).alloc (by simp) _ | exact Go.below_drewN (((Below.refl _ _).alloc lR _).alloc (by simp) _) _⟩; rw [<- HOK.out]; simp_all [V.node,isE])
 by_cases q9:k = 9
 ·subst q9
  by_cases g:0 <= n /\ n <= 1000000
  ·have H:=Lib.hid (show ok = (decide (e = 0) && decide (s = [])) by rw [<- HOK.out]; simp [V.node,zat g])
   go_enter Tryz.func64,Tryz.ntmps64
   go_wp2
   all_goals (go_ret; refine ⟨zal ?_,by first | exact ((Below.refl _ _).alloc lR _).alloc (by simp) _ | exact (((Below.refl _ _).alloc lR _).alloc (by simp) _).setCell (by simp) _⟩; rw [H.out]; simp_all [isE])
  ·have H:=Lib.hid (show ok = false by rw [<- HOK.out]; simp [V.node,zaM g])
   have H2:=Lib.hid (zaM g)
   go_enter Tryz.func64,Tryz.ntmps64
   go_wp2_with (go_at_call 84; refine (zbs _ _ _ _).mono ?_; rw [H2.out]; rintro e1 w1 ⟨rfl,rfl⟩)
   all_goals (go_ret; exact ⟨by rw [H.out]; rfl,((Below.refl _ _).alloc lR _).alloc (by simp) _⟩)
 by_cases q6:k = 6
 ·subst q6
  by_cases g:s.length <= 2000
  ·have H:=Lib.hid (show ok = (decide (n = 0) && decide (e = 0)) by rw [<- HOK.out]; simp [V.node,g])
   go_enter Tryz.func64,Tryz.ntmps64
   go_wp2
   all_goals (go_ret; refine ⟨zal ?_,by first | exact ((Below.refl _ _).alloc lR _).alloc (by simp) _ | exact (((Below.refl _ _).alloc lR _).alloc (by simp) _).setCell (by simp) _⟩; rw [H.out]; simp_all [])
  ·have H:=Lib.hid (show ok = false by rw [<- HOK.out]; simp [V.node,g])
   have g':(2000:Int) < s.length:=by omega
   go_enter Tryz.func64,Tryz.ntmps64
   go_wp2
   all_goals (go_ret; exact ⟨by rw [H.out]; rfl,((Below.refl _ _).alloc lR _).alloc (by simp) _⟩)
 by_cases q5:k = 5
 ·subst q5
  by_cases g:s.length <= 2000
  ·have g':¬ (2000:Int) < s.length:=by omega
   have g2:=decide_eq_false g'
   cases hv:validD s with
   | true =>
    have HV:=Lib.hid hv;have H:=Lib.hid (show ok = (decide (n = 0) && decide (e = 0)) by rw [<- HOK.out]; simp [V.node,g,hv]);clear hv
    go_enter Tryz.func64,Tryz.ntmps64
    go_wp2_with (go_at_call 39; refine (zbL s _ hsl (hT.below (((Below.refl _ _).alloc lR _).alloc (by simp) _))).mono ?_; rw [HV.out]; rintro e1 w1 ⟨rfl,hb1⟩; have C:=(zaI hb1).1; have F:=(zaI hb1).2; have hz1:=hb1.size; have z1:w.heap.size < w1.heap.size:=(by simp at hz1; omega); have z2:w.heap.size + 1 < w1.heap.size:=(by simp at hz1; omega); have f1:w1.cell? ⟨w.heap.size,1,none⟩ = some (.int .i64 n):=(by rw [C _ _ (by simp <;> omega)]; simp [go_sem]); have f2:w1.cell? ⟨w.heap.size,2,none⟩ = some (.int .i64 e):=(by rw [C _ _ (by simp <;> omega)]; simp [go_sem]); have f3:w1.cell? ⟨w.heap.size,3,none⟩ = some (.string ⟨s.toArray⟩):=(by rw [C _ _ (by simp <;> omega)]; simp [go_sem]); have p1:w1.cell? ⟨w.heap.size + 1,1,none⟩ = some (.int .i64 0):=(by rw [C _ _ (by simp <;> omega)]; simp [go_sem]); have p2:w1.cell? ⟨w.heap.size + 1,2,none⟩ = some (.int .i64 0):=(by rw [C _ _ (by simp <;> omega)]; simp [go_sem]); have p3:w1.cell? ⟨w.heap.size + 1,3,none⟩ = some (.string ⟨#[]⟩):=(by rw [C _ _ (by simp <;> omega)]; simp [go_sem]); have p9:w1.frozen? ⟨w.heap.size + 1,3,none⟩ = false:=(by rw [F _ _ (by simp <;> omega)]; simp [go_sem]); clear C F hz1)
    all_goals (go_ret; refine ⟨zal ?_,by first | exact (zac (((Below.refl _ _).alloc lR _).alloc (by simp) _) hb1 lR).setCell (by simp) _ | exact zac (((Below.refl _ _).alloc lR _).alloc (by simp) _) hb1 lR⟩; rw [H.out]; simp_all [])
   | false =>
    have HV:=Lib.hid hv;have H:=Lib.hid (show ok = false by rw [<- HOK.out]; simp [V.node,hv]);clear hv
    go_enter Tryz.func64,Tryz.ntmps64
    go_wp2_with (go_at_call 39; refine (zbL s _ hsl (hT.below (((Below.refl _ _).alloc lR _).alloc (by simp) _))).mono ?_; rw [HV.out]; rintro e1 w1 ⟨rfl,hb1⟩)
    go_ret;exact ⟨by rw [H.out]; rfl,zac (((Below.refl _ _).alloc lR _).alloc (by simp) _) hb1 lR⟩
  ·have H:=Lib.hid (show ok = false by rw [<- HOK.out]; simp [V.node,g])
   have g':(2000:Int) < s.length:=by omega
   go_enter Tryz.func64,Tryz.ntmps64
   go_wp2
   all_goals (go_ret; exact ⟨by rw [H.out]; rfl,((Below.refl _ _).alloc lR _).alloc (by simp) _⟩)
 by_cases q4:k = 4
 ·subst q4
  cases hv:decOk n e with
  | true =>
   have HV:=Lib.hid (show decOk (V.num (.mk 4 n e s kids)) (V.exp (.mk 4 n e s kids)) = true from hv);have H:=Lib.hid (show ok = decide (s = []) by rw [<- HOK.out]; simp [V.node,hv]);clear hv
   go_enter Tryz.func64,Tryz.ntmps64
   go_wp2_with (go_at_call 83; refine (HD.out _ (((Below.refl _ _).alloc lR _).alloc (by simp) _)).mono ?_; rw [HV.out]; rintro e1 w1 ⟨rfl,hb1⟩; have C:=(zaI hb1).1; have F:=(zaI hb1).2; have hz1:=hb1.size; have z1:w.heap.size < w1.heap.size:=(by simp at hz1; omega); have z2:w.heap.size + 1 < w1.heap.size:=(by simp at hz1; omega); have f1:w1.cell? ⟨w.heap.size,1,none⟩ = some (.int .i64 n):=(by rw [C _ _ (by simp <;> omega)]; simp [go_sem]); have f2:w1.cell? ⟨w.heap.size,2,none⟩ = some (.int .i64 e):=(by rw [C _ _ (by simp <;> omega)]; simp [go_sem]); have f3:w1.cell? ⟨w.heap.size,3,none⟩ = some (.string ⟨s.toArray⟩):=(by rw [C _ _ (by simp <;> omega)]; simp [go_sem]); have p1:w1.cell? ⟨w.heap.size + 1,1,none⟩ = some (.int .i64 0):=(by rw [C _ _ (by simp <;> omega)]; simp [go_sem]); have p2:w1.cell? ⟨w.heap.size + 1,2,none⟩ = some (.int .i64 0):=(by rw [C _ _ (by simp <;> omega)]; simp [go_sem]); have p3:w1.cell? ⟨w.heap.size + 1,3,none⟩ = some (.string ⟨#[]⟩):=(by rw [C _ _ (by simp <;> omega)]; simp [go_sem]); have p8:w1.frozen? ⟨w.heap.size + 1,1,none⟩ = false:=(by rw [F _ _ (by simp <;> omega)]; simp [go_sem]); have p9:w1.frozen? ⟨w.heap.size + 1,2,none⟩ = false:=(by rw [F _ _ (by simp <;> omega)]; simp [go_sem]); clear C F hz1)
   have hbel:Below w.heap.size w w1:=zac (((Below.refl _ _).alloc lR _).alloc (by simp) _) hb1 lR
   go_region
   all_goals (go_wp2; go_ret; refine ⟨zal ?_,by first | exact ((hbel.setCell (by simp) _).setCell (by simp) _).drew | exact (hbel.setCell (by simp) _).setCell (by simp) _ | exact Go.below_drewN ((hbel.setCell (by simp) _).setCell (by simp) _) _⟩; rw [H.out]; simp [isE])
  | false =>
   have HV:=Lib.hid (show decOk (V.num (.mk 4 n e s kids)) (V.exp (.mk 4 n e s kids)) = false from hv);have H:=Lib.hid (show ok = false by rw [<- HOK.out]; simp [V.node,hv]);clear hv
   go_enter Tryz.func64,Tryz.ntmps64
   go_wp2_with (go_at_call 83; refine (HD.out _ (((Below.refl _ _).alloc lR _).alloc (by simp) _)).mono ?_; rw [HV.out]; rintro e1 w1 ⟨rfl,hb1⟩)
   go_ret;exact ⟨by rw [H.out]; rfl,zac (((Below.refl _ _).alloc lR _).alloc (by simp) _) hb1 lR⟩
 have H:=Lib.hid (show ok = false by rw [<- HOK.out]; simp [V.node,q0,q1,q2,q3,q4,q5,q6,q7,q8,q9])
 go_enter Tryz.func64,Tryz.ntmps64
 go_wp2
 all_goals (go_ret; exact ⟨by rw [H.out]; rfl,((Below.refl _ _).alloc lR _).alloc (by simp) _⟩)
end
section
section
variable {P:Program} {ops:Array Oper} {Q:Exit -> Act -> World -> Prop} {md:Region.Mode} {S:World -> Prop}
theorem zaZ {i F fuel:Nat} {oi:Oper} {d:Option Tmp} {v:Value} {listed listed':Array Bool} {a:Act} {w:World} (hi:ops[i]? = some oi) (hd:oi.dst = d) (hF:F = fuel + 1) (hl:listed.setIfInBounds i true = listed')
  (hs:Region.noSelect ops = true) (hf:Region.free md ops listed i = true) (hr:(Region.ready md ops listed).contains i = true)
  (hQ:∀ c a w,Q (.panic c) (a.put d v) w -> Q (.panic c) a w) (hw:Region.wanted oi (yielded ops a.tmps) = true) (hS:S w)
  (hv:∀ w,S w -> (execOp a.eval oi).run P w = .ok (.value v) w)
  (h:wpAnyH P md ops Q S fuel listed' (a.put d v) w):wpAnyH P md ops Q S F listed a w:=by
 subst hF hd hl
 exact wpAnyH_take hi hs hf hr hQ (.inl ⟨hw,hv⟩) hS h
def skipFine (md:Region.Mode) (ops:Array Oper):List (Nat × Tmp) -> Array Bool -> Array Value -> Bool
 | [],_,_ => true
 | (i,d) :: r,listed,tmps => (match ops[i]? with | some o => decide (o.dst = some d) && !Region.wanted o (yielded ops tmps) | none => false) && (Region.free md ops listed i && ((Region.ready md ops listed).contains i &&
   skipFine md ops r (listed.setIfInBounds i true) (tmps.setIfInBounds d undef)))
def skipListed:List (Nat × Tmp) -> Array Bool -> Array Bool
 | [],listed => listed
 | (i,_) :: r,listed => skipListed r (listed.setIfInBounds i true)
def skipAct:List (Nat × Tmp) -> Act -> Act
 | [],a => a
 | (_,d) :: r,a => skipAct r { a with tmps:=a.tmps.setIfInBounds d undef }
theorem takeS {w:World} (hs:Region.noSelect ops = true) (hQ:∀ c a d w,Q (.panic c) (a.put (some d) undef) w -> Q (.panic c) a w) (hS:S w):∀ (l:List (Nat × Tmp)) {F fuel:Nat} {listed listed':Array Bool} {a:Act},F = fuel + l.length -> skipListed l listed = listed' ->
  skipFine md ops l listed a.tmps = true -> wpAnyH P md ops Q S fuel listed' (skipAct l a) w -> wpAnyH P md ops Q S F listed a w
 | [],F,fuel,listed,listed',a,hF,hl,_,h => by subst hF hl; exact h
 | (i,d) :: r,F,fuel,listed,listed',a,hF,hl,hk,h => by
  subst hF hl
  simp only [skipFine,Bool.and_eq_true] at hk;obtain ⟨h1,h2,h3,h4⟩:=hk
  cases ho:ops[i]? with
  | none => rw [ho] at h1; cases h1
  | some o =>
   rw [ho] at h1;simp only [Bool.and_eq_true,decide_eq_true_eq,Bool.not_eq_true'] at h1;obtain ⟨hd,hw⟩:=h1;refine wpAnyH_take (fuel:=fuel + r.length) (v:=undef) ho hs h2 h3 (by rw [hd]; exact fun c a w => hQ c a d w) (.inr ⟨hw,rfl⟩) hS ?_;rw [hd];exact takeS hs hQ hS r rfl rfl h4 h
theorem takeC {i F fuel:Nat} {oi:Oper} {d:Option Tmp} {listed listed':Array Bool} {a:Act} {w:World} (hi:ops[i]? = some oi) (_hd:oi.dst = d) (hF:F = fuel + 1) (hl:listed.setIfInBounds i true = listed')
  (hr:Region.ready md ops listed = [i]) (hw:Region.wanted oi (yielded ops a.tmps) = true)
  (h:∀ K':Act -> World -> Prop,Shut (∀ a w,S w -> (S w -> wpAnyH P md ops Q S fuel listed' a w) -> K' a w) -> Oper.wp P oi a w K' Q):wpAnyH P md ops Q S F listed a w:=by
 subst hF hl _hd
 refine wpAnyH_ready hr (by simp) (AllReadyH.cons hi (fun K' hK => ?_) AllReadyH.nil);rw [if_pos hw]; exact h K' hK
end
end
section
def intBox (w:World) (g:Nat) (n:Int):Prop:=w.heap[g]? = some (.cells #[.int .i64 n] 3 (0,0))
theorem intBox.cell {w:World} {g:Nat} {n:Int} (h:intBox w g n):w.cell? ⟨g,0,none⟩ = some (.int .i64 n):=cell_of_one h
theorem intBox.free {w:World} {g:Nat} {n:Int} (h:intBox w g n):w.frozen? ⟨g,0,none⟩ = false:=free_of_one h
theorem intBox.lt {w:World} {g:Nat} {n:Int} (h:intBox w g n):g < w.heap.size:=lt_of_block h
theorem intBox.below {w w':World} {g:Nat} {n:Int} (h:intBox w g n) (hb:Below w.heap.size w w'):intBox w' g n:=(hb.block g h.lt).trans h
theorem intBox.keep {S:Nat -> Prop} {w w':World} {g:Nat} {n:Int} (h:intBox w g n) (hk:Keep S w w') (hs:¬ S g):intBox w' g n:=(hk.block g h.lt hs).trans h
def GlobN (N:Nat):Prop:=0 < N /\ 1 < N
theorem Tabs.keep {S:Nat -> Prop} {w w':World} {N:Nat} (h:Tabs w) (hg:GlobN N) (hk:Keep S w w') (hN:N <= w.heap.size) (hs:∀ k,k < N -> ¬ S k):Tabs w':=h.below' (hk.below hN hs) hg.1 hg.2
end
section
open Go.Lib (validD)
def vGood (deep:Nat) (L:Int) (x:V):Bool:=V.rightBy pairsOkI (12 - deep) x && decide ((x.nodes:Int) <= L)
def vGoods (deep:Nat) (L:Int) (xs:List V):Bool:=V.rightsBy pairsOkI (12 - deep) xs && decide ((V.nodess xs:Int) <= L)
def VIsA (n:Nat):Prop:=∀ (x:V) (cs:List Value) (deep N g:Nat) (L:Int) (w:World),x.nodes <= n -> RdN N w x.d cs -> N <= g -> intBox w g L -> x.wf -> x.bulk <= 4294967295 -> Tabs w -> GlobN N -> deep <= 1000000 -> 0 <= L /\ L <= 1000 ->
 Calls Tryz.prog 45 #[.agg cs.toArray,.int .i64 deep,.pointer (some ⟨g,0,none⟩)] w fun e w' => e = .returned (.bool (vGood deep L x)) /\ (∃ L':Int,intBox w' g L' /\ (vGood deep L x = true -> L' = L - x.nodes)) /\ Keep (· = g) w w'
theorem vGood_no1 {deep:Nat} {L:Int} {x:V} (h:L - 1 < 0):vGood deep L x = false:=by
 have:=x.nodes_pos; unfold vGood; rw [decide_eq_false (by omega),Bool.and_false]
theorem vGood_no2 {deep:Nat} {L:Int} {x:V} (h:(12:Int) < deep):vGood deep L x = false:=by
 obtain ⟨k,m,e,s,kids⟩:=x;unfold vGood; simp only [V.rightBy]; rw [decide_eq_false (show ¬ (0:Int) <= 12 - deep by omega)]; simp
theorem V.nodess_ge:∀ xs:List V,xs.length <= V.nodess xs
 | [] => by simp
 | x :: xs => by have:=x.nodes_pos; have:=V.nodess_ge xs; simp only [V.nodess,length_cons]; omega
theorem vGood_no3 {deep:Nat} {L:Int} {k m e:Int} {s:L8} {kids:List V} (h:L - 1 < kids.length):vGood deep L (.mk k m e s kids) = false:=by
 have:=V.nodess_ge kids; unfold vGood; rw [decide_eq_false (by simp only [V.nodes]; omega),Bool.and_false]
theorem zeL {deep:Nat} {L:Int} {x:V} (h:x.selfI = false):vGood deep L x = false:=by
 obtain ⟨k,m,e,s,kids⟩:=x;unfold vGood; simp only [V.rightBy]; rw [show V.selfBy pairsOkI (.mk k m e s kids) = false from h]; simp
theorem vGood_yes {deep:Nat} {L:Int} {k m e:Int} {s:L8} {kids:List V} (h2:¬ (12:Int) < deep) (ho:V.selfI (.mk k m e s kids) = true) :
  vGood deep L (.mk k m e s kids) = vGoods (deep + 1) (L - 1) kids:=by
 unfold vGood vGoods; simp only [V.rightBy,V.nodes]
 rw [show V.selfBy pairsOkI (.mk k m e s kids) = true from ho,decide_eq_true (show (0:Int) <= 12 - deep by omega),show (12:Int) - deep - 1 = 12 - (deep + 1:Nat) by omega,Bool.and_true,Bool.and_true]
 congr 1; exact decide_eq_decide.2 (by omega)
def VIsC (n:Nat):Prop:=∀ (xs:List V) (va:Value) (deep N g bd bl:Nat) (L:Int) (w:World),V.nodess xs <= n -> RdN N w (.sl 5 (V.ds xs)) [va] -> N <= g -> intBox w g L -> intBox w bd deep -> bd ≠ g -> w.cell? ⟨bl,0,none⟩ = some (.pointer (some ⟨g,0,none⟩)) -> bl ≠ g ->
  V.wfs xs -> xs.length + V.bulks xs <= 4294967295 -> Tabs w -> GlobN N -> deep <= 1000 -> 0 <= L /\ L <= 1000 ->
 Calls Tryz.prog 66 #[va,.func (.func 67) #[] #[.pointer (some ⟨bd,0,none⟩),.pointer (some ⟨bl,0,none⟩)]] w fun e w' => e = .returned (.bool (!vGoods (deep + 1) L xs)) /\ (∃ L':Int,intBox w' g L' /\ (vGoods (deep + 1) L xs = true -> L' = L - V.nodess xs)) /\ Keep (· = g) w w'
theorem VIsA_of {n:Nat} (hC:VIsC n):VIsA (n + 1):=by
 intro x cs deep N g L w hn h hNg hbox hwf hbk hT hG hdeep hL;obtain ⟨k,m,e,s,kids,v2,hx,rfl,hkids⟩:=V.layS h;subst hx;have hnk:V.nodess kids <= n:=by simp only [V.nodes] at hn; omega
 obtain ⟨hL1,hL2⟩:=hL;obtain ⟨M,rfl⟩:∃ M,L = M + 1:=⟨L - 1,by omega⟩;have hglt:=hbox.lt;obtain ⟨a2,c2,rfl⟩:=Rd.sl_form (Rd.of hkids);simp only [V.ds_map,length_map] at h hkids ⊢;rw [<- V.ds_map] at hkids;have hfree:=hbox.free;have hcell:=hbox.cell;obtain ⟨W0,hW0⟩:∃ W0,W0 = ((((w.setCell ⟨g,0,none⟩ (.int .i64 M)).alloc (.cells #[.int .i64 k,.int .i64 m,.int .i64 e,.string ⟨s.toArray⟩,.slice a2 kids.length c2] 32)).alloc (.cells #[.int .i64 deep] 3)).alloc (.cells #[.pointer (some ⟨g,0,none⟩)] 72)):=⟨_,rfl⟩;have HW:=Lib.hid hW0;have hK0:Keep (· = g) w W0:=by rw [hW0]; exact (((Keep.setCell (S:=(· = g)) (p:=⟨g,0,none⟩) (Keep.refl _ _) (.inl rfl) _).alloc _).alloc _).alloc _
 have hb0:intBox W0 g M:=by
  rw [hW0]
  have:intBox (w.setCell ⟨g,0,none⟩ (.int .i64 M)) g M:=one_setCell hbox
  exact ((this.below ((Below.refl _ _).alloc lR _)).below ((Below.refl _ _).alloc lR _)).below ((Below.refl _ _).alloc lR _)
 have hbd0:intBox W0 (w.heap.size + 1) deep:=by
  rw [hW0]; unfold intBox; rw [Below.heap_alloc _ _ _ (by simp [World.setCell])]
  have:=zap ((w.setCell ⟨g,0,none⟩ (.int .i64 M)).alloc (.cells #[.int .i64 k,.int .i64 m,.int .i64 e,.string ⟨s.toArray⟩,.slice a2 kids.length c2] 32)) (.cells #[.int .i64 deep] 3)
  simpa [World.setCell] using this
 have hng:∀ k,k < N -> ¬ k = g:=by intro k hk e; omega
 have hN:N <= w.heap.size:=by omega
 have hss:(w.setCell ⟨g,0,none⟩ (.int .i64 M)).heap.size = w.heap.size:=by simp [World.setCell]
 have hsz:W0.heap.size = w.heap.size + 3:=by rw [hW0]; simp [hss]
 have s1:g < w.heap.size + 1:=by omega
 have s2:g < w.heap.size + 1 + 1:=by omega
 have s3:g < w.heap.size + 1 + 1 + 1:=by omega
 have q1:¬ g = w.heap.size:=by omega
 have q2:¬ g = w.heap.size + 1:=by omega
 have q3:¬ g = w.heap.size + 1 + 1:=by omega
 have KB:Hid (∀ W,Below W0.heap.size W0 W -> W.cell? ⟨w.heap.size,0,none⟩ = some (.int .i64 k) /\ W.cell? ⟨w.heap.size,1,none⟩ = some (.int .i64 m) /\ W.cell? ⟨w.heap.size,2,none⟩ = some (.int .i64 e) /\ W.cell? ⟨w.heap.size,3,none⟩ = some (.string ⟨s.toArray⟩) /\ W.cell? ⟨w.heap.size,4,none⟩ = some (.slice a2 kids.length c2) /\ W.cell? ⟨w.heap.size + 1,0,none⟩ = some (.int .i64 deep) /\ W.cell? ⟨w.heap.size + 1 + 1,0,none⟩ = some (.pointer (some ⟨g,0,none⟩)) /\ W.cell? ⟨g,0,none⟩ = some (.int .i64 M)):=by
  intro W hb;obtain ⟨hc,_⟩:=zaI hb;have z1:w.heap.size < W0.heap.size:=by omega
  have z2:w.heap.size + 1 < W0.heap.size:=by omega
  have z3:w.heap.size + 1 + 1 < W0.heap.size:=by omega
  have z4:g < W0.heap.size:=by omega
  simp only [hc _ _ z1,hc _ _ z2,hc _ _ z3,hc _ _ z4,hb0.cell];subst hW0;simp [go_sem,hss]
 have hT0:=Lib.hid (hT.keep hG hK0 hN hng);have HR:=Lib.hid (show ∀ W,Below W0.heap.size W0 W -> RdN N W (V.d (.mk k m e s kids)) [.int .i64 k,.int .i64 m,.int .i64 e,.string ⟨s.toArray⟩,.slice a2 kids.length c2] from fun W hb => (h.keep hK0 hN hng).below (hb.mono (by omega)));have HRk:=Lib.hid (show ∀ W,Below W0.heap.size W0 W -> RdN N W (.sl 5 (V.ds kids)) [.slice a2 kids.length c2] from fun W hb => (RdN.keep hkids hK0 hN hng).below (hb.mono (by omega)));have HF:=Lib.hid (fun W (hb:Below W0.heap.size W0 W) => isNode_any _ _ W (HR.out W hb).rd hwf hbk (hT0.out.below hb));have HQ:=Lib.hid (fun W (hb:Below W0.heap.size W0 W) => zfc _ _ W (HR.out W hb).rd hbk);clear h hkids hT hbox hW0 hng hss q1 q2 q3;by_cases qc1:M < 0
 ·have dqc1:=decide_eq_true qc1
  have H:=Lib.hid (vGood_no1 (deep:=deep) (L:=M + 1) (x:=.mk k m e s kids) (by omega))
  go_enter Tryz.func45,Tryz.ntmps45
  go_wp2;rw [<- HW.out];have hB:=Below.refl W0.heap.size W0;obtain ⟨p0,p1,p2,p3,p4,p6,p7,p8⟩:=KB.out _ hB
  go_quiet (fail)
  go_wp2;go_ret;exact ⟨by rw [H.out]; rfl,⟨M,hb0.below (by first | exact hB | exact hB.drew | exact Go.below_drewN hB _),fun h => by rw [H.out] at h; cases h⟩,hK0.then (by first | exact hB | exact hB.drew | exact Go.below_drewN hB _)⟩
 have dqc1:=decide_eq_false qc1;by_cases qc2:(12:Int) < deep
 ·have dqc2:=decide_eq_true qc2
  have H:=Lib.hid (vGood_no2 (L:=M + 1) (x:=.mk k m e s kids) qc2)
  go_enter Tryz.func45,Tryz.ntmps45
  go_wp2;rw [<- HW.out];have hB:=Below.refl W0.heap.size W0;obtain ⟨p0,p1,p2,p3,p4,p6,p7,p8⟩:=KB.out _ hB
  go_quiet (fail)
  go_wp2;go_ret;exact ⟨by rw [H.out]; rfl,⟨M,hb0.below (by first | exact hB | exact hB.drew | exact Go.below_drewN hB _),fun h => by rw [H.out] at h; cases h⟩,hK0.then (by first | exact hB | exact hB.drew | exact Go.below_drewN hB _)⟩
 have dqc2:=decide_eq_false qc2;by_cases qc3:M < kids.length
 ·have dqc3:=decide_eq_true qc3
  have H:=Lib.hid (vGood_no3 (deep:=deep) (L:=M + 1) (k:=k) (m:=m) (e:=e) (s:=s) (kids:=kids) (by omega))
  go_enter Tryz.func45,Tryz.ntmps45
  go_wp2;rw [<- HW.out];have hB:=Below.refl W0.heap.size W0;obtain ⟨p0,p1,p2,p3,p4,p6,p7,p8⟩:=KB.out _ hB
  go_quiet (fail)
  go_wp2;go_ret;exact ⟨by rw [H.out]; rfl,⟨M,hb0.below (by first | exact hB | exact hB.drew | exact Go.below_drewN hB _),fun h => by rw [H.out] at h; cases h⟩,hK0.then (by first | exact hB | exact hB.drew | exact Go.below_drewN hB _)⟩
 have dqc3:=decide_eq_false qc3;have HSN:=Lib.hid (V.selfI_node (.mk k m e s kids))
 cases hnode:V.node (.mk k m e s kids) with
 | false =>
  have HO:=Lib.hid hnode;have H:=Lib.hid (zeL (deep:=deep) (L:=M + 1) (x:=.mk k m e s kids) (by rw [HSN.out,hnode]; rfl));clear hnode
  go_enter Tryz.func45,Tryz.ntmps45
  go_wp2;rw [<- HW.out];have hB:=Below.refl W0.heap.size W0;refine wp_region_held_drew (S:=(fun W => W.cell? ⟨w.heap.size,0,none⟩ = some (.int .i64 k) /\ W.cell? ⟨w.heap.size,1,none⟩ = some (.int .i64 m) /\ W.cell? ⟨w.heap.size,2,none⟩ = some (.int .i64 e) /\ W.cell? ⟨w.heap.size,3,none⟩ = some (.string ⟨s.toArray⟩) /\ W.cell? ⟨w.heap.size,4,none⟩ = some (.slice a2 kids.length c2) /\ W.cell? ⟨w.heap.size + 1,0,none⟩ = some (.int .i64 deep) /\ W.cell? ⟨w.heap.size + 1 + 1,0,none⟩ = some (.pointer (some ⟨g,0,none⟩)) /\ W.cell? ⟨g,0,none⟩ = some (.int .i64 M))) (by kernel_rfl) ?_ (fun hHeld => ?_)
  ·((try dsimp only); (first | exact KB.out _ hB | exact KB.out _ hB.drew))
  refine zaZ (i:=0) (fuel:=26) (d:=some 12) (v:=?vr0) (listed':=#[true,false,false,false,false,false,false,false,false,false,false,false,false,false,false,false,false,false,false,false,false,false,false,false,false,false,false]) rfl rfl (by kernel_rfl) (by kernel_rfl) (by kernel_rfl) (by kernel_rfl) (by kernel_rfl) (fun _ _ _ h => h) (by kernel_rfl) (by assumption) ?hr0 ?rr0
  case hr0 => (intro w hSw; (try dsimp only at hSw); go_simp; all_goals with_reducible rfl)
  simp only [Act.put,setIfInBounds_toArray,set_cons_zero,set_cons_succ];refine zaZ (i:=1) (fuel:=25) (d:=some 13) (v:=?vr1) (listed':=#[true,true,false,false,false,false,false,false,false,false,false,false,false,false,false,false,false,false,false,false,false,false,false,false,false,false,false]) rfl rfl (by kernel_rfl) (by kernel_rfl) (by kernel_rfl) (by kernel_rfl) (by kernel_rfl) (fun _ _ _ h => h) (by kernel_rfl) (by assumption) ?hr1 ?rr1
  case hr1 => (intro w hSw; (try dsimp only at hSw); go_simp; all_goals with_reducible rfl)
  simp only [Act.put,setIfInBounds_toArray,set_cons_zero,set_cons_succ];refine zaZ (i:=2) (fuel:=24) (d:=some 14) (v:=?vr2) (listed':=#[true,true,true,false,false,false,false,false,false,false,false,false,false,false,false,false,false,false,false,false,false,false,false,false,false,false,false]) rfl rfl (by kernel_rfl) (by kernel_rfl) (by kernel_rfl) (by kernel_rfl) (by kernel_rfl) (fun _ _ _ h => h) (by kernel_rfl) (by assumption) ?hr2 ?rr2
  case hr2 => (intro w hSw; (try dsimp only at hSw); go_simp; all_goals with_reducible rfl)
  simp only [Act.put,setIfInBounds_toArray,set_cons_zero,set_cons_succ];refine zaZ (i:=3) (fuel:=23) (d:=some 15) (v:=?vr3) (listed':=#[true,true,true,true,false,false,false,false,false,false,false,false,false,false,false,false,false,false,false,false,false,false,false,false,false,false,false]) rfl rfl (by kernel_rfl) (by kernel_rfl) (by kernel_rfl) (by kernel_rfl) (by kernel_rfl) (fun _ _ _ h => h) (by kernel_rfl) (by assumption) ?hr3 ?rr3
  case hr3 => (intro w hSw; (try dsimp only at hSw); go_simp; all_goals with_reducible rfl)
  simp only [Act.put,setIfInBounds_toArray,set_cons_zero,set_cons_succ];refine zaZ (i:=4) (fuel:=22) (d:=some 16) (v:=?vr4) (listed':=#[true,true,true,true,true,false,false,false,false,false,false,false,false,false,false,false,false,false,false,false,false,false,false,false,false,false,false]) rfl rfl (by kernel_rfl) (by kernel_rfl) (by kernel_rfl) (by kernel_rfl) (by kernel_rfl) (fun _ _ _ h => h) (by kernel_rfl) (by assumption) ?hr4 ?rr4
  case hr4 => (intro w hSw; (try dsimp only at hSw); go_simp; all_goals with_reducible rfl)
  simp only [Act.put,setIfInBounds_toArray,set_cons_zero,set_cons_succ];refine zaZ (i:=5) (fuel:=21) (d:=some 17) (v:=?vr5) (listed':=#[true,true,true,true,true,true,false,false,false,false,false,false,false,false,false,false,false,false,false,false,false,false,false,false,false,false,false]) rfl rfl (by kernel_rfl) (by kernel_rfl) (by kernel_rfl) (by kernel_rfl) (by kernel_rfl) (fun _ _ _ h => h) (by kernel_rfl) (by assumption) ?hr5 ?rr5
  case hr5 => (intro w hSw; (try dsimp only at hSw); go_simp; all_goals with_reducible rfl)
  simp only [Act.put,setIfInBounds_toArray,set_cons_zero,set_cons_succ];refine zaZ (i:=6) (fuel:=20) (d:=some 18) (v:=?vr6) (listed':=#[true,true,true,true,true,true,true,false,false,false,false,false,false,false,false,false,false,false,false,false,false,false,false,false,false,false,false]) rfl rfl (by kernel_rfl) (by kernel_rfl) (by kernel_rfl) (by kernel_rfl) (by kernel_rfl) (fun _ _ _ h => h) (by kernel_rfl) (by assumption) ?hr6 ?rr6
  case hr6 => (intro w hSw; (try dsimp only at hSw); go_simp; all_goals with_reducible rfl)
  simp only [Act.put,setIfInBounds_toArray,set_cons_zero,set_cons_succ];refine zaZ (i:=7) (fuel:=19) (d:=some 19) (v:=?vr7) (listed':=#[true,true,true,true,true,true,true,true,false,false,false,false,false,false,false,false,false,false,false,false,false,false,false,false,false,false,false]) rfl rfl (by kernel_rfl) (by kernel_rfl) (by kernel_rfl) (by kernel_rfl) (by kernel_rfl) (fun _ _ _ h => h) (by kernel_rfl) (by assumption) ?hr7 ?rr7
  case hr7 => (intro w hSw; (try dsimp only at hSw); go_simp; all_goals with_reducible rfl)
  simp only [Act.put,setIfInBounds_toArray,set_cons_zero,set_cons_succ];refine zaZ (i:=8) (fuel:=18) (d:=some 20) (v:=?vr8) (listed':=#[true,true,true,true,true,true,true,true,true,false,false,false,false,false,false,false,false,false,false,false,false,false,false,false,false,false,false]) rfl rfl (by kernel_rfl) (by kernel_rfl) (by kernel_rfl) (by kernel_rfl) (by kernel_rfl) (fun _ _ _ h => h) (by kernel_rfl) (by assumption) ?hr8 ?rr8
  case hr8 => (intro w hSw; (try dsimp only at hSw); go_simp; all_goals with_reducible rfl)
  simp only [Act.put,setIfInBounds_toArray,set_cons_zero,set_cons_succ];refine zaZ (i:=9) (fuel:=17) (d:=some 21) (v:=?vr9) (listed':=#[true,true,true,true,true,true,true,true,true,true,false,false,false,false,false,false,false,false,false,false,false,false,false,false,false,false,false]) rfl rfl (by kernel_rfl) (by kernel_rfl) (by kernel_rfl) (by kernel_rfl) (by kernel_rfl) (fun _ _ _ h => h) (by kernel_rfl) (by assumption) ?hr9 ?rr9
  case hr9 => (intro w hSw; (try dsimp only at hSw); go_simp; all_goals with_reducible rfl)
  simp only [Act.put,setIfInBounds_toArray,set_cons_zero,set_cons_succ];refine zaZ (i:=10) (fuel:=16) (d:=some 22) (v:=?vr10) (listed':=#[true,true,true,true,true,true,true,true,true,true,true,false,false,false,false,false,false,false,false,false,false,false,false,false,false,false,false]) rfl rfl (by kernel_rfl) (by kernel_rfl) (by kernel_rfl) (by kernel_rfl) (by kernel_rfl) (fun _ _ _ h => h) (by kernel_rfl) (by assumption) ?hr10 ?rr10
  case hr10 => (intro w hSw; (try dsimp only at hSw); go_simp; all_goals with_reducible rfl)
  simp only [Act.put,setIfInBounds_toArray,set_cons_zero,set_cons_succ];refine zaZ (i:=11) (fuel:=15) (d:=some 23) (v:=?vr11) (listed':=#[true,true,true,true,true,true,true,true,true,true,true,true,false,false,false,false,false,false,false,false,false,false,false,false,false,false,false]) rfl rfl (by kernel_rfl) (by kernel_rfl) (by kernel_rfl) (by kernel_rfl) (by kernel_rfl) (fun _ _ _ h => h) (by kernel_rfl) (by assumption) ?hr11 ?rr11
  case hr11 => (intro w hSw; (try dsimp only at hSw); go_simp; all_goals with_reducible rfl)
  simp only [Act.put,setIfInBounds_toArray,set_cons_zero,set_cons_succ];refine zaZ (i:=12) (fuel:=14) (d:=some 24) (v:=?vr12) (listed':=#[true,true,true,true,true,true,true,true,true,true,true,true,true,false,false,false,false,false,false,false,false,false,false,false,false,false,false]) rfl rfl (by kernel_rfl) (by kernel_rfl) (by kernel_rfl) (by kernel_rfl) (by kernel_rfl) (fun _ _ _ h => h) (by kernel_rfl) (by assumption) ?hr12 ?rr12
  case hr12 => (intro w hSw; (try dsimp only at hSw); go_simp; all_goals with_reducible rfl)
  simp only [Act.put,setIfInBounds_toArray,set_cons_zero,set_cons_succ];refine zaZ (i:=13) (fuel:=13) (d:=some 25) (v:=?vr13) (listed':=#[true,true,true,true,true,true,true,true,true,true,true,true,true,true,false,false,false,false,false,false,false,false,false,false,false,false,false]) rfl rfl (by kernel_rfl) (by kernel_rfl) (by kernel_rfl) (by kernel_rfl) (by kernel_rfl) (fun _ _ _ h => h) (by kernel_rfl) (by assumption) ?hr13 ?rr13
  case hr13 => (intro w hSw; (try dsimp only at hSw); go_simp; all_goals with_reducible rfl)
  simp only [Act.put,setIfInBounds_toArray,set_cons_zero,set_cons_succ];refine zaZ (i:=14) (fuel:=12) (d:=some 26) (v:=?vr14) (listed':=#[true,true,true,true,true,true,true,true,true,true,true,true,true,true,true,false,false,false,false,false,false,false,false,false,false,false,false]) rfl rfl (by kernel_rfl) (by kernel_rfl) (by kernel_rfl) (by kernel_rfl) (by kernel_rfl) (fun _ _ _ h => h) (by kernel_rfl) (by assumption) ?hr14 ?rr14
  case hr14 => (intro w hSw; (try dsimp only at hSw); go_simp; all_goals with_reducible rfl)
  simp only [Act.put,setIfInBounds_toArray,set_cons_zero,set_cons_succ];refine zaZ (i:=15) (fuel:=11) (d:=some 27) (v:=?vr15) (listed':=#[true,true,true,true,true,true,true,true,true,true,true,true,true,true,true,true,false,false,false,false,false,false,false,false,false,false,false]) rfl rfl (by kernel_rfl) (by kernel_rfl) (by kernel_rfl) (by kernel_rfl) (by kernel_rfl) (fun _ _ _ h => h) (by kernel_rfl) (by assumption) ?hr15 ?rr15
  case hr15 => (intro w hSw; (try dsimp only at hSw); go_simp; all_goals with_reducible rfl)
  simp only [Act.put,setIfInBounds_toArray,set_cons_zero,set_cons_succ];refine zaZ (i:=16) (fuel:=10) (d:=some 28) (v:=?vr16) (listed':=#[true,true,true,true,true,true,true,true,true,true,true,true,true,true,true,true,true,false,false,false,false,false,false,false,false,false,false]) rfl rfl (by kernel_rfl) (by kernel_rfl) (by kernel_rfl) (by kernel_rfl) (by kernel_rfl) (fun _ _ _ h => h) (by kernel_rfl) (by assumption) ?hr16 ?rr16
  case hr16 => (intro w hSw; (try dsimp only at hSw); go_simp; all_goals with_reducible rfl)
  simp only [Act.put,setIfInBounds_toArray,set_cons_zero,set_cons_succ];refine zaZ (i:=17) (fuel:=9) (d:=some 29) (v:=?vr17) (listed':=#[true,true,true,true,true,true,true,true,true,true,true,true,true,true,true,true,true,true,false,false,false,false,false,false,false,false,false]) rfl rfl (by kernel_rfl) (by kernel_rfl) (by kernel_rfl) (by kernel_rfl) (by kernel_rfl) (fun _ _ _ h => h) (by kernel_rfl) (by assumption) ?hr17 ?rr17
  case hr17 => (intro w hSw; (try dsimp only at hSw); go_simp; all_goals with_reducible rfl)
  simp only [Act.put,setIfInBounds_toArray,set_cons_zero,set_cons_succ];refine zaZ (i:=18) (fuel:=8) (d:=some 30) (v:=?vr18) (listed':=#[true,true,true,true,true,true,true,true,true,true,true,true,true,true,true,true,true,true,true,false,false,false,false,false,false,false,false]) rfl rfl (by kernel_rfl) (by kernel_rfl) (by kernel_rfl) (by kernel_rfl) (by kernel_rfl) (fun _ _ _ h => h) (by kernel_rfl) (by assumption) ?hr18 ?rr18
  case hr18 => (intro w hSw; (try dsimp only at hSw); go_simp; all_goals with_reducible rfl)
  simp only [Act.put,setIfInBounds_toArray,set_cons_zero,set_cons_succ];refine takeC (i:=19) (fuel:=7) (d:=some 31) (listed':=#[true,true,true,true,true,true,true,true,true,true,true,true,true,true,true,true,true,true,true,true,false,false,false,false,false,false,false]) rfl rfl (by kernel_rfl) (by kernel_rfl) (by kernel_rfl) (by kernel_rfl) (fun K hK => ?cr19)
  go_simp
  ((go_at_call 64; with_reducible refine (HF.out _ (by first | exact hB | exact hB.drew)).mono ?_; rw [HO.out]; rintro e1 w1 ⟨rfl,hb1⟩; replace hB:=zac (by first | exact hB | exact hB.drew) hb1 lR))
  go_wp2_with fail
  refine hK.out _ _ ?kr19 (fun hHeld => ?nr19)
  case kr19 => ((try dsimp only); (first | exact KB.out _ hB | exact KB.out _ hB.drew))
  clear hK K
  try simp only [skipAct,Act.put,setIfInBounds_toArray,set_cons_zero,set_cons_succ]
  refine zaZ (i:=20) (fuel:=6) (d:=some 32) (v:=?vr20) (listed':=#[true,true,true,true,true,true,true,true,true,true,true,true,true,true,true,true,true,true,true,true,true,false,false,false,false,false,false]) rfl rfl (by kernel_rfl) (by kernel_rfl) (by kernel_rfl) (by kernel_rfl) (by kernel_rfl) (fun _ _ _ h => h) (by kernel_rfl) (by assumption) ?hr20 ?rr20
  case hr20 => (intro w hSw; (try dsimp only at hSw); go_simp; all_goals with_reducible rfl)
  simp only [Act.put,setIfInBounds_toArray,set_cons_zero,set_cons_succ];refine zaZ (i:=21) (fuel:=5) (d:=some 33) (v:=?vr21) (listed':=#[true,true,true,true,true,true,true,true,true,true,true,true,true,true,true,true,true,true,true,true,true,true,false,false,false,false,false]) rfl rfl (by kernel_rfl) (by kernel_rfl) (by kernel_rfl) (by kernel_rfl) (by kernel_rfl) (fun _ _ _ h => h) (by kernel_rfl) (by assumption) ?hr21 ?rr21
  case hr21 => (intro w hSw; (try dsimp only at hSw); go_simp; all_goals with_reducible rfl)
  simp only [Act.put,setIfInBounds_toArray,set_cons_zero,set_cons_succ];refine zaZ (i:=22) (fuel:=4) (d:=some 34) (v:=?vr22) (listed':=#[true,true,true,true,true,true,true,true,true,true,true,true,true,true,true,true,true,true,true,true,true,true,true,false,false,false,false]) rfl rfl (by kernel_rfl) (by kernel_rfl) (by kernel_rfl) (by kernel_rfl) (by kernel_rfl) (fun _ _ _ h => h) (by kernel_rfl) (by assumption) ?hr22 ?rr22
  case hr22 => (intro w hSw; (try dsimp only at hSw); go_simp; all_goals with_reducible rfl)
  simp only [Act.put,setIfInBounds_toArray,set_cons_zero,set_cons_succ];refine takeS (fuel:=1) (listed':=#[true,true,true,true,true,true,true,true,true,true,true,true,true,true,true,true,true,true,true,true,true,true,true,true,true,true,false]) (by kernel_rfl) (fun _ _ _ _ h => h) (by assumption) [(23,35),(24,36),(25,37)] (by kernel_rfl) (by kernel_rfl) (by kernel_rfl) ?_;simp only [skipAct,setIfInBounds_toArray,set_cons_zero,set_cons_succ];refine zaZ (i:=26) (fuel:=0) (d:=some 38) (v:=?vr26) (listed':=#[true,true,true,true,true,true,true,true,true,true,true,true,true,true,true,true,true,true,true,true,true,true,true,true,true,true,true]) rfl rfl (by kernel_rfl) (by kernel_rfl) (by kernel_rfl) (by kernel_rfl) (by kernel_rfl) (fun _ _ _ h => h) (by kernel_rfl) (by assumption) ?hr26 ?rr26
  case hr26 => (intro w hSw; (try dsimp only at hSw); go_simp; all_goals with_reducible rfl)
  simp only [Act.put,setIfInBounds_toArray,set_cons_zero,set_cons_succ];refine wpAnyH_done (by kernel_rfl) ?_ _;go_wp2;go_ret
  exact ⟨by rw [H.out]; rfl,⟨M,hb0.below (by first | exact hB | exact hB.drew | exact Go.below_drewN hB _),fun h => by rw [H.out] at h; cases h⟩,hK0.then (by first | exact hB | exact hB.drew | exact Go.below_drewN hB _)⟩
 | true =>
  have HO:=Lib.hid hnode
  cases hkk:V.kidsOk k kids with
  | false =>
   have HKK:=Lib.hid (show V.kidsOk (V.kind (.mk k m e s kids)) (V.kids (.mk k m e s kids)) = false from hkk);have H:=Lib.hid (zeL (deep:=deep) (L:=M + 1) (x:=.mk k m e s kids) (by rw [HSN.out,hnode]; exact hkk));clear hnode hkk
   go_enter Tryz.func45,Tryz.ntmps45
   go_wp2;rw [<- HW.out];have hB:=Below.refl W0.heap.size W0
   go_region_held3 (fun W => W.cell? ⟨w.heap.size,0,none⟩ = some (.int .i64 k) /\ W.cell? ⟨w.heap.size,1,none⟩ = some (.int .i64 m) /\ W.cell? ⟨w.heap.size,2,none⟩ = some (.int .i64 e) /\ W.cell? ⟨w.heap.size,3,none⟩ = some (.string ⟨s.toArray⟩) /\ W.cell? ⟨w.heap.size,4,none⟩ = some (.slice a2 kids.length c2) /\ W.cell? ⟨w.heap.size + 1,0,none⟩ = some (.int .i64 deep) /\ W.cell? ⟨w.heap.size + 1 + 1,0,none⟩ = some (.pointer (some ⟨g,0,none⟩)) /\ W.cell? ⟨g,0,none⟩ = some (.int .i64 M))
    (first | exact KB.out _ hB | exact KB.out _ hB.drew)
    (first | (go_at_call 64; with_reducible refine (HF.out _ (by first | exact hB | exact hB.drew)).mono ?_; rw [HO.out]; rintro e1 w1 ⟨rfl,hb1⟩; replace hB:=zac (by first | exact hB | exact hB.drew) hb1 lR) | (go_at_call 65; with_reducible refine (HQ.out _ (by first | exact hB | exact hB.drew)).mono ?_; rw [HKK.out]; rintro e1 w1 ⟨rfl,hb1⟩; replace hB:=zac (by first | exact hB | exact hB.drew) hb1 lR))
   go_wp2;go_ret
   exact ⟨by rw [H.out]; rfl,⟨M,hb0.below (by first | exact hB | exact hB.drew | exact Go.below_drewN hB _),fun h => by rw [H.out] at h; cases h⟩,hK0.then (by first | exact hB | exact hB.drew | exact Go.below_drewN hB _)⟩
  | true =>
   have HKK:=Lib.hid (show V.kidsOk (V.kind (.mk k m e s kids)) (V.kids (.mk k m e s kids)) = true from hkk);have H0:=vGood_yes (L:=M + 1) qc2 (show V.selfI (.mk k m e s kids) = true by rw [HSN.out,hnode]; exact hkk);rw [show M + 1 - 1 = M by omega] at H0;have H:=Lib.hid H0;clear H0 hnode hkk
   go_enter Tryz.func45,Tryz.ntmps45
   go_wp2;rw [<- HW.out];have hB:=Below.refl W0.heap.size W0
   go_region_held3 (fun W => W.cell? ⟨w.heap.size,0,none⟩ = some (.int .i64 k) /\ W.cell? ⟨w.heap.size,1,none⟩ = some (.int .i64 m) /\ W.cell? ⟨w.heap.size,2,none⟩ = some (.int .i64 e) /\ W.cell? ⟨w.heap.size,3,none⟩ = some (.string ⟨s.toArray⟩) /\ W.cell? ⟨w.heap.size,4,none⟩ = some (.slice a2 kids.length c2) /\ W.cell? ⟨w.heap.size + 1,0,none⟩ = some (.int .i64 deep) /\ W.cell? ⟨w.heap.size + 1 + 1,0,none⟩ = some (.pointer (some ⟨g,0,none⟩)) /\ W.cell? ⟨g,0,none⟩ = some (.int .i64 M))
    (first | exact KB.out _ hB | exact KB.out _ hB.drew)
    (first | (go_at_call 64; with_reducible refine (HF.out _ (by first | exact hB | exact hB.drew)).mono ?_; rw [HO.out]; rintro e1 w1 ⟨rfl,hb1⟩; replace hB:=zac (by first | exact hB | exact hB.drew) hb1 lR) | (go_at_call 65; with_reducible refine (HQ.out _ (by first | exact hB | exact hB.drew)).mono ?_; rw [HKK.out]; rintro e1 w1 ⟨rfl,hb1⟩; replace hB:=zac (by first | exact hB | exact hB.drew) hb1 lR))
   obtain ⟨p0,p1,p2,p3,p4,p6,p7,p8⟩:=KB.out _ hB;have hkw:V.wfs kids:=hwf.2.2.2.2.2;have hkb:kids.length + V.bulks kids <= 4294967295:=by simp only [V.bulk] at hbk; omega
   have HCC:=Lib.hid (hC kids _ deep N g (w.heap.size + 1) (w.heap.size + 1 + 1) M _ hnk (HRk.out _ hB) hNg (hb0.below hB) (hbd0.below hB) (by omega) p7 (by omega) hkw hkb (hT0.out.below hB) hG (by omega) (by omega))
   go_wp2_with (go_at_call 66; refine HCC.out.mono ?_; rintro e1 w2 ⟨rfl,⟨L',hbx,hL'⟩,hk2⟩)
   go_ret;exact ⟨by rw [H.out]; simp,⟨L',hbx,fun hh => by rw [H.out] at hh; rw [hL' hh]; simp only [V.nodes]; omega⟩,(hK0.then hB).trans hk2⟩
theorem zeM {n:Nat} (hA:VIsA n) (x:V) (cs:List Value) (deep N g bd bl:Nat) (L:Int) (w:World) (hn:x.nodes <= n) (h:RdN N w x.d cs) (hNg:N <= g) (hbox:intBox w g L) (hbd:intBox w bd deep) (hbl:w.cell? ⟨bl,0,none⟩ = some (.pointer (some ⟨g,0,none⟩)))
  (hwf:x.wf) (hbk:x.bulk <= 4294967295) (hT:Tabs w) (hG:GlobN N) (hdeep:deep <= 1000) (hL:0 <= L /\ L <= 1000) :
  Calls Tryz.prog 67 #[.agg cs.toArray,.pointer (some ⟨bd,0,none⟩),.pointer (some ⟨bl,0,none⟩)] w fun e w' => e = .returned (.bool (!vGood (deep + 1) L x)) /\ (∃ L':Int,intBox w' g L' /\ (vGood (deep + 1) L x = true -> L' = L - x.nodes)) /\ Keep (· = g) w w':=by
 obtain ⟨k,m,e,s,a2,n2,c2,rfl⟩:=V.form h.rd;have hb1:=hbd.cell;have hz1:=hbd.lt;have hz2:bl < w.heap.size:=zba hbl;have hN:N <= w.heap.size:=by have:=hbox.lt; omega
 have hal:Below w.heap.size w (w.alloc (.cells #[.int .i64 k,.int .i64 m,.int .i64 e,.string ⟨s.toArray⟩,.slice a2 n2 c2] 32)):=(Below.refl _ _).alloc lR _;have HCC:=Lib.hid (hA x _ (deep + 1) N g L _ hn (h.below (hal.mono hN)) hNg (hbox.below hal) hwf hbk (hT.below hal) hG (by omega) hL)
 go_enter Tryz.func67,Tryz.ntmps67
 go_wp2_with (go_at_call 45; refine HCC.out.mono ?_; rintro e w1 ⟨rfl,hL',hk1⟩)
 go_ret;exact ⟨rfl,hL',(Keep.of_below hal).trans hk1⟩
theorem zfd (deep:Nat) (L:Int) (xs:List V) (k:Nat) (hk:k < xs.length) (h:vGoods deep L (xs.take k) = true) :
  vGoods deep L (xs.take (k + 1)) = vGood deep (L - V.nodess (xs.take k)) xs[k]:=by
 have hn:∀ (ls:List V) (x:V),V.nodess (ls ++ [x]) = V.nodess ls + x.nodes:=by
  intro ls x; induction ls with
  | nil => simp [V.nodess]
  | cons a ls ih => simp only [cons_append,V.nodess,ih]; omega
 unfold vGoods at h ⊢; unfold vGood
 rw [take_succ_eq_append_getElem hk,hn,V.rightsBy_all,all_append];rw [V.rightsBy_all] at h;simp only [Bool.and_eq_true,decide_eq_true_eq] at h;rw [h.1,Bool.true_and]
 congr 1
 ·simp
 ·exact decide_eq_decide.2 (by omega)
theorem vGoods_cut (deep:Nat) (L:Int) (xs:List V) (k:Nat) (h:vGoods deep L (xs.take k) = false):vGoods deep L xs = false:=by
 have hn:∀ (ls ms:List V),V.nodess (ls ++ ms) = V.nodess ls + V.nodess ms:=by
  intro ls ms; induction ls with
  | nil => simp [V.nodess]
  | cons a ls ih => simp only [cons_append,V.nodess,ih]; omega
 cases hk:vGoods deep L xs with
 | false => rfl
 | true =>
  exfalso;rw [<- take_append_drop k xs] at hk;unfold vGoods at h hk;rw [V.rightsBy_all,all_append,hn] at hk;rw [V.rightsBy_all] at h;simp only [Bool.and_eq_true,decide_eq_true_eq] at hk;rw [hk.1.1,decide_eq_true (by omega)] at h; cases h
theorem zeN {n:Nat} (hA:VIsA n) (xs:List V) (va:Value) (deep N g bd bl:Nat) (L:Int) (w:World) (hn:V.nodess xs <= n) (h:RdN N w (.sl 5 (V.ds xs)) [va]) (hNg:N <= g) (hbox:intBox w g L) (hbd:intBox w bd deep) (hbg:bd ≠ g) (hbl:w.cell? ⟨bl,0,none⟩ = some (.pointer (some ⟨g,0,none⟩))) (hlg:bl ≠ g)
  (hwf:V.wfs xs) (hbk:xs.length + V.bulks xs <= 4294967295) (hT:Tabs w) (hG:GlobN N) (hdeep:deep <= 1000) (hL:0 <= L /\ L <= 1000) :
  Calls Tryz.prog 87 #[va,.func (.func 67) #[] #[.pointer (some ⟨bd,0,none⟩),.pointer (some ⟨bl,0,none⟩)]] w fun e w' => (∃ r:Int,e = .returned (.int .i64 r) /\ decide (0 <= r) = !vGoods (deep + 1) L xs) /\ (∃ L':Int,intBox w' g L' /\ (vGoods (deep + 1) L xs = true -> L' = L - V.nodess xs)) /\ Keep (· = g) w w':=by
 have hN:N <= w.heap.size:=by have:=hbox.lt; omega
 have hng:∀ k,k < N -> ¬ k = g:=by intro k hk e; omega
 have hz1:=hbd.lt;have hz2:bl < w.heap.size:=zba hbl;have hlen:xs.length <= 4294967295:=by omega
 obtain ⟨a,c,rfl,hg⟩:=RepC.values h;obtain ⟨ok,hok⟩:∃ ok,vGoods (deep + 1) L xs = ok:=⟨_,rfl⟩;rw [hok];have HOK:=Lib.hid hok; clear hok
 obtain ⟨hL1,hL2⟩:=hL
 go_enter Tryz.func87,Tryz.ntmps87
 go_wp2
 go_loopw [8] (fun i wr => ∃ (k:Nat),k <= xs.length /\ i = .int .i64 k /\ intBox wr g (L - V.nodess (xs.take k)) /\ vGoods (deep + 1) L (xs.take k) = true /\ Keep (· = g) w wr) (fun i _ => xs.length - (intOf i).toNat)
 case atStart => exact ⟨0,Nat.zero_le _,rfl,by simpa [V.nodess] using hbox,by simp [vGoods,V.rightsBy,V.nodess,hL1],Keep.refl _ _⟩
 case round =>
  obtain ⟨k,hk,rfl,hbx,hgd,hkp⟩:=hrel;have HGD:=Lib.hid hgd;have hle:(V.nodess (xs.take k):Int) <= L:=by unfold vGoods at hgd; simp only [Bool.and_eq_true,decide_eq_true_eq] at hgd; exact hgd.2
  clear hgd;by_cases hlt:k < xs.length
  ·obtain ⟨_,_,b,o,rfl,hb,hcell⟩:=hg (by intro e; rw [e] at hlt; simp at hlt)
   obtain ⟨v0,v1,v2,v3,v4,hr,d0,d1,d2,d3,d4⟩:=hcell k hlt;clear hcell hg;obtain ⟨k1,k2,k3,s4,a6,n6,m6,hcs⟩:=V.formS hr;simp only [cons.injEq,and_true] at hcs;obtain ⟨rfl,rfl,rfl,rfl,rfl⟩:=hcs;have hbN:b < w.heap.size:=by omega
   have hbg':=hng b hb;rw [<- hkp.cell hbN hbg'] at d0 d1 d2 d3 d4;have hi1:(0:Int) <= k:=by omega
   have hi3:(k:Int) < xs.length:=by omega
   have hnk:xs[k].nodes <= n:=Nat.le_trans (V.nodes_get xs k hlt) hn;have HC:=Lib.hid (zeM hA xs[k] _ deep N g bd bl _ wr hnk (RdN.keep (N:=N) hr hkp hN hng) hNg hbx (hbd.keep hkp hbg) (by rw [hkp.cell hz2 hlg]; exact hbl) (V.wfs_get hwf k hlt) (V.bulk_get' hbk k hlt) (hT.keep hG hkp hN hng) hG hdeep (by omega));have HSN:=Lib.hid (zfd (deep + 1) L xs k hlt HGD.out)
   have hns:V.nodess (xs.take (k + 1)) = V.nodess (xs.take k) + xs[k].nodes:=by
    rw [take_succ_eq_append_getElem hlt]
    have hn:∀ (ls:List V) (x:V),V.nodess (ls ++ [x]) = V.nodess ls + x.nodes:=by
     intro ls x; induction ls with
     | nil => simp [V.nodess]
     | cons a ls ih => simp only [cons_append,V.nodess,ih]; omega
    exact hn _ _
   have HNS:=Lib.hid hns;clear hns hr hbx h hT hwf hbk hng hbox hbd hbl
   cases hgd:vGood (deep + 1) (L - V.nodess (xs.take k)) xs[k] with
   | true =>
    have HG:=Lib.hid hgd; clear hgd
    go_wp2_with (go_at_call 67; refine HC.out.mono ?_; rw [HG.out]; rintro e w1 ⟨rfl,⟨L',hbx1,hL'⟩,hk1⟩)
    go_roundw
    case rel => exact ⟨k + 1,by omega,by go_num,by rw [show L - (V.nodess (xs.take (k + 1)):Int) = L' by rw [hL' trivial,HNS.out]; omega]; exact hbx1,by rw [HSN.out,HG.out],hkp.trans hk1⟩
    case measure => simp [intOf]; omega
   | false =>
    have HG:=Lib.hid hgd; clear hgd
    have HF:=Lib.hid (show ok = false by rw [<- HOK.out]; exact vGoods_cut _ _ _ (k + 1) (by rw [HSN.out,HG.out]))
    go_wp2_with (go_at_call 67; refine HC.out.mono ?_; rw [HG.out]; rintro e w1 ⟨rfl,⟨L',hbx1,hL'⟩,hk1⟩)
    go_ret;exact ⟨⟨_,rfl,by rw [HF.out]; simp⟩,⟨L',hbx1,fun hh => by rw [HF.out] at hh; cases hh⟩,hkp.trans hk1⟩
  ·obtain rfl:k = xs.length:=by omega
   have h1:=HGD.out;rw [take_length] at h1 hbx;have HF:=Lib.hid (show ok = true by rw [<- HOK.out]; exact h1);clear h1;go_wp2;go_ret;exact ⟨⟨_,rfl,by rw [HF.out]; rfl⟩,⟨_,hbx,fun _ => rfl⟩,hkp⟩
theorem VIsC_of {n:Nat} (hA:VIsA n):VIsC n:=by
 intro xs va deep N g bd bl L w hn h hNg hbox hbd hbg hbl hlg hwf hbk hT hG hdeep hL;have HC:=Lib.hid (zeN hA xs va deep N g bd bl L w hn h hNg hbox hbd hbg hbl hlg hwf hbk hT hG hdeep hL)
 go_enter Tryz.func66,Tryz.ntmps66
 go_wp2_with (go_at_call 87; refine HC.out.mono ?_; rintro e w1 ⟨⟨r,rfl,hr⟩,hL',hk1⟩; have HR:=Lib.hid hr; clear hr)
 go_ret;exact ⟨by rw [<- HR.out]; rfl,hL',hk1⟩
theorem VIs_all:∀ n,VIsA n
 | 0 => fun x cs deep N g L w hn => absurd x.nodes_pos (by omega)
 | n + 1 => VIsA_of (VIsC_of (VIs_all n))
theorem zeO (x:V) (cs:List Value) (w:World) (h:Rd w x.d cs) (hwf:x.wf) (hbk:x.bulk <= 4294967295) (hT:Tabs w) :
  Calls Tryz.prog 28 #[.agg cs.toArray] w fun e w' => e = .returned (.bool x.ok) /\ Below w.heap.size w w':=by
 obtain ⟨k,m,e,s,a2,n2,c2,rfl⟩:=V.form h;obtain ⟨W0,hW0⟩:∃ W0,W0 = (w.alloc (.cells #[.int .i64 k,.int .i64 m,.int .i64 e,.string ⟨s.toArray⟩,.slice a2 n2 c2] 32)).alloc (.cells #[.int .i64 300] 3):=⟨_,rfl⟩;have HW:=Lib.hid hW0;have hA:Below w.heap.size w W0:=by rw [hW0]; exact ((Below.refl _ _).alloc lR _).alloc (by simp) _
 have hbx:intBox W0 (w.heap.size + 1) 300:=by
  rw [hW0]
  have:=zap (w.alloc (.cells #[.int .i64 k,.int .i64 m,.int .i64 e,.string ⟨s.toArray⟩,.slice a2 n2 c2] 32)) (.cells #[.int .i64 300] 3)
  simpa [intBox] using this
 have HC:=Lib.hid (VIs_all x.nodes x _ 0 w.heap.size (w.heap.size + 1) 300 W0 lR (h.rdN.below hA) (by omega) hbx hwf hbk (hT.below hA) ⟨hT.lt.1,hT.lt.2⟩ (by decide) (by decide));have hsz:W0.heap.size = w.heap.size + 2:=by rw [hW0]; simp
 clear hW0 h hbx
 go_enter Tryz.func28,Tryz.ntmps28
 go_wp2_with (go_at_call 45; rw [<- HW.out]; refine HC.out.mono ?_; rintro e w1 ⟨rfl,_,hk1⟩)
 go_ret;refine ⟨zal ?_,hA.trans (hk1.below (by omega) (fun k hk e => by omega))⟩;show vGood 0 300 x = _;rw [<- V.ok_impl]; unfold vGood; congr 1
 exact decide_eq_decide.2 (by omega)
end
section
variable {T:World -> Prop} {hT:Low ngl T}
theorem voki_fn (hTab:∀ w,T w -> Tabs w) (v:V) (hw:v.wf) (hb:v.bulk <= 4294967295):FnV (env T hT) 28 [.ag (vC v)] (.d (pB v.ok)):=by
 refine FnV.old rfl fun w C vs hF _ ht hlen hv => ?_
 match vs,hlen with
 | [a],_ =>
  have h0:=hv 0 _ _ rfl rfl;rw [<- V.pc_eq] at h0;obtain ⟨cs,rfl,h1⟩:=vRd hF (V.wfd v) h0;exact zeO v cs w h1 hw hb (hTab w ht)
theorem vok_fn (v:V) (hw:v.wf) (hb:v.bulk <= 4294967295):FnV (env T hT) 16 [.ag (vC v)] (.d (pB v.ok)):=by
 refine FnV.old rfl fun w C vs hF _ _ hlen hv => ?_
 match vs,hlen with
 | [a],_ =>
  have h0:=hv 0 _ _ rfl rfl;rw [<- V.pc_eq] at h0;obtain ⟨cs,rfl,h1⟩:=vRd hF (V.wfd v) h0;exact zeK v cs w h1 hw hb
end
section
variable {T:World -> Prop} {hT:Low ngl T}
attribute [local irreducible] po mw pt
theorem findK_lt (key:L8):∀ (l:List V) (i:Nat),0 <= findK key l i -> findK key l i + 1 < i + l.length
 | [],i,h => by simp only [findK] at h; omega
 | [_],i,h => by simp only [findK] at h; omega
 | a :: b :: r,i,h => by
  simp only [findK] at h ⊢
  split at h
  ·rename_i hh
   rw [if_pos hh]; simp only [length_cons]; omega
  ·rename_i hh
   rw [if_neg hh]
   have:=findK_lt key r (i + 2) h
   simp only [length_cons]; omega
theorem kidI_lt {v:V} {s:L8} (h:0 <= kidI v s):kidI v s < v.kids.length:=by
 unfold kidI at h ⊢;split
 ·rename_i h7
  rw [if_pos h7] at h;split
  ·assumption
  ·rename_i hh; rw [if_neg hh] at h; omega
 ·rename_i h7
  rw [if_neg h7] at h;split
  ·rename_i h8
   rw [if_pos h8] at h;split
   ·rename_i hf
    unfold findV at hf ⊢;rw [if_pos h8] at hf ⊢
    have:=findK_lt s v.kids 0 hf
    omega
   ·rename_i hh; rw [if_neg hh] at h; omega
  ·rename_i h8
   rw [if_neg h8] at h;split
   ·rename_i h9
    rw [if_pos h9] at h;split
    ·rename_i hh; omega
    ·rename_i hh; rw [if_neg hh] at h; omega
   ·rename_i h9; rw [if_neg h9] at h; omega
def atI:V -> List (L8) -> Option V
 | v,[] => some v
 | v,s :: r => if h:0 <= kidI v s then atI (v.kids[(kidI v s).toNat]'(by have:=kidI_lt h; omega)) r else none
def zC:List PC:=[pI 0,pI 0,pI 0,pS [],.sl 1 []]
def AtJ (v:V) (st:List (L8)) (m:Nat) (s:St):Prop :=
 ∃ (j:Nat) (x:V),j <= st.length /\ m = st.length - j /\ has s.tm [(2,.ref 0 0),(4,.ref 1 0),(9,.d (pSs st)),(10,.d (pI st.length)),(11,.d (pI j))] /\ s.bx = [vC x,zC] /\ x.bulk <= 4294967295 /\ atI v st = atI x (st.drop j)
def atR:Option V -> PV
 | some x => .tup [.ag (vC x),.d (pB true)]
 | none => .tup [.ag [pI 0,pI 0,pI 0,pS [],.sl 0 []],.d (pB false)]
theorem at_fn (hTen:∀ w,T w -> TenTab w) (hErr:∀ w,T w -> ErrTab w) (v:V) (st:List (L8)) (hb:v.bulk <= 4294967295) (hl:st.length <= 4294967295) (hs:∀ s ∈ st,s.length <= 2147483647):FnV (env T hT) 32 [.ag (vC v),.d (pSs st)] (atR (atI v st)):=by
 refine zbw (zag lk_i_at) (by show 2 <= 28; decide) fun B hB => ?_
 unfold m_i_at;refine mO ?_;refine zby (cs:=vC v) rfl ?_;refine mN ?_;refine zax (fun s => ∃ x:V,has s.tm [(2,.ref 0 0),(4,.ref 1 0)] /\ s.bx = [vC x,zC] /\ atI v st = some x) ?_ ?_
 ·refine mQ ?_
  refine zaK (n:=st.length) rfl rfl (zaE _) ?_;refine mN ?_;refine zab ?_;refine zaA (AtJ v st) st.length ⟨0,v,Nat.zero_le _,rfl,⟨rfl,rfl,rfl,rfl,rfl,trivial⟩,rfl,hb,by rw [drop_zero]⟩ ?_;rintro m tm bx nt live ⟨j,x,hj,rfl,ht,hbx,hxb,ha⟩;obtain ⟨tm1,rfl⟩:=zaf ht;simp only at hbx; subst hbx
  clear ht;refine mO ?_;refine po_b rfl rfl (fun p hp => ?_);refine zai ?_;refine zav ?_;refine zbM (p:=(j:Int) < st.length) hp rfl (fun him _ => ?_) (fun him _ => ?_)
  rotate_left
  ·refine zay ?_
   obtain rfl:j = st.length:=by omega
   rw [drop_length] at ha;exact ⟨x,⟨rfl,rfl,trivial⟩,rfl,ha⟩
  have hjl:j < st.length:=by omega
  have hdr:st.drop j = st[j] :: st.drop (j + 1):=drop_eq_getElem_cons hjl;have hkl:x.kids.length + V.bulks x.kids <= 4294967295:=by cases x; simp only [V.bulk] at hxb; simp only [V.kids]; omega
  rw [hdr] at ha;refine zam ?_;refine zav (zab (zav (zae ?_)));refine za9 (es:=pSr st) (e:=[pS st[j]]) rfl rfl rfl ⟨by omega,by rw [Int.toNat_natCast]; exact zb6 hjl⟩ rfl ?_;(iterate 2 refine mS ?_);refine mN ?_;refine mO ?_;refine zaN (p:=0) (cs:=vC x) rfl rfl rfl rfl ?_;refine mS ?_;refine zao (args:=[.ag (vC x),.d (pS st[j])]) (congrArg (fun l => some [PV.ag l,PV.d (pS st[j])]) (zcr x)) (kidAt_fn (T:=T) (hT:=hT) hTen hErr x st[j] (by omega) (hs _ (getElem_mem hjl))) ?_;refine mN ?_;refine mM ?_;refine mS ?_;by_cases hk:0 <= kidI x st[j]
  ·have hlt:=kidI_lt hk
   have hkn:(kidI x st[j]).toNat < x.kids.length:=by omega
   refine zaq rfl rfl (decide_eq_false (by omega)) ?_;refine mK ?_;refine zae ?_;(iterate 3 refine mS ?_);refine za9 (es:=vK x.kids) (e:=vC x.kids[(kidI x st[j]).toNat]) rfl rfl rfl ⟨hk,zbT hkn⟩ rfl ?_;refine mS ?_;refine zaC (p:=0) (cs:=vC x.kids[(kidI x st[j]).toNat]) rfl rfl rfl rfl rfl rfl ?_;refine mN ?_;refine zae ?_;refine zan (n:=((j + 1:Nat):Int)) rfl rfl rfl (by omega) (by omega) ?_;refine mN ?_;refine ⟨st.length - (j + 1),by omega,j + 1,x.kids[(kidI x st[j]).toNat],hjl,rfl,⟨rfl,rfl,rfl,rfl,rfl,trivial⟩,rfl,V.bulk_get hkl _ hkn,?_⟩;rw [ha,atI,dif_pos hk]
  ·refine zah rfl rfl (decide_eq_true (by omega)) ?_
   refine mT ?_;refine mQ ?_;refine zaC (p:=1) (cs:=zC) rfl rfl rfl rfl rfl rfl ?_;refine mN ?_;refine zad ⟨.inr rfl,[.ag zC,.d (pB false)],rfl,?_⟩;rw [ha,atI,dif_neg hk]; rfl
 rintro tm bx nt live ⟨x,ht,hbx,ha⟩;obtain ⟨tm1,rfl⟩:=zaf ht;simp only at hbx; subst hbx
 refine mO ?_;refine zaN (p:=0) (cs:=vC x) rfl rfl rfl rfl ?_;refine zaC (p:=1) (cs:=vC x) rfl rfl rfl rfl rfl rfl ?_;refine mN ?_;refine zad ⟨.inr rfl,[.ag (vC x),.d (pB true)],rfl,?_⟩;rw [ha];exact congrArg (fun l => some (PV.tup [.ag l,.d (pB true)])) (zcr x)
end
section
theorem ngl_of {w:World} (h:w.ShapedOpen Tryz.prog):ngl <= w.heap.size:=by
 have hlt:ngl < (begin Tryz.prog (fun _ _ => 0) default).world.heap.size:=of_decide_eq_true (by unfold ngl; kernel_rfl);obtain ⟨o,_,h2,_⟩:=h.2 ngl lR hlt;exact Nat.le_of_lt (zak h2)
section
variable {T:World -> Prop} {hT:Low ngl T} {w:World} {hn:ngl <= w.heap.size}
end
theorem FnV.bool {E:Env} {f:Nat} {args:List PV} {b:Bool} (h:FnV E f args (.d (pB b))) {w:World} (hng:E.NG <= w.heap.size) (hT:E.T w) {vs:List Value} (hl:vs.length = args.length) (hv:∀ (j:Nat) (x:PV) (y:Value),args[j]? = some x -> vs[j]? = some y -> RpV (C0 w) w x y) :
  Calls E.P f vs.toArray w fun e w' => e = .returned (.bool b) /\ Below w.heap.size w w':=by
 refine (Fn.use h hng hT hl hv).mono ?_;rintro e w' ⟨u,x,bx,live,C',rfl,h1,_,h3,h4,_⟩
 have hx:x = .d (pB b):=by
  cases x with
  | d c =>
   simp only [PV.dat,sI,PV.d.injEq] at h1
   cases c with
   | v y => simp only [PC.er] at h1; rw [h1]
   | sl t es => simp [PC.er,pB] at h1
   | bld p T t U => simp [PC.er,pB] at h1
   | anyp => simp [PC.er,pB] at h1
   | row => simp [PC.er,pB] at h1
  | _ => simp [PV.dat] at h1
 subst hx
 cases h3 with
 | d _ _ h => cases h; exact ⟨rfl,h4⟩
end
section
variable {T:World -> Prop} {hT:Low ngl T}
attribute [local irreducible] po mw pt
theorem pS_invA {C:Cx} {W:World} {l:L8} {y:Value} (h:RpV C W (.d (pS l)) y):y = .string ⟨l.toArray⟩:=by
 cases h with
 | d _ _ h => cases h; rfl
theorem zdV (hTP:∀ w,T w -> TP w) (s:L8) (hs:s.length <= 2147483647):FnV (env T hT) 8 [.d (pS s)] (.tup [.d (pSs (gpL (getPS s))),.d (pB (gpB (getPS s)))]):=by
 refine FnV.oldSB fun w C vs hF _ ht hlen hv => ?_
 match vs,hlen with
 | [x],_ =>
  have h1:=pS_invA (hv 0 _ _ rfl rfl);subst h1;obtain ⟨⟨h1,_⟩,m,h2⟩:=hTP w ht;rw [<- getP_same];exact zeF s m w hs h1 h2
def z0V:V:=.mk 0 0 0 [] []
def atO (v:V) (st:List (L8)):Option V:=if stepsOk st = true then atI v st else none
theorem atR_eq (o:Option V):atR o = .tup [.ag (vC (o.getD z0V)),.d (pB o.isSome)]:=by cases o <;> rfl
theorem atI_sub {Q:V -> Prop} (hQ:∀ v,Q v -> ∀ k ∈ v.kids,Q k):∀ (st:List (L8)) (v x:V),Q v -> atI v st = some x -> Q x
 | [],v,x,hv,h => by rw [atI] at h; simp only [sI] at h; subst h; exact hv
 | s :: r,v,x,hv,h => by
  rw [atI] at h
  split at h
  ·exact atI_sub hQ r _ x (hQ v hv _ (getElem_mem _)) h
  ·cases h
theorem V.wf_kids {v:V} (h:v.wf /\ v.bulk <= 1048576):∀ k ∈ v.kids,k.wf /\ k.bulk <= 1048576:=by
 intro k hk;obtain ⟨i,hi,rfl⟩:=List.getElem_of_mem hk;have hkl:v.kids.length + V.bulks v.kids <= 1048576:=by have:=h.2; cases v; simp only [V.bulk] at this; simp only [V.kids]; omega
 exact ⟨V.wf_kid h.1 i hi,V.bulk_get hkl i hi⟩
theorem atT_fn (hTP:∀ w,T w -> TP w) (v:V) (st:List (L8)) (hw:v.wf) (hb:v.bulk <= 1048576) (hl:st.length <= 4294967295) (hs:∀ s ∈ st,s.length <= 2147483647):FnV (env T hT) 15 [.ag (vC v),.d (pSs st)] (atR (atO v st)):=by
 refine zbw (zag lk_i_At) (by show 2 <= 21; decide) fun B hB => ?_
 unfold m_i_At;refine mO ?_;refine zby (cs:=vC v) rfl ?_;refine mN ?_;refine mM ?_;refine mS ?_;refine zao (args:=[.d (pSs st)]) (congrArg (fun r => some [PV.d (.sl 0 r)]) (zaR st)) (areSt_fn (T:=T) (hT:=hT) hTP st hl (fun s h => by have:=hs s h; omega)) ?_;unfold atO
 cases hso:stepsOk st with
 | false =>
  refine mT ?_;refine mQ ?_;refine zaC (p:=1) (cs:=zC) rfl rfl rfl rfl rfl rfl ?_;refine mN ?_
  exact zad ⟨.inr rfl,[.ag zC,.d (pB false)],rfl,rfl⟩
 | true =>
  refine mK ?_;refine mO ?_;refine zaN (p:=0) (cs:=vC v) rfl rfl rfl rfl ?_;refine mS ?_
  refine zao (args:=[.ag (vC v),.d (pSs st)]) (by
   show some [PV.ag (erL (vC v)),PV.d (.sl 0 (erLL (pSr st)))] = _;rw [zcr,zaR]; rfl) (at_fn (T:=T) (hT:=hT) (fun w hw => (hTP w hw).1.2.1) (fun w hw => (hTP w hw).1.2.2) v st (by omega) hl hs) ?_
  rw [if_pos rfl,atR_eq];obtain ⟨x,hx⟩:∃ x,(atI v st).getD z0V = x:=⟨_,rfl⟩
  have hxw:x.wf /\ x.bulk <= 1048576:=by
   cases ha:atI v st with
   | none => rw [ha] at hx; subst hx; exact ⟨by show V.wf (.mk 0 0 0 [] []); simp [V.wf,V.wfs,i64ok,strok],by decide⟩
   | some y => rw [ha] at hx; simp only [Option.getD_some] at hx; subst hx; exact atI_sub (Q:=fun v => v.wf /\ v.bulk <= 1048576) (fun v h => V.wf_kids h) st v _ ⟨hw,hb⟩ ha
  rw [hx];generalize (atI v st).isSome = ok;(iterate 3 refine mS ?_);refine po_nw (cs:=vC x) rfl rfl rfl rfl ?_;refine mN ?_;refine mO ?_;refine zaN (p:=2) (cs:=vC x) rfl rfl rfl rfl ?_;refine zao (zcN x) (own2_fn (T:=T) (hT:=hT) x hxw.1 hxw.2) ?_;refine mS ?_;refine zaC (p:=1) (cs:=vC x) rfl rfl rfl rfl rfl rfl ?_;refine mN ?_;exact zad ⟨.inr rfl,[.ag (vC x),.d (pB ok)],rfl,congrArg (fun l => some (PV.tup [.ag l,.d (pB ok)])) (zcr x)⟩
/-! ### Paths -/
def Rgt (v:V):Prop:=∃ d:Int,V.rightBy pairsOk d v = true
theorem Rgt.all:∀ v,Rgt v -> v.text.length <= 100000 /\ (v.kids ≠ [] -> v.kind = 7 \/ v.kind = 8 \/ v.kind = 9) /\ ∀ k ∈ v.kids,Rgt k:=by
 rintro ⟨k,n,e,s,kids⟩ ⟨d,h⟩;simp only [V.rightBy,Bool.and_eq_true,V.selfBy] at h;obtain ⟨h1,_,h2⟩:=h;rw [V.rightsBy_all,all_eq_true] at h1;refine ⟨?_,?_,fun x hx => ⟨_,h1 x hx⟩⟩
 ·show s.length <= 100000
  split at h2
  ·simp at h2; simp [h2]
  split at h2
  ·simp at h2; simp [h2]
  split at h2
  ·simp at h2; simp [h2]
  split at h2
  ·simp at h2; omega
  split at h2
  ·simp at h2; omega
  split at h2
  ·simp at h2; simp [h2]
  split at h2
  ·simp at h2; simp [h2]
  split at h2
  ·simp at h2; simp [h2]
  ·cases h2
 ·intro hk
  have hk:kids ≠ []:=hk;show k = 7 \/ k = 8 \/ k = 9
  split at h2
  ·simp [hk] at h2
  split at h2
  ·simp [hk] at h2
  split at h2
  ·simp [hk] at h2
  split at h2
  ·simp [hk] at h2
  split at h2
  ·simp [hk] at h2
  split at h2
  ·exact .inl ‹_›
  split at h2
  ·exact .inr (.inl ‹_›)
  split at h2
  ·exact .inr (.inr ‹_›)
  ·cases h2
def pthV (v:V):List (L8):=if v.ok then pthS v.nodes v [] else []
theorem zdW {v:V} (h:v.ok = true):V.rightBy pairsOk 12 v = true /\ v.nodes <= 300:=by
 unfold V.ok at h;simp only [Bool.and_eq_true,decide_eq_true_eq] at h;exact h
theorem pathsS_fn (v:V) (hw:v.wf) (hb:v.bulk <= 4294967295):FnV (env T hT) 14 [.ag (vC v)] (.d (pSs (pthV v))):=by
 refine zbw (zag lk_s_Paths) (by show 1 <= 10; decide) fun B hB => ?_
 unfold m_s_Paths;refine mO ?_;refine zby (cs:=vC v) rfl ?_;refine mN ?_;refine mM ?_;refine zaN (p:=0) (cs:=vC v) rfl rfl rfl rfl ?_;refine zao (zcN v) (vok_fn (T:=T) (hT:=hT) v hw hb) ?_;unfold pthV
 cases hk:v.ok with
 | false =>
  refine mT ?_;refine mO ?_;refine zaz (es:=[]) rfl ?_;refine mN ?_
  exact zad ⟨.inr rfl,[.d (.sl 2 [])],rfl,rfl⟩
 | true =>
  obtain ⟨hr,hn⟩:=zdW hk;refine mK ?_;refine mO ?_;refine zaN (p:=0) (cs:=vC v) rfl rfl rfl rfl ?_;refine zaz (es:=[]) rfl ?_;refine zao (args:=[.ag (vC v),.d (pSs [])]) (congrArg (fun l => some [PV.ag l,PV.d (pSs [])]) (zcr v)) (l08_fn (T:=T) (hT:=hT) (P:=Rgt) (fun v h => ⟨(Rgt.all v h).1,(Rgt.all v h).2.2⟩) v.nodes v [] lR (by omega) ⟨_,hr⟩ (by simp only [length_nil]; omega) (fun s h => by cases h)) ?_;refine mN ?_;exact zad ⟨.inr rfl,[.d (pSs (pthS v.nodes v []))],rfl,congrArg (fun r => some (PV.d (.sl 0 r))) (zaR _)⟩
theorem pathsI_fn (hTP:∀ w,T w -> TP w) (v:V) (hw:v.wf) (hb:v.bulk <= 4294967295):FnV (env T hT) 11 [.ag (vC v)] (.d (pSs (pthV v))):=by
 refine zbw (zag lk_i_Paths) (by show 1 <= 8; decide) fun B hB => ?_
 unfold m_i_Paths;refine mO ?_;refine zby (cs:=vC v) rfl ?_;refine mN ?_;refine mM ?_;refine zaN (p:=0) (cs:=vC v) rfl rfl rfl rfl ?_;refine zao (zcN v) (voki_fn (T:=T) (hT:=hT) (fun w hw => (hTP w hw).1.1) v hw hb) ?_;unfold pthV
 cases hk:v.ok with
 | false =>
  refine mT ?_;refine mP ?_
  exact zad ⟨.inr rfl,[.d (.sl 1 [])],rfl,rfl⟩
 | true =>
  obtain ⟨hr,hn⟩:=zdW hk;refine mK ?_;refine mO ?_;refine zaN (p:=0) (cs:=vC v) rfl rfl rfl rfl ?_;refine po_g rfl (FnG.liftR (ze8 (T:=T) (hT:=hT) hTP (P:=Rgt) Rgt.all v.nodes v [] 1 [] 1 2 [] lR (by omega) ⟨_,hr⟩ (by simp only [length_nil]; omega) (fun s h => by cases h) (by simp only [length_nil]; omega) (fun _ => rfl) (.inl rfl) (Nat.le_refl 2)) ⟨vlw (zcr _),zey [] 1,zey [] 1,trivial⟩) ?_;rintro x b n4 l4 ⟨x0,b0,rfl,rfl,hlw,q4,rfl,hq4,hq42,hq4n⟩;rw [show ∀ k,PV.shB k (.d (.sl q4 (pSr ([] ++ pthS v.nodes v [])))) = .d (.sl q4 (pSr (pthS v.nodes v []))) from fun k => congrArg PV.d (shB_id hlw)];refine mN ?_;exact zad ⟨.inr rfl,[.d (.sl q4 (pSr (pthS v.nodes v [])))],rfl,congrArg (fun r => some (PV.d (.sl 0 r))) (zaR _)⟩
end
section
theorem ixI_itoa {i:Nat} (h:i <= 999999):ixI (Lib.itoa (i:Int)) = i:=by
 obtain ⟨h1,h2⟩:=rd_yes (n:=(i:Int)) (s:=Lib.itoa i) (by unfold i64ok; omega) rfl;unfold ixI;rw [h1,h2,if_pos ⟨rfl,by omega,by omega⟩]
theorem zdb {key:L8} {l:List V} {j:Nat} (hj:2 * j + 1 < l.length) (hm:(l[2 * j]'(by omega)).kind = 5 /\ (l[2 * j]'(by omega)).text = key) (hno:∀ a,(h:a < j) -> ¬ ((l[2 * a]'(by omega)).kind = 5 /\ (l[2 * a]'(by omega)).text = key)) :
  ∀ m a:Nat,a <= j -> m = j - a -> findK key (l.drop (2 * a)) (2 * a) = ((2 * j:Nat):Int)
 | 0,a,h1,h2 => by
  obtain rfl:a = j:=by omega
  rw [zdQ hj,if_pos hm]
 | m + 1,a,h1,h2 => by
  have hlt:a < j:=by omega
  rw [zdQ (by omega),if_neg (hno a hlt)];exact zdb hj hm hno m (a + 1) (by omega) (by omega)
theorem key_mark {q:List V -> Bool} {d:Int} {x:V} (h:V.rightBy q d x = true) (hk:x.kind = 5):x.mark = (5,0,x.text):=by
 have h1:=V.key_plain h (by unfold isKeyK; rw [hk]; rfl);obtain ⟨k,n,e,s,kids⟩:=x;simp only [V.kind] at hk; subst hk
 simp only [V.rightBy,Bool.and_eq_true,V.selfBy] at h;have h2:=h.2.2;simp at h2;simp only [V.mark,V.kind,V.num,V.text,h2.1]
theorem rgt_facts {d:Int} {v:V} (hv:V.rightBy pairsOk d v = true):(v.kind = 9 -> v.kids.length = 1) /\ (v.kind = 8 -> ((odds v.kids).map V.mark).Nodup) /\ (v.kids ≠ [] -> v.kind = 7 \/ v.kind = 8 \/ v.kind = 9) /\ ∀ k ∈ v.kids,V.rightBy pairsOk (d - 1) k = true:=by
 obtain ⟨k,n,e,t,kids⟩:=v;simp only [V.rightBy,Bool.and_eq_true] at hv;obtain ⟨hks,_,hs⟩:=hv;rw [V.rightsBy_all,all_eq_true] at hks;refine ⟨fun h => ?_,fun h => ?_,fun hk => ?_,hks⟩
 ·have h:k = 9:=h
  subst h;simp [V.selfBy] at hs;exact hs.2.2.2
 ·have h:k = 8:=h
  subst h;simp [V.selfBy,pairsOk,uniq] at hs;exact hs.2.2.2.1.2
 ·have hk:kids ≠ []:=hk
  show k = 7 \/ k = 8 \/ k = 9;by_cases h7:k = 7
  ·exact .inl h7
  by_cases h8:k = 8
  ·exact .inr (.inl h8)
  by_cases h9:k = 9
  ·exact .inr (.inr h9)
  simp [V.selfBy,h9,h8,h7,hk] at hs
theorem kid_step {d:Int} {v:V} (hv:V.rightBy pairsOk d v = true) {i:Nat} (hi:i < v.kids.length) (hl:v.kids.length <= 300) {s:L8} (h:stepOf v i = some s):kidI v s = i:=by
 obtain ⟨f9,f8,fk,hks⟩:=rgt_facts hv;have hne:v.kids ≠ []:=fun h => by rw [h] at hi; exact absurd hi (Nat.not_lt_zero _)
 unfold stepOf at h;unfold kidI;by_cases h9:v.kind = 9
 ·rw [if_pos h9] at h
  simp only [sI] at h; subst h
  have:=f9 h9
  rw [if_neg (by omega),if_neg (by omega),if_pos h9,if_pos ⟨rfl,by omega⟩]; omega
 rw [if_neg h9] at h;by_cases h8:v.kind = 8
 ·rw [if_pos h8] at h
  by_cases hev:i % 2 = 0
  ·rw [if_pos hev] at h; cases h
  rw [if_neg hev,getElem?_eq_getElem (show i - 1 < v.kids.length by omega)] at h;simp only at h
  split at h
  ·rename_i h5
   simp only [sI] at h;have hnd:=f8 h8;obtain ⟨j,hj⟩:∃ j,i = 2 * j + 1:=⟨i / 2,by omega⟩;have e1:i - 1 = 2 * j:=by omega
   have h5':(v.kids[2 * j]'(by omega)).kind = 5:=by simpa only [e1] using h5
   have ht':(v.kids[2 * j]'(by omega)).text = s:=by simpa only [e1] using h
   have hmk:∀ a,(ha:2 * a < v.kids.length) -> v.kids[2 * a].kind = 5 -> v.kids[2 * a].mark = (5,0,v.kids[2 * a].text):=fun a ha hk => key_mark (hks _ (getElem_mem ha)) hk
   have hf:findV v s = ((2 * j:Nat):Int):=by
    unfold findV;rw [if_pos h8]
    have:=zdb (key:=s) (l:=v.kids) (j:=j) (by omega) ⟨h5',ht'⟩ (fun a ha hm => by
     have ea:(odds v.kids)[a]'(by rw [zaF]; omega) = v.kids[2 * a]'(by omega):=zcv v.kids a (by omega);have ej:(odds v.kids)[j]'(by rw [zaF]; omega) = v.kids[2 * j]'(by omega):=zcv v.kids j (by omega);have hla:a < ((odds v.kids).map V.mark).length:=by rw [length_map,zaF]; omega
     have hlj:j < ((odds v.kids).map V.mark).length:=by rw [length_map,zaF]; omega
     have heq:((odds v.kids).map V.mark)[a] = ((odds v.kids).map V.mark)[j]:=by
      rw [getElem_map,getElem_map,ea,ej,hmk a (by omega) hm.1,hmk j (by omega) h5',hm.2,ht']
     have:=(List.getElem_inj hnd).1 heq
     omega) j 0 (Nat.zero_le _) (by omega)
    simpa using this
   rw [if_neg (by omega),if_pos h8,if_pos (by rw [hf]; omega),hf]; omega
  ·cases h
 rw [if_neg h8] at h;simp only [sI] at h; subst h
 have h7:v.kind = 7:=by rcases fk hne with h | h | h <;> omega
 rw [if_pos h7,ixI_itoa (by omega),if_pos (by omega)]
theorem atI_some {v:V} {s:L8} {r:List (L8)} {i:Nat} (h:kidI v s = i) (hi:i < v.kids.length):atI v (s :: r) = atI v.kids[i] r:=by
 rw [atI,dif_pos (by omega)]
 congr 1
 simp only [h,Int.toNat_natCast]
theorem kids_nodes {v:V} {i:Nat} (hi:i < v.kids.length):v.kids[i].nodes + v.kids.length <= v.nodes:=by
 have key:∀ (l:List V) (i:Nat) (h:i < l.length),l[i].nodes + l.length <= V.nodess l + 1:=by
  intro l
  induction l with
  | nil => intro i h; simp at h
  | cons x l ih =>
   intro i h;have hx:=x.nodes_pos
   have hl:l.length <= V.nodess l:=by
    clear ih h
    induction l with
    | nil => exact Nat.zero_le _
    | cons y l ih => have:=y.nodes_pos; simp only [length_cons,V.nodess]; omega
   cases i with
   | zero => simp only [getElem_cons_zero,length_cons,V.nodess]; omega
   | succ i =>
    simp only [length_cons] at h
    have:=ih i (by omega)
    simp only [getElem_cons_succ,length_cons,V.nodess]; omega
 obtain ⟨k,n,e,t,kids⟩:=v
 have:=key kids i hi
 simp only [V.kids,V.nodes]; omega
theorem pthS_at:∀ (n:Nat) (d:Int) (v:V) (st:List (L8)) (p:L8),V.rightBy pairsOk d v = true -> v.nodes <= 300 -> p ∈ pthS n v st -> ∃ more,p = putPath (st ++ more) /\ (atI v more).isSome = true
 | 0,_,_,_,_,_,_,h => by cases h
 | n + 1,d,v,st,p,hv,hn,h => by
  rw [pthS] at h
  rcases mem_cons.1 h with rfl | h
  ·exact ⟨[],by rw [append_nil],by rw [atI]; rfl⟩
  ·obtain ⟨l,hl,hp⟩:=List.mem_flatten.1 h
   obtain ⟨i,hi,rfl⟩:=mem_map.1 hl;rw [mem_range] at hi;have hkn:=kids_nodes hi;unfold pthG at hp;rw [getElem?_eq_getElem hi] at hp
   cases hs:stepOf v i with
   | none => rw [hs] at hp; cases hp
   | some s =>
    rw [hs] at hp;simp only at hp
    have hkr:V.rightBy pairsOk (d - 1) v.kids[i] = true:=by
     obtain ⟨k,m,e,t,kids⟩:=v;simp only [V.rightBy,Bool.and_eq_true] at hv
     have:=hv.1
     rw [V.rightsBy_all,all_eq_true] at this;exact this _ (getElem_mem hi)
    obtain ⟨more,rfl,hat⟩:=pthS_at n (d - 1) v.kids[i] (st ++ [s]) p hkr (by have:=v.kids[i].nodes_pos; omega) hp;exact ⟨s :: more,by rw [append_assoc]; rfl,by rw [atI_some (kid_step hv hi (by omega) hs) hi]; exact hat⟩
end
section
def m_s_l01Bent:M:=so [⟨some 4,.mv (.c (.string ⟨[].toArray⟩)),none,[]⟩] (so [qm 6 0,qm 7 1,qo 8 (.lens 7),qo 9 (.bin .add false 8 (ci 1)),qc 10 18 [6,9] 1,qm 5 10] (.seq (so [qm 11 0,qc 12 18 [11,ci 8] 1] (.block 0 (so [qo 14 (.bin .eql false 12 (ci 0)),qm 13 14] (.cond 13 (so [qm 15 1,qm 16 5,qo 17 (.slcs 15 none (some 16)),qm 4 17] .ret) (so [qo 19 (.bin .eql false 12 (ci 1)),qm 18 19] (.cond 18 (so [qm 20 1,qm 21 5,qo 22 (.slcs 20 none (some 21)),qm 23 0,qm 27 1,qm 28 5,qo 29 (.slcs 27 (some 28) none),⟨some 24,.lit 1 [.c (.string ⟨[48].toArray⟩),.c (.string ⟨[32].toArray⟩),.c (.string ⟨[255].toArray⟩),.c (.string ⟨[128].toArray⟩),.c (.string ⟨[34].toArray⟩),.c (.string ⟨[92].toArray⟩),.c (.string ⟨[97].toArray⟩),.c (.string ⟨[44].toArray⟩)],none,[]⟩,qc 25 20 [23,24] 0,qo 26 (.bin .add false 22 25),qo 30 (.bin .add false 26 29),qm 4 30] .ret) (so [qo 32 (.bin .eql false 12 (ci 2)),qm 31 32] (.cond 31 (so [qm 33 5,qm 34 1,qo 35 (.lens 34),qo 36 (.bin .lss false 33 35)] (.cond 36 (so [qm 37 1,qm 38 5,qo 39 (.slcs 37 none (some 38)),qm 40 0,qm 44 1,qm 45 5,qo 46 (.bin .add false 45 (ci 1)),qo 47 (.slcs 44 (some 46) none),⟨some 41,.lit 1 [.c (.string ⟨[48].toArray⟩),.c (.string ⟨[192].toArray⟩),.c (.string ⟨[0].toArray⟩),.c (.string ⟨[57].toArray⟩),.c (.string ⟨[93].toArray⟩)],none,[]⟩,qc 42 20 [40,41] 0,qo 43 (.bin .add false 39 42),qo 48 (.bin .add false 43 47),qm 4 48] .ret) .skip)) .skip)))))))) (so [qm 49 1,qm 4 49] .ret)))
theorem zeP:look Tryz.prog 25 = some (50,m_s_l01Bent,[.tm 4]):=by kernel_rfl
end
section
variable {T:World -> Prop} {hT:Low ngl T}
attribute [local irreducible] po mw pt
/-! ### a bent text -/
def BnR (b:L8) (m nt:Nat) (live:List Nat) (x:PV) (bx:LP PC) (n:Nat) (l:List Nat):Prop:=∃ c' rest,bx = c' :: rest /\ x.lw 0 /\ lwL 0 c' /\ Cu b c' /\ QT (fun r => r.length <= m) nt live x n l
theorem bnR_of {b:L8} {m nt n:Nat} {live l:List Nat} {c:List PC} {rest:LP PC} {r:L8} (hc:Cu b c) (hN:NR nt live n l []) (hr:r.length <= m):BnR b m nt live (.d (pS r)) (c :: rest) n l:=⟨c,rest,rfl,trivial,hc.lw,hc,r,rfl,hr,hN⟩
def BnI (b s:L8) (nt:Nat) (live:List Nat) (st:St):Prop:=∃ c:List PC,Cu b c /\ has st.tm [(1,.d (pS s))] /\ st.bx = [c] /\ NR nt live st.nt st.live []
theorem bent_drw {b:L8} (hb:b.length <= 2147483647) (s:L8) (hs:s.length <= 2147483647):Drw (env T hT) b 25 [.d (pS s)] (QT fun r => r.length <= s.length + 1):=by
 rintro c nt live hc hn;refine zaO (R:=BnR b (s.length + 1) nt live) (zag zeP) (by show 2 <= 50; decide) fun B hB' => ?_
 unfold m_s_l01Bent;refine mP ?_;refine mO ?_;(iterate 2 refine mS ?_);refine po_s (v:=.d (pI s.length)) rfl rfl rfl ?_;refine zan (n:=((s.length + 1:Nat):Int)) rfl rfl rfl (by omega) (by omega) ?_;refine po_g rfl ((zaG (T:=T) (hT:=hT) hb ((s.length + 1:Nat):Int)).use ⟨trivial,trivial⟩ hc hn (p:=0) rfl) ?_;rintro x bx n1 l1 ⟨c1,rfl,hc1,i,rfl,i0,i1,hN⟩;obtain ⟨k,rfl⟩:∃ k:Nat,i = k:=⟨i.toNat,by omega⟩;have hk:k <= s.length:=by omega
 refine mN ?_;refine zax (BnI b s nt live) ?_ ?_
 ·refine mQ ?_
  refine po_g rfl ((zaG (T:=T) (hT:=hT) hb 8).use ⟨trivial,trivial⟩ hc1 (hN.n2 hn) (p:=0) rfl) ?_;rintro x bx n5 l5 ⟨c5,rfl,hc5,r,rfl,r0,r1,hN5⟩;have hN:=hN.pass hN5;have hn5:=hN.n2 hn;refine zai ?_;refine zab ?_;refine mO ?_;by_cases k0:r = 0
  ·refine zah rfl rfl (beq_iff_eq.2 k0) ?_
   refine mT ?_;refine mO ?_;(iterate 2 refine mS ?_);refine zb8 (l:=s) (a:=0) (b:=k) (rs:=s.take k) rfl rfl rfl (zaS (i:=(k:Int)) rfl rfl) ⟨Nat.zero_le _,hk⟩ (by simp) ?_;refine mN ?_;exact zad ⟨.inr rfl,[.d (pS (s.take k))],rfl,bnR_of hc5 hN (by rw [length_take]; omega)⟩
  refine zaq rfl rfl (beq_eq_false_iff_ne.2 k0) ?_;refine mF ?_;refine mO ?_;by_cases k1:r = 1
  ·refine zah rfl rfl (beq_iff_eq.2 k1) ?_
   refine mT ?_;refine mO ?_;(iterate 2 refine mS ?_);refine zb8 (l:=s) (a:=0) (b:=k) (rs:=s.take k) rfl rfl rfl (zaS (i:=(k:Int)) rfl rfl) ⟨Nat.zero_le _,hk⟩ (by simp) ?_;(iterate 3 refine mS ?_);refine zb8 (l:=s) (a:=k) (b:=s.length) (rs:=s.drop k) rfl rfl (zaS (i:=(k:Int)) rfl rfl) rfl ⟨hk,lR⟩ (by rw [<- length_drop,take_length]) ?_;refine zaz rfl ?_;refine po_g rfl ((zbY (T:=T) (hT:=hT) hb (fun s => decide (s.length <= 1)) rfl (by show 0 < 8; decide)).use ⟨by simp only [PV.lw,PC.lw]; exact zcb (p:=fun s => decide (s.length <= 1)) rfl,trivial⟩ hc5 (by omega) (p:=0) rfl) ?_;rintro x bx n6 l6 ⟨c6,rfl,hc6,r6,rfl,hr6,hN6⟩;have hr6:=of_decide_eq_true hr6;refine zdn (la:=s.take k) (lb:=r6) rfl rfl rfl (by rw [length_take]; omega) ?_;refine zdn (la:=s.take k ++ r6) (lb:=s.drop k) rfl rfl rfl (by rw [length_append,length_take,length_drop]; omega) ?_
   refine mN ?_;exact zad ⟨.inr rfl,[.d (pS (s.take k ++ r6 ++ s.drop k))],rfl,bnR_of hc6 (hN.up.pass hN6) (by rw [length_append,length_append,length_take,length_drop]; omega)⟩
  refine zaq rfl rfl (beq_eq_false_iff_ne.2 k1) ?_;refine mF ?_;refine mO ?_;by_cases k2:r = 2
  ·refine zah rfl rfl (beq_iff_eq.2 k2) ?_
   refine mT ?_;refine mO ?_;(iterate 2 refine mS ?_);refine po_s (v:=.d (pI s.length)) rfl rfl rfl ?_;refine po_b rfl rfl (fun p hp => ?_);refine zai ?_;refine zbM (p:=(k:Int) < s.length) hp rfl (fun him _ => ?_) (fun him _ => ?_)
   ·have hk1:k + 1 <= s.length:=by omega
    refine mO ?_;(iterate 2 refine mS ?_);refine zb8 (l:=s) (a:=0) (b:=k) (rs:=s.take k) rfl rfl rfl (zaS (i:=(k:Int)) rfl rfl) ⟨Nat.zero_le _,hk⟩ (by simp) ?_;(iterate 3 refine mS ?_);refine zan (n:=((k + 1:Nat):Int)) rfl rfl rfl (by omega) (by omega) ?_;refine zb8 (l:=s) (a:=k + 1) (b:=s.length) (rs:=s.drop (k + 1)) rfl rfl (zaS (i:=((k + 1:Nat):Int)) rfl rfl) rfl ⟨hk1,lR⟩ (by rw [<- length_drop,take_length]) ?_;refine zaz rfl ?_;refine po_g rfl ((zbY (T:=T) (hT:=hT) hb (fun s => decide (s.length <= 1)) rfl (by show 0 < 5; decide)).use ⟨by simp only [PV.lw,PC.lw]; exact zcb (p:=fun s => decide (s.length <= 1)) rfl,trivial⟩ hc5 (by omega) (p:=0) rfl) ?_;rintro x bx n6 l6 ⟨c6,rfl,hc6,r6,rfl,hr6,hN6⟩;have hr6:=of_decide_eq_true hr6;refine zdn (la:=s.take k) (lb:=r6) rfl rfl rfl (by rw [length_take]; omega) ?_;refine zdn (la:=s.take k ++ r6) (lb:=s.drop (k + 1)) rfl rfl rfl (by rw [length_append,length_take,length_drop]; omega) ?_
    refine mN ?_;exact zad ⟨.inr rfl,[.d (pS (s.take k ++ r6 ++ s.drop (k + 1)))],rfl,bnR_of hc6 (hN.up.pass hN6) (by rw [length_append,length_append,length_take,length_drop]; omega)⟩
   ·refine zam ?_
    exact ⟨c5,hc5,⟨rfl,trivial⟩,rfl,hN⟩
  refine zaq rfl rfl (beq_eq_false_iff_ne.2 k2) ?_;refine mK ?_;exact ⟨c5,hc5,⟨rfl,trivial⟩,rfl,hN⟩
 rintro tm bx n2 l2 ⟨c2,hc2,ht,hbx,hN2⟩;obtain ⟨tm1,rfl⟩:=zaf ht;simp only at hbx hN2; subst hbx
 clear ht;refine mP ?_;exact zad ⟨.inr rfl,[.d (pS s)],rfl,bnR_of hc2 hN2 (Nat.le_succ _)⟩
end
section
def m_s_l05Value:M:=so [⟨some 2,.zero [.int .i64 0,.int .i64 0,.int .i64 0,.string ⟨[].toArray⟩,.slice none 0 0],none,[]⟩] (.seq (so [qm 3 0,qc 4 19 [3,ci 8] 1] (.cond 4 (so [qm 5 0,qc 6 43 [5] 1,qS 5 2 6] .ret) .skip)) (so [qm 7 0,qc 8 44 [7,ci 3,cB false] 1,qS 5 2 8] .ret))
theorem zdX:look Tryz.prog 27 = some (9,m_s_l05Value,[.cell true 5 2]):=by kernel_rfl
end
section
variable {T:World -> Prop} {hT:Low ngl T}
attribute [local irreducible] po mw pt
theorem val5_drw {b:L8} (hb:b.length <= 2147483647):Drw (env T hT) b 27 [] (QV 302 4000):=by
 rintro c nt live hc hn;refine zaO (R:=DvR b 302 4000 nt live) (zag zdX) (by show 1 <= 9; decide) fun B hB' => ?_
 unfold m_s_l05Value;refine mP ?_;refine mM ?_;refine mS ?_;refine po_g rfl ((zbX (T:=T) (hT:=hT) hb 8).use ⟨trivial,trivial⟩ hc hn (p:=0) rfl) ?_;rintro x bx n1 l1 ⟨c1,rfl,hc1,q,rfl,hN1⟩;refine zai ?_
 cases q with
 | true =>
  refine mwT ?_;refine mQ ?_;refine po_g rfl ((any_drw (T:=T) (hT:=hT) hb).use trivial hc1 (hN1.n2 hn) (p:=0) rfl) ?_;rintro x bx n l ⟨c2,rfl,hc2,cs,v,rfl,hN,he,hg,hRT,hkl⟩;refine zaC (p:=1) (cs:=cs) rfl rfl rfl (zaY he) rfl rfl ?_;refine mN ?_
  exact zad ⟨.inr rfl,[.ag cs],zbV rfl rfl (zaY he),zaX hc2 (hN1.trans hN) he hg hRT hkl⟩
 | false =>
  refine mwF ?_;refine zam ?_;refine mQ ?_;refine po_g rfl ((make_drw (T:=T) (hT:=hT) hb false 3 lR).use ⟨trivial,trivial,trivial⟩ hc1 (hN1.n2 hn) (p:=0) rfl) ?_;rintro x bx n l ⟨c2,rfl,hc2,cs,v,rfl,hN,he,hg,hRT,hkl⟩;refine zaC (p:=1) (cs:=cs) rfl rfl rfl (zaY he) rfl rfl ?_;refine mN ?_;exact zad ⟨.inr rfl,[.ag cs],zbV rfl rfl (zaY he),zaX hc2 (hN1.trans hN) he (hg.mono (by decide)) hRT (by omega)⟩
end
section
def m_l_big:M:=so [qo 2 (.mv (cB false))] (so [qm 3 0,qo 4 (.len 3),qo 5 (.bin .gtr false 4 (ci 1048576)),qm 2 5] .ret)
theorem lk_l_big:look Tryz.prog 4 = some (6,m_l_big,[.tm 2]):=by kernel_rfl
end
section
def dU (x:UInt8):D:=.one (.int .u8 x.toNat)
def dBy (b:L8):D:=.sl 1 (b.map dU)
theorem dBy_wf (b:L8):(dBy b).wf:=by
 simp only [dBy,D.wf];refine ⟨fun e he => by obtain ⟨k,_,rfl⟩:=mem_map.1 he; rfl,?_⟩
 induction b with
 | nil => trivial
 | cons k ks ih => exact ⟨rfl,ih⟩
theorem dBy_pc (b:L8):(dBy b).pc = [.sl 0 (pcB b)]:=by
 simp only [dBy,D.pc,D.pcE_map,map_map,pcB]; rfl
theorem code_rp {w:World} {b:L8} {v:Value} (h:Rd w (dBy b) [v]):RpV (C0 w) w (.d (.sl 0 (pcB b))) v:=rd1 h (dBy_wf b) (dBy_pc b)
theorem trod_code {H:Type} {enc:TypeId × Value -> H} {w:World} {base:Nat} {spare:Nat -> Bool} {held:Bool} (fuel:Nat) (cs:List Value) (y:DataW H × List MemPlace)
  (h:DataW.trod enc Tryz.prog w base spare held fuel 22 cs = some y):∃ (b:L8) (v:Value),cs = [v] /\ Rd w (dBy b) [v] /\ b.length <= maxLen:=by
 obtain ⟨xs,v,h1,h2,_,h4⟩:=trod_sl (f:=dU) (ok:=fun _ => True) Tryz.underlying22 (by kernel_rfl) (by decide) (fun _ => rfl) (fun n cs y _ h => by
  obtain ⟨m,rfl,_,hm⟩:=DataW.trod_int Tryz.underlying5 h
  have hb:0 <= m /\ m <= 255:=by
   simp [Lit.wf,IntKind.min,IntKind.max,IntKind.bits,IntKind.signed] at hm; exact ⟨by omega,by omega⟩
  exact ⟨UInt8.ofNat m.toNat,by simp [Rd,dU,RepC]; omega,trivial⟩) h
 exact ⟨xs,v,h1,h2,h4⟩
theorem fnLaw {E:Env} {f:Nat} {b:L8} (h:FnV E f [.d (.sl 0 (pcB b))] (.d (pB true))) {w:World} (hng:E.NG <= w.heap.size) (hT:E.T w) {v:Value} (hr:Rd w (dBy b) [v]):Calls E.P f #[v] w fun e w' => e = .returned (.bool true) /\ Below w.heap.size w w' :=
 FnV.bool h hng hT (vs:=[v]) rfl fun j x y hx hy => by
  match j with
  | 0 => simp at hx hy; subst hx; subst hy; exact code_rp hr
  | j + 1 => simp at hx
end
section
variable {T:World -> Prop} {hT:Low ngl T}
attribute [local irreducible] po mw pt
theorem new_l {b:L8} (hb:b.length <= 2147483647) {bx:LP PC} (nt:Nat) (live:List Nat):FnG (env T hT) 17 [.d (.sl 0 (pcB b))] bx nt live (fun x b' n l => ∃ c,x = .ref bx.length 0 /\ b' = bx ++ [c] /\ Cu b c /\ n = nt /\ l = live):=by
 refine (FnG.liftR (new_g (T:=T) (hT:=hT) hb nt live) ⟨by simp only [PV.lw,PC.lw]; exact pcB_lw 0 b,trivial⟩).mono ?_;rintro x b' n l ⟨x0,b0,rfl,rfl,c,rfl,rfl,hc,rfl,rfl⟩;refine ⟨c,by simp [PV.shB],?_,hc,rfl,rfl⟩;rw [map_cons,map_nil,shB_idL hc.lw]
theorem big_fn0 (b:L8):FnV (env T hT) 4 [.d (.sl 0 (pcB b))] (.d (pB (decide ((b.length:Int) > 1048576)))):=by
 refine zbw (zag lk_l_big) (by show 1 <= 6; decide) fun B hB => ?_
 unfold m_l_big;refine mP ?_;refine mQ ?_;refine zaK (n:=b.length) rfl rfl (zaQ b) ?_;refine po_q rfl rfl ?_;refine mN ?_;exact mR
section
variable {E:Env} {K:St -> Prop} {tm:Nat -> PV} {bx:LP PC} {nt d:Nat} {live:List Nat} {r:List MOpr} {c:List X}
theorem zcA {f:Nat} {xs:List X} {args:List PV} {R:PV -> (Nat -> Prop) -> Prop} (hd:PV.dats (xs.map (ev tm)) = some args) (hF:Fn E f args R) (h:∀ x lv,R x lv -> ∃ y,x.dat = some y /\ po E r K ⟨up d y tm,bx,nt,live⟩):po E (⟨some d,.call f xs,none,c⟩ :: r) K ⟨tm,bx,nt,live⟩ :=
 by
 unfold po;exact ⟨true,rfl,.inl ⟨rfl,.inl ⟨args,R,hd,hF,.inl fun x lv hx => by obtain ⟨y,h1,h2⟩:=h x lv hx; exact ⟨y,h1,by rw [zaT]; exact h2⟩⟩⟩⟩
end
theorem pcB_er (b:L8):erLL (pcB b) = pcB b:=by
 rw [zaH]; unfold pcB; rw [map_map]; rfl
def chkP (s:L8):Bool:=decide (s.length <= 2)
def PthP (k:Nat) (st:List (L8)):Prop:=st.length <= k /\ ∀ s ∈ st,s.length <= 2
theorem PthP.snoc {k:Nat} {st:List (L8)} (h:PthP k st) {s:L8} (hs:s.length <= 2):PthP (k + 1) (st ++ [s]) :=
 ⟨by rw [length_append,length_singleton]; have:=h.1; omega,fun x hx => (mem_append.1 hx).elim (h.2 x) fun hx => by rw [mem_singleton] at hx; subst hx; exact hs⟩
def PpI (b:L8) (n:Nat) (m:Nat) (st:St):Prop :=
 ∃ (i:Nat) (c:List PC) (q:Nat) (ss:List (L8)),i <= n /\ m = n - i /\ Cu b c /\ has st.tm [(3,.ref 0 0),(4,.d (.sl q (pSr ss))),(5,.d (pI n)),(6,.d (pI i))] /\ st.bx = [c] /\ 2 <= q /\ NR 2 [] st.nt st.live [.sl q []] /\ PthP i ss
theorem drawPP_f {b:L8} (hb:b.length <= 2147483647):Fn (env T hT) 5 [.d (.sl 0 (pcB b))] (fun x _ => ∃ st,x.dat = some (.d (pSs st)) /\ PthP 13 st):=by
 refine zbw (zag zcs) (by show 1 <= 29; decide) fun B hB => ?_
 unfold m_s_DrawPutPath;refine mP ?_;refine mQ ?_;refine po_g rfl (new_l (T:=T) (hT:=hT) hb 2 []) ?_;rintro x bx n l ⟨c,rfl,rfl,hc,rfl,rfl⟩;refine mN ?_;refine mO ?_;refine zaz (es:=[]) rfl ?_;refine mN ?_;have hN:=NR.lit (es:=[]) (Nat.le_refl 2) (NR.refl 2 []);refine mQ ?_;refine po_g rfl ((zaG (T:=T) (hT:=hT) hb 4).use ⟨trivial,trivial⟩ hc (hN.n2 (Nat.le_refl 2)) (p:=0) rfl) ?_;rintro x bx n1 l1 ⟨c1,rfl,hc1,r,rfl,r0,r1,hN1⟩;have hN:=hN.pass hN1;refine mN ?_;refine zax (fun st => ∃ (k:Nat) (c:List PC),k <= 13 /\ Cu b c /\ has st.tm [(3,.ref 0 0),(4,.d (.sl 2 [])),(5,.d (pI k))] /\ st.bx = [c] /\ NR 2 [] st.nt st.live [.sl 2 []]) ?_ ?_
 ·refine mQ ?_
  refine po_g rfl ((zbX (T:=T) (hT:=hT) hb 8).use ⟨trivial,trivial⟩ hc1 (hN.n2 (Nat.le_refl 2)) (p:=0) rfl) ?_;rintro x bx n2 l2 ⟨c2,rfl,hc2,q,rfl,hN2⟩;have hN:=hN.pass hN2;refine zai ?_
  cases q with
  | true =>
   refine mwT ?_;refine zae ?_;refine mS ?_;refine po_g rfl ((zaG (T:=T) (hT:=hT) hb 2).use ⟨trivial,trivial⟩ hc2 (hN.n2 (Nat.le_refl 2)) (p:=0) rfl) ?_;rintro x bx n3 l3 ⟨c3,rfl,hc3,r',rfl,r0',r1',hN3⟩;refine zan (n:=((12 + r'.toNat:Nat):Int)) rfl rfl rfl (by omega) (by omega) ?_;refine mN ?_
   exact ⟨12 + r'.toNat,c3,by omega,hc3,⟨rfl,rfl,rfl,trivial⟩,rfl,hN.pass hN3⟩
  | false =>
   refine mwF ?_;refine zam ?_;exact ⟨r.toNat,c2,by omega,hc2,⟨rfl,rfl,by show PV.d (pI r) = _; rw [Int.toNat_of_nonneg (by omega)],trivial⟩,rfl,hN⟩
 rintro tm bx n4 l4 ⟨k,c4,hk,hc4,ht,hbx,hN⟩;obtain ⟨tm1,rfl⟩:=zaf ht;simp only at hbx hN; subst hbx
 clear ht hc hc1;refine zax (fun st => ∃ (q:Nat) (ss:List (L8)),has st.tm [(4,.d (.sl q (pSr ss)))] /\ PthP 13 ss) ?_ ?_
 ·refine mP ?_
  refine zab ?_;refine zaA (PpI b k) k ⟨0,c4,2,[],Nat.zero_le _,rfl,hc4,⟨rfl,rfl,rfl,rfl,trivial⟩,rfl,Nat.le_refl 2,hN,lR,(fun s hs => by cases hs)⟩ ?_;clear hN hc4;rintro m tm bx n5 l5 ⟨i,c,q,ss,hi,rfl,hc,ht,hbx,hq,hN,hP⟩;obtain ⟨tm1,rfl⟩:=zaf ht;simp only at hbx hN; subst hbx
  clear ht;refine mM ?_;(iterate 2 refine mS ?_);refine po_b rfl rfl (fun p hp => ?_);refine zai ?_;refine zbM (p:=(i:Int) < k) hp rfl (fun him _ => ?_) (fun him _ => ?_)
  rotate_left
  ·refine zay ?_
   exact ⟨q,ss,⟨rfl,trivial⟩,by have:=hP.1; omega,hP.2⟩
  have hp1:=hP.1;refine zam ?_;refine zav (zab (zae ?_));(iterate 2 refine mS ?_);refine zaz rfl ?_;refine po_g rfl ((zbY (T:=T) (hT:=hT) hb chkP rfl (by show 0 < 8; decide)).use ⟨by simp only [PV.lw,PC.lw]; exact zcb (p:=chkP) rfl,trivial⟩ hc (by have:=hN.n2 (Nat.le_refl 2); omega) (p:=0) rfl) ?_;rintro x bx n6 l6 ⟨c6,rfl,hc6,s,rfl,hs,hN6⟩;have hs:s.length <= 2:=of_decide_eq_true hs;have hN:=(hN.up).pass hN6;have hqm:=(hN.mem q (sl_tokA hq)).2.2;refine zaz (es:=[[pS s]]) rfl ?_;refine za1 (t:=q) (t':=n6) (es:=pSr ss) (ds:=[[pS s]]) rfl rfl (.inr (mem_cons_of_mem _ hqm)) (by rw [zaE]; simp only [length_singleton]; omega) (fun e he' => by rw [mem_singleton] at he'; subst he'; rfl) (fun e he => by rw [pSr_aR] at he; exact aR_wid _ e he) ?_;refine mN ?_;refine zae ?_;refine mS ?_;refine zan (n:=((i + 1:Nat):Int)) rfl rfl rfl (by omega) (by omega) ?_
  refine mN ?_;refine ⟨k - (i + 1),by omega,i + 1,c6,n6 + 1,ss ++ [s],by omega,rfl,hc6,⟨rfl,?_,rfl,rfl,trivial⟩,rfl,by have:=hN.n2 (Nat.le_refl 2); omega,NR.appE (Nat.le_refl 2) hN.up hq,hP.snoc hs⟩;show PV.d (.sl (n6 + 1) (pSr ss ++ [[pS s]])) = _;rw [show pSr (ss ++ [s]) = pSr ss ++ [[pS s]] by simp [pSr]]
 rintro tm bx n7 l7 ⟨q,ss,ht,hP⟩;obtain ⟨tm1,rfl⟩:=zaf ht;refine mP ?_;exact zad ⟨.inr rfl,[.d (.sl q (pSr ss))],rfl,ss,congrArg (fun x => some (PV.d (.sl 0 x))) (zaR ss),hP⟩
theorem zbN {st:List (L8)}:(putPath st).length <= 48012:=by
 unfold putPath;split
 ·rename_i h
  have:=za2 st h.2
  omega
 ·exact Nat.zero_le _
theorem drawGP_f {b:L8} (hb:b.length <= 2147483647):Fn (env T hT) 7 [.d (.sl 0 (pcB b))] (fun x _ => ∃ s:L8,x = .d (pS s) /\ s.length <= 48100):=by
 have hca:PV.dats [PV.d (.sl 0 (pcB b))] = some [.d (.sl 0 (pcB b))]:=by
  show some [PV.d (.sl 0 (erLL (pcB b)))] = _;rw [pcB_er]
 refine zbw (zag zct) (by show 1 <= 11; decide) fun B hB => ?_
 unfold m_s_DrawGetPath;refine mP ?_;refine mQ ?_;refine po_g rfl (new_l (T:=T) (hT:=hT) hb 2 []) ?_;rintro x bx n l ⟨c,rfl,rfl,hc,rfl,rfl⟩;refine mN ?_;refine mO ?_;(iterate 2 refine mS ?_);refine zcA hca (drawPP_f (T:=T) (hT:=hT) hb) ?_;rintro x lv ⟨st,hx,hP⟩;refine ⟨_,hx,?_⟩;have hp1:=hP.1;refine zao (args:=[.d (pSs st)]) (congrArg (fun r => some [PV.d (.sl 0 r)]) (zaR st)) (zcy (T:=T) (hT:=hT) st (by omega) (fun k hk => by have:=hP.2 k hk; omega)) ?_;have hpl:=zbN (st:=st);refine po_g rfl ((bent_drw (T:=T) (hT:=hT) hb (putPath st) (by omega)).use ⟨trivial,trivial⟩ hc (Nat.le_refl 2) (p:=0) rfl) ?_;rintro x bx n l ⟨c2,rfl,hc2,s,rfl,hs,hN2⟩;refine mN ?_;exact zad ⟨.inr rfl,[.d (pS s)],rfl,s,rfl,by omega⟩
theorem drawPt_f {b:L8} (hb:b.length <= 2147483647):Fn (env T hT) 10 [.d (.sl 0 (pcB b))] (fun x _ => ∃ v:V,x.dat = some (.ag (vC v)) /\ Gd 4000 v):=by
 refine zbw (zag zde) (by show 1 <= 6; decide) fun B hB => ?_
 unfold m_s_DrawPaths;refine mP ?_;refine mQ ?_;refine po_g rfl (new_l (T:=T) (hT:=hT) hb 2 []) ?_;rintro x bx n l ⟨c,rfl,rfl,hc,rfl,rfl⟩;refine po_g rfl ((val5_drw (T:=T) (hT:=hT) hb).use trivial hc (Nat.le_refl 2) (p:=1) rfl) ?_;rintro x bx n l ⟨c1,rfl,hc1,cs,v,rfl,hN,he,hg,_,_⟩;refine zaC (p:=0) (cs:=cs) rfl rfl rfl (zaY he) rfl rfl ?_;refine mN ?_;exact zad ⟨.inr rfl,[.ag cs],zbV rfl rfl (zaY he),v,by rw [<- he]; rfl,hg⟩
end
section
def m_l_sameTexts:M:=so [qo 4 (.mv (cB false))] (.seq (so [qm 6 0,qo 7 (.len 6),qm 8 1,qo 9 (.len 8),qo 10 (.bin .neq false 7 9)] (.cond 10 (so [qo 4 (.mv (cB false))] .ret) .skip)) (.seq (so [qo 5 (.mv (ci 0))] (.block 0 (.loop (.seq (so [qm 11 5,qm 12 0,qo 13 (.len 12),qo 14 (.bin .lss false 11 13)] (.cond 14 .skip (.exit 0))) (.seq (.block 1 (so [qm 17 0,qm 18 5,qo 19 (.ix 1 17 18),ql 20 1 19,qm 21 1,qm 22 5,qo 23 (.ix 1 21 22),ql 24 1 23,qo 25 (.bin .neq false 20 24)] (.cond 25 (so [qo 4 (.mv (cB false))] .ret) .skip))) (.ops [qm 15 5,qo 16 (.bin .add false 15 (ci 1)),qm 5 16])))))) (so [qo 4 (.mv (cB true))] .ret)))
theorem zdg:look Tryz.prog 13 = some (26,m_l_sameTexts,[.tm 4]):=by kernel_rfl
end
section
variable {T:World -> Prop} {hT:Low ngl T}
attribute [local irreducible] po mw pt
def SaNI (ns:List (L8)) (m:Nat) (st:St):Prop:=∃ i:Nat,i <= ns.length /\ m = ns.length - i /\ has st.tm [(0,.d (pSs ns)),(1,.d (pSs ns)),(5,.d (pI i))]
theorem zdY (ns:List (L8)) (hl:ns.length <= 4294967295):FnV (env T hT) 13 [.d (pSs ns),.d (pSs ns)] (.d (pB true)):=by
 refine zbw (zag zdg) (by show 2 <= 26; decide) fun B hB => ?_
 unfold m_l_sameTexts;refine mP ?_;refine mM ?_;refine mS ?_;refine zaK (n:=ns.length) rfl rfl (zaE ns) ?_;refine mS ?_;refine zaK (n:=ns.length) rfl rfl (zaE ns) ?_;refine zaq rfl rfl (by simp) ?_;refine mK ?_;refine zax (fun s => True) ?_ ?_
 ·refine mP ?_
  refine zab ?_;refine zaA (SaNI ns) ns.length ⟨0,Nat.zero_le _,rfl,⟨rfl,rfl,rfl,trivial⟩⟩ ?_;rintro m tm bx nt live ⟨i,hi,rfl,ht⟩;obtain ⟨tm0,rfl⟩:=zaf ht;refine mM ?_;(iterate 2 refine mS ?_);refine zaK (n:=ns.length) rfl rfl (zaE ns) ?_;refine po_b rfl rfl (fun b hb => ?_);refine zai ?_;refine zbM (p:=(i:Int) < ns.length) hb rfl (fun h _ => ?_) (fun h _ => ?_)
  ·have hil:i < ns.length:=by omega
   refine zam ?_;refine zav (zab (zav (zae ?_)));(iterate 2 refine mS ?_);refine za9 (es:=pSr ns) (e:=[pS ns[i]]) rfl rfl rfl ⟨by omega,by rw [Int.toNat_natCast]; exact zb6 hil⟩ rfl ?_;(iterate 3 refine mS ?_);refine za9 (es:=pSr ns) (e:=[pS ns[i]]) rfl rfl rfl ⟨by omega,by rw [Int.toNat_natCast]; exact zb6 hil⟩ rfl ?_;refine mS ?_;refine zcT (la:=ns[i]) (lb:=ns[i]) (e:=false) rfl rfl rfl (by simp) ?_;refine mK ?_;refine zae ?_;refine mS ?_;refine zan (n:=((i + 1:Nat):Int)) rfl rfl rfl (by omega) (by omega) ?_;refine mN ?_;exact ⟨ns.length - (i + 1),by omega,i + 1,hil,rfl,⟨rfl,rfl,rfl,trivial⟩⟩
  ·refine zay ?_
   trivial
 intro tm bx nt live _;refine mP ?_;exact mR
end
section
attribute [local irreducible] po mw pt
theorem put_ok {st:List (L8)} (h:putPath st ≠ []):stepsOk st = true /\ st.length <= 12 /\ ∀ k ∈ st,k.length <= 2000:=by
 unfold putPath at h
 split at h
 ·rename_i hh
  refine ⟨?_,hh.1,fun k hk => ?_⟩
  ·unfold stepsOk; rw [decide_eq_true hh.1,hh.2]; rfl
  ·have:=all_eq_true.1 hh.2 k hk
   unfold stepOk at this;simp only [Bool.and_eq_true,decide_eq_true_eq] at this;exact this.2
 ·exact absurd rfl h
theorem getPS_nil:getPS [] = some []:=rfl
theorem getPS_ok {s:L8} {st:List (L8)} (h:getPS s = some st):st.length <= 12 /\ ∀ k ∈ st,k.length <= 2000:=by
 have hb:=zc6 h;by_cases h0:s = []
 ·subst h0
  rw [getPS_nil] at h;simp only [sI] at h; subst h
  exact ⟨by decide,fun k hk => by cases hk⟩
 ·exact (put_ok (by rw [hb]; exact h0)).2
theorem zdx {v:V} {p:L8} (h:p ∈ pthV v):∃ st x,getPS p = some st /\ atO v st = some x /\ st.length <= 12 /\ ∀ k ∈ st,k.length <= 2000:=by
 unfold pthV at h
 split at h
 ·rename_i hk
  obtain ⟨hr,hn⟩:=zdW hk;obtain ⟨more,hp,hat⟩:=pthS_at _ _ _ _ _ hr hn h;rw [nil_append] at hp;by_cases h0:p = []
  ·subst h0
   refine ⟨[],v,rfl,?_,by decide,fun k hk => by cases hk⟩;unfold atO; rw [if_pos (by decide),atI]
  ·rw [hp] at h0
   obtain ⟨h1,h2,h3⟩:=put_ok h0;obtain ⟨x,hx⟩:=Option.isSome_iff_exists.1 hat;exact ⟨more,x,by rw [hp]; exact getP_put h0,by unfold atO; rw [if_pos h1]; exact hx,h2,h3⟩
 ·cases h
theorem pthV_pos {v:V}:(0 < (pthV v).length) ↔ v.ok = true:=by
 unfold pthV
 cases v.ok with
 | false => simp
 | true =>
  have:=v.nodes_pos
  obtain ⟨m,hm⟩:∃ m,v.nodes = m + 1:=⟨v.nodes - 1,by omega⟩;rw [hm];simp [pthS]
theorem pthV_len (v:V):(pthV v).length <= 300:=by
 unfold pthV
 cases hk:v.ok with
 | false => simp
 | true =>
  have:=(zdW hk).2
  have:=zb1 v.nodes v []
  simp only [if_true]; omega
theorem pthV_put {v:V} {p:L8} (h:p ∈ pthV v):p.length <= 48012:=by
 obtain ⟨st,_,h1,_⟩:=zdx h;rw [<- zc6 h1]; exact zbN
def FpI (v:V) (_b:L8) (m:Nat) (s:St):Prop:=∃ (i:Nat) (rest:LP PC),i <= (pthV v).length /\ m = (pthV v).length - i /\ has s.tm [(10,.ref 0 0),(11,.d (pSs (pthV v))),(14,.d (pI i))] /\ s.bx = vC v :: rest
theorem st_arg (st:List (L8)):PV.dats [.d (pSs st)] = some [.d (pSs st)]:=congrArg (fun r => some [PV.d (.sl 0 r)]) (zaR st)
theorem zfe (st sv:List (L8)):PV.dats [.d (pSs st),.d (pSs sv)] = some [.d (pSs st),.d (pSs sv)]:=by
 show some [PV.d (.sl 0 (erLL (pSr st))),PV.d (.sl 0 (erLL (pSr sv)))] = _;rw [zaR,zaR]; rfl
theorem vst_arg (v:V) (st:List (L8)):PV.dats [.ag (vC v),.d (pSs st)] = some [.ag (vC v),.d (pSs st)]:=by
 show some [PV.ag (erL (vC v)),PV.d (.sl 0 (erLL (pSr st)))] = _;rw [zcr,zaR]; rfl
theorem fnPaths_fn (b:L8) (_hl:b.length <= maxLen):FnV (env TP TP.low) 3 [.d (.sl 0 (pcB b))] (.d (pB true)):=by
 have hca:PV.dats [PV.d (.sl 0 (pcB b))] = some [.d (.sl 0 (pcB b))]:=by
  show some [PV.d (.sl 0 (erLL (pcB b)))] = _;rw [pcB_er]
 have hTP:∀ w,TP w -> TP w:=fun _ h => h
 refine zbw (zag zep) (by show 1 <= 119; decide) fun B hB => ?_
 unfold m_l_FnPaths;refine mP ?_;refine mM ?_;refine mS ?_;refine zao hca (big_fn0 b) ?_;refine zai ?_;refine zeg (p:=(b.length:Int) > 1048576) rfl (fun h => ?_) (fun h => ?_)
 ·refine mP ?_
  exact zad ⟨.inr rfl,[.d (pB true)],rfl,rfl⟩
 have hb:b.length <= 2147483647:=by omega
 refine zam ?_;refine mQ ?_;refine zcA hca (drawPP_f (T:=TP) (hT:=TP.low) hb) ?_;rintro x lv ⟨st,hx,hP⟩;refine ⟨_,hx,?_⟩;obtain ⟨hP1,hP2⟩:=hP;have hst4:∀ k ∈ st,k.length <= 4294967295:=fun k hk => by have:=hP2 k hk; omega
 refine mN ?_;refine mQ ?_;refine zao (st_arg st) (ze7 (T:=TP) (hT:=TP.low) hTP st (by omega) hst4) ?_;refine mN ?_;refine mQ ?_;refine zcA hca (drawGP_f (T:=TP) (hT:=TP.low) hb) ?_;rintro x lv ⟨u,rfl,hul⟩;refine ⟨.d (pS u),rfl,?_⟩;refine mN ?_;have hgI:=zdV (T:=TP) (hT:=TP.low) hTP u (by omega);have hgS:=zfb (T:=TP) (hT:=TP.low) u (by omega)
 obtain ⟨xs,ok,hxs,hok,hxl,hback⟩:∃ xs ok,gpL (getPS u) = xs /\ gpB (getPS u) = ok /\ (xs.length <= 12 /\ ∀ k ∈ xs,k.length <= 2000) /\ (ok = true -> putPath xs = u):=by
  cases hg:getPS u with
  | none => exact ⟨[],false,rfl,rfl,⟨by decide,fun k hk => by cases hk⟩,fun h => by cases h⟩
  | some ys => exact ⟨ys,true,rfl,rfl,getPS_ok hg,fun _ => zc6 hg⟩
 rw [hxs,hok] at hgI hgS;refine mQ ?_;refine zao (args:=[.d (pS u)]) rfl hgI ?_;refine mN ?_;refine mQ ?_;refine zao (args:=[.d (pS u)]) rfl hgS ?_;refine mN ?_;refine mQ ?_;refine zcA hca (drawPt_f (T:=TP) (hT:=TP.low) hb) ?_;rintro x lv ⟨v,hx,hG⟩;refine ⟨_,hx,?_⟩;have hw:=hG.wf;have hbk:=hG.bulk;refine po_nw (cs:=vC v) rfl rfl rfl rfl ?_;refine mN ?_;have hpI:=pathsI_fn (T:=TP) (hT:=TP.low) hTP v hw (by omega);have hpS:=pathsS_fn (T:=TP) (hT:=TP.low) v hw (by omega);have hplen:=pthV_len v;refine mO ?_;refine zaN (p:=0) (cs:=vC v) rfl rfl rfl rfl ?_;refine zao (zcN v) hpI ?_;refine mN ?_;refine zax (fun s => has s.tm [(3,.d (pSs st)),(4,.d (pS (putPath st))),(10,.ref 0 0),(11,.d (pSs (pthV v)))] /\ s.bx = [vC v]) ?_ ?_
 ·refine mO ?_
  (iterate 2 refine mS ?_);refine zao (st_arg st) (zcy (T:=TP) (hT:=TP.low) st (by omega) hst4) ?_;refine zcT (la:=putPath st) (lb:=putPath st) (e:=false) rfl rfl rfl (by simp) ?_;(iterate 3 refine mS ?_);refine zbr (b:=true) rfl (fun _ => zfe xs xs) (fun _ => zdY (T:=TP) (hT:=TP.low) xs (by omega)) ?_;(iterate 5 refine mS ?_);refine zaq rfl rfl (bne_self_eq_false ok) ?_;(iterate 3 refine mS ?_);refine zaN (p:=0) (cs:=vC v) rfl rfl rfl rfl ?_;refine zbr (b:=true) rfl (fun _ => zcN v) (fun _ => hpS) ?_;refine zbr (b:=true) rfl (fun _ => zfe (pthV v) (pthV v)) (fun _ => zdY (T:=TP) (hT:=TP.low) (pthV v) (by omega)) ?_;(iterate 3 refine mS ?_)
  cases ok with
  | false =>
   (iterate 2 refine mS ?_);refine mZ ?_;refine mK ?_
   exact ⟨⟨rfl,rfl,rfl,rfl,trivial⟩,rfl⟩
  | true =>
   (iterate 3 refine mS ?_);refine zbr (b:=true) rfl (fun _ => st_arg xs) (fun _ => ze7 (T:=TP) (hT:=TP.low) hTP xs (by omega) (fun k hk => by have:=hxl.2 k hk; omega)) ?_;refine mS ?_;refine zcT (la:=putPath xs) (lb:=u) (e:=false) rfl rfl rfl (by rw [hback rfl]; simp) ?_;refine mK ?_;exact ⟨⟨rfl,rfl,rfl,rfl,trivial⟩,rfl⟩
 clear hgI hgS;rintro tm bx nt live ⟨ht,hbx⟩;obtain ⟨tm1,rfl⟩:=zaf ht;simp only at hbx; subst hbx
 clear ht;refine zax (fun s => has s.tm [(10,.ref 0 0),(11,.d (pSs (pthV v)))] /\ s.bx = [vC v]) ?_ ?_
 ·refine mQ ?_
  by_cases h0:putPath st = []
  ·refine zcT (la:=putPath st) (lb:=[]) (e:=false) rfl rfl rfl (by rw [h0]; rfl) ?_
   refine mK ?_;exact ⟨⟨rfl,rfl,trivial⟩,rfl⟩
  ·refine zcT (la:=putPath st) (lb:=[]) (e:=true) rfl rfl rfl (by simp [h0]) ?_
   refine mT ?_;have hg:=getP_put h0;have hgI:=zdV (T:=TP) (hT:=TP.low) hTP (putPath st) (by have:=zbN (st:=st); omega);rw [hg] at hgI;refine mQ ?_;refine zao (args:=[.d (pS (putPath st))]) rfl hgI ?_;refine mN ?_;refine mO ?_;(iterate 5 refine mS ?_);refine zbr (b:=true) rfl (fun _ => zfe st st) (fun _ => zdY (T:=TP) (hT:=TP.low) st (by omega)) ?_;refine mK ?_;exact ⟨⟨rfl,rfl,trivial⟩,rfl⟩
 rintro tm bx nt live ⟨ht,hbx⟩;obtain ⟨tm2,rfl⟩:=zaf ht;simp only at hbx; subst hbx
 clear ht;refine zax (fun s => has s.tm [(10,.ref 0 0),(11,.d (pSs (pthV v)))] /\ ∃ rest,s.bx = vC v :: rest) ?_ ?_
 ·refine mP ?_
  refine zab ?_;refine zaA (FpI v b) (pthV v).length ⟨0,[],Nat.zero_le _,rfl,⟨rfl,rfl,rfl,trivial⟩,rfl⟩ ?_;rintro m tm bx nt live ⟨i,rest,hi,rfl,ht,hbx⟩;obtain ⟨tm3,rfl⟩:=zaf ht;simp only at hbx; subst hbx
  clear ht;refine mM ?_;(iterate 2 refine mS ?_);refine zaK (n:=(pthV v).length) rfl rfl (zaE _) ?_;refine po_b rfl rfl (fun p hp => ?_);refine zai ?_;refine zbM (p:=(i:Int) < (pthV v).length) hp rfl (fun him _ => ?_) (fun him _ => ?_)
  rotate_left
  ·refine zay ?_
   exact ⟨⟨rfl,rfl,trivial⟩,rest,rfl⟩
  have hil:i < (pthV v).length:=by omega
  obtain ⟨sp,y,hg,hat,hsl,hsk⟩:=zdx (getElem_mem hil);have hgI:=zdV (T:=TP) (hT:=TP.low) hTP (pthV v)[i] (by have:=pthV_put (getElem_mem hil); omega);rw [hg] at hgI;have hAt:=atT_fn (T:=TP) (hT:=TP.low) hTP v sp hw (by omega) (by omega) (fun s hs => by have:=hsk s hs; omega);rw [hat] at hAt;refine zam ?_;refine zav (zab (zav (zae ?_)));(iterate 2 refine mS ?_);refine za9 (es:=pSr (pthV v)) (e:=[pS (pthV v)[i]]) rfl rfl rfl ⟨by omega,by rw [Int.toNat_natCast]; exact zb6 hil⟩ rfl ?_;refine mS ?_;refine zao (args:=[.d (pS (pthV v)[i])]) rfl hgI ?_;refine mN ?_;refine mO ?_;refine zaN (p:=0) (cs:=vC v) rfl rfl rfl rfl ?_;refine mS ?_;refine zao (vst_arg v sp) hAt ?_;(iterate 3 refine mS ?_);refine po_nw (cs:=vC y) rfl rfl rfl rfl ?_;refine mN ?_;refine mP ?_;refine mwF ?_;refine zam ?_;refine zae ?_;refine mS ?_;refine zan (n:=((i + 1:Nat):Int)) rfl rfl rfl (by omega) (by omega) ?_
  refine mN ?_;exact ⟨(pthV v).length - (i + 1),by omega,i + 1,rest ++ [vC y],hil,rfl,⟨rfl,rfl,rfl,trivial⟩,rfl⟩
 rintro tm bx nt live ⟨ht,rest,hbx⟩;obtain ⟨tm4,rfl⟩:=zaf ht;simp only at hbx; subst hbx
 clear ht;refine mQ ?_;refine zaK (n:=(pthV v).length) rfl rfl (zaE _) ?_;have hpos:=pthV_pos (v:=v);have hvk:=vok_fn (T:=TP) (hT:=TP.low) v hw (by omega)
 cases hk:v.ok with
 | false =>
  have h0:¬ 0 < (pthV v).length:=by rw [hpos,hk]; decide
  rw [hk] at hvk;refine zaq rfl rfl (decide_eq_false (by omega)) ?_;refine zaN (p:=0) (cs:=vC v) rfl rfl rfl rfl ?_;refine zao (zcN v) hvk ?_;refine zah rfl rfl rfl ?_;refine mN ?_
  exact zad ⟨.inr rfl,[.d (pB true)],rfl,rfl⟩
 | true =>
  have h0:0 < (pthV v).length:=hpos.2 hk;rw [hk] at hvk;refine zah rfl rfl (decide_eq_true (by omega)) ?_;refine zaN (p:=0) (cs:=vC v) rfl rfl rfl rfl ?_;refine zao (zcN v) hvk ?_;refine zah rfl rfl rfl ?_;refine mN ?_;exact zad ⟨.inr rfl,[.d (pB true)],rfl,rfl⟩
theorem fnPathsW (b:L8) (v:Value) (w:World) (hn:ngl <= w.heap.size) (hS:TS w) (hM:∃ m,MaxCell m w) (h:Rd w (dBy b) [v] /\ b.length <= maxLen):Calls Tryz.prog 3 #[v] w fun e w' => e = .returned (.bool true) /\ Below w.heap.size w w' :=
 fnLaw (fnPaths_fn b h.2) hn ⟨hS,hM⟩ h.1
end
section
theorem laid_of {H:Type} {enc:TypeId × Value -> H} {C:Checked} {os:Os} {f:FuncId} {fn:Func} {s:ChangeSpec} {conds:List PathCond} {fresh handsOn again apart:Bool} (L:List (String × DataW Unit))
  (own:ownKnob C.prog.godebug = none) (started:os.Started) (noInit:C.prog.inits.idxOf? f = none) (hfn:C.prog.funcs[f]? = some fn)
  (wit:∃ (w:World) (tape:Tape) (i:Input),w.os = os /\ (w.forCall tape i).Shaped C.prog /\ i.vars = [] /\ Input.okWide C.prog (w.forCall tape i) .any w.heap.size f i /\
   ((s.pre enc C.prog fn conds apart (w.forCall tape i).memory i.args /\ laidMetH C.prog L (w.forCall tape i).memory) /\ sizedMet enc C.prog fn (OpenSpec.ofChange s) apart (w.forCall tape i).memory i.args) /\ ({}:Assume).holds C.prog (lone (Frame.enter C.prog f i.args .normal) [] (w.forCall tape i)))
  (walk:∀ (W:World) (base:Nat) (args:Array Value) (ds gs:List (DataW H)) (before:List MemPlace),W.ShapedOpen C.prog -> laidMetH C.prog L W ->
   (∀ (j:Nat) t v,fn.params[j]? = some t -> args[j]? = some v -> Value.okWide C.prog W .any base t v) ->
   DataW.Whole enc C.prog fn.params.toList s.vars apart W args.toList ds gs before ->
   conds.all (PathCond.test C.prog ⟨fn.params.toList,ds,s.plain.varTypes C.prog,gs⟩) = true ->
   Calls C.prog f args W fun e W' => ∃ v,e = .returned v /\ s.post enc C.prog fn apart fresh handsOn again W args v W') :
  ReturnsInHanded {} C os f .any (fun w args => (s.pre enc C.prog fn conds apart w args /\ laidMetH C.prog L w) /\ sizedMet enc C.prog fn (OpenSpec.ofChange s) apart w args) (s.post enc C.prog fn apart fresh handsOn again):=by
 refine returnsInHanded_of_calls own started noInit wit fun w tape i _ shaped _ ok pre _ => ?_
 rcases ok with ⟨_,_,_,fn2,h2,_,_,_,_,vals⟩
 cases Option.some.inj (h2.symm.trans hfn)
 rcases pre with ⟨⟨⟨ds,gs,before,whole,cond⟩,met⟩,_⟩
 have met2:laidMetH C.prog L (w.forCall tape i):=laidMetH.of_heap (by rfl) met;refine (walk _ w.heap.size i.args ds gs before shaped met2 vals (DataW.Whole.of_heap (by rfl) whole) cond).mono ?_;rintro e w2 ⟨v,rfl,hp⟩;exact ChangeSpec.post_blind hp
end
section
open Go.RowKit Go.Lib Go.Shelf
theorem first_data:Go.Pinned.utf8First = firstData:=by kernel_rfl
theorem zff:(Rows.laid_unicode_utf8_acceptRanges:DataW Unit) = acceptData:=by kernel_rfl
theorem tabs_of {w : World} (h3 : VarReads Tryz.prog w "unicode/utf8.first" Go.Pinned.utf8First) (h4 : VarReads Tryz.prog w "unicode/utf8.acceptRanges" Rows.laid_unicode_utf8_acceptRanges) : Tabs w := by
 rw [first_data] at h3; rw [zff] at h4
 exact utf8Tabs_of_readsT (U8Types.of196 Tryz.laysValid) ⟨by kernel_rfl,by kernel_rfl,by kernel_rfl,by kernel_rfl,by kernel_rfl,by kernel_rfl,by kernel_rfl⟩ h3 h4
end
section
open Go.RowKit Go.Lib Go.Shelf
theorem ten_data:(Rows.laid_internal_strconv_uint64pow10:DataW Unit) = tabData .u64 pow10Tab:=by kernel_rfl
theorem tenTab_of {w : World} (h : VarReads Tryz.prog w "internal/strconv.uint64pow10" Rows.laid_internal_strconv_uint64pow10) : TenTab w := by
 rw [ten_data] at h;obtain ⟨g',t',cs,fuel,p,hg',ht',hvar,hd⟩:=h
 obtain rfl:=Option.some.inj (tenG.symm.trans hg')
 obtain rfl:=Option.some.inj ((show (Tryz.prog.globals[3]?).map (·.type) = some 127 by kernel_rfl).symm.trans ht')
 unfold TenTab TabIs;rw [hvar,<- cells_of_tab Tryz.underlying127 Tryz.underlying111 (by kernel_rfl) (by kernel_rfl) hd]
end
section
open Go.RowKit Go.Lib Go.Shelf
theorem err_of {w:World} {nm n2:String} {g:Nat} {d:DataW Unit} (h:VarReads Tryz.prog w nm (.iface n2 d)) (hg:Tryz.prog.globalNamed nm = some g) (ht:(Tryz.prog.globals[g]?).map (·.type) = some 49):∃ tp p,w.var? Tryz.prog nm = some #[.iface tp p]:=by
 obtain ⟨g',t',cs,fuel,p,hg',ht',hvar,hd⟩:=h
 obtain rfl:=Option.some.inj (hg.symm.trans hg')
 obtain rfl:=Option.some.inj (ht.symm.trans ht')
 obtain ⟨f1,u,v,e,_⟩:=iface_of_trod Tryz.underlying49 hd;refine ⟨u,v,?_⟩;rw [hvar,<- Array.toArray_toList (xs:=cs),e]
theorem errTab_of {w : World} (h1 : VarReads Tryz.prog w "strconv.ErrSyntax" Rows.laid_strconv_ErrSyntax) (h2 : VarReads Tryz.prog w "strconv.ErrRange" Rows.laid_strconv_ErrRange) : ErrTab w :=
 ⟨err_of h1 synG (by kernel_rfl),err_of h2 rngG (by kernel_rfl)⟩
end
end Go.Proofs.YtanjncmokckjiaaGreatDoor
