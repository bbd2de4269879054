/- Part 4 of a proof: ValueOkS, PvVok, Path, PvBl, RowArg, PvB3, PthFn, L8P, RowG2, Repl, GetPath, PthM, GpS, RowD, PthL, PthsS, PthsF, PthOk, Own2, FindI, Errs, PvOldT, RdcI, KidI, AtI, TextI, StpsI, StpG, TabsLow, TS, AtF, PthU, Vl5M, Val5, LawM, PvTop, Code, Law1, CopyN, Del5, OldRw, Cln5, Ins5, Lib5, PutEq -/
import Derived.Test.YtdnjinhlhohfiaaGreatDoorQb3
import Derived.Lib.ReplaceLaws
import Derived.Lib.AppendZerosOnto
import Derived.Lib.Overlaps
/- Decimals of a value: the program's fits and isDec, the reference's l02Whole. -/
namespace Go.Proofs.YtdnjinhlhohfiaaGreatDoor
open Go.RowKit
theorem zdT {k:Nat} {n:Int} (h:-9223372036854775808 <= n * 10 /\ n * 10 <= 9223372036854775807):fitsN (k + 1) n = fitsN k (n * 10):=by
 show (inR _ _ _ && _) = _; rw [zaG h]; rfl
theorem fitsN_no {k:Nat} {n:Int} (h:¬ (-9223372036854775808 <= n * 10 /\ n * 10 <= 9223372036854775807)):fitsN (k + 1) n = false:=by
 show (inR _ _ _ && _) = _; rw [za6 h]; rfl
theorem tdiv10 (q:Int):Int.tdiv q 10 * 10 - 9 <= q /\ q <= Int.tdiv q 10 * 10 + 9 /\ (0 <= q -> Int.tdiv q 10 * 10 <= q) /\ (q <= 0 -> q <= Int.tdiv q 10 * 10):=by
 have h1:=Int.mul_tdiv_add_tmod q 10;have h2:=Int.tmod_lt_of_pos q (show (0:Int) < 10 by decide);have h3:-10 < Int.tmod q 10:=by have:=Int.tmod_lt_of_pos (-q) (show (0:Int) < 10 by decide); rw [Int.neg_tmod] at this; omega
 have h4:0 <= q -> 0 <= Int.tmod q 10:=fun h => Int.tmod_nonneg 10 h
 have h5:q <= 0 -> Int.tmod q 10 <= 0:=fun h => by have:=Int.tmod_nonneg 10 (show 0 <= -q by omega); rw [Int.neg_tmod] at this; omega
 refine ⟨by omega,by omega,fun h => ?_,fun h => ?_⟩
 ·have:=h4 h; omega
 ·have:=h5 h; omega
theorem wrap_no {n:Int} (h:¬ (-9223372036854775808 <= n * 10 /\ n * 10 <= 9223372036854775807)):(wrap64 (Int.tdiv (wrap64 (n * 10)) 10) != n) = true:=by
 simp only [bne_iff_ne,ne_eq];intro e;have hq:-9223372036854775808 <= wrap64 (n * 10) /\ wrap64 (n * 10) <= 9223372036854775807:=by unfold wrap64; omega
 generalize wrap64 (n * 10) = q at e hq;obtain ⟨a,b,c,d⟩:=tdiv10 q
 have:wrap64 (Int.tdiv q 10) = Int.tdiv q 10:=by unfold wrap64; omega
 rw [this] at e;subst e;by_cases h0:0 <= q
 ·have:=c h0; omega
 ·have:=d (by omega); omega
set_option maxHeartbeats 400000 in
theorem zfr (n:Int) (k:Nat) (w:World) (hn:i64ok n) (hk:k <= 1000) :
  Calls Tryz.prog 90 #[.int .i64 n,.int .i64 k] w fun e w' => e = .returned (.bool (decide (0 < k) && fitsN k n)) /\ w = w':=by
 obtain ⟨ok,hok⟩:∃ ok,fitsN k n = ok:=⟨_,rfl⟩;rw [hok];have HOK:=Lib.hid hok; clear hok
 go_enter Tryz.func90,Tryz.ntmps90
 go_wp2
 go_loopw [0,5] (fun x i wr => ∃ (j:Nat) (m:Int),j <= k /\ i = .int .i64 j /\ x = .int .i64 m /\ i64ok m /\ fitsN (k - j) m = ok /\ w = wr) (fun _ i _ => k - (intOf i).toNat)
 case atStart => exact ⟨0,n,Nat.zero_le _,rfl,rfl,hn,HOK.out,rfl⟩
 case round =>
  obtain ⟨j,m,hj,rfl,rfl,hm,hf,rfl⟩:=hrel;by_cases hlt:j < k
  ·obtain ⟨r,hr⟩:∃ r,k - j = r + 1:=⟨k - j - 1,by omega⟩
   rw [hr] at hf;have hlt':(j:Int) < k:=by omega
   by_cases hin:-9223372036854775808 <= m * 10 /\ m * 10 <= 9223372036854775807
   ·rw [zdT hin] at hf
    have HF:=Lib.hid hf; clear hf
    go_wp2;exact ⟨⟨j + 1,m * 10,by omega,by go_num,rfl,hin,by rw [show k - (j + 1) = r by omega]; exact HF.out,trivial⟩,by simp [intOf]; omega⟩
   ·rw [fitsN_no hin] at hf
    have HF:=Lib.hid hf; clear hf
    have hw:=wrap_no hin;go_wp2;go_ret;exact ⟨by rw [<- HF.out]; simp,rfl⟩
  ·obtain rfl:j = k:=by omega
   rw [Nat.sub_self] at hf;have HF:=Lib.hid (show true = ok from hf); clear hf
   go_wp2;go_ret;exact ⟨by rw [<- HF.out]; simp,rfl⟩
def fitsR (ok:Bool) (p:Int):Value:=if ok then .tuple #[.int .i64 p,.bool true] else .tuple #[.int .i64 0,.bool false]
set_option maxHeartbeats 400000 in
theorem fits_any (n:Int) (k:Nat) (w:World) (hn:i64ok n) (hk:k <= 1000) :
  Calls Tryz.prog 93 #[.int .i64 n,.int .i64 k] w fun e w' => e = .returned (fitsR (fitsN k n) (n * 10 ^ k)) /\ w = w':=by
 obtain ⟨ok,hok⟩:∃ ok,fitsN k n = ok:=⟨_,rfl⟩;obtain ⟨p,hp⟩:∃ p,n * 10 ^ k = p:=⟨_,rfl⟩;rw [hok,hp];have HOK:=Lib.hid hok; clear hok
 have HP:=Lib.hid hp; clear hp
 go_enter Tryz.func93,Tryz.ntmps93
 go_wp2
 go_loopw [0,1] (fun x i wr => ∃ (j:Nat) (m:Int),j <= k /\ i = .int .i64 j /\ x = .int .i64 m /\ i64ok m /\ fitsN j m = ok /\ m * 10 ^ j = p /\ w = wr) (fun _ i _ => (intOf i).toNat)
 case atStart => exact ⟨k,n,Nat.le_refl _,rfl,rfl,hn,HOK.out,HP.out,rfl⟩
 case round =>
  obtain ⟨j,m,hj,rfl,rfl,hm,hf,hpp,rfl⟩:=hrel;by_cases hj0:j = 0
  ·subst hj0
   have HF:=Lib.hid (show true = ok from hf);have HPP:=Lib.hid (show m = p by simpa using hpp);clear hf hpp;go_wp2
   go_ret2
   exact ⟨by rw [<- HF.out,HPP.out]; rfl,rfl⟩
  ·obtain ⟨r,rfl⟩:∃ r,j = r + 1:=⟨j - 1,by omega⟩
   have hj1:(0:Int) < (r + 1:Nat):=by omega
   have hpp2:m * 10 * 10 ^ r = p:=by rw [<- hpp,Int.pow_succ,Int.mul_assoc,Int.mul_comm 10]
   have HPP:=Lib.hid hpp2;by_cases hm0:m = 0
   ·subst hm0
    have h0:∀ r,fitsN r 0 = true:=by intro r; induction r with
     | zero => rfl
     | succ r ih => rw [zdT (by decide)]; exact ih
    have HF:=Lib.hid (show true = ok by rw [<- hf,h0]);have HP0:=Lib.hid (show (0:Int) = p by simpa using hpp);clear hf hpp hpp2 h0;go_wp2
    go_ret2
    exact ⟨by rw [<- HF.out,<- HP0.out]; rfl,rfl⟩
   ·have hne:(m != 0) = true:=by simpa using hm0
    by_cases hin:-9223372036854775808 <= m * 10 /\ m * 10 <= 9223372036854775807
    ·rw [zdT hin] at hf
     have HF:=Lib.hid hf; clear hf hpp hpp2
     have g1:¬ (922337203685477580:Int) < m:=by omega
     have g2:¬ m < (-922337203685477580:Int):=by omega
     go_wp2;exact ⟨⟨r,m * 10,by omega,by go_num,rfl,hin,HF.out,HPP.out,trivial⟩,by simp [intOf]⟩
    ·rw [fitsN_no hin] at hf
     have HF:=Lib.hid hf; clear hf hpp hpp2
     by_cases g1:(922337203685477580:Int) < m
     ·go_wp2
      go_ret2
      exact ⟨by rw [<- HF.out]; rfl,rfl⟩
     ·have g2:m < (-922337203685477580:Int):=by omega
      go_wp2
      go_ret2
      exact ⟨by rw [<- HF.out]; rfl,rfl⟩
theorem decOk_e {n e:Int} (h:¬ (-20 <= e /\ e <= 20)):decOk n e = false:=by unfold decOk; rw [za6 h]; rfl
set_option maxHeartbeats 1000000 in
set_option maxRecDepth 10000 in
theorem isDec_any (x:V) (cs:List Value) (w:World) (h:Rd w x.d cs) (hwf:x.wf) :
  Calls Tryz.prog 80 #[.agg cs.toArray] w fun e w' => e = .returned (.bool (decOk x.num x.exp)) /\ Below w.heap.size w w':=by
 obtain ⟨k,n,e,s,kids,v1,rfl,rfl,hkids⟩:=V.lay h;obtain ⟨a1,c1,rfl⟩:=Rd.sl_form hkids;obtain ⟨hk,hn,he,hs,_⟩:=hwf;have H1:=Lib.hid (decOk_e (n:=n) (e:=e));show Calls _ _ _ _ fun e' w' => e' = .returned (.bool (decOk n e)) /\ _
 obtain ⟨ok,hok⟩:∃ ok,decOk n e = ok:=⟨_,rfl⟩;rw [hok];have HA:=Lib.hid ((Below.refl w.heap.size w).alloc (Nat.le_refl _) (.cells #[.int .i64 k,.int .i64 n,.int .i64 e,.string ⟨s.toArray⟩,.slice a1 (V.ds kids).length c1] 26));clear h hkids;by_cases h1:-20 <= e /\ e <= 20
 ·by_cases h2:e = 0
  ·have H:Hid (ok = false):=by show _ = _; rw [<- hok,h2]; unfold decOk; rw [zaG (by decide)]; simp
   subst h2;clear hok
   go_enter Tryz.func80,Tryz.ntmps80
   go_wp2;go_ret;exact ⟨by rw [H.out]; rfl,HA.out⟩
  ·have g2:(e == 0) = false:=by simpa using h2
   by_cases h3:-999999999999999999 <= n /\ n <= 999999999999999999
   ·by_cases h4:Int.tmod n 10 = 0
    ·have H:Hid (ok = false):=by show _ = _; rw [<- hok]; unfold decOk; rw [h4]; simp
     have g4:(Int.tmod n 10 == 0) = true:=by simpa using h4
     clear hok
     go_enter Tryz.func80,Tryz.ntmps80
     go_wp2;go_ret;exact ⟨by rw [H.out]; rfl,HA.out⟩
    ·have g4:(Int.tmod n 10 == 0) = false:=by simpa using h4
     by_cases h5:0 < e
     ·obtain ⟨j,rfl⟩:∃ j:Nat,e = j:=⟨e.toNat,by omega⟩
      have H:Hid (ok = !fitsN j n):=by show _ = _; rw [<- hok]; unfold decOk; rw [zaG h1,zaG h3]; simp [h4,show j ≠ 0 by omega,show 0 < j by omega]
      clear hok
      go_enter Tryz.func80,Tryz.ntmps80
      cases hf:fitsN j n with
      | true =>
       have HF:=Lib.hid hf; clear hf
       go_wp2_with (first | (go_at_call 81; refine (zb1 _ _ _ _).mono ?_; rintro e w1 ⟨rfl,rfl⟩; first | rw [zaG h1] | rw [zaG h3]) | (go_at_call 93; refine (fits_any n j _ hn (by omega)).mono ?_; rw [HF.out]; rintro e w1 ⟨rfl,rfl⟩; simp only [fitsR,if_true]))
       go_ret
       exact ⟨by rw [H.out,HF.out]; rfl,HA.out⟩
      | false =>
       have HF:=Lib.hid hf; clear hf
       go_wp2_with (first | (go_at_call 81; refine (zb1 _ _ _ _).mono ?_; rintro e w1 ⟨rfl,rfl⟩; first | rw [zaG h1] | rw [zaG h3]) | (go_at_call 93; refine (fits_any n j _ hn (by omega)).mono ?_; rw [HF.out]; rintro e w1 ⟨rfl,rfl⟩; simp only [fitsR,Bool.false_eq_true,if_false]))
       go_ret;exact ⟨by rw [H.out,HF.out]; rfl,HA.out⟩
     ·have H:Hid (ok = true):=by show _ = _; rw [<- hok]; unfold decOk; rw [zaG h1,zaG h3]; simp [h2,h4,h5]
      clear hok
      go_enter Tryz.func80,Tryz.ntmps80
      go_wp2;go_ret;exact ⟨by rw [H.out]; rfl,HA.out⟩
   ·have H:Hid (ok = false):=by show _ = _; rw [<- hok]; unfold decOk; rw [za6 h3]; simp
    clear hok
    go_enter Tryz.func80,Tryz.ntmps80
    go_wp2
    all_goals (go_ret; exact ⟨by rw [H.out]; rfl,HA.out⟩)
 ·have H:Hid (ok = false):=hok.symm.trans (H1.out h1)
  clear hok
  go_enter Tryz.func80,Tryz.ntmps80
  go_wp2
  all_goals (go_ret; exact ⟨by rw [H.out]; rfl,HA.out⟩)
end Go.Proofs.YtdnjinhlhohfiaaGreatDoor
/- Whether values are keys and values by turns: the reference's l02Pairs. -/
namespace Go.Proofs.YtdnjinhlhohfiaaGreatDoor
open Go.RowKit
theorem zeg {α:Type} (f:V -> α) (ks:List V) (m:Nat) (h:m < ks.length):(ks.take (m + 1)).map f = (ks.take m).map f ++ [f ks[m]]:=by
 rw [List.take_succ_eq_append_getElem h,List.map_append]; rfl
theorem zdU {α:Type} [DecidableEq α] {f:V -> α} {ks:List V} {j:Nat} (hj:j < ks.length) (h:uniq f (ks.take j) = true) (hk:isKeyK ks[j].kind = true) (hn:f ks[j] ∉ (ks.take j).map f):uniq f (ks.take (j + 1)) = true:=by
 rw [List.take_succ_eq_append_getElem hj,zdA,h,hk,decide_eq_true hn]; rfl
theorem zfs {α:Type} [DecidableEq α] {f:V -> α} {ks:List V} {j:Nat} (hj:j < ks.length) (hk:isKeyK ks[j].kind = false):uniq f ks = false:=by
 apply ze3 (j + 1)
 rw [List.take_succ_eq_append_getElem hj,zdA,hk,Bool.false_and,Bool.and_false]
theorem zdV {α:Type} [DecidableEq α] {f:V -> α} {ks:List V} {j:Nat} (hj:j < ks.length) (hn:f ks[j] ∈ (ks.take j).map f):uniq f ks = false:=by
 apply ze3 (j + 1)
 rw [List.take_succ_eq_append_getElem hj,zdA,decide_eq_false (fun h => h hn),Bool.and_false,Bool.and_false]
set_option maxHeartbeats 4000000 in
set_option maxRecDepth 10000 in
theorem zft (xs:List V) (v:Value) (w:World) (h:Rd w (.sl 5 (V.ds xs)) [v]) (hlen:xs.length <= 4294967295) :
  Calls Tryz.prog 91 #[v] w fun e w' => e = .returned (.bool (pairsOk xs)) /\ Below w.heap.size w w':=by
 obtain ⟨a,c,rfl,hg⟩:=h.values;obtain ⟨ok,hok⟩:∃ ok,pairsOk xs = ok:=⟨_,rfl⟩;rw [hok];have HOK:=Lib.hid hok; clear hok h
 obtain ⟨ks,hks⟩:∃ ks,odds xs = ks:=⟨_,rfl⟩;have hkl:ks.length = (xs.length + 1) / 2:=by rw [<- hks,zaX]
 have HKG:Hid (∀ j (h1:2 * j < xs.length) (h2:j < ks.length),ks[j] = xs[2 * j]):=by
  intro j h1 h2; subst hks; exact zdb xs j h1
 have HKS:=Lib.hid hks; clear hks
 go_enter Tryz.func91,Tryz.ntmps91
 go_wp2
 go_loopw [3] (fun i wr => ∃ (j k:Nat),k = 2 * j /\ j <= ks.length /\ i = .int .i64 k /\ uniq V.mark (ks.take j) = true /\ Below w.heap.size w wr) (fun i _ => xs.length + 1 - (intOf i).toNat)
 case atStart => exact ⟨0,0,rfl,Nat.zero_le _,rfl,by simp [uniq],Below.refl _ _⟩
 case round =>
  obtain ⟨j,k,hkj,hj,rfl,hu,hbel⟩:=hrel;have HKJ:=Lib.hid hkj;have HU:=Lib.hid hu; clear hu
  by_cases hlt:k < xs.length
  ·have hjk:j < ks.length:=by omega
   have hkk:=HKG.out j (by omega) hjk;obtain ⟨_,_,b,o,rfl,hb,hcell⟩:=hg (by intro e; rw [e] at hlt; simp at hlt);have HC:=Lib.hid hcell;obtain ⟨v0,v1,v2,v3,v4,hr,d0,d1,d2,d3,d4⟩:=hcell k hlt;clear hcell;obtain ⟨xk,xn,xe,xs',xkids,y4,hx,hcs,_⟩:=V.lay hr;simp only [List.cons.injEq,and_true] at hcs;obtain ⟨rfl,rfl,rfl,rfl,rfl⟩:=hcs;have hbc:=(za5 hbel).1;have D0:=Lib.hid d0;have D1:=Lib.hid d1;have D3:=Lib.hid d3;rw [<- hbc _ _ hb] at d0 d1 d3;clear hr d2 d4;have hkx:ks[j] = .mk xk xn xe xs' xkids:=by rw [hkk,<- hx]; subst hkj; rfl
   have hi1:(0:Int) <= k:=by omega
   have hi3:(k:Int) < xs.length:=by omega
   have HX:=Lib.hid hkx;clear hbc hkk hx hkx hkj;by_cases hkey:isKeyK xk = true
   ·have HK:=Lib.hid hkey
    have hkk:(xk != 5) = false \/ ((xk != 5) = true /\ (xk != 3) = false):=by simp [isKeyK] at hkey ⊢; omega
    clear hkey
    rcases hkk with hk5 | ⟨hk5,hk3⟩
    ·go_wp2
     go_loopw [4] (fun i wr => ∃ (m r:Nat),r = 2 * m /\ m <= j /\ i = .int .i64 r /\ (V.mk xk xn xe xs' xkids).mark ∉ (ks.take m).map V.mark /\ Below w.heap.size w wr) (fun i _ => k + 1 - (intOf i).toNat)
     case atStart => exact ⟨0,0,rfl,Nat.zero_le _,rfl,by simp,hbel⟩
     case round =>
      obtain ⟨m,r,hrm,hm,rfl,hni,hbel2⟩:=hrel;have HRM:=Lib.hid hrm;have HNI:=Lib.hid hni; clear hni
      have hkj:=HKJ.out;by_cases hml:r < k
      ·have hmk:m < ks.length:=by omega
       have hmm:=HKG.out m (by omega) hmk;obtain ⟨u0,u1,u2,u3,u4,hr2,e0,e1,e2,e3,e4⟩:=HC.out r (by omega);obtain ⟨yk,yn,ye,ys,ykids,y5,hy,hcs2,_⟩:=V.lay hr2;simp only [List.cons.injEq,and_true] at hcs2;obtain ⟨rfl,rfl,rfl,rfl,rfl⟩:=hcs2;have hbc2:=(za5 hbel2).1;rw [<- hbc2 _ _ hb] at e0 e1 e3;have d0':=(hbc2 _ _ hb).trans D0.out;have d1':=(hbc2 _ _ hb).trans D1.out;have d3':=(hbc2 _ _ hb).trans D3.out;clear hr2 e2 e4 d0 d1 d3;have hky:ks[m] = .mk yk yn ye ys ykids:=by rw [hmm,<- hy]; subst hrm; rfl
       have HY:=Lib.hid hky;have hj1:(0:Int) <= r:=by omega
       have hj3:(r:Int) < xs.length:=by omega
       have hj5:(r:Int) < k:=by omega
       have hm5:m < j:=by omega
       have hr5:r + 2 < k + 3:=by omega
       clear hbc2 hmm hy hky hrm hkj;by_cases heq:yk = xk /\ yn = xn /\ ys = xs'
       ·obtain ⟨rfl,rfl,rfl⟩:=heq
        have HF:Hid (pairsOk xs = false):=by
         show _ = _; unfold pairsOk; rw [HKS.out,zdV hjk (by
          rw [HX.out];refine List.mem_map.2 ⟨ks[m],List.mem_take_iff_getElem.2 ⟨m,by omega,rfl⟩,by rw [HY.out]; rfl⟩)]; rfl
        have g1:(yk == yk) = true:=by simp
        have g2:(yn == yn) = true:=by simp
        go_wp2
        go_quiet (fail)
        go_wp2;go_ret;exact ⟨by rw [<- HOK.out,HF.out]; rfl,by first | exact hbel2 | exact hbel2.drew | exact Go.below_drewN hbel2 _⟩
       ·have HM:Hid ((V.mk xk xn xe xs' xkids).mark ∉ (ks.take (m + 1)).map V.mark):=by
         show _ ∉ _;rw [zeg _ _ _ hmk,List.mem_append,HY.out];rintro (h | h)
         ·exact HNI.out h
         ·simp only [List.mem_singleton,V.mark,V.kind,V.num,V.text,Prod.mk.injEq] at h
          exact heq ⟨h.1.symm,h.2.1.symm,h.2.2.symm⟩
        by_cases h1:yk = xk
        ·subst h1
         have g1:(yk == yk) = true:=by simp
         by_cases h2:yn = xn
         ·subst h2
          have g2:(yn == yn) = true:=by simp
          have h3:¬ ys = xs':=fun e => heq ⟨rfl,rfl,e⟩
          have g3:(ys == xs') = false:=by simpa using h3
          clear heq h3;go_wp2
          go_quiet (fail)
          go_wp2;go_roundw
          case rel => exact ⟨m + 1,r + 2,by have:=HRM.out; omega,by omega,by go_num,HM.out,by first | exact hbel2 | exact hbel2.drew | exact Go.below_drewN hbel2 _⟩
          case measure => simp [intOf]; omega
         ·have g2:(yn == xn) = false:=by simpa using h2
          clear heq h2;go_wp2
          go_quiet (fail)
          go_wp2;go_roundw
          case rel => exact ⟨m + 1,r + 2,by have:=HRM.out; omega,by omega,by go_num,HM.out,by first | exact hbel2 | exact hbel2.drew | exact Go.below_drewN hbel2 _⟩
          case measure => simp [intOf]; omega
        ·have g1:(yk == xk) = false:=by simpa using h1
         clear heq h1;go_wp2
         go_quiet (fail)
         go_wp2;go_roundw
         case rel => exact ⟨m + 1,r + 2,by have:=HRM.out; omega,by omega,by go_num,HM.out,by first | exact hbel2 | exact hbel2.drew | exact Go.below_drewN hbel2 _⟩
         case measure => simp [intOf]; omega
      ·obtain rfl:m = j:=by omega
       have HM:Hid (uniq V.mark (ks.take (m + 1)) = true):=zdU hjk HU.out (by rw [HX.out]; exact HK.out) (by rw [HX.out]; exact HNI.out);clear hrm hkj;go_wp2;go_roundw
       case rel => exact ⟨m + 1,k + 2,by have:=HKJ.out; omega,by omega,by go_num,HM.out,hbel2⟩
       case measure => simp [intOf]; omega
    ·go_wp2
     go_loopw [4] (fun i wr => ∃ (m r:Nat),r = 2 * m /\ m <= j /\ i = .int .i64 r /\ (V.mk xk xn xe xs' xkids).mark ∉ (ks.take m).map V.mark /\ Below w.heap.size w wr) (fun i _ => k + 1 - (intOf i).toNat)
     case atStart => exact ⟨0,0,rfl,Nat.zero_le _,rfl,by simp,hbel⟩
     case round =>
      obtain ⟨m,r,hrm,hm,rfl,hni,hbel2⟩:=hrel;have HRM:=Lib.hid hrm;have HNI:=Lib.hid hni; clear hni
      have hkj:=HKJ.out;by_cases hml:r < k
      ·have hmk:m < ks.length:=by omega
       have hmm:=HKG.out m (by omega) hmk;obtain ⟨u0,u1,u2,u3,u4,hr2,e0,e1,e2,e3,e4⟩:=HC.out r (by omega);obtain ⟨yk,yn,ye,ys,ykids,y5,hy,hcs2,_⟩:=V.lay hr2;simp only [List.cons.injEq,and_true] at hcs2;obtain ⟨rfl,rfl,rfl,rfl,rfl⟩:=hcs2;have hbc2:=(za5 hbel2).1;rw [<- hbc2 _ _ hb] at e0 e1 e3;have d0':=(hbc2 _ _ hb).trans D0.out;have d1':=(hbc2 _ _ hb).trans D1.out;have d3':=(hbc2 _ _ hb).trans D3.out;clear hr2 e2 e4 d0 d1 d3;have hky:ks[m] = .mk yk yn ye ys ykids:=by rw [hmm,<- hy]; subst hrm; rfl
       have HY:=Lib.hid hky;have hj1:(0:Int) <= r:=by omega
       have hj3:(r:Int) < xs.length:=by omega
       have hj5:(r:Int) < k:=by omega
       have hm5:m < j:=by omega
       have hr5:r + 2 < k + 3:=by omega
       clear hbc2 hmm hy hky hrm hkj;by_cases heq:yk = xk /\ yn = xn /\ ys = xs'
       ·obtain ⟨rfl,rfl,rfl⟩:=heq
        have HF:Hid (pairsOk xs = false):=by
         show _ = _; unfold pairsOk; rw [HKS.out,zdV hjk (by
          rw [HX.out];refine List.mem_map.2 ⟨ks[m],List.mem_take_iff_getElem.2 ⟨m,by omega,rfl⟩,by rw [HY.out]; rfl⟩)]; rfl
        have g1:(yk == yk) = true:=by simp
        have g2:(yn == yn) = true:=by simp
        go_wp2
        go_quiet (fail)
        go_wp2;go_ret;exact ⟨by rw [<- HOK.out,HF.out]; rfl,by first | exact hbel2 | exact hbel2.drew | exact Go.below_drewN hbel2 _⟩
       ·have HM:Hid ((V.mk xk xn xe xs' xkids).mark ∉ (ks.take (m + 1)).map V.mark):=by
         show _ ∉ _;rw [zeg _ _ _ hmk,List.mem_append,HY.out];rintro (h | h)
         ·exact HNI.out h
         ·simp only [List.mem_singleton,V.mark,V.kind,V.num,V.text,Prod.mk.injEq] at h
          exact heq ⟨h.1.symm,h.2.1.symm,h.2.2.symm⟩
        by_cases h1:yk = xk
        ·subst h1
         have g1:(yk == yk) = true:=by simp
         by_cases h2:yn = xn
         ·subst h2
          have g2:(yn == yn) = true:=by simp
          have h3:¬ ys = xs':=fun e => heq ⟨rfl,rfl,e⟩
          have g3:(ys == xs') = false:=by simpa using h3
          clear heq h3;go_wp2
          go_quiet (fail)
          go_wp2;go_roundw
          case rel => exact ⟨m + 1,r + 2,by have:=HRM.out; omega,by omega,by go_num,HM.out,by first | exact hbel2 | exact hbel2.drew | exact Go.below_drewN hbel2 _⟩
          case measure => simp [intOf]; omega
         ·have g2:(yn == xn) = false:=by simpa using h2
          clear heq h2;go_wp2
          go_quiet (fail)
          go_wp2;go_roundw
          case rel => exact ⟨m + 1,r + 2,by have:=HRM.out; omega,by omega,by go_num,HM.out,by first | exact hbel2 | exact hbel2.drew | exact Go.below_drewN hbel2 _⟩
          case measure => simp [intOf]; omega
        ·have g1:(yk == xk) = false:=by simpa using h1
         clear heq h1;go_wp2
         go_quiet (fail)
         go_wp2;go_roundw
         case rel => exact ⟨m + 1,r + 2,by have:=HRM.out; omega,by omega,by go_num,HM.out,by first | exact hbel2 | exact hbel2.drew | exact Go.below_drewN hbel2 _⟩
         case measure => simp [intOf]; omega
      ·obtain rfl:m = j:=by omega
       have HM:Hid (uniq V.mark (ks.take (m + 1)) = true):=zdU hjk HU.out (by rw [HX.out]; exact HK.out) (by rw [HX.out]; exact HNI.out);clear hrm hkj;go_wp2;go_roundw
       case rel => exact ⟨m + 1,k + 2,by have:=HKJ.out; omega,by omega,by go_num,HM.out,hbel2⟩
       case measure => simp [intOf]; omega
   ·have hk5:(xk != 5) = true:=by simp [isKeyK] at hkey ⊢; omega
    have hk3:(xk != 3) = true:=by simp [isKeyK] at hkey ⊢; omega
    have HF:Hid (pairsOk xs = false):=by
     show _ = _; unfold pairsOk; rw [HKS.out,zfs hjk (by rw [HX.out]; simpa [V.kind] using hkey)]; rfl
    clear hkey;go_wp2;go_ret;exact ⟨by rw [<- HOK.out,HF.out]; rfl,hbel⟩
  ·obtain rfl:j = ks.length:=by omega
   clear hkj;have h1:=HU.out;rw [List.take_length] at h1
   have HF:Hid (pairsOk xs = (decide (xs.length % 2 = 0) && decide (xs.length <= 300))):=by
    show _ = _; unfold pairsOk; rw [HKS.out,h1]; rfl
   clear h1;by_cases he:xs.length % 2 = 0
   ·have he':((xs.length:Int) % 2 == 0) = true:=by simp; omega
    rw [decide_eq_true he] at HF;clear he;go_wp2;go_ret;exact ⟨by rw [<- HOK.out,HF.out]; go_num,hbel⟩
   ·have he':((xs.length:Int) % 2 == 0) = false:=by simp; omega
    rw [decide_eq_false he] at HF;clear he;go_wp2;go_ret;exact ⟨by rw [<- HOK.out,HF.out]; rfl,hbel⟩
end Go.Proofs.YtdnjinhlhohfiaaGreatDoor
/- When a value is right but for its kids: the reference's l02Own. -/
namespace Go.Proofs.YtdnjinhlhohfiaaGreatDoor
open Go.RowKit
open Go.Lib (validD)
theorem isE (s:List UInt8):s.isEmpty = decide (s = []):=by cases s <;> simp
theorem len0 (l:List V):((l.length:Int) == 0) = decide (l = []):=by
 cases l with
 | nil => rfl
 | cons a r => simp; omega
theorem len1 (l:List V):((l.length:Int) == 1) = decide (l.length = 1):=by rw [Bool.eq_iff_iff]; simp; omega
set_option maxHeartbeats 400000 in
theorem zfu (n e:Int) (w:World) (hn:i64ok n) (he:-1000 <= e /\ e <= 1000) :
  Calls Tryz.prog 90 #[.int .i64 n,.int .i64 e] w fun r w' => r = .returned (.bool (decide (0 < e) && fitsN e.toNat n)) /\ w = w':=by
 by_cases h:0 < e
 ·obtain ⟨k,rfl⟩:∃ k:Nat,e = k:=⟨e.toNat,by omega⟩
  refine (zfr n k w hn (by omega)).mono ?_;rintro r w' ⟨rfl,rfl⟩;exact ⟨zaw (by rw [decide_eq_true (show 0 < k by omega),decide_eq_true h]; rfl),rfl⟩
 ·have H:=Lib.hid (show (decide (0 < e) && fitsN e.toNat n) = false by rw [decide_eq_false h]; rfl)
  have h2:¬ (0:Int) < e:=h
  go_enter Tryz.func90,Tryz.ntmps90
  go_wp2
  go_loopw [5] (fun i wr => i = .int .i64 0 /\ w = wr) (fun _ _ => 0)
  case atStart => exact ⟨rfl,rfl⟩
  case round =>
   obtain ⟨rfl,rfl⟩:=hrel;go_wp2;go_ret;exact ⟨by rw [H.out]; simp <;> omega,rfl⟩
set_option maxHeartbeats 4000000 in
set_option maxRecDepth 10000 in
theorem l02Own_any (x:V) (cs:List Value) (w:World) (h:Rd w x.d cs) (hwf:x.wf) (hbk:x.bulk <= 4294967295) :
  Calls Tryz.prog 75 #[.agg cs.toArray] w fun e w' => e = .returned (.bool x.self) /\ Below w.heap.size w w':=by
 obtain ⟨k,n,e,s,kids,v1,rfl,rfl,hkids⟩:=V.lay h;have hP:=Lib.hid (fun w1 (hb:Below w.heap.size w w1) => zft kids v1 w1 (hkids.below hb) (by simp only [V.bulk] at hbk; omega));obtain ⟨a1,c1,rfl⟩:=Rd.sl_form hkids;rw [V.ds_map,List.length_map] at hP ⊢;have hsl:s.length <= 4294967295:=by simp only [V.bulk] at hbk; omega
 have hkl:kids.length <= 4294967295:=by simp only [V.bulk] at hbk; omega
 obtain ⟨hk,hn,he,_,_,_⟩:=hwf;obtain ⟨ok,hok⟩:∃ ok,V.self (.mk k n e s kids) = ok:=⟨_,rfl⟩;rw [hok];have hA:=(Below.refl w.heap.size w).alloc (Nat.le_refl _) (.cells #[.int .i64 k,.int .i64 n,.int .i64 e,.string ⟨s.toArray⟩,.slice a1 kids.length c1] 26);clear h hkids hbk;have HOK:=Lib.hid hok; clear hok
 have HA:=Lib.hid hA; clear hA; have hW0:=Lib.hid hn; clear hW0
 by_cases q7:k = 7
 ·subst q7
  go_enter Tryz.func75,Tryz.ntmps75
  go_wp2
  go_quiet (fail)
  go_wp2
  all_goals (go_ret; refine ⟨zaw ?_,by first | exact Go.below_drewN ((Below.refl _ _).alloc (Nat.le_refl _) _) _ | exact zan (Go.below_drewN ((Below.refl _ _).alloc (Nat.le_refl _) _) _) (by assumption) (by first | exact Nat.le_refl _ | simp)⟩; rw [<- HOK.out]; simp_all [V.self,V.selfBy,isE] <;> (intros; omega))
 by_cases q0:k = 0
 ·subst q0
  go_enter Tryz.func75,Tryz.ntmps75
  go_wp2
  go_quiet (fail)
  go_wp2
  all_goals (go_ret; refine ⟨zaw ?_,by first | exact Go.below_drewN ((Below.refl _ _).alloc (Nat.le_refl _) _) _ | exact zan (Go.below_drewN ((Below.refl _ _).alloc (Nat.le_refl _) _) _) (by assumption) (by first | exact Nat.le_refl _ | simp)⟩; rw [<- HOK.out]; simp_all [V.self,V.selfBy,len0] <;> (intros; omega))
 by_cases q1:k = 1
 ·subst q1
  go_enter Tryz.func75,Tryz.ntmps75
  go_wp2
  go_quiet (fail)
  go_wp2
  all_goals (go_ret; refine ⟨zaw ?_,by first | exact Go.below_drewN ((Below.refl _ _).alloc (Nat.le_refl _) _) _ | exact zan (Go.below_drewN ((Below.refl _ _).alloc (Nat.le_refl _) _) _) (by assumption) (by first | exact Nat.le_refl _ | simp)⟩; rw [<- HOK.out]; simp_all [V.self,V.selfBy,len0] <;> (intros; omega))
 by_cases q2:k = 2
 ·subst q2
  go_enter Tryz.func75,Tryz.ntmps75
  go_wp2
  go_quiet (fail)
  go_wp2
  all_goals (go_ret; refine ⟨zaw ?_,by first | exact Go.below_drewN ((Below.refl _ _).alloc (Nat.le_refl _) _) _ | exact zan (Go.below_drewN ((Below.refl _ _).alloc (Nat.le_refl _) _) _) (by assumption) (by first | exact Nat.le_refl _ | simp)⟩; rw [<- HOK.out]; simp_all [V.self,V.selfBy,len0] <;> (intros; omega))
 by_cases q3:k = 3
 ·subst q3
  go_enter Tryz.func75,Tryz.ntmps75
  go_wp2
  go_quiet (fail)
  go_wp2
  all_goals (go_ret; refine ⟨zaw ?_,by first | exact Go.below_drewN ((Below.refl _ _).alloc (Nat.le_refl _) _) _ | exact zan (Go.below_drewN ((Below.refl _ _).alloc (Nat.le_refl _) _) _) (by assumption) (by first | exact Nat.le_refl _ | simp)⟩; rw [<- HOK.out]; simp_all [V.self,V.selfBy,len0] <;> (intros; omega))
 by_cases q6:k = 6
 ·subst q6
  by_cases hs2:s.length <= 2000
  ·skip
   go_enter Tryz.func75,Tryz.ntmps75
   go_wp2
   go_quiet (fail)
   go_wp2
   all_goals (go_ret; refine ⟨zaw ?_,by first | exact Go.below_drewN ((Below.refl _ _).alloc (Nat.le_refl _) _) _ | exact zan (Go.below_drewN ((Below.refl _ _).alloc (Nat.le_refl _) _) _) (by assumption) (by first | exact Nat.le_refl _ | simp)⟩; rw [<- HOK.out]; simp_all [V.self,V.selfBy,len0] <;> (intros; omega))
  ·skip
   go_enter Tryz.func75,Tryz.ntmps75
   go_wp2
   go_quiet (fail)
   go_wp2
   all_goals (go_ret; refine ⟨zaw ?_,by first | exact Go.below_drewN ((Below.refl _ _).alloc (Nat.le_refl _) _) _ | exact zan (Go.below_drewN ((Below.refl _ _).alloc (Nat.le_refl _) _) _) (by assumption) (by first | exact Nat.le_refl _ | simp)⟩; rw [<- HOK.out]; simp_all [V.self,V.selfBy] <;> (intros; omega))
 by_cases q5:k = 5
 ·subst q5
  by_cases hs2:s.length <= 2000
  ·skip
   go_enter Tryz.func75,Tryz.ntmps75
   go_wp2
   go_quiet (fail)
   go_wp2_with (go_at_call 86; refine (zcs s _ hsl).mono ?_; rintro e1 w1 ⟨rfl,hb1⟩; have f3:w1.cell? ⟨w.heap.size,3,none⟩ = some (.string ⟨s.toArray⟩):=(by rw [(za5 hb1).1 _ _ (by simp)]; simp [go_sem]); have f4:w1.cell? ⟨w.heap.size,4,none⟩ = some (.slice a1 kids.length c1):=(by rw [(za5 hb1).1 _ _ (by simp)]; simp [go_sem]))
   all_goals (go_ret; refine ⟨zaw ?_,by first | exact Go.below_drewN ((Below.refl _ _).alloc (Nat.le_refl _) _) _ | exact zan (Go.below_drewN ((Below.refl _ _).alloc (Nat.le_refl _) _) _) (by assumption) (by first | exact Nat.le_refl _ | simp)⟩; rw [<- HOK.out]; simp_all [V.self,V.selfBy,len0] <;> (intros; omega))
  ·skip
   go_enter Tryz.func75,Tryz.ntmps75
   go_wp2
   go_quiet (fail)
   go_wp2_with (go_at_call 86; refine (zcs s _ hsl).mono ?_; rintro e1 w1 ⟨rfl,hb1⟩; have f3:w1.cell? ⟨w.heap.size,3,none⟩ = some (.string ⟨s.toArray⟩):=(by rw [(za5 hb1).1 _ _ (by simp)]; simp [go_sem]); have f4:w1.cell? ⟨w.heap.size,4,none⟩ = some (.slice a1 kids.length c1):=(by rw [(za5 hb1).1 _ _ (by simp)]; simp [go_sem]))
   all_goals (go_ret; refine ⟨zaw ?_,by first | exact Go.below_drewN ((Below.refl _ _).alloc (Nat.le_refl _) _) _ | exact zan (Go.below_drewN ((Below.refl _ _).alloc (Nat.le_refl _) _) _) (by assumption) (by first | exact Nat.le_refl _ | simp)⟩; rw [<- HOK.out]; simp_all [V.self,V.selfBy] <;> (intros; omega))
 by_cases q8:k = 8
 ·subst q8
  go_enter Tryz.func75,Tryz.ntmps75
  go_wp2
  go_quiet (fail)
  go_wp2_with (go_at_call 91; refine (hP.out _ (Go.below_drewN ((Below.refl _ _).alloc (Nat.le_refl _) _) _)).mono ?_; rintro e1 w1 ⟨rfl,hb1⟩)
  all_goals (go_ret; refine ⟨zaw ?_,by first | exact Go.below_drewN ((Below.refl _ _).alloc (Nat.le_refl _) _) _ | exact zan (Go.below_drewN ((Below.refl _ _).alloc (Nat.le_refl _) _) _) (by assumption) (by first | exact Nat.le_refl _ | simp)⟩; rw [<- HOK.out]; simp_all [V.self,V.selfBy] <;> (intros; omega))
 by_cases q9:k = 9
 ·subst q9
  go_enter Tryz.func75,Tryz.ntmps75
  go_wp2
  go_quiet (fail)
  go_wp2_with (go_at_call 74; refine (zaH _ _ _ _).mono ?_; rintro e1 w1 ⟨rfl,rfl⟩)
  all_goals (go_ret; refine ⟨zaw ?_,by first | exact Go.below_drewN ((Below.refl _ _).alloc (Nat.le_refl _) _) _ | exact zan (Go.below_drewN ((Below.refl _ _).alloc (Nat.le_refl _) _) _) (by assumption) (by first | exact Nat.le_refl _ | simp)⟩; rw [<- HOK.out]; simp_all [V.self,V.selfBy,len1] <;> (intros; omega))
 by_cases q4:k = 4
 ·subst q4
  by_cases g1:Int.tmod n 10 = 0
  ·have g1':(Int.tmod n 10 != 0) = false:=by simpa using g1
   have H:=Lib.hid (show ok = false by rw [<- HOK.out]; simp [V.self,V.selfBy,decOk,g1])
   go_enter Tryz.func75,Tryz.ntmps75
   go_wp2
   go_quiet (fail)
   go_wp2;go_ret;exact ⟨by rw [H.out]; rfl,Go.below_drewN ((Below.refl _ _).alloc (Nat.le_refl _) _) _⟩
  ·have g1':(Int.tmod n 10 != 0) = true:=by simpa using g1
   by_cases g2:-20 <= e /\ e <= 20
   ·by_cases g3:e = 0
    ·subst g3
     have H:=Lib.hid (show ok = false by rw [<- HOK.out]; simp [V.self,V.selfBy,decOk])
     go_enter Tryz.func75,Tryz.ntmps75
     go_wp2
     go_quiet (fail)
     go_wp2_with (go_at_call 74; refine (zaH _ _ _ _).mono ?_; rintro e1 w1 ⟨rfl,rfl⟩)
     all_goals (go_ret; exact ⟨by rw [H.out]; rfl,Go.below_drewN ((Below.refl _ _).alloc (Nat.le_refl _) _) _⟩)
    ·have g3':(e == 0) = false:=by simpa using g3
     by_cases g4:-999999999999999999 <= n /\ n <= 999999999999999999
     ·by_cases g5:s = []
      ·subst g5
       by_cases g6:kids = []
       ·subst g6
        have H:=Lib.hid (show ok = !(decide (0 < e) && fitsN e.toNat n) by rw [<- HOK.out]; simp [V.self,V.selfBy,decOk,zaG g2,zaG g4,g1,g3])
        go_enter Tryz.func75,Tryz.ntmps75
        go_wp2
        go_quiet (fail)
        go_wp2_with (first | (go_at_call 74; refine (zaH _ _ _ _).mono ?_; rintro e1 w1 ⟨rfl,rfl⟩; first | rw [zaG g2] | rw [zaG g4]) | (go_at_call 90; refine (zfu n e _ hn (by omega)).mono ?_; rintro e1 w1 ⟨rfl,rfl⟩))
        go_ret;exact ⟨by rw [H.out]; simp,Go.below_drewN ((Below.refl _ _).alloc (Nat.le_refl _) _) _⟩
       ·have H:=Lib.hid (show ok = false by rw [<- HOK.out]; simp [V.self,V.selfBy,g6])
        have g6':((kids.length:Int) == 0) = false:=by rw [len0,decide_eq_false g6]
        go_enter Tryz.func75,Tryz.ntmps75
        go_wp2
        go_quiet (fail)
        go_wp2_with (first | (go_at_call 74; refine (zaH _ _ _ _).mono ?_; rintro e1 w1 ⟨rfl,rfl⟩; first | rw [zaG g2] | rw [zaG g4]))
        go_ret;exact ⟨by rw [H.out]; rfl,Go.below_drewN ((Below.refl _ _).alloc (Nat.le_refl _) _) _⟩
      ·have H:=Lib.hid (show ok = false by rw [<- HOK.out]; simp [V.self,V.selfBy,g5])
       have g5':s.isEmpty = false:=by rw [isE,decide_eq_false g5]
       go_enter Tryz.func75,Tryz.ntmps75
       go_wp2
       go_quiet (fail)
       go_wp2_with (first | (go_at_call 74; refine (zaH _ _ _ _).mono ?_; rintro e1 w1 ⟨rfl,rfl⟩; first | rw [zaG g2] | rw [zaG g4]))
       go_ret;exact ⟨by rw [H.out]; rfl,Go.below_drewN ((Below.refl _ _).alloc (Nat.le_refl _) _) _⟩
     ·have H:=Lib.hid (show ok = false by rw [<- HOK.out]; simp [V.self,V.selfBy,decOk,za6 g4])
      go_enter Tryz.func75,Tryz.ntmps75
      go_wp2
      go_quiet (fail)
      go_wp2_with (first | (go_at_call 74; refine (zaH _ _ _ _).mono ?_; rintro e1 w1 ⟨rfl,rfl⟩; first | rw [za6 g4] | rw [zaG g2]))
      go_ret;exact ⟨by rw [H.out]; rfl,Go.below_drewN ((Below.refl _ _).alloc (Nat.le_refl _) _) _⟩
   ·have H:=Lib.hid (show ok = false by rw [<- HOK.out]; simp [V.self,V.selfBy,decOk,za6 g2])
    have H2:=Lib.hid (za6 g2)
    go_enter Tryz.func75,Tryz.ntmps75
    go_wp2
    go_quiet (fail)
    go_wp2_with (go_at_call 74; refine (zaH _ _ _ _).mono ?_; rintro e1 w1 ⟨rfl,rfl⟩; try rw [H2.out])
    all_goals (go_ret; exact ⟨by rw [H.out]; rfl,Go.below_drewN ((Below.refl _ _).alloc (Nat.le_refl _) _) _⟩)
 have H:=Lib.hid (show ok = false by rw [<- HOK.out]; simp [V.self,V.selfBy,q0,q1,q2,q3,q4,q5,q6,q7,q8,q9])
 go_enter Tryz.func75,Tryz.ntmps75
 go_wp2
 go_quiet (fail)
 go_wp2
 all_goals (go_ret; exact ⟨by rw [H.out]; rfl,Go.below_drewN ((Below.refl _ _).alloc (Nat.le_refl _) _) _⟩)
end Go.Proofs.YtdnjinhlhohfiaaGreatDoor
/- When a value is right: the reference's l02Right, Nodes and ValueOk. -/
namespace Go.Proofs.YtdnjinhlhohfiaaGreatDoor
open Go.RowKit
def VRtA (n:Nat):Prop:=∀ (x:V) (cs:List Value) (d:Int) (w:World),x.nodes <= n -> Rd w x.d cs -> x.wf -> x.bulk <= 4294967295 -> -1000 <= d -> d <= 1000 ->
 Calls Tryz.prog 52 #[.agg cs.toArray,.int .i64 d] w fun e w' => e = .returned (.bool (V.rightBy pairsOk d x)) /\ Below w.heap.size w w'
theorem V.rights_false {q:List V -> Bool} {d:Int} {xs:List V} (k:Nat) (hk:k < xs.length) (h:V.rightBy q d xs[k] = false):V.rightsBy q d xs = false:=by
 rw [V.rightsBy_all]; apply Bool.eq_false_iff.2; intro hh
 rw [List.all_eq_true] at hh
 have:=hh xs[k] (List.getElem_mem hk); rw [h] at this; cases this
theorem V.rights_snoc {q:List V -> Bool} {d:Int} {xs:List V} (k:Nat) (hk:k < xs.length) (h:V.rightsBy q d (xs.take k) = true) (h2:V.rightBy q d xs[k] = true):V.rightsBy q d (xs.take (k + 1)) = true:=by
 rw [List.take_succ_eq_append_getElem hk,V.rightsBy_all,List.all_append]; rw [V.rightsBy_all] at h; rw [h]; simp [h2]
theorem V.nodes_split (xs:List V) (k:Nat) (hk:k < xs.length):V.nodess (xs.take (k + 1)) = V.nodess (xs.take k) + xs[k].nodes:=by
 rw [List.take_succ_eq_append_getElem hk]
 have hn:∀ (ls:List V) (x:V),V.nodess (ls ++ [x]) = V.nodess ls + x.nodes:=by
  intro ls x; induction ls with
  | nil => simp [V.nodess]
  | cons a ls ih => simp only [List.cons_append,V.nodess,ih]; omega
 exact hn _ _
theorem V.nodess_take:∀ (xs:List V) (k:Nat),V.nodess (xs.take k) <= V.nodess xs
 | [],k => by simp [V.nodess]
 | x :: xs,0 => by simp [V.nodess]
 | x :: xs,k + 1 => by have:=V.nodess_take xs k; simp only [List.take_succ_cons,V.nodess]; omega
mutual
theorem V.nodes_bulk:∀ x:V,x.nodes <= x.bulk + 1
 | .mk _ _ _ s kids => by have:=V.nodess_bulks kids; simp only [V.nodes,V.bulk]; omega
theorem V.nodess_bulks:∀ xs:List V,V.nodess xs <= xs.length + V.bulks xs
 | [] => by simp [V.nodess]
 | x :: xs => by have:=V.nodes_bulk x; have:=V.nodess_bulks xs; simp only [V.nodess,V.bulks,List.length_cons]; omega
end
theorem V.bulk_get' {ls:List V} {m:Nat} (h:ls.length + V.bulks ls <= m) (k:Nat) (hk:k < ls.length):ls[k].bulk <= m:=by
 have h1:=V.bulks_snoc ls k hk; have h2:=V.bulks_take ls (k + 1); omega
set_option maxHeartbeats 2000000 in
set_option maxRecDepth 10000 in
theorem VRtA_of {n:Nat} (hA:VRtA n):VRtA (n + 1):=by
 intro x cs d w hn h hwf hbk hd1 hd2;have HO:=Lib.hid (fun w1 (hb:Below w.heap.size w w1) => l02Own_any x cs w1 (h.below hb) hwf hbk);obtain ⟨k,m,e,s,kids,v1,rfl,rfl,hkids⟩:=V.lay h;have hnk:V.nodess kids <= n:=by simp only [V.nodes] at hn; omega
 have hkw:V.wfs kids:=hwf.2.2.2.2.2;have hkb:kids.length + V.bulks kids <= 4294967295:=by simp only [V.bulk] at hbk; omega
 obtain ⟨a2,c2,rfl,hg⟩:=hkids.values;obtain ⟨ok,hok⟩:∃ ok,V.rightBy pairsOk d (.mk k m e s kids) = ok:=⟨_,rfl⟩;rw [hok];have HOK:=Lib.hid hok; clear hok
 obtain ⟨W0,hW0⟩:∃ W0,W0 = w.alloc (.cells #[.int .i64 k,.int .i64 m,.int .i64 e,.string ⟨s.toArray⟩,.slice a2 kids.length c2] 26):=⟨_,rfl⟩;have HW:=Lib.hid hW0;have hA0:Below w.heap.size w W0:=by rw [hW0]; exact (Below.refl _ _).alloc (Nat.le_refl _) _
 have hz:w.heap.size < W0.heap.size:=by rw [hW0]; simp
 have KB:Hid (∀ W,Below W0.heap.size W0 W -> W.cell? ⟨w.heap.size,0,none⟩ = some (.int .i64 k) /\ W.cell? ⟨w.heap.size,1,none⟩ = some (.int .i64 m) /\ W.cell? ⟨w.heap.size,2,none⟩ = some (.int .i64 e) /\ W.cell? ⟨w.heap.size,3,none⟩ = some (.string ⟨s.toArray⟩) /\ W.cell? ⟨w.heap.size,4,none⟩ = some (.slice a2 kids.length c2)):=by
  intro W hb;obtain ⟨hc,_⟩:=za5 hb;simp only [hc _ _ hz]; subst hW0; simp
 clear hW0 h hkids hwf hbk;obtain ⟨f0,f1,f2,f3,f4⟩:=KB.out _ (Below.refl _ _);by_cases hd0:d < 0
 ·have HF:=Lib.hid (show ok = false by rw [<- HOK.out]; simp only [V.rightBy]; rw [decide_eq_false (show ¬ 0 <= d by omega)]; simp)
  go_enter Tryz.func52,Tryz.ntmps52
  go_wp2;rw [<- HW.out];go_ret;exact ⟨by rw [HF.out]; rfl,hA0⟩
 have D0:=Lib.hid (decide_eq_true (show 0 <= d by omega))
 cases hs:V.self (.mk k m e s kids) with
 | false =>
  have HS:=Lib.hid hs;have HF:=Lib.hid (show ok = false by rw [<- HOK.out]; simp only [V.rightBy]; rw [show V.selfBy pairsOk (.mk k m e s kids) = false from hs]; simp);clear hs
  go_enter Tryz.func52,Tryz.ntmps52
  go_wp2_with (go_at_call 75; rw [<- HW.out]; refine (HO.out _ hA0).mono ?_; rw [HS.out]; rintro e w1 ⟨rfl,hb1⟩)
  go_ret
  exact ⟨by rw [HF.out]; rfl,zan hA0 hb1 (Nat.le_refl _)⟩
 | true =>
 have HS:=Lib.hid hs;have HF0:=Lib.hid (show ok = V.rightsBy pairsOk (d - 1) kids by rw [<- HOK.out]; simp only [V.rightBy]; rw [show V.selfBy pairsOk (.mk k m e s kids) = true from hs,D0.out]; simp);clear hs
 go_enter Tryz.func52,Tryz.ntmps52
 go_wp2_with (go_at_call 75; rw [<- HW.out]; refine (HO.out _ hA0).mono ?_; rw [HS.out]; rintro e w1 ⟨rfl,hb1⟩)
 go_loopw [5] (fun i wr => ∃ (j:Nat),j <= kids.length /\ i = .int .i64 j /\ V.rightsBy pairsOk (d - 1) (kids.take j) = true /\ Below W0.heap.size W0 wr) (fun i _ => kids.length - (intOf i).toNat)
 case atStart => exact ⟨0,Nat.zero_le _,rfl,by simp [V.rightsBy],hb1⟩
 case round =>
  obtain ⟨j,hj,rfl,hr,hbel⟩:=hrel;have HR:=Lib.hid hr; clear hr f0 f1 f2 f3 f4
  obtain ⟨f0,f1,f2,f3,f4⟩:=KB.out _ hbel;have hbw:=zan hA0 hbel (Nat.le_refl _);by_cases hlt:j < kids.length
  ·obtain ⟨_,_,b,o,rfl,hb,hcell⟩:=hg (by intro e; rw [e] at hlt; simp at hlt)
   obtain ⟨v0,v1,v2,v3,v4,hr,d0,d1,d2,d3,d4⟩:=hcell j hlt;clear hcell hg;obtain ⟨k1,k2,k3,s4,a6,n6,m6,hcs⟩:=V.form hr;simp only [List.cons.injEq,and_true] at hcs;obtain ⟨rfl,rfl,rfl,rfl,rfl⟩:=hcs;have hbc:=(za5 hbw).1;rw [<- hbc _ _ hb] at d0 d1 d2 d3 d4;clear hbc;have hi1:(0:Int) <= j:=by omega
   have hi3:(j:Int) < kids.length:=by omega
   have hn1:=V.nodes_get kids j hlt;have HC:=Lib.hid (hA kids[j] _ (d - 1) wr (Nat.le_trans hn1 hnk) (hr.below hbw) (V.wfs_get hkw j hlt) (V.bulk_get' hkb j hlt) (by omega) (by omega))
   cases hv:V.rightBy pairsOk (d - 1) kids[j] with
   | true =>
    have HV:=Lib.hid hv;have HS2:=Lib.hid (V.rights_snoc j hlt HR.out hv);clear hv
    go_wp2_with (go_at_call 52; refine HC.out.mono ?_; rw [HV.out]; rintro e w2 ⟨rfl,hb2⟩)
    go_roundw
    case rel => exact ⟨j + 1,by omega,by go_num,HS2.out,zan hbel hb2 (Nat.le_refl _)⟩
    case measure => simp [intOf]; omega
   | false =>
    have HV:=Lib.hid hv;have HF:=Lib.hid (show ok = false by rw [HF0.out]; exact V.rights_false j hlt hv);clear hv
    go_wp2_with (go_at_call 52; refine HC.out.mono ?_; rw [HV.out]; rintro e w2 ⟨rfl,hb2⟩)
    go_ret;exact ⟨by rw [HF.out]; rfl,zan hbw hb2 (Nat.le_refl _)⟩
  ·obtain rfl:j = kids.length:=by omega
   have h1:=HR.out;rw [List.take_length] at h1;have HF:=Lib.hid (show ok = true by rw [HF0.out]; exact h1);clear h1;go_wp2;go_ret;exact ⟨by rw [HF.out]; rfl,hbw⟩
theorem VRt_all:∀ n,VRtA n
 | 0 => fun x cs d w hn => absurd x.nodes_pos (by omega)
 | n + 1 => VRtA_of (VRt_all n)
def VMnA (n:Nat):Prop:=∀ (x:V) (cs:List Value) (w:World),x.nodes <= n -> Rd w x.d cs -> x.bulk <= 4294967295 ->
 Calls Tryz.prog 53 #[.agg cs.toArray] w fun e w' => e = .returned (.int .i64 (x.nodes:Nat)) /\ Below w.heap.size w w'
set_option maxHeartbeats 2000000 in
set_option maxRecDepth 10000 in
theorem VMnA_of {n:Nat} (hA:VMnA n):VMnA (n + 1):=by
 intro x cs w hn h hbk;obtain ⟨k,m,e,s,kids,v1,rfl,rfl,hkids⟩:=V.lay h;have hnk:V.nodess kids <= n:=by simp only [V.nodes] at hn; omega
 have hkb:kids.length + V.bulks kids <= 4294967295:=by simp only [V.bulk] at hbk; omega
 have hnb:=V.nodess_bulks kids;obtain ⟨a2,c2,rfl,hg⟩:=hkids.values;obtain ⟨W0,hW0⟩:∃ W0,W0 = w.alloc (.cells #[.int .i64 k,.int .i64 m,.int .i64 e,.string ⟨s.toArray⟩,.slice a2 kids.length c2] 26):=⟨_,rfl⟩;have HW:=Lib.hid hW0;have hA0:Below w.heap.size w W0:=by rw [hW0]; exact (Below.refl _ _).alloc (Nat.le_refl _) _
 have hz:w.heap.size < W0.heap.size:=by rw [hW0]; simp
 have KB:Hid (∀ W,Below W0.heap.size W0 W -> W.cell? ⟨w.heap.size,4,none⟩ = some (.slice a2 kids.length c2)):=by
  intro W hb;obtain ⟨hc,_⟩:=za5 hb;simp only [hc _ _ hz]; subst hW0; simp
 clear hW0 h hkids hbk
 go_enter Tryz.func53,Tryz.ntmps53
 go_wp2;rw [<- HW.out]
 go_loopw [3,4] (fun x i wr => ∃ (j:Nat),j <= kids.length /\ i = .int .i64 j /\ x = .int .i64 (1 + V.nodess (kids.take j):Nat) /\ Below W0.heap.size W0 wr) (fun _ i _ => kids.length - (intOf i).toNat)
 case atStart => exact ⟨0,Nat.zero_le _,rfl,by simp [V.nodess],Below.refl _ _⟩
 case round =>
  obtain ⟨j,hj,rfl,rfl,hbel⟩:=hrel;have f5:=KB.out _ hbel;have hbw:=zan hA0 hbel (Nat.le_refl _);by_cases hlt:j < kids.length
  ·obtain ⟨_,_,b,o,rfl,hb,hcell⟩:=hg (by intro e; rw [e] at hlt; simp at hlt)
   obtain ⟨v0,v1,v2,v3,v4,hr,d0,d1,d2,d3,d4⟩:=hcell j hlt;clear hcell hg;obtain ⟨k1,k2,k3,s4,a6,n6,m6,hcs⟩:=V.form hr;simp only [List.cons.injEq,and_true] at hcs;obtain ⟨rfl,rfl,rfl,rfl,rfl⟩:=hcs;have hbc:=(za5 hbw).1;rw [<- hbc _ _ hb] at d0 d1 d2 d3 d4;clear hbc;have hi1:(0:Int) <= j:=by omega
   have hi3:(j:Int) < kids.length:=by omega
   have hn1:=V.nodes_get kids j hlt;have HC:=Lib.hid (hA kids[j] _ wr (Nat.le_trans hn1 hnk) (hr.below hbw) (V.bulk_get' hkb j hlt));have HS:=Lib.hid (V.nodes_split kids j hlt);have ht1:=V.nodess_take kids j;obtain ⟨q,hq⟩:∃ q,V.nodess (kids.take j) = q:=⟨_,rfl⟩;rw [hq] at HS ht1 ⊢;clear hq;obtain ⟨p,hp⟩:∃ p,kids[j].nodes = p:=⟨_,rfl⟩;rw [hp] at HS hn1 HC;clear hp
   go_wp2_with (go_at_call 53; refine HC.out.mono ?_; rintro e w1 ⟨rfl,hb1⟩)
   go_roundw
   case rel => exact ⟨j + 1,by omega,by go_num,by rw [HS.out]; go_num,zan hbel hb1 (Nat.le_refl _)⟩
   case measure => simp [intOf]; omega
  ·obtain rfl:j = kids.length:=by omega
   rw [List.take_length];go_wp2;go_ret;exact ⟨rfl,hbw⟩
theorem VMn_all:∀ n,VMnA n
 | 0 => fun x cs w hn => absurd x.nodes_pos (by omega)
 | n + 1 => VMnA_of (VMn_all n)
set_option maxHeartbeats 400000 in
set_option maxRecDepth 10000 in
theorem zfv (x:V) (cs:List Value) (w:World) (h:Rd w x.d cs) (hwf:x.wf) (hbk:x.bulk <= 4294967295) :
  Calls Tryz.prog 26 #[.agg cs.toArray] w fun e w' => e = .returned (.bool x.ok) /\ Below w.heap.size w w':=by
 obtain ⟨k,m,e,s,a2,n2,c2,rfl⟩:=V.form h;obtain ⟨W0,hW0⟩:∃ W0,W0 = w.alloc (.cells #[.int .i64 k,.int .i64 m,.int .i64 e,.string ⟨s.toArray⟩,.slice a2 n2 c2] 26):=⟨_,rfl⟩;have HW:=Lib.hid hW0;have hA:Below w.heap.size w W0:=by rw [hW0]; exact (Below.refl _ _).alloc (Nat.le_refl _) _
 have hz:w.heap.size < W0.heap.size:=by rw [hW0]; simp
 have KB:Hid (∀ W,Below W0.heap.size W0 W -> W.cell? ⟨w.heap.size,0,none⟩ = some (.int .i64 k) /\ W.cell? ⟨w.heap.size,1,none⟩ = some (.int .i64 m) /\ W.cell? ⟨w.heap.size,2,none⟩ = some (.int .i64 e) /\ W.cell? ⟨w.heap.size,3,none⟩ = some (.string ⟨s.toArray⟩) /\ W.cell? ⟨w.heap.size,4,none⟩ = some (.slice a2 n2 c2)):=by
  intro W hb;obtain ⟨hc,_⟩:=za5 hb;simp only [hc _ _ hz]; subst hW0; simp
 have hnb:=x.nodes_bulk;have HR:=Lib.hid (fun W (hb:Below W0.heap.size W0 W) => VRt_all x.nodes x _ 12 W (Nat.le_refl _) (h.below (zan hA hb (Nat.le_refl _))) hwf hbk (by decide) (by decide));have HM:=Lib.hid (fun W (hb:Below W0.heap.size W0 W) => VMn_all x.nodes x _ W (Nat.le_refl _) (h.below (zan hA hb (Nat.le_refl _))) hbk);have hB:=Below.refl W0.heap.size W0;clear hW0 h
 go_enter Tryz.func26,Tryz.ntmps26
 cases hr:V.rightBy pairsOk 12 x with
 | true =>
  have HV:=Lib.hid hr; clear hr
  go_wp2_with (first | (go_at_call 52; rw [<- HW.out]; refine (HR.out _ hB).mono ?_; rw [HV.out]; rintro e w1 ⟨rfl,hb1⟩; obtain ⟨p0,p1,p2,p3,p4⟩:=KB.out _ hb1) | (go_at_call 53; refine (HM.out _ hb1).mono ?_; rintro e w2 ⟨rfl,hb2⟩))
  go_ret;refine ⟨zaw ?_,zan hA (zan hb1 hb2 (Nat.le_refl _)) (Nat.le_refl _)⟩
  unfold V.ok; rw [HV.out,Bool.true_and,Bool.eq_iff_iff]; simp; omega
 | false =>
  have HV:=Lib.hid hr; clear hr
  go_wp2_with (first | (go_at_call 52; rw [<- HW.out]; refine (HR.out _ hB).mono ?_; rw [HV.out]; rintro e w1 ⟨rfl,hb1⟩))
  go_ret;refine ⟨zaw ?_,zan hA hb1 (Nat.le_refl _)⟩;unfold V.ok; rw [HV.out]; rfl
end Go.Proofs.YtdnjinhlhohfiaaGreatDoor
namespace Go.Proofs.YtdnjinhlhohfiaaGreatDoor
open Go.RowKit
set_option maxHeartbeats 4000000
set_option maxRecDepth 100000
open List
section
variable {T:World -> Prop} {hT:Low ngl T}
theorem zfw (v:V) (hw:v.wf) (hb:v.bulk <= 4294967295):FnV (env T hT) 26 [.ag (vC v)] (.d (pB v.ok)):=by
 refine FnV.old rfl fun w C vs hF _ _ hlen hv => ?_
 match vs,hlen with
 | [a],_ =>
  have h0:=hv 0 _ _ rfl rfl;rw [<- V.pc_eq] at h0;obtain ⟨cs,rfl,h1⟩:=vRd hF (V.wfd v) h0;exact zfv v cs w h1 hw hb
end
section
open Go.Lib (validD)
theorem OwnB.keep {w w':World} {B u8:Nat} {v:Value} {l:L8} (h:OwnB w B u8 v l) (hb:Below w.heap.size w w'):OwnB w' B u8 v l:=by
 refine ⟨h.1,?_⟩
 rcases h.2 with h2 | ⟨g,cap,cur,hv,hg,hh,r⟩
 ·exact .inl h2
 ·exact .inr ⟨g,cap,cur,hv,hg,by rw [hb.block g (zaq hh)]; exact hh,r⟩
theorem tyBp:ElemTy Tryz.prog 22 5 1 1:=ElemTy.mk' (z:=.int .u8 0) Tryz.underlying22 (by kernel_rfl) rfl (by decide)
theorem zfx (st:List (L8)) (v:Value) (w:World) (h:StrRow w v st) (hl:st.length <= 4294967295) (hs:∀ s ∈ st,s.length <= 4294967295) :
  Calls Tryz.prog 68 #[v] w fun e w' => e = .returned (.string ⟨(putPath st).toArray⟩) /\ Below w.heap.size w w':=by
 obtain ⟨a,c,rfl,hg⟩:=h;obtain ⟨tot,htot⟩:∃ tot,putPath st = tot:=⟨_,rfl⟩;rw [htot];have HTOT:=Lib.hid htot; clear htot
 have HG:=Lib.hid hg; clear hg
 go_enter Tryz.func68,Tryz.ntmps68
 go_wp2
 go_loopw [3,4] (fun v i wr => ∃ j:Nat,j <= st.length /\ i = .int .i64 j /\ OwnB wr w.heap.size 5 v (pathL (st.take j)) /\ v ≠ .slice none 0 0 /\ (st.take j).all stepOk = true /\ (0 < j -> st.length <= 12) /\ Below w.heap.size w wr) (fun _ i _ => st.length - (intOf i).toNat)
 case atStart => exact ⟨0,Nat.zero_le _,rfl,by simpa [pathL] using OwnB.start,by simp,rfl,by simp,(Below.refl _ _).alloc lR _⟩
 case round =>
  obtain ⟨j,hj,rfl,hown,hvn,hall,h12,hbel⟩:=hrel;obtain ⟨g,cp,rfl,hgB⟩:=hown.form' hvn;have hpl:=zbU _ hall;rw [length_take,Nat.min_eq_left hj] at hpl;obtain ⟨pre,hpre⟩:∃ pre,pathL (st.take j) = pre:=⟨_,rfl⟩;rw [hpre] at hown hpl ⊢;have HPRE:=Lib.hid hpre; clear hpre
  have HALL:=Lib.hid hall; clear hall
  have hzz:=hbel.size;by_cases hlt:j < st.length
  ·have i1:(0:Int) <= j:=by omega
   have i2:(j:Int) < st.length:=by omega
   obtain ⟨b,o,rfl,hcell⟩:=HG.out (by intro e; rw [e] at hlt; simp at hlt);have hd:=hcell j hlt;have hbb:=zcP hd;have HCELL:=Lib.hid hd;rw [<- (za5 hbel).1 _ _ hbb] at hd;obtain ⟨s,hsj⟩:∃ s,st[j] = s:=⟨_,rfl⟩;have hsl:s.length <= 4294967295:=by rw [<- hsj]; exact hs _ (getElem_mem hlt)
   rw [hsj] at hd;have HSJ:=Lib.hid hsj;clear hcell hsj;by_cases hlen:st.length <= 12
   ·have i3:¬ (12:Int) < st.length:=by omega
    have HC:=Lib.hid (zcs s wr hsl)
    cases hv:validD s with
    | false =>
     have HF:=Lib.hid (show tot = [] by rw [<- HTOT.out]; exact zef hlt (by rw [HSJ.out]; unfold stepOk; rw [hv]; rfl));rw [hv] at HC;clear hv
     go_wp2_with (go_at_call 86; refine HC.out.mono ?_; rintro e1 w1 ⟨rfl,hb1⟩)
     go_ret
     exact ⟨by rw [HF.out]; rfl,zan hbel hb1 lR⟩
    | true =>
     rw [hv] at HC;by_cases h20:s.length <= 2000
     ·have i4:¬ (2000:Int) < s.length:=by omega
      have HOK:=Lib.hid (show stepOk s = true by unfold stepOk; rw [hv,decide_eq_true h20]; rfl);have hjl:j <= 12:=by omega
      clear hv
      go_wp2_with (first | (go_at_call 86; refine HC.out.mono ?_; rintro e1 w1 ⟨rfl,hb1⟩; have hd1:=hd; rw [<- (za5 hb1).1 _ _ (Nat.lt_of_lt_of_le hbb hzz)] at hd1; have hown1:=hown.keep hb1; have hz1:=hb1.size) | (at_builtin; refine zen (r:=[47]) tyBp rfl rfl w.heap.size (hown1.alloc _) rfl ⟨w1.heap.size,0,none⟩ 1 rfl (zbT (w:=w1) (news:=[.int .u8 47])) (by simp; omega) (by simp; omega) ?_))
      intro v' w2 hown2 hgr hvn2;have hbel2:=OwnB.below (hown1.alloc _) ((zan hbel hb1 lR).alloc (by omega) _) hgr (by simp; omega);have hvn3:v' ≠ .slice none 0 0:=fun e => by have:=hvn2 e; simp at this
      clear hvn2 hgr hown1 hown hd1 hd HC hvn;go_wp2
      go_loopw [3,5] (fun v i wr => ∃ k:Nat,k <= s.length /\ i = .int .i64 k /\ OwnB wr w.heap.size 5 v (pre ++ ([47] ++ esc (s.take k))) /\ v ≠ .slice none 0 0 /\ Below w.heap.size w wr) (fun _ i _ => s.length - (intOf i).toNat)
      case atStart => exact ⟨0,Nat.zero_le _,rfl,by simpa [esc] using hown2,hvn3,hbel2⟩
      case round =>
       obtain ⟨k,hk,rfl,hownk,hvnk,hbelk⟩:=hrel;obtain ⟨gk,ck,rfl,hgk⟩:=hownk.form' hvnk;obtain ⟨es,hes⟩:∃ es,esc (s.take k) = es:=⟨_,rfl⟩;have hel:es.length <= 4000:=by rw [<- hes]; have:=zcU (s.take k); rw [length_take] at this; omega
       rw [hes] at hownk ⊢;have HES:=Lib.hid hes; clear hes
       have hdk:wr.cell? ⟨b,o + j,none⟩ = some (.string ⟨s.toArray⟩):=by
        rw [(za5 hbelk).1 _ _ hbb,<- HSJ.out]; exact HCELL.out
       have hzk:=hbelk.size;have k1:(0:Int) <= k:=by omega
       by_cases hkl:k < s.length
       ·have k2:(k:Int) < s.length:=by omega
        have HS:=Lib.hid (esc_take s k hkl);obtain ⟨bt,hbt⟩:∃ bt,s[k] = bt:=⟨_,rfl⟩;rw [hbt] at HS
        rcases zfj bt with ⟨h1,h2⟩ | ⟨h0,h1,h2⟩ | ⟨h0,h1,h2⟩
        ·subst h1
         have HE:=Lib.hid (show pre ++ ([47] ++ esc (s.take (k + 1))) = pre ++ 47 :: (es ++ [126,48]) by rw [HS.out,HES.out,h2]; simp);clear h2
         go_wp2_with (at_builtin; refine zen (r:=[126,48]) tyBp rfl rfl w.heap.size (hownk.alloc _) rfl ⟨wr.heap.size,0,none⟩ 2 rfl (zbT (w:=wr) (news:=[.int .u8 126,.int .u8 48])) (by simp; omega) (by simp; omega) ?_)
         intro v4 w4 hown4 hgr4 hvn4;have hbel4:=OwnB.below (hownk.alloc _) (hbelk.alloc (by omega) _) hgr4 (by simp; omega);go_wp2;go_roundw
         case rel => exact ⟨k + 1,by omega,by go_num,by rw [HE.out]; exact hown4,fun e => by have:=hvn4 e; simp at this,hbel4⟩
         case measure => simp [intOf]; omega
        ·subst h1
         have HE:=Lib.hid (show pre ++ ([47] ++ esc (s.take (k + 1))) = pre ++ 47 :: (es ++ [126,49]) by rw [HS.out,HES.out,h2]; simp);clear h2 h0
         go_wp2_with (at_builtin; refine zen (r:=[126,49]) tyBp rfl rfl w.heap.size (hownk.alloc _) rfl ⟨wr.heap.size,0,none⟩ 2 rfl (zbT (w:=wr) (news:=[.int .u8 126,.int .u8 49])) (by simp; omega) (by simp; omega) ?_)
         intro v4 w4 hown4 hgr4 hvn4;have hbel4:=OwnB.below (hownk.alloc _) (hbelk.alloc (by omega) _) hgr4 (by simp; omega);go_wp2;go_roundw
         case rel => exact ⟨k + 1,by omega,by go_num,by rw [HE.out]; exact hown4,fun e => by have:=hvn4 e; simp at this,hbel4⟩
         case measure => simp [intOf]; omega
        ·have HE:=Lib.hid (show pre ++ ([47] ++ esc (s.take (k + 1))) = pre ++ 47 :: (es ++ [bt]) by rw [HS.out,HES.out,h2]; simp)
         have n1:((bt.toNat:Int) == 126) = false:=by
          have:bt.toNat ≠ 126:=fun e => h0 (UInt8.toNat_inj.1 e)
          simp; omega
         have n2:((bt.toNat:Int) == 47) = false:=by
          have:bt.toNat ≠ 47:=fun e => h1 (UInt8.toNat_inj.1 e)
          simp; omega
         clear h2 h0 h1
         go_wp2_with (at_builtin; refine zen (r:=[bt]) tyBp rfl rfl w.heap.size (hownk.alloc _) rfl ⟨wr.heap.size,0,none⟩ 1 rfl (zbT (w:=wr) (news:=[.int .u8 (bt.toNat:Nat)])) (by simp; omega) (by simp; omega) ?_)
         intro v4 w4 hown4 hgr4 hvn4;have hbel4:=OwnB.below (hownk.alloc _) (hbelk.alloc (by omega) _) hgr4 (by simp; omega);go_wp2;go_roundw
         case rel => exact ⟨k + 1,by omega,by go_num,by rw [HE.out]; exact hown4,fun e => by have:=hvn4 e; simp at this,hbel4⟩
         case measure => simp [intOf]; omega
       ·obtain rfl:k = s.length:=by omega
        have hE:=HES.out;rw [take_length] at hE;have HP:=Lib.hid (show pathL (st.take (j + 1)) = pre ++ ([47] ++ es) by rw [pathL_take st j hlt,HPRE.out,HSJ.out,hE]; rfl);have HA:=Lib.hid (show (st.take (j + 1)).all stepOk = true by rw [take_succ_eq_append_getElem hlt,all_append,HALL.out,HSJ.out]; simp [HOK.out]);have k2:¬ ((s.length:Int) < s.length):=by omega
        clear hE;go_wp2;go_roundw
        case rel => exact ⟨j + 1,by omega,by go_num,by rw [HP.out]; exact hownk,by simp,HA.out,fun _ => hlen,hbelk⟩
        case measure => simp [intOf]; omega
     ·have i4:(2000:Int) < s.length:=by omega
      have HF:=Lib.hid (show tot = [] by rw [<- HTOT.out]; exact zef hlt (by rw [HSJ.out]; unfold stepOk; rw [decide_eq_false h20,Bool.and_false]));clear hv
      go_wp2_with (go_at_call 86; refine HC.out.mono ?_; rintro e1 w1 ⟨rfl,hb1⟩; have hd1:=hd; rw [<- (za5 hb1).1 _ _ (Nat.lt_of_lt_of_le hbb hzz)] at hd1)
      go_ret;exact ⟨by rw [HF.out]; rfl,zan hbel hb1 lR⟩
   ·have i3:(12:Int) < st.length:=by omega
    have HF:=Lib.hid (show tot = [] by rw [<- HTOT.out]; exact zfi hlen);go_wp2;go_ret;exact ⟨by rw [HF.out]; rfl,hbel⟩
  ·obtain rfl:j = st.length:=by omega
   have hp:=HPRE.out;have ha:=HALL.out;rw [take_length] at hp ha
   have HF:=Lib.hid (show tot = pre by
    rw [<- HTOT.out,<- hp]; unfold putPath
    by_cases h0:st.length = 0
    ·have:=length_eq_zero_iff.1 h0; subst this; simp [pathL]
    ·rw [if_pos ⟨h12 (by omega),ha⟩])
   have hcv:=hown.str (P:=Tryz.prog) 22 Tryz.underlying22 Tryz.underlying5;have i2:¬ ((st.length:Int) < st.length):=by omega
   clear hp ha;go_wp2;go_ret;exact ⟨by rw [HF.out]; rfl,hbel⟩
end
section
section
variable {P:Program} {NG:Nat} {T:World -> Prop}
theorem zbw {w:World} {ops:Array Oper} {rest:List Oper} {o:Oper} {a:Act} {Q:Exit -> Act -> World -> Prop} (hgd:o.guard = none) (sl x:Operand) (t u:TypeId)
  (ho:o.op = .call { callee:=.builtin .append,args:=#[sl,x],argTypes:=#[t,u] }) (v y v':Value) (w':World) (hs:a.eval sl = v) (hx:a.eval x = y) (hr:(Builtin.append_ #[t,u] o.type #[v,y]).run P w = .ok v' w') (h:wpList P ops Q rest (a.put o.dst v') w'):wpList P ops Q (o :: rest) a w:=by
 refine wpList_plain hgd fun K hK => ?_
 unfold Oper.wp execOp;simp only [ho,resolve,invoke,builtin,Sem.run_bind,Sem.run_pure,Result.andThen_ok,map_toArray,map_cons,map_nil,hs,hx,hr];exact hK _ _ h
theorem Inv.alloc (hL:Low NG T) {C:Cx} {bx:LP PC} {live:Nat -> Prop} {w:World} (h:Inv NG T C bx live w) (o:Obj):Inv NG T C bx live (w.alloc o):=by
 have hold:∀ k,k < w.heap.size -> (w.alloc o).heap[k]? = w.heap[k]?:=fun k hk => heap_alloc_old w o hk
 have hfix:=zdp h.fin o;have hs:w.heap.size <= (w.alloc o).heap.size:=by simp
 refine ⟨h.nb,fun p cs hp => ?_,h.boxF,h.boxG,h.inj,fun t ht => ?_,h.tinj,fun b o' hF => Nat.lt_of_lt_of_le (h.fin b o' hF) hs,Nat.le_trans h.ng hs,hL w _ h.t hs fun k hk => hold k (Nat.lt_of_lt_of_le hk h.ng)⟩
 ·obtain ⟨vs,e,h1,h2⟩:=h.box p cs hp
  exact ⟨vs,e,(hold _ (zaq h1)).trans h1,h2.frame (CxLe.refl C) hfix⟩
 ·obtain ⟨a1,a2,a3⟩:=h.tok t ht
  refine ⟨a1,a2,a3.imp id ?_⟩;rintro ⟨b,cur,e,c1,c2,c3,c4⟩;exact ⟨b,cur,e,c1,c2,(hold _ (zaq c3)).trans c3,c4⟩
end
end
section
theorem row_cells {C:Cx} {w:World} {z:List PC} {us:List Value} {L:List Value} (h:RpL C w z us) (hz:z.take L.length = L.map PC.v):L.length <= us.length /\ ∀ i,i < L.length -> us[i]? = some (L.getD i undef) /\ RpC C w (.v (L.getD i undef)) (L.getD i undef):=by
 have hzl:L.length <= z.length:=by
  have:=congrArg length hz
  rw [length_take,length_map] at this; omega
 refine ⟨by rw [h.1]; exact hzl,fun i hi => ?_⟩
 have h1:z[i]? = some (.v (L.getD i undef)):=by
  have h2:=congrArg (·[i]?) hz;simp only [getElem?_take,if_pos hi,getElem?_map,getElem?_eq_getElem hi,Option.map_some] at h2;rw [h2,getD_eq_getElem?_getD,getElem?_eq_getElem hi]; rfl
 have hlt:i < us.length:=by rw [h.1]; omega
 have h3:us[i]? = some us[i]:=getElem?_eq_getElem hlt;have h4:=h.2 i _ _ h1 h3;generalize us[i] = q at h3 h4;generalize L.getD i undef = y at h4 ⊢
 cases h4 with
 | v _ hv => exact ⟨h3,.v _ hv⟩
theorem row_data {C C2:Cx} {w:World} {b cap:Nat} {us:List Value} {e:TypeId} {L:List Value} (hh:w.heap[b]? = some (.cells us.toArray e (0,0))) (hc:∀ i,i < L.length -> us[i]? = some (L.getD i undef) /\ RpC C w (.v (L.getD i undef)) (L.getD i undef))
  (hF:∀ i,i < L.length -> C2.F b i) (hlc:L.length <= cap) (hcm:cap <= maxLen):RpC C2 w (.sl 0 (aR L)) (.slice (some ⟨b,0,none⟩) L.length cap):=by
 have hra:RowAt C2 w b 0 1 (aR L) (fun i _ => L.getD i undef):=by
  refine ⟨by decide,fun e he => aR_wid L e he,fun i j hi hj => ?_,fun i j hi hj => ?_⟩
  ·rw [zfd] at hi
   have:0 + (1 * i + j) = i:=by omega
   rw [this];have h5:=(hc i hi).1;simp only [World.cell?,hh,getElem?_toArray,h5];rfl
  ·rw [zfd] at hi
   have:0 + (1 * i + j) = i:=by omega
   rw [this]; exact hF i hi
 have:=RpC.rd (C:=C2) (w:=w) (aR L) b 0 1 cap (fun i _ => L.getD i undef) (by rw [zfd]; exact hlc) hcm hra (fun i j e y he hy => by
  have hi:i < L.length:=by have:=(List.getElem?_eq_some_iff.1 he).1; rw [zfd] at this; exact this
  rw [aR_get hi] at he;simp only [sI] at he; subst he
  match j,hy with
  | 0,hy =>
   simp only [getElem?_cons_zero,sI] at hy; subst hy
   have h9:=(hc i hi).2;rw [getD_eq_getElem?_getD,getElem?_eq_getElem hi] at h9 ⊢
   cases h9 with
   | v _ h => exact .v _ h
  | j + 1,hy => simp at hy)
 rw [zfd] at this;exact this
theorem FnG.ofRow {E:Env} {f:Nat} {L:List Value} {y:Value} {p cap:Nat} {z:List PC} {bx:LP PC} (hz:bx[p]? = some z) (hzt:z.take L.length = L.map PC.v) (h:FnV E f [.d (.sl 0 (aR L))] (.d (.v y))) (nt:Nat) (live:List Nat) :
  FnG E f [.d (.row p L.length cap)] bx nt live (fun x b n l => x = .d (.v y) /\ b = bx /\ n = nt /\ l = live):=by
 intro C w vs hI hnt hold hn2 hl hv
 match vs,hl with
 | [v],_ =>
  have hv0:=hv 0 _ _ rfl rfl
  cases hv0 with
  | d _ _ h0 =>
  cases h0 with
  | row _ _ _ hpn hlc hcm =>
  obtain ⟨us,e0,hh,hus⟩:=hI.box p z hz;obtain ⟨_,hc⟩:=row_cells hus hzt;obtain ⟨C2,hC2⟩:∃ C2:Cx,C2 = { C.sub with F:=fun b o => C.F b o \/ (b = C.bx p /\ o < L.length) }:=⟨_,rfl⟩
  have hI2:Inv E.NG E.T C2 [] (fun _ => False) w:=by
   rw [hC2]
   exact ⟨rfl,fun q cs hq => by simp at hq,fun q hq => by simp at hq,fun q hq => by simp at hq,fun q r hq => by simp at hq,fun t ht => ht.elim,fun t s b ht => ht.elim,
    fun b o h => h.elim (hI.fin b o) (fun h => by rw [h.1]; exact zaq hh),hI.ng,hI.t⟩
  have hnt2:C2.nt = 2:=by rw [hC2]; rfl
  have hold2:∀ t,¬ C2.old t:=fun t ht => by rw [hC2] at ht; exact ht
  have hnb2:C2.nb = 0:=by rw [hC2]; rfl
  have hd:RpC C2 w (.sl 0 (aR L)) (.slice (some ⟨C.bx p,0,none⟩) L.length cap):=row_data hh hc (fun i hi => by rw [hC2]; exact .inr ⟨rfl,hi⟩) hlc hcm
  refine (h C2 w [_] hI2 hnt2 hold2 rfl (fun j x y hx hy => by
   match j with
   | 0 =>
    simp only [getElem?_cons_zero,sI] at hx hy
    subst hx; subst hy; exact .d _ _ hd
   | j + 1 => simp at hx)).mono ?_
  rintro e w' ⟨u,x,bx0,live0,C',rfl,hR,hJ,hE,hx⟩;have hu:=hx.toDat (C':=C') (fun _ _ h => h) hR;have blk:∀ k,k < w.heap.size -> w'.heap[k]? = w.heap[k]?:=fun k hk => hE.block0 hold2 k hk (fun q hq => by rw [hnb2] at hq; omega)
  have hF:Fix C w w':=.of (fun b o hF => World.cell?_of_block (a:=⟨b,o,none⟩) (blk b (hI.fin b o hF))) blk;refine ⟨u,.d (.v y),bx,nt,live,C,rfl,⟨rfl,rfl,rfl,rfl⟩,?_,hnt,?_,?_⟩
  ·refine ⟨hI.nb,fun q cs hq => ?_,hI.boxF,hI.boxG,hI.inj,fun t ht => ?_,hI.tinj,fun b o h => Nat.lt_of_lt_of_le (hI.fin b o h) hE.size,Nat.le_trans hI.ng hE.size,E.low w w' hI.t hE.size (fun k hk => blk k (Nat.lt_of_lt_of_le hk hI.ng))⟩
   ·obtain ⟨vs,e,h1,h2⟩:=hI.box q cs hq
    exact ⟨vs,e,by rw [blk _ (zaq h1)]; exact h1,h2.frame (CxLe.refl C) hF⟩
   ·obtain ⟨a,b,c⟩:=hI.tok t ht
    exact ⟨a,b,c.imp id fun ⟨b,cur,e,k1,k2,k3,rest⟩ => ⟨b,cur,e,k1,k2,by rw [blk _ (zaq k3)]; exact k3,rest⟩⟩
  ·exact ⟨hE.os,hE.tape,hE.output,hE.size,fun _ _ h => h,hF,fun k hk _ _ => blk k hk,⟨lR,fun _ _ => rfl⟩,fun _ _ h => .inl h,(fun t b ht hb => .inr ⟨t,by rw [hold]; exact ht,hb⟩),(fun q hq hq2 => by have h1:=hI.nb; omega),⟨lR,fun _ _ => ⟨rfl,rfl,rfl,rfl⟩⟩⟩
  ·cases hu with
   | d _ _ hu => cases hu with
    | v _ hy => exact .d _ _ (.v _ hy)
end
section
end
section
variable {T:World -> Prop} {hT:Low ngl T}
def sV (k:L8):Value:=.string ⟨k.toArray⟩
theorem pSr_aR (st:List (L8)):pSr st = aR (st.map sV):=by unfold pSr aR sV; rw [map_map]; rfl
theorem zfy {C:Cx} {w:World} {st:List (L8)} {v:Value} (h:RpV C w (.d (pSs st)) v):StrRow w v st:=by
 obtain ⟨es,hes⟩:∃ es,es = pSr st:=⟨_,rfl⟩;have hl:es.length = st.length:=by rw [hes,zaM]
 have h:RpV C w (.d (.sl 0 es)) v:=by rw [hes]; exact h
 cases h with
 | d _ _ h =>
  cases h with
  | emp a c =>
   have hb:st = []:=length_eq_zero_iff.1 (by rw [<- hl]; rfl);subst hb
   exact ⟨a,c,rfl,fun h => absurd rfl h⟩
  | nilo _ h2 _ _ => omega
  | own _ _ _ _ h2 _ _ _ _ _ _ _ => omega
  | rd _ k o n c u h1 h2 hr h3 =>
   refine ⟨some ⟨k,o,none⟩,c,by rw [hl],fun _ => ⟨k,o,rfl,fun j hj => ?_⟩⟩;have he:es[j]? = some [pS st[j]]:=by rw [hes]; exact zey hj
   have hn:n = 1:=by
    have:=hr.wid _ (mem_of_getElem? he)
    rw [<- this]; rfl
   subst hn;have hc:=hr.cell j 0 (by omega) (by omega);have hv:=h3 j 0 _ _ he rfl
   have hu:u j 0 = .string ⟨st[j].toArray⟩:=by
    generalize u j 0 = z at hv
    cases hv; rfl
   rw [hu,Nat.one_mul,Nat.add_zero] at hc;exact hc
theorem pathS_fn (st:List (L8)) (hl:st.length <= 4294967295) (hs:∀ s ∈ st,s.length <= 4294967295):FnV (env T hT) 68 [.d (pSs st)] (.d (pS (putPath st))):=by
 refine FnV.old rfl fun w C vs hF _ _ hlen hv => ?_
 match vs,hlen with
 | [x],_ => exact zfx st x w (zfy (hv 0 _ _ rfl rfl)) hl hs
section
variable {E:Env} {K:St -> Prop} {tm:Nat -> PV} {bx:LP PC} {nt d k lo f:Nat} {live live':List Nat} {r:List MOpr} {x:X} {L:List Value} {c:PC} {y:Value}
theorem po_rowC (hR:RwAt 1 lo live' c bx (L.map PC.v)) (hx:ev tm x = .d c) (hF:FnV E f [.d (.sl 0 (aR L))] (.d (.v y))) (h:po E r K ⟨up d (.d (.v y)) tm,bx,nt,live⟩):po E (⟨some d,.call f [x],none,[.f k]⟩ :: r) K ⟨tm,bx,nt,live⟩:=by
 rcases hR.2 with ⟨t,rfl,_,hL⟩ | ⟨p,len,cap,z,rfl,hlo,hz,hzl,hlc,hzt⟩
 ·have:L = []:=by simpa using hL
  subst this;exact zac (args:=[.d (.sl 0 [])]) (by show PV.dats [ev tm x] = _; rw [hx]; rfl) hF h
 ·have hlen:len = L.length:=by
   have:=congrArg length hzt
   rw [length_map,length_take] at this; omega
  subst hlen;refine po_g (args:=[.d (.row p L.length cap)]) (by show [ev tm x] = _; rw [hx]) (FnG.ofRow hz (by rw [hzt,Nat.one_mul]) hF nt live) ?_;rintro x b n l ⟨rfl,rfl,rfl,rfl⟩;exact h
end
end
section
variable {T:World -> Prop} {hT:Low ngl T}
attribute [local irreducible] po mw pt
theorem pSr_tl (s:L8) (r:List (L8)):((pSr (s :: r)).drop 1).take ((pSr (s :: r)).length - 1) = pSr r:=by
 rw [<- length_drop,take_length]; rfl
theorem zdW (v x:V) (st:List (L8)) (b:Bool):PV.dats [.ag (vC v),.d (.sl 0 (pSr st)),.ag (vC x),.d (pB b)] = some [.ag (vC v),.d (pSs st),.ag (vC x),.d (pB b)]:=by
 show some [PV.ag (erL (vC v)),.d (.sl 0 (erLL (pSr st))),.ag (erL (vC x)),.d (pB b)] = _;rw [zap,zap,zbG]; rfl
theorem zce (v:V) (st:List (L8)):PV.dats [.ag (vC v),.d (.sl 0 (pSr st))] = some [.ag (vC v),.d (pSs st)]:=by
 show some [PV.ag (erL (vC v)),.d (.sl 0 (erLL (pSr st)))] = _;rw [zap,zbG]; rfl
theorem vik_arg (v k:V) (i:Int):PV.dats [.ag (vC v),.d (pI i),.ag (vC k)] = some [.ag (vC v),.d (pI i),.ag (vC k)]:=by
 show some [PV.ag (erL (vC v)),.d (pI i),.ag (erL (vC k))] = _;rw [zap,zap]
theorem zdX (v:V) (s:L8):PV.dats [.ag (vC v),.d (pS s)] = some [.ag (vC v),.d (pS s)]:=by
 show some [PV.ag (erL (vC v)),.d (pS s)] = _;rw [zap]
def L8K1 (v x:V) (ki:Int) (pr:V × Bool) (s:St):Prop:=has s.tm [(4,.ref 0 0),(8,.ref 2 0),(10,.d (pI ki)),(11,.ref 3 0),(12,.d (pB pr.2))] /\ s.bx = [vC v,vC x,[pI 0,pI 0,pI 0,pS [],.sl 1 []],vC pr.1]
def L8K2 (v:V) (ki:Int) (pr:V × Bool) (s:St):Prop:=has s.tm [(2,.ref 0 0),(4,.ref 1 0),(6,.d (pI ki)),(7,.ref 2 0),(8,.d (pB pr.2))] /\ s.bx = [vC v,[pI 0,pI 0,pI 0,pS [],.sl 1 []],vC pr.1]
theorem putS_fn:∀ (st:List (L8)) (v x:V) (ahead:Bool) (S:Nat),v.wf -> x.wf -> (∀ s ∈ st,s.length <= S) -> v.bulk + x.bulk + S + 2 <= 2147483647 -> st.length <= 2147483647 -> FnV (env T hT) 24 [.ag (vC v),.d (pSs st),.ag (vC x),.d (pB ahead)] (.tup [.ag (vC (putS v st x ahead).1),.d (pB (putS v st x ahead).2)]):=by
 intro st
 induction st with
 | nil =>
  intro v x ahead S hv hx hs hb hl;refine za1 (zad zdP) (by show 4 <= 70; decide) fun B hB => ?_
  unfold m_s_l08Put;refine mO ?_;refine zax (cs:=vC v) rfl ?_;refine zax (cs:=vC x) rfl ?_;refine mN ?_;refine mM ?_;refine mS ?_;refine zaA (n:=0) rfl rfl rfl ?_;refine zaf rfl rfl rfl ?_;refine mT ?_;refine mO ?_;refine zaa (p:=1) (cs:=vC x) rfl rfl rfl rfl ?_;refine zac (zaI x) (zbD (T:=T) (hT:=hT) x hx (by omega)) ?_;refine zag (p:=2) (cs:=vC x) rfl rfl rfl rfl rfl rfl ?_;refine mN ?_
  exact zab ⟨.inr rfl,[.ag (vC x),.d (pB true)],rfl,congrArg (fun l => some (PV.tup [.ag l,.d (pB true)])) (zap x)⟩
 | cons s r ih =>
  intro v x ahead S hv hx hs hb hl;have hsl:s.length <= 2147483647:=by have:=hs s (by simp); omega
  have hrl:r.length <= 2147483646:=by rw [length_cons] at hl; omega
  have hkl:v.kids.length <= 4294967290:=by have h:=hb; rw [V.bulk_eq v] at h; omega
  refine za1 (zad zdP) (by show 4 <= 70; decide) fun B hB => ?_
  unfold m_s_l08Put;refine mO ?_;refine zax (cs:=vC v) rfl ?_;refine zax (cs:=vC x) rfl ?_;refine mN ?_;refine mM ?_;refine mS ?_;refine zaA (n:=r.length + 1) rfl rfl (by rw [zaM]; rfl) ?_;refine zal rfl rfl (beq_eq_false_iff_ne.2 (by omega)) ?_;refine mK ?_;refine mO ?_;refine zaa (p:=0) (cs:=vC v) rfl rfl rfl rfl ?_;refine mS ?_;refine za4 (es:=pSr (s :: r)) (e:=[pS s]) rfl rfl rfl ⟨by decide,rfl⟩ rfl ?_;refine mS ?_;refine zac (args:=[.ag (vC v),.d (pS s)]) (zdX v s) (zgp (T:=T) (hT:=hT) v s (by omega) hsl) ?_;refine mN ?_;refine zav (fun st' => (0 <= kidI v s /\ ¬ (r = [] /\ ahead = true /\ v.kind = 7)) /\ has st'.tm [(1,.d (pSs (s :: r))),(3,.d (pB ahead)),(4,.ref 0 0),(6,.ref 1 0),(8,.ref 2 0),(10,.d (pI (kidI v s)))] /\ st'.bx = [vC v,vC x,[pI 0,pI 0,pI 0,pS [],.sl 1 []]]) ?_ ?_
  ·refine mQ ?_
   by_cases hk:kidI v s < 0
   ·have hno:¬ (0 <= kidI v s /\ ¬ (r = [] /\ ahead = true /\ v.kind = 7)):=fun h => by omega
    refine zaf rfl rfl (decide_eq_true hk) ?_;refine mS ?_;refine mZ ?_;refine mT ?_
    cases r with
    | nil =>
     have hpn:putS v [s] x ahead = newS v s x ahead:=by rw [putS,dif_neg hno,if_pos rfl]
     refine mM ?_;refine mS ?_;refine zaA (n:=1) rfl rfl rfl ?_;refine zal rfl rfl rfl ?_;refine mK ?_;refine mO ?_;refine zaa (p:=0) (cs:=vC v) rfl rfl rfl rfl ?_;refine mS ?_;refine za4 (es:=pSr [s]) (e:=[pS s]) rfl rfl rfl ⟨by decide,rfl⟩ rfl ?_;refine mS ?_;refine zaa (p:=1) (cs:=vC x) rfl rfl rfl rfl ?_;refine mS ?_;refine zac (zaI x) (zbD (T:=T) (hT:=hT) x hx (by omega)) ?_
     refine zac (args:=[.ag (vC v),.d (pS s),.ag (vC x),.d (pB ahead)]) (by
      show some [PV.ag (erL (vC v)),.d (pS s),.ag (erL (vC x)),.d (pB ahead)] = _;rw [zap,zap]) (newS_fn (T:=T) (hT:=hT) v x s ahead (by omega) hsl) ?_
     rw [<- hpn];generalize putS v [s] x ahead = pr;(iterate 2 refine mS ?_);refine zag (p:=2) (cs:=vC pr.1) rfl rfl rfl rfl rfl rfl ?_;refine mN ?_
     exact zab ⟨.inr rfl,[.ag (vC pr.1),.d (pB pr.2)],rfl,congrArg (fun l => some (PV.tup [.ag l,.d (pB pr.2)])) (zap _)⟩
    | cons s2 r2 =>
     have hpn:putS v (s :: s2 :: r2) x ahead = (v,false):=by rw [putS,dif_neg hno,if_neg (by simp)]
     refine mM ?_;refine mS ?_;refine zaA (n:=r2.length + 2) rfl rfl (by rw [zaM]; rfl) ?_;refine zaf rfl rfl (decide_eq_true (by omega)) ?_;refine mT ?_;refine mO ?_;refine zaa (p:=0) (cs:=vC v) rfl rfl rfl rfl ?_;refine zag (p:=2) (cs:=vC v) rfl rfl rfl rfl rfl rfl ?_;refine mN ?_;rw [hpn];exact zab ⟨.inr rfl,[.ag (vC v),.d (pB false)],rfl,congrArg (fun l => some (PV.tup [.ag l,.d (pB false)])) (zap v)⟩
   refine zal rfl rfl (decide_eq_false hk) ?_;(iterate 2 refine mS ?_);refine zaA (n:=r.length + 1) rfl rfl (by rw [zaM]; rfl) ?_
   cases r with
   | nil =>
    refine zaf rfl rfl rfl ?_;(iterate 4 refine mS ?_)
    cases ahead with
    | false =>
     refine mZ ?_;refine mK ?_
     exact ⟨⟨by omega,fun h => Bool.noConfusion h.2.1⟩,⟨rfl,rfl,rfl,rfl,rfl,rfl,trivial⟩,rfl⟩
    | true =>
     (iterate 2 refine mS ?_);by_cases h7:v.kind = 7
     ·have hpn:putS v [s] x true = newS v s x true:=by rw [putS,dif_neg (fun h => h.2 ⟨rfl,rfl,h7⟩),if_pos rfl]
      refine zaf rfl rfl (beq_iff_eq.2 h7) ?_;refine mT ?_;refine mM ?_;refine mS ?_;refine zaA (n:=1) rfl rfl rfl ?_;refine zal rfl rfl rfl ?_;refine mK ?_;refine mO ?_;refine zaa (p:=0) (cs:=vC v) rfl rfl rfl rfl ?_;refine mS ?_;refine za4 (es:=pSr [s]) (e:=[pS s]) rfl rfl rfl ⟨by decide,rfl⟩ rfl ?_;refine mS ?_;refine zaa (p:=1) (cs:=vC x) rfl rfl rfl rfl ?_;refine mS ?_;refine zac (zaI x) (zbD (T:=T) (hT:=hT) x hx (by omega)) ?_
      refine zac (args:=[.ag (vC v),.d (pS s),.ag (vC x),.d (pB true)]) (by
       show some [PV.ag (erL (vC v)),.d (pS s),.ag (erL (vC x)),.d (pB true)] = _;rw [zap,zap]) (newS_fn (T:=T) (hT:=hT) v x s true (by omega) hsl) ?_
      rw [<- hpn];generalize putS v [s] x true = pr;(iterate 2 refine mS ?_);refine zag (p:=2) (cs:=vC pr.1) rfl rfl rfl rfl rfl rfl ?_;refine mN ?_;exact zab ⟨.inr rfl,[.ag (vC pr.1),.d (pB pr.2)],rfl,congrArg (fun l => some (PV.tup [.ag l,.d (pB pr.2)])) (zap _)⟩
     ·refine zal rfl rfl (beq_eq_false_iff_ne.2 h7) ?_
      refine mK ?_
      exact ⟨⟨by omega,fun h => h7 h.2.2⟩,⟨rfl,rfl,rfl,rfl,rfl,rfl,trivial⟩,rfl⟩
   | cons s2 r2 =>
    refine zal rfl rfl (beq_eq_false_iff_ne.2 (by simp only [length_cons]; omega)) ?_;refine mS ?_;refine zf8 rfl ?_;(iterate 2 refine mS ?_);refine mZ ?_;refine mK ?_;exact ⟨⟨by omega,fun h => by simp at h⟩,⟨rfl,rfl,rfl,rfl,rfl,rfl,trivial⟩,rfl⟩
  rintro tm bx nt live ⟨hyes,ht,hbx⟩;obtain ⟨tm1,rfl⟩:=zah ht;simp only at hbx; subst hbx
  clear ht;have hlt:=zaP hyes.1;obtain ⟨i,hi⟩:∃ i:Nat,kidI v s = i:=⟨(kidI v s).toNat,by omega⟩;have hil:i < v.kids.length:=by omega
  have hkb:=(zfk ⟨hv,lR⟩ hil).2;have hih:=ih v.kids[i] x ahead S (V.wf_kid hv i hil) hx (fun z hz => hs z (by simp [hz])) (by omega) (by omega)
  have hpe:putS v (s :: r) x ahead = (v.withK (v.kids.set i (putS v.kids[i] r x ahead).1),(putS v.kids[i] r x ahead).2):=by
   rw [putS,dif_pos hyes];simp only [hi,Int.toNat_natCast]
  rw [hpe];generalize putS v.kids[i] r x ahead = pr at hih;refine zav (L8K1 v x (kidI v s) pr) ?_ ?_
  ·refine zev (show pt _ (L8K1 v x (kidI v s) pr) _ _ from ?_)
   refine zbf ?_;(iterate 3 refine mS ?_);refine za4 (es:=vK v.kids) (e:=vC v.kids[i]) rfl rfl rfl ⟨by omega,by rw [hi,Int.toNat_natCast]; exact zbe hil⟩ rfl ?_;(iterate 2 refine mS ?_);refine zbQ (l:=1) (h:=(pSr (s :: r)).length) (es:=pSr (s :: r)) (rs:=pSr r) rfl rfl rfl rfl ⟨by rw [zaM]; simp only [length_cons]; omega,lR⟩ (zbp _) (pSr_tl s r) ?_;refine zaa (p:=1) (cs:=vC x) rfl rfl rfl rfl ?_
   repeat' (first
    | exact zbq
    | refine zbH ?_ ?_
    | refine zae ?_
    | refine zbr ?_
    | (refine zcQ ?_; exact ⟨⟨rfl,rfl,rfl,rfl,rfl,trivial⟩,rfl⟩)
    | refine zbf ?_
    | refine zac (zdW v.kids[i] x r ahead) hih ?_
    | refine za2 ?_
    | refine zag (p:=3) (cs:=vC pr.1) rfl rfl rfl rfl rfl rfl ?_
    | refine po_s rfl rfl rfl ?_)
  rintro tm bx nt live ⟨ht,hbx⟩;obtain ⟨tm2,rfl⟩:=zah ht;simp only at hbx; subst hbx
  clear ht;refine mO ?_;refine zaa (p:=0) (cs:=vC v) rfl rfl rfl rfl ?_;refine mS ?_;refine zaa (p:=3) (cs:=vC pr.1) rfl rfl rfl rfl ?_;refine zac (args:=[.ag (vC v),.d (pI (i:Int)),.ag (vC pr.1)]) (by rw [<- hi]; exact vik_arg v pr.1 (kidI v s)) (withS_fn (T:=T) (hT:=hT) v pr.1 i hil hv (by omega)) ?_;refine mS ?_;refine zag (p:=2) (cs:=vC (v.withK (v.kids.set i pr.1))) rfl rfl rfl rfl rfl rfl ?_;refine mN ?_;exact zab ⟨.inr rfl,[.ag (vC (v.withK (v.kids.set i pr.1))),.d (pB pr.2)],rfl,congrArg (fun l => some (PV.tup [.ag l,.d (pB pr.2)])) (zap _)⟩
theorem zeG (v out:V) (ok:Bool) (hv:v.wf) (ho:out.wf) (hb:v.bulk <= 4294967295) (hb2:out.bulk <= 4294967295):FnV (env T hT) 25 [.ag (vC v),.ag (vC out),.d (pB ok)] (.tup [.ag (vC (madeS v out ok).1),.d (pB (madeS v out ok).2)]):=by
 refine za1 (zad zfl) (by show 3 <= 23; decide) fun B hB => ?_
 unfold m_s_l08Made;refine mO ?_;refine zax (cs:=vC v) rfl ?_;refine zax (cs:=vC out) rfl ?_;refine mN ?_;have hfail:∀ h:¬ (ok = true /\ v.ok = true /\ out.ok = true),madeS v out ok = (v,false):=fun h => by unfold madeS; rw [if_neg h]
 have hv1:=zfw (T:=T) (hT:=hT) v hv hb;have hv2:=zfw (T:=T) (hT:=hT) out ho hb2;refine mM ?_;(iterate 3 refine mS ?_)
 cases ok with
 | false =>
  refine mZ ?_;(iterate 2 refine mS ?_);refine mZ ?_;refine mT ?_;rw [hfail (fun h => Bool.noConfusion h.1)];refine mO ?_;refine zaa (p:=0) (cs:=vC v) rfl rfl rfl rfl ?_;refine zac (zaI v) (zbD (T:=T) (hT:=hT) v hv hb) ?_;refine zag (p:=2) (cs:=vC v) rfl rfl rfl rfl rfl rfl ?_;refine mN ?_
  exact zab ⟨.inr rfl,[.ag (vC v),.d (pB false)],rfl,congrArg (fun l => some (PV.tup [.ag l,.d (pB false)])) (zap _)⟩
 | true =>
  refine zaa (p:=0) (cs:=vC v) rfl rfl rfl rfl ?_;refine zat (b:=true) rfl (fun _ => zaI v) (fun _ => hv1) ?_
  cases h1:v.ok with
  | false =>
   (iterate 3 refine mS ?_);refine mZ ?_;refine mT ?_;rw [hfail (fun h => by rw [h1] at h; exact Bool.noConfusion h.2.1)];refine mO ?_;refine zaa (p:=0) (cs:=vC v) rfl rfl rfl rfl ?_;refine zac (zaI v) (zbD (T:=T) (hT:=hT) v hv hb) ?_;refine zag (p:=2) (cs:=vC v) rfl rfl rfl rfl rfl rfl ?_;refine mN ?_
   exact zab ⟨.inr rfl,[.ag (vC v),.d (pB false)],rfl,congrArg (fun l => some (PV.tup [.ag l,.d (pB false)])) (zap _)⟩
  | true =>
   (iterate 3 refine mS ?_);refine zaa (p:=1) (cs:=vC out) rfl rfl rfl rfl ?_;refine zat (b:=true) rfl (fun _ => zaI out) (fun _ => hv2) ?_
   cases h2:out.ok with
   | false =>
    refine mT ?_;rw [hfail (fun h => by rw [h2] at h; exact Bool.noConfusion h.2.2)];refine mO ?_;refine zaa (p:=0) (cs:=vC v) rfl rfl rfl rfl ?_;refine zac (zaI v) (zbD (T:=T) (hT:=hT) v hv hb) ?_;refine zag (p:=2) (cs:=vC v) rfl rfl rfl rfl rfl rfl ?_;refine mN ?_
    exact zab ⟨.inr rfl,[.ag (vC v),.d (pB false)],rfl,congrArg (fun l => some (PV.tup [.ag l,.d (pB false)])) (zap _)⟩
   | true =>
    refine mK ?_;rw [show madeS v out true = (out,true) from by unfold madeS; rw [if_pos ⟨rfl,h1,h2⟩]];refine mO ?_;refine zaa (p:=1) (cs:=vC out) rfl rfl rfl rfl ?_;refine zag (p:=2) (cs:=vC out) rfl rfl rfl rfl rfl rfl ?_;refine mN ?_;exact zab ⟨.inr rfl,[.ag (vC out),.d (pB true)],rfl,congrArg (fun l => some (PV.tup [.ag l,.d (pB true)])) (zap _)⟩
theorem Put_fn (v x:V) (st:List (L8)) (S:Nat) (hv:v.wf) (hx:x.wf) (hs:∀ s ∈ st,s.length <= S) (hb:v.bulk + x.bulk + S + 2 <= 2147483647) (hl:st.length <= 2147483647):FnV (env T hT) 7 [.ag (vC v),.d (pSs st),.ag (vC x)] (.tup [.ag (vC (putW v st x false).1),.d (pB (putW v st x false).2)]):=by
 have hpb:=zbV st v x false S hs;have hpw:=zdO st v x false S hv hx hs (by omega);have hput:=putS_fn (T:=T) (hT:=hT) st v x false S hv hx hs hb hl;have hvx:=zfw (T:=T) (hT:=hT) x hx (by omega);unfold putW;generalize putS v st x false = pr at hpb hpw hput;have hmd:=fun ok => zeG (T:=T) (hT:=hT) v pr.1 ok hv hpw (by omega) (by omega)
 refine za1 (zad lk_s_Put) (by show 3 <= 27; decide) fun B hB => ?_
 unfold m_s_Put;refine mO ?_;refine zax (cs:=vC v) rfl ?_;refine zax (cs:=vC x) rfl ?_;refine mN ?_;refine mO ?_;refine zaa (p:=0) (cs:=vC v) rfl rfl rfl rfl ?_;refine mS ?_;refine zaa (p:=1) (cs:=vC x) rfl rfl rfl rfl ?_;refine zac (zdW v x st false) hput ?_;(iterate 3 refine mS ?_);refine zbb (cs:=vC pr.1) rfl rfl rfl rfl ?_;refine mN ?_;refine mO ?_;refine zaa (p:=0) (cs:=vC v) rfl rfl rfl rfl ?_;refine zaa (p:=3) (cs:=vC pr.1) rfl rfl rfl rfl ?_;(iterate 2 refine mS ?_);obtain ⟨ok,hok⟩:∃ ok,pr.2 = ok:=⟨_,rfl⟩;rw [hok]
 cases ok with
 | false =>
  refine mZ ?_;refine mS ?_
  refine zac (args:=[.ag (vC v),.ag (vC pr.1),.d (pB false)]) (by
   show some [PV.ag (erL (vC v)),.ag (erL (vC pr.1)),.d (pB false)] = _;rw [zap,zap]) (hmd false) ?_
  rw [Bool.false_and];generalize madeS v pr.1 false = mdr;(iterate 2 refine mS ?_);refine zag (p:=2) (cs:=vC mdr.1) rfl rfl rfl rfl rfl rfl ?_;refine mN ?_
  exact zab ⟨.inr rfl,[.ag (vC mdr.1),.d (pB mdr.2)],rfl,congrArg (fun l => some (PV.tup [.ag l,.d (pB mdr.2)])) (zap _)⟩
 | true =>
  refine zaa (p:=1) (cs:=vC x) rfl rfl rfl rfl ?_;refine zat (b:=true) rfl (fun _ => zaI x) (fun _ => hvx) ?_;refine po_s (v:=.d (pB x.ok)) rfl rfl (by cases x.ok <;> rfl) ?_
  refine zac (args:=[.ag (vC v),.ag (vC pr.1),.d (pB x.ok)]) (by
   show some [PV.ag (erL (vC v)),.ag (erL (vC pr.1)),.d (pB x.ok)] = _;rw [zap,zap]) (hmd x.ok) ?_
  rw [Bool.true_and];generalize madeS v pr.1 x.ok = mdr;(iterate 2 refine mS ?_);refine zag (p:=2) (cs:=vC mdr.1) rfl rfl rfl rfl rfl rfl ?_;refine mN ?_;exact zab ⟨.inr rfl,[.ag (vC mdr.1),.d (pB mdr.2)],rfl,congrArg (fun l => some (PV.tup [.ag l,.d (pB mdr.2)])) (zap _)⟩
theorem Insert_fn (v x:V) (st:List (L8)) (S:Nat) (hv:v.wf) (hx:x.wf) (hs:∀ s ∈ st,s.length <= S) (hb:v.bulk + x.bulk + S + 2 <= 2147483647) (hl:st.length <= 2147483647):FnV (env T hT) 9 [.ag (vC v),.d (pSs st),.ag (vC x)] (.tup [.ag (vC (putW v st x true).1),.d (pB (putW v st x true).2)]):=by
 have hpb:=zbV st v x true S hs;have hpw:=zdO st v x true S hv hx hs (by omega);have hput:=putS_fn (T:=T) (hT:=hT) st v x true S hv hx hs hb hl;have hvx:=zfw (T:=T) (hT:=hT) x hx (by omega);unfold putW;generalize putS v st x true = pr at hpb hpw hput;have hmd:=fun ok => zeG (T:=T) (hT:=hT) v pr.1 ok hv hpw (by omega) (by omega)
 refine za1 (zad zgj) (by show 3 <= 27; decide) fun B hB => ?_
 unfold m_s_Insert;refine mO ?_;refine zax (cs:=vC v) rfl ?_;refine zax (cs:=vC x) rfl ?_;refine mN ?_;refine mO ?_;refine zaa (p:=0) (cs:=vC v) rfl rfl rfl rfl ?_;refine mS ?_;refine zaa (p:=1) (cs:=vC x) rfl rfl rfl rfl ?_;refine zac (zdW v x st true) hput ?_;(iterate 3 refine mS ?_);refine zbb (cs:=vC pr.1) rfl rfl rfl rfl ?_;refine mN ?_;refine mO ?_;refine zaa (p:=0) (cs:=vC v) rfl rfl rfl rfl ?_;refine zaa (p:=3) (cs:=vC pr.1) rfl rfl rfl rfl ?_;(iterate 2 refine mS ?_);obtain ⟨ok,hok⟩:∃ ok,pr.2 = ok:=⟨_,rfl⟩;rw [hok]
 cases ok with
 | false =>
  refine mZ ?_;refine mS ?_
  refine zac (args:=[.ag (vC v),.ag (vC pr.1),.d (pB false)]) (by
   show some [PV.ag (erL (vC v)),.ag (erL (vC pr.1)),.d (pB false)] = _;rw [zap,zap]) (hmd false) ?_
  rw [Bool.false_and];generalize madeS v pr.1 false = mdr;(iterate 2 refine mS ?_);refine zag (p:=2) (cs:=vC mdr.1) rfl rfl rfl rfl rfl rfl ?_;refine mN ?_
  exact zab ⟨.inr rfl,[.ag (vC mdr.1),.d (pB mdr.2)],rfl,congrArg (fun l => some (PV.tup [.ag l,.d (pB mdr.2)])) (zap _)⟩
 | true =>
  refine zaa (p:=1) (cs:=vC x) rfl rfl rfl rfl ?_;refine zat (b:=true) rfl (fun _ => zaI x) (fun _ => hvx) ?_;refine po_s (v:=.d (pB x.ok)) rfl rfl (by cases x.ok <;> rfl) ?_
  refine zac (args:=[.ag (vC v),.ag (vC pr.1),.d (pB x.ok)]) (by
   show some [PV.ag (erL (vC v)),.ag (erL (vC pr.1)),.d (pB x.ok)] = _;rw [zap,zap]) (hmd x.ok) ?_
  rw [Bool.true_and];generalize madeS v pr.1 x.ok = mdr;(iterate 2 refine mS ?_);refine zag (p:=2) (cs:=vC mdr.1) rfl rfl rfl rfl rfl rfl ?_;refine mN ?_;exact zab ⟨.inr rfl,[.ag (vC mdr.1),.d (pB mdr.2)],rfl,congrArg (fun l => some (PV.tup [.ag l,.d (pB mdr.2)])) (zap _)⟩
theorem lessS_fn:∀ (st:List (L8)) (v:V) (S:Nat),v.wf -> (∀ s ∈ st,s.length <= S) -> v.bulk + S + 2 <= 2147483647 -> st.length <= 2147483647 -> FnV (env T hT) 31 [.ag (vC v),.d (pSs st)] (.tup [.ag (vC (lessS v st).1),.d (pB (lessS v st).2)]):=by
 intro st
 induction st with
 | nil =>
  intro v S hv hs hb hl;refine za1 (zad zc7) (by show 2 <= 67; decide) fun B hB => ?_
  unfold m_s_l08Less;refine mO ?_;refine zax (cs:=vC v) rfl ?_;refine mN ?_;refine mM ?_;refine mS ?_;refine zaA (n:=0) rfl rfl rfl ?_;refine zaf rfl rfl rfl ?_;refine mT ?_;refine mO ?_;refine zaa (p:=0) (cs:=vC v) rfl rfl rfl rfl ?_;refine zag (p:=1) (cs:=vC v) rfl rfl rfl rfl rfl rfl ?_;refine mN ?_
  exact zab ⟨.inr rfl,[.ag (vC v),.d (pB false)],rfl,congrArg (fun l => some (PV.tup [.ag l,.d (pB false)])) (zap v)⟩
 | cons s r ih =>
  intro v S hv hs hb hl;have hsl:s.length <= 2147483647:=by have:=hs s (by simp); omega
  have hrl:r.length <= 2147483646:=by rw [length_cons] at hl; omega
  have hkl:v.kids.length <= 4294967290:=by have h:=hb; rw [V.bulk_eq v] at h; omega
  refine za1 (zad zc7) (by show 2 <= 67; decide) fun B hB => ?_
  unfold m_s_l08Less;refine mO ?_;refine zax (cs:=vC v) rfl ?_;refine mN ?_;refine mM ?_;refine mS ?_;refine zaA (n:=r.length + 1) rfl rfl (by rw [zaM]; rfl) ?_;refine zal rfl rfl (beq_eq_false_iff_ne.2 (by omega)) ?_;refine mK ?_;refine mO ?_;refine zaa (p:=0) (cs:=vC v) rfl rfl rfl rfl ?_;refine mS ?_;refine za4 (es:=pSr (s :: r)) (e:=[pS s]) rfl rfl rfl ⟨by decide,rfl⟩ rfl ?_;refine mS ?_;refine zac (args:=[.ag (vC v),.d (pS s)]) (zdX v s) (zgp (T:=T) (hT:=hT) v s (by omega) hsl) ?_;refine mN ?_;refine mM ?_;refine mS ?_;by_cases hk:kidI v s < 0
  ·refine zaf rfl rfl (decide_eq_true hk) ?_
   refine mT ?_;have hpn:lessS v (s :: r) = (v,false):=by rw [lessS,dif_neg (by omega)]
   refine mO ?_;refine zaa (p:=0) (cs:=vC v) rfl rfl rfl rfl ?_;refine zag (p:=1) (cs:=vC v) rfl rfl rfl rfl rfl rfl ?_;refine mN ?_;rw [hpn];exact zab ⟨.inr rfl,[.ag (vC v),.d (pB false)],rfl,congrArg (fun l => some (PV.tup [.ag l,.d (pB false)])) (zap v)⟩
  refine zal rfl rfl (decide_eq_false hk) ?_;refine mK ?_;have hk0:0 <= kidI v s:=by omega
  have hlt:=zaP hk0;obtain ⟨i,hi⟩:∃ i:Nat,kidI v s = i:=⟨(kidI v s).toNat,by omega⟩;have hil:i < v.kids.length:=by omega
  refine mM ?_;refine mS ?_;refine zaA (n:=r.length + 1) rfl rfl (by rw [zaM]; rfl) ?_;by_cases hr0:r = []
  ·subst hr0
   have hpn:lessS v [s] = (v.withK (v.kids.take (if v.kind = 8 then i - 1 else i) ++ v.kids.drop (i + 1)),decide (v.kind ≠ 9)):=by
    rw [lessS,dif_pos hk0,if_pos rfl];simp only [hi,Int.toNat_natCast]
   obtain ⟨f,hf,hfl⟩:∃ f,(if v.kind = 8 then i - 1 else i) = f /\ f <= i:=⟨_,rfl,by split <;> omega⟩;refine zal rfl rfl rfl ?_;refine mK ?_;refine mO ?_;refine zaa (p:=0) (cs:=vC v) rfl rfl rfl rfl ?_;refine zac (zaI v) (zbD (T:=T) (hT:=hT) v hv (by omega)) ?_;refine zbb (cs:=vC v) rfl rfl rfl rfl ?_;refine mN ?_;refine mP ?_;refine zav (fun st' => has st'.tm [(2,.ref 0 0),(4,.ref 1 0),(6,.d (pI i)),(9,.ref 2 0),(10,.d (pI f))] /\ st'.bx = [vC v,[pI 0,pI 0,pI 0,pS [],.sl 1 []],vC v]) ?_ ?_
   ·refine mO ?_
    (iterate 2 refine mS ?_);by_cases h8:v.kind = 8
    ·rw [if_pos h8] at hf
     have h1:1 <= i:=by
      have h:=hi;unfold kidI at h;rw [if_neg (by omega),if_pos h8] at h
      split at h <;> omega
     refine zaf rfl rfl (beq_iff_eq.2 h8) ?_;refine mT ?_;refine zaj ?_;refine mS ?_;refine zbu (n:=(f:Int)) rfl rfl rfl (by omega) (by omega) ?_;refine mN ?_;exact ⟨⟨rfl,rfl,by show PV.d (pI (kidI v s)) = _; rw [hi],rfl,rfl,trivial⟩,rfl⟩
    ·rw [if_neg h8] at hf
     subst hf;refine zal rfl rfl (beq_eq_false_iff_ne.2 h8) ?_;refine mK ?_;exact ⟨⟨rfl,rfl,by show PV.d (pI (kidI v s)) = _; rw [hi],rfl,by show PV.d (pI (kidI v s)) = _; rw [hi],trivial⟩,rfl⟩
   rintro tm bx nt live ⟨ht,hbx⟩;obtain ⟨tm1,rfl⟩:=zah ht;simp only at hbx; subst hbx
   clear ht;have hw5:=za7 v.kids;have hkn:=zao v.kids;refine mO ?_;(iterate 3 refine mS ?_);refine zbQ (l:=0) (h:=f) (es:=vK v.kids) (rs:=vK (v.kids.take f)) rfl rfl rfl (za9 (i:=(f:Int)) rfl rfl) ⟨Nat.zero_le _,by omega⟩ hw5 (by rw [drop_zero,Nat.sub_zero]; simp only [vK,map_take]) ?_;(iterate 3 refine mS ?_);refine zay (n:=((i + 1:Nat):Int)) rfl rfl rfl (by omega) (by omega) ?_;refine zbQ (l:=i + 1) (h:=(vK v.kids).length) (es:=vK v.kids) (rs:=vK (v.kids.drop (i + 1))) rfl rfl (za9 (i:=((i + 1:Nat):Int)) rfl rfl) rfl ⟨by omega,lR⟩ hw5 (by rw [<- length_drop,take_length]; simp only [vK,map_drop]) ?_;refine zaC (es:=[]) rfl ?_;refine za3 (t:=nt) (t':=0) (es:=[]) (ds:=vK (v.kids.take f)) rfl rfl (.inr (mem_cons_self ..)) (by rw [zao,length_take]; simp only [length_nil]; omega) (za7 _) (fun e he => by cases he) ?_
   rw [nil_append];refine za3 (t:=nt + 1) (t':=0) (es:=vK (v.kids.take f)) (ds:=vK (v.kids.drop (i + 1))) rfl rfl (.inr (mem_cons_self ..)) (by rw [zao,zao,length_take,length_drop]; omega) (za7 _) (za7 _) ?_;rw [<- zbX];refine mS ?_;refine zas (p:=2) (o':=4) (cs:=[.sl (nt + 1 + 1) (vK (v.kids.take f ++ v.kids.drop (i + 1)))]) (z:=vC v) rfl rfl rfl ⟨rfl,Nat.le_of_ble_eq_true rfl⟩ rfl ?_;refine zae ?_;obtain ⟨cs,hcs⟩:∃ cs,cs = [pI v.kind,pI v.num,pI v.exp,pS v.text,.sl (nt + 1 + 1) (vK (v.kids.take f ++ v.kids.drop (i + 1)))]:=⟨_,rfl⟩;refine mO ?_;refine zaa (p:=2) (cs:=[pI v.kind,pI v.num,pI v.exp,pS v.text,.sl (nt + 1 + 1) (vK (v.kids.take f ++ v.kids.drop (i + 1)))]) rfl rfl rfl rfl ?_;(iterate 2 refine mS ?_);refine po_b rfl rfl (fun b hb9 => ?_);refine zag (p:=1) (cs:=[pI v.kind,pI v.num,pI v.exp,pS v.text,.sl (nt + 1 + 1) (vK (v.kids.take f ++ v.kids.drop (i + 1)))]) rfl rfl rfl rfl rfl rfl ?_
   refine mN ?_;rw [hpn,hf]
   have hb9':b = decide (v.kind ≠ 9):=by
    rw [hb9];by_cases h:v.kind = 9 <;> simp [h,bne]
   refine zab ⟨.inr rfl,[.ag [pI v.kind,pI v.num,pI v.exp,pS v.text,.sl (nt + 1 + 1) (vK (v.kids.take f ++ v.kids.drop (i + 1)))],.d (pB b)],rfl,?_⟩;rw [hb9'];refine congrArg (fun l => some (PV.tup [.ag l,.d (pB (decide (v.kind ≠ 9)))])) ?_;show [pI v.kind,pI v.num,pI v.exp,pS v.text,.sl 0 (erLL (vK (v.kids.take f ++ v.kids.drop (i + 1))))] = _;rw [zc9]; rfl
  have hpe:lessS v (s :: r) = (v.withK (v.kids.set i (lessS v.kids[i] r).1),(lessS v.kids[i] r).2):=by
   rw [lessS,dif_pos hk0,if_neg hr0];simp only [hi,Int.toNat_natCast]
  have hkb:=(zfk ⟨hv,lR⟩ hil).2;have hih:=ih v.kids[i] S (V.wf_kid hv i hil) (fun z hz => hs z (by simp [hz])) (by omega) (by omega)
  have hr1:1 <= r.length:=by
   cases r with
   | nil => exact absurd rfl hr0
   | cons _ _ => simp
  refine zaf rfl rfl (decide_eq_true (by omega)) ?_;refine mT ?_;rw [hpe];generalize lessS v.kids[i] r = pr at hih;refine zav (L8K2 v (kidI v s) pr) ?_ ?_
  ·refine zev (show pt _ (L8K2 v (kidI v s) pr) _ _ from ?_)
   refine zbf ?_;(iterate 3 refine mS ?_);refine za4 (es:=vK v.kids) (e:=vC v.kids[i]) rfl rfl rfl ⟨by omega,by rw [hi,Int.toNat_natCast]; exact zbe hil⟩ rfl ?_;(iterate 2 refine mS ?_);refine zbQ (l:=1) (h:=(pSr (s :: r)).length) (es:=pSr (s :: r)) (rs:=pSr r) rfl rfl rfl rfl ⟨by rw [zaM]; simp only [length_cons]; omega,lR⟩ (zbp _) (pSr_tl s r) ?_
   repeat' (first
    | exact zbq
    | refine zbH ?_ ?_
    | refine zae ?_
    | refine zbr ?_
    | (refine zcQ ?_; exact ⟨⟨rfl,rfl,rfl,rfl,rfl,trivial⟩,rfl⟩)
    | refine zbf ?_
    | refine zac (zce v.kids[i] r) hih ?_
    | refine za2 ?_
    | refine zag (p:=2) (cs:=vC pr.1) rfl rfl rfl rfl rfl rfl ?_
    | refine po_s rfl rfl rfl ?_)
  rintro tm bx nt live ⟨ht,hbx⟩;obtain ⟨tm2,rfl⟩:=zah ht;simp only at hbx; subst hbx
  clear ht;refine mO ?_;refine zaa (p:=0) (cs:=vC v) rfl rfl rfl rfl ?_;refine mS ?_;refine zaa (p:=2) (cs:=vC pr.1) rfl rfl rfl rfl ?_;refine zac (args:=[.ag (vC v),.d (pI (i:Int)),.ag (vC pr.1)]) (by rw [<- hi]; exact vik_arg v pr.1 (kidI v s)) (withS_fn (T:=T) (hT:=hT) v pr.1 i hil hv (by omega)) ?_;refine mS ?_;refine zag (p:=1) (cs:=vC (v.withK (v.kids.set i pr.1))) rfl rfl rfl rfl rfl rfl ?_;refine mN ?_;exact zab ⟨.inr rfl,[.ag (vC (v.withK (v.kids.set i pr.1))),.d (pB pr.2)],rfl,congrArg (fun l => some (PV.tup [.ag l,.d (pB pr.2)])) (zap _)⟩
theorem Remove_fn (v:V) (st:List (L8)) (S:Nat) (hv:v.wf) (hs:∀ s ∈ st,s.length <= S) (hb:v.bulk + S + 2 <= 2147483647) (hl:st.length <= 2147483647):FnV (env T hT) 12 [.ag (vC v),.d (pSs st)] (.tup [.ag (vC (remW v st).1),.d (pB (remW v st).2)]):=by
 obtain ⟨hpw,hpb⟩:=zdf st v hv (by omega);have hput:=lessS_fn (T:=T) (hT:=hT) st v S hv hs hb hl;unfold remW;generalize lessS v st = pr at hpb hpw hput;have hmd:=zeG (T:=T) (hT:=hT) v pr.1 pr.2 hv hpw (by omega) (by omega);refine za1 (zad zgk) (by show 2 <= 20; decide) fun B hB => ?_
 unfold m_s_Remove;refine mO ?_;refine zax (cs:=vC v) rfl ?_;refine mN ?_;refine mO ?_;refine zaa (p:=0) (cs:=vC v) rfl rfl rfl rfl ?_;refine mS ?_;refine zac (zce v st) hput ?_;(iterate 3 refine mS ?_);refine zbb (cs:=vC pr.1) rfl rfl rfl rfl ?_;refine mN ?_;refine mO ?_;refine zaa (p:=0) (cs:=vC v) rfl rfl rfl rfl ?_;refine zaa (p:=2) (cs:=vC pr.1) rfl rfl rfl rfl ?_;refine mS ?_
 refine zac (args:=[.ag (vC v),.ag (vC pr.1),.d (pB pr.2)]) (by
  show some [PV.ag (erL (vC v)),.ag (erL (vC pr.1)),.d (pB pr.2)] = _;rw [zap,zap]) hmd ?_
 generalize madeS v pr.1 pr.2 = mdr;(iterate 2 refine mS ?_);refine zag (p:=1) (cs:=vC mdr.1) rfl rfl rfl rfl rfl rfl ?_;refine mN ?_;exact zab ⟨.inr rfl,[.ag (vC mdr.1),.d (pB mdr.2)],rfl,congrArg (fun l => some (PV.tup [.ag l,.d (pB mdr.2)])) (zap _)⟩
end
section
theorem FnG.ofFnV {E:Env} {f:Nat} {args args':List PV} {bx:LP PC} {nt:Nat} {live:List Nat} {v:PV} (hd:PV.dats args = some args') (h:FnV E f args' v):FnG E f args bx nt live (fun x b n l => x = v /\ b = bx /\ nt <= n /\ l = live):=by
 intro C w vs hI hnt hold hn2 hl hv;obtain ⟨hlen,hdat⟩:=PV.dats_some hd;refine (h C.sub w vs hI.sub rfl (Cx.sub_old C) (by omega) (fun j x y hx hy => ?_)).mono ?_
 ·obtain ⟨v0,h0,h1⟩:=hdat j x hx
  exact (hv j v0 y h0 hy).toDat (show ∀ b o,C.F b o -> C.sub.F b o from fun _ _ h => h) h1
 rintro e w' ⟨u,x,bx0,live0,C',rfl,hR,hJ,hE,hx⟩;obtain ⟨hI3,hF⟩:=hI.join hJ hE [] (fun t ht => by cases ht);have hrefl:Ext C w C bx.length (· ∈ live) w:=⟨rfl,rfl,rfl,lR,fun _ _ h => h,.of (fun _ _ _ => rfl) (fun _ _ => rfl),fun _ _ _ _ => rfl,⟨lR,fun _ _ => rfl⟩,fun _ _ h => .inl h,(fun t b ht hb => .inr ⟨t,by rw [hold]; exact ht,hb⟩),(fun q hq hq2 => by have h1:=hI.nb; omega),⟨lR,fun _ _ => ⟨rfl,rfl,rfl,rfl⟩⟩⟩;have hE3:=hrefl.join hI hJ hE [] (fun t ht => by cases ht);exact ⟨u,v,bx,C.nt + C'.nt,live,C.join C',rfl,⟨rfl,rfl,by omega,rfl⟩,hI3,rfl,hE3,hx.toDat (show ∀ b o,C'.F b o -> (C.join C').F b o from fun _ _ h => h) hR⟩
def RowGl (lo:Nat) (bx:LP PC) (cs:List PC) (v:V):Prop :=
 erL cs = vC v \/ ∃ p len cap z rows,lo <= p /\ cs = [pI v.kind,pI v.num,pI v.exp,pS v.text,.row p len cap] /\ bx[p]? = some z /\ z.take (5 * len) = rows.flatten /\ (∀ e ∈ rows,e.length = 5) /\ rows.length = len /\ erLL rows = vK v.kids
theorem RowGl.of {lo:Nat} {live:List Nat} {c:PC} {bx rows:LP PC} {v:V} (hR:RwL 5 lo live c bx rows) (h:erLL rows = vK v.kids):RowGl lo bx [pI v.kind,pI v.num,pI v.exp,pS v.text,c] v:=by
 rcases hR.1.2 with ⟨t,rfl,_,h0⟩ | ⟨p,len,cap,z,rfl,h2,h3,h4,h5,h6⟩
 ·rcases RowG.of hR h with h | ⟨_,_,_,_,_,e,_⟩
  ·exact .inl h
  ·simp at e
 ·obtain ⟨_,_,_,_,_,_,h7⟩:=hR.len (by decide)
  exact .inr ⟨p,len,cap,z,rows,h2,rfl,h3,h6.symm,hR.2,h7,h⟩
theorem rowG_core2 {E:Env} {C C':Cx} {w w':World} {bx rest:LP PC} {live l:List Nat} {cs:List PC} {v:V} {vs:List Value} (hI:Inv E.NG E.T C bx (· ∈ live) w) (hlw:∀ cs ∈ bx,lwL bx.length cs) (hsub:∀ t ∈ live,t ∈ l) (hJ:Inv E.NG E.T C' (bx ++ rest) (· ∈ l) w') (hE:Ext C w C' (bx ++ rest).length (· ∈ l) w') (hG:RowGl bx.length (bx ++ rest) cs v) (hv:RpL C' w' cs vs) :
  ∃ C2,Inv E.NG E.T C2 bx (· ∈ live) w' /\ C2.nt = C'.nt /\ Ext C w C2 bx.length (· ∈ live) w' /\ RpL C2 w' (vC v) vs:=by
 have hnb0:C.nb = bx.length:=hI.nb;have hbl:bx.length <= (bx ++ rest).length:=by simp
 have mk:∀ F2:Nat -> Nat -> Prop,(∀ b o,C'.F b o -> F2 b o) -> (∀ b o,F2 b o -> C'.F b o \/ ∃ p,bx.length <= p /\ p < (bx ++ rest).length /\ b = C'.bx p) -> ∃ C2:Cx,C2 = { C' with nb:=bx.length,F:=F2 } /\ Inv E.NG E.T C2 bx (· ∈ live) w' /\ C2.nt = C'.nt /\ Ext C w C2 bx.length (· ∈ live) w':=by
  intro F2 h1 h2;have hcut:CxLe (C'.cutB bx.length) { C' with nb:=bx.length,F:=F2 }:=⟨h1,lR,fun _ _ => rfl,lR,fun _ _ => ⟨rfl,rfl,rfl,rfl⟩⟩;refine ⟨_,rfl,⟨rfl,fun q cs hq => ?_,fun q hq o hF => ?_,fun q hq => hJ.boxG q (by omega),fun q r hq hr h => hJ.inj q r (by omega) (by omega) h,fun t ht => ?_,fun t s b ht hs => hJ.tinj t s b (hsub t ht) (hsub s hs),fun b o h => ?_,hJ.ng,hJ.t⟩,rfl,?_⟩
  ·have hql:q < bx.length:=by
    rcases Nat.lt_or_ge q bx.length with h | h
    ·exact h
    ·rw [getElem?_eq_none h] at hq; cases hq
   obtain ⟨us,e,k1,k2⟩:=hJ.box q cs (by rw [getElem?_append_left hql]; exact hq);exact ⟨us,e,k1,(k2.trim (hlw cs (mem_of_getElem? hq))).frame hcut (.of (fun _ _ _ => rfl) (fun _ _ => rfl))⟩
  ·rcases h2 _ _ hF with h | ⟨p,hp,hp2,he⟩
   ·exact hJ.boxF q (by omega) o h
   ·have:=hJ.inj q p (by omega) hp2 he
    omega
  ·obtain ⟨a1,a2,a3⟩:=hJ.tok t (hsub t ht)
   refine ⟨a1,a2,a3.imp id ?_⟩;rintro ⟨b,cur,e,c1,c2,c3,c4,c5,c6,c7,cz,c8,c9⟩;refine ⟨b,cur,e,c1,c2,c3,c4,c5,c6,c7,cz,fun o hF => ?_,fun q hq => c9 q (by omega)⟩
   rcases h2 _ _ hF with h | ⟨p,_,hp2,he⟩
   ·exact c8 o h
   ·exact absurd he.symm (c9 p hp2)
  ·rcases h2 b o h with h | ⟨p,_,hp2,rfl⟩
   ·exact hJ.fin b o h
   ·obtain ⟨us,e,hh,_⟩:=hJ.box p _ (getElem?_eq_getElem hp2)
    exact zaq hh
  ·refine ⟨hE.os,hE.tape,hE.output,hE.size,fun b o h => h1 b o (hE.F b o h),hE.fix,hE.block,⟨by rw [hnb0]; exact lR,hE.bx.2⟩,fun b o h => ?_,fun t b ht hb => hE.newT t b (hsub t ht) hb,(fun q hq hq2 => by omega),hE.tk⟩
   rcases h2 b o h with h | ⟨p,hp,hp2,rfl⟩
   ·exact hE.newF b o h
   ·exact .inr (.inl (hE.newB p (by omega) hp2))
 rcases hG with he | ⟨p,len,cap,z,rows,hlo,rfl,hz,hzt,hw,hrl,her⟩
 ·obtain ⟨C2,e2,i2,n2,x2⟩:=mk C'.F (fun _ _ h => h) (fun _ _ h => .inl h)
  refine ⟨C2,i2,n2,x2,?_⟩;rw [<- he];exact hv.toEr (fun b o h => by rw [e2]; exact h)
 have hp:p < (bx ++ rest).length:=by
  rcases Nat.lt_or_ge p (bx ++ rest).length with h | h
  ·exact h
  ·rw [getElem?_eq_none h] at hz; cases hz
 obtain ⟨us,e0,hh,hlen,hus⟩:=hJ.box p z hz
 have hzl:5 * len <= z.length:=by
  have:=congrArg length hzt
  rw [length_take,zaK hw,hrl] at this; omega
 have hcell:∀ i j,i < len -> j < 5 -> us[5 * i + j]? = some (us.getD (5 * i + j) undef):=fun i j hi hj => by
  have:5 * i + j < us.length:=by rw [hlen]; omega
  rw [getD_eq_getElem?_getD,getElem?_eq_getElem this]; rfl
 have hzc:∀ i j e y,rows[i]? = some e -> e[j]? = some y -> j < 5 -> z[5 * i + j]? = some y:=fun i j e y hi hy hj => by
  have hil:i < len:=by rw [<- hrl]; exact (List.getElem?_eq_some_iff.1 hi).1
  have h1:=flat_get hw hi hj;rw [<- hzt,getElem?_take,if_pos (by omega),hy] at h1;exact h1
 obtain ⟨C2,e2,i2,n2,x2⟩:=mk (fun b o => C'.F b o \/ (b = C'.bx p /\ o < 5 * len)) (fun _ _ h => .inl h) (fun b o h => h.imp id fun h => ⟨p,hlo,hp,h.1⟩);refine ⟨C2,i2,n2,x2,?_⟩;obtain ⟨hvl,hvc⟩:=hv;refine ⟨hvl,fun j c y hc hy => ?_⟩
 have hkl:len = v.kids.length:=by
  have:=congrArg length her
  rw [zar,length_map,zao] at this; omega
 match j with
 | 0 =>
  have h:=hvc 0 _ y rfl hy;simp only [vC,getElem?_cons_zero,sI] at hc; subst hc
  cases h with | v _ h => exact .v _ h
 | 1 =>
  have h:=hvc 1 _ y rfl hy;simp only [vC,getElem?_cons_succ,getElem?_cons_zero,sI] at hc; subst hc
  cases h with | v _ h => exact .v _ h
 | 2 =>
  have h:=hvc 2 _ y rfl hy;simp only [vC,getElem?_cons_succ,getElem?_cons_zero,sI] at hc; subst hc
  cases h with | v _ h => exact .v _ h
 | 3 =>
  have h:=hvc 3 _ y rfl hy;simp only [vC,getElem?_cons_succ,getElem?_cons_zero,sI] at hc; subst hc
  cases h with | v _ h => exact .v _ h
 | 4 =>
  have h:=hvc 4 _ y rfl hy;simp only [vC,getElem?_cons_succ,getElem?_cons_zero,sI] at hc; subst hc
  cases h with
  | row _ _ _ hpn hlc hcm =>
  have hra:RowAt C2 w' (C'.bx p) 0 5 (vK v.kids) (fun i j => us.getD (5 * i + j) undef):=by
   refine ⟨by decide,za7 _,fun i j hi hj => ?_,fun i j hi hj => ?_⟩
   ·rw [zao] at hi
    have h5:=hcell i j (by omega) hj
    have:0 + (5 * i + j) = 5 * i + j:=by omega
    rw [this];simp only [World.cell?,hh,getElem?_toArray,h5];rfl
   ·rw [zao] at hi
    rw [e2]; exact .inr ⟨rfl,by omega⟩
  have:=RpC.rd (C:=C2) (w:=w') (vK v.kids) (C'.bx p) 0 5 cap (fun i j => us.getD (5 * i + j) undef) (by rw [zao]; omega) hcm hra (fun i j e y he hy => by
   have hil:i < v.kids.length:=by have:=(List.getElem?_eq_some_iff.1 he).1; rw [zao] at this; exact this
   have hel:e.length = 5:=za7 _ e (mem_of_getElem? he);have hj:j < 5:=by have:=(List.getElem?_eq_some_iff.1 hy).1; omega
   rw [<- her,zar,getElem?_map] at he;obtain ⟨r,hr,rfl⟩:=Option.map_eq_some_iff.1 he;rw [zaW,getElem?_map] at hy;obtain ⟨q,hq,rfl⟩:=Option.map_eq_some_iff.1 hy;have h1:=hus (5 * i + j) q _ (hzc i j r q hr hq hj) (hcell i j (by omega) hj);exact h1.toEr (fun b o h => by rw [e2]; exact .inl h))
  rw [zao,<- hkl] at this
  exact this
 | j + 5 => simp [vC] at hc
theorem FnG.rowAG {E:Env} {f:Nat} {args:List PV} {bx:LP PC} {nt:Nat} {live:List Nat} {v:V} {ok:Bool} (hlw:∀ cs ∈ bx,lwL bx.length cs) (h:FnG E f args bx nt live (fun x b n l => ∃ cs rest,x = .tup [.ag cs,.d (pB ok)] /\ b = bx ++ rest /\ RowGl bx.length b cs v /\ nt <= n /\ ∀ t ∈ live,t ∈ l)) :
  FnG E f args bx nt live (fun x b n l => x = .tup [.ag (vC v),.d (pB ok)] /\ b = bx /\ nt <= n /\ l = live):=by
 intro C w vs hI hnt hold hn2 hl hv;refine (h C w vs hI hnt hold hn2 hl hv).mono ?_;rintro e w' ⟨u,x,bx2,n,l,C',rfl,⟨cs,rest,rfl,rfl,hR,hnn,hsub⟩,hJ,hn,hE,hx⟩
 match u,hx with
 | _,.tup _ [u0,u1] _ hx =>
  have h0:=hx 0 _ _ rfl rfl;have h1:=hx 1 _ _ rfl rfl
  cases h0 with
  | ag _ us h0 =>
  cases h1 with
  | d _ _ h1 =>
  cases h1 with
  | v _ hob =>
  obtain ⟨C2,i2,n2,x2,r2⟩:=rowG_core2 hI hlw hsub hJ hE hR h0;refine ⟨_,.tup [.ag (vC v),.d (pB ok)],bx,n,live,C2,rfl,⟨rfl,rfl,hnn,rfl⟩,i2,by rw [n2]; exact hn,x2,.tup _ [_,_] rfl fun j x y hx hy => ?_⟩
  match j with
  | 0 =>
   simp only [getElem?_cons_zero,sI] at hx hy
   subst hx; subst hy
   exact .ag _ _ r2
  | 1 =>
   simp only [getElem?_cons_succ,getElem?_cons_zero,sI] at hx hy
   subst hx; subst hy
   exact .d _ _ (.v _ hob)
  | j + 2 => simp at hx
end
section
end
section
/-! ### two bytes replaced by one -/
/-! ### a text cut at a byte -/
theorem pathL_cons (s:L8) (st:List (L8)):pathL (s :: st) = 47 :: (esc s ++ pathL st):=by unfold pathL; rw [flatMap_cons]; rfl
/-! ### how the reference reads -/
def addL (out:List (L8)) (x:L8):List (L8):=out.set (out.length - 1) (out.getLastD [] ++ x)
def gpS:L8 -> List (L8) -> Option (List (L8))
 | [],out => some out
 | b :: r,out =>
  if b = 47 then gpS r (out ++ [[]])
  else if out = [] then none
  else match r with
   | d :: r' => if b = 126 then gpS r' (addL out [if d = 49 then 47 else 126]) else gpS (d :: r') (addL out [b])
   | [] => some (addL out [b])
theorem zdY (pre:List (L8)) (l x:L8):addL (pre ++ [l]) x = pre ++ [l ++ x]:=by
 unfold addL;rw [length_append,length_singleton,Nat.add_sub_cancel,set_append_right _ _ lR,Nat.sub_self,List.getLastD_concat]; rfl
theorem zfz (r:L8) (out:List (L8)):gpS (47 :: r) out = gpS r (out ++ [[]]):=by rw [gpS.eq_def]; simp
theorem zdZ (d:UInt8) (r:L8) {out:List (L8)} (h:out ≠ []):gpS (126 :: d :: r) out = gpS r (addL out [if d = 49 then 47 else 126]):=by rw [gpS.eq_def]; simp [h]
theorem zfA {b:UInt8} (h1:b ≠ 126) (h2:b ≠ 47) (r:L8) {out:List (L8)} (h:out ≠ []):gpS (b :: r) out = gpS r (addL out [b]):=by
 rw [gpS.eq_def]
 cases r with
 | nil => simp [h,h2,gpS]
 | cons d r => simp [h,h1,h2]
theorem gpS_esc1 (b:UInt8) (r:L8) (pre:List (L8)) (l:L8):gpS (esc1 b ++ r) (pre ++ [l]) = gpS r (pre ++ [l ++ [b]]):=by
 have hne:pre ++ [l] ≠ []:=by simp
 rcases zfj b with ⟨h1,e⟩ | ⟨_,h2,e⟩ | ⟨h1,h2,e⟩
 ·rw [e,h1]
  show gpS (126 :: 48 :: r) _ = _;rw [zdZ _ _ hne,if_neg (by decide),zdY]
 ·rw [e,h2]
  show gpS (126 :: 49 :: r) _ = _;rw [zdZ _ _ hne,if_pos rfl,zdY]
 ·rw [e]
  show gpS (b :: r) _ = _;rw [zfA h1 h2 _ hne,zdY]
theorem gpS_esc (r:L8) (pre:List (L8)):∀ (s l:L8),gpS (esc s ++ r) (pre ++ [l]) = gpS r (pre ++ [l ++ s])
 | [],l => by rw [append_nil]; rfl
 | b :: s,l => by
  have e:esc (b :: s) ++ r = esc1 b ++ (esc s ++ r):=by unfold esc; rw [flatMap_cons,append_assoc]
  rw [e,gpS_esc1,gpS_esc r pre s];simp
theorem gpS_path:∀ (st pre:List (L8)),gpS (pathL st) pre = some (pre ++ st)
 | [],pre => by rw [append_nil]; rfl
 | s :: st,pre => by
  rw [pathL_cons,zfz,gpS_esc,gpS_path st,nil_append,append_assoc]; rfl
def getPS (s:L8):Option (List (L8)):=match gpS s [] with
 | some out => if putPath out = s then some out else none
 | none => none
/-! ### how the program reads -/
def e0 (s:L8):L8:=s.flatMap fun b => if b = 126 then [126,48] else [b]
theorem zfB {st:List (L8)} {s:L8} (h:putPath st = s) (hs:s ≠ []):s = pathL st:=by
 unfold putPath at h
 split at h
 ·exact h.symm
 ·exact absurd h.symm hs
theorem getP_put {st:List (L8)} (h:putPath st ≠ []):getPS (putPath st) = some st:=by
 have e:=zfB rfl h;unfold getPS;rw [e,gpS_path,<- e];simp
theorem zfC {s:L8} {st:List (L8)} (h:getPS s = some st):putPath st = s:=by
 unfold getPS at h
 split at h
 ·split at h
  ·rename_i hh
   simp only [sI] at h;rw [<- h]; exact hh
  ·cases h
 ·cases h
end
section
def m_i_At:M:=so [qo 2 (.box 0),⟨some 4,.zero [.int .i64 0,.int .i64 0,.int .i64 0,.string ⟨[].toArray⟩,.slice none 0 0],none,[]⟩,qo 5 (.mv (cB false))] (.seq (so [qm 8 1,qc 9 27 [8] 1,qo 10 (.not 9)] (.cond 10 (so [⟨some 11,.build [.int .i64 0,.int .i64 0,.int .i64 0,.string ⟨[].toArray⟩,.slice none 0 0] [],none,[]⟩,qS 5 4 11,qo 5 (.mv (cB false))] .ret) .skip)) (so [qL 13 5 2,qm 14 1,qc 15 32 [13,14] 1,qm 12 15,qe 16 12 0,qe 17 12 1,⟨some 6,.zero [.int .i64 0,.int .i64 0,.int .i64 0,.string ⟨[].toArray⟩,.slice none 0 0],none,[]⟩,qS 5 6 16,qm 7 17] (so [qL 18 5 6,qc 19 28 [18] 1,qm 20 7,qS 5 4 19,qm 5 20] .ret)))
theorem lk_i_At:look Tryz.prog 14 = some (21,m_i_At,[.cell true 5 4,.tm 5]):=by kernel_rfl
def m_i_at:M:=so [qo 2 (.box 0),⟨some 4,.zero [.int .i64 0,.int .i64 0,.int .i64 0,.string ⟨[].toArray⟩,.slice none 0 0],none,[]⟩,qo 5 (.mv (cB false))] (.seq (so [qm 9 1,qo 10 (.len 9),qo 11 (.mv (ci 0))] (.block 0 (.loop (so [qo 12 (.bin .lss false 11 10)] (.seq (.cond 12 .skip (.exit 0)) (.seq (.block 1 (so [qo 13 (.ix 1 9 11),ql 14 1 13,qm 7 14] (so [qL 15 5 2,qm 16 7,qc 17 57 [15,16] 1,qm 8 17] (.seq (so [qm 18 8,qo 19 (.bin .lss false 18 (ci 0))] (.cond 19 (so [⟨some 20,.build [.int .i64 0,.int .i64 0,.int .i64 0,.string ⟨[].toArray⟩,.slice none 0 0] [],none,[]⟩,qS 5 4 20,qo 5 (.mv (cB false))] .ret) .skip)) (.ops [qF 21 4 2,ql 22 1 21,qm 23 8,qo 24 (.ix 5 22 23),qL 25 5 24,qS 5 2 25]))))) (.ops [qo 26 (.bin .add false 11 (ci 1)),qm 11 26]))))))) (so [qL 27 5 2,qS 5 4 27,qo 5 (.mv (cB true))] .ret))
theorem lk_i_at:look Tryz.prog 32 = some (28,m_i_at,[.cell true 5 4,.tm 5]):=by kernel_rfl
def m_s_Paths:M:=so [qo 1 (.box 0),qo 2 (.mv (.c (.slice none 0 0)))] (.seq (so [qL 3 5 1,qc 4 26 [3] 1,qo 5 (.not 4)] (.cond 5 (so [qo 6 (.lit 1 []),qm 2 6] .ret) .skip)) (so [qL 7 5 1,qo 8 (.lit 1 []),qc 9 67 [7,8] 1,qm 2 9] .ret))
theorem lk_s_Paths:look Tryz.prog 40 = some (10,m_s_Paths,[.tm 2]):=by kernel_rfl
def m_s_GetPath:M:=so [qo 2 (.mv (.c (.slice none 0 0))),qo 3 (.mv (cB false))] (so [qo 7 (.lit 1 []),qm 4 7] (.seq (so [qo 5 (.mv (ci 0))] (.block 0 (.loop (.seq (so [qm 8 5,qm 9 0,qo 10 (.lens 9),qo 11 (.bin .lss false 8 10)] (.cond 11 .skip (.exit 0))) (.seq (.block 1 (.seq (so [qm 14 0,qm 15 5,qo 16 (.ixs 14 15),qo 17 (.bin .eql false 16 (.c (.int .u8 47)))] (.cond 17 (so [qm 18 4,⟨some 19,.lit 1 [.c (.string ⟨[].toArray⟩)],none,[]⟩,⟨some 20,.app 1 18 19,none,[.f 1]⟩,qm 4 20] (.exit 1)) .skip)) (.seq (so [qm 21 4,qo 22 (.len 21),qo 23 (.bin .eql false 22 (ci 0))] (.cond 23 (so [qo 24 (.lit 1 []),qm 2 24,qo 3 (.mv (cB false))] .ret) .skip)) (so [qm 25 0,qm 26 5,qm 27 5,qo 28 (.bin .add false 27 (ci 1)),qo 29 (.slcs 25 (some 26) (some 28)),qm 6 29] (.seq (so [qm 30 6,⟨some 31,.bin .eql false 30 (.c (.string ⟨[126].toArray⟩)),none,[]⟩,qm 32 31,qg 33 5 32 true,⟨some 34,.bin .add false 33 (ci 1),some (32,true),[]⟩,qg 35 0 32 true,⟨some 36,.lens 35,some (32,true),[]⟩,⟨some 37,.bin .lss false 34 36,some (32,true),[]⟩,qo 38 (.pick 32 37 (cB false))] (.cond 38 (so [qm 39 5,qo 40 (.bin .add false 39 (ci 1)),qm 5 40] (so [⟨some 6,.mv (.c (.string ⟨[126].toArray⟩)),none,[]⟩] (so [qm 41 0,qm 42 5,qo 43 (.ixs 41 42),qo 44 (.bin .eql false 43 (.c (.int .u8 49)))] (.cond 44 (.ops [⟨some 6,.mv (.c (.string ⟨[47].toArray⟩)),none,[]⟩]) .skip)))) .skip)) (.ops [qm 45 4,qm 46 4,qo 47 (.len 46),qo 48 (.bin .sub false 47 (ci 1)),qm 49 4,qm 50 4,qo 51 (.len 50),qo 52 (.bin .sub false 51 (ci 1)),qo 53 (.ix 1 49 52),ql 54 1 53,qm 55 6,qo 56 (.bin .add false 54 55),qo 57 (.ix 1 45 48),qS 1 57 56])))))) (.ops [qm 12 5,qo 13 (.bin .add false 12 (ci 1)),qm 5 13])))))) (.seq (so [qm 58 4,qc 59 68 [58] 1,qm 60 0,qo 61 (.bin .neq false 59 60)] (.cond 61 (so [qo 62 (.lit 1 []),qm 2 62,qo 3 (.mv (cB false))] .ret) .skip)) (so [qm 63 4,qm 2 63,qo 3 (.mv (cB true))] .ret))))
theorem zfD:look Tryz.prog 42 = some (64,m_s_GetPath,[.tm 2,.tm 3]):=by kernel_rfl
def m_i_kidAt:M:=so [qo 2 (.box 0),qo 4 (.mv (ci 0))] (.seq (so [qF 7 0 2,ql 8 1 7] (.block 0 (so [qo 10 (.bin .eql false 8 (ci 7)),qm 9 10] (.cond 9 (so [qm 11 1,qc 12 73 [11] 1,qm 5 12] (so [qm 13 5,qF 14 4 2,ql 15 1 14,qo 16 (.len 15),qo 17 (.bin .lss false 13 16)] (.cond 17 (so [qm 18 5,qm 4 18] .ret) .skip))) (so [qo 20 (.bin .eql false 8 (ci 8)),qm 19 20] (.cond 19 (so [qL 21 5 2,qm 22 1,qc 23 78 [21,22] 1,qm 6 23] (so [qm 24 6,qo 25 (.bin .geq false 24 (ci 0))] (.cond 25 (so [qm 26 6,qo 27 (.bin .add false 26 (ci 1)),qm 4 27] .ret) .skip))) (so [qo 29 (.bin .eql false 8 (ci 9)),qm 28 29] (.cond 28 (so [qm 30 1,⟨some 31,.bin .eql false 30 (.c (.string ⟨[116,97,103].toArray⟩)),none,[]⟩,qm 32 31,⟨some 33,.fld 4 2,some (32,true),[]⟩,⟨some 34,.load false 1 33,some (32,true),[]⟩,⟨some 35,.len 34,some (32,true),[]⟩,⟨some 36,.bin .gtr false 35 (ci 0),some (32,true),[]⟩,qo 37 (.pick 32 36 (cB false))] (.cond 37 (so [qo 4 (.mv (ci 0))] .ret) .skip)) .skip)))))))) (so [qo 4 (.mv (ci (-1)))] .ret))
theorem lk_i_kidAt:look Tryz.prog 57 = some (38,m_i_kidAt,[.tm 4]):=by kernel_rfl
def m_s_l08Paths:M:=so [qo 2 (.box 0),qo 4 (.mv (.c (.slice none 0 0)))] (so [qm 8 1,qc 9 68 [8] 1,qo 10 (.lit 1 [9]),qm 5 10] (.seq (so [qo 6 (.mv (ci 0))] (.block 0 (.loop (.seq (so [qm 11 6,qF 12 4 2,ql 13 1 12,qo 14 (.len 13),qo 15 (.bin .lss false 11 14)] (.cond 15 .skip (.exit 0))) (.seq (.block 1 (so [qm 18 6,qc 19 85 [18] 1,qm 7 19] (.seq (so [qF 20 0 2,ql 21 1 20,qo 22 (.bin .eql false 21 (ci 9))] (.cond 22 (.ops [⟨some 7,.mv (.c (.string ⟨[116,97,103].toArray⟩)),none,[]⟩]) .skip)) (.seq (so [qF 23 0 2,ql 24 1 23,qo 25 (.bin .eql false 24 (ci 8))] (.cond 25 (.seq (so [qm 26 6,qo 27 (.bin .rem false 26 (ci 2)),qo 28 (.bin .eql false 27 (ci 0)),qm 29 28,⟨some 30,.fld 4 2,some (29,false),[]⟩,⟨some 31,.load false 1 30,some (29,false),[]⟩,qg 32 6 29 false,⟨some 33,.bin .sub false 32 (ci 1),some (29,false),[]⟩,⟨some 34,.ix 5 31 33,some (29,false),[]⟩,⟨some 35,.fld 0 34,some (29,false),[]⟩,⟨some 36,.load false 1 35,some (29,false),[]⟩,⟨some 37,.bin .neq false 36 (ci 5),some (29,false),[]⟩,qo 38 (.pick 29 (cB true) 37)] (.cond 38 (.exit 1) .skip)) (.ops [qF 39 4 2,ql 40 1 39,qm 41 6,qo 42 (.bin .sub false 41 (ci 1)),qo 43 (.ix 5 40 42),qF 44 3 43,ql 45 1 44,qm 7 45])) .skip)) (.ops [qm 46 5,qF 47 4 2,ql 48 1 47,qm 49 6,qo 50 (.ix 5 48 49),qL 51 5 50,qm 53 1,qm 55 7,qo 56 (.litq 1 [55]),qo 52 (.lit 1 []),qo 54 (.app 1 52 53),qo 57 (.app 1 54 56),qc 58 67 [51,57] 0,⟨some 59,.app 1 46 58,none,[.f 0]⟩,qm 5 59]))))) (.ops [qm 16 6,qo 17 (.bin .add false 16 (ci 1)),qm 6 17])))))) (so [qm 60 5,qm 4 60] .ret)))
theorem zeH:look Tryz.prog 67 = some (61,m_s_l08Paths,[.tm 4]):=by kernel_rfl
def m_i_indexOf:M:=so [qo 2 (.mv (ci 0))] (so [qm 6 0,qc 7 89 [6] 1,qm 5 7,qe 8 5 0,qe 9 5 1,qm 3 8,qm 4 9] (.seq (so [qm 10 4,qo 11 (.not 10),qm 12 11,qg 13 3 12 false,⟨some 14,.call 81 [13,ci 0,ci 999999],some (12,false),[.f 1]⟩,⟨some 15,.not 14,some (12,false),[]⟩,qo 16 (.pick 12 (cB true) 15)] (.cond 16 (so [qo 2 (.mv (ci (-1)))] .ret) .skip)) (so [qm 17 3,qm 2 17] .ret)))
theorem zfE:look Tryz.prog 73 = some (18,m_i_indexOf,[.tm 2]):=by kernel_rfl
def m_i_find:M:=so [qo 2 (.box 0),qo 4 (.mv (ci 0))] (.seq (so [qo 5 (.mv (ci 0))] (.block 0 (.loop (.seq (so [qF 6 0 2,ql 7 1 6,qo 8 (.bin .eql false 7 (ci 8)),qm 9 8,qg 10 5 9 true,⟨some 11,.bin .add false 10 (ci 1),some (9,true),[]⟩,⟨some 12,.fld 4 2,some (9,true),[]⟩,⟨some 13,.load false 1 12,some (9,true),[]⟩,⟨some 14,.len 13,some (9,true),[]⟩,⟨some 15,.bin .lss false 11 14,some (9,true),[]⟩,qo 16 (.pick 9 15 (cB false))] (.cond 16 .skip (.exit 0))) (.seq (.block 1 (so [qF 19 4 2,ql 20 1 19,qm 21 5,qo 22 (.ix 5 20 21),qF 23 0 22,ql 24 1 23,qo 25 (.bin .eql false 24 (ci 5)),qm 26 25,⟨some 27,.fld 4 2,some (26,true),[]⟩,⟨some 28,.load false 1 27,some (26,true),[]⟩,qg 29 5 26 true,⟨some 30,.ix 5 28 29,some (26,true),[]⟩,⟨some 31,.fld 3 30,some (26,true),[]⟩,⟨some 32,.load false 1 31,some (26,true),[]⟩,qg 33 1 26 true,⟨some 34,.bin .eql false 32 33,some (26,true),[]⟩,qo 35 (.pick 26 34 (cB false))] (.cond 35 (so [qm 36 5,qm 4 36] .ret) .skip))) (.ops [qm 17 5,qo 18 (.bin .add false 17 (ci 2)),qm 5 18])))))) (so [qo 4 (.mv (ci (-1)))] .ret))
theorem lk_i_find:look Tryz.prog 78 = some (37,m_i_find,[.tm 4]):=by kernel_rfl
end
section
variable {T:World -> Prop} {hT:Low ngl T}
attribute [local irreducible] po mw pt
theorem gpS_none {b:UInt8} (h:b ≠ 47) (r:L8):gpS (b :: r) [] = none:=by rw [gpS.eq_def]; simp [h]
theorem gpS_end {out:List (L8)} (h:out ≠ []):gpS [126] out = gpS [] (addL out [126]):=by rw [gpS.eq_def]; simp [h,gpS]
def stL (out:List (L8)):List PC:=(out.map sV).map PC.v
theorem zbg (out:List (L8)):(stL out).length = out.length:=by simp [stL]
theorem stL_snoc (out:List (L8)) (k:L8):stL (out ++ [k]) = stL out ++ [pS k]:=by simp [stL]; rfl
theorem addL_eq {out:List (L8)} (h:0 < out.length) (x:L8):addL out x = out.set (out.length - 1) (out[out.length - 1] ++ x):=by
 unfold addL;rw [List.getLastD_eq_getLast?,List.getLast?_eq_getElem?,getElem?_eq_getElem (by omega)]; rfl
theorem stL_add {out:List (L8)} (h:0 < out.length) (x:L8):stL (addL out x) = (stL out).set (out.length - 1) (pS (out[out.length - 1] ++ x)):=by
 rw [addL_eq h]; unfold stL; rw [map_set,map_set]; rfl
theorem addL_len (out:List (L8)) (x:L8):(addL out x).length = out.length:=by simp [addL]
theorem addL_le {out:List (L8)} (h:0 < out.length) {x:L8} {n:Nat} (hx:x.length = 1) (ho:∀ k ∈ out,k.length <= n):∀ k ∈ addL out x,k.length <= n + 1:=by
 intro k hk;rw [addL_eq h] at hk
 rcases mem_or_eq_of_mem_set hk with hk | rfl
 ·have:=ho k hk; omega
 ·have:=ho _ (getElem_mem (show out.length - 1 < out.length by omega))
  rw [length_append]; omega
def gpB (r:Option (List (L8))):Bool:=r.isSome
def gpL (r:Option (List (L8))):List (L8):=r.getD []
def Kp (n0:Nat) (l0:List Nat) (st:St):Prop:=n0 <= st.nt /\ ∀ t ∈ l0,t ∈ st.live
def GpI (s:L8) (n0:Nat) (l0:List Nat) (m:Nat) (st:St):Prop :=
 ∃ (i:Nat) (c:PC) (out:List (L8)),i <= s.length /\ m = s.length - i /\ has st.tm [(0,.d (pS s)),(4,.d c),(5,.d (pI i))] /\ RwAt 1 0 st.live c st.bx (stL out) /\ out.length <= i /\ (∀ k ∈ out,k.length <= i) /\ Kp n0 l0 st /\ gpS s [] = gpS (s.drop i) out
theorem getPathB_g (s:L8) (hs:s.length <= 2147483647) (nt:Nat) (live:List Nat):FnG (env T hT) 42 [.d (pS s)] [] nt live (fun x bx n l => ∃ c,x = .tup [.d c,.d (pB (gpB (getPS s)))] /\ RwAt 1 0 l c bx (stL (gpL (getPS s))) /\ nt <= n /\ ∀ t ∈ live,t ∈ l):=by
 refine zaR (zad zfD) (by show 1 <= 64; decide) fun B hB => ?_
 unfold m_s_GetPath;refine mP ?_;refine mO ?_;refine zaC (es:=[]) rfl ?_;refine mN ?_;have hR0:RwAt 1 0 (nt :: live) (.sl nt []) [] (stL []):=⟨lR,.inl ⟨nt,rfl,.inr (mem_cons_self ..),rfl⟩⟩;refine zav (fun st => GpI s nt live 0 st) ?_ ?_
 ·refine mP ?_
  refine zai ?_;refine zaJ (GpI s nt live) s.length ⟨0,.sl nt [],[],Nat.zero_le _,rfl,⟨rfl,rfl,rfl,trivial⟩,hR0,Nat.zero_le _,(fun k hk => by cases hk),⟨Nat.le_succ _,fun t ht => mem_cons_of_mem _ ht⟩,by rw [drop_zero]⟩ ?_;clear hR0;rintro m tm bx n1 l1 ⟨i,c,out,hi,rfl,ht,hR,ho,hk,hK,hg⟩;obtain ⟨tm1,rfl⟩:=zah ht;simp only at hR;clear ht;refine mM ?_;(iterate 2 refine mS ?_);refine po_s (v:=.d (pI s.length)) rfl rfl rfl ?_;refine po_b rfl rfl (fun p hp => ?_);refine zae ?_;refine zb9 (p:=(i:Int) < s.length) hp rfl (fun him _ => ?_) (fun him _ => ?_)
  rotate_left
  ·refine zaL ?_
   obtain rfl:i = s.length:=by omega
   exact ⟨_,c,out,lR,by omega,⟨rfl,rfl,rfl,trivial⟩,hR,ho,hk,hK,hg⟩
  have hil:i < s.length:=by omega
  have hdr:s.drop i = s[i] :: s.drop (i + 1):=drop_eq_getElem_cons hil;rw [hdr] at hg;refine zau ?_;refine zaD (zai (zaD (zaD (zaj ?_))));(iterate 2 refine mS ?_);refine ze4 (l:=s) (j:=(i:Int)) (k:=i) (b:=s[i]) rfl rfl rfl rfl (getElem?_eq_getElem hil) ?_;by_cases h47:s[i] = 47
  ·refine zaf rfl rfl (beq_iff_eq.2 (by rw [h47]; rfl)) ?_
   refine mT ?_;refine mQ ?_;refine zaC (es:=[[pS []]]) rfl ?_;refine zdF (m:=out.length) (ds:=[[pS []]]) (RwAt.mono hR fun t ht => mem_cons_of_mem _ ht) (by simp) (by rw [zbg,Nat.one_mul]) (by decide) (by simp only [length_singleton]; omega) (fun e he => by rw [mem_singleton] at he; subst he; rfl) rfl rfl ?_;intro c' bx' hR' _;refine mN ?_;refine zaL ?_;refine zaj ?_;refine mS ?_;refine zay (n:=((i + 1:Nat):Int)) rfl rfl rfl (by omega) (by omega) ?_;refine mN ?_;refine ⟨s.length - (i + 1),by omega,i + 1,c',out ++ [[]],hil,rfl,⟨rfl,rfl,rfl,trivial⟩,by rw [stL_snoc]; exact hR',by rw [length_append,length_singleton]; omega,fun k hkm => ?_,⟨Nat.le_succ_of_le hK.1,fun t ht => mem_cons_of_mem _ (hK.2 t ht)⟩,?_⟩
   ·rcases mem_append.1 hkm with hkm | hkm
    ·have:=hk k hkm; omega
    ·rw [mem_singleton] at hkm; subst hkm; exact Nat.zero_le _
   ·rw [hg,h47,zfz]
  refine zal rfl rfl (beq_eq_false_iff_ne.2 (fun h => h47 (UInt8.toNat_inj.1 (by have:(47:UInt8).toNat = 47:=rfl; omega)))) ?_;refine mK ?_;refine mM ?_;refine mS ?_;refine zco (k:=out.length) hR (by rw [zbg,Nat.one_mul]) (by decide) rfl rfl ?_;by_cases hne:out = []
  ·subst hne
   refine zaf rfl rfl (beq_iff_eq.2 rfl) ?_;refine mT ?_;refine mO ?_;refine zaC (es:=[]) rfl ?_;refine mN ?_;rw [gpS_none h47] at hg;have hno:getPS s = none:=by unfold getPS; rw [hg]
   rw [hno];exact zab ⟨.inr rfl,[.d (.sl n1 []),.d (pB false)],rfl,_,rfl,⟨Nat.zero_le _,.inl ⟨n1,rfl,.inr (mem_cons_self ..),rfl⟩⟩,Nat.le_succ_of_le hK.1,fun t ht => mem_cons_of_mem _ (hK.2 t ht)⟩
  have hpos:0 < out.length:=length_pos_iff.2 hne;refine zal rfl rfl (beq_eq_false_iff_ne.2 (by omega)) ?_;refine mK ?_;refine mO ?_;(iterate 3 refine mS ?_);refine zay (n:=((i + 1:Nat):Int)) rfl rfl rfl (by omega) (by omega) ?_;refine po_slcs (l:=s) (a:=i) (b:=i + 1) (rs:=[s[i]]) rfl rfl (za9 (i:=(i:Int)) rfl rfl) (za9 (i:=((i + 1:Nat):Int)) rfl rfl) ⟨Nat.le_succ _,hil⟩ (by rw [Nat.add_sub_cancel_left,hdr]; rfl) ?_;refine mN ?_;refine zav (fun st => st.bx = bx /\ st.nt = n1 /\ st.live = l1 /\ ∃ (j:Nat) (a:L8),i <= j /\ j < s.length /\ a.length = 1 /\ has st.tm [(0,.d (pS s)),(4,.d c),(5,.d (pI j)),(6,.d (pS a))] /\ gpS s [] = gpS (s.drop (j + 1)) (addL out a)) ?_ ?_
  ·refine mQ ?_
   refine zec (la:=[s[i]]) (lb:=[126]) rfl rfl rfl ?_;by_cases h126:s[i] = 126
   ·rw [decide_eq_true (by rw [h126])]
    (iterate 2 refine mS ?_);refine zay (n:=((i + 1:Nat):Int)) rfl rfl rfl (by omega) (by omega) ?_;refine mS ?_;refine po_s (v:=.d (pI s.length)) rfl rfl rfl ?_;by_cases hnx:i + 1 < s.length
    ·refine zaf rfl rfl (decide_eq_true (by omega)) ?_
     refine mT ?_;refine mQ ?_;refine zay (n:=((i + 1:Nat):Int)) rfl rfl rfl (by omega) (by omega) ?_;refine mN ?_;refine mP ?_;refine mO ?_;(iterate 2 refine mS ?_);refine ze4 (l:=s) (j:=((i + 1:Nat):Int)) (k:=i + 1) (b:=s[i + 1]) rfl rfl rfl rfl (getElem?_eq_getElem hnx) ?_;have hdr2:s.drop (i + 1) = s[i + 1] :: s.drop (i + 1 + 1):=drop_eq_getElem_cons hnx;rw [hdr2,h126,zdZ _ _ hne] at hg;by_cases h49:s[i + 1] = 49
     ·refine zaf rfl rfl (beq_iff_eq.2 (by rw [h49]; rfl)) ?_
      refine mT ?_;refine zaj ?_;refine mN ?_;rw [if_pos h49] at hg;exact ⟨rfl,rfl,rfl,i + 1,[47],by omega,hnx,rfl,⟨rfl,rfl,rfl,rfl,trivial⟩,hg⟩
     ·refine zal rfl rfl (beq_eq_false_iff_ne.2 (fun h => h49 (UInt8.toNat_inj.1 (by have:(49:UInt8).toNat = 49:=rfl; omega)))) ?_
      refine mK ?_;rw [if_neg h49] at hg;exact ⟨rfl,rfl,rfl,i + 1,[126],by omega,hnx,rfl,⟨rfl,rfl,rfl,rfl,trivial⟩,hg⟩
    ·refine zal rfl rfl (decide_eq_false (by omega)) ?_
     refine mK ?_;have he:s.drop (i + 1) = []:=drop_of_length_le (by omega);rw [he,h126,gpS_end hne] at hg;exact ⟨rfl,rfl,rfl,i,[s[i]],lR,hil,rfl,⟨rfl,rfl,rfl,rfl,trivial⟩,by rw [he,h126]; exact hg⟩
   ·rw [decide_eq_false (by intro h; exact h126 (cons.inj h).1)]
    refine mS ?_;refine mZ ?_;refine mK ?_;rw [zfA h126 h47 _ hne] at hg;exact ⟨rfl,rfl,rfl,i,[s[i]],lR,hil,rfl,⟨rfl,rfl,rfl,rfl,trivial⟩,hg⟩
  rintro tm bx1 nt1 live1 ⟨rfl,rfl,rfl,j,a,hij,hjl,hal,ht,hg⟩;obtain ⟨tm2,rfl⟩:=zah ht;clear ht;have hRl:(out.length - 1:Nat) < (stL out).length:=by rw [zbg]; omega
  have hlk:(stL out)[out.length - 1] = pS out[out.length - 1]:=by simp [stL,sV,pS]
  refine zaj ?_;(iterate 2 refine mS ?_);refine zco (k:=out.length) hR (by rw [zbg,Nat.one_mul]) (by decide) rfl rfl ?_;refine zbu (n:=((out.length - 1:Nat):Int)) rfl rfl rfl (by omega) (by omega) ?_;(iterate 2 refine mS ?_);refine zco (k:=out.length) hR (by rw [zbg,Nat.one_mul]) (by decide) rfl rfl ?_;refine zbu (n:=((out.length - 1:Nat):Int)) rfl rfl rfl (by omega) (by omega) ?_;refine zdE (i:=out.length - 1) hR (by decide) rfl (by rw [zbg]; omega) rfl rfl rfl ?_;intro p len cap z e3 h3 h4 h5 h6 h7 h8 h9;have hone:=rw_one h7 hRl;refine zaZ (cs:=z) (v:=.d (pS out[out.length - 1])) rfl rfl h4 h9 (by rw [Nat.one_mul,hone,hlk]; rfl) ?_;refine mS ?_;refine po_cat (la:=out[out.length - 1]) (lb:=a) rfl rfl rfl (by have:=hk _ (getElem_mem (show out.length - 1 < out.length by omega)); omega) ?_;refine zdE (i:=out.length - 1) hR (by decide) rfl (by rw [zbg]; omega) rfl rfl rfl ?_
  intro p2 len2 cap2 z2 e32 h32 h42 h52 h62 h72 h82 h92;refine zas (p:=p2) (o':=1 * (out.length - 1)) (cs:=[pS (out[out.length - 1] ++ a)]) (z:=z2) rfl rfl h42 ⟨rfl,h92⟩ rfl ?_;refine zae ?_;refine zaj ?_;refine mS ?_;refine zay (n:=((j + 1:Nat):Int)) rfl rfl rfl (by omega) (by omega) ?_;refine mN ?_;have hset:=RwAt.set (live:=live1) (o:=1 * (out.length - 1)) (v:=pS (out[out.length - 1] ++ a)) hR.1 h32 h42 h52 h62 (by omega);rw [<- h72,<- e32,Nat.one_mul,<- stL_add hpos] at hset;refine ⟨s.length - (j + 1),by omega,j + 1,c,addL out a,by omega,rfl,⟨rfl,rfl,rfl,trivial⟩,by rw [Nat.one_mul]; exact hset,by rw [addL_len]; omega,fun k hkm => ?_,hK,hg⟩
  have:=addL_le hpos hal hk k hkm; omega
 rintro tm bx n1 l1 ⟨i,c,out,hi,hm,ht,hR,ho,hk,hK,hg⟩;obtain ⟨tm1,rfl⟩:=zah ht;clear ht
 obtain rfl:i = s.length:=by omega
 rw [drop_length] at hg;have hgs:gpS s [] = some out:=by rw [hg,gpS.eq_def]
 have hFp:FnV (env T hT) 68 [.d (.sl 0 (aR (out.map sV)))] (.d (pS (putPath out))):=by
  rw [<- pSr_aR];exact pathS_fn out (by omega) (fun k hkm => by have:=hk k hkm; omega)
 refine mM ?_;refine mS ?_;refine po_rowC (L:=out.map sV) hR rfl hFp ?_;refine mS ?_;by_cases hput:putPath out = s
 ·refine po_neS (la:=putPath out) (lb:=s) (e:=false) rfl rfl rfl (by rw [hput]; simp) ?_
  refine mK ?_;refine mP ?_;have hres:getPS s = some out:=by unfold getPS; rw [hgs]; simp only; rw [if_pos hput]
  rw [hres];exact zab ⟨.inr rfl,[.d c,.d (pB true)],rfl,c,rfl,hR,hK⟩
 ·refine po_neS (la:=putPath out) (lb:=s) (e:=true) rfl rfl rfl (by simp [hput]) ?_
  refine mT ?_;refine mO ?_;refine zaC (es:=[]) rfl ?_;refine mN ?_;have hres:getPS s = none:=by unfold getPS; rw [hgs]; simp only; rw [if_neg hput]
  rw [hres];exact zab ⟨.inr rfl,[.d (.sl n1 []),.d (pB false)],rfl,_,rfl,⟨Nat.zero_le _,.inl ⟨n1,rfl,.inr (mem_cons_self ..),rfl⟩⟩,Nat.le_succ_of_le hK.1,fun t ht => mem_cons_of_mem _ (hK.2 t ht)⟩
end
section
theorem FnG.datA {E:Env} {f:Nat} {args args':List PV} {bx:LP PC} {nt:Nat} {live:List Nat} {R:PV -> LP PC -> Nat -> List Nat -> Prop} (hl:args.length = args'.length) (hd:∀ (j:Nat) (x':PV),args'[j]? = some x' -> ∃ x,args[j]? = some x /\ (x = x' \/ x.dat = some x')) (h:FnG E f args' bx nt live R):FnG E f args bx nt live R:=by
 intro C w vs hI hnt hold hn2 hlen hv;refine h C w vs hI hnt hold hn2 (by rw [hlen,hl]) fun j x y hx hy => ?_
 obtain ⟨x0,h0,h1⟩:=hd j x hx;have h2:=hv j x0 y h0 hy
 rcases h1 with rfl | h1
 ·exact h2
 ·exact h2.toDat (fun _ _ h => h) h1
theorem rows_trim {E:Env} {C C':Cx} {w w':World} {bx b0 rest:LP PC} {live l:List Nat} {c:PC} {y:Value} {st:List (L8)} (hI:Inv E.NG E.T C bx (· ∈ live) w) (hb0:b0.length = bx.length) (hlw:∀ cs ∈ b0,lwL b0.length cs) (hsub:∀ t ∈ live,t ∈ l) (hJ:Inv E.NG E.T C' (b0 ++ rest) (· ∈ l) w') (hE:Ext C w C' (b0 ++ rest).length (· ∈ l) w') (hR:c.er = pSs st \/ RwAt 1 b0.length l c (b0 ++ rest) (stL st)) (hv:RpC C' w' c y) :
  ∃ C2,Inv E.NG E.T C2 b0 (· ∈ live) w' /\ C2.nt = C'.nt /\ Ext C w C2 b0.length (· ∈ live) w' /\ RpC C2 w' (pSs st) y:=by
 have hnb0:C.nb = b0.length:=by rw [hI.nb,hb0]
 have hbl:b0.length <= (b0 ++ rest).length:=by simp
 have mk:∀ F2:Nat -> Nat -> Prop,(∀ b o,C'.F b o -> F2 b o) -> (∀ b o,F2 b o -> C'.F b o \/ ∃ p,b0.length <= p /\ p < (b0 ++ rest).length /\ b = C'.bx p) -> ∃ C2:Cx,C2 = { C' with nb:=b0.length,F:=F2 } /\ Inv E.NG E.T C2 b0 (· ∈ live) w' /\ C2.nt = C'.nt /\ Ext C w C2 b0.length (· ∈ live) w':=by
  intro F2 h1 h2;have hcut:CxLe (C'.cutB b0.length) { C' with nb:=b0.length,F:=F2 }:=⟨h1,lR,fun _ _ => rfl,lR,fun _ _ => ⟨rfl,rfl,rfl,rfl⟩⟩;refine ⟨_,rfl,⟨rfl,fun q cs hq => ?_,fun q hq o hF => ?_,fun q hq => hJ.boxG q (by omega),fun q r hq hr h => hJ.inj q r (by omega) (by omega) h,fun t ht => ?_,fun t s b ht hs => hJ.tinj t s b (hsub t ht) (hsub s hs),fun b o h => ?_,hJ.ng,hJ.t⟩,rfl,?_⟩
  ·have hql:q < b0.length:=by
    rcases Nat.lt_or_ge q b0.length with h | h
    ·exact h
    ·rw [getElem?_eq_none h] at hq; cases hq
   obtain ⟨us,e,k1,k2⟩:=hJ.box q cs (by rw [getElem?_append_left hql]; exact hq);exact ⟨us,e,k1,(k2.trim (hlw cs (mem_of_getElem? hq))).frame hcut (.of (fun _ _ _ => rfl) (fun _ _ => rfl))⟩
  ·rcases h2 _ _ hF with h | ⟨p,hp,hp2,he⟩
   ·exact hJ.boxF q (by omega) o h
   ·have:=hJ.inj q p (by omega) hp2 he
    omega
  ·obtain ⟨a1,a2,a3⟩:=hJ.tok t (hsub t ht)
   refine ⟨a1,a2,a3.imp id ?_⟩;rintro ⟨b,cur,e,c1,c2,c3,c4,c5,c6,c7,cz,c8,c9⟩;refine ⟨b,cur,e,c1,c2,c3,c4,c5,c6,c7,cz,fun o hF => ?_,fun q hq => c9 q (by omega)⟩
   rcases h2 _ _ hF with h | ⟨p,_,hp2,he⟩
   ·exact c8 o h
   ·exact absurd he.symm (c9 p hp2)
  ·rcases h2 b o h with h | ⟨p,_,hp2,rfl⟩
   ·exact hJ.fin b o h
   ·obtain ⟨us,e,hh,_⟩:=hJ.box p _ (getElem?_eq_getElem hp2)
    exact zaq hh
  ·refine ⟨hE.os,hE.tape,hE.output,hE.size,fun b o h => h1 b o (hE.F b o h),hE.fix,hE.block,⟨by rw [hnb0]; exact lR,hE.bx.2⟩,fun b o h => ?_,fun t b ht hb => hE.newT t b (hsub t ht) hb,(fun q hq hq2 => by omega),hE.tk⟩
   rcases h2 b o h with h | ⟨p,hp,hp2,rfl⟩
   ·exact hE.newF b o h
   ·exact .inr (.inl (hE.newB p (by omega) hp2))
 rcases hR with he | hR
 ·obtain ⟨C2,e2,i2,n2,x2⟩:=mk C'.F (fun _ _ h => h) (fun _ _ h => .inl h)
  refine ⟨C2,i2,n2,x2,?_⟩;rw [<- he];exact hv.toEr (C':=C2) (fun b o h => by rw [e2]; exact h)
 rcases hR.2 with ⟨t,rfl,_,h0⟩ | ⟨p,len,cap,z,rfl,hlo,hz,hzl,hlc,hzt⟩
 ·obtain ⟨C2,e2,i2,n2,x2⟩:=mk C'.F (fun _ _ h => h) (fun _ _ h => .inl h)
  have:st = []:=by simpa [stL] using h0
  subst this;refine ⟨C2,i2,n2,x2,?_⟩;exact hv.toEr (C':=C2) (fun b o h => by rw [e2]; exact h)
 have hp:p < (b0 ++ rest).length:=by
  rcases Nat.lt_or_ge p (b0 ++ rest).length with h | h
  ·exact h
  ·rw [getElem?_eq_none h] at hz; cases hz
 rw [Nat.one_mul] at hzt hzl
 have hln:st.length = len:=by
  have:=congrArg length hzt
  rw [zbg,length_take] at this; omega
 obtain ⟨us,e0,hh,hlen,hus⟩:=hJ.box p z hz;obtain ⟨C2,e2,i2,n2,x2⟩:=mk (fun b o => C'.F b o \/ (b = C'.bx p /\ o < len)) (fun _ _ h => .inl h) (fun b o h => h.imp id fun h => ⟨p,hlo,hp,h.1⟩);refine ⟨C2,i2,n2,x2,?_⟩
 cases hv with
 | row _ _ _ hpn hlc2 hcm =>
 have hsl:(pSr st).length = len:=by rw [zaM]; exact hln
 have hcell:∀ i,i < len -> us[i]? = some (us.getD i undef):=fun i hi => by
  have:i < us.length:=by omega
  rw [getD_eq_getElem?_getD,getElem?_eq_getElem this]; rfl
 have hra:RowAt C2 w' (C'.bx p) 0 1 (pSr st) (fun i j => us.getD (i + j) undef):=by
  refine ⟨by decide,zbp _,fun i j hi hj => ?_,fun i j hi hj => ?_⟩
  ·rw [hsl] at hi
   obtain rfl:j = 0:=by omega
   have h5:=hcell i hi
   have:0 + (1 * i + 0) = i:=by omega
   rw [this];simp only [World.cell?,hh,getElem?_toArray,Nat.add_zero,h5];rfl
  ·rw [hsl] at hi
   rw [e2]; exact .inr ⟨rfl,by omega⟩
 have:=RpC.rd (C:=C2) (w:=w') (pSr st) (C'.bx p) 0 1 cap (fun i j => us.getD (i + j) undef) (by omega) hcm hra (fun i j e y he hy => by
  have hil:i < len:=by have:=(List.getElem?_eq_some_iff.1 he).1; omega
  have hel:e.length = 1:=zbp _ e (mem_of_getElem? he);have hj:j = 0:=by have:=(List.getElem?_eq_some_iff.1 hy).1; omega
  subst hj
  have hzc:z[i]? = some y:=by
   have h1:(stL st)[i]? = some y:=by
    unfold stL;unfold pSr at he;rw [getElem?_map] at he ⊢;obtain ⟨k,hk,rfl⟩:=Option.map_eq_some_iff.1 he;rw [getElem?_map,hk];simp only [getElem?_cons_zero,sI] at hy
    subst hy; rfl
   rw [hzt,getElem?_take,if_pos hil] at h1;exact h1
  have h1:=hus i y _ hzc (hcell i hil)
  have hyv:y.er = y:=by
   unfold pSr at he;rw [getElem?_map] at he;obtain ⟨k,hk,rfl⟩:=Option.map_eq_some_iff.1 he;simp only [getElem?_cons_zero,sI] at hy
   subst hy; rfl
  have h2:=h1.toEr (C':=C2) (fun b o h => by rw [e2]; exact .inl h);rw [hyv] at h2;exact h2)
 rw [hsl] at this;exact this
theorem FnG.rowD {E:Env} {f:Nat} {args:List PV} {bx:LP PC} {nt:Nat} {live:List Nat} {Q:LP PC -> List (L8) -> Prop} (h:FnG E f args bx nt live (fun x b n l => ∃ c b0 rest st,x = .d c /\ b = b0 ++ rest /\ b0.length = bx.length /\ (∀ cs ∈ b0,lwL b0.length cs) /\ (c.er = pSs st \/ RwAt 1 b0.length l c b (stL st)) /\ NR nt live n l [] /\ Q b0 st)) :
  FnG E f args bx nt live (fun x b n l => ∃ st,x = .d (pSs st) /\ Q b st /\ nt <= n /\ l = live):=by
 intro C w vs hI hnt hold hn2 hl hv;refine (h C w vs hI hnt hold hn2 hl hv).mono ?_;rintro e w' ⟨u,x,bx2,n,l,C',rfl,⟨c,b0,rest,st,rfl,rfl,hb0,hlw,hR,hN,hQ⟩,hJ,hn,hE,hx⟩
 cases hx with
 | d _ _ hx =>
 obtain ⟨C2,i2,n2,x2,r2⟩:=rows_trim hI hb0 hlw (fun t ht => hN.keep t ht (hI.tok t ht).1 (by have:=(hI.tok t ht).2.1; omega)) hJ hE hR hx;exact ⟨_,.d (pSs st),b0,n,live,C2,rfl,⟨st,rfl,hQ,hN.le,rfl⟩,i2,by rw [n2]; exact hn,x2,.d _ _ r2⟩
theorem FnG.toks {E:Env} {f:Nat} {args:List PV} {bx:LP PC} {nt:Nat} {live:List Nat} {R:PV -> LP PC -> Nat -> List Nat -> Prop} (h:FnG E f args bx nt live R):FnG E f args bx nt live (fun x b n l => R x b n l /\ ∀ t ∈ l,2 <= t /\ t < n):=by
 intro C w vs hI hnt hold hn2 hl hv;refine (h C w vs hI hnt hold hn2 hl hv).mono ?_;rintro e w' ⟨u,x,b,n,l,C',rfl,hR,hJ,hn,hE,hx⟩;exact ⟨u,x,b,n,l,C',rfl,⟨hR,fun t ht => ⟨(hJ.tok t ht).1,by rw [<- hn]; exact (hJ.tok t ht).2.1⟩⟩,hJ,hn,hE,hx⟩
end
section
def stepOf (v:V) (i:Nat):Option (L8) :=
 if v.kind = 9 then some [116,97,103]
 else if v.kind = 8 then (if i % 2 = 0 then none else match v.kids[i - 1]? with
  | some k => if k.kind = 5 then some k.text else none
  | none => none)
 else some (Lib.itoa i)
def pthG (f:V -> List (L8) -> List (L8)) (v:V) (st:List (L8)) (i:Nat):List (L8):=match stepOf v i,v.kids[i]? with
 | some s,some k => f k (st ++ [s])
 | _,_ => []
def pthS:Nat -> V -> List (L8) -> List (L8)
 | 0,_,_ => []
 | n + 1,v,st => putPath st :: ((range v.kids.length).map (pthG (pthS n) v st)).flatten
theorem zeI {α:Type} (g:Nat -> List α) (i:Nat):((range (i + 1)).map g).flatten = ((range i).map g).flatten ++ g i:=by
 rw [List.range_succ,map_append,flatten_append]; simp
theorem zcW {ks:List V} {i:Nat} (h:i < ks.length):V.nodess (ks.take (i + 1)) = V.nodess (ks.take i) + ks[i].nodes:=by
 have app:∀ a b:List V,V.nodess (a ++ b) = V.nodess a + V.nodess b:=by
  intro a b
  induction a with
  | nil => simp [V.nodess]
  | cons x a ih => simp only [cons_append,V.nodess,ih]; omega
 rw [take_succ_eq_append_getElem h,app]; simp [V.nodess]
theorem zeJ {n:Nat} (ih:∀ v st,(pthS n v st).length <= v.nodes) (v:V) (st:List (L8)):∀ i,i <= v.kids.length -> (((range i).map (pthG (pthS n) v st)).flatten).length <= V.nodess (v.kids.take i)
 | 0,_ => Nat.zero_le _
 | i + 1,h => by
  have h1:=zeJ ih v st i (by omega);have hi:i < v.kids.length:=by omega
  rw [zeI,length_append,zcW hi]
  have h2:(pthG (pthS n) v st i).length <= v.kids[i].nodes:=by
   unfold pthG;rw [getElem?_eq_getElem hi]
   cases stepOf v i with
   | none => exact Nat.zero_le _
   | some s => exact ih _ _
  omega
theorem zdh:∀ (n:Nat) (v:V) (st:List (L8)),(pthS n v st).length <= v.nodes
 | 0,v,_ => Nat.zero_le _
 | n + 1,v,st => by
  have h:=zeJ (zdh n) v st v.kids.length lR;rw [take_length] at h;rw [pthS,length_cons];obtain ⟨k,m,e,s,kids⟩:=v;simp only [V.nodes,V.kids] at h ⊢; omega
end
section
variable {T:World -> Prop} {hT:Low ngl T}
attribute [local irreducible] po mw pt
theorem pSr_snoc (a:List (L8)) (s:L8):pSr (a ++ [s]) = pSr a ++ [[pS s]]:=by simp [pSr]
theorem pSr_app (a b:List (L8)):pSr (a ++ b) = pSr a ++ pSr b:=by simp [pSr]
theorem kids_lt (v:V):v.kids.length < v.nodes:=by
 have key:∀ l:List V,l.length <= V.nodess l:=by
  intro l
  induction l with
  | nil => exact Nat.zero_le _
  | cons x l ih => have:=x.nodes_pos; simp only [length_cons,V.nodess]; omega
 obtain ⟨k,m,e,s,kids⟩:=v
 have:=key kids
 simp only [V.kids,V.nodes]; omega
theorem zfF:∀ (l:List V) (i:Nat),V.nodess (l.take i) <= V.nodess l
 | [],i => by rw [List.take_nil]; exact lR
 | x :: l,0 => Nat.zero_le _
 | x :: l,i + 1 => by have:=zfF l i; simp only [take_succ_cons,V.nodess]; omega
def P8I (n:Nat) (v:V) (st:List (L8)) (m:Nat) (s:St):Prop :=
 ∃ (i q:Nat) (out:List (L8)),i <= v.kids.length /\ m = v.kids.length - i /\ has s.tm [(1,.d (pSs st)),(2,.ref 0 0),(5,.d (.sl q (pSr out))),(6,.d (pI i))] /\ s.bx = [vC v] /\ q ∈ s.live /\ q < s.nt /\ out = putPath st :: ((range i).map (pthG (pthS n) v st)).flatten
theorem l08_fn {P:V -> Prop} (hP:∀ v,P v -> v.text.length <= 100000 /\ ∀ k ∈ v.kids,P k):∀ (n:Nat) (v:V) (st:List (L8)),v.nodes <= n -> n <= 1000000 -> P v -> st.length + n <= 2000000 -> (∀ s ∈ st,s.length <= 100000) ->
  FnV (env T hT) 67 [.ag (vC v),.d (pSs st)] (.d (pSs (pthS n v st))):=by
 intro n
 induction n with
 | zero => intro v st h; have:=v.nodes_pos; omega
 | succ n ih =>
 intro v st hn hn1 hPv hsl hst;obtain ⟨hvt,hvk⟩:=hP v hPv
 have hkl:v.kids.length <= n:=by
  have:=kids_lt v; omega
 refine za1 (zad zeH) (by show 2 <= 61; decide) fun B hB => ?_
 unfold m_s_l08Paths;refine mO ?_;refine zax (cs:=vC v) rfl ?_;refine mN ?_;refine mQ ?_;refine zac (args:=[.d (pSs st)]) (congrArg (fun r => some [PV.d (.sl 0 r)]) (zbG st)) (pathS_fn (T:=T) (hT:=hT) st (by omega) (fun k hk => by have:=hst k hk; omega)) ?_;refine zaC (es:=[[pS (putPath st)]]) rfl ?_;refine mN ?_;refine zav (fun s => ∃ (q:Nat),has s.tm [(5,.d (.sl q (pSr (pthS (n + 1) v st))))]) ?_ ?_
 ·refine mP ?_
  refine zai ?_;refine zaJ (P8I n v st) v.kids.length ⟨0,2,[putPath st],Nat.zero_le _,rfl,⟨rfl,rfl,rfl,rfl,trivial⟩,rfl,mem_singleton.2 rfl,Nat.lt_succ_self 2,rfl⟩ ?_;rintro m tm bx nt live ⟨i,q,out,hi,rfl,ht,hbx,hql,hqn,ho⟩;obtain ⟨tm1,rfl⟩:=zah ht;simp only at hbx hql hqn; subst hbx
  clear ht;refine mM ?_;(iterate 3 refine mS ?_);refine zaA (n:=v.kids.length) rfl rfl (zao _) ?_;refine po_b rfl rfl (fun p hp => ?_);refine zae ?_;refine zb9 (p:=(i:Int) < v.kids.length) hp rfl (fun him _ => ?_) (fun him _ => ?_)
  rotate_left
  ·refine zaL ?_
   obtain rfl:i = v.kids.length:=by omega
   exact ⟨q,by show PV.d (.sl q (pSr out)) = _; rw [ho]; rfl,trivial⟩
  have hil:i < v.kids.length:=by omega
  refine zau ?_;refine zaD (zai (zaD (zaj ?_)));refine mS ?_;refine zac (args:=[.d (pI i)]) rfl (decT_fn (T:=T) (hT:=hT) (i:Int) (by unfold i64ok; omega)) ?_;refine mN ?_;refine zav (fun s => has s.tm [(1,.d (pSs st)),(2,.ref 0 0),(5,.d (.sl q (pSr out))),(6,.d (pI i)),(7,.d (pS (if v.kind = 9 then [116,97,103] else Lib.itoa i)))] /\ s.bx = [vC v] /\ s.nt = nt /\ s.live = live) ?_ ?_
  ·refine mO ?_
   (iterate 2 refine mS ?_);by_cases h9:v.kind = 9
   ·refine zaf rfl rfl (beq_iff_eq.2 h9) ?_
    refine mT ?_;refine zaj ?_;refine mN ?_;rw [if_pos h9];exact ⟨⟨rfl,rfl,rfl,rfl,rfl,trivial⟩,rfl,rfl,rfl⟩
   ·refine zal rfl rfl (beq_eq_false_iff_ne.2 h9) ?_
    refine mK ?_;rw [if_neg h9];exact ⟨⟨rfl,rfl,rfl,rfl,rfl,trivial⟩,rfl,rfl,rfl⟩
  rintro tm bx nt1 live1 ⟨ht,hbx,rfl,rfl⟩;obtain ⟨tm2,rfl⟩:=zah ht;simp only at hbx; subst hbx
  clear ht;refine zav (fun s => ∃ sp:L8,stepOf v i = some sp /\ sp.length <= 100000 /\ has s.tm [(1,.d (pSs st)),(2,.ref 0 0),(5,.d (.sl q (pSr out))),(6,.d (pI i)),(7,.d (pS sp))] /\ s.bx = [vC v] /\ s.nt = nt1 /\ s.live = live1) ?_ ?_
  ·refine mO ?_
   (iterate 2 refine mS ?_);by_cases h8:v.kind = 8
   ·refine zaf rfl rfl (beq_iff_eq.2 h8) ?_
    refine mT ?_;refine mM ?_;refine mS ?_;refine po_rem (n:=((i % 2:Nat):Int)) rfl rfl rfl (by decide) (by rw [Int.tmod_eq_emod_of_nonneg (by omega)]; omega) ?_
    have hnone:∀ h:stepOf v i = none,out = putPath st :: ((range (i + 1)).map (pthG (pthS n) v st)).flatten:=fun h => by
     rw [ho,zeI]
     have:pthG (pthS n) v st i = []:=by unfold pthG; rw [h]
     rw [this,append_nil]
    by_cases hev:i % 2 = 0
    ·refine zaf rfl rfl (beq_iff_eq.2 (by omega)) ?_
     refine mS ?_;refine mZ ?_;refine mT ?_;refine zaL ?_;refine zaj ?_;refine mS ?_;refine zay (n:=((i + 1:Nat):Int)) rfl rfl rfl (by omega) (by omega) ?_;refine mN ?_;exact ⟨v.kids.length - (i + 1),by omega,i + 1,q,out,hil,rfl,⟨rfl,rfl,rfl,rfl,trivial⟩,rfl,hql,hqn,hnone (by unfold stepOf; rw [if_neg (by omega),if_pos h8,if_pos hev])⟩
    have hi1:i - 1 < v.kids.length:=by omega
    refine zal rfl rfl (beq_eq_false_iff_ne.2 (by omega)) ?_;(iterate 4 refine mS ?_);refine zbu (n:=((i - 1:Nat):Int)) rfl rfl rfl (by omega) (by omega) ?_;refine za4 (es:=vK v.kids) (e:=vC v.kids[i - 1]) rfl rfl rfl ⟨by omega,by rw [Int.toNat_natCast]; exact zbe hi1⟩ rfl ?_;(iterate 2 refine mS ?_)
    have hso:stepOf v i = if v.kids[i - 1].kind = 5 then some v.kids[i - 1].text else none:=by
     unfold stepOf; rw [if_neg (by omega),if_pos h8,if_neg hev,getElem?_eq_getElem hi1]
    by_cases h5:v.kids[i - 1].kind = 5
    ·refine zal rfl rfl (by rw [h5]; rfl) ?_
     refine mK ?_;refine zaj ?_;(iterate 3 refine mS ?_);refine zbu (n:=((i - 1:Nat):Int)) rfl rfl rfl (by omega) (by omega) ?_;refine za4 (es:=vK v.kids) (e:=vC v.kids[i - 1]) rfl rfl rfl ⟨by omega,by rw [Int.toNat_natCast]; exact zbe hi1⟩ rfl ?_;refine mN ?_;exact ⟨v.kids[i - 1].text,by rw [hso,if_pos h5],(hP _ (hvk _ (getElem_mem hi1))).1,⟨rfl,rfl,rfl,rfl,rfl,trivial⟩,rfl,rfl,rfl⟩
    ·refine zaf rfl rfl (by simp [bne,h5]) ?_
     refine mT ?_;refine zaL ?_;refine zaj ?_;refine mS ?_;refine zay (n:=((i + 1:Nat):Int)) rfl rfl rfl (by omega) (by omega) ?_;refine mN ?_;exact ⟨v.kids.length - (i + 1),by omega,i + 1,q,out,hil,rfl,⟨rfl,rfl,rfl,rfl,trivial⟩,rfl,hql,hqn,hnone (by rw [hso,if_neg h5])⟩
   ·refine zal rfl rfl (beq_eq_false_iff_ne.2 h8) ?_
    refine mK ?_;refine ⟨_,?_,?_,⟨rfl,rfl,rfl,rfl,rfl,trivial⟩,rfl,rfl,rfl⟩
    ·unfold stepOf
     by_cases h9:v.kind = 9
     ·rw [if_pos h9,if_pos h9]
     ·rw [if_neg h9,if_neg h8,if_neg h9]
    ·split
     ·exact Nat.le_of_ble_eq_true rfl
     ·have:=Lib.itoa_length_le (i:Int) (by omega) (by omega); omega
  rintro tm bx nt2 live2 ⟨sp,hsp,hspl,ht,hbx,rfl,rfl⟩;obtain ⟨tm3,rfl⟩:=zah ht;simp only at hbx; subst hbx
  clear ht;have hkn:=V.nodes_get v.kids i hil;have hvn:v.nodes = 1 + V.nodess v.kids:=by cases v; rfl
  have hol:out.length <= 1 + V.nodess v.kids:=by
   have h1:=zeJ (zdh n) v st i hi;have h2:=zfF v.kids i;rw [ho,length_cons]; omega
  have hpl:=zdh n v.kids[i] (st ++ [sp]);refine zaj ?_;(iterate 4 refine mS ?_);refine za4 (es:=vK v.kids) (e:=vC v.kids[i]) rfl rfl rfl ⟨by omega,by rw [Int.toNat_natCast]; exact zbe hil⟩ rfl ?_;(iterate 3 refine mS ?_);refine zcq (es:=[[pS sp]]) rfl ?_;refine zaC (es:=[]) rfl ?_;refine za3 (t:=nt2) (t':=0) (es:=[]) (ds:=pSr st) rfl rfl (.inr (mem_cons_self ..)) (by rw [zaM]; simp only [length_nil]; omega) (zbp st) (fun e he => by cases he) ?_;refine za3 (t:=nt2 + 1) (t':=0) (es:=[] ++ pSr st) (ds:=[[pS sp]]) rfl rfl (.inr (mem_cons_self ..)) (by rw [nil_append,zaM]; simp only [length_singleton]; omega) (fun e he => by rw [mem_singleton] at he; subst he; rfl) (fun e he => by rw [nil_append] at he; exact zbp st e he) ?_
  refine zac (args:=[.ag (vC v.kids[i]),.d (pSs (st ++ [sp]))]) (by
   show some [PV.ag (erL (vC v.kids[i])),PV.d (.sl 0 (erLL ([] ++ pSr st ++ [[pS sp]])))] = _
   rw [zap,nil_append,<- pSr_snoc,zbG]; rfl) (ih v.kids[i] (st ++ [sp]) (by omega) (by omega) (hvk _ (getElem_mem hil)) (by rw [length_append,length_singleton]; omega) (fun s hs => by
    rcases mem_append.1 hs with hs | hs
    ·exact hst s hs
    ·rw [mem_singleton] at hs; subst hs; exact hspl)) ?_
  have hqm:q ∈ (nt2 + 1 + 1) :: filter (fun x => x != nt2 + 1) ((nt2 + 1) :: filter (fun x => x != nt2) (nt2 :: live2)):=by
   have hqn2:q < nt2:=hqn;have hql2:q ∈ live2:=hql;have h1:q ≠ nt2:=by omega
   have h2:q ≠ nt2 + 1:=by omega
   simp [h1,h2,hql2]
  refine za3 (t:=q) (t':=0) (es:=pSr out) (ds:=pSr (pthS n v.kids[i] (st ++ [sp]))) rfl rfl (.inr hqm) (by rw [zaM,zaM]; omega) (zbp _) (zbp _) ?_;refine mN ?_;refine zaj ?_;refine mS ?_;refine zay (n:=((i + 1:Nat):Int)) rfl rfl rfl (by omega) (by omega) ?_;refine mN ?_;refine ⟨v.kids.length - (i + 1),by omega,i + 1,nt2 + 1 + 1 + 1,out ++ pthS n v.kids[i] (st ++ [sp]),hil,rfl,⟨rfl,rfl,?_,rfl,trivial⟩,rfl,mem_cons_self ..,Nat.lt_succ_self _,?_⟩
  ·show PV.d (.sl (nt2 + 1 + 1 + 1) (pSr out ++ pSr (pthS n v.kids[i] (st ++ [sp])))) = _
   rw [pSr_app]
  ·rw [ho,zeI]
   have:pthG (pthS n) v st i = pthS n v.kids[i] (st ++ [sp]):=by unfold pthG; rw [hsp,getElem?_eq_getElem hil]
   rw [this]; rfl
 rintro tm bx nt live ⟨q,ht⟩;obtain ⟨tm1,rfl⟩:=zah ht;refine mP ?_;exact zab ⟨.inr rfl,[.d (.sl q (pSr (pthS (n + 1) v st)))],rfl,congrArg (fun r => some (PV.d (.sl 0 r))) (zbG _)⟩
/-! ### Paths -/
def Rgt (v:V):Prop:=∃ d:Int,V.rightBy pairsOk d v = true
theorem Rgt.all:∀ v,Rgt v -> v.text.length <= 100000 /\ (v.kids ≠ [] -> v.kind = 7 \/ v.kind = 8 \/ v.kind = 9) /\ ∀ k ∈ v.kids,Rgt k:=by
 rintro ⟨k,n,e,s,kids⟩ ⟨d,h⟩;simp only [V.rightBy,Bool.and_eq_true,V.selfBy] at h;obtain ⟨h1,_,h2⟩:=h;rw [V.rightsBy_all,all_eq_true] at h1;refine ⟨?_,?_,fun x hx => ⟨_,h1 x hx⟩⟩
 ·show s.length <= 100000
  split at h2
  ·simp at h2; simp [h2]
  split at h2
  ·simp at h2; simp [h2]
  split at h2
  ·simp at h2; simp [h2]
  split at h2
  ·simp at h2; omega
  split at h2
  ·simp at h2; omega
  split at h2
  ·simp at h2; simp [h2]
  split at h2
  ·simp at h2; simp [h2]
  split at h2
  ·simp at h2; simp [h2]
  ·cases h2
 ·intro hk
  have hk:kids ≠ []:=hk;show k = 7 \/ k = 8 \/ k = 9
  split at h2
  ·simp [hk] at h2
  split at h2
  ·simp [hk] at h2
  split at h2
  ·simp [hk] at h2
  split at h2
  ·simp [hk] at h2
  split at h2
  ·simp [hk] at h2
  split at h2
  ·exact .inl ‹_›
  split at h2
  ·exact .inr (.inl ‹_›)
  split at h2
  ·exact .inr (.inr ‹_›)
  ·cases h2
def pthV (v:V):List (L8):=if v.ok then pthS v.nodes v [] else []
theorem zgu {v:V} (h:v.ok = true):V.rightBy pairsOk 12 v = true /\ v.nodes <= 300:=by
 unfold V.ok at h;simp only [Bool.and_eq_true,decide_eq_true_eq] at h;exact h
theorem pathsS_fn (v:V) (hw:v.wf) (hb:v.bulk <= 4294967295):FnV (env T hT) 40 [.ag (vC v)] (.d (pSs (pthV v))):=by
 refine za1 (zad lk_s_Paths) (by show 1 <= 10; decide) fun B hB => ?_
 unfold m_s_Paths;refine mO ?_;refine zax (cs:=vC v) rfl ?_;refine mN ?_;refine mM ?_;refine zaa (p:=0) (cs:=vC v) rfl rfl rfl rfl ?_;refine zac (zaI v) (zfw (T:=T) (hT:=hT) v hw hb) ?_;unfold pthV
 cases hk:v.ok with
 | false =>
  refine mT ?_;refine mO ?_;refine zaC (es:=[]) rfl ?_;refine mN ?_
  exact zab ⟨.inr rfl,[.d (.sl 2 [])],rfl,rfl⟩
 | true =>
  obtain ⟨hr,hn⟩:=zgu hk;refine mK ?_;refine mO ?_;refine zaa (p:=0) (cs:=vC v) rfl rfl rfl rfl ?_;refine zaC (es:=[]) rfl ?_;refine zac (args:=[.ag (vC v),.d (pSs [])]) (congrArg (fun l => some [PV.ag l,PV.d (pSs [])]) (zap v)) (l08_fn (T:=T) (hT:=hT) (P:=Rgt) (fun v h => ⟨(Rgt.all v h).1,(Rgt.all v h).2.2⟩) v.nodes v [] lR (by omega) ⟨_,hr⟩ (by simp only [length_nil]; omega) (fun s h => by cases h)) ?_;refine mN ?_;exact zab ⟨.inr rfl,[.d (pSs (pthS v.nodes v []))],rfl,congrArg (fun r => some (PV.d (.sl 0 r))) (zbG _)⟩
end
section
theorem ixI_itoa {i:Nat} (h:i <= 999999):ixI (Lib.itoa (i:Int)) = i:=by
 obtain ⟨h1,h2⟩:=rd_yes (n:=(i:Int)) (s:=Lib.itoa i) (by unfold i64ok; omega) rfl;unfold ixI;rw [h1,h2,if_pos ⟨rfl,by omega,by omega⟩]
theorem zd0 {key:L8} {l:List V} {j:Nat} (hj:2 * j + 1 < l.length) (hm:(l[2 * j]'(by omega)).kind = 5 /\ (l[2 * j]'(by omega)).text = key) (hno:∀ a,(h:a < j) -> ¬ ((l[2 * a]'(by omega)).kind = 5 /\ (l[2 * a]'(by omega)).text = key)) :
  ∀ m a:Nat,a <= j -> m = j - a -> findK key (l.drop (2 * a)) (2 * a) = ((2 * j:Nat):Int)
 | 0,a,h1,h2 => by
  obtain rfl:a = j:=by omega
  rw [zde hj,if_pos hm]
 | m + 1,a,h1,h2 => by
  have hlt:a < j:=by omega
  rw [zde (by omega),if_neg (hno a hlt)];exact zd0 hj hm hno m (a + 1) (by omega) (by omega)
theorem key_mark {q:List V -> Bool} {d:Int} {x:V} (h:V.rightBy q d x = true) (hk:x.kind = 5):x.mark = (5,0,x.text):=by
 have h1:=V.key_plain h (by unfold isKeyK; rw [hk]; rfl);obtain ⟨k,n,e,s,kids⟩:=x;simp only [V.kind] at hk; subst hk
 simp only [V.rightBy,Bool.and_eq_true,V.selfBy] at h;have h2:=h.2.2;simp at h2;simp only [V.mark,V.kind,V.num,V.text,h2.1]
theorem zbm {d:Int} {v:V} (hv:V.rightBy pairsOk d v = true):(v.kind = 9 -> v.kids.length = 1) /\ (v.kind = 8 -> ((odds v.kids).map V.mark).Nodup) /\ (v.kids ≠ [] -> v.kind = 7 \/ v.kind = 8 \/ v.kind = 9) /\ ∀ k ∈ v.kids,V.rightBy pairsOk (d - 1) k = true:=by
 obtain ⟨k,n,e,t,kids⟩:=v;simp only [V.rightBy,Bool.and_eq_true] at hv;obtain ⟨hks,_,hs⟩:=hv;rw [V.rightsBy_all,all_eq_true] at hks;refine ⟨fun h => ?_,fun h => ?_,fun hk => ?_,hks⟩
 ·have h:k = 9:=h
  subst h;simp [V.selfBy] at hs;exact hs.2.2.2
 ·have h:k = 8:=h
  subst h;simp [V.selfBy,pairsOk,uniq] at hs;exact hs.2.2.2.1.2
 ·have hk:kids ≠ []:=hk
  show k = 7 \/ k = 8 \/ k = 9;by_cases h7:k = 7
  ·exact .inl h7
  by_cases h8:k = 8
  ·exact .inr (.inl h8)
  by_cases h9:k = 9
  ·exact .inr (.inr h9)
  simp [V.selfBy,h9,h8,h7,hk] at hs
theorem kid_step {d:Int} {v:V} (hv:V.rightBy pairsOk d v = true) {i:Nat} (hi:i < v.kids.length) (hl:v.kids.length <= 300) {s:L8} (h:stepOf v i = some s):kidI v s = i:=by
 obtain ⟨f9,f8,fk,hks⟩:=zbm hv;have hne:v.kids ≠ []:=fun h => by rw [h] at hi; exact absurd hi (Nat.not_lt_zero _)
 unfold stepOf at h;unfold kidI;by_cases h9:v.kind = 9
 ·rw [if_pos h9] at h
  simp only [sI] at h; subst h
  have:=f9 h9
  rw [if_neg (by omega),if_neg (by omega),if_pos h9,if_pos ⟨rfl,by omega⟩]; omega
 rw [if_neg h9] at h;by_cases h8:v.kind = 8
 ·rw [if_pos h8] at h
  by_cases hev:i % 2 = 0
  ·rw [if_pos hev] at h; cases h
  rw [if_neg hev,getElem?_eq_getElem (show i - 1 < v.kids.length by omega)] at h;simp only at h
  split at h
  ·rename_i h5
   simp only [sI] at h;have hnd:=f8 h8;obtain ⟨j,hj⟩:∃ j,i = 2 * j + 1:=⟨i / 2,by omega⟩;have e1:i - 1 = 2 * j:=by omega
   have h5':(v.kids[2 * j]'(by omega)).kind = 5:=by simpa only [e1] using h5
   have ht':(v.kids[2 * j]'(by omega)).text = s:=by simpa only [e1] using h
   have hmk:∀ a,(ha:2 * a < v.kids.length) -> v.kids[2 * a].kind = 5 -> v.kids[2 * a].mark = (5,0,v.kids[2 * a].text):=fun a ha hk => key_mark (hks _ (getElem_mem ha)) hk
   have hf:findV v s = ((2 * j:Nat):Int):=by
    unfold findV;rw [if_pos h8]
    have:=zd0 (key:=s) (l:=v.kids) (j:=j) (by omega) ⟨h5',ht'⟩ (fun a ha hm => by
     have ea:(odds v.kids)[a]'(by rw [zaX]; omega) = v.kids[2 * a]'(by omega):=zdb v.kids a (by omega);have ej:(odds v.kids)[j]'(by rw [zaX]; omega) = v.kids[2 * j]'(by omega):=zdb v.kids j (by omega);have hla:a < ((odds v.kids).map V.mark).length:=by rw [length_map,zaX]; omega
     have hlj:j < ((odds v.kids).map V.mark).length:=by rw [length_map,zaX]; omega
     have heq:((odds v.kids).map V.mark)[a] = ((odds v.kids).map V.mark)[j]:=by
      rw [getElem_map,getElem_map,ea,ej,hmk a (by omega) hm.1,hmk j (by omega) h5',hm.2,ht']
     have:=(List.getElem_inj hnd).1 heq
     omega) j 0 (Nat.zero_le _) (by omega)
    simpa using this
   rw [if_neg (by omega),if_pos h8,if_pos (by rw [hf]; omega),hf]; omega
  ·cases h
 rw [if_neg h8] at h;simp only [sI] at h; subst h
 have h7:v.kind = 7:=by rcases fk hne with h | h | h <;> omega
 rw [if_pos h7,ixI_itoa (by omega),if_pos (by omega)]
theorem zbo {v:V} {s:L8} {r:List (L8)} {i:Nat} (h:kidI v s = i) (hi:i < v.kids.length):atI v (s :: r) = atI v.kids[i] r:=by
 rw [atI,dif_pos (by omega)]
 congr 1
 simp only [h,Int.toNat_natCast]
theorem kids_nodes {v:V} {i:Nat} (hi:i < v.kids.length):v.kids[i].nodes + v.kids.length <= v.nodes:=by
 have key:∀ (l:List V) (i:Nat) (h:i < l.length),l[i].nodes + l.length <= V.nodess l + 1:=by
  intro l
  induction l with
  | nil => intro i h; simp at h
  | cons x l ih =>
   intro i h;have hx:=x.nodes_pos
   have hl:l.length <= V.nodess l:=by
    clear ih h
    induction l with
    | nil => exact Nat.zero_le _
    | cons y l ih => have:=y.nodes_pos; simp only [length_cons,V.nodess]; omega
   cases i with
   | zero => simp only [getElem_cons_zero,length_cons,V.nodess]; omega
   | succ i =>
    simp only [length_cons] at h
    have:=ih i (by omega)
    simp only [getElem_cons_succ,length_cons,V.nodess]; omega
 obtain ⟨k,n,e,t,kids⟩:=v
 have:=key kids i hi
 simp only [V.kids,V.nodes]; omega
theorem pthS_at:∀ (n:Nat) (d:Int) (v:V) (st:List (L8)) (p:L8),V.rightBy pairsOk d v = true -> v.nodes <= 300 -> p ∈ pthS n v st -> ∃ more,p = putPath (st ++ more) /\ (atI v more).isSome = true
 | 0,_,_,_,_,_,_,h => by cases h
 | n + 1,d,v,st,p,hv,hn,h => by
  rw [pthS] at h
  rcases mem_cons.1 h with rfl | h
  ·exact ⟨[],by rw [append_nil],by rw [atI]; rfl⟩
  ·obtain ⟨l,hl,hp⟩:=List.mem_flatten.1 h
   obtain ⟨i,hi,rfl⟩:=mem_map.1 hl;rw [mem_range] at hi;have hkn:=kids_nodes hi;unfold pthG at hp;rw [getElem?_eq_getElem hi] at hp
   cases hs:stepOf v i with
   | none => rw [hs] at hp; cases hp
   | some s =>
    rw [hs] at hp;simp only at hp
    have hkr:V.rightBy pairsOk (d - 1) v.kids[i] = true:=by
     obtain ⟨k,m,e,t,kids⟩:=v;simp only [V.rightBy,Bool.and_eq_true] at hv
     have:=hv.1
     rw [V.rightsBy_all,all_eq_true] at this;exact this _ (getElem_mem hi)
    obtain ⟨more,rfl,hat⟩:=pthS_at n (d - 1) v.kids[i] (st ++ [s]) p hkr (by have:=v.kids[i].nodes_pos; omega) hp;exact ⟨s :: more,by rw [append_assoc]; rfl,by rw [zbo (kid_step hv hi (by omega) hs) hi]; exact hat⟩
end
section
variable {T:World -> Prop} {hT:Low ngl T}
theorem zbh (v:V) (_hw:v.wf) (hb:v.bulk <= 1048576):FnV (env T hT) 28 [.ag (vC v)] (.ag (vC v)):=by
 have h:FnO (env T hT) 28 [.ag (vC v)] (.ag v.d.pc):=by
  refine FnO.old (V.wfd v) fun w C vs hF _ _ hlen hv => ?_
  match vs,hlen with
  | [y],_ =>
   have h0:=hv 0 _ _ rfl rfl;rw [<- v.pc_eq] at h0;obtain ⟨cs,rfl,hr⟩:=vRd hF (V.wfd v) h0;exact own_any v cs w hr (by omega)
 have h:=h.v;rw [v.pc_eq] at h;exact h
end
section
variable {T:World -> Prop} {hT:Low ngl T}
attribute [local irreducible] po mw pt
def FnI (v:V) (key:L8) (m:Nat) (st:St):Prop :=
 ∃ i:Nat,i <= v.kids.length + 1 /\ m = v.kids.length + 1 - i /\ has st.tm [(1,.d (pS key)),(2,.ref 0 0),(5,.d (pI i))] /\ st.bx = [vC v] /\ (v.kind = 8 -> findV v key = findK key (v.kids.drop i) i)
theorem find_fn (v:V) (key:L8) (hl:v.kids.length <= 4294967295):FnV (env T hT) 78 [.ag (vC v),.d (pS key)] (.d (pI (findV v key))):=by
 refine za1 (zad lk_i_find) (by show 2 <= 37; decide) fun B hB => ?_
 unfold m_i_find;refine mO ?_;refine zax (cs:=vC v) rfl ?_;refine mN ?_;refine zav (fun st => findV v key = -1) ?_ ?_
 ·refine mP ?_
  refine zai ?_;refine zaJ (FnI v key) (v.kids.length + 1) ⟨0,Nat.zero_le _,rfl,⟨rfl,rfl,rfl,trivial⟩,rfl,fun h => by unfold findV; rw [if_pos h,drop_zero]⟩ ?_;rintro m tm bx nt live ⟨i,hi,rfl,ht,hbx,hf⟩;obtain ⟨tm1,rfl⟩:=zah ht;simp only at hbx; subst hbx
  clear ht;refine mM ?_;(iterate 2 refine mS ?_);by_cases h8:v.kind = 8
  ·refine zaf rfl rfl (beq_iff_eq.2 h8) ?_
   (iterate 2 refine mS ?_);refine zay (n:=((i + 1:Nat):Int)) rfl rfl rfl (by omega) (by omega) ?_;(iterate 2 refine mS ?_);refine zaA (n:=v.kids.length) rfl rfl (zao _) ?_;by_cases hil:i + 1 < v.kids.length
   ·refine zaf rfl rfl (decide_eq_true (by omega)) ?_
    refine mT ?_;refine zau ?_;have hat:=zde (key:=key) hil i;refine zaD (zai (zaD (zaj ?_)));(iterate 3 refine mS ?_);refine za4 (es:=vK v.kids) (e:=vC v.kids[i]) rfl rfl rfl ⟨by omega,by rw [Int.toNat_natCast]; exact zbe (by omega)⟩ rfl ?_;(iterate 2 refine mS ?_);by_cases h5:v.kids[i].kind = 5
    ·refine zaf rfl rfl (beq_iff_eq.2 h5) ?_
     (iterate 4 refine mS ?_);refine za4 (es:=vK v.kids) (e:=vC v.kids[i]) rfl rfl rfl ⟨by omega,by rw [Int.toNat_natCast]; exact zbe (by omega)⟩ rfl ?_;(iterate 3 refine mS ?_);refine zec (la:=v.kids[i].text) (lb:=key) rfl rfl rfl ?_;by_cases hk:v.kids[i].text = key
     ·rw [decide_eq_true hk]
      refine mT ?_;refine mP ?_;refine zab ⟨.inr rfl,[.d (pI i)],rfl,?_⟩;rw [hf h8,hat,if_pos ⟨h5,hk⟩]; rfl
     ·rw [decide_eq_false hk]
      refine mK ?_;refine zaj ?_;refine mS ?_;refine zay (n:=((i + 2:Nat):Int)) rfl rfl rfl (by omega) (by omega) ?_;refine mN ?_;exact ⟨v.kids.length + 1 - (i + 2),by omega,i + 2,by omega,rfl,⟨rfl,rfl,rfl,trivial⟩,rfl,fun _ => by rw [hf h8,hat,if_neg (fun h => hk h.2)]⟩
    ·refine zal rfl rfl (beq_eq_false_iff_ne.2 h5) ?_
     refine mS ?_;refine mZ ?_;refine mK ?_;refine zaj ?_;refine mS ?_;refine zay (n:=((i + 2:Nat):Int)) rfl rfl rfl (by omega) (by omega) ?_;refine mN ?_;exact ⟨v.kids.length + 1 - (i + 2),by omega,i + 2,by omega,rfl,⟨rfl,rfl,rfl,trivial⟩,rfl,fun _ => by rw [hf h8,hat,if_neg (fun h => h5 h.1)]⟩
   ·refine zal rfl rfl (decide_eq_false (by omega)) ?_
    refine mF ?_;refine zaL ?_;show findV v key = -1;rw [hf h8,zfh (by rw [length_drop]; omega)]
  ·refine zal rfl rfl (beq_eq_false_iff_ne.2 h8) ?_
   refine mS ?_;refine mZ ?_;refine mF ?_;refine zaL ?_;show findV v key = -1;unfold findV;rw [if_neg h8]
 rintro tm bx nt live h;refine mP ?_;exact zab ⟨.inr rfl,[.d (pI (-1))],rfl,by rw [h]; rfl⟩
end
section
open Go.RowKit Go.Lib
def ErrTab (w : World) : Prop := (∃ tp p, w.var? Tryz.prog "strconv.ErrSyntax" = some #[.iface tp p]) ∧ ∃ tp p, w.var? Tryz.prog "strconv.ErrRange" = some #[.iface tp p]
theorem synG : Tryz.prog.globalNamed "strconv.ErrSyntax" = some 2 := by kernel_rfl
theorem rngG : Tryz.prog.globalNamed "strconv.ErrRange" = some 3 := by kernel_rfl
theorem zfG (s:L8) (w:World) (hs:s.length <= 281474976710656) (hT:TenTab w) (hE:ErrTab w) :
  Calls Tryz.prog 89 #[.string ⟨s.toArray⟩] w fun e w' => e = .returned (.tuple #[.int .i64 (rdN s),.bool (rdB s)]) /\ Below w.heap.size w w':=by
 obtain ⟨⟨t1,p1,e1⟩,t2,p2,e2⟩:=hE;have hsz:(⟨s.toArray⟩:ByteArray).size = s.length:=by simp [ByteArray.size]
 cases ha:atoiAll s
 case ok v =>
  have hv:=atoiAll_bounds ha;have hA:=Lib.hid (fun w => Tryz.strconv_Atoi_ok ⟨s.toArray⟩ (by rw [hsz]; omega) v (by simpa using ha) w);have hI:=Lib.hid (fun w hT => Tryz.strconv_Itoa v hv.1 hv.2 w hT);by_cases hi:itoa v = s
  ·have hr:=Lib.hid (rd_yes hv hi)
   have hi':=Lib.hid hi;clear hi
   go_enter Tryz.func89,Tryz.ntmps89
   go_wp2_with (first | (go_at_call 97; refine (hA.out _).mono ?_; rintro e w1 ⟨rfl,hw⟩; have hb1:Below w.heap.size w w1:=(by rcases hw with rfl | ⟨t,rfl⟩; exact Below.refl _ _; exact Lib.bytesWorld_below _ _ _); clear hw; have hT1:=hT.below hb1) | (go_at_call 98; refine (hI.out _ hT1).mono ?_; rw [hi'.out]; rintro e w2 ⟨rfl,k,os,rfl⟩))
   go_ret2
   exact ⟨by rw [hr.out.1,hr.out.2]; rfl,hb1.trans ((Lib.below_grow _ _ lR _ _).mono hb1.size)⟩
  ·have hr:=Lib.hid (show rdN s = 0 /\ rdB s = false by simp [rdN,rdB,rdD,ha,hi])
   have hbe:(itoa v == s) = false:=by simpa using hi
   go_enter Tryz.func89,Tryz.ntmps89
   go_wp2_with (first | (go_at_call 97; refine (hA.out _).mono ?_; rintro e w1 ⟨rfl,hw⟩; have hb1:Below w.heap.size w w1:=(by rcases hw with rfl | ⟨t,rfl⟩; exact Below.refl _ _; exact Lib.bytesWorld_below _ _ _); clear hw; have hT1:=hT.below hb1) | (go_at_call 98; refine (hI.out _ hT1).mono ?_; rintro e w2 ⟨rfl,k,os,rfl⟩))
   all_goals first
    | (exfalso; rename_i hq; rw [hbe] at hq; cases hq)
    | (go_ret2; exact ⟨by rw [hr.out.1,hr.out.2]; rfl,hb1.trans ((Lib.below_grow _ _ lR _ _).mono hb1.size)⟩)
 case range =>
  have hr:=Lib.hid (show rdN s = 0 /\ rdB s = false by simp [rdN,rdB,rdD,ha]);have hc:w.cell? ⟨3,0,none⟩ = some (.iface t2 p2):=by have:=World.var?_cell rngG e2 0; simpa using this
  have hA:=Lib.hid (Tryz.strconv_Atoi_range ⟨s.toArray⟩ (by rw [hsz]; omega) (by simpa using ha) (.iface t2 p2) w hc (.inr ⟨_,_,rfl⟩));generalize atoiSat s = sat at hA
  go_enter Tryz.func89,Tryz.ntmps89
  go_wp2_with (go_at_call 97; refine hA.out.mono ?_; rintro e w1 ⟨N,rfl,_,_,hb1⟩)
  go_ret2
  exact ⟨by rw [hr.out.1,hr.out.2]; rfl,hb1⟩
 have hr:=Lib.hid (show rdN s = 0 /\ rdB s = false by simp [rdN,rdB,rdD,ha]);have hc:w.cell? ⟨2,0,none⟩ = some (.iface t1 p1):=by have:=World.var?_cell synG e1 0; simpa using this
 have hA:=Lib.hid (Tryz.strconv_Atoi_syntax ⟨s.toArray⟩ (by rw [hsz]; omega) (by simpa using ha) (.iface t1 p1) w hc (.inr ⟨_,_,rfl⟩))
 go_enter Tryz.func89,Tryz.ntmps89
 go_wp2_with (go_at_call 97; refine hA.out.mono ?_; rintro e w1 ⟨N,rfl,_,_,hb1⟩)
 go_ret2
 exact ⟨by rw [hr.out.1,hr.out.2]; rfl,hb1⟩
theorem ErrTab.low {n:Nat} {w w':World} (h1:2 < n) (h2:3 < n) (hk:∀ k,k < n -> w'.heap[k]? = w.heap[k]?) (h:ErrTab w):ErrTab w':=by
 have key:∀ (nm:String) (g:Nat) (v:Array Value),Tryz.prog.globalNamed nm = some g -> g < n -> w.var? Tryz.prog nm = some v -> w'.var? Tryz.prog nm = some v:=by
  intro nm g v hg hlt hv;unfold World.var? at hv ⊢;simp only [hg,Option.bind_some] at hv ⊢;rw [hk g hlt];exact hv
 obtain ⟨⟨t1,p1,e1⟩,t2,p2,e2⟩:=h;exact ⟨⟨t1,p1,key _ _ _ synG h1 e1⟩,t2,p2,key _ _ _ rngG h2 e2⟩
end
section
theorem FnV.oldT {E:Env} {f:Nat} {args:List PV} {a b:Value} (ha:a.oneCell' = true) (hb1:b.oneCell' = true) (h:∀ (w:World) (C:Cx) (vs:List Value),(∀ b o,C.F b o -> b < w.heap.size) -> E.NG <= w.heap.size -> E.T w -> vs.length = args.length -> (∀ (j:Nat) (x:PV) (y:Value),args[j]? = some x -> vs[j]? = some y -> RpV C w x y) ->
  Calls E.P f vs.toArray w fun e w' => e = .returned (.tuple #[a,b]) /\ Below w.heap.size w w'):FnV E f args (.tup [.d (.v a),.d (.v b)]):=by
 intro C w vs hI hnt hold hl hv;refine (h w C vs hI.fin hI.ng hI.t hl hv).mono ?_;rintro e w' ⟨rfl,hb⟩;have hF:Fix C w w':=.of (fun b o hF => World.cell?_of_block (a:=⟨b,o,none⟩) (hb.block b (hI.fin b o hF))) hb.block
 refine ⟨_,.tup [.d (.v a),.d (.v b)],[],fun _ => False,C,rfl,rfl,⟨hI.nb,fun p cs hp => by simp at hp,fun p hp => by simp at hp,fun p hp => by simp at hp,fun p q hp => by simp at hp,fun t ht => ht.elim,fun t s b ht => ht.elim,fun b o h => Nat.lt_of_lt_of_le (hI.fin b o h) hb.size,Nat.le_trans hI.ng hb.size,E.low w w' hI.t hb.size (fun k hk => hb.block k (Nat.lt_of_lt_of_le hk hI.ng))⟩,
  ⟨hb.os,hb.tape,hb.output,hb.size,fun _ _ h => h,hF,fun k hk _ _ => hb.block k hk,⟨lR,fun _ _ => rfl⟩,fun _ _ h => .inl h,fun t b ht => ht.elim,(fun p hp hp2 => by simp at hp2),⟨lR,fun _ _ => ⟨rfl,rfl,rfl,rfl⟩⟩⟩,.tup _ [a,b] rfl ?_⟩
 intro j x y hx hy
 match j with
 | 0 => simp at hx hy; subst hx; subst hy; exact .d _ _ (.v a ha)
 | 1 => simp at hx hy; subst hx; subst hy; exact .d _ _ (.v b hb1)
 | j + 2 => simp at hx
end
section
variable {T:World -> Prop} {hT:Low ngl T}
theorem zgv (hTen:∀ w,T w -> TenTab w) (hErr:∀ w,T w -> ErrTab w) (s:L8) (hs:s.length <= 2147483647):FnV (env T hT) 89 [.d (pS s)] (.tup [.d (pI (rdN s)),.d (pB (rdB s))]):=by
 refine FnV.oldT rfl rfl fun w C vs hF _ ht hlen hv => ?_
 match vs,hlen with
 | [x],_ =>
  have h1:x = .string ⟨s.toArray⟩:=by
   have h:=hv 0 _ _ rfl rfl
   cases h with
   | d _ _ h => cases h; rfl
  subst h1;exact zfG s w (by omega) (hTen w ht) (hErr w ht)
end
section
variable {T:World -> Prop} {hT:Low ngl T}
attribute [local irreducible] po mw pt
theorem zcX (hTen:∀ w,T w -> TenTab w) (hErr:∀ w,T w -> ErrTab w) (s:L8) (hs:s.length <= 2147483647):FnV (env T hT) 73 [.d (pS s)] (.d (pI (ixI s))):=by
 refine za1 (zad zfE) (by show 1 <= 18; decide) fun B hB => ?_
 unfold m_i_indexOf;refine mP ?_;refine mQ ?_;refine zac (args:=[.d (pS s)]) rfl (zgv (T:=T) (hT:=hT) hTen hErr s hs) ?_;refine mN ?_;refine mM ?_;refine mS ?_
 cases hb:rdB s with
 | false =>
  (iterate 2 refine mS ?_);refine mZ ?_;refine mT ?_;refine mP ?_;refine zab ⟨.inr rfl,[.d (pI (-1))],rfl,?_⟩
  unfold ixI; rw [hb,if_neg (fun h => by cases h.1)]; rfl
 | true =>
  (iterate 3 refine mS ?_);refine zat (b:=true) (args:=[.d (pI (rdN s)),.d (pI 0),.d (pI 999999)]) rfl (fun _ => rfl) (fun _ => within_fn (T:=T) (hT:=hT) (rdN s) 0 999999) ?_;by_cases hw:0 <= rdN s /\ rdN s <= 999999
  ·rw [decide_eq_true hw]
   refine mK ?_;refine mP ?_;refine zab ⟨.inr rfl,[.d (pI (rdN s))],rfl,?_⟩;unfold ixI; rw [hb,if_pos ⟨rfl,hw⟩]; rfl
  ·rw [decide_eq_false hw]
   refine mT ?_;refine mP ?_;refine zab ⟨.inr rfl,[.d (pI (-1))],rfl,?_⟩;unfold ixI; rw [hb,if_neg (fun h => hw h.2)]; rfl
theorem zdi (hTen:∀ w,T w -> TenTab w) (hErr:∀ w,T w -> ErrTab w) (v:V) (s:L8) (hl:v.kids.length <= 4294967295) (hs:s.length <= 2147483647):FnV (env T hT) 57 [.ag (vC v),.d (pS s)] (.d (pI (kidI v s))):=by
 have hfl:=findV_le v s;refine za1 (zad lk_i_kidAt) (by show 2 <= 38; decide) fun B hB => ?_
 unfold m_i_kidAt;refine mO ?_;refine zax (cs:=vC v) rfl ?_;refine mN ?_;refine zav (fun _ => kidI v s = -1) ?_ ?_
 ·refine mO ?_
  (iterate 2 refine mS ?_);refine zae ?_;refine zai ?_;refine mO ?_;by_cases h7:v.kind = 7
  ·refine zaf rfl rfl (beq_iff_eq.2 h7) ?_
   refine mT ?_;refine mQ ?_;refine zac (args:=[.d (pS s)]) rfl (zcX (T:=T) (hT:=hT) hTen hErr s hs) ?_;refine mN ?_;refine mO ?_;(iterate 3 refine mS ?_);refine zaA (n:=v.kids.length) rfl rfl (zao _) ?_;by_cases hi:ixI s < v.kids.length
   ·refine zaf rfl rfl (decide_eq_true hi) ?_
    refine mT ?_;refine mP ?_;refine zab ⟨.inr rfl,[.d (pI (ixI s))],rfl,?_⟩;unfold kidI; rw [if_pos h7,if_pos hi]; rfl
   ·refine zal rfl rfl (decide_eq_false hi) ?_
    refine mK ?_;show kidI v s = -1;unfold kidI; rw [if_pos h7,if_neg hi]
  refine zal rfl rfl (beq_eq_false_iff_ne.2 h7) ?_;refine mF ?_;refine mO ?_;by_cases h8:v.kind = 8
  ·refine zaf rfl rfl (beq_iff_eq.2 h8) ?_
   refine mT ?_;refine mO ?_;refine zaa (p:=0) (cs:=vC v) rfl rfl rfl rfl ?_;refine mS ?_;refine zac (args:=[.ag (vC v),.d (pS s)]) (congrArg (fun l => some [PV.ag l,PV.d (pS s)]) (zap v)) (find_fn (T:=T) (hT:=hT) v s hl) ?_;refine mN ?_;refine mQ ?_;by_cases hi:0 <= findV v s
   ·refine zaf rfl rfl (decide_eq_true hi) ?_
    refine mT ?_;refine mQ ?_;refine zay (n:=findV v s + 1) rfl rfl rfl (by omega) (by omega) ?_;refine mN ?_;refine zab ⟨.inr rfl,[.d (pI (findV v s + 1))],rfl,?_⟩;unfold kidI; rw [if_neg h7,if_pos h8,if_pos hi]; rfl
   ·refine zal rfl rfl (decide_eq_false hi) ?_
    refine mK ?_;show kidI v s = -1;unfold kidI; rw [if_neg h7,if_pos h8,if_neg hi]
  refine zal rfl rfl (beq_eq_false_iff_ne.2 h8) ?_;refine mF ?_;refine mO ?_;by_cases h9:v.kind = 9
  ·refine zaf rfl rfl (beq_iff_eq.2 h9) ?_
   refine mT ?_;refine mQ ?_;refine zec (la:=s) (lb:=[116,97,103]) rfl rfl rfl ?_;by_cases ht:s = [116,97,103]
   ·rw [decide_eq_true ht]
    (iterate 3 refine mS ?_);refine zaA (n:=v.kids.length) rfl rfl (zao _) ?_;by_cases hk:0 < v.kids.length
    ·refine zaf rfl rfl (decide_eq_true (by omega)) ?_
     refine mT ?_;refine mP ?_;refine zab ⟨.inr rfl,[.d (pI 0)],rfl,?_⟩;unfold kidI; rw [if_neg h7,if_neg h8,if_pos h9,if_pos ⟨ht,hk⟩]; rfl
    ·refine zal rfl rfl (decide_eq_false (by omega)) ?_
     refine mK ?_;show kidI v s = -1;unfold kidI; rw [if_neg h7,if_neg h8,if_pos h9,if_neg (fun h => hk h.2)]
   ·rw [decide_eq_false ht]
    refine mS ?_;refine mZ ?_;refine mK ?_;show kidI v s = -1;unfold kidI; rw [if_neg h7,if_neg h8,if_pos h9,if_neg (fun h => ht h.1)]
  refine zal rfl rfl (beq_eq_false_iff_ne.2 h9) ?_;refine mK ?_;show kidI v s = -1;unfold kidI; rw [if_neg h7,if_neg h8,if_neg h9]
 rintro tm bx nt live h;refine mP ?_;exact zab ⟨.inr rfl,[.d (pI (-1))],rfl,by rw [h]; rfl⟩
def zC:List PC:=[pI 0,pI 0,pI 0,pS [],.sl 1 []]
def AtJ (v:V) (st:List (L8)) (m:Nat) (s:St):Prop :=
 ∃ (j:Nat) (x:V),j <= st.length /\ m = st.length - j /\ has s.tm [(2,.ref 0 0),(4,.ref 1 0),(9,.d (pSs st)),(10,.d (pI st.length)),(11,.d (pI j))] /\ s.bx = [vC x,zC] /\ x.bulk <= 4294967295 /\ atI v st = atI x (st.drop j)
def atR:Option V -> PV
 | some x => .tup [.ag (vC x),.d (pB true)]
 | none => .tup [.ag [pI 0,pI 0,pI 0,pS [],.sl 0 []],.d (pB false)]
theorem at_fn (hTen:∀ w,T w -> TenTab w) (hErr:∀ w,T w -> ErrTab w) (v:V) (st:List (L8)) (hb:v.bulk <= 4294967295) (hl:st.length <= 4294967295) (hs:∀ s ∈ st,s.length <= 2147483647):FnV (env T hT) 32 [.ag (vC v),.d (pSs st)] (atR (atI v st)):=by
 refine za1 (zad lk_i_at) (by show 2 <= 28; decide) fun B hB => ?_
 unfold m_i_at;refine mO ?_;refine zax (cs:=vC v) rfl ?_;refine mN ?_;refine zav (fun s => ∃ x:V,has s.tm [(2,.ref 0 0),(4,.ref 1 0)] /\ s.bx = [vC x,zC] /\ atI v st = some x) ?_ ?_
 ·refine mQ ?_
  refine zaA (n:=st.length) rfl rfl (zaM _) ?_;refine mN ?_;refine zai ?_;refine zaJ (AtJ v st) st.length ⟨0,v,Nat.zero_le _,rfl,⟨rfl,rfl,rfl,rfl,rfl,trivial⟩,rfl,hb,by rw [drop_zero]⟩ ?_;rintro m tm bx nt live ⟨j,x,hj,rfl,ht,hbx,hxb,ha⟩;obtain ⟨tm1,rfl⟩:=zah ht;simp only at hbx; subst hbx
  clear ht;refine mO ?_;refine po_b rfl rfl (fun p hp => ?_);refine zae ?_;refine zaD ?_;refine zb9 (p:=(j:Int) < st.length) hp rfl (fun him _ => ?_) (fun him _ => ?_)
  rotate_left
  ·refine zaL ?_
   obtain rfl:j = st.length:=by omega
   rw [drop_length] at ha;exact ⟨x,⟨rfl,rfl,trivial⟩,rfl,ha⟩
  have hjl:j < st.length:=by omega
  have hdr:st.drop j = st[j] :: st.drop (j + 1):=drop_eq_getElem_cons hjl;have hkl:x.kids.length + V.bulks x.kids <= 4294967295:=by cases x; simp only [V.bulk] at hxb; simp only [V.kids]; omega
  rw [hdr] at ha;refine zau ?_;refine zaD (zai (zaD (zaj ?_)));refine za4 (es:=pSr st) (e:=[pS st[j]]) rfl rfl rfl ⟨by omega,by rw [Int.toNat_natCast]; exact zey hjl⟩ rfl ?_;(iterate 2 refine mS ?_);refine mN ?_;refine mO ?_;refine zaa (p:=0) (cs:=vC x) rfl rfl rfl rfl ?_;refine mS ?_;refine zac (args:=[.ag (vC x),.d (pS st[j])]) (congrArg (fun l => some [PV.ag l,PV.d (pS st[j])]) (zap x)) (zdi (T:=T) (hT:=hT) hTen hErr x st[j] (by omega) (hs _ (getElem_mem hjl))) ?_;refine mN ?_;refine mM ?_;refine mS ?_;by_cases hk:0 <= kidI x st[j]
  ·have hlt:=zaP hk
   have hkn:(kidI x st[j]).toNat < x.kids.length:=by omega
   refine zal rfl rfl (decide_eq_false (by omega)) ?_;refine mK ?_;refine zaj ?_;(iterate 3 refine mS ?_);refine za4 (es:=vK x.kids) (e:=vC x.kids[(kidI x st[j]).toNat]) rfl rfl rfl ⟨hk,zbe hkn⟩ rfl ?_;refine mS ?_;refine zag (p:=0) (cs:=vC x.kids[(kidI x st[j]).toNat]) rfl rfl rfl rfl rfl rfl ?_;refine mN ?_;refine zaj ?_;refine zay (n:=((j + 1:Nat):Int)) rfl rfl rfl (by omega) (by omega) ?_;refine mN ?_;refine ⟨st.length - (j + 1),by omega,j + 1,x.kids[(kidI x st[j]).toNat],hjl,rfl,⟨rfl,rfl,rfl,rfl,rfl,trivial⟩,rfl,V.bulk_get hkl _ hkn,?_⟩;rw [ha,atI,dif_pos hk]
  ·refine zaf rfl rfl (decide_eq_true (by omega)) ?_
   refine mT ?_;refine mQ ?_;refine zag (p:=1) (cs:=zC) rfl rfl rfl rfl rfl rfl ?_;refine mN ?_;refine zab ⟨.inr rfl,[.ag zC,.d (pB false)],rfl,?_⟩;rw [ha,atI,dif_neg hk]; rfl
 rintro tm bx nt live ⟨x,ht,hbx,ha⟩;obtain ⟨tm1,rfl⟩:=zah ht;simp only at hbx; subst hbx
 refine mO ?_;refine zaa (p:=0) (cs:=vC x) rfl rfl rfl rfl ?_;refine zag (p:=1) (cs:=vC x) rfl rfl rfl rfl rfl rfl ?_;refine mN ?_;refine zab ⟨.inr rfl,[.ag (vC x),.d (pB true)],rfl,?_⟩;rw [ha];exact congrArg (fun l => some (PV.tup [.ag l,.d (pB true)])) (zap x)
end
section
open Go.Lib (validD)
def Tabs (w:World):Prop:=Lib.Utf8Tabs 0 1 w
theorem Tabs.below {w w':World} (h:Tabs w) (hb:Below w.heap.size w w'):Tabs w':=Utf8Tabs_below h hb
theorem Tabs.lt {w:World} (h:Tabs w):0 < w.heap.size /\ 1 < w.heap.size:=by
 have key:∀ {b o:Nat} {v:Value},w.cell? ⟨b,o,none⟩ = some v -> b < w.heap.size:=by
  intro b o v h; apply Classical.byContradiction; intro hn
  simp [World.cell?,Array.getElem?_eq_none (Nat.le_of_not_lt hn)] at h
 exact ⟨key (h.1 0 (by decide)),key (h.2 0 (by decide)).1⟩
theorem Tabs.below' {B:Nat} {w w':World} (h:Tabs w) (hb:Below B w w') (h1:0 < B) (h2:1 < B):Tabs w':=by
 refine ⟨fun c hc => ?_,fun i hi => ?_⟩
 ·rw [hb.cell (p:=⟨_,_,none⟩) h1]; exact h.1 c hc
 ·rw [hb.cell (p:=⟨_,_,none⟩) h2,hb.cell (p:=⟨_,_,none⟩) h2]; exact h.2 i hi
theorem Tabs.alloc {w:World} (h:Tabs w) (o:Obj):Tabs (w.alloc o):=h.below ((Below.refl _ _).alloc lR o)
theorem zct (l:L8) (w:World) (hl:l.length <= 4294967295) (hT:Tabs w) :
  Calls Tryz.prog 56 #[.string ⟨l.toArray⟩] w fun e w' => e = .returned (.bool (validD l)) /\ Below w.heap.size w w':=by
 have HC:=Lib.hid (Tryz.utf8_ValidString ⟨l.toArray⟩ w (by simp [ByteArray.size]; omega) hT)
 go_enter Tryz.func56,Tryz.ntmps56
 go_wp2_with (go_at_call 77; refine HC.out.mono ?_; rintro e w1 ⟨rfl,hb1⟩)
 go_ret;exact ⟨rfl,hb1⟩
end
section
open Go.Lib (validD)
theorem step1_any (s:L8) (w:World) (hl:s.length <= 4294967295) (hT:Tabs w) :
  Calls Tryz.prog 55 #[.string ⟨s.toArray⟩] w fun e w' => e = .returned (.bool (!stepOk s)) /\ Below w.heap.size w w':=by
 have HC:=Lib.hid (zct s w hl hT);by_cases h20:s.length <= 2000
 ·have i4:¬ (2000:Int) < s.length:=by omega
  have HS:=Lib.hid (show stepOk s = validD s by unfold stepOk; rw [decide_eq_true h20,Bool.and_true]);obtain ⟨r,hr⟩:∃ r,validD s = r:=⟨_,rfl⟩;rw [HS.out];rw [hr] at HC ⊢;clear hr hT
  go_enter Tryz.func55,Tryz.ntmps55
  go_wp2_with (go_at_call 56; refine HC.out.mono ?_; rintro e1 w1 ⟨rfl,hb1⟩)
  go_ret;exact ⟨rfl,hb1⟩
 ·have i4:(2000:Int) < s.length:=by omega
  have HS:=Lib.hid (show stepOk s = false by unfold stepOk; rw [decide_eq_false h20,Bool.and_false]);rw [HS.out];clear hT HC
  go_enter Tryz.func55,Tryz.ntmps55
  go_wp2;go_ret;exact ⟨rfl,Below.refl _ _⟩
theorem stepIx_any (st:List (L8)) (va:Value) (w:World) (h:StrRow w va st) (hl:st.length <= 4294967295) (hs:∀ s ∈ st,s.length <= 4294967295) (hT:Tabs w) :
  Calls Tryz.prog 76 #[va,.func (.func 55) #[] #[]] w fun e w' => (∃ r:Int,e = .returned (.int .i64 r) /\ decide (0 <= r) = !st.all stepOk) /\ Below w.heap.size w w':=by
 obtain ⟨a,c,rfl,hg⟩:=h;obtain ⟨ok,hok⟩:∃ ok,st.all stepOk = ok:=⟨_,rfl⟩;rw [hok];have HOK:=Lib.hid hok; clear hok
 have HH:=fun s (h1:s.length <= 4294967295) W (hW:Below w.heap.size w W) => Lib.hid (step1_any s W h1 (hT.below hW))
 have HG:=Lib.hid hg; clear hg hT
 go_enter Tryz.func76,Tryz.ntmps76
 go_wp2
 go_loopw [8] (fun i wr => ∃ (k:Nat),k <= st.length /\ i = .int .i64 k /\ (st.take k).all stepOk = true /\ Below w.heap.size w wr) (fun i _ => st.length - (intOf i).toNat)
 case atStart => exact ⟨0,Nat.zero_le _,rfl,rfl,Below.refl _ _⟩
 case round =>
  obtain ⟨k,hk,rfl,hgd,hbel⟩:=hrel;have HGD:=Lib.hid hgd; clear hgd
  by_cases hlt:k < st.length
  ·obtain ⟨b,o,rfl,hcell⟩:=HG.out (by intro e; rw [e] at hlt; simp at hlt)
   have hd:=hcell k hlt;have hbb:=zcP hd;rw [<- (za5 hbel).1 _ _ hbb] at hd;have hi1:(0:Int) <= k:=by omega
   have hi3:(k:Int) < st.length:=by omega
   have HSN:=Lib.hid (show (st.take (k + 1)).all stepOk = stepOk st[k] by rw [take_succ_eq_append_getElem hlt,all_append,HGD.out]; simp)
   have HNO:=Lib.hid (fun (h:stepOk st[k] = false) => show ok = false by
    rw [<- HOK.out,all_eq_false]; exact ⟨st[k],getElem_mem hlt,by rw [h]; decide⟩)
   have HC:=HH st[k] (hs _ (getElem_mem hlt)) _ hbel;obtain ⟨ob,hob⟩:∃ ob,stepOk st[k] = ob:=⟨_,rfl⟩;rw [hob] at HC HSN HNO;clear hcell hob
   cases ob with
   | true =>
    go_wp2_with (go_at_call 55; refine HC.out.mono ?_; rintro e1 w1 ⟨rfl,hb1⟩)
    go_roundw
    case rel => exact ⟨k + 1,by omega,by go_num,HSN.out,zan hbel hb1 lR⟩
    case measure => simp [intOf]; omega
   | false =>
    go_wp2_with (go_at_call 55; refine HC.out.mono ?_; rintro e1 w1 ⟨rfl,hb1⟩)
    go_ret;exact ⟨⟨_,rfl,by rw [show ok = false by first | exact HNO.out rfl | exact HNO.out trivial]; simp⟩,zan hbel hb1 lR⟩
  ·obtain rfl:k = st.length:=by omega
   have h1:=HGD.out;rw [take_length] at h1;have HF:=Lib.hid (show ok = true by rw [<- HOK.out]; exact h1);clear h1;go_wp2;go_ret;exact ⟨⟨_,rfl,by rw [HF.out]; rfl⟩,hbel⟩
theorem stepF_any (st:List (L8)) (va:Value) (w:World) (h:StrRow w va st) (hl:st.length <= 4294967295) (hs:∀ s ∈ st,s.length <= 4294967295) (hT:Tabs w) :
  Calls Tryz.prog 54 #[va,.func (.func 55) #[] #[]] w fun e w' => e = .returned (.bool (!st.all stepOk)) /\ Below w.heap.size w w':=by
 have HC:=Lib.hid (stepIx_any st va w h hl hs hT);obtain ⟨ok,hok⟩:∃ ok,st.all stepOk = ok:=⟨_,rfl⟩;rw [hok] at HC ⊢;clear h hok hT
 go_enter Tryz.func54,Tryz.ntmps54
 go_wp2_with (go_at_call 76; refine HC.out.mono ?_; rintro e1 w1 ⟨⟨r,rfl,hr⟩,hb1⟩; have HR:=Lib.hid hr; clear hr)
 go_ret;exact ⟨by rw [<- HR.out]; rfl,hb1⟩
theorem zfH (st:List (L8)) (va:Value) (w:World) (h:StrRow w va st) (hl:st.length <= 4294967295) (hs:∀ s ∈ st,s.length <= 4294967295) (hT:Tabs w) :
  Calls Tryz.prog 27 #[va] w fun e w' => e = .returned (.bool (stepsOk st)) /\ Below w.heap.size w w':=by
 have HC:=Lib.hid (stepF_any st va w h hl hs hT);obtain ⟨a,c,rfl,_⟩:=h;by_cases h12:st.length <= 12
 ·have i1:(st.length:Int) <= 12:=by omega
  have HF:=Lib.hid (show stepsOk st = st.all stepOk by unfold stepsOk; rw [decide_eq_true h12,Bool.true_and]);obtain ⟨ok,hok⟩:∃ ok,st.all stepOk = ok:=⟨_,rfl⟩;rw [HF.out];rw [hok] at HC ⊢;clear hok hT
  go_enter Tryz.func27,Tryz.ntmps27
  go_wp2_with (go_at_call 54; refine HC.out.mono ?_; rintro e1 w1 ⟨rfl,hb1⟩)
  go_ret;exact ⟨zaw (by simp),hb1⟩
 ·have i1:¬ (st.length:Int) <= 12:=by omega
  have HF:=Lib.hid (show stepsOk st = false by unfold stepsOk; rw [decide_eq_false h12,Bool.false_and]);rw [HF.out];clear hT HC
  go_enter Tryz.func27,Tryz.ntmps27
  go_wp2;go_ret;exact ⟨rfl,Below.refl _ _⟩
end
section
variable {T:World -> Prop} {hT:Low ngl T}
theorem zeK (hTab:∀ w,T w -> Tabs w) (st:List (L8)) (hl:st.length <= 4294967295) (hs:∀ s ∈ st,s.length <= 4294967295):FnV (env T hT) 27 [.d (pSs st)] (.d (pB (stepsOk st))):=by
 refine FnV.old rfl fun w C vs hF _ ht hlen hv => ?_
 match vs,hlen with
 | [x],_ => exact zfH st x w (zfy (hv 0 _ _ rfl rfl)) hl hs (hTab w ht)
end
section
theorem Tabs.low:Low ngl Tabs:=by
 intro w w' h hs hk;have h1:0 < ngl:=of_decide_eq_true (by unfold ngl; kernel_rfl);have h2:1 < ngl:=of_decide_eq_true (by unfold ngl; kernel_rfl);refine ⟨fun c hc => ?_,fun i hi => ?_⟩
 ·rw [World.cell?_of_block (a:=⟨_,_,none⟩) (hk _ h1)]; exact h.1 c hc
 ·rw [World.cell?_of_block (a:=⟨_,_,none⟩) (hk _ h2),World.cell?_of_block (a:=⟨_,_,none⟩) (hk _ h2)]; exact h.2 i hi
end
section
def TS (w:World):Prop:=Tabs w /\ TenTab w /\ ErrTab w
theorem TS.low:Low ngl TS:=by
 intro w w' h hs hk;have h1:4 < ngl:=of_decide_eq_true (by unfold ngl; kernel_rfl);have h2:2 < ngl:=of_decide_eq_true (by unfold ngl; kernel_rfl);have h3:3 < ngl:=of_decide_eq_true (by unfold ngl; kernel_rfl);refine ⟨Tabs.low w w' h.1 hs hk,?_,ErrTab.low h2 h3 hk h.2.2⟩;have ht:=h.2.1;unfold TenTab Lib.TabIs at ht ⊢;unfold World.var? at ht ⊢;simp only [tenG,Option.bind_some] at ht ⊢;rw [hk _ h1]; exact ht
end
section
variable {T:World -> Prop} {hT:Low ngl T}
attribute [local irreducible] po mw pt
def z0V:V:=.mk 0 0 0 [] []
def atO (v:V) (st:List (L8)):Option V:=if stepsOk st = true then atI v st else none
theorem atR_eq (o:Option V):atR o = .tup [.ag (vC (o.getD z0V)),.d (pB o.isSome)]:=by cases o <;> rfl
theorem zgw {Q:V -> Prop} (hQ:∀ v,Q v -> ∀ k ∈ v.kids,Q k):∀ (st:List (L8)) (v x:V),Q v -> atI v st = some x -> Q x
 | [],v,x,hv,h => by rw [atI] at h; simp only [sI] at h; subst h; exact hv
 | s :: r,v,x,hv,h => by
  rw [atI] at h
  split at h
  ·exact zgw hQ r _ x (hQ v hv _ (getElem_mem _)) h
  ·cases h
theorem V.wf_kids {v:V} (h:v.wf /\ v.bulk <= 1048576):∀ k ∈ v.kids,k.wf /\ k.bulk <= 1048576:=by
 intro k hk;obtain ⟨i,hi,rfl⟩:=List.getElem_of_mem hk;have hkl:v.kids.length + V.bulks v.kids <= 1048576:=by have:=h.2; cases v; simp only [V.bulk] at this; simp only [V.kids]; omega
 exact ⟨V.wf_kid h.1 i hi,V.bulk_get hkl i hi⟩
theorem atT_fn (hTS:∀ w,T w -> TS w) (v:V) (st:List (L8)) (hw:v.wf) (hb:v.bulk <= 1048576) (hl:st.length <= 4294967295) (hs:∀ s ∈ st,s.length <= 2147483647):FnV (env T hT) 14 [.ag (vC v),.d (pSs st)] (atR (atO v st)):=by
 refine za1 (zad lk_i_At) (by show 2 <= 21; decide) fun B hB => ?_
 unfold m_i_At;refine mO ?_;refine zax (cs:=vC v) rfl ?_;refine mN ?_;refine mM ?_;refine mS ?_;refine zac (args:=[.d (pSs st)]) (congrArg (fun r => some [PV.d (.sl 0 r)]) (zbG st)) (zeK (T:=T) (hT:=hT) (fun w hw => (hTS w hw).1) st hl (fun s h => by have:=hs s h; omega)) ?_;unfold atO
 cases hso:stepsOk st with
 | false =>
  refine mT ?_;refine mQ ?_;refine zag (p:=1) (cs:=zC) rfl rfl rfl rfl rfl rfl ?_;refine mN ?_
  exact zab ⟨.inr rfl,[.ag zC,.d (pB false)],rfl,rfl⟩
 | true =>
  refine mK ?_;refine mO ?_;refine zaa (p:=0) (cs:=vC v) rfl rfl rfl rfl ?_;refine mS ?_
  refine zac (args:=[.ag (vC v),.d (pSs st)]) (by
   show some [PV.ag (erL (vC v)),PV.d (.sl 0 (erLL (pSr st)))] = _;rw [zap,zbG]; rfl) (at_fn (T:=T) (hT:=hT) (fun w hw => (hTS w hw).2.1) (fun w hw => (hTS w hw).2.2) v st (by omega) hl hs) ?_
  rw [if_pos rfl,atR_eq];obtain ⟨x,hx⟩:∃ x,(atI v st).getD z0V = x:=⟨_,rfl⟩
  have hxw:x.wf /\ x.bulk <= 1048576:=by
   cases ha:atI v st with
   | none => rw [ha] at hx; subst hx; exact ⟨by show V.wf (.mk 0 0 0 [] []); simp [V.wf,V.wfs,i64ok,strok],by decide⟩
   | some y => rw [ha] at hx; simp only [Option.getD_some] at hx; subst hx; exact zgw (Q:=fun v => v.wf /\ v.bulk <= 1048576) (fun v h => V.wf_kids h) st v _ ⟨hw,hb⟩ ha
  rw [hx];generalize (atI v st).isSome = ok;(iterate 3 refine mS ?_);refine zbb (cs:=vC x) rfl rfl rfl rfl ?_;refine mN ?_;refine mO ?_;refine zaa (p:=2) (cs:=vC x) rfl rfl rfl rfl ?_;refine zac (zaI x) (zbh (T:=T) (hT:=hT) x hxw.1 hxw.2) ?_;refine mS ?_;refine zag (p:=1) (cs:=vC x) rfl rfl rfl rfl rfl rfl ?_;refine mN ?_;exact zab ⟨.inr rfl,[.ag (vC x),.d (pB ok)],rfl,congrArg (fun l => some (PV.tup [.ag l,.d (pB ok)])) (zap x)⟩
end
section
theorem zgx {st:List (L8)}:(putPath st).length <= 48012:=by
 unfold putPath;split
 ·rename_i h
  have:=zbU st h.2
  omega
 ·exact Nat.zero_le _
theorem put_ok {st:List (L8)} (h:putPath st ≠ []):stepsOk st = true /\ st.length <= 12 /\ ∀ k ∈ st,k.length <= 2000:=by
 unfold putPath at h
 split at h
 ·rename_i hh
  refine ⟨?_,hh.1,fun k hk => ?_⟩
  ·unfold stepsOk; rw [decide_eq_true hh.1,hh.2]; rfl
  ·have:=all_eq_true.1 hh.2 k hk
   unfold stepOk at this;simp only [Bool.and_eq_true,decide_eq_true_eq] at this;exact this.2
 ·exact absurd rfl h
theorem getPS_nil:getPS [] = some []:=rfl
theorem getPS_ok {s:L8} {st:List (L8)} (h:getPS s = some st):st.length <= 12 /\ ∀ k ∈ st,k.length <= 2000:=by
 have hb:=zfC h;by_cases h0:s = []
 ·subst h0
  rw [getPS_nil] at h;simp only [sI] at h; subst h
  exact ⟨by decide,fun k hk => by cases hk⟩
 ·exact (put_ok (by rw [hb]; exact h0)).2
theorem path_there {v:V} {p:L8} (h:p ∈ pthV v):∃ st x,getPS p = some st /\ atO v st = some x /\ st.length <= 12 /\ ∀ k ∈ st,k.length <= 2000:=by
 unfold pthV at h
 split at h
 ·rename_i hk
  obtain ⟨hr,hn⟩:=zgu hk;obtain ⟨more,hp,hat⟩:=pthS_at _ _ _ _ _ hr hn h;rw [nil_append] at hp;by_cases h0:p = []
  ·subst h0
   refine ⟨[],v,rfl,?_,by decide,fun k hk => by cases hk⟩;unfold atO; rw [if_pos (by decide),atI]
  ·rw [hp] at h0
   obtain ⟨h1,h2,h3⟩:=put_ok h0;obtain ⟨x,hx⟩:=Option.isSome_iff_exists.1 hat;exact ⟨more,x,by rw [hp]; exact getP_put h0,by unfold atO; rw [if_pos h1]; exact hx,h2,h3⟩
 ·cases h
theorem pthV_pos {v:V}:(0 < (pthV v).length) ↔ v.ok = true:=by
 unfold pthV
 cases v.ok with
 | false => simp
 | true =>
  have:=v.nodes_pos
  obtain ⟨m,hm⟩:∃ m,v.nodes = m + 1:=⟨v.nodes - 1,by omega⟩;rw [hm];simp [pthS]
theorem pthV_len (v:V):(pthV v).length <= 300:=by
 unfold pthV
 cases hk:v.ok with
 | false => simp
 | true =>
  have:=(zgu hk).2
  have:=zdh v.nodes v []
  simp only [if_true]; omega
theorem pthV_put {v:V} {p:L8} (h:p ∈ pthV v):p.length <= 48012:=by
 obtain ⟨st,_,h1,_⟩:=path_there h;rw [<- zfC h1]; exact zgx
end
section
def m_s_l05Value:M:=so [⟨some 2,.zero [.int .i64 0,.int .i64 0,.int .i64 0,.string ⟨[].toArray⟩,.slice none 0 0],none,[]⟩] (.seq (so [qm 3 0,qc 4 38 [3,ci 8] 1] (.cond 4 (so [qm 5 0,qc 6 22 [5] 1,qS 5 2 6] .ret) .skip)) (so [qm 7 0,qc 8 39 [7,ci 3,cB false] 1,qS 5 2 8] .ret))
theorem zeL:look Tryz.prog 20 = some (9,m_s_l05Value,[.cell true 5 2]):=by kernel_rfl
end
section
variable {T:World -> Prop} {hT:Low ngl T}
attribute [local irreducible] po mw pt
theorem val5_drw {b:L8} (hb:b.length <= 2147483647):Drw (env T hT) b 20 [] (QV 302 4000):=by
 rintro c nt live hc hn;refine zaR (R:=DvR b 302 4000 nt live) (zad zeL) (by show 1 <= 9; decide) fun B hB' => ?_
 unfold m_s_l05Value;refine mP ?_;refine mM ?_;refine mS ?_;refine po_g rfl ((zcG (T:=T) (hT:=hT) hb 8).use ⟨trivial,trivial⟩ hc hn (p:=0) rfl) ?_;rintro x bx n1 l1 ⟨c1,rfl,hc1,q,rfl,hN1⟩;refine zae ?_
 cases q with
 | true =>
  refine mwT ?_;refine mQ ?_;refine po_g rfl ((any_drw (T:=T) (hT:=hT) hb).use trivial hc1 (hN1.n2 hn) (p:=0) rfl) ?_;rintro x bx n l ⟨c2,rfl,hc2,cs,v,rfl,hN,he,hg,hRT,hkl⟩;refine zag (p:=1) (cs:=cs) rfl rfl rfl (zaU he) rfl rfl ?_;refine mN ?_
  exact zab ⟨.inr rfl,[.ag cs],zcD rfl rfl (zaU he),zbl hc2 (hN1.trans hN) he hg hRT hkl⟩
 | false =>
  refine mwF ?_;refine zau ?_;refine mQ ?_;refine po_g rfl ((make_drw (T:=T) (hT:=hT) hb false 3 lR).use ⟨trivial,trivial,trivial⟩ hc1 (hN1.n2 hn) (p:=0) rfl) ?_;rintro x bx n l ⟨c2,rfl,hc2,cs,v,rfl,hN,he,hg,hRT,hkl⟩;refine zag (p:=1) (cs:=cs) rfl rfl rfl (zaU he) rfl rfl ?_;refine mN ?_;exact zab ⟨.inr rfl,[.ag cs],zcD rfl rfl (zaU he),zbl hc2 (hN1.trans hN) he (hg.mono (by decide)) hRT (by omega)⟩
end
section
def m_l_big:M:=so [qo 2 (.mv (cB false))] (so [qm 3 0,qo 4 (.len 3),qo 5 (.bin .gtr false 4 (ci 1048576)),qm 2 5] .ret)
theorem lk_l_big:look Tryz.prog 4 = some (6,m_l_big,[.tm 2]):=by kernel_rfl
end
section
theorem ngl_of {w:World} (h:w.ShapedOpen Tryz.prog):ngl <= w.heap.size:=by
 have hlt:ngl < (begin Tryz.prog (fun _ _ => 0) default).world.heap.size:=of_decide_eq_true (by unfold ngl; kernel_rfl);obtain ⟨o,_,h2,_⟩:=h.2 ngl lR hlt;exact Nat.le_of_lt (zaq h2)
section
variable {T:World -> Prop} {hT:Low ngl T} {w:World} {hn:ngl <= w.heap.size}
end
theorem FnV.bool {E:Env} {f:Nat} {args:List PV} {b:Bool} (h:FnV E f args (.d (pB b))) {w:World} (hng:E.NG <= w.heap.size) (hT:E.T w) {vs:List Value} (hl:vs.length = args.length) (hv:∀ (j:Nat) (x:PV) (y:Value),args[j]? = some x -> vs[j]? = some y -> RpV (C0 w) w x y) :
  Calls E.P f vs.toArray w fun e w' => e = .returned (.bool b) /\ Below w.heap.size w w':=by
 refine (Fn.use h hng hT hl hv).mono ?_;rintro e w' ⟨u,x,bx,live,C',rfl,h1,_,h3,h4,_⟩
 have hx:x = .d (pB b):=by
  cases x with
  | d c =>
   simp only [PV.dat,sI,PV.d.injEq] at h1
   cases c with
   | v y => simp only [PC.er] at h1; rw [h1]
   | sl t es => simp [PC.er,pB] at h1
   | bld p T t U => simp [PC.er,pB] at h1
   | anyp => simp [PC.er,pB] at h1
   | row => simp [PC.er,pB] at h1
  | _ => simp [PV.dat] at h1
 subst hx
 cases h3 with
 | d _ _ h => cases h; exact ⟨rfl,h4⟩
end
section
def dU (x:UInt8):D:=.one (.int .u8 x.toNat)
def dBy (b:L8):D:=.sl 1 (b.map dU)
theorem dBy_wf (b:L8):(dBy b).wf:=by
 simp only [dBy,D.wf];refine ⟨fun e he => by obtain ⟨k,_,rfl⟩:=mem_map.1 he; rfl,?_⟩
 induction b with
 | nil => trivial
 | cons k ks ih => exact ⟨rfl,ih⟩
theorem dBy_pc (b:L8):(dBy b).pc = [.sl 0 (pcB b)]:=by
 simp only [dBy,D.pc,D.pcE_map,map_map,pcB]; rfl
theorem code_rp {w:World} {b:L8} {v:Value} (h:Rd w (dBy b) [v]):RpV (C0 w) w (.d (.sl 0 (pcB b))) v:=rd1 h (dBy_wf b) (dBy_pc b)
theorem trod_code {H:Type} {enc:TypeId × Value -> H} {w:World} {base:Nat} {spare:Nat -> Bool} {held:Bool} (fuel:Nat) (cs:List Value) (y:DataW H × List MemPlace)
  (h:DataW.trod enc Tryz.prog w base spare held fuel 22 cs = some y):∃ (b:L8) (v:Value),cs = [v] /\ Rd w (dBy b) [v] /\ b.length <= maxLen:=by
 obtain ⟨xs,v,h1,h2,_,h4⟩:=trod_sl (f:=dU) (ok:=fun _ => True) Tryz.underlying22 (by kernel_rfl) (by decide) (fun _ => rfl) (fun n cs y _ h => by
  obtain ⟨m,rfl,_,hm⟩:=DataW.trod_int Tryz.underlying5 h
  have hb:0 <= m /\ m <= 255:=by
   simp [Lit.wf,IntKind.min,IntKind.max,IntKind.bits,IntKind.signed] at hm; exact ⟨by omega,by omega⟩
  exact ⟨UInt8.ofNat m.toNat,by simp [Rd,dU,RepC]; omega,trivial⟩) h
 exact ⟨xs,v,h1,h2,h4⟩
theorem fnLaw {E:Env} {f:Nat} {b:L8} (h:FnV E f [.d (.sl 0 (pcB b))] (.d (pB true))) {w:World} (hng:E.NG <= w.heap.size) (hT:E.T w) {v:Value} (hr:Rd w (dBy b) [v]):Calls E.P f #[v] w fun e w' => e = .returned (.bool true) /\ Below w.heap.size w w' :=
 FnV.bool h hng hT (vs:=[v]) rfl fun j x y hx hy => by
  match j with
  | 0 => simp at hx hy; subst hx; subst hy; exact code_rp hr
  | j + 1 => simp at hx
end
section
variable {T:World -> Prop} {hT:Low ngl T}
attribute [local irreducible] po mw pt
theorem new_l {b:L8} (hb:b.length <= 2147483647) {bx:LP PC} (nt:Nat) (live:List Nat):FnG (env T hT) 19 [.d (.sl 0 (pcB b))] bx nt live (fun x b' n l => ∃ c,x = .ref bx.length 0 /\ b' = bx ++ [c] /\ Cu b c /\ n = nt /\ l = live):=by
 refine (FnG.liftR (new_g (T:=T) (hT:=hT) hb nt live) ⟨by simp only [PV.lw,PC.lw]; exact pcB_lw 0 b,trivial⟩).mono ?_;rintro x b' n l ⟨x0,b0,rfl,rfl,c,rfl,rfl,hc,rfl,rfl⟩;refine ⟨c,by simp [PV.shB],?_,hc,rfl,rfl⟩;rw [map_cons,map_nil,zga hc.lw]
theorem big_fn0 (b:L8):FnV (env T hT) 4 [.d (.sl 0 (pcB b))] (.d (pB (decide ((b.length:Int) > 1048576)))):=by
 refine za1 (zad lk_l_big) (by show 1 <= 6; decide) fun B hB => ?_
 unfold m_l_big;refine mP ?_;refine mQ ?_;refine zaA (n:=b.length) rfl rfl (zbd b) ?_;refine po_q rfl rfl ?_;refine mN ?_;exact mR
section
variable {E:Env} {K:St -> Prop} {tm:Nat -> PV} {bx:LP PC} {nt d:Nat} {live:List Nat} {r:List MOpr} {c:List X}
theorem zdj {f:Nat} {xs:List X} {args:List PV} {R:PV -> (Nat -> Prop) -> Prop} (hd:PV.dats (xs.map (ev tm)) = some args) (hF:Fn E f args R) (h:∀ x lv,R x lv -> ∃ y,x.dat = some y /\ po E r K ⟨up d y tm,bx,nt,live⟩):po E (⟨some d,.call f xs,none,c⟩ :: r) K ⟨tm,bx,nt,live⟩ :=
 by
 unfold po;exact ⟨true,rfl,.inl ⟨rfl,.inl ⟨args,R,hd,hF,.inl fun x lv hx => by obtain ⟨y,h1,h2⟩:=h x lv hx; exact ⟨y,h1,by rw [zbk]; exact h2⟩⟩⟩⟩
end
theorem pcB_er (b:L8):erLL (pcB b) = pcB b:=by
 rw [zar]; unfold pcB; rw [map_map]; rfl
end
section
def splV (l:List Value) (o:Nat) (vs:List Value):List Value:=l.take o ++ vs ++ l.drop (o + vs.length)
theorem zb6 {l:List Value} {o:Nat} {vs:List Value} (h:o + vs.length <= l.length):(splV l o vs).length = l.length:=by simp [splV]; omega
theorem splV_cons {l:List Value} {o:Nat} {v:Value} {vs:List Value} (h:o < l.length):splV (l.set o v) (o + 1) vs = splV l o (v :: vs):=by
 unfold splV
 have h1:(l.set o v).take (o + 1) = l.take o ++ [v]:=by
  rw [take_set,take_succ_eq_append_getElem h,set_append_right _ _ (by rw [length_take]; omega),length_take,Nat.min_eq_left (by omega),Nat.sub_self]; rfl
 rw [h1,drop_set_of_lt (by omega),length_cons,Nat.add_right_comm,<- Nat.add_assoc];simp
theorem zaN (b:Nat) (e:TypeId) (fz:Nat × Nat):∀ (vs:List Value) (o:Nat) (w:World) (cur:List Value),w.heap[b]? = some (.cells cur.toArray e fz) -> o + vs.length <= cur.length -> (w.setCells b o vs).heap[b]? = some (.cells (splV cur o vs).toArray e fz)
 | [],o,w,cur,h,_ => by
  have:splV cur o [] = cur:=by unfold splV; simp
  rw [this]; exact h
 | v :: r,o,w,cur,h,hl => by
  rw [length_cons] at hl;have h1:=zbI (o:=o) h v;have h2:cur.toArray.setIfInBounds o v = (cur.set o v).toArray:=by simp
  rw [h2] at h1;rw [World.setCells,zaN b e fz r (o + 1) _ (cur.set o v) h1 (by rw [length_set]; omega),splV_cons (by omega)]
theorem zaO (b:Nat):∀ (vs:List Value) (o:Nat) (w:World) (k:Nat),k ≠ b -> (w.setCells b o vs).heap[k]? = w.heap[k]?
 | [],_,_,_,_ => rfl
 | v :: r,o,w,k,h => by rw [World.setCells,zaO b r (o + 1) _ k h]; exact Below.heap_setCell w ⟨b,o,none⟩ v k (by simpa using h)
theorem zaY (b:Nat):∀ (vs:List Value) (o:Nat) (w:World),(w.setCells b o vs).heap.size = w.heap.size /\ (w.setCells b o vs).os = w.os /\ (w.setCells b o vs).tape = w.tape /\ (w.setCells b o vs).output = w.output
 | [],_,_ => ⟨rfl,rfl,rfl,rfl⟩
 | v :: r,o,w => by
  obtain ⟨h1,h2,h3,h4⟩:=zaY b r (o + 1) (w.setCell ⟨b,o,none⟩ v);have hb:=(Below.refl b w).setCell (p:=⟨b,o,none⟩) lR v;rw [World.setCells,h1,h2,h3,h4];exact ⟨by simp,hb.os,hb.tape,hb.output⟩
theorem zaQ {w:World} {b:Nat} {cur:List Value} {e:TypeId} (h:w.heap[b]? = some (.cells cur.toArray e (0,0))) {o:Nat} (ho:o < cur.length):(w.cell? ⟨b,o,none⟩).isSome = true /\ w.frozen? ⟨b,o,none⟩ = false:=by
 refine ⟨?_,by simp [World.frozen?,h]⟩;rw [zam h]; simp [getElem?_eq_getElem ho]
section
variable {P:Program}
theorem zcJ (w:World) (dT sT ty elem:TypeId) (b o dLen dCap:Nat) (a:Addr) (sLen sCap k:Nat) (cs:List Value)
  (hu:P.underlying dT = some (.slice elem)) (hs:(P.info? elem).map (·.size) = some k) (hn:cs.length = Nat.min sLen dLen * k)
  (hsrc:∀ j v,cs[j]? = some v -> w.cell? (a.add j) = some v) (hc:∀ j,j < cs.length -> (w.cell? ⟨b,o + j,none⟩).isSome = true) (hf:∀ j,j < cs.length -> w.frozen? ⟨b,o + j,none⟩ = false) (h1:∀ v ∈ cs,v.oneCell' = true) :
  (Builtin.copy_ #[dT,sT] ty #[.slice (some ⟨b,o,none⟩) dLen dCap,.slice (some a) sLen sCap]).run P w = .ok (goInt (Nat.min sLen dLen)) (w.setCells b o cs):=by
 have hl:=run_loadCells_list (P:=P) w a cs hsrc;have hst:=run_storeCells_cells (P:=P) b o cs 0 w (by simpa using hc) (by simpa using hf) h1
 cases hq:P.info? elem with
 | none => simp [hq] at hs
 | some i =>
  have hi:i.size = k:=by simpa [hq] using hs
  rw [hn] at hl;simp [Builtin.copy_,run_underlying hu,Builtin.lenOf,Builtin.firstCells,sizeOf,typeInfo,hq,hi,hl,hst]
theorem run_clearN (w:World) (t ty elem:TypeId) (z:Value) (b o n c:Nat) (hu:P.underlying t = some (.slice elem)) (hz:∀ w,(zeroValue elem).run P w = .ok z w) (hn:0 < n) (zs:List Value) (hzs:(Builtin.zeroCells z.cells n).toList = zs)
  (hc:∀ j,j < zs.length -> (w.cell? ⟨b,o + j,none⟩).isSome = true) (hf:∀ j,j < zs.length -> w.frozen? ⟨b,o + j,none⟩ = false) (h1:∀ v ∈ zs,v.oneCell' = true) :
  (Builtin.clear_ #[t] ty #[.slice (some ⟨b,o,none⟩) n c]).run P w = .ok (.tuple #[]) (w.setCells b o zs):=by
 have hst:=run_storeCells_cells (P:=P) b o zs 0 w (by simpa using hc) (by simpa using hf) h1;obtain ⟨m,rfl⟩:∃ m,n = m + 1:=⟨n - 1,by omega⟩;simp [Builtin.clear_,run_underlying hu,hz,hzs,hst]
theorem wp_copyN (w:World) {o:Oper} {a:Act} {K:Act -> World -> Prop} {Q:Exit -> Act -> World -> Prop} (d s:Operand) (t t':TypeId)
  (ho:o.op = .call { callee:=.builtin .copy,args:=#[d,s],argTypes:=#[t,t'] }) (v u:Value) (hd:a.eval d = v) (hs:a.eval s = u) {v':Value} {w':World}
  (hr:(Builtin.copy_ #[t,t'] o.type #[v,u]).run P w = .ok v' w') (h:K (a.put o.dst v') w'):o.wp P a w K Q:=by
 unfold Oper.wp execOp;simp only [ho,resolve,invoke,builtin,Sem.run_bind,Sem.run_pure,Result.andThen_ok,map_toArray,map_cons,map_nil,hd,hs,hr];exact h
theorem zbY (w:World) {ops:Array Oper} {rest:List Oper} {o:Oper} {a:Act} {Q:Exit -> Act -> World -> Prop} (hgd:o.guard = none) (d s:Operand) (t t':TypeId)
  (ho:o.op = .call { callee:=.builtin .copy,args:=#[d,s],argTypes:=#[t,t'] }) (v u:Value) (hd:a.eval d = v) (hs:a.eval s = u) {v':Value} {w':World}
  (hr:(Builtin.copy_ #[t,t'] o.type #[v,u]).run P w = .ok v' w') (h:wpList P ops Q rest (a.put o.dst v') w'):wpList P ops Q (o :: rest) a w :=
 wpList_plain hgd fun _ hK => wp_copyN w d s t t' ho v u hd hs hr (hK _ _ h)
end
end
section
def z5:Value:=.agg #[.int .i64 0,.int .i64 0,.int .i64 0,.string ⟨#[]⟩,.slice none 0 0]
theorem info5:∃ i,Tryz.prog.info? 26 = some i /\ i.zero = some z5 /\ i.size = 5 /\ i.bytes = 64:=by
 obtain ⟨i,h1,h2,h3,h4⟩:=info_parts (show (Tryz.prog.info? 26).map (fun i => (i.zero,i.size,i.bytes)) = some (some z5,5,64) from by kernel_rfl);exact ⟨i,h1,h2,h3,h4⟩
theorem zero5 (w:World):(zeroValue 26).run Tryz.prog w = .ok z5 w:=by
 obtain ⟨i,h1,h2,_⟩:=info5;simp [zeroValue,typeInfo,h1,h2]
theorem del5 (b n c i j:Nat) (cur:List Value) (e0:TypeId) (w:World) (hb:w.heap[b]? = some (.cells cur.toArray e0 (0,0))) (hl:cur.length = 5 * c) (one:∀ u ∈ cur,u.oneCell' = true) (hij:i < j) (hj:j <= n) (hn:n <= c) (hc:c <= maxLen) :
  Calls Tryz.prog 59 #[.slice (some ⟨b,0,none⟩) n c,.int .i64 i,.int .i64 j] w fun e w' => e = .returned (.slice (some ⟨b,0,none⟩) (n - (j - i)) c) /\ w' = (w.drew.setCells b (5 * i) ((cur.drop (5 * j)).take (5 * (n - j)))).setCells b (5 * (i + (n - j))) (Builtin.zeroCells z5.cells (j - i)).toList:=by
 obtain ⟨i0,hi0,hz0,hz1,hz2⟩:=info5;have hcm:c <= 9223372036854775807:=by unfold maxLen at hc; omega
 obtain ⟨news,hnews⟩:∃ news,news = (cur.drop (5 * j)).take (5 * (n - j)):=⟨_,rfl⟩;have hlen:news.length = (n - j) * 5:=by rw [hnews,length_take,length_drop,hl]; omega
 have s2:Hid (∀ u ∈ news,u.oneCell' = true):=fun u hu => one u (mem_of_mem_drop (mem_of_mem_take (by rw [<- hnews]; exact hu)))
 have hwd:w.drew.heap[b]? = some (.cells cur.toArray e0 (0,0)):=hb;have s3:Hid (∀ t,t < news.length -> (w.drew.cell? ⟨b,0 + i * 5 + t,none⟩).isSome = true /\ w.drew.frozen? ⟨b,0 + i * 5 + t,none⟩ = false):=fun t ht => zaQ hwd (by omega)
 obtain ⟨A,hA,hsrc⟩:∃ A:Addr,(if c = j then some (⟨b,0,none⟩:Addr) else some ⟨b,j * 5,none⟩) = some A /\ Hid (∀ t u,news[t]? = some u -> w.drew.cell? (A.add t) = some u):=by
  by_cases h:c = j
  ·refine ⟨⟨b,0,none⟩,by simp [h],fun t u hu => ?_⟩
   have h0:news = []:=length_eq_zero_iff.1 (by omega);rw [h0] at hu; simp at hu
  ·refine ⟨⟨b,j * 5,none⟩,by simp [h],fun t u hu => ?_⟩
   rw [zaz,zam hwd];rw [hnews,getElem?_take] at hu
   split at hu
   ·rw [getElem?_drop] at hu
    rw [getElem?_toArray,Nat.mul_comm j 5]; exact hu
   ·cases hu
 obtain ⟨W1,hW1⟩:∃ W1,W1 = w.drew.setCells b (0 + i * 5) news:=⟨_,rfl⟩;have hb1:W1.heap[b]? = some (.cells (splV cur (0 + i * 5) news).toArray e0 (0,0)):=by rw [hW1]; exact zaN b e0 (0,0) news _ _ cur hwd (by omega)
 have hl1:(splV cur (0 + i * 5) news).length = 5 * c:=by rw [zb6 (by omega)]; exact hl
 obtain ⟨zs,hzs⟩:∃ zs,(Builtin.zeroCells z5.cells (j - i)).toList = zs:=⟨_,rfl⟩;have hzl:zs.length = (j - i) * 5:=by rw [<- hzs,Array.length_toList,size_zeroCells]; rfl
 have hz1c:∀ u ∈ zs,u.oneCell' = true:=by rw [<- hzs]; exact za8 (z:=z5) rfl _
 have hji:n - (i + (n - j)) = j - i:=by omega
 have hcl:∀ ty,(Builtin.clear_ #[24] ty #[.slice (some ⟨b,(i + (n - j)) * 5,none⟩) (n - (i + (n - j))) (c - (i + (n - j)))]).run Tryz.prog W1 = .ok (.tuple #[]) (W1.setCells b ((i + (n - j)) * 5) zs):=fun ty =>
  run_clearN W1 _ ty 26 z5 b _ _ _ Tryz.underlying24 zero5 (by omega) zs (by rw [hji]; exact hzs) (fun t ht => (zaQ hb1 (by omega)).1) (fun t ht => (zaQ hb1 (by omega)).2) hz1c
 have hW:Hid (W1 = w.drew.setCells b (0 + i * 5) news):=hW1;have hN:Hid (news = (cur.drop (5 * j)).take (5 * (n - j))):=hnews;have hL:Hid (news.length = (n - j) * 5):=hlen;have hZ:=Lib.hid hzs;have hic:i <= c:=by omega
 have hjc:j <= c:=by omega
 have hne:((i:Int) == (j:Int)) = false:=by rw [beq_eq_false_iff_ne]; omega
 have h1:(i:Int) <= j:=by omega
 have h2:(j:Int) <= n:=by omega
 have h3:(n:Int) <= c:=by omega
 clear hb hl one hwd hb1 hl1 hzl hz1c hW1 hnews hlen hzs hji
 go_enter Tryz.func59,Tryz.ntmps59
 go_wp2_with fail
 have mixed:Tryz.prog.follows .mixedOrders = true:=by kernel_rfl
 go_region_law_o (refine step_append_room rfl (.tmp 22) (.tmp 25) 24 rfl 26 i0 5 Tryz.underlying24 hi0 hz1 b 0 i c (by simp [Act.eval,Act.put]) A (n - j) (c - j) news (by simp [Act.eval,Act.put]) hL.out hsrc.out s2.out (by omega) s3.out ?_; rw [<- hW.out])
 go_wp2;go_ret;refine ⟨by rw [show n - (j - i) = i + (n - j) by omega]; rfl,?_⟩;rw [hZ.out,<- hN.out,show 5 * i = 0 + i * 5 by omega,<- hW.out,show 5 * (i + (n - j)) = (i + (n - j)) * 5 by omega]
end
section
def RwOut (C:Cx) (bx:LP PC) (w w':World) (u:Value) (S:PC -> LP PC -> Prop):Prop :=
 (u = .slice none 0 0 /\ w'.heap = w.heap /\ S (.sl 1 []) bx) \/
 (∃ (p:Nat) (z:List PC) (us:List Value) (len cap:Nat) (e0:TypeId),p < bx.length /\ u = .slice (some ⟨C.bx p,0,none⟩) len cap /\ len <= cap /\ cap <= maxLen /\ w'.heap[C.bx p]? = some (.cells us.toArray e0 (0,0)) /\ (∀ T cs0,w.heap[C.bx p]? = some (.cells cs0 T (0,0)) -> e0 = T) /\ w.heap.size = w'.heap.size /\ (∀ k,k ≠ C.bx p -> w'.heap[k]? = w.heap[k]?) /\ RpL C w z us /\ S (.row p len cap) (bx.set p z)) \/
 (∃ (z:List PC) (us:List Value) (len cap:Nat) (e0:TypeId),u = .slice (some ⟨w.heap.size,0,none⟩) len cap /\ len <= cap /\ cap <= maxLen /\ w'.heap = (w.alloc (.cells us.toArray e0)).heap /\ RpL C w z us /\ S (.row bx.length len cap) (bx ++ [z]))
theorem FnG.oldRw {E:Env} {f:Nat} {args:List PV} {bx:LP PC} {nt:Nat} {live:List Nat} {S:PC -> LP PC -> Prop} (h:∀ (w:World) (C:Cx) (vs:List Value),Inv E.NG E.T C bx (· ∈ live) w -> C.nt = nt -> vs.length = args.length -> (∀ (j:Nat) (x:PV) (y:Value),args[j]? = some x -> vs[j]? = some y -> RpV C w x y) ->
  Calls E.P f vs.toArray w fun e w' => ∃ u,e = .returned u /\ w'.os = w.os /\ w'.tape = w.tape /\ w'.output = w.output /\ RwOut C bx w w' u S):FnG E f args bx nt live (fun x b n l => n = nt /\ l = live /\ ∃ c,x = .d c /\ S c b):=by
 intro C w vs hI hnt hold hn2 hl hv;refine (h w C vs hI hnt hl hv).mono ?_;rintro e w' ⟨u,rfl,ho,ht,hou,hR⟩
 rcases hR with ⟨rfl,hh,hS⟩ | ⟨p,z,us,len,cap,e0,hp,rfl,hlc,hcm,hnew,hty,hss,hoth,hrl,hS⟩ | ⟨z,us,len,cap,e0,rfl,hlc,hcm,hh,hrl,hS⟩
 ·obtain ⟨hJ,hF⟩:=hI.sameHeap E.low hh
  refine ⟨_,.d (.sl 1 []),bx,nt,live,C,rfl,⟨rfl,rfl,_,rfl,hS⟩,hJ,hnt,?_,.d _ _ .nil⟩;exact ⟨ho,ht,hou,by rw [hh]; exact lR,fun _ _ h => h,hF,fun k hk _ _ => by rw [hh],⟨lR,fun _ _ => rfl⟩,fun _ _ h => .inl h,(fun t b ht hb => .inr ⟨t,by rw [hold]; exact ht,hb⟩),(fun q hq hq2 => by have h1:=hI.nb; omega),⟨lR,fun _ _ => ⟨rfl,rfl,rfl,rfl⟩⟩⟩
 ·obtain ⟨hJ,hF⟩:=hI.write E.low hp hnew hrl hty hss hoth
  refine ⟨_,.d (.row p len cap),bx.set p z,nt,live,C,rfl,⟨rfl,rfl,_,rfl,hS⟩,hJ,hnt,?_,.d _ _ (.row p len cap (by rw [hI.nb]; exact hp) hlc hcm)⟩;exact ⟨ho,ht,hou,by omega,fun _ _ h => h,hF,fun k hk hne _ => hoth k (fun e => hne p (by rw [hI.nb]; exact hp) e.symm),⟨lR,fun _ _ => rfl⟩,fun _ _ h => .inl h,(fun t b ht hb => .inr ⟨t,by rw [hold]; exact ht,hb⟩),(fun q hq hq2 => by have h1:=hI.nb; rw [length_set] at hq2; omega),⟨lR,fun _ _ => ⟨rfl,rfl,rfl,rfl⟩⟩⟩
 ·obtain ⟨hI2,hF2⟩:=hI.newBox E.low hrl e0
  obtain ⟨hJ,hF3⟩:=hI2.sameHeap E.low (w':=w') hh;have hle:=Cx.box_le C w.heap.size;have hnb:=hI.nb;have holdk:∀ k,k < w.heap.size -> w'.heap[k]? = w.heap[k]?:=fun k hk => by rw [hh]; exact heap_alloc_old w _ hk
  have hF:Fix C w w':=.of (fun b o hb => World.cell?_of_block (a:=⟨b,o,none⟩) (holdk b (hI.fin b o hb))) holdk;refine ⟨_,.d (.row bx.length len cap),bx ++ [z],nt,live,C.box w.heap.size,rfl,⟨rfl,rfl,_,rfl,hS⟩,hJ,hnt,?_,?_⟩
  ·exact ⟨ho,ht,hou,by rw [hh]; simp,hle.F,hF,fun k hk _ _ => holdk k hk,⟨hle.nb,hle.bx⟩,fun _ _ h => .inl h,(fun t b ht hb => .inr ⟨t,by rw [hold]; exact ht,hb⟩),(fun q hq hq2 => by
    have:q = C.nb:=by simp at hq2; omega
    subst this; simp only [Cx.box,if_true]; exact lR),⟨hle.nt,hle.tk⟩⟩
  ·have:=RpC.row (C:=C.box w.heap.size) (w:=w') bx.length len cap (by simp [Cx.box]; omega) hlc hcm
   have hb:(C.box w.heap.size).bx bx.length = w.heap.size:=by simp [Cx.box,hnb]
   rw [hb] at this; exact .d _ _ this
end
section
variable {T:World -> Prop} {hT:Low ngl T}
theorem Inv.belowW {NG:Nat} {T:World -> Prop} (hL:Low NG T) {C:Cx} {bx:LP PC} {live:Nat -> Prop} {w w':World} (hI:Inv NG T C bx live w) (hb:Below w.heap.size w w'):Inv NG T C bx live w' /\ Fix C w w':=by
 have blk:∀ k,k < w.heap.size -> w'.heap[k]? = w.heap[k]?:=hb.block;have hF:Fix C w w':=.of (fun b o hF => World.cell?_of_block (a:=⟨b,o,none⟩) (blk b (hI.fin b o hF))) blk;refine ⟨⟨hI.nb,fun q cs hq => ?_,hI.boxF,hI.boxG,hI.inj,fun t ht => ?_,hI.tinj,fun b o h => Nat.lt_of_lt_of_le (hI.fin b o h) hb.size,Nat.le_trans hI.ng hb.size,hL w w' hI.t hb.size (fun k hk => blk k (Nat.lt_of_lt_of_le hk hI.ng))⟩,hF⟩
 ·obtain ⟨vs,e,h1,h2⟩:=hI.box q cs hq
  exact ⟨vs,e,by rw [blk _ (zaq h1)]; exact h1,h2.frame (CxLe.refl C) hF⟩
 ·obtain ⟨a,b,c⟩:=hI.tok t ht
  exact ⟨a,b,c.imp id fun ⟨b,cur,e,k1,k2,k3,rest⟩ => ⟨b,cur,e,k1,k2,by rw [blk _ (zaq k3)]; exact k3,rest⟩⟩
theorem FnG.oldNew {E:Env} {f:Nat} {args:List PV} {bx:LP PC} {nt:Nat} {live:List Nat} {S:PC -> LP PC -> Prop} (h:∀ (w:World) (C:Cx) (vs:List Value),Inv E.NG E.T C bx (· ∈ live) w -> vs.length = args.length -> (∀ (j:Nat) (x:PV) (y:Value),args[j]? = some x -> vs[j]? = some y -> RpV C w x y) ->
  Calls E.P f vs.toArray w fun e w' => ∃ u,e = .returned u /\ w'.os = w.os /\ w'.tape = w.tape /\ w'.output = w.output /\ ((u = .slice none 0 0 /\ w'.heap = w.heap /\ S (.sl 1 []) bx) \/
   ∃ (w1:World) (z:List PC) (us:List Value) (len cap:Nat) (e0:TypeId),Below w.heap.size w w1 /\ u = .slice (some ⟨w1.heap.size,0,none⟩) len cap /\ len <= cap /\ cap <= maxLen /\ w'.heap = (w1.alloc (.cells us.toArray e0)).heap /\ RpL C w z us /\ S (.row bx.length len cap) (bx ++ [z]))):FnG E f args bx nt live (fun x b n l => n = nt /\ l = live /\ ∃ c,x = .d c /\ S c b):=by
 intro C w vs hI hnt hold hn2 hl hv;refine (h w C vs hI hl hv).mono ?_;rintro e w' ⟨u,rfl,ho,ht,hou,hR⟩
 rcases hR with ⟨rfl,hh,hS⟩ | ⟨w1,z,us,len,cap,e0,hbl,rfl,hlc,hcm,hh,hrl,hS⟩
 ·obtain ⟨hJ,hF⟩:=hI.sameHeap E.low hh
  refine ⟨_,.d (.sl 1 []),bx,nt,live,C,rfl,⟨rfl,rfl,_,rfl,hS⟩,hJ,hnt,?_,.d _ _ .nil⟩;exact ⟨ho,ht,hou,by rw [hh]; exact lR,fun _ _ h => h,hF,fun k hk _ _ => by rw [hh],⟨lR,fun _ _ => rfl⟩,fun _ _ h => .inl h,(fun t b ht hb => .inr ⟨t,by rw [hold]; exact ht,hb⟩),(fun q hq hq2 => by have h1:=hI.nb; omega),⟨lR,fun _ _ => ⟨rfl,rfl,rfl,rfl⟩⟩⟩
 ·obtain ⟨hI1,hF1⟩:=hI.belowW E.low hbl
  obtain ⟨hI2,hF2⟩:=hI1.newBox E.low (hrl.frame (CxLe.refl C) hF1) e0;obtain ⟨hJ,hF3⟩:=hI2.sameHeap E.low (w':=w') hh;have hle:=Cx.box_le C w1.heap.size;have hnb:=hI.nb
  have holdk:∀ k,k < w.heap.size -> w'.heap[k]? = w.heap[k]?:=fun k hk => by
   have:=hbl.size
   rw [hh,heap_alloc_old w1 _ (by omega)]; exact hbl.block k hk
  have hF:Fix C w w':=.of (fun b o hb => World.cell?_of_block (a:=⟨b,o,none⟩) (holdk b (hI.fin b o hb))) holdk;refine ⟨_,.d (.row bx.length len cap),bx ++ [z],nt,live,C.box w1.heap.size,rfl,⟨rfl,rfl,_,rfl,hS⟩,hJ,hnt,?_,?_⟩
  ·exact ⟨ho,ht,hou,by have:=hbl.size; rw [hh]; simp; omega,hle.F,hF,fun k hk _ _ => holdk k hk,⟨hle.nb,hle.bx⟩,fun _ _ h => .inl h,(fun t b ht hb => .inr ⟨t,by rw [hold]; exact ht,hb⟩),(fun q hq hq2 => by
    have:q = C.nb:=by simp at hq2; omega
    subst this; simp only [Cx.box,if_true]; exact hbl.size),⟨hle.nt,hle.tk⟩⟩
  ·have:=RpC.row (C:=C.box w1.heap.size) (w:=w') bx.length len cap (by simp [Cx.box]; omega) hlc hcm
   have hb:(C.box w1.heap.size).bx bx.length = w1.heap.size:=by simp [Cx.box,hnb]
   rw [hb] at this; exact .d _ _ this
theorem run_app00 {P:Program} {w:World} (t ty e:TypeId) (i:TypeInfo) (ht:P.underlying t = some (.slice e)) (hi:P.info? e = some i) (g:Addr) (x:Option Addr) (c:Nat) :
  (Builtin.append_ #[t,t] ty #[.slice (some g) 0 0,.slice x 0 c]).run P w = .ok (.slice (some g) 0 0) w:=by
 cases x with
 | none => simp [Builtin.append_,run_underlying ht,sizeOf,typeInfo,hi,Builtin.lenOf,Builtin.firstCells,storeCells]
 | some a =>
  have hf:=run_firstCells_some (P:=P) w i.size 0 a 0 c [] (by simp) (by simp);simp [Builtin.append_,run_underlying ht,sizeOf,typeInfo,hi,Builtin.lenOf,hf,storeCells]
theorem cln5_nil (c:Nat) (w:World):Calls Tryz.prog 58 #[.slice none 0 c] w fun e w' => e = .returned (.slice none 0 0) /\ w' = w:=by
 have q24:∀ (w:World) (a:Option Addr) (n c:Nat),(binOp .eql 24 (.slice a n c) (.slice none 0 0)).run Tryz.prog w = .ok (.bool a.isNone) w:=fun w a n c => Lib.run_eql_slice_nil w _ _ a n c 0 0 Tryz.underlying24
 go_enter Tryz.func58,Tryz.ntmps58
 go_wp2;go_ret;exact ⟨rfl,rfl⟩
theorem cln5_some (a:Addr) (n c:Nat) (fy:List Value) (w:World) (hl:fy.length = n * 5) (hfy:∀ j u,fy[j]? = some u -> w.cell? (a.add j) = some u) (hn:n <= 4294967295) :
  Calls Tryz.prog 58 #[.slice (some a) n c] w fun e w' => ∃ (w1:World) (cap:Nat),e = .returned (.slice (some ⟨w1.heap.size,0,none⟩) n cap) /\ Below w.heap.size w w1 /\ n <= cap /\ cap <= maxLen /\ w'.heap = (w1.alloc (.cells (fy ++ (Builtin.zeroCells z5.cells (cap - n)).toList).toArray 26)).heap /\ w'.os = w.os /\ w'.tape = w.tape /\ w'.output = w.output:=by
 have q24:∀ (w:World) (a:Option Addr) (n c:Nat),(binOp .eql 24 (.slice a n c) (.slice none 0 0)).run Tryz.prog w = .ok (.bool a.isNone) w:=fun w a n c => Lib.run_eql_slice_nil w _ _ a n c 0 0 Tryz.underlying24
 obtain ⟨i0,hi0,hz0,hz1,hz2⟩:=info5
 obtain ⟨v',w',hrun,hR⟩:∃ v' w',(∀ ty,(Builtin.append_ #[24,24] ty #[.slice (some ⟨w.heap.size,0,none⟩) 0 0,.slice (some a) n c]).run Tryz.prog (w.alloc (.cells #[] 26)) = .ok v' w') /\
   Hid (∃ (w1:World) (cap:Nat),v' = .slice (some ⟨w1.heap.size,0,none⟩) n cap /\ Below w.heap.size w w1 /\ n <= cap /\ cap <= maxLen /\ w'.heap = (w1.alloc (.cells (fy ++ (Builtin.zeroCells z5.cells (cap - n)).toList).toArray 26)).heap /\ w'.os = w.os /\ w'.tape = w.tape /\ w'.output = w.output):=by
  by_cases h0:n = 0
  ·subst h0
   have hf:fy = []:=length_eq_zero_iff.1 (by omega);subst hf;exact ⟨_,_,fun ty => run_app00 _ _ _ i0 Tryz.underlying24 hi0 _ _ c,w,0,rfl,Below.refl _ _,lR,Nat.zero_le _,by simp [Builtin.zeroCells],rfl,rfl,rfl⟩
  ·have hcell:∀ j u,fy[j]? = some u -> (w.alloc (.cells #[] 26)).cell? (a.add j) = some u:=fun j u hj => Lib.cell?_alloc_some _ (hfy j u hj)
   have hg:=fun ty => run_append_grow (P:=Tryz.prog) (w.alloc (.cells #[] 26)) 24 ty 26 i0 z5 Tryz.underlying24 hi0 hz0 ⟨w.heap.size,0,none⟩ 0 0 [] (by simp) (fun j v hj => by simp at hj) a n c fy (by rw [hl,hz1]) hcell (by omega) (by omega) (growslice_fits (by omega) (by rw [hz2]; omega))
   have hge:=grownCap_ge (w.alloc (.cells #[] 26)) (0 + n) 0 26;have hcm:=grownCap_le_maxLen (w.alloc (.cells #[] 26)) (0 + n) 0 26 (by unfold maxLen; omega);generalize grownCap (w.alloc (.cells #[] 26)) (0 + n) 0 26 = cap at hg hge hcm;refine ⟨_,_,hg,w.alloc (.cells #[] 26),cap,by simp,(Below.refl _ _).alloc lR _,by omega,hcm,?_,rfl,rfl,rfl⟩;have e:(([]:List Value).toArray ++ fy.toArray ++ Builtin.zeroCells z5.cells (cap - (0 + n))) = (fy ++ (Builtin.zeroCells z5.cells (cap - n)).toList).toArray:=by simp
   rw [e]; rfl
 clear hfy hl
 go_enter Tryz.func58,Tryz.ntmps58
 go_wp2_with (at_builtin; refine zbw rfl _ _ 24 24 rfl _ _ _ _ rfl rfl (hrun _) ?_)
 go_wp2;go_ret;obtain ⟨w1,cap,rfl,r⟩:=hR.out;exact ⟨w1,cap,rfl,r⟩
theorem zdk {ks:List V} (hk:ks.length <= 4294967295) (bx:LP PC) (nt:Nat) (live:List Nat):FnG (env T hT) 58 [.d (.sl 0 (vK ks))] bx nt live (fun x b n l => n = nt /\ l = live /\ ∃ c,x = .d c /\ ∃ rest,b = bx ++ rest /\ RwL 5 bx.length live c b (vK ks)):=by
 refine FnG.oldNew fun w C vs hI hlen hv => ?_
 match vs,hlen with
 | [y],_ =>
  have h0:=hv 0 _ _ rfl rfl
  cases h0 with
  | d _ _ h0 =>
  have hnil:RwL 5 bx.length live (.sl 1 []) bx (vK []):=⟨⟨lR,.inl ⟨1,rfl,.inl rfl,rfl⟩⟩,fun e he => by cases he⟩
  have hform:(ks = [] /\ ∃ c,y = .slice none 0 c) \/ ∃ (a:Addr) (c:Nat) (fy:List Value),y = .slice (some a) ks.length c /\ fy.length = ks.length * 5 /\ RpL C w (vK ks).flatten fy /\ ∀ j u,fy[j]? = some u -> w.cell? (a.add j) = some u:=by
   obtain ⟨ao,c,rfl,_,h | ⟨b,o,n,u,rfl,_,_,hra,hcell⟩,_⟩:=sl_form h0
   ·have hks:ks = []:=by
     have:=congrArg length h
     rw [zao] at this; exact length_eq_zero_iff.1 this
    subst hks
    cases ao with
    | some a => exact .inr ⟨a,c,[],rfl,rfl,⟨rfl,fun j c y h => by cases j <;> cases h⟩,fun j u hj => by cases hj⟩
    | none => exact .inl ⟨rfl,c,rfl⟩
   ·obtain ⟨fl,h1,h2,h3⟩:=hra.flat hcell
    by_cases hks:ks = []
    ·subst hks
     exact .inr ⟨_,c,[],rfl,rfl,⟨rfl,fun j c y h => by cases j <;> cases h⟩,fun j u hj => by cases hj⟩
    have hn:n = 5:=by
     obtain ⟨d,hd⟩:=exists_mem_of_ne_nil (vK ks) (by intro e; have:=congrArg length e; rw [zao] at this; exact hks (length_eq_zero_iff.1 this));rw [<- hra.wid d hd,za7 _ d hd]
    subst hn;exact .inr ⟨_,c,fl,by rw [zao],by rw [h1,zao,Nat.mul_comm],h2,fun j u hj => by rw [zaz]; exact h3 j u hj⟩
  rcases hform with ⟨rfl,c,rfl⟩ | ⟨a,c,fy,rfl,hl,hr,hfy⟩
  ·refine (cln5_nil c w).mono ?_
   rintro e w' ⟨rfl,rfl⟩;exact ⟨_,rfl,rfl,rfl,rfl,.inl ⟨rfl,rfl,[],by simp,hnil⟩⟩
  ·refine (cln5_some a ks.length c fy w hl hfy hk).mono ?_
   rintro e w' ⟨w1,cap,rfl,hb,h1,h2,hh,ho,ht,hou⟩;have hone:=za8 (z:=z5) rfl (cap - ks.length);have hzl:(Builtin.zeroCells z5.cells (cap - ks.length)).toList.length = (cap - ks.length) * 5:=by rw [Array.length_toList,size_zeroCells]; rfl
   generalize (Builtin.zeroCells z5.cells (cap - ks.length)).toList = zr at hone hh hzl
   have hlz:RpL C w (zr.map PC.v) zr:=⟨by simp,fun j c y h1 h2 => by
    rw [getElem?_map,h2] at h1;simp only [Option.map_some,sI] at h1; subst h1
    exact .v _ (hone y (mem_of_getElem? h2))⟩
   have hfl:(vK ks).flatten.length = 5 * ks.length:=by rw [zaK (za7 _),zao]
   refine ⟨_,rfl,ho,ht,hou,.inr ⟨w1,(vK ks).flatten ++ zr.map PC.v,_,ks.length,cap,_,hb,rfl,h1,h2,hh,hr.append hlz,_,rfl,?_⟩⟩;refine ⟨⟨by simp,.inr ⟨bx.length,ks.length,cap,(vK ks).flatten ++ zr.map PC.v,rfl,lR,by simp,?_,h1,?_⟩⟩,za7 _⟩
   ·rw [length_append,length_map,hfl,hzl]; omega
   ·rw [take_append,hfl,Nat.sub_self,take_zero,append_nil,take_of_length_le (by omega)]
end
section
theorem zeh {P:Program} {ops:Array Oper} {o:Oper} {a:Act} {w:World} {K:Act -> World -> Prop} {Q:Exit -> Act -> World -> Prop} {E:Prop}
  (hg:o.guard = none) (d x:Operand) (dT sT:TypeId) (hop:o.op = Op.call { callee:=Callee.builtin Builtin.copy,args:=#[d,x],argTypes:=#[dT,sT] })
  (v u:Value) (hd:a.eval d = v) (hx:a.eval x = u) {v':Value} {w':World} (hr:(Builtin.copy_ #[dT,sT] o.type #[v,u]).run P w = .ok v' w') (hK:K (a.put o.dst v') w') :
  if Region.wanted o (yielded ops a.tmps) = true then Oper.wp P o a w K Q else E:=by
 have hw:Region.wanted o (yielded ops a.tmps) = true:=by simp [Region.wanted,hg]
 rw [if_pos hw];exact wp_copyN w d x dT sT hop v u hd hx hr hK
theorem zaV (b:Nat):∀ (vs:List Value) (o:Nat) (w:World),(w.setCells b o vs).drew = w.drew.setCells b o vs
 | [],_,_ => rfl
 | v :: r,o,w => by rw [World.setCells,World.setCells,zaV b r]; rfl
theorem ins5_shift (b n c i vb vc:Nat) (cur xs:List Value) (e0:TypeId) (w:World) (hb:w.heap[b]? = some (.cells cur.toArray e0 (0,0))) (hl:cur.length = 5 * c) (one:∀ u ∈ cur,u.oneCell' = true) (hi:i < n) (hn:n + 1 <= c) (hc:c <= maxLen)
  (hvb:vb ≠ b) (av:Array Value) (ev:TypeId) (hv:w.heap[vb]? = some (.cells av ev (0,0))) (hxl:xs.length = 5) (hxs:∀ j u,xs[j]? = some u -> w.cell? ⟨vb,j,none⟩ = some u) (onex:∀ u ∈ xs,u.oneCell' = true) :
  Calls Tryz.prog 72 #[.slice (some ⟨b,0,none⟩) n c,.int .i64 i,.slice (some ⟨vb,0,none⟩) 1 vc] w fun e w' => e = .returned (.slice (some ⟨b,0,none⟩) (n + 1) c) /\ w' = (w.drew.setCells b ((i + 1) * 5) ((cur.drop (5 * i)).take (5 * (n - i)))).setCells b (i * 5) xs:=by
 obtain ⟨i0,hi0,hz0,hz1,hz2⟩:=info5;have hcm:c <= 9223372036854775807:=by unfold maxLen at hc; omega
 have hsz:(Tryz.prog.info? 26).map (·.size) = some 5:=by rw [hi0]; simp [hz1]
 have hsize:∀ w,(Go.sizeOf 26).run Tryz.prog w = .ok 5 w:=fun w => by simp [Go.sizeOf,typeInfo,hi0,hz1]
 obtain ⟨news,hnews⟩:∃ news,news = (cur.drop (5 * i)).take (5 * (n - i)):=⟨_,rfl⟩;have hlen:news.length = (n - i) * 5:=by rw [hnews,length_take,length_drop,hl]; omega
 have hone:∀ u ∈ news,u.oneCell' = true:=fun u hu => one u (mem_of_mem_drop (mem_of_mem_take (by rw [<- hnews]; exact hu)))
 have hwd:w.drew.heap[b]? = some (.cells cur.toArray e0 (0,0)):=hb;obtain ⟨W1,hW1⟩:∃ W1,W1 = w.drew.setCells b ((i + 1) * 5) news:=⟨_,rfl⟩;have hb1:W1.heap[b]? = some (.cells (splV cur ((i + 1) * 5) news).toArray e0 (0,0)):=by rw [hW1]; exact zaN b e0 (0,0) news _ _ cur hwd (by omega)
 have hl1:(splV cur ((i + 1) * 5) news).length = 5 * c:=by rw [zb6 (by omega)]; exact hl
 have hv1:∀ j u,xs[j]? = some u -> W1.cell? ⟨vb,j,none⟩ = some u:=fun j u hu => by
  have h1:=hxs j u hu;have h2:W1.heap[vb]? = w.heap[vb]?:=by rw [hW1,zaO b _ _ _ _ hvb]; rfl
  rw [World.cell?_of_block (a:=⟨vb,j,none⟩) h2]; exact h1
 have hcp1:∀ ty dc sc,(Builtin.copy_ #[24,24] ty #[.slice (some ⟨b,(i + 1) * 5,none⟩) (n - i) dc,.slice (some ⟨b,i * 5,none⟩) (n + 1 - i) sc]).run Tryz.prog w.drew = .ok (goInt (n - i:Nat)) W1:=fun ty dc sc => by
  have:=zcJ (P:=Tryz.prog) w.drew 24 24 ty 26 b ((i + 1) * 5) (n - i) dc ⟨b,i * 5,none⟩ (n + 1 - i) sc 5 news Tryz.underlying24 hsz (by rw [hlen]; simp only [Nat.min_def]; split <;> omega)
   (fun j v hj => by
    rw [zaz,zam hwd];rw [hnews,getElem?_take] at hj
    split at hj
    ·rw [getElem?_drop] at hj
     rw [getElem?_toArray,Nat.mul_comm i 5]; exact hj
    ·cases hj)
   (fun j hj => (zaQ hwd (by omega)).1) (fun j hj => (zaQ hwd (by omega)).2) hone
  rw [this,hW1,show Nat.min (n + 1 - i) (n - i) = n - i by simp only [Nat.min_def]; split <;> omega]
 have hcp2:∀ (W:World),(∀ x,W.cell? x = W1.cell? x) -> (∀ x,W.frozen? x = W1.frozen? x) -> ∀ ty dc,(Builtin.copy_ #[24,24] ty #[.slice (some ⟨b,i * 5,none⟩) (n + 1 - i) dc,.slice (some ⟨vb,0,none⟩) 1 vc]).run Tryz.prog W = .ok (goInt (1:Nat)) (W.setCells b (i * 5) xs):=fun W hWc hWf ty dc => by
  have:=zcJ (P:=Tryz.prog) W 24 24 ty 26 b (i * 5) (n + 1 - i) dc ⟨vb,0,none⟩ 1 vc 5 xs Tryz.underlying24 hsz (by rw [hxl]; simp only [Nat.min_def]; split <;> omega)
   (fun j v hj => by rw [zaz,Nat.zero_add,hWc]; exact hv1 j v hj)
   (fun j hj => by rw [hWc]; exact (zaQ hb1 (by omega)).1) (fun j hj => by rw [hWf]; exact (zaQ hb1 (by omega)).2) onex
  rw [this,show Nat.min 1 (n + 1 - i) = 1 by simp only [Nat.min_def]; split <;> omega]
 have hsa:w.shape? vb = some (ev,av.size):=by simp [World.shape?,hv]
 have hsb:w.shape? b = some (e0,5 * c):=by simp [World.shape?,hb,hl]
 have hfa:∀ o,w.frozen? ⟨vb,o,none⟩ = false:=fun o => by simp [World.frozen?,hv]
 have hov:∀ o lb cb,(callFunc 87 #[.slice (some ⟨vb,0,none⟩) 1 vc,.slice (some ⟨b,o,none⟩) lb cb]).run Tryz.prog w = .ok (.value (.bool false)) w:=fun o lb cb => by
  rw [run_callFunc_extern Tryz.func87 (by kernel_rfl) (by kernel_rfl) (by kernel_rfl) (e:=Extern.SlicesOverlaps.overlaps #[24,24] #[4]) (by kernel_rfl),
   Lib.run_overlaps_apart w 24 4 26 Tryz.underlying24 5 hsize ⟨vb,0,none⟩ ⟨b,o,none⟩ 1 vc lb cb hvb ev e0 av.size (5 * c) hsa hsb (by omega) (hfa 0) (hfa av.size)]
  rfl
 have mixed:Tryz.prog.follows .mixedOrders = true:=by kernel_rfl
 have hN:Hid (news = (cur.drop (5 * i)).take (5 * (n - i))):=hnews;have hW:Hid (W1 = w.drew.setCells b ((i + 1) * 5) news):=hW1;have g1:((i:Int) == (n:Int)) = false:=by rw [beq_eq_false_iff_ne]; omega
 have g2:¬ ((c:Int) < (n:Int) + 1):=by omega
 have g3:IntKind.i64.wrap ((i:Int) + 1) = (i:Int) + 1:=by rw [IntKind.wrap_i64]; omega
 have g4:IntKind.i64.wrap ((n:Int) + 1) = (n:Int) + 1:=by rw [IntKind.wrap_i64]; omega
 have g5:(0:Int) <= (i:Int) + 1:=by omega
 have g6:((i:Int) + 1).toNat = i + 1:=by omega
 have g7:i <= n:=by omega
 have g8:¬ (c = i):=by omega
 have g9:¬ (c = i + 1):=by omega
 have g10:i <= c:=by omega
 have g11:i + 1 <= c:=by omega
 have g12:i <= n + 1:=by omega
 have g13:(0:Int) <= (n:Int) + 1:=by omega
 have g14:((n:Int) + 1).toNat = n + 1:=by omega
 have g15:(i:Int) <= (n:Int) + 1:=by omega
 have g16:(n:Int) + 1 <= (c:Int):=by omega
 clear hb hl one hwd hb1 hl1 hnews hlen hone hW1 hv hsa hsb hfa hxs onex hv1 hsize hsz hxl
 go_enter Tryz.func72,Tryz.ntmps72
 go_wp2_with (simp only [hov])
 go_region_law_o (refine zeh rfl _ _ 24 24 rfl _ _ (by simp [Act.eval,Act.put]) (by simp [Act.eval,Act.put]) (hcp1 _ _ _) ?_)
 go_wp2_with (at_builtin; refine zbY _ rfl _ _ 24 24 rfl _ _ rfl rfl (hcp2 _ (fun _ => rfl) (fun _ => rfl) _ _) ?_)
 go_ret;exact ⟨rfl,by rw [<- hN.out,<- hW.out]⟩
theorem ins5_grow (b n c i vb vc:Nat) (cur xs:List Value) (e0:TypeId) (w:World) (hb:w.heap[b]? = some (.cells cur.toArray e0 (0,0))) (hl:cur.length = 5 * c) (one:∀ u ∈ cur,u.oneCell' = true) (hi:i < n) (hnc:n <= c) (hn:c < n + 1) (hc:n + 1 <= 4294967296)
  (hvb:vb < w.heap.size) (hxl:xs.length = 5) (hxs:∀ j u,xs[j]? = some u -> w.cell? ⟨vb,j,none⟩ = some u) (onex:∀ u ∈ xs,u.oneCell' = true) :
  Calls Tryz.prog 72 #[.slice (some ⟨b,0,none⟩) n c,.int .i64 i,.slice (some ⟨vb,0,none⟩) 1 vc] w fun e w' => ∃ G us,e = .returned (.slice (some ⟨w.heap.size,0,none⟩) (n + 1) G) /\ n + 1 <= G /\ G <= maxLen /\ us = cur.take (5 * i) ++ (Builtin.zeroCells z5.cells (n + 1 - i)).toList ++ (Builtin.zeroCells z5.cells (G - (n + 1))).toList /\ w'.heap = ((w.alloc (.cells us.toArray 26)).setCells w.heap.size (i * 5) xs |>.setCells w.heap.size ((i + 1) * 5) ((cur.drop (5 * i)).take (5 * (n - i)))).heap /\ w'.os = w.os /\ w'.tape = w.tape /\ w'.output = w.output:=by
 obtain ⟨i0,hi0,hz0,hz1,hz2⟩:=info5;have hsz:(Tryz.prog.info? 26).map (·.size) = some 5:=by rw [hi0]; simp [hz1]
 have hbw:b < w.heap.size:=zaq hb;obtain ⟨news,hnews⟩:∃ news,news = (cur.drop (5 * i)).take (5 * (n - i)):=⟨_,rfl⟩;have hlen:news.length = (n - i) * 5:=by rw [hnews,length_take,length_drop,hl]; omega
 have hone:∀ u ∈ news,u.oneCell' = true:=fun u hu => one u (mem_of_mem_drop (mem_of_mem_take (by rw [<- hnews]; exact hu)))
 have hkk:(n:Int) + 1 - (i:Int) = ((n + 1 - i:Nat):Int):=by omega
 have hik:i + (n + 1 - i) = n + 1:=by omega
 have hold:(Builtin.firstCells i0.size i (.slice (some ⟨b,0,none⟩) i c)).run Tryz.prog w.drew = .ok (cur.take (5 * i)).toArray w.drew:=by
  rw [hz1];refine run_firstCells_some (P:=Tryz.prog) (w:=w.drew) 5 i ⟨b,0,none⟩ i c (cur.take (5 * i)) (by rw [length_take,hl]; omega) (fun j v hj => ?_);rw [zaz,Nat.zero_add,zam (show w.drew.heap[b]? = _ from hb),getElem?_toArray];rw [getElem?_take] at hj
  split at hj
  ·exact hj
  ·cases hj
 obtain ⟨G,hG⟩:∃ G,G = grownCap w (n + 1) c 26:=⟨_,rfl⟩;obtain ⟨us,hus⟩:∃ us,us = cur.take (5 * i) ++ (Builtin.zeroCells z5.cells (n + 1 - i)).toList ++ (Builtin.zeroCells z5.cells (G - (n + 1))).toList:=⟨_,rfl⟩;have husA:us.toArray = (cur.take (5 * i)).toArray ++ Builtin.zeroCells z5.cells (n + 1 - i) ++ Builtin.zeroCells z5.cells (G - (n + 1)):=by rw [hus]; simp
 have hrz:∀ ty,(Builtin.append_ #[24,3] ty #[.slice (some ⟨b,0,none⟩) i c,.int .i64 ((n:Int) + 1 - (i:Int))]).run Tryz.prog w = .ok (.slice (some ⟨w.heap.size,0,none⟩) (n + 1) G) (w.drew.alloc (.cells us.toArray 26)):=fun ty => by
  have h:=Lib.run_append_grow_zeros w 24 3 ty 26 i0 _ .i64 .i64 Tryz.underlying24 Tryz.underlying3 hi0 hz0 (some ⟨b,0,none⟩) i c (cur.take (5 * i)) hold (n + 1 - i) (by omega) (by omega) (by omega) (by omega) (by rw [hz2]; omega) (by rw [hz2,hik]; exact growslice_fits (by omega) (by omega));rw [hik] at h;rw [hkk,husA,hG];exact h
 have hGn:n + 1 <= G:=by rw [hG]; exact grownCap_ge w _ _ _
 have hG63:G <= maxLen:=by rw [hG]; exact grownCap_le_maxLen w (n + 1) c 26 (by unfold maxLen; omega)
 have husl:us.length = 5 * G:=by
  rw [hus];simp only [length_append,length_take,Array.length_toList,size_zeroCells,hl];show min (5 * i) (5 * c) + (n + 1 - i) * 5 + (G - (n + 1)) * 5 = _;omega
 obtain ⟨W1,hW1⟩:∃ W1,W1 = w.drew.alloc (.cells us.toArray 26):=⟨_,rfl⟩;have hb1:W1.heap[w.heap.size]? = some (.cells us.toArray 26 (0,0)):=by rw [hW1]; exact zaB w.drew _
 rw [<- hW1] at hrz;have hOb:W1.heap[b]? = some (.cells cur.toArray e0 (0,0)):=by rw [hW1]; exact (Below.heap_alloc w.drew _ _ hbw).trans hb
 have hcpA:∀ (W:World),(∀ x,W.cell? x = W1.cell? x) -> (∀ x,W.frozen? x = W1.frozen? x) -> ∀ ty dc,(Builtin.copy_ #[24,24] ty #[.slice (some ⟨w.heap.size,i * 5,none⟩) (n + 1 - i) dc,.slice (some ⟨vb,0,none⟩) 1 vc]).run Tryz.prog W = .ok (goInt (1:Nat)) (W.setCells w.heap.size (i * 5) xs):=fun W hWc hWf ty dc => by
  have:=zcJ (P:=Tryz.prog) W 24 24 ty 26 w.heap.size (i * 5) (n + 1 - i) dc ⟨vb,0,none⟩ 1 vc 5 xs Tryz.underlying24 hsz (by rw [hxl]; simp only [Nat.min_def]; split <;> omega)
   (fun j v hj => by rw [zaz,Nat.zero_add,hWc,hW1,World.cell?_alloc_past (w:=w.drew) _ vb j hvb]; exact hxs j v hj)
   (fun j hj => by rw [hWc]; exact (zaQ hb1 (by omega)).1) (fun j hj => by rw [hWf]; exact (zaQ hb1 (by omega)).2) onex
  rw [this,show Nat.min 1 (n + 1 - i) = 1 by simp only [Nat.min_def]; split <;> omega]
 have hb2:(W1.setCells w.heap.size (i * 5) xs).heap[w.heap.size]? = some (.cells (splV us (i * 5) xs).toArray 26 (0,0)):=zaN _ _ _ xs _ _ us hb1 (by omega);have hl2:(splV us (i * 5) xs).length = 5 * G:=by rw [zb6 (by omega)]; exact husl
 have hO2:(W1.setCells w.heap.size (i * 5) xs).heap[b]? = some (.cells cur.toArray e0 (0,0)):=by rw [zaO _ _ _ _ _ (by omega)]; exact hOb
 have hcpB:∀ (W:World),(∀ x,W.cell? x = (W1.setCells w.heap.size (i * 5) xs).cell? x) -> (∀ x,W.frozen? x = (W1.setCells w.heap.size (i * 5) xs).frozen? x) -> ∀ ty dc sc,(Builtin.copy_ #[24,24] ty #[.slice (some ⟨w.heap.size,(i + 1) * 5,none⟩) (n - i) dc,.slice (some ⟨b,i * 5,none⟩) (n - i) sc]).run Tryz.prog W = .ok (goInt (n - i:Nat)) (W.setCells w.heap.size ((i + 1) * 5) news):=fun W hWc hWf ty dc sc => by
  have:=zcJ (P:=Tryz.prog) W 24 24 ty 26 w.heap.size ((i + 1) * 5) (n - i) dc ⟨b,i * 5,none⟩ (n - i) sc 5 news Tryz.underlying24 hsz (by rw [hlen]; simp only [Nat.min_def]; split <;> omega)
   (fun j v hj => by
    rw [zaz,hWc,zam hO2];rw [hnews,getElem?_take] at hj
    split at hj
    ·rw [getElem?_drop] at hj
     rw [getElem?_toArray,Nat.mul_comm i 5]; exact hj
    ·cases hj)
   (fun j hj => by rw [hWc]; exact (zaQ hb2 (by omega)).1) (fun j hj => by rw [hWf]; exact (zaQ hb2 (by omega)).2) hone
  rw [this,show Nat.min (n - i) (n - i) = n - i from Nat.min_self _]
 have mixed:Tryz.prog.follows .mixedOrders = true:=by kernel_rfl
 have hN:Hid (news = (cur.drop (5 * i)).take (5 * (n - i))):=hnews;have hU:=Lib.hid hus;subst hW1;have hE1:∀ x,((w.alloc (.cells us.toArray 26)).drew).cell? x = (w.drew.alloc (.cells us.toArray 26)).cell? x:=fun x => rfl
 have hE2:∀ x,((w.alloc (.cells us.toArray 26)).drew).frozen? x = (w.drew.alloc (.cells us.toArray 26)).frozen? x:=fun x => rfl
 have hF1:∀ x,(((w.alloc (.cells us.toArray 26)).drew.setCells w.heap.size (i * 5) xs).drew).cell? x = ((w.drew.alloc (.cells us.toArray 26)).setCells w.heap.size (i * 5) xs).cell? x:=fun x => rfl
 have hF2:∀ x,(((w.alloc (.cells us.toArray 26)).drew.setCells w.heap.size (i * 5) xs).drew).frozen? x = ((w.drew.alloc (.cells us.toArray 26)).setCells w.heap.size (i * 5) xs).frozen? x:=fun x => rfl
 have g1:((i:Int) == (n:Int)) = false:=by rw [beq_eq_false_iff_ne]; omega
 have g2:(c:Int) < (n:Int) + 1:=by omega
 have g3:IntKind.i64.wrap ((i:Int) + 1) = (i:Int) + 1:=by rw [IntKind.wrap_i64]; omega
 have g4:IntKind.i64.wrap ((n:Int) + 1) = (n:Int) + 1:=by rw [IntKind.wrap_i64]; omega
 have g4':IntKind.i64.wrap ((n:Int) + 1 - (i:Int)) = (n:Int) + 1 - (i:Int):=by rw [IntKind.wrap_i64]; omega
 have g5:(0:Int) <= (i:Int) + 1:=by omega
 have g6:((i:Int) + 1).toNat = i + 1:=by omega
 have g7:i <= n:=by omega
 have g8:¬ (G = i):=by omega
 have g9:¬ (G = i + 1):=by omega
 have g10:¬ (c = i):=by omega
 have g11:i <= c:=by omega
 have g12:i <= n + 1:=by omega
 have g13:(i:Int) <= (n:Int):=by omega
 have g14:i <= G:=by omega
 have g15:i + 1 <= G:=by omega
 have g16:(i:Int) <= (n:Int) + 1:=by omega
 have hGS:=Lib.hid hG63;have hGm:G <= 9223372036854775807:=by unfold maxLen at hG63; omega
 clear hkk hik hold hus husA hG hG63 hb hl one hb1 hOb hb2 hO2 hl2 husl hnews hlen hone hxs onex hxl hsz
 go_enter Tryz.func72,Tryz.ntmps72
 go_wp2_with (first
  | (at_builtin; refine zbw rfl _ _ _ _ rfl _ _ _ _ rfl rfl (hrz _) ?_)
  | (at_builtin; refine zbY _ rfl _ _ 24 24 rfl _ _ rfl rfl (hcpA _ hE1 hE2 _ _) ?_)
  | (at_builtin; refine zbY _ rfl _ _ 24 24 rfl _ _ rfl rfl (hcpB _ (fun _ => rfl) (fun _ => rfl) _ _ _) ?_))
 go_region_law_o (refine zeh rfl _ _ 24 24 rfl (.slice (some ⟨w.heap.size,(i + 1) * 5,none⟩) (n - i) (G - (i + 1))) (.slice (some ⟨b,i * 5,none⟩) (n - i) (c - i)) (by simp [Act.eval,Act.put]) (by simp [Act.eval,Act.put]) (hcpB _ hF1 hF2 3 (G - (i + 1)) (c - i)) ?_)
 go_wp2;go_ret;rw [<- hN.out];obtain ⟨_,q1,q2,q3⟩:=zaY w.heap.size xs (i * 5) (w.alloc (.cells us.toArray 26));obtain ⟨_,q4,q5,q6⟩:=zaY w.heap.size news ((i + 1) * 5) ((w.alloc (.cells us.toArray 26)).setCells w.heap.size (i * 5) xs);refine ⟨G,us,rfl,hGn,hGS.out,hU.out,?_,?_,?_,?_⟩
 ·rw [<- zaV,<- zaV,<- zaV]; rfl
 ·rw [<- zaV,<- zaV,<- zaV]; exact q4.trans q1
 ·rw [<- zaV,<- zaV,<- zaV]; exact q5.trans q2
 ·rw [<- zaV,<- zaV,<- zaV]; exact q6.trans q3
end
section
variable {T:World -> Prop} {hT:Low ngl T}
theorem zfI {z X Y:List PC} {a:Nat} (h:a + X.length + Y.length <= z.length):spl (spl z a X) (a + X.length) Y = z.take a ++ X ++ Y ++ z.drop (a + X.length + Y.length):=by
 unfold spl;have l1:(z.take a ++ X).length = a + X.length:=by rw [length_append,length_take]; omega
 rw [take_append_of_le_length (by rw [l1]; omega),take_of_length_le (by rw [l1]; omega),drop_append,l1,drop_of_length_le (by rw [l1]; omega),drop_drop,nil_append]
 congr 2
 omega
theorem spl_before {z X Y:List PC} {a:Nat} (h:a + X.length + Y.length <= z.length):spl (spl z (a + X.length) Y) a X = z.take a ++ X ++ Y ++ z.drop (a + X.length + Y.length):=by
 unfold spl;have l0:(z.take (a + X.length)).length = a + X.length:=by rw [length_take]; omega
 rw [append_assoc (z.take _),take_append_of_le_length (by rw [l0]; omega),take_take,Nat.min_eq_left (by omega),drop_append,l0,drop_of_length_le (by rw [l0]; omega),Nat.sub_self,drop_zero,nil_append];simp only [append_assoc]
theorem zeM {A B:List PC} {n:Nat} (h:n = A.length):(A ++ B).take n = A:=by subst h; exact take_left
theorem zcf (w:World) (us vs:List Value) (o:Nat) (e:TypeId) (h:o + vs.length <= us.length):((w.alloc (.cells us.toArray e)).setCells w.heap.size o vs).heap = (w.alloc (.cells (splV us o vs).toArray e)).heap:=by
 apply Array.ext_getElem?
 intro k;by_cases hk:k = w.heap.size
 ·subst hk
  rw [zaN _ e (0,0) vs o _ us (zaB w _) h,zaB]
 ·rw [zaO _ _ _ _ _ hk]
  by_cases hl:k < w.heap.size
  ·rw [heap_alloc_old w _ hl,heap_alloc_old w _ hl]
  ·rw [Array.getElem?_eq_none (by simp; omega),Array.getElem?_eq_none (by simp; omega)]
theorem zd1 (b:Nat):∀ (vs:List Value) (o:Nat) (w w':World),w.heap = w'.heap -> (w.setCells b o vs).heap = (w'.setCells b o vs).heap:=by
 intro vs
 induction vs with
 | nil => intro o w w' h; exact h
 | cons v r ih =>
  intro o w w' h;rw [World.setCells,World.setCells];refine ih _ _ _ ?_;unfold World.setCell;simp only [h]
theorem zeN (C:Cx) (w:World) (n:Nat):RpL C w ((Builtin.zeroCells z5.cells n).toList.map PC.v) (Builtin.zeroCells z5.cells n).toList :=
 ⟨by simp,fun j c y h1 h2 => by
  have hone:=za8 (z:=z5) rfl n;rw [getElem?_map,h2] at h1;simp only [Option.map_some,sI] at h1; subst h1
  exact .v _ (hone y (mem_of_getElem? h2))⟩
theorem zfJ (n:Nat):(Builtin.zeroCells z5.cells n).toList.length = 5 * n:=by
 rw [Array.length_toList,size_zeroCells,Nat.mul_comm]; rfl
theorem rw_row {lo:Nat} {live:List Nat} {c:PC} {bx rows:LP PC} (hR:RwL 5 lo live c bx rows) (h:rows ≠ []):∃ p cap z,c = .row p rows.length cap /\ bx[p]? = some z /\ p < bx.length /\ lo <= p /\ z.length = 5 * cap /\ rows.length <= cap /\ rows.flatten = z.take (5 * rows.length):=by
 rcases hR.1.2 with ⟨t,rfl,_,h0⟩ | ⟨p,len,cap,z,rfl,h2,h3,h4,h5,h6⟩
 ·match rows,h0,hR.2,h with
  | e :: rs,h0,hw,_ =>
   have:=hw e (by simp)
   simp only [flatten_cons,List.append_eq_nil_iff] at h0;rw [h0.1] at this; simp at this
 ·obtain ⟨_,_,_,_,_,_,h7⟩:=hR.len (by decide)
  subst h7;refine ⟨p,cap,z,rfl,h3,?_,h2,h4,h5,h6⟩
  rcases Nat.lt_or_ge p bx.length with h' | h'
  ·exact h'
  ·rw [getElem?_eq_none h'] at h3; cases h3
theorem del5_g {lo:Nat} {c:PC} {bx rows:LP PC} {nt:Nat} {live:List Nat} {i j:Nat} (hR:RwL 5 lo live c bx rows) (hij:i < j) (hj:j <= rows.length):FnG (env T hT) 59 [.d c,.d (pI i),.d (pI j)] bx nt live (fun x b n l => n = nt /\ l = live /\ ∃ c',x = .d c' /\ RwL 5 lo live c' b (rows.take i ++ rows.drop j) /\ ∀ q,q < lo -> b[q]? = bx[q]?):=by
 obtain ⟨p,cap,z,rfl,hz,hp,hlo,hzl,hlc,hfl⟩:=rw_row hR (by intro e; rw [e] at hj; simp at hj; omega);refine FnG.oldRw fun w C vs hI hnt hlen hv => ?_
 match vs,hlen with
 | [x,y1,y2],_ =>
  have h0:=hv 0 _ _ rfl rfl;have h1:=hv 1 _ _ rfl rfl;have h2:=hv 2 _ _ rfl rfl
  cases h0 with
  | d _ _ h0 =>
  cases h1 with
  | d _ _ h1 =>
  cases h2 with
  | d _ _ h2 =>
  cases h0 with
  | row _ _ _ _ _ hcm =>
  cases h1 with
  | v _ _ =>
  cases h2 with
  | v _ _ =>
  obtain ⟨cur,e0,hh,hl⟩:=hI.box p z hz;have hcl:cur.length = 5 * cap:=by rw [hl.1,hzl]
  refine (del5 (C.bx p) rows.length cap i j cur e0 w hh hcl hl.one hij hj hlc hcm).mono ?_;rintro e w' ⟨rfl,rfl⟩;have hYl:((cur.drop (5 * j)).take (5 * (rows.length - j))).length = 5 * (rows.length - j):=by rw [length_take,length_drop,hcl]; omega
  have hzl5:=zfJ (j - i);have hw1:=zaN (C.bx p) e0 (0,0) ((cur.drop (5 * j)).take (5 * (rows.length - j))) (5 * i) w.drew cur hh (by rw [hYl]; omega);have hw2:=zaN (C.bx p) e0 (0,0) (Builtin.zeroCells z5.cells (j - i)).toList (5 * (i + (rows.length - j))) _ _ hw1 (by rw [zb6 (by rw [hYl]; omega),hzl5,hcl]; omega);obtain ⟨s1,s2,s3,s4⟩:=zaY (C.bx p) ((cur.drop (5 * j)).take (5 * (rows.length - j))) (5 * i) w.drew;obtain ⟨t1,t2,t3,t4⟩:=zaY (C.bx p) (Builtin.zeroCells z5.cells (j - i)).toList (5 * (i + (rows.length - j))) (w.drew.setCells (C.bx p) (5 * i) ((cur.drop (5 * j)).take (5 * (rows.length - j))));have hYr:=hl.slice (5 * j) (5 * (rows.length - j));have hrp:=zcx (zcx hl hYr (5 * i)) (zeN C w (j - i)) (5 * (i + (rows.length - j)));have hYp:((z.drop (5 * j)).take (5 * (rows.length - j))).length = 5 * (rows.length - j):=by rw [length_take,length_drop,hzl]; omega
  have hze:spl (spl z (5 * i) ((z.drop (5 * j)).take (5 * (rows.length - j)))) (5 * (i + (rows.length - j))) ((Builtin.zeroCells z5.cells (j - i)).toList.map PC.v) = z.take (5 * i) ++ (z.drop (5 * j)).take (5 * (rows.length - j)) ++ (Builtin.zeroCells z5.cells (j - i)).toList.map PC.v ++ z.drop (5 * i + (5 * (rows.length - j)) + 5 * (j - i)):=by
   have:=zfI (z:=z) (X:=(z.drop (5 * j)).take (5 * (rows.length - j))) (Y:=(Builtin.zeroCells z5.cells (j - i)).toList.map PC.v) (a:=5 * i) (by rw [hYp,length_map,hzl5]; omega)
   rw [hYp,length_map,hzl5] at this;rw [show 5 * (i + (rows.length - j)) = 5 * i + 5 * (rows.length - j) by omega];exact this
  rw [hze] at hrp;have hil:(z.take (5 * i)).length = 5 * i:=by rw [length_take,hzl]; omega
  refine ⟨_,rfl,t2.trans s2,t3.trans s3,t4.trans s4,.inr (.inl ⟨p,_,_,_,cap,e0,hp,rfl,by omega,hcm,hw2,?_,?_,?_,hrp,?_,?_⟩)⟩
  ·intro T cs0 h0
   rw [hh] at h0;simp only [sI,Obj.cells.injEq] at h0;exact h0.2.1
  ·exact (t1.trans s1).symm
  ·intro k hk
   rw [zaO _ _ _ _ _ hk,zaO _ _ _ _ _ hk]; rfl
  ·refine ⟨⟨by rw [length_set]; omega,.inr ⟨p,_,cap,_,rfl,hlo,getElem?_set_self hp,?_,by omega,?_⟩⟩,fun e he => hR.2 e ((mem_append.1 he).elim mem_of_mem_take mem_of_mem_drop)⟩
   ·simp only [length_append,hil,hYp,length_map,hzl5,length_drop,hzl]; omega
   ·rw [flatten_append,<- zcH rows i hR.2,<- zbS rows j hR.2,hfl,take_take,Nat.min_eq_left (by omega),drop_take,append_assoc (z.take _ ++ _),zeM (by rw [length_append,hil,hYp]; omega)]
    congr 2
    omega
  ·intro q hq
   exact getElem?_set_ne (by omega)
theorem ins5_g {lo tk:Nat} {c:PC} {xc:List PC} {bx rows:LP PC} {nt:Nat} {live:List Nat} {i:Nat} (hR:RwL 5 lo live c bx rows) (hi:i < rows.length) (hrl:rows.length + 1 <= 4294967296) (hxl:xc.length = 5) (htk:tk ∈ live):FnG (env T hT) 72 [.d c,.d (pI i),.d (.sl tk [xc])] bx nt live (fun x b n l => n = nt /\ l = live /\ ∃ c',x = .d c' /\ RwL 5 lo live c' b (rows.take i ++ xc :: rows.drop i) /\ bx.length <= b.length /\ ∀ q,q < lo -> b[q]? = bx[q]?):=by
 obtain ⟨p,cap,z,rfl,hz,hp,hlo,hzl,hlc,hfl⟩:=rw_row hR (by intro e; rw [e] at hi; simp at hi);refine FnG.oldRw fun w C vs hI hnt hlen hv => ?_
 match vs,hlen with
 | [x,y1,y2],_ =>
  have h0:=hv 0 _ _ rfl rfl;have h1:=hv 1 _ _ rfl rfl;have h2:=hv 2 _ _ rfl rfl
  cases h0 with
  | d _ _ h0 =>
  cases h1 with
  | d _ _ h1 =>
  cases h2 with
  | d _ _ h2 =>
  cases h0 with
  | row _ _ _ _ _ hcm =>
  cases h1 with
  | v _ _ =>
  obtain ⟨ht2,_,htok⟩:=hI.tok tk htk
  obtain ⟨vb,vc,xs,av,ev,rfl,hvb,hvh,hxsl,hxs,hxr⟩:∃ (vb vc:Nat) (xs:List Value) (av:Array Value) (ev:TypeId),y2 = .slice (some ⟨vb,0,none⟩) 1 vc /\ vb ≠ C.bx p /\ w.heap[vb]? = some (.cells av ev (0,0)) /\ xs.length = 5 /\ (∀ j u,xs[j]? = some u -> w.cell? ⟨vb,j,none⟩ = some u) /\ RpL C w xc xs:=by
   cases h2 with
   | rd => omega
   | own _ _ b u h2 ht hb hlen hl hc hra hcell =>
    rcases htok with ⟨k,_⟩ | ⟨b',cur,e',c1,c2,c3,c4,c5,c6,c7,cz,c8,c9⟩
    ·rw [hb] at k; cases k
    ·rw [hb] at c1
     simp only [sI] at c1; subst c1
     obtain ⟨fl,f1,f2,f3⟩:=hra.flat hcell;have hn5:C.tn tk = 5:=by rw [<- hra.wid xc (by simp),hxl]
     rw [hn5] at f1;refine ⟨b,C.cp tk,fl,cur,e',rfl,fun e => c9 p hp e.symm,c3,f1,fun j u hj => by have:=f3 j u hj; rw [Nat.zero_add] at this; exact this,?_⟩;rw [flatten_cons,List.flatten_nil,append_nil] at f2;exact f2
  obtain ⟨cur,e0,hh,hl⟩:=hI.box p z hz;have hcl:cur.length = 5 * cap:=by rw [hl.1,hzl]
  have hYl:((cur.drop (5 * i)).take (5 * (rows.length - i))).length = 5 * (rows.length - i):=by rw [length_take,length_drop,hcl]; omega
  have hYr:=hl.slice (5 * i) (5 * (rows.length - i));have hYp:((z.drop (5 * i)).take (5 * (rows.length - i))).length = 5 * (rows.length - i):=by rw [length_take,length_drop,hzl]; omega
  have hil:(z.take (5 * i)).length = 5 * i:=by rw [length_take,hzl]; omega
  have hflat:(rows.take i ++ xc :: rows.drop i).flatten = z.take (5 * i) ++ xc ++ (z.drop (5 * i)).take (5 * (rows.length - i)):=by
   rw [flatten_append,flatten_cons,<- zcH rows i hR.2,<- zbS rows i hR.2,hfl,take_take,Nat.min_eq_left (by omega),drop_take,append_assoc]
   congr 3
   omega
  have hwd:∀ e ∈ rows.take i ++ xc :: rows.drop i,e.length = 5:=fun e he => by
   rcases mem_append.1 he with h | h
   ·exact hR.2 e (mem_of_mem_take h)
   ·rcases mem_cons.1 h with rfl | h
    ·exact hxl
    ·exact hR.2 e (mem_of_mem_drop h)
  by_cases hroom:rows.length + 1 <= cap
  ·refine (ins5_shift (C.bx p) rows.length cap i vb vc cur xs e0 w hh hcl hl.one hi hroom hcm hvb av ev hvh hxsl hxs hxr.one).mono ?_
   rintro e w' ⟨rfl,rfl⟩;have hw1:=zaN (C.bx p) e0 (0,0) ((cur.drop (5 * i)).take (5 * (rows.length - i))) ((i + 1) * 5) w.drew cur hh (by rw [hYl]; omega);have hw2:=zaN (C.bx p) e0 (0,0) xs (i * 5) _ _ hw1 (by rw [zb6 (by rw [hYl]; omega),hxsl,hcl]; omega);obtain ⟨s1,s2,s3,s4⟩:=zaY (C.bx p) ((cur.drop (5 * i)).take (5 * (rows.length - i))) ((i + 1) * 5) w.drew;obtain ⟨t1,t2,t3,t4⟩:=zaY (C.bx p) xs (i * 5) (w.drew.setCells (C.bx p) ((i + 1) * 5) ((cur.drop (5 * i)).take (5 * (rows.length - i))));have hrp:=zcx (zcx hl hYr ((i + 1) * 5)) hxr (i * 5)
   have hze:spl (spl z ((i + 1) * 5) ((z.drop (5 * i)).take (5 * (rows.length - i)))) (i * 5) xc = z.take (5 * i) ++ xc ++ (z.drop (5 * i)).take (5 * (rows.length - i)) ++ z.drop (5 * i + 5 + 5 * (rows.length - i)):=by
    have:=spl_before (z:=z) (X:=xc) (Y:=(z.drop (5 * i)).take (5 * (rows.length - i))) (a:=5 * i) (by rw [hYp,hxl]; omega)
    rw [hYp,hxl] at this;rw [show (i + 1) * 5 = 5 * i + 5 by omega,show i * 5 = 5 * i by omega];exact this
   rw [hze] at hrp;refine ⟨_,rfl,t2.trans s2,t3.trans s3,t4.trans s4,.inr (.inl ⟨p,_,_,_,cap,e0,hp,rfl,hroom,hcm,hw2,?_,?_,?_,hrp,?_,by rw [length_set]; exact lR,?_⟩)⟩
   ·intro T cs0 h0
    rw [hh] at h0;simp only [sI,Obj.cells.injEq] at h0;exact h0.2.1
   ·exact (t1.trans s1).symm
   ·intro k hk
    rw [zaO _ _ _ _ _ hk,zaO _ _ _ _ _ hk]; rfl
   ·refine ⟨⟨by rw [length_set]; omega,.inr ⟨p,_,cap,_,rfl,hlo,getElem?_set_self hp,?_,hroom,?_⟩⟩,hwd⟩
    ·simp only [length_append,hil,hYp,hxl,length_drop,hzl]; omega
    ·rw [hflat,zeM (by simp only [length_append,hil,hYp,hxl]; omega)]
   ·intro q hq
    exact getElem?_set_ne (by omega)
  ·refine (ins5_grow (C.bx p) rows.length cap i vb vc cur xs e0 w hh hcl hl.one hi hlc (by omega) hrl (zaq hvh) hxsl hxs hxr.one).mono ?_
   rintro e w' ⟨G,us,rfl,hG,hGm,rfl,hheap,ho,ht,hou⟩
   have hul:(cur.take (5 * i) ++ (Builtin.zeroCells z5.cells (rows.length + 1 - i)).toList ++ (Builtin.zeroCells z5.cells (G - (rows.length + 1))).toList).length = 5 * G:=by
    simp only [length_append,length_take,zfJ,hcl]; omega
   have hur:RpL C w (z.take (5 * i) ++ (Builtin.zeroCells z5.cells (rows.length + 1 - i)).toList.map PC.v ++ (Builtin.zeroCells z5.cells (G - (rows.length + 1))).toList.map PC.v) (cur.take (5 * i) ++ (Builtin.zeroCells z5.cells (rows.length + 1 - i)).toList ++ (Builtin.zeroCells z5.cells (G - (rows.length + 1))).toList):=by
    have:=hl.slice 0 (5 * i)
    exact (this.append (zeN C w _)).append (zeN C w _)
   generalize hus:cur.take (5 * i) ++ (Builtin.zeroCells z5.cells (rows.length + 1 - i)).toList ++ (Builtin.zeroCells z5.cells (G - (rows.length + 1))).toList = us at hheap hul hur
   have hzt:(z.take (5 * i) ++ (Builtin.zeroCells z5.cells (rows.length + 1 - i)).toList.map PC.v ++ (Builtin.zeroCells z5.cells (G - (rows.length + 1))).toList.map PC.v).take (5 * i) = z.take (5 * i):=by
    rw [append_assoc,take_append_of_le_length (by omega),take_of_length_le (by omega)]
   have hzl':(z.take (5 * i) ++ (Builtin.zeroCells z5.cells (rows.length + 1 - i)).toList.map PC.v ++ (Builtin.zeroCells z5.cells (G - (rows.length + 1))).toList.map PC.v).length = 5 * G:=by rw [<- hur.1]; exact hul
   generalize (z.take (5 * i) ++ (Builtin.zeroCells z5.cells (rows.length + 1 - i)).toList.map PC.v ++ (Builtin.zeroCells z5.cells (G - (rows.length + 1))).toList.map PC.v) = zz at hur hzt hzl';have hrp:=zcx (zcx hur hxr (i * 5)) hYr ((i + 1) * 5)
   have hze:spl (spl zz (i * 5) xc) ((i + 1) * 5) ((z.drop (5 * i)).take (5 * (rows.length - i))) = z.take (5 * i) ++ xc ++ (z.drop (5 * i)).take (5 * (rows.length - i)) ++ zz.drop (5 * i + 5 + 5 * (rows.length - i)):=by
    have:=zfI (z:=zz) (X:=xc) (Y:=(z.drop (5 * i)).take (5 * (rows.length - i))) (a:=5 * i) (by rw [hYp,hxl]; omega)
    rw [hYp,hxl,hzt] at this;rw [show (i + 1) * 5 = 5 * i + 5 by omega,show i * 5 = 5 * i by omega];exact this
   rw [hze] at hrp
   have hheap2:w'.heap = (w.alloc (.cells (splV (splV us (i * 5) xs) ((i + 1) * 5) ((cur.drop (5 * i)).take (5 * (rows.length - i)))).toArray 26)).heap:=by
    rw [hheap,zd1 w.heap.size _ _ _ _ (zcf w us xs (i * 5) 26 (by rw [hxsl,hul]; omega)),zcf w (splV us (i * 5) xs) _ _ _ (by rw [hYl,zb6 (by rw [hxsl,hul]; omega),hul]; omega)]
   refine ⟨_,rfl,ho,ht,hou,.inr (.inr ⟨_,_,_,G,_,rfl,hG,hGm,hheap2,hrp,?_,by simp,?_⟩)⟩
   ·refine ⟨⟨by rw [length_append]; omega,.inr ⟨bx.length,_,G,_,rfl,by omega,za0 _ _,?_,hG,?_⟩⟩,hwd⟩
    ·simp only [length_append,hil,hYp,hxl,length_drop,hzl']; omega
    ·rw [hflat,zeM (by simp only [length_append,hil,hYp,hxl]; omega)]
   ·intro q hq
    exact getElem?_append_left (by omega)
end
section
open Go.Lib (validD)
def zP:V:=.mk 0 0 0 [] []
def withI (x:V) (ins:Bool) (v:V) (s:L8):V × Bool :=
 if 0 <= kidI v s /\ ins = true /\ v.kind = 7 then (v.withK (v.kids.take (kidI v s).toNat ++ x :: v.kids.drop (kidI v s).toNat),true)
 else if 0 <= kidI v s then (v.withK (v.kids.set (kidI v s).toNat x),true)
 else if v.kind = 8 then (v.withK (v.kids ++ [.mk 5 0 0 s [],x]),true)
 else if v.kind = 7 /\ ixI s = v.kids.length then (v.withK (v.kids ++ [x]),true)
 else (zP,false)
def outI (v:V) (s:L8):V × Bool :=
 if kidI v s < 0 \/ v.kind = 9 then (zP,false)
 else if v.kind = 8 then (v.withK (v.kids.take ((kidI v s).toNat - 1) ++ v.kids.drop ((kidI v s).toNat + 1)),true)
 else (v.withK (v.kids.take (kidI v s).toNat ++ v.kids.drop ((kidI v s).toNat + 1)),true)
def turnI (f:V -> L8 -> V × Bool):V -> List (L8) -> V × Bool
 | _,[] => (zP,false)
 | v,s :: r =>
  if r = [] then f v s
  else if h:0 <= kidI v s then
   (if (turnI f (v.kids[(kidI v s).toNat]'(by have:=zaP h; omega)) r).2 = true then (v.withK (v.kids.set (kidI v s).toNat (turnI f (v.kids[(kidI v s).toNat]'(by have:=zaP h; omega)) r).1),true) else (zP,false))
  else (zP,false)
theorem zbZ (f:V -> L8 -> V × Bool) (v:V) (s:L8):turnI f v [s] = f v s:=by rw [turnI,if_pos rfl]
theorem zbx (f:V -> L8 -> V × Bool) (v:V) (s:L8) {r:List (L8)} (hr:r ≠ []) {i:Nat} (hk:kidI v s = i) (hi:i < v.kids.length):turnI f v (s :: r) = (if (turnI f v.kids[i] r).2 = true then (v.withK (v.kids.set i (turnI f v.kids[i] r).1),true) else (zP,false)):=by
 rw [turnI,if_neg hr,dif_pos (by omega)];simp only [hk,Int.toNat_natCast]
theorem zb7 (f:V -> L8 -> V × Bool) (v:V) (s:L8) {r:List (L8)} (hr:r ≠ []) (hk:¬ 0 <= kidI v s):turnI f v (s :: r) = (zP,false):=by
 rw [turnI,if_neg hr,dif_neg hk]
def Alike (p q:V × Bool):Prop:=p.2 = q.2 /\ (p.2 = true -> p.1 = q.1)
theorem Alike.of {p q:V × Bool} (h:p = q):Alike p q:=by subst h; exact ⟨rfl,fun _ => rfl⟩
theorem Alike.no {a b:V}:Alike (a,false) (b,false):=⟨rfl,fun h => Bool.noConfusion h⟩
theorem kid7 {v:V} {s:L8} (h7:v.kind = 7):kidI v s = if ixI s < v.kids.length then ixI s else -1:=by unfold kidI; rw [if_pos h7]
theorem kid8 {v:V} {s:L8} (h8:v.kind = 8):kidI v s = if 0 <= findK s v.kids 0 then findK s v.kids 0 + 1 else -1:=by
 unfold kidI findV; rw [if_neg (by omega),if_pos h8,if_pos h8]
theorem new_alike {v x:V} {s:L8} {a:Bool} (h:¬ (0 <= kidI v s /\ ¬ (a = true /\ v.kind = 7))):Alike (newS v s x a) (withI x a v s):=by
 by_cases h8:v.kind = 8
 ·have hk:¬ 0 <= kidI v s:=fun hk => h ⟨hk,fun hh => by omega⟩
  have hf:findK s v.kids 0 < 0:=by
   rw [kid8 h8] at hk
   split at hk <;> omega
  refine Alike.of ?_;unfold newS withI;rw [if_pos ⟨h8,hf⟩,if_neg (fun hh => hk hh.1),if_neg hk,if_pos h8]
 by_cases h7:v.kind = 7
 ·have hk7:=kid7 (s:=s) h7
  by_cases hk:0 <= kidI v s
  ·have ha:a = true:=Classical.byContradiction fun hn => h ⟨hk,fun hh => hn hh.1⟩
   have hlt:ixI s < v.kids.length:=by
    apply Classical.byContradiction; intro hn
    rw [if_neg hn] at hk7; omega
   rw [if_pos hlt] at hk7;refine Alike.of ?_;unfold newS withI;rw [if_neg (fun hh => h8 hh.1),if_pos ⟨h7,.inr ⟨ha,by omega,by omega⟩⟩,if_pos ⟨hk,ha,h7⟩,hk7]
  ·by_cases hl:ixI s = v.kids.length
   ·refine Alike.of ?_
    unfold newS withI;rw [if_neg (fun hh => h8 hh.1),if_pos ⟨h7,.inl hl⟩,if_neg (fun hh => hk hh.1),if_neg hk,if_neg h8,if_pos ⟨h7,hl⟩,hl,Int.toNat_natCast,take_length,drop_length]
   ·have hC:¬ (v.kind = 7 /\ (ixI s = v.kids.length \/ a = true /\ 0 <= ixI s /\ ixI s <= v.kids.length - 1)):=by
     rintro ⟨_,hh | ⟨_,h1,h2⟩⟩
     ·exact hl hh
     ·rw [if_pos (by omega)] at hk7; omega
    unfold newS withI;rw [if_neg (fun hh => h8 hh.1),if_neg hC,if_neg (fun hh => hk hh.1),if_neg hk,if_neg h8,if_neg (fun hh => hl hh.2)];exact Alike.no
 ·have hk:¬ 0 <= kidI v s:=fun hk => h ⟨hk,fun hh => h7 hh.2⟩
  unfold newS withI;rw [if_neg (fun hh => h8 hh.1),if_neg (fun hh => h7 hh.1),if_neg (fun hh => hk hh.1),if_neg hk,if_neg h8,if_neg (fun hh => h7 hh.1)];exact Alike.no
theorem zfK {v:V} {i:Nat} {p q:V × Bool} (h:Alike p q):Alike (v.withK (v.kids.set i p.1),p.2) (if q.2 = true then (v.withK (v.kids.set i q.1),true) else (zP,false)):=by
 obtain ⟨h1,h2⟩:=h
 cases hq:q.2 with
 | true =>
  have hp:p.2 = true:=by rw [h1]; exact hq
  rw [if_pos rfl,h2 hp,hp]; exact Alike.of rfl
 | false =>
  have hp:p.2 = false:=by rw [h1]; exact hq
  rw [if_neg (by decide),hp]; exact Alike.no
theorem zcK (x:V) (a:Bool):∀ (st:List (L8)) (v:V),st ≠ [] -> Alike (putS v st x a) (turnI (withI x a) v st)
 | [],v,h => absurd rfl h
 | s :: r,v,_ => by
  by_cases hr:r = []
  ·subst hr
   rw [zbZ,putS];split
   ·rename_i hh
    refine Alike.of ?_;rw [putS];unfold withI;rw [if_neg (fun k => hh.2 ⟨rfl,k.2⟩),if_pos hh.1]
   ·rename_i hh
    rw [if_pos rfl];exact new_alike fun k => hh ⟨k.1,fun q => k.2 q.2⟩
  ·by_cases hk:0 <= kidI v s
   ·have hlt:=zaP hk
    rw [zbx (i:=(kidI v s).toNat) _ v s hr (by omega) (by omega),putS,dif_pos ⟨hk,fun q => hr q.1⟩];exact zfK (zcK x a r _ hr)
   ·rw [zb7 _ v s hr hk,putS,dif_neg (fun q => hk q.1),if_neg hr]
    exact Alike.no
theorem zcY:∀ (st:List (L8)) (v:V),st ≠ [] -> Alike (lessS v st) (turnI outI v st)
 | [],v,h => absurd rfl h
 | s :: r,v,_ => by
  by_cases hr:r = []
  ·subst hr
   rw [zbZ,lessS];unfold outI;by_cases hk:0 <= kidI v s
   ·rw [dif_pos hk,if_pos rfl]
    by_cases h9:v.kind = 9
    ·rw [if_pos (show kidI v s < 0 \/ v.kind = 9 from .inr h9),decide_eq_false (fun q => q h9)]
     exact Alike.no
    ·rw [if_neg (show ¬ (kidI v s < 0 \/ v.kind = 9) from fun q => q.elim (fun q => by omega) h9),decide_eq_true h9]
     by_cases h8:v.kind = 8
     ·rw [if_pos h8,if_pos h8]; exact Alike.of rfl
     ·rw [if_neg h8,if_neg h8]; exact Alike.of rfl
   ·rw [dif_neg hk,if_pos (.inl (by omega))]
    exact Alike.no
  ·by_cases hk:0 <= kidI v s
   ·have hlt:=zaP hk
    rw [zbx (i:=(kidI v s).toNat) _ v s hr (by omega) (by omega),lessS,dif_pos hk,if_neg hr];exact zfK (zcY r _ hr)
   ·rw [zb7 _ v s hr hk,lessS,dif_neg hk]
    exact Alike.no
/-! ### steps that lead somewhere in a right value are steps -/
theorem itoa_ascii (n:Int) (h:0 <= n):∀ b ∈ Lib.itoa n,b.toNat < 128:=by
 obtain ⟨u,rfl⟩:∃ u:Nat,n = (u:Int):=⟨n.toNat,by omega⟩;rw [Lib.itoa_nonneg];intro b hb
 have:=zdd u b hb
 omega
theorem ixI_ok {s:L8} (h:0 <= ixI s):stepOk s = true:=by
 unfold ixI at h
 split at h
 ·rename_i hh
  obtain ⟨h1,h2,h3⟩:=hh;unfold rdB at h1;obtain ⟨n,hn⟩:=Option.isSome_iff_exists.1 h1;obtain ⟨_,hs⟩:=rdD_some hn;have hnn:rdN s = n:=by unfold rdN; rw [hn]
  rw [hnn] at h2 h3;have hl:=Lib.itoa_length_le n (by omega) (by omega);rw [hs] at hl;have ha:=itoa_ascii n h2;rw [hs] at ha;unfold stepOk;rw [Lib.validD_ascii s.length s (fun b hb => ha b (mem_of_mem_take hb)),drop_length,decide_eq_true (by omega)]; rfl
 ·omega
theorem zdl (key:L8):∀ (l:List V) (n:Nat),0 <= findK key l n -> ∃ j,findK key l n = ((n + 2 * j:Nat):Int) /\ ∃ h:2 * j + 1 < l.length,(l[2 * j]'(by omega)).kind = 5 /\ (l[2 * j]'(by omega)).text = key
 | [],n,h => by simp only [findK] at h; omega
 | [_],n,h => by simp only [findK] at h; omega
 | a :: b :: r,n,h => by
  simp only [findK] at h ⊢;by_cases hh:a.kind = 5 /\ a.text = key
  ·rw [if_pos hh]
   exact ⟨0,rfl,by simp,hh⟩
  ·rw [if_neg hh] at h ⊢
   obtain ⟨j,h1,h2,h3⟩:=zdl key r (n + 2) h;refine ⟨j + 1,by rw [h1]; omega,by simp only [length_cons]; omega,?_⟩;exact h3
theorem step_ok {d:Int} {v:V} {s:L8} (hv:V.rightBy pairsOk d v = true) (h:0 <= kidI v s):stepOk s = true:=by
 obtain ⟨_,_,hks,hkr⟩:=zbm hv;by_cases h7:v.kind = 7
 ·rw [kid7 h7] at h
  split at h
  ·exact ixI_ok h
  ·omega
 by_cases h8:v.kind = 8
 ·rw [kid8 h8] at h
  split at h
  ·rename_i hf
   obtain ⟨j,_,hl,h5,ht⟩:=zdl s v.kids 0 hf;have hr:=hkr _ (getElem_mem (show 2 * j < v.kids.length by omega));rw [<- ht];generalize v.kids[2 * j]'(by omega) = k at hr h5;obtain ⟨k,n,e,t,kids⟩:=k;have h5:k = 5:=h5;subst h5;simp [V.rightBy,V.selfBy] at hr;show stepOk t = true;unfold stepOk;rw [hr.2.2.2.2.1,decide_eq_true hr.2.2.2.2.2.1]; rfl
  ·omega
 unfold kidI at h;rw [if_neg h7,if_neg h8] at h
 split at h
 ·split at h
  ·rename_i hh
   rw [hh.1]; decide
  ·omega
 ·omega
theorem rgt_deep {d:Int} {v:V} (hv:V.rightBy pairsOk d v = true):0 <= d:=by
 obtain ⟨k,n,e,t,kids⟩:=v;simp only [V.rightBy,Bool.and_eq_true,decide_eq_true_eq] at hv;exact hv.2.1
theorem zeO:∀ (st:List (L8)) (w y:V) (d:Int),V.rightBy pairsOk d w = true -> atI w st = some y -> (st.length:Int) <= d /\ ∀ s ∈ st,stepOk s = true
 | [],w,y,d,hw,_ => ⟨rgt_deep hw,fun s hs => by cases hs⟩
 | s :: r,w,y,d,hw,h => by
  rw [atI] at h
  split at h
  ·rename_i hk
   have hlt:=zaP hk;have hr:=(zbm hw).2.2.2 _ (getElem_mem (show (kidI w s).toNat < w.kids.length by omega));obtain ⟨h1,h2⟩:=zeO r _ y (d - 1) hr h;refine ⟨by rw [length_cons]; omega,fun z hz => ?_⟩
   rcases mem_cons.1 hz with rfl | hz
   ·exact step_ok hw hk
   ·exact h2 z hz
  ·cases h
/-! ### what is put stands there -/
theorem zfL (key:L8) (k:V):∀ (l:List V) (j n:Nat),findK key (l.set (2 * j + 1) k) n = findK key l n
 | [],j,n => rfl
 | [a],j,n => by
  rw [set_cons_succ,List.set_nil]
 | a :: b :: r,0,n => by
  show findK key (a :: k :: r) n = _
  simp only [findK]
 | a :: b :: r,j + 1,n => by
  have ih:=zfL key k r j (n + 2);show findK key (a :: b :: r.set (2 * j + 1) k) n = _;simp only [findK];rw [ih]
theorem zfM (key:L8) (x:V):∀ (l:List V) (n:Nat),l.length % 2 = 0 -> findK key l n < 0 -> findK key (l ++ [.mk 5 0 0 key [],x]) n = ((n + l.length:Nat):Int)
 | [],n,_,_ => by
  simp only [nil_append,findK]
  rw [if_pos ⟨rfl,rfl⟩]; simp
 | [a],n,h,_ => by simp at h
 | a :: b :: r,n,h,h2 => by
  simp only [findK] at h2;simp only [cons_append,findK];by_cases hh:a.kind = 5 /\ a.text = key
  ·rw [if_pos hh] at h2; omega
  ·rw [if_neg hh] at h2 ⊢
   simp only [length_cons] at h;rw [zfM key x r (n + 2) (by omega) h2];simp only [length_cons]; omega
theorem kid_set {v k:V} {s:L8} (h:0 <= kidI v s):kidI (v.withK (v.kids.set (kidI v s).toNat k)) s = kidI v s:=by
 have hlen:(v.withK (v.kids.set (kidI v s).toNat k)).kids.length = v.kids.length:=by rw [V.withK_kids,length_set]
 by_cases h7:v.kind = 7
 ·rw [kid7 (v:=v.withK _) (s:=s) h7,hlen,<- kid7 h7]
 by_cases h8:v.kind = 8
 ·have hk:=kid8 (s:=s) h8
  rw [hk] at h
  split at h
  ·rename_i hf
   obtain ⟨j,hj,_⟩:=zdl s v.kids 0 hf;rw [if_pos hf] at hk;have e:(kidI v s).toNat = 2 * j + 1:=by omega
   rw [e,kid8 (v:=v.withK _) (s:=s) h8,V.withK_kids,zfL,<- kid8 h8]
  ·omega
 unfold kidI;have e1:(v.withK (v.kids.set (if v.kind = 7 then if ixI s < v.kids.length then ixI s else -1 else if v.kind = 8 then if 0 <= findV v s then findV v s + 1 else -1 else if v.kind = 9 then if s = [116,97,103] /\ 0 < v.kids.length then 0 else -1 else -1).toNat k)).kind = v.kind:=rfl;rw [e1,if_neg h7,if_neg h8,if_neg h7,if_neg h8];simp only [V.withK_kids,length_set]
theorem right_even {d:Int} {v:V} (hv:V.rightBy pairsOk d v = true) (h8:v.kind = 8):v.kids.length % 2 = 0 /\ v.kids.length <= 300:=by
 obtain ⟨k,n,e,t,kids⟩:=v;have h8:k = 8:=h8;subst h8;simp [V.rightBy,V.selfBy,pairsOk] at hv;exact ⟨hv.2.2.2.2.2.2.1,hv.2.2.2.2.2.2.2⟩
theorem new_at {d:Int} {v x:V} {s:L8} {a:Bool} (hv:V.rightBy pairsOk d v = true) (h:(newS v s x a).2 = true):atI (newS v s x a).1 [s] = some x:=by
 unfold newS at h ⊢
 split at h
 ·rename_i hh
  rw [if_pos hh];obtain ⟨hev,_⟩:=right_even hv hh.1
  have hk:kidI (v.withK (v.kids ++ [.mk 5 0 0 s [],x])) s = ((v.kids.length + 1:Nat):Int):=by
   rw [kid8 (v:=v.withK _) (s:=s) hh.1,V.withK_kids,zfM s x v.kids 0 hev hh.2,if_pos (by omega)]; omega
  rw [zbo (i:=v.kids.length + 1) hk (by rw [V.withK_kids,length_append]; simp),atI];simp [V.withK_kids]
 ·rename_i hn
  rw [if_neg hn]
  split at h
  ·rename_i hh
   rw [if_pos hh];obtain ⟨j,hj⟩:∃ j:Nat,ixI s = j:=⟨(ixI s).toNat,by rcases hh.2 with h | h <;> omega⟩;have hjl:j <= v.kids.length:=by rcases hh.2 with h | h <;> omega
   have hl:(v.kids.take j ++ x :: v.kids.drop j).length = v.kids.length + 1:=by simp; omega
   simp only [hj,Int.toNat_natCast]
   have hk:kidI (v.withK (v.kids.take j ++ x :: v.kids.drop j)) s = (j:Int):=by
    rw [kid7 (v:=v.withK _) (s:=s) hh.1,V.withK_kids,hl,hj,if_pos (by omega)]
   rw [zbo hk (by rw [V.withK_kids,hl]; omega),atI];simp only [V.withK_kids];rw [getElem_append_right (by rw [length_take]; omega)];simp [Nat.min_eq_left hjl]
  ·cases h
theorem put_at:∀ (st:List (L8)) (v x:V) (a:Bool) (d:Int),V.rightBy pairsOk d v = true -> (putS v st x a).2 = true -> atI (putS v st x a).1 st = some x
 | [],v,x,a,d,_,_ => by rw [putS,atI]
 | s :: r,v,x,a,d,hv,h => by
  rw [putS] at h ⊢
  split at h
  ·rename_i hh
   rw [dif_pos hh];have hlt:=zaP hh.1;have hil:(kidI v s).toNat < v.kids.length:=by omega
   have hr:=(zbm hv).2.2.2 _ (getElem_mem hil);have ih:=put_at r v.kids[(kidI v s).toNat] x a (d - 1) hr h;rw [zbo (i:=(kidI v s).toNat) (by rw [kid_set hh.1]; omega) (by rw [V.withK_kids,length_set]; exact hil)];simp only [V.withK_kids,List.getElem_set_self];exact ih
  ·rename_i hh
   rw [dif_neg hh]
   split at h
   ·rename_i hr
    subst hr;rw [if_pos rfl];exact new_at hv h
   ·cases h
/-! ### both sides alike -/
def putJ (v:V) (st:List (L8)) (x:V) (ins:Bool):V × Bool :=
 if stepsOk st = true /\ v.ok = true /\ x.ok = true /\ (if st = [] then (x,true) else turnI (withI x ins) v st).2 = true /\ (if st = [] then (x,true) else turnI (withI x ins) v st).1.ok = true then ((if st = [] then (x,true) else turnI (withI x ins) v st).1,true) else (v,false)
theorem zfN {v:V} (h:v.ok = true):V.rightBy pairsOk 12 v = true /\ v.nodes <= 300:=by
 unfold V.ok at h;simp only [Bool.and_eq_true,decide_eq_true_eq] at h;exact h
theorem zeP (v:V) (st:List (L8)) (x:V) (a:Bool):putW v st x a = putJ v st x a:=by
 have hal:Alike (putS v st x a) (if st = [] then (x,true) else turnI (withI x a) v st):=by
  by_cases h:st = []
  ·subst h; rw [if_pos rfl,putS]; exact Alike.of rfl
  ·rw [if_neg h]; exact zcK x a st v h
 unfold putW madeS putJ;generalize hq:(if st = [] then (x,true) else turnI (withI x a) v st) = q at hal;obtain ⟨h1,h2⟩:=hal;by_cases hc:((putS v st x a).2 && x.ok) = true /\ v.ok = true /\ (putS v st x a).1.ok = true
 ·have hc1:=hc.1
  rw [Bool.and_eq_true] at hc1
  have hst:stepsOk st = true:=by
   obtain ⟨h3,h4⟩:=zeO st _ x 12 (zfN hc.2.2).1 (put_at st v x a 12 (zfN hc.2.1).1 hc1.1);unfold stepsOk;rw [decide_eq_true (by omega),all_eq_true.2 h4]; rfl
  rw [if_pos hc,if_pos ⟨hst,hc.2.1,hc1.2,by rw [<- h1]; exact hc1.1,by rw [<- h2 hc1.1]; exact hc.2.2⟩,h2 hc1.1]
 ·rw [if_neg hc,if_neg]
  rintro ⟨_,g1,g2,g3,g4⟩;have h5:(putS v st x a).2 = true:=by rw [h1]; exact g3
  exact hc ⟨by rw [h5,g2]; rfl,g1,by rw [h2 h5]; exact g4⟩
end
end Go.Proofs.YtdnjinhlhohfiaaGreatDoor
