/- Part 4 of a proof: ValueOkS, PvVok, PvG3, GetHead, Sgw, PvH1M, MsgTop, PvH1, PvBl, BuildC, PvBld, ValueSame, ValueKids, Shelf, TextI, ValueNode, Region, Box, ValueIs, PvVokI, PvH2, PvH3, Head, Sum, OwnSl, Sub, ValueOwn, FmdM, FmSrt, BntM, Bent, Vl5M -/
import Derived.Test.YtdggnhnkpejciaaGreatDoorFb3
import Derived.Shelf.Unicode.ValidAny
import Derived.Shelf.Small.Wraps
import Derived.Shelf.Strings.BuilderK
import Derived.Shelf.Slices.SearchI
import Derived.Deep.AppendLies
/- Decimals of a value: the program's fits and isDec, the reference's l02Whole. -/
namespace Go.Proofs.YtdggnhnkpejciaaGreatDoor
open Go.RowKit
theorem zd0 {k:Nat} {n:Int} (h:-9223372036854775808 <= n * 10 /\ n * 10 <= 9223372036854775807):fitsN (k + 1) n = fitsN k (n * 10):=by
 show (inR _ _ _ && _) = _; rw [zaB h]; rfl
theorem fitsN_no {k:Nat} {n:Int} (h:¬ (-9223372036854775808 <= n * 10 /\ n * 10 <= 9223372036854775807)):fitsN (k + 1) n = false:=by
 show (inR _ _ _ && _) = _; rw [za4 h]; rfl
theorem tdiv10 (q:Int):Int.tdiv q 10 * 10 - 9 <= q /\ q <= Int.tdiv q 10 * 10 + 9 /\ (0 <= q -> Int.tdiv q 10 * 10 <= q) /\ (q <= 0 -> q <= Int.tdiv q 10 * 10):=by
 have h1:=Int.mul_tdiv_add_tmod q 10;have h2:=Int.tmod_lt_of_pos q (show (0:Int) < 10 by decide);have h3:-10 < Int.tmod q 10:=by have:=Int.tmod_lt_of_pos (-q) (show (0:Int) < 10 by decide); rw [Int.neg_tmod] at this; omega
 have h4:0 <= q -> 0 <= Int.tmod q 10:=fun h => Int.tmod_nonneg 10 h
 have h5:q <= 0 -> Int.tmod q 10 <= 0:=fun h => by have:=Int.tmod_nonneg 10 (show 0 <= -q by omega); rw [Int.neg_tmod] at this; omega
 refine ⟨by omega,by omega,fun h => ?_,fun h => ?_⟩
 ·have:=h4 h; omega
 ·have:=h5 h; omega
theorem wrap_no {n:Int} (h:¬ (-9223372036854775808 <= n * 10 /\ n * 10 <= 9223372036854775807)):(wrap64 (Int.tdiv (wrap64 (n * 10)) 10) != n) = true:=by
 simp only [bne_iff_ne,ne_eq];intro e;have hq:-9223372036854775808 <= wrap64 (n * 10) /\ wrap64 (n * 10) <= 9223372036854775807:=by unfold wrap64; omega
 generalize wrap64 (n * 10) = q at e hq;obtain ⟨a,b,c,d⟩:=tdiv10 q
 have:wrap64 (Int.tdiv q 10) = Int.tdiv q 10:=by unfold wrap64; omega
 rw [this] at e;subst e;by_cases h0:0 <= q
 ·have:=c h0; omega
 ·have:=d (by omega); omega
set_option maxHeartbeats 400000 in
theorem zfG (n:Int) (k:Nat) (w:World) (hn:i64ok n) (hk:k <= 1000) :
  Calls Tryz.prog 101 #[.int .i64 n,.int .i64 k] w fun e w' => e = .returned (.bool (decide (0 < k) && fitsN k n)) /\ w = w':=by
 obtain ⟨ok,hok⟩:∃ ok,fitsN k n = ok:=⟨_,rfl⟩;rw [hok];have HOK:=Lib.hid hok; clear hok
 go_enter Tryz.func101,Tryz.ntmps101
 go_wp2
 go_loopw [0,5] (fun x i wr => ∃ (j:Nat) (m:Int),j <= k /\ i = .int .i64 j /\ x = .int .i64 m /\ i64ok m /\ fitsN (k - j) m = ok /\ w = wr) (fun _ i _ => k - (intOf i).toNat)
 case atStart => exact ⟨0,n,Nat.zero_le _,rfl,rfl,hn,HOK.out,rfl⟩
 case round =>
  obtain ⟨j,m,hj,rfl,rfl,hm,hf,rfl⟩:=hrel;by_cases hlt:j < k
  ·obtain ⟨r,hr⟩:∃ r,k - j = r + 1:=⟨k - j - 1,by omega⟩
   rw [hr] at hf;have hlt':(j:Int) < k:=by omega
   by_cases hin:-9223372036854775808 <= m * 10 /\ m * 10 <= 9223372036854775807
   ·rw [zd0 hin] at hf
    have HF:=Lib.hid hf; clear hf
    go_wp2;exact ⟨⟨j + 1,m * 10,by omega,by go_num,rfl,hin,by rw [show k - (j + 1) = r by omega]; exact HF.out,trivial⟩,by simp [intOf]; omega⟩
   ·rw [fitsN_no hin] at hf
    have HF:=Lib.hid hf; clear hf
    have hw:=wrap_no hin;go_wp2;go_ret;exact ⟨by rw [<- HF.out]; simp,rfl⟩
  ·obtain rfl:j = k:=by omega
   rw [Nat.sub_self] at hf;have HF:=Lib.hid (show true = ok from hf); clear hf
   go_wp2;go_ret;exact ⟨by rw [<- HF.out]; simp,rfl⟩
def fitsR (ok:Bool) (p:Int):Value:=if ok then .tuple #[.int .i64 p,.bool true] else .tuple #[.int .i64 0,.bool false]
set_option maxHeartbeats 400000 in
theorem fits_any (n:Int) (k:Nat) (w:World) (hn:i64ok n) (hk:k <= 1000) :
  Calls Tryz.prog 106 #[.int .i64 n,.int .i64 k] w fun e w' => e = .returned (fitsR (fitsN k n) (n * 10 ^ k)) /\ w = w':=by
 obtain ⟨ok,hok⟩:∃ ok,fitsN k n = ok:=⟨_,rfl⟩;obtain ⟨p,hp⟩:∃ p,n * 10 ^ k = p:=⟨_,rfl⟩;rw [hok,hp];have HOK:=Lib.hid hok; clear hok
 have HP:=Lib.hid hp; clear hp
 go_enter Tryz.func106,Tryz.ntmps106
 go_wp2
 go_loopw [0,1] (fun x i wr => ∃ (j:Nat) (m:Int),j <= k /\ i = .int .i64 j /\ x = .int .i64 m /\ i64ok m /\ fitsN j m = ok /\ m * 10 ^ j = p /\ w = wr) (fun _ i _ => (intOf i).toNat)
 case atStart => exact ⟨k,n,Nat.le_refl _,rfl,rfl,hn,HOK.out,HP.out,rfl⟩
 case round =>
  obtain ⟨j,m,hj,rfl,rfl,hm,hf,hpp,rfl⟩:=hrel;by_cases hj0:j = 0
  ·subst hj0
   have HF:=Lib.hid (show true = ok from hf);have HPP:=Lib.hid (show m = p by simpa using hpp);clear hf hpp;go_wp2
   go_ret2
   exact ⟨by rw [<- HF.out,HPP.out]; rfl,rfl⟩
  ·obtain ⟨r,rfl⟩:∃ r,j = r + 1:=⟨j - 1,by omega⟩
   have hj1:(0:Int) < (r + 1:Nat):=by omega
   have hpp2:m * 10 * 10 ^ r = p:=by rw [<- hpp,Int.pow_succ,Int.mul_assoc,Int.mul_comm 10]
   have HPP:=Lib.hid hpp2;by_cases hm0:m = 0
   ·subst hm0
    have h0:∀ r,fitsN r 0 = true:=by intro r; induction r with
     | zero => rfl
     | succ r ih => rw [zd0 (by decide)]; exact ih
    have HF:=Lib.hid (show true = ok by rw [<- hf,h0]);have HP0:=Lib.hid (show (0:Int) = p by simpa using hpp);clear hf hpp hpp2 h0;go_wp2
    go_ret2
    exact ⟨by rw [<- HF.out,<- HP0.out]; rfl,rfl⟩
   ·have hne:(m != 0) = true:=by simpa using hm0
    by_cases hin:-9223372036854775808 <= m * 10 /\ m * 10 <= 9223372036854775807
    ·rw [zd0 hin] at hf
     have HF:=Lib.hid hf; clear hf hpp hpp2
     have g1:¬ (922337203685477580:Int) < m:=by omega
     have g2:¬ m < (-922337203685477580:Int):=by omega
     go_wp2;exact ⟨⟨r,m * 10,by omega,by go_num,rfl,hin,HF.out,HPP.out,trivial⟩,by simp [intOf]⟩
    ·rw [fitsN_no hin] at hf
     have HF:=Lib.hid hf; clear hf hpp hpp2
     by_cases g1:(922337203685477580:Int) < m
     ·go_wp2
      go_ret2
      exact ⟨by rw [<- HF.out]; rfl,rfl⟩
     ·have g2:m < (-922337203685477580:Int):=by omega
      go_wp2
      go_ret2
      exact ⟨by rw [<- HF.out]; rfl,rfl⟩
theorem decOk_e {n e:Int} (h:¬ (-20 <= e /\ e <= 20)):decOk n e = false:=by unfold decOk; rw [za4 h]; rfl
set_option maxHeartbeats 1000000 in
set_option maxRecDepth 10000 in
theorem isDec_any (x:V) (cs:List Value) (w:World) (h:Rd w x.d cs) (hwf:x.wf) :
  Calls Tryz.prog 90 #[.agg cs.toArray] w fun e w' => e = .returned (.bool (decOk x.num x.exp)) /\ Below w.heap.size w w':=by
 obtain ⟨k,n,e,s,kids,v1,rfl,rfl,hkids⟩:=V.lay h;obtain ⟨a1,c1,rfl⟩:=Rd.sl_form hkids;obtain ⟨hk,hn,he,hs,_⟩:=hwf;have H1:=Lib.hid (decOk_e (n:=n) (e:=e));show Calls _ _ _ _ fun e' w' => e' = .returned (.bool (decOk n e)) /\ _
 obtain ⟨ok,hok⟩:∃ ok,decOk n e = ok:=⟨_,rfl⟩;rw [hok];have HA:=Lib.hid ((Below.refl w.heap.size w).alloc (Nat.le_refl _) (.cells #[.int .i64 k,.int .i64 n,.int .i64 e,.string ⟨s.toArray⟩,.slice a1 (V.ds kids).length c1] 27));clear h hkids;by_cases h1:-20 <= e /\ e <= 20
 ·by_cases h2:e = 0
  ·have H:Hid (ok = false):=by show _ = _; rw [<- hok,h2]; unfold decOk; rw [zaB (by decide)]; simp
   subst h2;clear hok
   go_enter Tryz.func90,Tryz.ntmps90
   go_wp2;go_ret;exact ⟨by rw [H.out]; rfl,HA.out⟩
  ·have g2:(e == 0) = false:=by simpa using h2
   by_cases h3:-999999999999999999 <= n /\ n <= 999999999999999999
   ·by_cases h4:Int.tmod n 10 = 0
    ·have H:Hid (ok = false):=by show _ = _; rw [<- hok]; unfold decOk; rw [h4]; simp
     have g4:(Int.tmod n 10 == 0) = true:=by simpa using h4
     clear hok
     go_enter Tryz.func90,Tryz.ntmps90
     go_wp2;go_ret;exact ⟨by rw [H.out]; rfl,HA.out⟩
    ·have g4:(Int.tmod n 10 == 0) = false:=by simpa using h4
     by_cases h5:0 < e
     ·obtain ⟨j,rfl⟩:∃ j:Nat,e = j:=⟨e.toNat,by omega⟩
      have H:Hid (ok = !fitsN j n):=by show _ = _; rw [<- hok]; unfold decOk; rw [zaB h1,zaB h3]; simp [h4,show j ≠ 0 by omega,show 0 < j by omega]
      clear hok
      go_enter Tryz.func90,Tryz.ntmps90
      cases hf:fitsN j n with
      | true =>
       have HF:=Lib.hid hf; clear hf
       go_wp2_with (first | (go_at_call 47; refine (zaM _ _ _ _).mono ?_; rintro e w1 ⟨rfl,rfl⟩; first | rw [zaB h1] | rw [zaB h3]) | (go_at_call 106; refine (fits_any n j _ hn (by omega)).mono ?_; rw [HF.out]; rintro e w1 ⟨rfl,rfl⟩; simp only [fitsR,if_true]))
       go_ret
       exact ⟨by rw [H.out,HF.out]; rfl,HA.out⟩
      | false =>
       have HF:=Lib.hid hf; clear hf
       go_wp2_with (first | (go_at_call 47; refine (zaM _ _ _ _).mono ?_; rintro e w1 ⟨rfl,rfl⟩; first | rw [zaB h1] | rw [zaB h3]) | (go_at_call 106; refine (fits_any n j _ hn (by omega)).mono ?_; rw [HF.out]; rintro e w1 ⟨rfl,rfl⟩; simp only [fitsR,Bool.false_eq_true,if_false]))
       go_ret;exact ⟨by rw [H.out,HF.out]; rfl,HA.out⟩
     ·have H:Hid (ok = true):=by show _ = _; rw [<- hok]; unfold decOk; rw [zaB h1,zaB h3]; simp [h2,h4,h5]
      clear hok
      go_enter Tryz.func90,Tryz.ntmps90
      go_wp2;go_ret;exact ⟨by rw [H.out]; rfl,HA.out⟩
   ·have H:Hid (ok = false):=by show _ = _; rw [<- hok]; unfold decOk; rw [za4 h3]; simp
    clear hok
    go_enter Tryz.func90,Tryz.ntmps90
    go_wp2
    all_goals (go_ret; exact ⟨by rw [H.out]; rfl,HA.out⟩)
 ·have H:Hid (ok = false):=hok.symm.trans (H1.out h1)
  clear hok
  go_enter Tryz.func90,Tryz.ntmps90
  go_wp2
  all_goals (go_ret; exact ⟨by rw [H.out]; rfl,HA.out⟩)
end Go.Proofs.YtdggnhnkpejciaaGreatDoor
/- Whether values are keys and values by turns: the reference's l02Pairs. -/
namespace Go.Proofs.YtdggnhnkpejciaaGreatDoor
open Go.RowKit
theorem zex {α:Type} (f:V -> α) (ks:List V) (m:Nat) (h:m < ks.length):(ks.take (m + 1)).map f = (ks.take m).map f ++ [f ks[m]]:=by
 rw [List.take_succ_eq_append_getElem h,List.map_append]; rfl
theorem zd1 {α:Type} [DecidableEq α] {f:V -> α} {ks:List V} {j:Nat} (hj:j < ks.length) (h:uniq f (ks.take j) = true) (hk:isKeyK ks[j].kind = true) (hn:f ks[j] ∉ (ks.take j).map f):uniq f (ks.take (j + 1)) = true:=by
 rw [List.take_succ_eq_append_getElem hj,zdI,h,hk,decide_eq_true hn]; rfl
theorem zfH {α:Type} [DecidableEq α] {f:V -> α} {ks:List V} {j:Nat} (hj:j < ks.length) (hk:isKeyK ks[j].kind = false):uniq f ks = false:=by
 apply zfl (j + 1)
 rw [List.take_succ_eq_append_getElem hj,zdI,hk,Bool.false_and,Bool.and_false]
theorem zd2 {α:Type} [DecidableEq α] {f:V -> α} {ks:List V} {j:Nat} (hj:j < ks.length) (hn:f ks[j] ∈ (ks.take j).map f):uniq f ks = false:=by
 apply zfl (j + 1)
 rw [List.take_succ_eq_append_getElem hj,zdI,decide_eq_false (fun h => h hn),Bool.and_false,Bool.and_false]
set_option maxHeartbeats 4000000 in
set_option maxRecDepth 10000 in
theorem zfI (xs:List V) (v:Value) (w:World) (h:Rd w (.sl 5 (V.ds xs)) [v]) (hlen:xs.length <= 4294967295) :
  Calls Tryz.prog 103 #[v] w fun e w' => e = .returned (.bool (pairsOk xs)) /\ Below w.heap.size w w':=by
 obtain ⟨a,c,rfl,hg⟩:=h.values;obtain ⟨ok,hok⟩:∃ ok,pairsOk xs = ok:=⟨_,rfl⟩;rw [hok];have HOK:=Lib.hid hok; clear hok h
 obtain ⟨ks,hks⟩:∃ ks,odds xs = ks:=⟨_,rfl⟩;have hkl:ks.length = (xs.length + 1) / 2:=by rw [<- hks,za7]
 have HKG:Hid (∀ j (h1:2 * j < xs.length) (h2:j < ks.length),ks[j] = xs[2 * j]):=by
  intro j h1 h2; subst hks; exact zdm xs j h1
 have HKS:=Lib.hid hks; clear hks
 go_enter Tryz.func103,Tryz.ntmps103
 go_wp2
 go_loopw [3] (fun i wr => ∃ (j k:Nat),k = 2 * j /\ j <= ks.length /\ i = .int .i64 k /\ uniq V.mark (ks.take j) = true /\ Below w.heap.size w wr) (fun i _ => xs.length + 1 - (intOf i).toNat)
 case atStart => exact ⟨0,0,rfl,Nat.zero_le _,rfl,by simp [uniq],Below.refl _ _⟩
 case round =>
  obtain ⟨j,k,hkj,hj,rfl,hu,hbel⟩:=hrel;have HKJ:=Lib.hid hkj;have HU:=Lib.hid hu; clear hu
  by_cases hlt:k < xs.length
  ·have hjk:j < ks.length:=by omega
   have hkk:=HKG.out j (by omega) hjk;obtain ⟨_,_,b,o,rfl,hb,hcell⟩:=hg (by intro e; rw [e] at hlt; simp at hlt);have HC:=Lib.hid hcell;obtain ⟨v0,v1,v2,v3,v4,hr,d0,d1,d2,d3,d4⟩:=hcell k hlt;clear hcell;obtain ⟨xk,xn,xe,xs',xkids,y4,hx,hcs,_⟩:=V.lay hr;simp only [List.cons.injEq,and_true] at hcs;obtain ⟨rfl,rfl,rfl,rfl,rfl⟩:=hcs;have hbc:=(zbd hbel).1;have D0:=Lib.hid d0;have D1:=Lib.hid d1;have D3:=Lib.hid d3;rw [<- hbc _ _ hb] at d0 d1 d3;clear hr d2 d4;have hkx:ks[j] = .mk xk xn xe xs' xkids:=by rw [hkk,<- hx]; subst hkj; rfl
   have hi1:(0:Int) <= k:=by omega
   have hi3:(k:Int) < xs.length:=by omega
   have HX:=Lib.hid hkx;clear hbc hkk hx hkx hkj;by_cases hkey:isKeyK xk = true
   ·have HK:=Lib.hid hkey
    have hkk:(xk != 5) = false \/ ((xk != 5) = true /\ (xk != 3) = false):=by simp [isKeyK] at hkey ⊢; omega
    clear hkey
    rcases hkk with hk5 | ⟨hk5,hk3⟩
    ·go_wp2
     go_loopw [4] (fun i wr => ∃ (m r:Nat),r = 2 * m /\ m <= j /\ i = .int .i64 r /\ (V.mk xk xn xe xs' xkids).mark ∉ (ks.take m).map V.mark /\ Below w.heap.size w wr) (fun i _ => k + 1 - (intOf i).toNat)
     case atStart => exact ⟨0,0,rfl,Nat.zero_le _,rfl,by simp,hbel⟩
     case round =>
      obtain ⟨m,r,hrm,hm,rfl,hni,hbel2⟩:=hrel;have HRM:=Lib.hid hrm;have HNI:=Lib.hid hni; clear hni
      have hkj:=HKJ.out;by_cases hml:r < k
      ·have hmk:m < ks.length:=by omega
       have hmm:=HKG.out m (by omega) hmk;obtain ⟨u0,u1,u2,u3,u4,hr2,e0,e1,e2,e3,e4⟩:=HC.out r (by omega);obtain ⟨yk,yn,ye,ys,ykids,y5,hy,hcs2,_⟩:=V.lay hr2;simp only [List.cons.injEq,and_true] at hcs2;obtain ⟨rfl,rfl,rfl,rfl,rfl⟩:=hcs2;have hbc2:=(zbd hbel2).1;rw [<- hbc2 _ _ hb] at e0 e1 e3;have d0':=(hbc2 _ _ hb).trans D0.out;have d1':=(hbc2 _ _ hb).trans D1.out;have d3':=(hbc2 _ _ hb).trans D3.out;clear hr2 e2 e4 d0 d1 d3;have hky:ks[m] = .mk yk yn ye ys ykids:=by rw [hmm,<- hy]; subst hrm; rfl
       have HY:=Lib.hid hky;have hj1:(0:Int) <= r:=by omega
       have hj3:(r:Int) < xs.length:=by omega
       have hj5:(r:Int) < k:=by omega
       have hm5:m < j:=by omega
       have hr5:r + 2 < k + 3:=by omega
       clear hbc2 hmm hy hky hrm hkj;by_cases heq:yk = xk /\ yn = xn /\ ys = xs'
       ·obtain ⟨rfl,rfl,rfl⟩:=heq
        have HF:Hid (pairsOk xs = false):=by
         show _ = _; unfold pairsOk; rw [HKS.out,zd2 hjk (by
          rw [HX.out];refine List.mem_map.2 ⟨ks[m],List.mem_take_iff_getElem.2 ⟨m,by omega,rfl⟩,by rw [HY.out]; rfl⟩)]; rfl
        have g1:(yk == yk) = true:=by simp
        have g2:(yn == yn) = true:=by simp
        go_wp2
        go_quiet (fail)
        go_wp2;go_ret;exact ⟨by rw [<- HOK.out,HF.out]; rfl,by first | exact hbel2 | exact hbel2.drew | exact below_drewN hbel2 _⟩
       ·have HM:Hid ((V.mk xk xn xe xs' xkids).mark ∉ (ks.take (m + 1)).map V.mark):=by
         show _ ∉ _;rw [zex _ _ _ hmk,List.mem_append,HY.out];rintro (h | h)
         ·exact HNI.out h
         ·simp only [List.mem_singleton,V.mark,V.kind,V.num,V.text,Prod.mk.injEq] at h
          exact heq ⟨h.1.symm,h.2.1.symm,h.2.2.symm⟩
        by_cases h1:yk = xk
        ·subst h1
         have g1:(yk == yk) = true:=by simp
         by_cases h2:yn = xn
         ·subst h2
          have g2:(yn == yn) = true:=by simp
          have h3:¬ ys = xs':=fun e => heq ⟨rfl,rfl,e⟩
          have g3:(ys == xs') = false:=by simpa using h3
          clear heq h3;go_wp2
          go_quiet (fail)
          go_wp2;go_roundw
          case rel => exact ⟨m + 1,r + 2,by have:=HRM.out; omega,by omega,by go_num,HM.out,by first | exact hbel2 | exact hbel2.drew | exact below_drewN hbel2 _⟩
          case measure => simp [intOf]; omega
         ·have g2:(yn == xn) = false:=by simpa using h2
          clear heq h2;go_wp2
          go_quiet (fail)
          go_wp2;go_roundw
          case rel => exact ⟨m + 1,r + 2,by have:=HRM.out; omega,by omega,by go_num,HM.out,by first | exact hbel2 | exact hbel2.drew | exact below_drewN hbel2 _⟩
          case measure => simp [intOf]; omega
        ·have g1:(yk == xk) = false:=by simpa using h1
         clear heq h1;go_wp2
         go_quiet (fail)
         go_wp2;go_roundw
         case rel => exact ⟨m + 1,r + 2,by have:=HRM.out; omega,by omega,by go_num,HM.out,by first | exact hbel2 | exact hbel2.drew | exact below_drewN hbel2 _⟩
         case measure => simp [intOf]; omega
      ·obtain rfl:m = j:=by omega
       have HM:Hid (uniq V.mark (ks.take (m + 1)) = true):=zd1 hjk HU.out (by rw [HX.out]; exact HK.out) (by rw [HX.out]; exact HNI.out);clear hrm hkj;go_wp2;go_roundw
       case rel => exact ⟨m + 1,k + 2,by have:=HKJ.out; omega,by omega,by go_num,HM.out,hbel2⟩
       case measure => simp [intOf]; omega
    ·go_wp2
     go_loopw [4] (fun i wr => ∃ (m r:Nat),r = 2 * m /\ m <= j /\ i = .int .i64 r /\ (V.mk xk xn xe xs' xkids).mark ∉ (ks.take m).map V.mark /\ Below w.heap.size w wr) (fun i _ => k + 1 - (intOf i).toNat)
     case atStart => exact ⟨0,0,rfl,Nat.zero_le _,rfl,by simp,hbel⟩
     case round =>
      obtain ⟨m,r,hrm,hm,rfl,hni,hbel2⟩:=hrel;have HRM:=Lib.hid hrm;have HNI:=Lib.hid hni; clear hni
      have hkj:=HKJ.out;by_cases hml:r < k
      ·have hmk:m < ks.length:=by omega
       have hmm:=HKG.out m (by omega) hmk;obtain ⟨u0,u1,u2,u3,u4,hr2,e0,e1,e2,e3,e4⟩:=HC.out r (by omega);obtain ⟨yk,yn,ye,ys,ykids,y5,hy,hcs2,_⟩:=V.lay hr2;simp only [List.cons.injEq,and_true] at hcs2;obtain ⟨rfl,rfl,rfl,rfl,rfl⟩:=hcs2;have hbc2:=(zbd hbel2).1;rw [<- hbc2 _ _ hb] at e0 e1 e3;have d0':=(hbc2 _ _ hb).trans D0.out;have d1':=(hbc2 _ _ hb).trans D1.out;have d3':=(hbc2 _ _ hb).trans D3.out;clear hr2 e2 e4 d0 d1 d3;have hky:ks[m] = .mk yk yn ye ys ykids:=by rw [hmm,<- hy]; subst hrm; rfl
       have HY:=Lib.hid hky;have hj1:(0:Int) <= r:=by omega
       have hj3:(r:Int) < xs.length:=by omega
       have hj5:(r:Int) < k:=by omega
       have hm5:m < j:=by omega
       have hr5:r + 2 < k + 3:=by omega
       clear hbc2 hmm hy hky hrm hkj;by_cases heq:yk = xk /\ yn = xn /\ ys = xs'
       ·obtain ⟨rfl,rfl,rfl⟩:=heq
        have HF:Hid (pairsOk xs = false):=by
         show _ = _; unfold pairsOk; rw [HKS.out,zd2 hjk (by
          rw [HX.out];refine List.mem_map.2 ⟨ks[m],List.mem_take_iff_getElem.2 ⟨m,by omega,rfl⟩,by rw [HY.out]; rfl⟩)]; rfl
        have g1:(yk == yk) = true:=by simp
        have g2:(yn == yn) = true:=by simp
        go_wp2
        go_quiet (fail)
        go_wp2;go_ret;exact ⟨by rw [<- HOK.out,HF.out]; rfl,by first | exact hbel2 | exact hbel2.drew | exact below_drewN hbel2 _⟩
       ·have HM:Hid ((V.mk xk xn xe xs' xkids).mark ∉ (ks.take (m + 1)).map V.mark):=by
         show _ ∉ _;rw [zex _ _ _ hmk,List.mem_append,HY.out];rintro (h | h)
         ·exact HNI.out h
         ·simp only [List.mem_singleton,V.mark,V.kind,V.num,V.text,Prod.mk.injEq] at h
          exact heq ⟨h.1.symm,h.2.1.symm,h.2.2.symm⟩
        by_cases h1:yk = xk
        ·subst h1
         have g1:(yk == yk) = true:=by simp
         by_cases h2:yn = xn
         ·subst h2
          have g2:(yn == yn) = true:=by simp
          have h3:¬ ys = xs':=fun e => heq ⟨rfl,rfl,e⟩
          have g3:(ys == xs') = false:=by simpa using h3
          clear heq h3;go_wp2
          go_quiet (fail)
          go_wp2;go_roundw
          case rel => exact ⟨m + 1,r + 2,by have:=HRM.out; omega,by omega,by go_num,HM.out,by first | exact hbel2 | exact hbel2.drew | exact below_drewN hbel2 _⟩
          case measure => simp [intOf]; omega
         ·have g2:(yn == xn) = false:=by simpa using h2
          clear heq h2;go_wp2
          go_quiet (fail)
          go_wp2;go_roundw
          case rel => exact ⟨m + 1,r + 2,by have:=HRM.out; omega,by omega,by go_num,HM.out,by first | exact hbel2 | exact hbel2.drew | exact below_drewN hbel2 _⟩
          case measure => simp [intOf]; omega
        ·have g1:(yk == xk) = false:=by simpa using h1
         clear heq h1;go_wp2
         go_quiet (fail)
         go_wp2;go_roundw
         case rel => exact ⟨m + 1,r + 2,by have:=HRM.out; omega,by omega,by go_num,HM.out,by first | exact hbel2 | exact hbel2.drew | exact below_drewN hbel2 _⟩
         case measure => simp [intOf]; omega
      ·obtain rfl:m = j:=by omega
       have HM:Hid (uniq V.mark (ks.take (m + 1)) = true):=zd1 hjk HU.out (by rw [HX.out]; exact HK.out) (by rw [HX.out]; exact HNI.out);clear hrm hkj;go_wp2;go_roundw
       case rel => exact ⟨m + 1,k + 2,by have:=HKJ.out; omega,by omega,by go_num,HM.out,hbel2⟩
       case measure => simp [intOf]; omega
   ·have hk5:(xk != 5) = true:=by simp [isKeyK] at hkey ⊢; omega
    have hk3:(xk != 3) = true:=by simp [isKeyK] at hkey ⊢; omega
    have HF:Hid (pairsOk xs = false):=by
     show _ = _; unfold pairsOk; rw [HKS.out,zfH hjk (by rw [HX.out]; simpa [V.kind] using hkey)]; rfl
    clear hkey;go_wp2;go_ret;exact ⟨by rw [<- HOK.out,HF.out]; rfl,hbel⟩
  ·obtain rfl:j = ks.length:=by omega
   clear hkj;have h1:=HU.out;rw [List.take_length] at h1
   have HF:Hid (pairsOk xs = (decide (xs.length % 2 = 0) && decide (xs.length <= 300))):=by
    show _ = _; unfold pairsOk; rw [HKS.out,h1]; rfl
   clear h1;by_cases he:xs.length % 2 = 0
   ·have he':((xs.length:Int) % 2 == 0) = true:=by simp; omega
    rw [decide_eq_true he] at HF;clear he;go_wp2;go_ret;exact ⟨by rw [<- HOK.out,HF.out]; go_num,hbel⟩
   ·have he':((xs.length:Int) % 2 == 0) = false:=by simp; omega
    rw [decide_eq_false he] at HF;clear he;go_wp2;go_ret;exact ⟨by rw [<- HOK.out,HF.out]; rfl,hbel⟩
end Go.Proofs.YtdggnhnkpejciaaGreatDoor
/- When a value is right but for its kids: the reference's l02Own. -/
namespace Go.Proofs.YtdggnhnkpejciaaGreatDoor
open Go.RowKit
open Go.Lib (validD)
theorem isE (s:List UInt8):s.isEmpty = decide (s = []):=by cases s <;> simp
theorem len0 (l:List V):((l.length:Int) == 0) = decide (l = []):=by
 cases l with
 | nil => rfl
 | cons a r => simp; omega
theorem len1 (l:List V):((l.length:Int) == 1) = decide (l.length = 1):=by rw [Bool.eq_iff_iff]; simp; omega
set_option maxHeartbeats 400000 in
theorem zfJ (n e:Int) (w:World) (hn:i64ok n) (he:-1000 <= e /\ e <= 1000) :
  Calls Tryz.prog 101 #[.int .i64 n,.int .i64 e] w fun r w' => r = .returned (.bool (decide (0 < e) && fitsN e.toNat n)) /\ w = w':=by
 by_cases h:0 < e
 ·obtain ⟨k,rfl⟩:∃ k:Nat,e = k:=⟨e.toNat,by omega⟩
  refine (zfG n k w hn (by omega)).mono ?_;rintro r w' ⟨rfl,rfl⟩;exact ⟨zax (by rw [decide_eq_true (show 0 < k by omega),decide_eq_true h]; rfl),rfl⟩
 ·have H:=Lib.hid (show (decide (0 < e) && fitsN e.toNat n) = false by rw [decide_eq_false h]; rfl)
  have h2:¬ (0:Int) < e:=h
  go_enter Tryz.func101,Tryz.ntmps101
  go_wp2
  go_loopw [5] (fun i wr => i = .int .i64 0 /\ w = wr) (fun _ _ => 0)
  case atStart => exact ⟨rfl,rfl⟩
  case round =>
   obtain ⟨rfl,rfl⟩:=hrel;go_wp2;go_ret;exact ⟨by rw [H.out]; simp <;> omega,rfl⟩
set_option maxHeartbeats 4000000 in
set_option maxRecDepth 10000 in
theorem l02Own_any (x:V) (cs:List Value) (w:World) (h:Rd w x.d cs) (hwf:x.wf) (hbk:x.bulk <= 4294967295) :
  Calls Tryz.prog 83 #[.agg cs.toArray] w fun e w' => e = .returned (.bool x.self) /\ Below w.heap.size w w':=by
 obtain ⟨k,n,e,s,kids,v1,rfl,rfl,hkids⟩:=V.lay h;have hP:=Lib.hid (fun w1 (hb:Below w.heap.size w w1) => zfI kids v1 w1 (hkids.below hb) (by simp only [V.bulk] at hbk; omega));obtain ⟨a1,c1,rfl⟩:=Rd.sl_form hkids;rw [V.ds_map,List.length_map] at hP ⊢;have hsl:s.length <= 4294967295:=by simp only [V.bulk] at hbk; omega
 have hkl:kids.length <= 4294967295:=by simp only [V.bulk] at hbk; omega
 obtain ⟨hk,hn,he,_,_,_⟩:=hwf;obtain ⟨ok,hok⟩:∃ ok,V.self (.mk k n e s kids) = ok:=⟨_,rfl⟩;rw [hok];have hA:=(Below.refl w.heap.size w).alloc (Nat.le_refl _) (.cells #[.int .i64 k,.int .i64 n,.int .i64 e,.string ⟨s.toArray⟩,.slice a1 kids.length c1] 27);clear h hkids hbk;have HOK:=Lib.hid hok; clear hok
 have HA:=Lib.hid hA; clear hA; have hW0:=Lib.hid hn; clear hW0
 by_cases q7:k = 7
 ·subst q7
  go_enter Tryz.func83,Tryz.ntmps83
  go_wp2
  go_quiet (fail)
  go_wp2
  all_goals (go_ret; refine ⟨zax ?_,by first | exact below_drewN ((Below.refl _ _).alloc (Nat.le_refl _) _) _ | exact zan (below_drewN ((Below.refl _ _).alloc (Nat.le_refl _) _) _) (by assumption) (by first | exact Nat.le_refl _ | simp)⟩; rw [<- HOK.out]; simp_all [V.self,V.selfBy,isE] <;> (intros; omega))
 by_cases q0:k = 0
 ·subst q0
  go_enter Tryz.func83,Tryz.ntmps83
  go_wp2
  go_quiet (fail)
  go_wp2
  all_goals (go_ret; refine ⟨zax ?_,by first | exact below_drewN ((Below.refl _ _).alloc (Nat.le_refl _) _) _ | exact zan (below_drewN ((Below.refl _ _).alloc (Nat.le_refl _) _) _) (by assumption) (by first | exact Nat.le_refl _ | simp)⟩; rw [<- HOK.out]; simp_all [V.self,V.selfBy,len0] <;> (intros; omega))
 by_cases q1:k = 1
 ·subst q1
  go_enter Tryz.func83,Tryz.ntmps83
  go_wp2
  go_quiet (fail)
  go_wp2
  all_goals (go_ret; refine ⟨zax ?_,by first | exact below_drewN ((Below.refl _ _).alloc (Nat.le_refl _) _) _ | exact zan (below_drewN ((Below.refl _ _).alloc (Nat.le_refl _) _) _) (by assumption) (by first | exact Nat.le_refl _ | simp)⟩; rw [<- HOK.out]; simp_all [V.self,V.selfBy,len0] <;> (intros; omega))
 by_cases q2:k = 2
 ·subst q2
  go_enter Tryz.func83,Tryz.ntmps83
  go_wp2
  go_quiet (fail)
  go_wp2
  all_goals (go_ret; refine ⟨zax ?_,by first | exact below_drewN ((Below.refl _ _).alloc (Nat.le_refl _) _) _ | exact zan (below_drewN ((Below.refl _ _).alloc (Nat.le_refl _) _) _) (by assumption) (by first | exact Nat.le_refl _ | simp)⟩; rw [<- HOK.out]; simp_all [V.self,V.selfBy,len0] <;> (intros; omega))
 by_cases q3:k = 3
 ·subst q3
  go_enter Tryz.func83,Tryz.ntmps83
  go_wp2
  go_quiet (fail)
  go_wp2
  all_goals (go_ret; refine ⟨zax ?_,by first | exact below_drewN ((Below.refl _ _).alloc (Nat.le_refl _) _) _ | exact zan (below_drewN ((Below.refl _ _).alloc (Nat.le_refl _) _) _) (by assumption) (by first | exact Nat.le_refl _ | simp)⟩; rw [<- HOK.out]; simp_all [V.self,V.selfBy,len0] <;> (intros; omega))
 by_cases q6:k = 6
 ·subst q6
  by_cases hs2:s.length <= 2000
  ·skip
   go_enter Tryz.func83,Tryz.ntmps83
   go_wp2
   go_quiet (fail)
   go_wp2
   all_goals (go_ret; refine ⟨zax ?_,by first | exact below_drewN ((Below.refl _ _).alloc (Nat.le_refl _) _) _ | exact zan (below_drewN ((Below.refl _ _).alloc (Nat.le_refl _) _) _) (by assumption) (by first | exact Nat.le_refl _ | simp)⟩; rw [<- HOK.out]; simp_all [V.self,V.selfBy,len0] <;> (intros; omega))
  ·skip
   go_enter Tryz.func83,Tryz.ntmps83
   go_wp2
   go_quiet (fail)
   go_wp2
   all_goals (go_ret; refine ⟨zax ?_,by first | exact below_drewN ((Below.refl _ _).alloc (Nat.le_refl _) _) _ | exact zan (below_drewN ((Below.refl _ _).alloc (Nat.le_refl _) _) _) (by assumption) (by first | exact Nat.le_refl _ | simp)⟩; rw [<- HOK.out]; simp_all [V.self,V.selfBy] <;> (intros; omega))
 by_cases q5:k = 5
 ·subst q5
  by_cases hs2:s.length <= 2000
  ·skip
   go_enter Tryz.func83,Tryz.ntmps83
   go_wp2
   go_quiet (fail)
   go_wp2_with (go_at_call 102; refine (zdZ s _ hsl).mono ?_; rintro e1 w1 ⟨rfl,hb1⟩; have f3:w1.cell? ⟨w.heap.size,3,none⟩ = some (.string ⟨s.toArray⟩):=(by rw [(zbd hb1).1 _ _ (by simp)]; simp [go_sem]); have f4:w1.cell? ⟨w.heap.size,4,none⟩ = some (.slice a1 kids.length c1):=(by rw [(zbd hb1).1 _ _ (by simp)]; simp [go_sem]))
   all_goals (go_ret; refine ⟨zax ?_,by first | exact below_drewN ((Below.refl _ _).alloc (Nat.le_refl _) _) _ | exact zan (below_drewN ((Below.refl _ _).alloc (Nat.le_refl _) _) _) (by assumption) (by first | exact Nat.le_refl _ | simp)⟩; rw [<- HOK.out]; simp_all [V.self,V.selfBy,len0] <;> (intros; omega))
  ·skip
   go_enter Tryz.func83,Tryz.ntmps83
   go_wp2
   go_quiet (fail)
   go_wp2_with (go_at_call 102; refine (zdZ s _ hsl).mono ?_; rintro e1 w1 ⟨rfl,hb1⟩; have f3:w1.cell? ⟨w.heap.size,3,none⟩ = some (.string ⟨s.toArray⟩):=(by rw [(zbd hb1).1 _ _ (by simp)]; simp [go_sem]); have f4:w1.cell? ⟨w.heap.size,4,none⟩ = some (.slice a1 kids.length c1):=(by rw [(zbd hb1).1 _ _ (by simp)]; simp [go_sem]))
   all_goals (go_ret; refine ⟨zax ?_,by first | exact below_drewN ((Below.refl _ _).alloc (Nat.le_refl _) _) _ | exact zan (below_drewN ((Below.refl _ _).alloc (Nat.le_refl _) _) _) (by assumption) (by first | exact Nat.le_refl _ | simp)⟩; rw [<- HOK.out]; simp_all [V.self,V.selfBy] <;> (intros; omega))
 by_cases q8:k = 8
 ·subst q8
  go_enter Tryz.func83,Tryz.ntmps83
  go_wp2
  go_quiet (fail)
  go_wp2_with (go_at_call 103; refine (hP.out _ (below_drewN ((Below.refl _ _).alloc (Nat.le_refl _) _) _)).mono ?_; rintro e1 w1 ⟨rfl,hb1⟩)
  all_goals (go_ret; refine ⟨zax ?_,by first | exact below_drewN ((Below.refl _ _).alloc (Nat.le_refl _) _) _ | exact zan (below_drewN ((Below.refl _ _).alloc (Nat.le_refl _) _) _) (by assumption) (by first | exact Nat.le_refl _ | simp)⟩; rw [<- HOK.out]; simp_all [V.self,V.selfBy] <;> (intros; omega))
 by_cases q9:k = 9
 ·subst q9
  go_enter Tryz.func83,Tryz.ntmps83
  go_wp2
  go_quiet (fail)
  go_wp2_with (go_at_call 65; refine (zaF _ _ _ _).mono ?_; rintro e1 w1 ⟨rfl,rfl⟩)
  all_goals (go_ret; refine ⟨zax ?_,by first | exact below_drewN ((Below.refl _ _).alloc (Nat.le_refl _) _) _ | exact zan (below_drewN ((Below.refl _ _).alloc (Nat.le_refl _) _) _) (by assumption) (by first | exact Nat.le_refl _ | simp)⟩; rw [<- HOK.out]; simp_all [V.self,V.selfBy,len1] <;> (intros; omega))
 by_cases q4:k = 4
 ·subst q4
  by_cases g1:Int.tmod n 10 = 0
  ·have g1':(Int.tmod n 10 != 0) = false:=by simpa using g1
   have H:=Lib.hid (show ok = false by rw [<- HOK.out]; simp [V.self,V.selfBy,decOk,g1])
   go_enter Tryz.func83,Tryz.ntmps83
   go_wp2
   go_quiet (fail)
   go_wp2;go_ret;exact ⟨by rw [H.out]; rfl,below_drewN ((Below.refl _ _).alloc (Nat.le_refl _) _) _⟩
  ·have g1':(Int.tmod n 10 != 0) = true:=by simpa using g1
   by_cases g2:-20 <= e /\ e <= 20
   ·by_cases g3:e = 0
    ·subst g3
     have H:=Lib.hid (show ok = false by rw [<- HOK.out]; simp [V.self,V.selfBy,decOk])
     go_enter Tryz.func83,Tryz.ntmps83
     go_wp2
     go_quiet (fail)
     go_wp2_with (go_at_call 65; refine (zaF _ _ _ _).mono ?_; rintro e1 w1 ⟨rfl,rfl⟩)
     all_goals (go_ret; exact ⟨by rw [H.out]; rfl,below_drewN ((Below.refl _ _).alloc (Nat.le_refl _) _) _⟩)
    ·have g3':(e == 0) = false:=by simpa using g3
     by_cases g4:-999999999999999999 <= n /\ n <= 999999999999999999
     ·by_cases g5:s = []
      ·subst g5
       by_cases g6:kids = []
       ·subst g6
        have H:=Lib.hid (show ok = !(decide (0 < e) && fitsN e.toNat n) by rw [<- HOK.out]; simp [V.self,V.selfBy,decOk,zaB g2,zaB g4,g1,g3])
        go_enter Tryz.func83,Tryz.ntmps83
        go_wp2
        go_quiet (fail)
        go_wp2_with (first | (go_at_call 65; refine (zaF _ _ _ _).mono ?_; rintro e1 w1 ⟨rfl,rfl⟩; first | rw [zaB g2] | rw [zaB g4]) | (go_at_call 101; refine (zfJ n e _ hn (by omega)).mono ?_; rintro e1 w1 ⟨rfl,rfl⟩))
        go_ret;exact ⟨by rw [H.out]; simp,below_drewN ((Below.refl _ _).alloc (Nat.le_refl _) _) _⟩
       ·have H:=Lib.hid (show ok = false by rw [<- HOK.out]; simp [V.self,V.selfBy,g6])
        have g6':((kids.length:Int) == 0) = false:=by rw [len0,decide_eq_false g6]
        go_enter Tryz.func83,Tryz.ntmps83
        go_wp2
        go_quiet (fail)
        go_wp2_with (first | (go_at_call 65; refine (zaF _ _ _ _).mono ?_; rintro e1 w1 ⟨rfl,rfl⟩; first | rw [zaB g2] | rw [zaB g4]))
        go_ret;exact ⟨by rw [H.out]; rfl,below_drewN ((Below.refl _ _).alloc (Nat.le_refl _) _) _⟩
      ·have H:=Lib.hid (show ok = false by rw [<- HOK.out]; simp [V.self,V.selfBy,g5])
       have g5':s.isEmpty = false:=by rw [isE,decide_eq_false g5]
       go_enter Tryz.func83,Tryz.ntmps83
       go_wp2
       go_quiet (fail)
       go_wp2_with (first | (go_at_call 65; refine (zaF _ _ _ _).mono ?_; rintro e1 w1 ⟨rfl,rfl⟩; first | rw [zaB g2] | rw [zaB g4]))
       go_ret;exact ⟨by rw [H.out]; rfl,below_drewN ((Below.refl _ _).alloc (Nat.le_refl _) _) _⟩
     ·have H:=Lib.hid (show ok = false by rw [<- HOK.out]; simp [V.self,V.selfBy,decOk,za4 g4])
      go_enter Tryz.func83,Tryz.ntmps83
      go_wp2
      go_quiet (fail)
      go_wp2_with (first | (go_at_call 65; refine (zaF _ _ _ _).mono ?_; rintro e1 w1 ⟨rfl,rfl⟩; first | rw [za4 g4] | rw [zaB g2]))
      go_ret;exact ⟨by rw [H.out]; rfl,below_drewN ((Below.refl _ _).alloc (Nat.le_refl _) _) _⟩
   ·have H:=Lib.hid (show ok = false by rw [<- HOK.out]; simp [V.self,V.selfBy,decOk,za4 g2])
    have H2:=Lib.hid (za4 g2)
    go_enter Tryz.func83,Tryz.ntmps83
    go_wp2
    go_quiet (fail)
    go_wp2_with (go_at_call 65; refine (zaF _ _ _ _).mono ?_; rintro e1 w1 ⟨rfl,rfl⟩; try rw [H2.out])
    all_goals (go_ret; exact ⟨by rw [H.out]; rfl,below_drewN ((Below.refl _ _).alloc (Nat.le_refl _) _) _⟩)
 have H:=Lib.hid (show ok = false by rw [<- HOK.out]; simp [V.self,V.selfBy,q0,q1,q2,q3,q4,q5,q6,q7,q8,q9])
 go_enter Tryz.func83,Tryz.ntmps83
 go_wp2
 go_quiet (fail)
 go_wp2
 all_goals (go_ret; exact ⟨by rw [H.out]; rfl,below_drewN ((Below.refl _ _).alloc (Nat.le_refl _) _) _⟩)
end Go.Proofs.YtdggnhnkpejciaaGreatDoor
/- When a value is right: the reference's l02Right, Nodes and ValueOk. -/
namespace Go.Proofs.YtdggnhnkpejciaaGreatDoor
open Go.RowKit
def VRtA (n:Nat):Prop:=∀ (x:V) (cs:List Value) (d:Int) (w:World),x.nodes <= n -> Rd w x.d cs -> x.wf -> x.bulk <= 4294967295 -> -1000 <= d -> d <= 1000 ->
 Calls Tryz.prog 60 #[.agg cs.toArray,.int .i64 d] w fun e w' => e = .returned (.bool (V.rightBy pairsOk d x)) /\ Below w.heap.size w w'
theorem V.rights_false {q:List V -> Bool} {d:Int} {xs:List V} (k:Nat) (hk:k < xs.length) (h:V.rightBy q d xs[k] = false):V.rightsBy q d xs = false:=by
 rw [V.rightsBy_all]; apply Bool.eq_false_iff.2; intro hh
 rw [List.all_eq_true] at hh
 have:=hh xs[k] (List.getElem_mem hk); rw [h] at this; cases this
theorem V.rights_snoc {q:List V -> Bool} {d:Int} {xs:List V} (k:Nat) (hk:k < xs.length) (h:V.rightsBy q d (xs.take k) = true) (h2:V.rightBy q d xs[k] = true):V.rightsBy q d (xs.take (k + 1)) = true:=by
 rw [List.take_succ_eq_append_getElem hk,V.rightsBy_all,List.all_append]; rw [V.rightsBy_all] at h; rw [h]; simp [h2]
theorem V.nodes_split (xs:List V) (k:Nat) (hk:k < xs.length):V.nodess (xs.take (k + 1)) = V.nodess (xs.take k) + xs[k].nodes:=by
 rw [List.take_succ_eq_append_getElem hk]
 have hn:∀ (ls:List V) (x:V),V.nodess (ls ++ [x]) = V.nodess ls + x.nodes:=by
  intro ls x; induction ls with
  | nil => simp [V.nodess]
  | cons a ls ih => simp only [List.cons_append,V.nodess,ih]; omega
 exact hn _ _
theorem V.nodess_take:∀ (xs:List V) (k:Nat),V.nodess (xs.take k) <= V.nodess xs
 | [],k => by simp [V.nodess]
 | x :: xs,0 => by simp [V.nodess]
 | x :: xs,k + 1 => by have:=V.nodess_take xs k; simp only [List.take_succ_cons,V.nodess]; omega
mutual
theorem V.nodes_bulk:∀ x:V,x.nodes <= x.bulk + 1
 | .mk _ _ _ s kids => by have:=V.nodess_bulks kids; simp only [V.nodes,V.bulk]; omega
theorem V.nodess_bulks:∀ xs:List V,V.nodess xs <= xs.length + V.bulks xs
 | [] => by simp [V.nodess]
 | x :: xs => by have:=V.nodes_bulk x; have:=V.nodess_bulks xs; simp only [V.nodess,V.bulks,List.length_cons]; omega
end
theorem V.bulk_get' {ls:List V} {m:Nat} (h:ls.length + V.bulks ls <= m) (k:Nat) (hk:k < ls.length):ls[k].bulk <= m:=by
 have h1:=V.bulks_snoc ls k hk; have h2:=V.bulks_take ls (k + 1); omega
set_option maxHeartbeats 2000000 in
set_option maxRecDepth 10000 in
theorem VRtA_of {n:Nat} (hA:VRtA n):VRtA (n + 1):=by
 intro x cs d w hn h hwf hbk hd1 hd2;have HO:=Lib.hid (fun w1 (hb:Below w.heap.size w w1) => l02Own_any x cs w1 (h.below hb) hwf hbk);obtain ⟨k,m,e,s,kids,v1,rfl,rfl,hkids⟩:=V.lay h;have hnk:V.nodess kids <= n:=by simp only [V.nodes] at hn; omega
 have hkw:V.wfs kids:=hwf.2.2.2.2.2;have hkb:kids.length + V.bulks kids <= 4294967295:=by simp only [V.bulk] at hbk; omega
 obtain ⟨a2,c2,rfl,hg⟩:=hkids.values;obtain ⟨ok,hok⟩:∃ ok,V.rightBy pairsOk d (.mk k m e s kids) = ok:=⟨_,rfl⟩;rw [hok];have HOK:=Lib.hid hok; clear hok
 obtain ⟨W0,hW0⟩:∃ W0,W0 = w.alloc (.cells #[.int .i64 k,.int .i64 m,.int .i64 e,.string ⟨s.toArray⟩,.slice a2 kids.length c2] 27):=⟨_,rfl⟩;have HW:=Lib.hid hW0;have hA0:Below w.heap.size w W0:=by rw [hW0]; exact (Below.refl _ _).alloc (Nat.le_refl _) _
 have hz:w.heap.size < W0.heap.size:=by rw [hW0]; simp
 have KB:Hid (∀ W,Below W0.heap.size W0 W -> W.cell? ⟨w.heap.size,0,none⟩ = some (.int .i64 k) /\ W.cell? ⟨w.heap.size,1,none⟩ = some (.int .i64 m) /\ W.cell? ⟨w.heap.size,2,none⟩ = some (.int .i64 e) /\ W.cell? ⟨w.heap.size,3,none⟩ = some (.string ⟨s.toArray⟩) /\ W.cell? ⟨w.heap.size,4,none⟩ = some (.slice a2 kids.length c2)):=by
  intro W hb;obtain ⟨hc,_⟩:=zbd hb;simp only [hc _ _ hz]; subst hW0; simp
 clear hW0 h hkids hwf hbk;obtain ⟨f0,f1,f2,f3,f4⟩:=KB.out _ (Below.refl _ _);by_cases hd0:d < 0
 ·have HF:=Lib.hid (show ok = false by rw [<- HOK.out]; simp only [V.rightBy]; rw [decide_eq_false (show ¬ 0 <= d by omega)]; simp)
  go_enter Tryz.func60,Tryz.ntmps60
  go_wp2;rw [<- HW.out];go_ret;exact ⟨by rw [HF.out]; rfl,hA0⟩
 have D0:=Lib.hid (decide_eq_true (show 0 <= d by omega))
 cases hs:V.self (.mk k m e s kids) with
 | false =>
  have HS:=Lib.hid hs;have HF:=Lib.hid (show ok = false by rw [<- HOK.out]; simp only [V.rightBy]; rw [show V.selfBy pairsOk (.mk k m e s kids) = false from hs]; simp);clear hs
  go_enter Tryz.func60,Tryz.ntmps60
  go_wp2_with (go_at_call 83; rw [<- HW.out]; refine (HO.out _ hA0).mono ?_; rw [HS.out]; rintro e w1 ⟨rfl,hb1⟩)
  go_ret
  exact ⟨by rw [HF.out]; rfl,zan hA0 hb1 (Nat.le_refl _)⟩
 | true =>
 have HS:=Lib.hid hs;have HF0:=Lib.hid (show ok = V.rightsBy pairsOk (d - 1) kids by rw [<- HOK.out]; simp only [V.rightBy]; rw [show V.selfBy pairsOk (.mk k m e s kids) = true from hs,D0.out]; simp);clear hs
 go_enter Tryz.func60,Tryz.ntmps60
 go_wp2_with (go_at_call 83; rw [<- HW.out]; refine (HO.out _ hA0).mono ?_; rw [HS.out]; rintro e w1 ⟨rfl,hb1⟩)
 go_loopw [5] (fun i wr => ∃ (j:Nat),j <= kids.length /\ i = .int .i64 j /\ V.rightsBy pairsOk (d - 1) (kids.take j) = true /\ Below W0.heap.size W0 wr) (fun i _ => kids.length - (intOf i).toNat)
 case atStart => exact ⟨0,Nat.zero_le _,rfl,by simp [V.rightsBy],hb1⟩
 case round =>
  obtain ⟨j,hj,rfl,hr,hbel⟩:=hrel;have HR:=Lib.hid hr; clear hr f0 f1 f2 f3 f4
  obtain ⟨f0,f1,f2,f3,f4⟩:=KB.out _ hbel;have hbw:=zan hA0 hbel (Nat.le_refl _);by_cases hlt:j < kids.length
  ·obtain ⟨_,_,b,o,rfl,hb,hcell⟩:=hg (by intro e; rw [e] at hlt; simp at hlt)
   obtain ⟨v0,v1,v2,v3,v4,hr,d0,d1,d2,d3,d4⟩:=hcell j hlt;clear hcell hg;obtain ⟨k1,k2,k3,s4,a6,n6,m6,hcs⟩:=V.form hr;simp only [List.cons.injEq,and_true] at hcs;obtain ⟨rfl,rfl,rfl,rfl,rfl⟩:=hcs;have hbc:=(zbd hbw).1;rw [<- hbc _ _ hb] at d0 d1 d2 d3 d4;clear hbc;have hi1:(0:Int) <= j:=by omega
   have hi3:(j:Int) < kids.length:=by omega
   have hn1:=V.nodes_get kids j hlt;have HC:=Lib.hid (hA kids[j] _ (d - 1) wr (Nat.le_trans hn1 hnk) (hr.below hbw) (V.wfs_get hkw j hlt) (V.bulk_get' hkb j hlt) (by omega) (by omega))
   cases hv:V.rightBy pairsOk (d - 1) kids[j] with
   | true =>
    have HV:=Lib.hid hv;have HS2:=Lib.hid (V.rights_snoc j hlt HR.out hv);clear hv
    go_wp2_with (go_at_call 60; refine HC.out.mono ?_; rw [HV.out]; rintro e w2 ⟨rfl,hb2⟩)
    go_roundw
    case rel => exact ⟨j + 1,by omega,by go_num,HS2.out,zan hbel hb2 (Nat.le_refl _)⟩
    case measure => simp [intOf]; omega
   | false =>
    have HV:=Lib.hid hv;have HF:=Lib.hid (show ok = false by rw [HF0.out]; exact V.rights_false j hlt hv);clear hv
    go_wp2_with (go_at_call 60; refine HC.out.mono ?_; rw [HV.out]; rintro e w2 ⟨rfl,hb2⟩)
    go_ret;exact ⟨by rw [HF.out]; rfl,zan hbw hb2 (Nat.le_refl _)⟩
  ·obtain rfl:j = kids.length:=by omega
   have h1:=HR.out;rw [List.take_length] at h1;have HF:=Lib.hid (show ok = true by rw [HF0.out]; exact h1);clear h1;go_wp2;go_ret;exact ⟨by rw [HF.out]; rfl,hbw⟩
theorem VRt_all:∀ n,VRtA n
 | 0 => fun x cs d w hn => absurd x.nodes_pos (by omega)
 | n + 1 => VRtA_of (VRt_all n)
def VMnA (n:Nat):Prop:=∀ (x:V) (cs:List Value) (w:World),x.nodes <= n -> Rd w x.d cs -> x.bulk <= 4294967295 ->
 Calls Tryz.prog 61 #[.agg cs.toArray] w fun e w' => e = .returned (.int .i64 (x.nodes:Nat)) /\ Below w.heap.size w w'
set_option maxHeartbeats 2000000 in
set_option maxRecDepth 10000 in
theorem VMnA_of {n:Nat} (hA:VMnA n):VMnA (n + 1):=by
 intro x cs w hn h hbk;obtain ⟨k,m,e,s,kids,v1,rfl,rfl,hkids⟩:=V.lay h;have hnk:V.nodess kids <= n:=by simp only [V.nodes] at hn; omega
 have hkb:kids.length + V.bulks kids <= 4294967295:=by simp only [V.bulk] at hbk; omega
 have hnb:=V.nodess_bulks kids;obtain ⟨a2,c2,rfl,hg⟩:=hkids.values;obtain ⟨W0,hW0⟩:∃ W0,W0 = w.alloc (.cells #[.int .i64 k,.int .i64 m,.int .i64 e,.string ⟨s.toArray⟩,.slice a2 kids.length c2] 27):=⟨_,rfl⟩;have HW:=Lib.hid hW0;have hA0:Below w.heap.size w W0:=by rw [hW0]; exact (Below.refl _ _).alloc (Nat.le_refl _) _
 have hz:w.heap.size < W0.heap.size:=by rw [hW0]; simp
 have KB:Hid (∀ W,Below W0.heap.size W0 W -> W.cell? ⟨w.heap.size,4,none⟩ = some (.slice a2 kids.length c2)):=by
  intro W hb;obtain ⟨hc,_⟩:=zbd hb;simp only [hc _ _ hz]; subst hW0; simp
 clear hW0 h hkids hbk
 go_enter Tryz.func61,Tryz.ntmps61
 go_wp2;rw [<- HW.out]
 go_loopw [3,4] (fun x i wr => ∃ (j:Nat),j <= kids.length /\ i = .int .i64 j /\ x = .int .i64 (1 + V.nodess (kids.take j):Nat) /\ Below W0.heap.size W0 wr) (fun _ i _ => kids.length - (intOf i).toNat)
 case atStart => exact ⟨0,Nat.zero_le _,rfl,by simp [V.nodess],Below.refl _ _⟩
 case round =>
  obtain ⟨j,hj,rfl,rfl,hbel⟩:=hrel;have f5:=KB.out _ hbel;have hbw:=zan hA0 hbel (Nat.le_refl _);by_cases hlt:j < kids.length
  ·obtain ⟨_,_,b,o,rfl,hb,hcell⟩:=hg (by intro e; rw [e] at hlt; simp at hlt)
   obtain ⟨v0,v1,v2,v3,v4,hr,d0,d1,d2,d3,d4⟩:=hcell j hlt;clear hcell hg;obtain ⟨k1,k2,k3,s4,a6,n6,m6,hcs⟩:=V.form hr;simp only [List.cons.injEq,and_true] at hcs;obtain ⟨rfl,rfl,rfl,rfl,rfl⟩:=hcs;have hbc:=(zbd hbw).1;rw [<- hbc _ _ hb] at d0 d1 d2 d3 d4;clear hbc;have hi1:(0:Int) <= j:=by omega
   have hi3:(j:Int) < kids.length:=by omega
   have hn1:=V.nodes_get kids j hlt;have HC:=Lib.hid (hA kids[j] _ wr (Nat.le_trans hn1 hnk) (hr.below hbw) (V.bulk_get' hkb j hlt));have HS:=Lib.hid (V.nodes_split kids j hlt);have ht1:=V.nodess_take kids j;obtain ⟨q,hq⟩:∃ q,V.nodess (kids.take j) = q:=⟨_,rfl⟩;rw [hq] at HS ht1 ⊢;clear hq;obtain ⟨p,hp⟩:∃ p,kids[j].nodes = p:=⟨_,rfl⟩;rw [hp] at HS hn1 HC;clear hp
   go_wp2_with (go_at_call 61; refine HC.out.mono ?_; rintro e w1 ⟨rfl,hb1⟩)
   go_roundw
   case rel => exact ⟨j + 1,by omega,by go_num,by rw [HS.out]; go_num,zan hbel hb1 (Nat.le_refl _)⟩
   case measure => simp [intOf]; omega
  ·obtain rfl:j = kids.length:=by omega
   rw [List.take_length];go_wp2;go_ret;exact ⟨rfl,hbw⟩
theorem VMn_all:∀ n,VMnA n
 | 0 => fun x cs w hn => absurd x.nodes_pos (by omega)
 | n + 1 => VMnA_of (VMn_all n)
set_option maxHeartbeats 400000 in
set_option maxRecDepth 10000 in
theorem zfK (x:V) (cs:List Value) (w:World) (h:Rd w x.d cs) (hwf:x.wf) (hbk:x.bulk <= 4294967295) :
  Calls Tryz.prog 37 #[.agg cs.toArray] w fun e w' => e = .returned (.bool x.ok) /\ Below w.heap.size w w':=by
 obtain ⟨k,m,e,s,a2,n2,c2,rfl⟩:=V.form h;obtain ⟨W0,hW0⟩:∃ W0,W0 = w.alloc (.cells #[.int .i64 k,.int .i64 m,.int .i64 e,.string ⟨s.toArray⟩,.slice a2 n2 c2] 27):=⟨_,rfl⟩;have HW:=Lib.hid hW0;have hA:Below w.heap.size w W0:=by rw [hW0]; exact (Below.refl _ _).alloc (Nat.le_refl _) _
 have hz:w.heap.size < W0.heap.size:=by rw [hW0]; simp
 have KB:Hid (∀ W,Below W0.heap.size W0 W -> W.cell? ⟨w.heap.size,0,none⟩ = some (.int .i64 k) /\ W.cell? ⟨w.heap.size,1,none⟩ = some (.int .i64 m) /\ W.cell? ⟨w.heap.size,2,none⟩ = some (.int .i64 e) /\ W.cell? ⟨w.heap.size,3,none⟩ = some (.string ⟨s.toArray⟩) /\ W.cell? ⟨w.heap.size,4,none⟩ = some (.slice a2 n2 c2)):=by
  intro W hb;obtain ⟨hc,_⟩:=zbd hb;simp only [hc _ _ hz]; subst hW0; simp
 have hnb:=x.nodes_bulk;have HR:=Lib.hid (fun W (hb:Below W0.heap.size W0 W) => VRt_all x.nodes x _ 12 W (Nat.le_refl _) (h.below (zan hA hb (Nat.le_refl _))) hwf hbk (by decide) (by decide));have HM:=Lib.hid (fun W (hb:Below W0.heap.size W0 W) => VMn_all x.nodes x _ W (Nat.le_refl _) (h.below (zan hA hb (Nat.le_refl _))) hbk);have hB:=Below.refl W0.heap.size W0;clear hW0 h
 go_enter Tryz.func37,Tryz.ntmps37
 cases hr:V.rightBy pairsOk 12 x with
 | true =>
  have HV:=Lib.hid hr; clear hr
  go_wp2_with (first | (go_at_call 60; rw [<- HW.out]; refine (HR.out _ hB).mono ?_; rw [HV.out]; rintro e w1 ⟨rfl,hb1⟩; obtain ⟨p0,p1,p2,p3,p4⟩:=KB.out _ hb1) | (go_at_call 61; refine (HM.out _ hb1).mono ?_; rintro e w2 ⟨rfl,hb2⟩))
  go_ret;refine ⟨zax ?_,zan hA (zan hb1 hb2 (Nat.le_refl _)) (Nat.le_refl _)⟩
  unfold V.ok; rw [HV.out,Bool.true_and,Bool.eq_iff_iff]; simp; omega
 | false =>
  have HV:=Lib.hid hr; clear hr
  go_wp2_with (first | (go_at_call 60; rw [<- HW.out]; refine (HR.out _ hB).mono ?_; rw [HV.out]; rintro e w1 ⟨rfl,hb1⟩))
  go_ret;refine ⟨zax ?_,zan hA hb1 (Nat.le_refl _)⟩;unfold V.ok; rw [HV.out]; rfl
end Go.Proofs.YtdggnhnkpejciaaGreatDoor
namespace Go.Proofs.YtdggnhnkpejciaaGreatDoor
open Go.RowKit
set_option maxHeartbeats 4000000
set_option maxRecDepth 100000
open List
section
variable {T:World -> Prop} {hT:Low ngl T}
theorem vok_fn (v:V) (hw:v.wf) (hb:v.bulk <= 4294967295):FnV (env T hT) 37 [.ag (vC v)] (.d (pB v.ok)):=by
 refine FnV.old rfl fun w C vs hF _ _ hlen hv => ?_
 match vs,hlen with
 | [a],_ =>
  have h0:=hv 0 _ _ rfl rfl;rw [<- V.pc_eq] at h0;obtain ⟨cs,rfl,h1⟩:=vRd hF (V.wfd v) h0;exact zfK v cs w h1 hw hb
def msgTop (v:V):L8:=if v.ok = true then msg v else []
theorem putMsg_fn (v:V) (hw:v.wf) (hb:v.bulk <= 4294967295):FnV (env T hT) 38 [.ag (vC v)] (.d (pS (msgTop v))):=by
 have hput:=fun hk => put_fn (T:=T) (hT:=hT) v hw hk
 have hvok:=vok_fn (T:=T) (hT:=hT) v hw hb;refine zaX (zag zga) (by show 1 <= 8; decide) fun B hB => ?_
 unfold m_s_PutMsg;refine mO ?_;refine zbb rfl ?_;refine po_q rfl rfl ?_;refine zaa ?_;refine mM ?_;refine po_q rfl rfl ?_;refine zab (za1 v) hvok ?_;refine po_q rfl rfl ?_;refine zaa ?_;unfold msgTop;by_cases hk:v.ok = true
 ·rw [if_pos hk,hk]
  refine mwF ?_;refine zaj ?_;refine mO ?_;refine po_q rfl rfl ?_;refine zab (za1 v) (hput hk) ?_;refine po_q rfl rfl ?_;refine zaa ?_;exact mR
 ·have hk':v.ok = false:=by simpa using hk
  rw [if_neg hk,hk'];refine mwT ?_;refine mO ?_;refine po_q rfl rfl ?_;refine zaa ?_;exact mR
end
section
theorem snoc_ind {α:Type} {P:List α -> Prop} (h0:P []) (h1:∀ l a,P l -> P (l ++ [a])):∀ l,P l:=fun l => by
 have h:∀ r:List α,P r.reverse:=by
  intro r; induction r with
  | nil => exact h0
  | cons a r ih => rw [reverse_cons]; exact h1 _ _ ih
 have:=h l.reverse; rwa [reverse_reverse] at this
def valBE (l:L8):Nat:=l.foldl (fun n b => n * 256 + b.toNat) 0
theorem zcb (l:L8) (b:UInt8):valBE (l ++ [b]) = valBE l * 256 + b.toNat:=by simp [valBE]
theorem valBE_take (l:L8) (k:Nat) (h:k < l.length):valBE (l.take (k + 1)) = valBE (l.take k) * 256 + l[k].toNat:=by
 rw [zdw l k h,zcb]
theorem ze2:∀ (l:L8),valBE l < 256 ^ l.length:=by
 refine snoc_ind (by simp [valBE]) ?_
 ·intro l b ih
  rw [zcb,length_append,length_singleton,Nat.pow_succ]
  have:=b.toNat_lt; omega
theorem be_valBE:∀ (l:L8),be l.length (valBE l) = l:=by
 refine snoc_ind rfl ?_
 ·intro l b ih
  rw [zcb,length_append,length_singleton,be];have h:=b.toNat_lt;rw [show (valBE l * 256 + b.toNat) / 256 = valBE l by omega,ih]
  congr 2
  apply UInt8.toNat_inj.1; rw [zaz]; omega
theorem be_inj {k m n:Nat} (hm:m < 256 ^ k) (hn:n < 256 ^ k) (h:be k m = be k n):m = n:=by
 induction k generalizing m n with
 | zero => simp at hm hn; omega
 | succ k ih =>
  rw [be,be] at h;have h2:=append_inj h (by simp [zac]);rw [Nat.pow_succ] at hm hn;have e1:=ih (m:=m / 256) (n:=n / 256) (by omega) (by omega) h2.1;have e2:byteOf m = byteOf n:=by simpa using h2.2
  have e3:=congrArg UInt8.toNat e2;rw [zaz,zaz] at e3;omega
def anyHd (l:L8) (i:Nat):Option (Nat × Nat × Nat) :=
 match l[i]? with
 | none => none
 | some b =>
  if b.toNat % 32 < 24 then some (b.toNat / 32,b.toNat % 32,i + 1)
  else if 27 < b.toNat % 32 then none
  else if l.length < i + 1 + 2 ^ (b.toNat % 32 - 24) then none
  else some (b.toNat / 32,valBE ((l.drop (i + 1)).take (2 ^ (b.toNat % 32 - 24))),i + 1 + 2 ^ (b.toNat % 32 - 24))
def getHd (l:L8) (i:Nat):Option (Nat × Nat × Nat) :=
 match anyHd l i with
 | some (m,n,x) => if i + (hd m n).length = x then some (m,n,x) else none
 | none => none
theorem zc0 {l:L8} {i m n x:Nat} (h:anyHd l i = some (m,n,x)):i < l.length /\ i < x /\ x <= l.length /\ m <= 7 /\ n < 18446744073709551616 /\ x <= i + 9 /\
  ((hd m n = (l.drop i).take (x - i)) ↔ i + (hd m n).length = x):=by
 unfold anyHd at h
 cases hb:l[i]? with
 | none => rw [hb] at h; cases h
 | some b =>
  rw [hb] at h;obtain ⟨hi,hbe⟩:=List.getElem?_eq_some_iff.1 hb;have hlt:=b.toNat_lt;have hdrop:l.drop i = b :: l.drop (i + 1):=by rw [drop_eq_getElem_cons hi,hbe]
  simp only at h
  split at h
  ·rename_i h24
   simp only [sI,Prod.mk.injEq] at h;obtain ⟨rfl,rfl,rfl⟩:=h;refine ⟨hi,by omega,by omega,by omega,by omega,by omega,?_⟩
   have e:hd (b.toNat / 32) (b.toNat % 32) = [b]:=by
    unfold hd; rw [if_pos h24]
    show [byteOf _] = [b]
    congr 1; apply UInt8.toNat_inj.1; rw [zaz]; omega
   rw [e,hdrop,show i + 1 - i = 1 by omega]; simp
  ·split at h
   ·cases h
   ·split at h
    ·cases h
    ·rename_i h24 h27 hlen
     simp only [sI,Prod.mk.injEq] at h;obtain ⟨rfl,rfl,rfl⟩:=h;generalize hk:b.toNat % 32 - 24 = k at *;have hk4:k = 0 \/ k = 1 \/ k = 2 \/ k = 3:=by omega
     have hp:2 ^ k <= 8 /\ 1 <= 2 ^ k:=by rcases hk4 with rfl | rfl | rfl | rfl <;> decide
     generalize hxs:(l.drop (i + 1)).take (2 ^ k) = xs at *;have hxl:xs.length = 2 ^ k:=by rw [<- hxs,length_take,length_drop]; omega
     have hv:=ze2 xs;have hbv:=be_valBE xs;rw [hxl] at hv hbv;have hv64:valBE xs < 18446744073709551616:=by rcases hk4 with rfl | rfl | rfl | rfl <;> simp at hv <;> omega
     refine ⟨hi,by omega,by omega,by omega,hv64,by omega,?_⟩
     have htake:(l.drop i).take (i + 1 + 2 ^ k - i) = b :: xs:=by
      rw [hdrop,show i + 1 + 2 ^ k - i = 2 ^ k + 1 by omega,take_succ_cons,hxs]
     rw [htake]
     constructor
     ·intro e; rw [e,length_cons,hxl]; omega
     ·intro e
      have e':(hd (b.toNat / 32) (valBE xs)).length = 2 ^ k + 1:=by omega
      generalize valBE xs = v at *;have h32:b.toNat = b.toNat / 32 * 32 + (24 + k):=by omega
      have hbb:∀ c,b.toNat = b.toNat / 32 * 32 + c -> be 1 (b.toNat / 32 * 32 + c) = [b]:=by
       intro c hc; rw [<- hc]; show [byteOf _] = [b]; congr 1; apply UInt8.toNat_inj.1; rw [zaz]; omega
      unfold hd at e' ⊢
      split at e'
      ·simp [zac] at e'
      ·split at e'
       ·simp only [length_append,zac] at e'
        obtain rfl:k = 0:=by rcases hk4 with rfl | rfl | rfl | rfl <;> simp at e' ⊢
        rw [if_neg (by assumption),if_pos (by assumption),hbb 24 h32]; simp only [Nat.pow_zero] at hbv; rw [hbv]; rfl
       ·split at e'
        ·simp only [length_append,zac] at e'
         obtain rfl:k = 1:=by rcases hk4 with rfl | rfl | rfl | rfl <;> simp at e' ⊢
         rw [if_neg (by assumption),if_neg (by assumption),if_pos (by assumption),hbb 25 h32]; simp only [Nat.pow_one] at hbv; rw [hbv]; rfl
        ·split at e'
         ·simp only [length_append,zac] at e'
          obtain rfl:k = 2:=by rcases hk4 with rfl | rfl | rfl | rfl <;> simp at e' ⊢
          rw [if_neg (by assumption),if_neg (by assumption),if_neg (by assumption),if_pos (by assumption),hbb 26 h32]; simp at hbv; rw [hbv]; rfl
         ·simp only [length_append,zac] at e'
          obtain rfl:k = 3:=by rcases hk4 with rfl | rfl | rfl | rfl <;> simp at e' ⊢
          rw [if_neg (by assumption),if_neg (by assumption),if_neg (by assumption),if_neg (by assumption),hbb 27 h32]; simp at hbv; rw [hbv]; rfl
theorem zey {l:L8} {i m n x:Nat} (h:getHd l i = some (m,n,x)):i < l.length /\ i < x /\ x <= l.length /\ m <= 7 /\ n < 18446744073709551616 /\ hd m n = (l.drop i).take (x - i):=by
 unfold getHd at h
 cases ha:anyHd l i with
 | none => rw [ha] at h; cases h
 | some r =>
  obtain ⟨m',n',x'⟩:=r;rw [ha] at h;simp only at h
  split at h
  ·rename_i he
   simp only [sI,Prod.mk.injEq] at h;obtain ⟨rfl,rfl,rfl⟩:=h;obtain ⟨h1,h2,h3,h4,h5,_,h6⟩:=zc0 ha;exact ⟨h1,h2,h3,h4,h5,h6.2 he⟩
  ·cases h
def hM:Option (Nat × Nat × Nat) -> Int | some (m,_,_) => m | none => -1
def hN:Option (Nat × Nat × Nat) -> Int | some (_,n,_) => n | none => 0
def hX:Option (Nat × Nat × Nat) -> Int | some (_,_,x) => x | none => -1
def anyAt (l:L8) (i:Int):Option (Nat × Nat × Nat):=if i < 0 then none else anyHd l i.toNat
def getAt (l:L8) (i:Int):Option (Nat × Nat × Nat):=if i < 0 then none else getHd l i.toNat
def getFr (l:L8) (i:Int):Option (L8 × Nat) :=
 match getAt l i with
 | none => none
 | some (m,n,x) =>
  if m = 2 /\ n <= 100000 /\ x + n + 4 <= l.length /\ (l.drop (x + n)).take 4 = be 4 (crc ((l.drop x).take n)) then some ((l.drop x).take n,x + n + 4) else none
def fC:Option (L8 × Nat) -> L8 | some (c,_) => c | none => []
def fX:Option (L8 × Nat) -> Int | some (_,x) => x | none => -1
end
section
def sgw (n:Int) (k:Nat):Int:=if 1 <= k /\ k <= 7 then (if n % (256 ^ k:Nat) ≥ (256 ^ k / 2:Nat) then n % (256 ^ k:Nat) - (256 ^ k:Nat) else n % (256 ^ k:Nat)) else n
end
section
def m_i_PutMsg:M:=so [qo 1 (.box 0),⟨some 2,.mv (.c (.string ⟨[].toArray⟩)),none,[]⟩] (.seq (so [qL 4 5 1,qc 5 34 [4] 1,qo 6 (.not 5)] (.cond 6 (so [⟨some 2,.mv (.c (.string ⟨[].toArray⟩)),none,[]⟩] .ret) .skip)) (so [qo 3 (.zbld 73 5)] (so [qL 7 5 1,qc 8 53 [3,7] 1] (so [qc 9 54 [3] 1,qm 2 9] .ret))))
theorem zgk:look Tryz.prog 35 = some (10,m_i_PutMsg,[.tm 2]):=by kernel_rfl
def m_i_putMsg:M:=so [qo 3 (.box 1)] (.seq (so [qF 6 0 3,ql 7 1 6] (.block 0 (so [qo 9 (.bin .eql false 7 (ci 0)),qm 8 9] (.cond 8 (.ops [qm 10 0,qc 11 74 [10,.c (.int .u8 192)] 1]) (so [qo 13 (.bin .eql false 7 (ci 1)),qm 12 13] (.cond 12 (.ops [qm 14 0,qc 15 74 [14,.c (.int .u8 194)] 1]) (so [qo 17 (.bin .eql false 7 (ci 2)),qm 16 17] (.cond 16 (.ops [qm 18 0,qc 19 74 [18,.c (.int .u8 195)] 1]) (so [qo 21 (.bin .eql false 7 (ci 3)),qm 20 21] (.cond 20 (.ops [qm 22 0,qF 23 1 3,ql 24 1 23,qc 25 76 [24] 1,qc 26 75 [22,25] 1]) (so [qo 28 (.bin .eql false 7 (ci 5)),qm 27 28] (.cond 27 (.ops [qm 29 0,qF 30 3 3,ql 31 1 30,qo 32 (.lens 31),qF 34 3 3,ql 35 1 34,⟨some 33,.call 77 [32,ci 160,ci 32,ci 217,ci 218],none,[.f 0,34]⟩,qo 36 (.bin .add false 33 35),qc 37 75 [29,36] 0]) (so [qo 39 (.bin .eql false 7 (ci 6)),qm 38 39] (.cond 38 (.ops [qm 40 0,qF 41 3 3,ql 42 1 41,qo 43 (.lens 42),qF 45 3 3,ql 46 1 45,⟨some 44,.call 77 [43,ci 0,ci 0,ci 196,ci 197],none,[.f 0,45]⟩,qo 47 (.bin .add false 44 46),qc 48 75 [40,47] 0]) (so [qo 50 (.bin .eql false 7 (ci 7)),qm 49 50] (.cond 49 (.ops [qm 51 0,qF 52 4 3,ql 53 1 52,qo 54 (.len 53),qc 55 77 [54,ci 144,ci 16,ci 0,ci 220] 1,qc 56 75 [51,55] 1]) (so [qo 58 (.bin .eql false 7 (ci 8)),qm 57 58] (.cond 57 (.ops [qm 59 0,qF 60 4 3,ql 61 1 60,qo 62 (.len 61),qo 63 (.bin .quo false 62 (ci 2)),qc 64 77 [63,ci 128,ci 16,ci 0,ci 222] 1,qc 65 75 [59,64] 1]) (so [qo 67 (.bin .eql false 7 (ci 4)),qm 66 67] (.cond 66 (.tree (.node [qm 68 0,qF 71 2 3,ql 72 1 71,qF 75 1 3,ql 76 1 75] (.alt (qo 69 (.lit 1 [.c (.int .u8 199),.c (.int .u8 9),.c (.int .u8 4)])) (.node [qo 70 (.b2s 69)] (.alt ⟨some 73,.call 48 [72,ci 1],none,[.f 0,75]⟩ (.node [qo 74 (.bin .add false 70 73)] (.alt (qc 77 48 [76,ci 8] 0) (.node [qo 78 (.bin .add false 74 77)] (.alt (qc 79 75 [68,78] 0) (.node [] .leaf) .leaf)) .leaf)) .leaf)) (.alt ⟨some 73,.call 48 [72,ci 1],none,[.f 0,75]⟩ (.node [] (.alt (qo 69 (.lit 1 [.c (.int .u8 199),.c (.int .u8 9),.c (.int .u8 4)])) (.node [qo 70 (.b2s 69),qo 74 (.bin .add false 70 73)] (.alt (qc 77 48 [76,ci 8] 0) (.node [qo 78 (.bin .add false 74 77)] (.alt (qc 79 75 [68,78] 0) (.node [] .leaf) .leaf)) .leaf)) (.alt (qc 77 48 [76,ci 8] 0) (.node [] (.alt (qo 69 (.lit 1 [.c (.int .u8 199),.c (.int .u8 9),.c (.int .u8 4)])) (.node [qo 70 (.b2s 69),qo 74 (.bin .add false 70 73),qo 78 (.bin .add false 74 77)] (.alt (qc 79 75 [68,78] 0) (.node [] .leaf) .leaf)) .leaf)) .leaf))) .leaf)))) (so [qo 81 (.bin .eql false 7 (ci 9)),qm 80 81] (.cond 80 (.tree (.node [qm 82 0,qF 85 1 3,ql 86 1 85] (.alt (qo 83 (.lit 1 [.c (.int .u8 199),.c (.int .u8 4),.c (.int .u8 6)])) (.node [qo 84 (.b2s 83)] (.alt (qc 87 48 [86,ci 4] 0) (.node [qo 88 (.bin .add false 84 87)] (.alt (qc 89 75 [82,88] 0) (.node [] .leaf) .leaf)) .leaf)) (.alt (qc 87 48 [86,ci 4] 0) (.node [] (.alt (qo 83 (.lit 1 [.c (.int .u8 199),.c (.int .u8 4),.c (.int .u8 6)])) (.node [qo 84 (.b2s 83),qo 88 (.bin .add false 84 87)] (.alt (qc 89 75 [82,88] 0) (.node [] .leaf) .leaf)) .leaf)) .leaf)))) .skip)))))))))))))))))))))) (so [qF 90 4 3,ql 91 1 90,qo 92 (.len 91),qo 93 (.mv (ci 0))] (.block 1 (.loop (so [qo 94 (.bin .lss false 93 92)] (.seq (.cond 94 .skip (.exit 1)) (.seq (.block 2 (so [qo 95 (.ix 5 91 93),qL 96 5 95,⟨some 5,.zero [.int .i64 0,.int .i64 0,.int .i64 0,.string ⟨[].toArray⟩,.slice none 0 0],none,[]⟩,qS 5 5 96] (.ops [qm 97 0,qL 98 5 5,qc 99 53 [97,98] 1]))) (.ops [qo 100 (.bin .add false 93 (ci 1)),qm 93 100]))))))))
theorem zgl:look Tryz.prog 53 = some (101,m_i_putMsg,[]):=by kernel_rfl
def m_i_putNumber:M:=so [⟨some 2,.mv (.c (.string ⟨[].toArray⟩)),none,[]⟩] (.seq (so [qm 5 0,qc 6 47 [5,ci (-32),ci 127] 1] (.cond 6 (so [qm 7 0,qc 8 48 [7,ci 1] 1,qm 2 8] .ret) .skip)) (.seq (so [qo 9 (.lit 1 [ci 1,ci 2,ci 4,ci 8]),qo 10 (.len 9),qo 11 (.mv (ci 0))] (.block 0 (.loop (so [qo 12 (.bin .lss false 11 10)] (.seq (.cond 12 .skip (.exit 0)) (.seq (.block 1 (so [qm 13 11,qo 14 (.ix 1 9 11),ql 15 1 14,qm 3 13,qm 4 15] (.block 2 (so [qm 17 0,qo 18 (.bin .geq false 17 (ci 0)),qm 19 18,qg 20 4 19 true,⟨some 21,.bin .eql false 20 (ci 8),some (19,true),[]⟩,qg 22 21 19 true,qg 23 0 22 false,qg 24 4 22 false,⟨some 25,.bin .mul false (ci 8) 24,some (22,false),[]⟩,⟨some 26,.bin .shl false (ci 1) 25,some (22,false),[]⟩,⟨some 27,.bin .lss false 23 26,some (22,false),[]⟩,⟨some 28,.pick 22 (cB true) 27,some (19,true),[]⟩,qo 29 (.pick 19 28 (cB false)),qm 16 29] (.cond 16 (.seq (.tree (.node [qm 30 3,qo 31 (.bin .add false (ci 204) 30),qo 32 (.conv .u8 31),qm 35 0,qm 36 4] (.alt (qo 33 (.lit 1 [32])) (.node [qo 34 (.b2s 33)] (.alt (qc 37 48 [35,36] 0) (.node [qo 38 (.bin .add false 34 37),qm 2 38] .leaf) .leaf)) (.alt (qc 37 48 [35,36] 0) (.node [] (.alt (qo 33 (.lit 1 [32])) (.node [qo 34 (.b2s 33),qo 38 (.bin .add false 34 37),qm 2 38] .leaf) .leaf)) .leaf)))) .ret) (so [qm 40 0,qo 41 (.bin .lss false 40 (ci 0)),qm 42 41,qg 43 0 42 true,qg 44 4 42 true,⟨some 45,.call 96 [43,44],some (42,true),[.f 1]⟩,qg 46 0 42 true,⟨some 47,.bin .eql false 45 46,some (42,true),[]⟩,qo 48 (.pick 42 47 (cB false)),qm 39 48] (.cond 39 (.seq (.tree (.node [qm 49 3,qo 50 (.bin .add false (ci 208) 49),qo 51 (.conv .u8 50),qm 54 0,qm 55 4] (.alt (qo 52 (.lit 1 [51])) (.node [qo 53 (.b2s 52)] (.alt (qc 56 48 [54,55] 0) (.node [qo 57 (.bin .add false 53 56),qm 2 57] .leaf) .leaf)) (.alt (qc 56 48 [54,55] 0) (.node [] (.alt (qo 52 (.lit 1 [51])) (.node [qo 53 (.b2s 52),qo 57 (.bin .add false 53 56),qm 2 57] .leaf) .leaf)) .leaf)))) .ret) .skip))))))) (.ops [qo 58 (.bin .add false 11 (ci 1)),qm 11 58]))))))) (so [⟨some 2,.mv (.c (.string ⟨[].toArray⟩)),none,[]⟩] .ret)))
theorem zee:look Tryz.prog 76 = some (59,m_i_putNumber,[.tm 2]):=by kernel_rfl
def m_i_putLength:M:=so [⟨some 10,.mv (.c (.string ⟨[].toArray⟩)),none,[]⟩] (.seq (.block 0 (so [qm 12 0,qm 13 2,qo 14 (.bin .lss false 12 13),qm 11 14] (.cond 11 (so [qm 15 1,qm 16 0,qo 17 (.bin .add false 15 16),qo 18 (.conv .u8 17),qo 19 (.lit 1 [18]),qo 20 (.b2s 19),qm 10 20] .ret) (so [qm 22 0,qo 23 (.bin .lss false 22 (ci 256)),qm 24 23,qg 25 3 24 true,⟨some 26,.bin .gtr false 25 (ci 0),some (24,true),[]⟩,qo 27 (.pick 24 26 (cB false)),qm 21 27] (.cond 21 (.seq (.tree (.node [qm 28 3,qo 29 (.conv .u8 28),qm 32 0] (.alt (qo 30 (.lit 1 [29])) (.node [qo 31 (.b2s 30)] (.alt (qc 33 48 [32,ci 1] 0) (.node [qo 34 (.bin .add false 31 33),qm 10 34] .leaf) .leaf)) (.alt (qc 33 48 [32,ci 1] 0) (.node [] (.alt (qo 30 (.lit 1 [29])) (.node [qo 31 (.b2s 30),qo 34 (.bin .add false 31 33),qm 10 34] .leaf) .leaf)) .leaf)))) .ret) .skip))))) (.seq (.tree (.node [qm 35 4,qo 36 (.conv .u8 35),qm 39 0] (.alt (qo 37 (.lit 1 [36])) (.node [qo 38 (.b2s 37)] (.alt (qc 40 48 [39,ci 2] 0) (.node [qo 41 (.bin .add false 38 40),qm 10 41] .leaf) .leaf)) (.alt (qc 40 48 [39,ci 2] 0) (.node [] (.alt (qo 37 (.lit 1 [36])) (.node [qo 38 (.b2s 37),qo 41 (.bin .add false 38 40),qm 10 41] .leaf) .leaf)) .leaf)))) .ret))
theorem zef:look Tryz.prog 77 = some (42,m_i_putLength,[.tm 10]):=by kernel_rfl
def m_i_SignOf:M:=so [qo 4 (.mv (ci 0))] (.seq (so [qm 6 1,qc 7 47 [6,ci 1,ci 8] 1,qo 8 (.not 7)] (.cond 8 (so [qm 9 0,qm 4 9] .ret) .skip)) (so [qm 10 1,qo 11 (.bin .mul false (ci 8) 10),qo 12 (.bin .sub false (ci 64) 11),qm 5 12] (so [qm 13 0,qm 14 5,qo 15 (.bin .shl false 13 14),qm 16 5,qo 17 (.bin .shr false 15 16),qm 4 17] .ret)))
theorem zgm:look Tryz.prog 96 = some (18,m_i_SignOf,[.tm 4]):=by kernel_rfl
end
section
inductive MsgTop:V -> Nat -> List UInt8 -> Prop where
 | pos (n:Nat) (h:n < 128):MsgTop (.mk 3 n 0 [] []) n []
 | neg (n:Nat) (h:224 <= n /\ n < 256):MsgTop (.mk 3 ((n:Int) - 256) 0 [] []) n []
 | map (n:Nat) (h:n < 16) (kids:List V) (hl:kids.length = 2 * n):MsgTop (.mk 8 0 0 [] kids) (128 + n) (msgs kids)
 | list (kids:List V) (h:kids.length < 16):MsgTop (.mk 7 0 0 [] kids) (144 + kids.length) (msgs kids)
 | text (s:List UInt8) (h:s.length < 32):MsgTop (.mk 5 0 0 s []) (160 + s.length) s
 | nul:MsgTop (.mk 0 0 0 [] []) 192 []
 | fls:MsgTop (.mk 1 0 0 [] []) 194 []
 | tru:MsgTop (.mk 2 0 0 [] []) 195 []
 | uint (j:Nat) (hj:j < 4) (n:Nat) (h:n < 256 ^ (2 ^ j) /\ n < 9223372036854775808):MsgTop (.mk 3 n 0 [] []) (204 + j) (be (2 ^ j) n)
 | sint (j:Nat) (hj:j < 4) (n:Int) (h:n < 0 /\ -(2 ^ (8 * 2 ^ j - 1):Nat) <= n):MsgTop (.mk 3 n 0 [] []) (208 + j) (be (2 ^ j) (lo64 n))
 | dec (n e:Int) (h:-20 <= e /\ e <= 20) (hn:-999999999999999999 <= n /\ n <= 999999999999999999):MsgTop (.mk 4 n e [] []) 199 ([9,4] ++ be 1 (lo64 e) ++ be 8 (lo64 n))
 | tag (n:Nat) (h:n <= 1000000) (kid:V):MsgTop (.mk 9 n 0 [] [kid]) 199 ([4,6] ++ be 4 n ++ msg kid)
 | text1 (s:List UInt8) (h:32 <= s.length /\ s.length < 256):MsgTop (.mk 5 0 0 s []) 217 (be 1 s.length ++ s)
 | text2 (s:List UInt8) (h:256 <= s.length /\ s.length <= 2000):MsgTop (.mk 5 0 0 s []) 218 (be 2 s.length ++ s)
 | bytes1 (s:List UInt8) (h:s.length < 256):MsgTop (.mk 6 0 0 s []) 196 (be 1 s.length ++ s)
 | bytes2 (s:List UInt8) (h:256 <= s.length /\ s.length <= 2000):MsgTop (.mk 6 0 0 s []) 197 (be 2 s.length ++ s)
 | list2 (kids:List V) (h:16 <= kids.length /\ kids.length <= 600):MsgTop (.mk 7 0 0 [] kids) 220 (be 2 kids.length ++ msgs kids)
 | map2 (n:Nat) (h:16 <= n /\ n <= 300) (kids:List V) (hl:kids.length = 2 * n):MsgTop (.mk 8 0 0 [] kids) 222 (be 2 n ++ msgs kids)
theorem inR_iff {n a b:Int}:inR n a b = true ↔ a <= n /\ n <= b:=by simp [inR]
theorem be1 (n:Nat):be 1 n = [byteOf n]:=rfl
theorem msg_top {d:Int} {v:V} (h:v.rightBy pairsOk d = true) (hk:v.kids.length <= 300) (hnum:i64ok v.num):∃ b t,MsgTop v b t /\ b < 256 /\ msg v = byteOf b :: t:=by
 obtain ⟨k,n,e,s,kids⟩:=v;simp only [V.kids] at hk;simp only [V.num,i64ok] at hnum;simp only [V.rightBy,Bool.and_eq_true] at h;have hs:=h.2.2;clear h;rw [zdV];unfold msgHd;simp only [V.kind,V.num,V.exp,V.text,V.kids];simp only [V.selfBy] at hs;by_cases k0:k = 0
 ·subst k0; simp at hs; obtain ⟨rfl,rfl,rfl,rfl⟩:=hs
  exact ⟨192,[],.nul,by decide,rfl⟩
 by_cases k1:k = 1
 ·subst k1; simp at hs; obtain ⟨rfl,rfl,rfl,rfl⟩:=hs
  exact ⟨194,[],.fls,by decide,rfl⟩
 by_cases k2:k = 2
 ·subst k2; simp at hs; obtain ⟨rfl,rfl,rfl,rfl⟩:=hs
  exact ⟨195,[],.tru,by decide,rfl⟩
 rw [if_neg (show ¬ (k = 0 \/ k = 1 \/ k = 2) by omega)] at hs;simp only [k0,k1,k2,if_false];by_cases k3:k = 3
 ·subst k3; simp at hs; obtain ⟨rfl,rfl,rfl⟩:=hs
  simp only [if_true,msgs,append_nil];unfold msgInt;by_cases c0:-32 <= n /\ n <= 127
  ·rw [if_pos c0,be1]
   by_cases hp:0 <= n
   ·obtain ⟨m,rfl⟩:=Int.eq_ofNat_of_zero_le hp
    rw [zbl _ (by omega)];exact ⟨m,[],.pos m (by omega),by omega,rfl⟩
   ·refine ⟨(n + 256).toNat,[],?_,by omega,?_⟩
    ·have:=MsgTop.neg (n + 256).toNat (by omega)
     rw [show (((n + 256).toNat:Nat):Int) - 256 = n by omega] at this; exact this
    ·congr 1; apply UInt8.toNat_inj.1; rw [zaz,zaz]; unfold lo64; omega
  rw [if_neg c0];by_cases hp:0 <= n
  ·obtain ⟨m,rfl⟩:=Int.eq_ofNat_of_zero_le hp
   rw [zbl _ (by omega)];by_cases c1:0 <= (m:Int) /\ (m:Int) <= 255
   ·rw [if_pos c1]; exact ⟨204,_,.uint 0 (by decide) m ⟨by simp; omega,by omega⟩,by decide,rfl⟩
   rw [if_neg c1];by_cases c2:0 <= (m:Int) /\ (m:Int) <= 65535
   ·rw [if_pos c2]; exact ⟨205,_,.uint 1 (by decide) m ⟨by simp; omega,by omega⟩,by decide,rfl⟩
   rw [if_neg c2];by_cases c3:0 <= (m:Int) /\ (m:Int) <= 4294967295
   ·rw [if_pos c3]; exact ⟨206,_,.uint 2 (by decide) m ⟨by simp; omega,by omega⟩,by decide,rfl⟩
   rw [if_neg c3,if_pos hp]; exact ⟨207,_,.uint 3 (by decide) m ⟨by simp; omega,by omega⟩,by decide,rfl⟩
  ·rw [if_neg (by omega),if_neg (by omega),if_neg (by omega),if_neg (by omega)]
   by_cases c1:n ≥ -128
   ·rw [if_pos c1]; exact ⟨208,_,.sint 0 (by decide) n ⟨by omega,by simp; omega⟩,by decide,rfl⟩
   rw [if_neg c1];by_cases c2:n ≥ -32768
   ·rw [if_pos c2]; exact ⟨209,_,.sint 1 (by decide) n ⟨by omega,by simp; omega⟩,by decide,rfl⟩
   rw [if_neg c2];by_cases c3:n ≥ -2147483648
   ·rw [if_pos c3]; exact ⟨210,_,.sint 2 (by decide) n ⟨by omega,by simp; omega⟩,by decide,rfl⟩
   rw [if_neg c3]; exact ⟨211,_,.sint 3 (by decide) n ⟨by omega,by simp; omega⟩,by decide,rfl⟩
 simp only [k3,if_false] at hs ⊢;by_cases k4:k = 4
 ·subst k4; simp [decOk] at hs; obtain ⟨⟨⟨h1,_,h2,_⟩,_⟩,rfl,rfl⟩:=hs
  have h1:=inR_iff.1 h1; have h2:=inR_iff.1 h2
  simp only [if_true,msgs,append_nil];exact ⟨199,_,.dec n e h1 h2,by decide,rfl⟩
 simp only [k4,if_false] at hs ⊢;by_cases k5:k = 5
 ·subst k5; simp at hs; obtain ⟨rfl,rfl,_,h2,rfl⟩:=hs
  simp only [if_true,msgs,append_nil];unfold msgMany;by_cases c0:(s.length:Int) < 32
  ·rw [if_pos c0,be1]
   refine ⟨160 + s.length,s,.text s (by omega),by omega,?_⟩;simp only [cons_append,nil_append,cons.injEq,and_true]
   congr 1; unfold lo64; omega
  rw [if_neg c0];by_cases c1:(s.length:Int) < 256 /\ (217:Int) > 0
  ·rw [if_pos c1,zbl _ (by omega)]; exact ⟨217,_,.text1 s (by omega),by decide,rfl⟩
  rw [if_neg c1,zbl _ (by omega)]; exact ⟨218,_,.text2 s (by omega),by decide,rfl⟩
 simp only [k5,if_false] at hs ⊢;by_cases k6:k = 6
 ·subst k6; simp at hs; obtain ⟨rfl,rfl,h2,rfl⟩:=hs
  simp only [if_true,msgs,append_nil];unfold msgMany;rw [if_neg (by omega)];by_cases c1:(s.length:Int) < 256 /\ (196:Int) > 0
  ·rw [if_pos c1,zbl _ (by omega)]; exact ⟨196,_,.bytes1 s (by omega),by decide,rfl⟩
  rw [if_neg c1,zbl _ (by omega)]; exact ⟨197,_,.bytes2 s (by omega),by decide,rfl⟩
 simp only [k6,if_false] at hs ⊢;by_cases k7:k = 7
 ·subst k7; simp at hs; obtain ⟨rfl,rfl,rfl⟩:=hs
  simp only [if_true];unfold msgMany;by_cases c0:(kids.length:Int) < 16
  ·rw [if_pos c0,be1]
   refine ⟨144 + kids.length,_,.list kids (by omega),by omega,?_⟩;simp only [cons_append,nil_append,cons.injEq,and_true]
   congr 1; unfold lo64; omega
  rw [if_neg c0,if_neg (by omega),zbl _ (by omega)]; exact ⟨220,_,.list2 kids (by omega),by decide,rfl⟩
 simp only [k7,if_false] at hs ⊢;by_cases k8:k = 8
 ·subst k8; simp at hs; obtain ⟨rfl,rfl,rfl,hp⟩:=hs
  simp only [pairsOk,Bool.and_eq_true,decide_eq_true_eq] at hp;obtain ⟨n,hn⟩:∃ n,kids.length = 2 * n:=⟨kids.length / 2,by omega⟩;simp only [if_true];rw [show kids.length / 2 = n by omega];unfold msgMany;by_cases c0:(n:Int) < 16
  ·rw [if_pos c0,be1]
   refine ⟨128 + n,_,.map n (by omega) kids hn,by omega,?_⟩;simp only [cons_append,nil_append,cons.injEq,and_true]
   congr 1; unfold lo64; omega
  rw [if_neg c0,if_neg (by omega),zbl _ (by omega)]; exact ⟨222,_,.map2 n (by omega) kids hn,by decide,rfl⟩
 simp only [k8,if_false] at hs ⊢;by_cases k9:k = 9
 ·subst k9; simp at hs; obtain ⟨h1,rfl,rfl,h2⟩:=hs
  have h1:=inR_iff.1 h1;obtain ⟨m,rfl⟩:=Int.eq_ofNat_of_zero_le h1.1
  match kids,h2 with
  | [kid],_ =>
   rw [zbl _ (by omega)];refine ⟨199,_,.tag m (by omega) kid,by decide,?_⟩;simp [msgs]; rfl
 ·rw [if_neg k9] at hs; cases hs
end
section
variable {T:World -> Prop} {hT:Low ngl T}
attribute [local irreducible] po mw pt
theorem pS_inv {C:Cx} {W:World} {l:L8} {y:Value} (h:RpV C W (.d (pS l)) y):y = .string ⟨l.toArray⟩:=by
 cases h with
 | d _ _ h => cases h; rfl
theorem zfL (n a b:Int):FnV (env T hT) 47 [.d (pI n),.d (pI a),.d (pI b)] (.d (pB (decide (a <= n /\ n <= b)))):=by
 refine FnV.old rfl fun w C vs hF _ _ hlen hv => ?_
 match vs,hlen with
 | [x,y,z],_ =>
  have h1:=zcI (hv 0 _ _ rfl rfl); have h2:=zcI (hv 1 _ _ rfl rfl); have h3:=zcI (hv 2 _ _ rfl rfl)
  subst h1; subst h2; subst h3
  refine (zaM n a b w).mono ?_;rintro e w' ⟨rfl,rfl⟩;refine ⟨?_,Below.refl _ _⟩;by_cases h:a <= n /\ n <= b
  ·rw [zaB h,decide_eq_true h]
  ·rw [za4 h,decide_eq_false h]
theorem zgn (n k:Int) (hk:1 <= k /\ k <= 8) (hn:i64ok n):FnV (env T hT) 48 [.d (pI n),.d (pI k)] (.d (pS (be k.toNat (lo64 n)))):=by
 refine FnV.old rfl fun w C vs hF _ _ hlen hv => ?_
 match vs,hlen with
 | [x,y],_ =>
  have h1:=zcI (hv 0 _ _ rfl rfl); have h2:=zcI (hv 1 _ _ rfl rfl)
  subst h1; subst h2
  exact zdW n k w hk hn
theorem po_shl {E:Env} {K:St -> Prop} {tm:Nat -> PV} {bx:LP PC} {nt d:Nat} {live:List Nat} {r:List MOpr} {g:Option (Nat × Bool)} {c:List X} {x y:X} {a b n:Int} (hg:gd g tm = some true) (hx:ev tm x = .d (pI a)) (hy:ev tm y = .d (pI b)) (hb:0 <= b) (hn:IntKind.wrap .i64 (a * 2 ^ (min b.toNat 64)) = n) (h:po E r K ⟨up d (.d (pI n)) tm,bx,nt,live⟩):po E (⟨some d,.bin .shl false x y,g,c⟩ :: r) K ⟨tm,bx,nt,live⟩:=by
 refine po_q hg ?_ h;subst hn;simp only [qf,hx,hy,pI];show Option.map _ (if b < 0 then none else some (Value.int .i64 (IntKind.wrap .i64 (a * 2 ^ (min b.toNat 64))))) = _;rw [if_neg (by omega)]; rfl
theorem zbz (a:Int) (b:Int) (hb:0 < b):a.fdiv b = a / b:=Int.fdiv_eq_ediv_of_nonneg a (by omega)
theorem shsh (n:Int) (k:Nat) (hk:1 <= k /\ k <= 8) (hn:i64ok n):(IntKind.wrap .i64 (n * 2 ^ (min (64 - 8 * (k:Int)).toNat IntKind.i64.bits))).fdiv (2 ^ (min (64 - 8 * (k:Int)).toNat IntKind.i64.bits)) = sgw n k:=by
 have hb:IntKind.i64.bits = 64:=rfl;obtain ⟨hn1,hn2⟩:=hn;have hc:k = 1 \/ k = 2 \/ k = 3 \/ k = 4 \/ k = 5 \/ k = 6 \/ k = 7 \/ k = 8:=by omega
 rw [hb]
 rcases hc with rfl | rfl | rfl | rfl | rfl | rfl | rfl | rfl
 ·rw [show (2:Int) ^ (min (64 - 8 * ((1:Nat):Int)).toNat 64) = 72057594037927936 from rfl,zbz _ _ (by decide),IntKind.wrap_i64]
  unfold sgw;rw [if_pos (by decide),show ((256 ^ 1:Nat):Int) = 256 from rfl,show ((256 ^ 1 / 2:Nat):Int) = 128 from rfl]
  split <;> omega
 ·rw [show (2:Int) ^ (min (64 - 8 * ((2:Nat):Int)).toNat 64) = 281474976710656 from rfl,zbz _ _ (by decide),IntKind.wrap_i64]
  unfold sgw;rw [if_pos (by decide),show ((256 ^ 2:Nat):Int) = 65536 from rfl,show ((256 ^ 2 / 2:Nat):Int) = 32768 from rfl]
  split <;> omega
 ·rw [show (2:Int) ^ (min (64 - 8 * ((3:Nat):Int)).toNat 64) = 1099511627776 from rfl,zbz _ _ (by decide),IntKind.wrap_i64]
  unfold sgw;rw [if_pos (by decide),show ((256 ^ 3:Nat):Int) = 16777216 from rfl,show ((256 ^ 3 / 2:Nat):Int) = 8388608 from rfl]
  split <;> omega
 ·rw [show (2:Int) ^ (min (64 - 8 * ((4:Nat):Int)).toNat 64) = 4294967296 from rfl,zbz _ _ (by decide),IntKind.wrap_i64]
  unfold sgw;rw [if_pos (by decide),show ((256 ^ 4:Nat):Int) = 4294967296 from rfl,show ((256 ^ 4 / 2:Nat):Int) = 2147483648 from rfl]
  split <;> omega
 ·rw [show (2:Int) ^ (min (64 - 8 * ((5:Nat):Int)).toNat 64) = 16777216 from rfl,zbz _ _ (by decide),IntKind.wrap_i64]
  unfold sgw;rw [if_pos (by decide),show ((256 ^ 5:Nat):Int) = 1099511627776 from rfl,show ((256 ^ 5 / 2:Nat):Int) = 549755813888 from rfl]
  split <;> omega
 ·rw [show (2:Int) ^ (min (64 - 8 * ((6:Nat):Int)).toNat 64) = 65536 from rfl,zbz _ _ (by decide),IntKind.wrap_i64]
  unfold sgw;rw [if_pos (by decide),show ((256 ^ 6:Nat):Int) = 281474976710656 from rfl,show ((256 ^ 6 / 2:Nat):Int) = 140737488355328 from rfl]
  split <;> omega
 ·rw [show (2:Int) ^ (min (64 - 8 * ((7:Nat):Int)).toNat 64) = 256 from rfl,zbz _ _ (by decide),IntKind.wrap_i64]
  unfold sgw;rw [if_pos (by decide),show ((256 ^ 7:Nat):Int) = 72057594037927936 from rfl,show ((256 ^ 7 / 2:Nat):Int) = 36028797018963968 from rfl]
  split <;> omega
 ·rw [show (2:Int) ^ (min (64 - 8 * ((8:Nat):Int)).toNat 64) = 1 from rfl,zbz _ _ (by decide),IntKind.wrap_i64]
  unfold sgw;rw [if_neg (by decide)]; omega
theorem sgni_fn (n:Int) (k:Nat) (hk:1 <= k /\ k <= 8) (hn:i64ok n):FnV (env T hT) 96 [.d (pI n),.d (pI k)] (.d (pI (sgw n k))):=by
 refine zaX (zag zgm) (by show 2 <= 18; decide) fun B hB => ?_
 unfold m_i_SignOf;refine mP ?_;refine mM ?_;refine mN ?_;refine zab rfl (zfL k 1 8) ?_;rw [decide_eq_true (show (1:Int) <= k /\ (k:Int) <= 8 by omega)];refine mK ?_;refine mQ ?_;refine zdK (n:=8 * (k:Int)) rfl rfl rfl rfl (by omega) ?_;refine zbR (n:=64 - 8 * (k:Int)) rfl rfl rfl rfl (by omega) ?_;refine mN ?_;refine mO ?_;(iterate 2 refine mS ?_)
 refine po_q (v:=.d (pI (IntKind.wrap .i64 (n * 2 ^ (min (64 - 8 * (k:Int)).toNat IntKind.i64.bits))))) rfl (by
  show Option.map _ (if 64 - 8 * (k:Int) < 0 then none else some (Value.int .i64 (IntKind.wrap .i64 (n * 2 ^ (min (64 - 8 * (k:Int)).toNat IntKind.i64.bits))))) = _;rw [if_neg (by omega)]; rfl) ?_
 refine mS ?_
 refine po_q (v:=.d (pI (sgw n k))) rfl (by
  show Option.map _ (if 64 - 8 * (k:Int) < 0 then none else some (Value.int .i64 ((IntKind.wrap .i64 (n * 2 ^ (min (64 - 8 * (k:Int)).toNat IntKind.i64.bits))).fdiv (2 ^ (min (64 - 8 * (k:Int)).toNat IntKind.i64.bits))))) = _;rw [if_neg (by omega),shsh n k hk hn]; rfl) ?_
 refine mN ?_;exact mR
def pnP:Nat -> Int
 | 0 => 128 | 1 => 256 | 2 => 65536 | _ => 4294967296
def pnN:Nat -> Int
 | 0 => -32 | 1 => -128 | 2 => -32768 | _ => -2147483648
def PnI (n:Int) (m:Nat) (s:St):Prop:=∃ i:Nat,i <= 3 /\ m = 4 - i /\ (0 <= n -> pnP i <= n) /\ (n < 0 -> n < pnN i) /\ has s.tm [(0,.d (pI n)),(9,.d (.sl 2 [[pI 1],[pI 2],[pI 4],[pI 8]])),(10,.d (pI 4)),(11,.d (pI i))]
theorem putNum_fn (n:Int) (hn:i64ok n):FnV (env T hT) 76 [.d (pI n)] (.d (pS (msgInt n))):=by
 have hput:=fun (k:Int) (hk:1 <= k /\ k <= 8) => zgn (T:=T) (hT:=hT) n k hk hn
 have hsg:=fun (k:Nat) (hk:1 <= k /\ k <= 8) => sgni_fn (T:=T) (hT:=hT) n k hk hn
 obtain ⟨hn1,hn2⟩:=hn;refine zaX (zag zee) (by show 1 <= 59; decide) fun B hB => ?_
 unfold m_i_putNumber;refine mP ?_;refine mM ?_;refine mN ?_;refine zab rfl (zfL n (-32) 127) ?_;refine zaa ?_;refine zep (p:=-32 <= n /\ n <= 127) rfl (fun h => ?_) (fun h => ?_)
 ·refine mP ?_
  refine zab rfl (hput 1 (by omega)) ?_;refine mN ?_;exact zah ⟨.inr rfl,_,rfl,by unfold msgInt; rw [if_pos h]; rfl⟩
 refine zaj ?_;refine mM ?_;refine zao (es:=[[pI 1],[pI 2],[pI 4],[pI 8]]) rfl ?_;refine zaH (n:=4) rfl rfl rfl ?_;refine mN ?_;refine zad ?_;refine zav (PnI n) 4 ⟨0,by omega,rfl,fun h => by simp only [pnP]; omega,fun h => by simp only [pnN]; omega,rfl,rfl,rfl,rfl,trivial⟩ ?_;rintro m tm bx nt live ⟨i,hi,rfl,hp,hq,ht⟩;obtain ⟨tm0,rfl⟩:=zaf ht;clear ht;have hc:i = 0 \/ i = 1 \/ i = 2 \/ i = 3:=by omega
 rcases hc with rfl | rfl | rfl | rfl
 ·simp only [pnP,pnN] at hp hq
  refine mO ?_;refine zal rfl rfl rfl ?_;refine zaa ?_;refine zak ?_;refine mwT ?_;refine zaj ?_;refine zak (zad (zak (zae ?_)));refine mS ?_;refine za3 (es:=[[pI 1],[pI 2],[pI 4],[pI 8]]) (e:=[pI 1]) rfl rfl rfl ⟨by decide,rfl⟩ rfl ?_;refine mN ?_;refine zad (zak (zae ?_));refine mS ?_;by_cases h0:0 <= n
  ·have hp:=hp h0
   refine zal rfl rfl (decide_eq_true (show n ≥ 0 from h0)) ?_;(iterate 2 refine mS ?_);refine zas rfl rfl rfl ?_;(iterate 3 refine mS ?_);refine zdK (n:=8) rfl rfl rfl rfl (by decide) ?_;refine po_shl (n:=256) rfl rfl rfl (by decide) (by decide) ?_;by_cases hf:n < 256
   ·refine zal rfl rfl (decide_eq_true hf) ?_
    (iterate 3 refine mS ?_);refine zaa ?_;refine mwT ?_
    have hres:msgInt n = [204] ++ be 1 (lo64 n):=by
     unfold msgInt
     repeat (first | rw [if_pos (by omega)] | rw [if_neg (by omega)])
    refine zak (zbf ?_);refine zai ?_;refine mS ?_;refine zat (n:=204) rfl rfl rfl rfl (by decide) ?_;refine zb0 (n:=204) rfl rfl (by decide) ?_;refine mS ?_;refine mL ?_;refine zaq ?_;refine zar ?_ ?_
    ·refine zao (es:=[[.v (.int .u8 204)]]) rfl ?_
     refine zaa ?_;refine zai ?_;refine mL ?_;refine zaq ?_;refine zar ?_ zap;refine zab rfl (hput 1 (by omega)) ?_;refine zaa ?_;refine zai ?_;refine zau (la:=[204]) (lb:=be 1 (lo64 n)) rfl rfl rfl (by rw [zac]; simp) ?_;refine mL ?_;refine zaG ?_;refine zah ⟨.inr rfl,[.d (pS ([204] ++ be 1 (lo64 n)))],rfl,?_⟩;rw [hres]; rfl
    ·refine zar ?_ zap
     refine zab rfl (hput 1 (by omega)) ?_;refine zaa ?_;refine zai ?_;refine zaa ?_;refine zaq ?_;refine zar ?_ zap;refine zao (es:=[[.v (.int .u8 204)]]) rfl ?_;refine zaa ?_;refine zai ?_;refine mS ?_;refine zau (la:=[204]) (lb:=be 1 (lo64 n)) rfl rfl rfl (by rw [zac]; simp) ?_;refine mL ?_;refine zaG ?_;refine zah ⟨.inr rfl,[.d (pS ([204] ++ be 1 (lo64 n)))],rfl,?_⟩;rw [hres]; rfl
   ·refine zas rfl rfl (decide_eq_false hf) ?_
    (iterate 3 refine mS ?_);refine zaa ?_;refine mwF ?_;refine mQ ?_;refine zas rfl rfl (decide_eq_false (show ¬ n < 0 by omega)) ?_;refine mS ?_;refine mZ ?_;(iterate 2 refine mS ?_);refine zaa ?_;refine mwF ?_;refine zaj ?_;refine zae ?_;refine zat (n:=1) rfl rfl rfl rfl (by decide) ?_;refine mN ?_;exact ⟨3,by omega,1,by omega,rfl,fun _ => by simp only [pnP]; omega,fun h => by omega,rfl,rfl,rfl,rfl,trivial⟩
  ·have hq:=hq (by omega)
   refine zas rfl rfl (decide_eq_false (show ¬ n ≥ 0 from h0)) ?_;refine mS ?_;refine mZ ?_;(iterate 2 refine mS ?_);refine zaa ?_;refine mwF ?_;refine mQ ?_;refine zal rfl rfl (decide_eq_true (show n < 0 by omega)) ?_;(iterate 3 refine mS ?_);refine za5 (b:=true) rfl (fun _ => rfl) (fun _ => hsg 1 (by omega)) ?_;refine mS ?_;by_cases hf:sgw n 1 = n
   ·refine zal rfl rfl (decide_eq_true hf) ?_
    (iterate 2 refine mS ?_);refine zaa ?_;refine mwT ?_
    have hres:msgInt n = [208] ++ be 1 (lo64 n):=by
     unfold sgw at hf;rw [if_pos (by decide),show ((256 ^ 1:Nat):Int) = 256 from rfl,show ((256 ^ 1 / 2:Nat):Int) = 128 from rfl] at hf
     split at hf
     ·unfold msgInt
      repeat (first | rw [if_pos (by omega)] | rw [if_neg (by omega)])
     ·omega
    refine zak (zbf ?_);refine zai ?_;refine mS ?_;refine zat (n:=208) rfl rfl rfl rfl (by decide) ?_;refine zb0 (n:=208) rfl rfl (by decide) ?_;refine mS ?_;refine mL ?_;refine zaq ?_;refine zar ?_ ?_
    ·refine zao (es:=[[.v (.int .u8 208)]]) rfl ?_
     refine zaa ?_;refine zai ?_;refine mL ?_;refine zaq ?_;refine zar ?_ zap;refine zab rfl (hput 1 (by omega)) ?_;refine zaa ?_;refine zai ?_;refine zau (la:=[208]) (lb:=be 1 (lo64 n)) rfl rfl rfl (by rw [zac]; simp) ?_;refine mL ?_;refine zaG ?_;refine zah ⟨.inr rfl,[.d (pS ([208] ++ be 1 (lo64 n)))],rfl,?_⟩;rw [hres]; rfl
    ·refine zar ?_ zap
     refine zab rfl (hput 1 (by omega)) ?_;refine zaa ?_;refine zai ?_;refine zaa ?_;refine zaq ?_;refine zar ?_ zap;refine zao (es:=[[.v (.int .u8 208)]]) rfl ?_;refine zaa ?_;refine zai ?_;refine mS ?_;refine zau (la:=[208]) (lb:=be 1 (lo64 n)) rfl rfl rfl (by rw [zac]; simp) ?_;refine mL ?_;refine zaG ?_;refine zah ⟨.inr rfl,[.d (pS ([208] ++ be 1 (lo64 n)))],rfl,?_⟩;rw [hres]; rfl
   ·refine zas rfl rfl (decide_eq_false hf) ?_
    (iterate 2 refine mS ?_);refine zaa ?_;refine mwF ?_;refine zaj ?_
    have hlow:n < -128:=by
     apply Decidable.byContradiction
     intro hlt
     apply hf
     unfold sgw;rw [if_pos (by decide),show ((256 ^ 1:Nat):Int) = 256 from rfl,show ((256 ^ 1 / 2:Nat):Int) = 128 from rfl]
     split <;> omega
    refine zae ?_;refine zat (n:=1) rfl rfl rfl rfl (by decide) ?_;refine mN ?_;exact ⟨3,by omega,1,by omega,rfl,fun h => by omega,fun _ => by simp only [pnN]; omega,rfl,rfl,rfl,rfl,trivial⟩
 ·simp only [pnP,pnN] at hp hq
  refine mO ?_;refine zal rfl rfl rfl ?_;refine zaa ?_;refine zak ?_;refine mwT ?_;refine zaj ?_;refine zak (zad (zak (zae ?_)));refine mS ?_;refine za3 (es:=[[pI 1],[pI 2],[pI 4],[pI 8]]) (e:=[pI 2]) rfl rfl rfl ⟨by decide,rfl⟩ rfl ?_;refine mN ?_;refine zad (zak (zae ?_));refine mS ?_;by_cases h0:0 <= n
  ·have hp:=hp h0
   refine zal rfl rfl (decide_eq_true (show n ≥ 0 from h0)) ?_;(iterate 2 refine mS ?_);refine zas rfl rfl rfl ?_;(iterate 3 refine mS ?_);refine zdK (n:=16) rfl rfl rfl rfl (by decide) ?_;refine po_shl (n:=65536) rfl rfl rfl (by decide) (by decide) ?_;by_cases hf:n < 65536
   ·refine zal rfl rfl (decide_eq_true hf) ?_
    (iterate 3 refine mS ?_);refine zaa ?_;refine mwT ?_
    have hres:msgInt n = [205] ++ be 2 (lo64 n):=by
     unfold msgInt
     repeat (first | rw [if_pos (by omega)] | rw [if_neg (by omega)])
    refine zak (zbf ?_);refine zai ?_;refine mS ?_;refine zat (n:=205) rfl rfl rfl rfl (by decide) ?_;refine zb0 (n:=205) rfl rfl (by decide) ?_;refine mS ?_;refine mL ?_;refine zaq ?_;refine zar ?_ ?_
    ·refine zao (es:=[[.v (.int .u8 205)]]) rfl ?_
     refine zaa ?_;refine zai ?_;refine mL ?_;refine zaq ?_;refine zar ?_ zap;refine zab rfl (hput 2 (by omega)) ?_;refine zaa ?_;refine zai ?_;refine zau (la:=[205]) (lb:=be 2 (lo64 n)) rfl rfl rfl (by rw [zac]; simp) ?_;refine mL ?_;refine zaG ?_;refine zah ⟨.inr rfl,[.d (pS ([205] ++ be 2 (lo64 n)))],rfl,?_⟩;rw [hres]; rfl
    ·refine zar ?_ zap
     refine zab rfl (hput 2 (by omega)) ?_;refine zaa ?_;refine zai ?_;refine zaa ?_;refine zaq ?_;refine zar ?_ zap;refine zao (es:=[[.v (.int .u8 205)]]) rfl ?_;refine zaa ?_;refine zai ?_;refine mS ?_;refine zau (la:=[205]) (lb:=be 2 (lo64 n)) rfl rfl rfl (by rw [zac]; simp) ?_;refine mL ?_;refine zaG ?_;refine zah ⟨.inr rfl,[.d (pS ([205] ++ be 2 (lo64 n)))],rfl,?_⟩;rw [hres]; rfl
   ·refine zas rfl rfl (decide_eq_false hf) ?_
    (iterate 3 refine mS ?_);refine zaa ?_;refine mwF ?_;refine mQ ?_;refine zas rfl rfl (decide_eq_false (show ¬ n < 0 by omega)) ?_;refine mS ?_;refine mZ ?_;(iterate 2 refine mS ?_);refine zaa ?_;refine mwF ?_;refine zaj ?_;refine zae ?_;refine zat (n:=2) rfl rfl rfl rfl (by decide) ?_;refine mN ?_;exact ⟨2,by omega,2,by omega,rfl,fun _ => by simp only [pnP]; omega,fun h => by omega,rfl,rfl,rfl,rfl,trivial⟩
  ·have hq:=hq (by omega)
   refine zas rfl rfl (decide_eq_false (show ¬ n ≥ 0 from h0)) ?_;refine mS ?_;refine mZ ?_;(iterate 2 refine mS ?_);refine zaa ?_;refine mwF ?_;refine mQ ?_;refine zal rfl rfl (decide_eq_true (show n < 0 by omega)) ?_;(iterate 3 refine mS ?_);refine za5 (b:=true) rfl (fun _ => rfl) (fun _ => hsg 2 (by omega)) ?_;refine mS ?_;by_cases hf:sgw n 2 = n
   ·refine zal rfl rfl (decide_eq_true hf) ?_
    (iterate 2 refine mS ?_);refine zaa ?_;refine mwT ?_
    have hres:msgInt n = [209] ++ be 2 (lo64 n):=by
     unfold sgw at hf;rw [if_pos (by decide),show ((256 ^ 2:Nat):Int) = 65536 from rfl,show ((256 ^ 2 / 2:Nat):Int) = 32768 from rfl] at hf
     split at hf
     ·unfold msgInt
      repeat (first | rw [if_pos (by omega)] | rw [if_neg (by omega)])
     ·omega
    refine zak (zbf ?_);refine zai ?_;refine mS ?_;refine zat (n:=209) rfl rfl rfl rfl (by decide) ?_;refine zb0 (n:=209) rfl rfl (by decide) ?_;refine mS ?_;refine mL ?_;refine zaq ?_;refine zar ?_ ?_
    ·refine zao (es:=[[.v (.int .u8 209)]]) rfl ?_
     refine zaa ?_;refine zai ?_;refine mL ?_;refine zaq ?_;refine zar ?_ zap;refine zab rfl (hput 2 (by omega)) ?_;refine zaa ?_;refine zai ?_;refine zau (la:=[209]) (lb:=be 2 (lo64 n)) rfl rfl rfl (by rw [zac]; simp) ?_;refine mL ?_;refine zaG ?_;refine zah ⟨.inr rfl,[.d (pS ([209] ++ be 2 (lo64 n)))],rfl,?_⟩;rw [hres]; rfl
    ·refine zar ?_ zap
     refine zab rfl (hput 2 (by omega)) ?_;refine zaa ?_;refine zai ?_;refine zaa ?_;refine zaq ?_;refine zar ?_ zap;refine zao (es:=[[.v (.int .u8 209)]]) rfl ?_;refine zaa ?_;refine zai ?_;refine mS ?_;refine zau (la:=[209]) (lb:=be 2 (lo64 n)) rfl rfl rfl (by rw [zac]; simp) ?_;refine mL ?_;refine zaG ?_;refine zah ⟨.inr rfl,[.d (pS ([209] ++ be 2 (lo64 n)))],rfl,?_⟩;rw [hres]; rfl
   ·refine zas rfl rfl (decide_eq_false hf) ?_
    (iterate 2 refine mS ?_);refine zaa ?_;refine mwF ?_;refine zaj ?_
    have hlow:n < -32768:=by
     apply Decidable.byContradiction
     intro hlt
     apply hf
     unfold sgw;rw [if_pos (by decide),show ((256 ^ 2:Nat):Int) = 65536 from rfl,show ((256 ^ 2 / 2:Nat):Int) = 32768 from rfl]
     split <;> omega
    refine zae ?_;refine zat (n:=2) rfl rfl rfl rfl (by decide) ?_;refine mN ?_;exact ⟨2,by omega,2,by omega,rfl,fun h => by omega,fun _ => by simp only [pnN]; omega,rfl,rfl,rfl,rfl,trivial⟩
 ·simp only [pnP,pnN] at hp hq
  refine mO ?_;refine zal rfl rfl rfl ?_;refine zaa ?_;refine zak ?_;refine mwT ?_;refine zaj ?_;refine zak (zad (zak (zae ?_)));refine mS ?_;refine za3 (es:=[[pI 1],[pI 2],[pI 4],[pI 8]]) (e:=[pI 4]) rfl rfl rfl ⟨by decide,rfl⟩ rfl ?_;refine mN ?_;refine zad (zak (zae ?_));refine mS ?_;by_cases h0:0 <= n
  ·have hp:=hp h0
   refine zal rfl rfl (decide_eq_true (show n ≥ 0 from h0)) ?_;(iterate 2 refine mS ?_);refine zas rfl rfl rfl ?_;(iterate 3 refine mS ?_);refine zdK (n:=32) rfl rfl rfl rfl (by decide) ?_;refine po_shl (n:=4294967296) rfl rfl rfl (by decide) (by decide) ?_;by_cases hf:n < 4294967296
   ·refine zal rfl rfl (decide_eq_true hf) ?_
    (iterate 3 refine mS ?_);refine zaa ?_;refine mwT ?_
    have hres:msgInt n = [206] ++ be 4 (lo64 n):=by
     unfold msgInt
     repeat (first | rw [if_pos (by omega)] | rw [if_neg (by omega)])
    refine zak (zbf ?_);refine zai ?_;refine mS ?_;refine zat (n:=206) rfl rfl rfl rfl (by decide) ?_;refine zb0 (n:=206) rfl rfl (by decide) ?_;refine mS ?_;refine mL ?_;refine zaq ?_;refine zar ?_ ?_
    ·refine zao (es:=[[.v (.int .u8 206)]]) rfl ?_
     refine zaa ?_;refine zai ?_;refine mL ?_;refine zaq ?_;refine zar ?_ zap;refine zab rfl (hput 4 (by omega)) ?_;refine zaa ?_;refine zai ?_;refine zau (la:=[206]) (lb:=be 4 (lo64 n)) rfl rfl rfl (by rw [zac]; simp) ?_;refine mL ?_;refine zaG ?_;refine zah ⟨.inr rfl,[.d (pS ([206] ++ be 4 (lo64 n)))],rfl,?_⟩;rw [hres]; rfl
    ·refine zar ?_ zap
     refine zab rfl (hput 4 (by omega)) ?_;refine zaa ?_;refine zai ?_;refine zaa ?_;refine zaq ?_;refine zar ?_ zap;refine zao (es:=[[.v (.int .u8 206)]]) rfl ?_;refine zaa ?_;refine zai ?_;refine mS ?_;refine zau (la:=[206]) (lb:=be 4 (lo64 n)) rfl rfl rfl (by rw [zac]; simp) ?_;refine mL ?_;refine zaG ?_;refine zah ⟨.inr rfl,[.d (pS ([206] ++ be 4 (lo64 n)))],rfl,?_⟩;rw [hres]; rfl
   ·refine zas rfl rfl (decide_eq_false hf) ?_
    (iterate 3 refine mS ?_);refine zaa ?_;refine mwF ?_;refine mQ ?_;refine zas rfl rfl (decide_eq_false (show ¬ n < 0 by omega)) ?_;refine mS ?_;refine mZ ?_;(iterate 2 refine mS ?_);refine zaa ?_;refine mwF ?_;refine zaj ?_;refine zae ?_;refine zat (n:=3) rfl rfl rfl rfl (by decide) ?_;refine mN ?_;exact ⟨1,by omega,3,by omega,rfl,fun _ => by simp only [pnP]; omega,fun h => by omega,rfl,rfl,rfl,rfl,trivial⟩
  ·have hq:=hq (by omega)
   refine zas rfl rfl (decide_eq_false (show ¬ n ≥ 0 from h0)) ?_;refine mS ?_;refine mZ ?_;(iterate 2 refine mS ?_);refine zaa ?_;refine mwF ?_;refine mQ ?_;refine zal rfl rfl (decide_eq_true (show n < 0 by omega)) ?_;(iterate 3 refine mS ?_);refine za5 (b:=true) rfl (fun _ => rfl) (fun _ => hsg 4 (by omega)) ?_;refine mS ?_;by_cases hf:sgw n 4 = n
   ·refine zal rfl rfl (decide_eq_true hf) ?_
    (iterate 2 refine mS ?_);refine zaa ?_;refine mwT ?_
    have hres:msgInt n = [210] ++ be 4 (lo64 n):=by
     unfold sgw at hf;rw [if_pos (by decide),show ((256 ^ 4:Nat):Int) = 4294967296 from rfl,show ((256 ^ 4 / 2:Nat):Int) = 2147483648 from rfl] at hf
     split at hf
     ·unfold msgInt
      repeat (first | rw [if_pos (by omega)] | rw [if_neg (by omega)])
     ·omega
    refine zak (zbf ?_);refine zai ?_;refine mS ?_;refine zat (n:=210) rfl rfl rfl rfl (by decide) ?_;refine zb0 (n:=210) rfl rfl (by decide) ?_;refine mS ?_;refine mL ?_;refine zaq ?_;refine zar ?_ ?_
    ·refine zao (es:=[[.v (.int .u8 210)]]) rfl ?_
     refine zaa ?_;refine zai ?_;refine mL ?_;refine zaq ?_;refine zar ?_ zap;refine zab rfl (hput 4 (by omega)) ?_;refine zaa ?_;refine zai ?_;refine zau (la:=[210]) (lb:=be 4 (lo64 n)) rfl rfl rfl (by rw [zac]; simp) ?_;refine mL ?_;refine zaG ?_;refine zah ⟨.inr rfl,[.d (pS ([210] ++ be 4 (lo64 n)))],rfl,?_⟩;rw [hres]; rfl
    ·refine zar ?_ zap
     refine zab rfl (hput 4 (by omega)) ?_;refine zaa ?_;refine zai ?_;refine zaa ?_;refine zaq ?_;refine zar ?_ zap;refine zao (es:=[[.v (.int .u8 210)]]) rfl ?_;refine zaa ?_;refine zai ?_;refine mS ?_;refine zau (la:=[210]) (lb:=be 4 (lo64 n)) rfl rfl rfl (by rw [zac]; simp) ?_;refine mL ?_;refine zaG ?_;refine zah ⟨.inr rfl,[.d (pS ([210] ++ be 4 (lo64 n)))],rfl,?_⟩;rw [hres]; rfl
   ·refine zas rfl rfl (decide_eq_false hf) ?_
    (iterate 2 refine mS ?_);refine zaa ?_;refine mwF ?_;refine zaj ?_
    have hlow:n < -2147483648:=by
     apply Decidable.byContradiction
     intro hlt
     apply hf
     unfold sgw;rw [if_pos (by decide),show ((256 ^ 4:Nat):Int) = 4294967296 from rfl,show ((256 ^ 4 / 2:Nat):Int) = 2147483648 from rfl]
     split <;> omega
    refine zae ?_;refine zat (n:=3) rfl rfl rfl rfl (by decide) ?_;refine mN ?_;exact ⟨1,by omega,3,by omega,rfl,fun h => by omega,fun _ => by simp only [pnN]; omega,rfl,rfl,rfl,rfl,trivial⟩
 ·simp only [pnP,pnN] at hp hq
  refine mO ?_;refine zal rfl rfl rfl ?_;refine zaa ?_;refine zak ?_;refine mwT ?_;refine zaj ?_;refine zak (zad (zak (zae ?_)));refine mS ?_;refine za3 (es:=[[pI 1],[pI 2],[pI 4],[pI 8]]) (e:=[pI 8]) rfl rfl rfl ⟨by decide,rfl⟩ rfl ?_;refine mN ?_;refine zad (zak (zae ?_));refine mS ?_;by_cases h0:0 <= n
  ·have hp:=hp h0
   refine zal rfl rfl (decide_eq_true (show n ≥ 0 from h0)) ?_;(iterate 2 refine mS ?_);refine zal rfl rfl rfl ?_;refine mS ?_;refine mZ ?_;(iterate 3 refine mS ?_);refine zaa ?_;refine mwT ?_
   have hres:msgInt n = [207] ++ be 8 (lo64 n):=by
    unfold msgInt
    repeat (first | rw [if_pos (by omega)] | rw [if_neg (by omega)])
   refine zak (zbf ?_);refine zai ?_;refine mS ?_;refine zat (n:=207) rfl rfl rfl rfl (by decide) ?_;refine zb0 (n:=207) rfl rfl (by decide) ?_;refine mS ?_;refine mL ?_;refine zaq ?_;refine zar ?_ ?_
   ·refine zao (es:=[[.v (.int .u8 207)]]) rfl ?_
    refine zaa ?_;refine zai ?_;refine mL ?_;refine zaq ?_;refine zar ?_ zap;refine zab rfl (hput 8 (by omega)) ?_;refine zaa ?_;refine zai ?_;refine zau (la:=[207]) (lb:=be 8 (lo64 n)) rfl rfl rfl (by rw [zac]; simp) ?_;refine mL ?_;refine zaG ?_;refine zah ⟨.inr rfl,[.d (pS ([207] ++ be 8 (lo64 n)))],rfl,?_⟩;rw [hres]; rfl
   ·refine zar ?_ zap
    refine zab rfl (hput 8 (by omega)) ?_;refine zaa ?_;refine zai ?_;refine zaa ?_;refine zaq ?_;refine zar ?_ zap;refine zao (es:=[[.v (.int .u8 207)]]) rfl ?_;refine zaa ?_;refine zai ?_;refine mS ?_;refine zau (la:=[207]) (lb:=be 8 (lo64 n)) rfl rfl rfl (by rw [zac]; simp) ?_;refine mL ?_;refine zaG ?_;refine zah ⟨.inr rfl,[.d (pS ([207] ++ be 8 (lo64 n)))],rfl,?_⟩;rw [hres]; rfl
  ·have hq:=hq (by omega)
   refine zas rfl rfl (decide_eq_false (show ¬ n ≥ 0 from h0)) ?_;refine mS ?_;refine mZ ?_;(iterate 2 refine mS ?_);refine zaa ?_;refine mwF ?_;refine mQ ?_;refine zal rfl rfl (decide_eq_true (show n < 0 by omega)) ?_;(iterate 3 refine mS ?_);refine za5 (b:=true) rfl (fun _ => rfl) (fun _ => hsg 8 (by omega)) ?_;refine mS ?_;have hf:sgw n 8 = n:=by unfold sgw; rw [if_neg (by decide)]
   refine zal rfl rfl (decide_eq_true hf) ?_;(iterate 2 refine mS ?_);refine zaa ?_;refine mwT ?_
   have hres:msgInt n = [211] ++ be 8 (lo64 n):=by
    unfold msgInt
    repeat (first | rw [if_pos (by omega)] | rw [if_neg (by omega)])
   refine zak (zbf ?_);refine zai ?_;refine mS ?_;refine zat (n:=211) rfl rfl rfl rfl (by decide) ?_;refine zb0 (n:=211) rfl rfl (by decide) ?_;refine mS ?_;refine mL ?_;refine zaq ?_;refine zar ?_ ?_
   ·refine zao (es:=[[.v (.int .u8 211)]]) rfl ?_
    refine zaa ?_;refine zai ?_;refine mL ?_;refine zaq ?_;refine zar ?_ zap;refine zab rfl (hput 8 (by omega)) ?_;refine zaa ?_;refine zai ?_;refine zau (la:=[211]) (lb:=be 8 (lo64 n)) rfl rfl rfl (by rw [zac]; simp) ?_;refine mL ?_;refine zaG ?_;refine zah ⟨.inr rfl,[.d (pS ([211] ++ be 8 (lo64 n)))],rfl,?_⟩;rw [hres]; rfl
   ·refine zar ?_ zap
    refine zab rfl (hput 8 (by omega)) ?_;refine zaa ?_;refine zai ?_;refine zaa ?_;refine zaq ?_;refine zar ?_ zap;refine zao (es:=[[.v (.int .u8 211)]]) rfl ?_;refine zaa ?_;refine zai ?_;refine mS ?_;refine zau (la:=[211]) (lb:=be 8 (lo64 n)) rfl rfl rfl (by rw [zac]; simp) ?_;refine mL ?_;refine zaG ?_;refine zah ⟨.inr rfl,[.d (pS ([211] ++ be 8 (lo64 n)))],rfl,?_⟩;rw [hres]; rfl
def u8w (x:Int):Int:=IntKind.wrap .u8 x
theorem be1_u8 (x:Int):be 1 (lo64 x) = [UInt8.ofNat (u8w x).toNat]:=by
 rw [be1]
 congr 1
 apply UInt8.toNat_inj.1
 rw [zaz];unfold u8w lo64;rw [IntKind.wrap_u8];simp;omega
theorem putLen_fn (n least low one two:Int) (hb:0 <= n /\ n <= 4611686018427387904) (hl:0 <= low /\ low <= 1000) (hl2:0 <= least /\ least <= 1000):FnV (env T hT) 77 [.d (pI n),.d (pI low),.d (pI least),.d (pI one),.d (pI two)] (.d (pS (msgMany n least low one two))):=by
 have hput:=fun (k:Int) (hk:1 <= k /\ k <= 8) => zgn (T:=T) (hT:=hT) n k hk (by unfold i64ok; omega)
 refine zaX (zag zef) (by show 5 <= 42; decide) fun B hB => ?_
 unfold m_i_putLength;refine mP ?_;refine zak (zad (zak (zae ?_)));(iterate 2 refine mS ?_);refine po_b rfl rfl (fun b hb1 => ?_);refine mL ?_;refine zbt (p:=n < least) hb1 rfl (fun h _ => ?_) (fun h _ => ?_)
 ·refine mO ?_
  (iterate 2 refine mS ?_);refine zat (n:=low + n) rfl rfl rfl rfl (by omega) ?_;refine zb0 (n:=(u8w (low + n))) rfl rfl rfl ?_;refine zao (es:=[[.v (.int .u8 (u8w (low + n)))]]) rfl ?_;refine mN ?_;exact zah ⟨.inr rfl,_,rfl,by unfold msgMany; rw [if_pos h,be1_u8]; rfl⟩
 refine zdg (fun s => has s.tm [(0,.d (pI n)),(3,.d (pI one)),(4,.d (pI two))]) ⟨rfl,rfl,rfl,trivial⟩ (fun tm bx nt live ht => ?_);obtain ⟨tm0,rfl⟩:=zaf ht;clear ht hb1;refine mQ ?_;by_cases h2:n < 256
 ·refine zal rfl rfl (decide_eq_true h2) ?_
  (iterate 2 refine mS ?_);by_cases h3:one > 0
  ·refine zal rfl rfl (decide_eq_true h3) ?_
   (iterate 2 refine mS ?_);refine zaa ?_;refine mwT ?_
   have hres:msgMany n least low one two = [UInt8.ofNat (u8w one).toNat] ++ be 1 (lo64 n):=by
    unfold msgMany; rw [if_neg h,if_pos ⟨h2,h3⟩,be1_u8]
   refine zak (zbf ?_);refine zai ?_;refine mS ?_;refine zb0 (n:=(u8w one)) rfl rfl rfl ?_;refine mL ?_;refine zaq ?_;refine zar ?_ ?_
   ·refine zao (es:=[[.v (.int .u8 (u8w one))]]) rfl ?_
    refine zaa ?_;refine zai ?_;refine mL ?_;refine zaq ?_;refine zar ?_ zap;refine zab rfl (hput 1 (by omega)) ?_;refine zaa ?_;refine zai ?_;refine zau (la:=[UInt8.ofNat (u8w one).toNat]) (lb:=be 1 (lo64 n)) rfl rfl rfl (by rw [zac]; simp) ?_;refine mL ?_;refine zaG ?_;refine zah ⟨.inr rfl,[.d (pS ([UInt8.ofNat (u8w one).toNat] ++ be 1 (lo64 n)))],rfl,?_⟩;rw [hres]; rfl
   ·refine zar ?_ zap
    refine zab rfl (hput 1 (by omega)) ?_;refine zaa ?_;refine zai ?_;refine zaa ?_;refine zaq ?_;refine zar ?_ zap;refine zao (es:=[[.v (.int .u8 (u8w one))]]) rfl ?_;refine zaa ?_;refine zai ?_;refine mS ?_;refine zau (la:=[UInt8.ofNat (u8w one).toNat]) (lb:=be 1 (lo64 n)) rfl rfl rfl (by rw [zac]; simp) ?_;refine mL ?_;refine zaG ?_;refine zah ⟨.inr rfl,[.d (pS ([UInt8.ofNat (u8w one).toNat] ++ be 1 (lo64 n)))],rfl,?_⟩;rw [hres]; rfl
  ·refine zas rfl rfl (decide_eq_false h3) ?_
   (iterate 2 refine mS ?_);refine zaa ?_;refine mwF ?_;refine zaj ?_
   have hres:msgMany n least low one two = [UInt8.ofNat (u8w two).toNat] ++ be 2 (lo64 n):=by
    unfold msgMany; rw [if_neg h,if_neg (fun h => h3 h.2),be1_u8]
   refine zak (zbf ?_);refine zai ?_;refine mS ?_;refine zb0 (n:=(u8w two)) rfl rfl rfl ?_;refine mL ?_;refine zaq ?_;refine zar ?_ ?_
   ·refine zao (es:=[[.v (.int .u8 (u8w two))]]) rfl ?_
    refine zaa ?_;refine zai ?_;refine mL ?_;refine zaq ?_;refine zar ?_ zap;refine zab rfl (hput 2 (by omega)) ?_;refine zaa ?_;refine zai ?_;refine zau (la:=[UInt8.ofNat (u8w two).toNat]) (lb:=be 2 (lo64 n)) rfl rfl rfl (by rw [zac]; simp) ?_;refine mL ?_;refine zaG ?_;refine zah ⟨.inr rfl,[.d (pS ([UInt8.ofNat (u8w two).toNat] ++ be 2 (lo64 n)))],rfl,?_⟩;rw [hres]; rfl
   ·refine zar ?_ zap
    refine zab rfl (hput 2 (by omega)) ?_;refine zaa ?_;refine zai ?_;refine zaa ?_;refine zaq ?_;refine zar ?_ zap;refine zao (es:=[[.v (.int .u8 (u8w two))]]) rfl ?_;refine zaa ?_;refine zai ?_;refine mS ?_;refine zau (la:=[UInt8.ofNat (u8w two).toNat]) (lb:=be 2 (lo64 n)) rfl rfl rfl (by rw [zac]; simp) ?_;refine mL ?_;refine zaG ?_;refine zah ⟨.inr rfl,[.d (pS ([UInt8.ofNat (u8w two).toNat] ++ be 2 (lo64 n)))],rfl,?_⟩;rw [hres]; rfl
 ·refine zas rfl rfl (decide_eq_false h2) ?_
  refine mS ?_;refine mZ ?_;(iterate 2 refine mS ?_);refine zaa ?_;refine mwF ?_;refine zaj ?_
  have hres:msgMany n least low one two = [UInt8.ofNat (u8w two).toNat] ++ be 2 (lo64 n):=by
   unfold msgMany; rw [if_neg h,if_neg (fun h => h2 h.1),be1_u8]
  refine zak (zbf ?_);refine zai ?_;refine mS ?_;refine zb0 (n:=(u8w two)) rfl rfl rfl ?_;refine mL ?_;refine zaq ?_;refine zar ?_ ?_
  ·refine zao (es:=[[.v (.int .u8 (u8w two))]]) rfl ?_
   refine zaa ?_;refine zai ?_;refine mL ?_;refine zaq ?_;refine zar ?_ zap;refine zab rfl (hput 2 (by omega)) ?_;refine zaa ?_;refine zai ?_;refine zau (la:=[UInt8.ofNat (u8w two).toNat]) (lb:=be 2 (lo64 n)) rfl rfl rfl (by rw [zac]; simp) ?_;refine mL ?_;refine zaG ?_;refine zah ⟨.inr rfl,[.d (pS ([UInt8.ofNat (u8w two).toNat] ++ be 2 (lo64 n)))],rfl,?_⟩;rw [hres]; rfl
  ·refine zar ?_ zap
   refine zab rfl (hput 2 (by omega)) ?_;refine zaa ?_;refine zai ?_;refine zaa ?_;refine zaq ?_;refine zar ?_ zap;refine zao (es:=[[.v (.int .u8 (u8w two))]]) rfl ?_;refine zaa ?_;refine zai ?_;refine mS ?_;refine zau (la:=[UInt8.ofNat (u8w two).toNat]) (lb:=be 2 (lo64 n)) rfl rfl rfl (by rw [zac]; simp) ?_;refine mL ?_;refine zaG ?_;refine zah ⟨.inr rfl,[.d (pS ([UInt8.ofNat (u8w two).toNat] ++ be 2 (lo64 n)))],rfl,?_⟩;rw [hres]; rfl
end
section
section
variable {P:Program} {NG:Nat} {T:World -> Prop}
theorem zbI {w:World} {ops:Array Oper} {rest:List Oper} {o:Oper} {a:Act} {Q:Exit -> Act -> World -> Prop} (hgd:o.guard = none) (sl x:Operand) (t u:TypeId)
  (ho:o.op = .call { callee:=.builtin .append,args:=#[sl,x],argTypes:=#[t,u] }) (v y v':Value) (w':World) (hs:a.eval sl = v) (hx:a.eval x = y) (hr:(Builtin.append_ #[t,u] o.type #[v,y]).run P w = .ok v' w') (h:wpList P ops Q rest (a.put o.dst v') w'):wpList P ops Q (o :: rest) a w:=by
 refine wpList_plain hgd fun K hK => ?_
 unfold Oper.wp execOp;simp only [ho,resolve,invoke,builtin,Sem.run_bind,Sem.run_pure,Result.andThen_ok,map_toArray,map_cons,map_nil,hs,hx,hr];exact hK _ _ h
theorem Inv.alloc (hL:Low NG T) {C:Cx} {bx:LP PC} {live:Nat -> Prop} {w:World} (h:Inv NG T C bx live w) (o:Obj):Inv NG T C bx live (w.alloc o):=by
 have hold:∀ k,k < w.heap.size -> (w.alloc o).heap[k]? = w.heap[k]?:=fun k hk => heap_alloc_old w o hk
 have hfix:=zcw h.fin o;have hs:w.heap.size <= (w.alloc o).heap.size:=by simp
 refine ⟨h.nb,fun p cs hp => ?_,h.boxF,h.boxG,h.inj,fun t ht => ?_,h.tinj,fun b o' hF => Nat.lt_of_lt_of_le (h.fin b o' hF) hs,Nat.le_trans h.ng hs,hL w _ h.t hs fun k hk => hold k (Nat.lt_of_lt_of_le hk h.ng)⟩
 ·obtain ⟨vs,e,h1,h2⟩:=h.box p cs hp
  exact ⟨vs,e,(hold _ (zaw h1)).trans h1,h2.frame (CxLe.refl C) hfix⟩
 ·obtain ⟨a1,a2,a3⟩:=h.tok t ht
  refine ⟨a1,a2,a3.imp id ?_⟩;rintro ⟨b,cur,e,c1,c2,c3,c4⟩;exact ⟨b,cur,e,c1,c2,(hold _ (zaw c3)).trans c3,c4⟩
theorem Inv.drewn (hL:Low NG T) {C:Cx} {bx:LP PC} {live:Nat -> Prop} {w:World} (h:Inv NG T C bx live w) (n:Nat):Inv NG T C bx live { w with drawn:=n } /\ Fix C w { w with drawn:=n }:=by
 have hF:Fix C w { w with drawn:=n }:=⟨fun _ _ _ => rfl,fun _ _ cs fz h => ⟨cs,fz,h⟩⟩;refine ⟨⟨h.nb,fun p cs hp => ?_,h.boxF,h.boxG,h.inj,h.tok,h.tinj,h.fin,h.ng,hL w _ h.t lR (fun _ _ => rfl)⟩,hF⟩;obtain ⟨vs,e,hh,hl⟩:=h.box p cs hp;exact ⟨vs,e,hh,hl.frame (CxLe.refl C) hF⟩
theorem Ext.start {C:Cx} {bx:LP PC} {live:List Nat} {w:World} (h:Inv NG T C bx (· ∈ live) w) (hold:C.old = (· ∈ live)):Ext C w C bx.length (· ∈ live) w :=
 ⟨rfl,rfl,rfl,lR,fun _ _ h => h,Fix.refl C w,fun _ _ _ _ => rfl,⟨lR,fun _ _ => rfl⟩,fun _ _ h => .inl h,(fun t b ht hb => .inr ⟨t,by rw [hold]; exact ht,hb⟩),(fun p hp hp2 => by have h1:=h.nb; omega),⟨lR,fun _ _ => ⟨rfl,rfl,rfl,rfl⟩⟩⟩
theorem set_self {bx:LP PC} {p:Nat} {cs:List PC} (h:bx[p]? = some cs):bx.set p cs = bx:=by
 apply ext_getElem?
 intro q;by_cases hq:p = q
 ·subst hq
  have hlt:p < bx.length:=by
   rcases Nat.lt_or_ge p bx.length with h' | h'
   ·exact h'
   ·rw [getElem?_eq_none h'] at h; cases h
  rw [getElem?_set_self hlt,h]
 ·rw [getElem?_set_ne hq]
theorem zgo {C:Cx} {bx:LP PC} {live:Nat -> Prop} {w:World} (hI:Inv NG T C bx live w) {p t:Nat} {TT U:TypeId} {es:LP PC} (hp:bx[p]? = some [.bld p TT t U,.sl t es]) :
  ∃ v0 v1,w.heap[C.bx p]? = some (.cells #[v0,v1] TT (0,0)) /\ (v0 = .pointer none \/ v0 = .pointer (some ⟨C.bx p,0,none⟩)) /\ RpC C w (.sl t es) v1 /\ (t = 1 \/ 2 <= t /\ t < C.nt /\ ∀ b,C.tk t = some b -> ∃ cs fz,w.heap[b]? = some (.cells cs U fz)):=by
 obtain ⟨vs,e,hh,hl⟩:=hI.box p _ hp;obtain ⟨v0,vr,rfl,h0,h1⟩:=hl.inv1;obtain ⟨v1,vr,rfl,k1,k2⟩:=h1.inv1
 obtain rfl:=k2.inv0
 cases h0 with
 | bld _ _ _ _ _ h cs fz ht hv hU =>
  rw [ht] at hh;simp only [sI,Obj.cells.injEq] at hh;obtain ⟨rfl,rfl,rfl⟩:=hh;exact ⟨v0,v1,ht,hv,k1,hU⟩
theorem Inv.froze (hL:Low NG T) {C:Cx} {bx:LP PC} {live:List Nat} {w:World} (h:Inv NG T C bx (· ∈ live) w) {t g n:Nat} (ht:t ∈ live) (hg:C.tk t = some g) :
  Inv NG T C bx (· ∈ live.filter (· != t)) (w.freeze ⟨g,0,none⟩ n) /\ Fix C w (w.freeze ⟨g,0,none⟩ n) /\ (w.freeze ⟨g,0,none⟩ n).os = w.os /\ (w.freeze ⟨g,0,none⟩ n).tape = w.tape /\ (w.freeze ⟨g,0,none⟩ n).output = w.output /\ (w.freeze ⟨g,0,none⟩ n).heap.size = w.heap.size /\ ∀ k,k ≠ g -> (w.freeze ⟨g,0,none⟩ n).heap[k]? = w.heap[k]?:=by
 obtain ⟨_,_,⟨z,_⟩ | ⟨g',cur,e,c1,c2,c3,c4,c5,c6,c7,c8,c9,c10⟩⟩:=h.tok t ht
 ·rw [hg] at z; cases z
 rw [hg] at c1; simp only [sI] at c1; subst c1
 have other:∀ k,k ≠ g -> (w.freeze ⟨g,0,none⟩ n).heap[k]? = w.heap[k]?:=by
  intro k hk;have hk':g ≠ k:=fun h => hk h.symm
  unfold World.freeze;split
  ·rfl
  ·simp [Array.getElem?_modify,hk']
 have hat:∃ fz,(w.freeze ⟨g,0,none⟩ n).heap[g]? = some (.cells cur e fz):=by
  unfold World.freeze;split
  ·exact ⟨_,c3⟩
  ·simp [Array.getElem?_modify,c3]
 obtain ⟨fz0,hat⟩:=hat
 have hcell:∀ b o,(w.freeze ⟨g,0,none⟩ n).cell? ⟨b,o,none⟩ = w.cell? ⟨b,o,none⟩:=by
  intro b o;by_cases hb:b = g
  ·subst hb; simp [World.cell?,hat,c3]
  ·exact World.cell?_of_block (a:=⟨b,o,none⟩) (other b hb)
 have hs:(w.freeze ⟨g,0,none⟩ n).heap.size = w.heap.size:=by
  unfold World.freeze; split <;> simp
 have o1:(w.freeze ⟨g,0,none⟩ n).os = w.os:=by unfold World.freeze; split <;> rfl
 have o2:(w.freeze ⟨g,0,none⟩ n).tape = w.tape:=by unfold World.freeze; split <;> rfl
 have o3:(w.freeze ⟨g,0,none⟩ n).output = w.output:=by unfold World.freeze; split <;> rfl
 have hF:Fix C w (w.freeze ⟨g,0,none⟩ n):=⟨fun b o _ => hcell b o,fun k T cs fz hh => by
  by_cases hk:k = g
  ·subst hk; rw [c3] at hh; simp only [sI,Obj.cells.injEq] at hh; obtain ⟨_,rfl,_⟩:=hh; exact ⟨_,_,hat⟩
  ·exact ⟨cs,fz,(other k hk).trans hh⟩⟩
 refine ⟨⟨h.nb,fun p cs hp => ?_,h.boxF,h.boxG,h.inj,fun s hs' => ?_,fun a b c ha hb => h.tinj a b c (mem_filter.1 ha).1 (mem_filter.1 hb).1,by rw [hs]; exact h.fin,by rw [hs]; exact h.ng,hL w _ h.t (by rw [hs]; exact lR) fun k hk => other k (by omega)⟩,hF,o1,o2,o3,hs,other⟩
 ·obtain ⟨vs,e',h1,h2⟩:=h.box p cs hp
  have hlt:p < bx.length:=by
   rcases Nat.lt_or_ge p bx.length with h' | h'
   ·exact h'
   ·rw [getElem?_eq_none h'] at hp; cases hp
  exact ⟨vs,e',(other _ (c10 p hlt)).trans h1,h2.frame (CxLe.refl C) hF⟩
 ·obtain ⟨m1,m2⟩:=mem_filter.1 hs'
  obtain ⟨a1,a2,a3⟩:=h.tok s m1;refine ⟨a1,a2,a3.imp id ?_⟩;rintro ⟨b,cur',e',d1,d2,d3,d4⟩;refine ⟨b,cur',e',d1,d2,(other b fun hb => ?_).trans d3,d4⟩;subst hb
  have:=h.tinj s t b m1 ht d1 hg
  subst this; simp at m2
end
end
section
theorem sizeBld:(Tryz.prog.info? 73).map (·.size) = some 2:=by kernel_rfl
theorem liesBld:liesAt Tryz.prog Tryz.prog.depth 73 (2 / Tryz.prog.cellsOf 73) 0 73 1 = true:=by kernel_rfl
theorem zfM:(Tryz.prog.info? 5).map (fun i => (i.zero,i.size,i.bytes)) = some (some (.int .u8 0),1,1):=by kernel_rfl
theorem zeg (b:Nat) (w:World) (h0:w.cell? ⟨b,0,none⟩ = some (.pointer (some ⟨b,0,none⟩))) :
  Calls Tryz.prog 95 #[.pointer (some ⟨b,0,none⟩)] w fun e w' => e = .returned (.tuple #[]) /\ w' = w:=by
 obtain ⟨j,hj,_⟩:=Option.map_eq_some_iff.1 sizeBld
 go_enter Tryz.func95,Tryz.ntmps95
 go_wp2;rw [Lib.run_neq_ptr_same w _ Tryz.underlying71 hj];go_wp2
 go_end0
 exact ⟨rfl,rfl⟩
theorem zd3 (b:Nat) (w:World) (h0:w.cell? ⟨b,0,none⟩ = some (.pointer none)) (hsh:w.shape? b = some (73,2)) (hfz:w.frozen? ⟨b,0,none⟩ = false) :
  Calls Tryz.prog 95 #[.pointer (some ⟨b,0,none⟩)] w fun e w' => e = .returned (.tuple #[]) /\ w' = w.setCell ⟨b,0,none⟩ (.pointer (some ⟨b,0,none⟩)):=by
 obtain ⟨j,hj,hjs⟩:=Option.map_eq_some_iff.1 sizeBld
 go_enter Tryz.func95,Tryz.ntmps95
 go_wp2;rw [Lib.run_to_unsafe w ⟨b,0,none⟩ Tryz.underlying71 Tryz.underlying117 hj (by rw [hjs]; decide) hsh (Nat.zero_lt_succ 1)];simp only [Result.andThen];rw [Oper.upon_value];go_wp2;rw [run_callFunc_extern Tryz.func109 (by kernel_rfl) (by kernel_rfl) (by kernel_rfl) (e:=Extern.AbiNoEscape.same) (by kernel_rfl)];rw [Lib.run_noEscape];simp only [Result.andThen];rw [Oper.upon_value];go_wp2;rw [Lib.run_from_unsafe w ⟨b,0,none⟩ Tryz.underlying117 Tryz.underlying71 hj hsh liesBld];simp only [Result.andThen];rw [Oper.upon_value];go_wp2
 go_end0
 exact ⟨rfl,rfl⟩
end
section
variable {T:World -> Prop} {hT:Low ngl T}
def bldC (p t:Nat) (l:L8):List PC:=[.bld p 73 t 5,.sl t (pcB l)]
def CcP (C:Cx) (w:World) (bx:LP PC) (live:List Nat) (T:World -> Prop) (b:Nat) (v1:Value) (w':World):Prop :=
 Inv ngl T C bx (· ∈ live) w' /\ Fix C w w' /\ w'.os = w.os /\ w'.tape = w.tape /\ w'.output = w.output /\ w'.heap.size = w.heap.size /\ (∀ k,k ≠ b -> w'.heap[k]? = w.heap[k]?) /\ w'.heap[b]? = some (.cells #[.pointer (some ⟨b,0,none⟩),v1] 73 (0,0))
theorem ccheck {C:Cx} {bx:LP PC} {live:List Nat} {w:World} (hI:Inv ngl T C bx (· ∈ live) w) {p t:Nat} {l:L8} (hp:bx[p]? = some (bldC p t l)) (hL:Low ngl T) :
  ∃ v1,Calls Tryz.prog 95 #[.pointer (some ⟨C.bx p,0,none⟩)] w (fun e w' => e = .returned (.tuple #[]) /\ CcP C w bx live T (C.bx p) v1 w') /\ RpC C w (.sl t (pcB l)) v1:=by
 obtain ⟨v0,v1,hh,hv,h1,hU⟩:=zgo hI hp
 have hlt:p < bx.length:=by
  rcases Nat.lt_or_ge p bx.length with h' | h'
  ·exact h'
  ·rw [getElem?_eq_none h'] at hp; cases hp
 have c0:w.cell? ⟨C.bx p,0,none⟩ = some v0:=by rw [Lib.cell_of_heap hh]; rfl
 refine ⟨v1,?_,h1⟩
 rcases hv with rfl | rfl
 ·refine (zd3 (C.bx p) w c0 (by simp [World.shape?,hh]) (Lib.frozen_of_heap hh 0)).mono ?_
  rintro e w' ⟨rfl,rfl⟩
  have hnew:(w.setCell ⟨C.bx p,0,none⟩ (.pointer (some ⟨C.bx p,0,none⟩))).heap[C.bx p]? = some (.cells #[.pointer (some ⟨C.bx p,0,none⟩),v1] 73 (0,0)):=by
   simp [World.setCell,Array.getElem?_modify,hh]
  have hother:∀ k,k ≠ C.bx p -> (w.setCell ⟨C.bx p,0,none⟩ (.pointer (some ⟨C.bx p,0,none⟩))).heap[k]? = w.heap[k]?:=by
   intro k hk;have hk':C.bx p ≠ k:=fun h => hk h.symm
   simp [World.setCell,Array.getElem?_modify,hk']
  have hsz:w.heap.size = (w.setCell ⟨C.bx p,0,none⟩ (.pointer (some ⟨C.bx p,0,none⟩))).heap.size:=by simp [World.setCell]
  obtain ⟨k1,k2⟩:=hI.write hL hlt (us:=[.pointer (some ⟨C.bx p,0,none⟩),v1]) (cs:=bldC p t l) (e:=73) hnew (.cons (.bld _ _ _ _ _ (by rw [hI.nb]; exact hlt) _ _ hh (.inr rfl) hU) (.cons h1 .nil)) (fun T cs0 h0 => by rw [hh] at h0; simp only [sI,Obj.cells.injEq] at h0; exact h0.2.1) hsz hother;rw [set_self hp] at k1;exact ⟨rfl,⟨k1,k2,rfl,rfl,rfl,hsz.symm,hother,hnew⟩⟩
 ·refine (zeg (C.bx p) w c0).mono ?_
  rintro e w' ⟨rfl,rfl⟩;exact ⟨rfl,⟨hI,Fix.refl _ _,rfl,rfl,rfl,rfl,fun _ _ => rfl,hh⟩⟩
def WrP (C:Cx) (w:World) (bx:LP PC) (live:List Nat) (T:World -> Prop) (p t:Nat) (l:L8) (w':World):Prop :=
 ∃ C',Inv ngl T C' (bx.set p (bldC p C.nt l)) (· ∈ C.nt :: live.filter (· != t)) w' /\ C'.nt = C.nt + 1 /\ Ext C w C' (bx.set p (bldC p C.nt l)).length (· ∈ C.nt :: live.filter (· != t)) w'
theorem bld_done (hL:Low ngl T) {C:Cx} {bx:LP PC} {live:List Nat} {w w1 w2 w':World} (hI:Inv ngl T C bx (· ∈ live) w1) (hE:Ext C w C bx.length (· ∈ live) w1) (hn2:2 <= C.nt) {p t:Nat} {l l':L8} (hp:bx[p]? = some (bldC p t l)) {u self:Value} {g:Option Nat} {cap:Nat}
  (k2:Inv ngl T (C.tok g cap (pcB l').length 1) bx (· ∈ C.nt :: live.filter (· != t)) w2) (k3:Fix C w1 w2) (k4:RpC (C.tok g cap (pcB l').length 1) w2 (.sl C.nt (pcB l')) u) (k5:w2.os = w1.os) (k6:w2.tape = w1.tape) (k7:w2.output = w1.output) (k8:w1.heap.size <= w2.heap.size)
  (k9:∀ k,k < w1.heap.size -> g ≠ some k -> w2.heap[k]? = w1.heap[k]?) (k10:∀ b,g = some b -> (w1.heap.size <= b /\ ∃ cs,w2.heap[b]? = some (.cells cs 5 (0,0))) \/ (t ∈ live /\ C.tk t = some b))
  (hs:self = .pointer (some ⟨C.bx p,0,none⟩)) (hw2:∃ v1,w2.heap[C.bx p]? = some (.cells #[self,v1] 73 (0,0)))
  (hw:w' = w2.setCell ⟨C.bx p,1,none⟩ u):WrP C w bx live T p t l' w':=by
 obtain ⟨v1,hw2⟩:=hw2;subst hw
 have hlt:p < bx.length:=by
  rcases Nat.lt_or_ge p bx.length with h' | h'
  ·exact h'
  ·rw [getElem?_eq_none h'] at hp; cases hp
 have hbx:(C.tok g cap (pcB l').length 1).bx p = C.bx p:=rfl
 have hnew:(w2.setCell ⟨C.bx p,1,none⟩ u).heap[C.bx p]? = some (.cells #[self,u] 73 (0,0)):=by
  simp [World.setCell,Array.getElem?_modify,hw2]
 have hother:∀ k,k ≠ C.bx p -> (w2.setCell ⟨C.bx p,1,none⟩ u).heap[k]? = w2.heap[k]?:=by
  intro k hk;have hk':C.bx p ≠ k:=fun h => hk h.symm
  simp [World.setCell,Array.getElem?_modify,hk']
 have hsz:w2.heap.size = (w2.setCell ⟨C.bx p,1,none⟩ u).heap.size:=by simp [World.setCell]
 obtain ⟨v0',v1',hh1,_,_,hU⟩:=zgo hI hp;have htok:=(Cx.tok_new C g cap (pcB l').length 1).1
 have hgw:∀ b,g = some b -> w.heap.size <= b \/ ∃ s,C.old s /\ C.tk s = some b:=by
  intro b hb
  rcases k10 b hb with ⟨h,_⟩ | ⟨h,h'⟩
  ·have:=hE.size; exact .inl (by omega)
  ·exact hE.newT t b h h'
 obtain ⟨q1,q2⟩:=k2.write hL hlt (us:=[self,u]) (cs:=bldC p C.nt l') (e:=73) hnew (.cons (.bld _ _ _ _ _ (by show p < C.nb; rw [hI.nb]; exact hlt) _ _ hw2 (.inr hs) (.inr ⟨hn2,by simp [Cx.tok],fun b hb => by
   rw [htok] at hb
   rcases k10 b hb with ⟨_,cs,h⟩ | ⟨h,h'⟩
   ·exact ⟨cs,_,h⟩
   ·rcases hU with rfl | ⟨_,_,h3⟩
    ·have:=(hI.tok 1 h).1; omega
    ·obtain ⟨cs,fz,h4⟩:=h3 b h'
     exact k3.2 _ _ _ _ h4⟩)) (.cons k4 .nil)) (fun T cs0 h0 => by rw [hbx,hw2] at h0; simp only [sI,Obj.cells.injEq] at h0; exact h0.2.1) hsz hother
 refine ⟨_,q1,by simp [Cx.tok],?_⟩
 have hE2:Ext C w (C.tok g cap (pcB l').length 1) bx.length (· ∈ C.nt :: live.filter (· != t)) w2:=by
  refine hE.step (Cx.tok_le _ _ _ _ _) k3 k5 k6 k7 k8 (fun k hk _ ho => k9 k (by have:=hE.size; omega) (fun hgk => by
   rcases hgw k hgk with h | ⟨t,h1,h2⟩
   ·omega
   ·exact ho t h1 h2)) ?_ ?_ (fun p hp hp2 => hE.newB p hp hp2)
  ·rintro b o (hb | ⟨hb,_⟩)
   ·exact .inl hb
   ·exact .inr (hgw b hb)
  ·intro s b htl hb
   simp only [mem_cons,mem_filter] at htl;by_cases htn:s = C.nt
   ·subst htn; rw [htok] at hb; exact hgw b hb
   ·have hm:s ∈ live:=(htl.resolve_left htn).1
    rw [((Cx.tok_le C _ _ _ _).tk s (hI.tok s hm).2.1).1] at hb; exact hE.newT s b hm hb
 have hE3:=hE2.step (C':=C.tok g cap (pcB l').length 1) (nb':=bx.length) (live':=(· ∈ C.nt :: live.filter (· != t))) (CxLe.refl _) q2 rfl rfl rfl (by omega) (fun k hk hne _ => hother k fun hkp => hne p (by rw [hI.nb]; exact hlt) hkp.symm) (fun b o x => .inl x) hE2.newT hE2.newB;rw [length_set]; exact hE3
theorem zbD {bx:LP PC} {nt p t:Nat} {live:List Nat} {l:L8} (s:L8) (hp:bx[p]? = some (bldC p t l)) (ht:t = 1 \/ t ∈ live) (hlen:l.length + s.length <= 4294967296) :
  FnG (env T hT) 75 [.ref p 0,.d (pS s)] bx nt live (fun _ bx' nt' live' => bx' = bx.set p (bldC p nt (l ++ s)) /\ nt' = nt + 1 /\ live' = nt :: live.filter (· != t)):=by
 intro C w vs hI hnt hold hn2 hl hv
 match vs,hl with
 | [a0,a1],_ =>
  have g0:=hv 0 _ _ rfl rfl; have g1:=hv 1 _ _ rfl rfl
  have e1:a1 = .string ⟨s.toArray⟩:=by
   cases g1 with
   | d _ _ h => cases h; rfl
  have e0:a0 = .pointer (some ⟨C.bx p,0,none⟩):=by
   cases g0; rfl
  subst e0; subst e1
  obtain ⟨i0,hi,hz0,hz1,hz2⟩:=info_parts zfM;obtain ⟨v1,hc,hr1⟩:=ccheck hI hp hT;have HC:=Lib.hid hc; clear hc
  have hE0:=Ext.start hI hold
  have HF:=Lib.hid (fun w' (h:WrP C w bx live T p t (l ++ s) w') => show ∃ u x bx' nt' live' C',Ending.returned (.tuple #[.int .i64 s.length,.nilIface]) = .returned u /\ (bx' = bx.set p (bldC p nt (l ++ s)) /\ nt' = nt + 1 /\ live' = nt :: live.filter (· != t)) /\ Inv ngl T C' bx' (· ∈ live') w' /\ C'.nt = nt' /\ Ext C w C' bx'.length (· ∈ live') w' /\ RpV C' w' x u by
   obtain ⟨C',h1,h2,h3⟩:=h;rw [hnt] at h1 h2 h3;exact ⟨_,.raw _,_,_,_,C',rfl,⟨rfl,rfl,rfl⟩,h1,h2,h3,.raw _⟩)
  have HD:=Lib.hid (fun w1 w2 w' u self g cap hI1 hE1 => bld_done (C:=C) (w:=w) (w1:=w1) (w2:=w2) (w':=w') (u:=u) (self:=self) (g:=g) (cap:=cap) (l:=l) (l':=l ++ s) (bx:=bx) (live:=live) hT hI1 hE1 (by omega) hp);obtain ⟨b,hb⟩:∃ b,b = C.bx p:=⟨_,rfl⟩;rw [<- hb] at HC HD ⊢;have HB:=Lib.hid hb; clear hb
  show Calls Tryz.prog 75 #[.pointer (some ⟨b,0,none⟩),.string ⟨s.toArray⟩] w _
  go_enter Tryz.func75,Tryz.ntmps75
  go_wp2_with (go_at_call 95; refine HC.out.mono ?_)
  rintro e1 w1 rfl ⟨hI1,hF1,o1,o2,o3,o4,o5,hbk⟩;have hE1:Ext C w C bx.length (· ∈ live) w1:=hE0.step (CxLe.refl C) hF1 o1 o2 o3 (by omega) (fun k _ hne _ => o5 k fun h => hne p (by rw [hI.nb]; rcases Nat.lt_or_ge p bx.length with h' | h'; exact h'; rw [getElem?_eq_none h'] at hp; cases hp) (by rw [h]; exact HB.out.symm)) (fun b o x => .inl x) hE0.newT hE0.newB;have c0:w1.cell? ⟨b,0,none⟩ = some (.pointer (some ⟨b,0,none⟩)):=by rw [Lib.cell_of_heap hbk]; rfl
  have c1:w1.cell? ⟨b,1,none⟩ = some v1:=by rw [Lib.cell_of_heap hbk]; rfl
  obtain ⟨u,w2,g,cap,k1,k2,k3,k4,k5,k6,k7,k8,k9,k10⟩:=apps_run (P:=Tryz.prog) hT hI1 (by omega) (t:=22) (t':=9) (e:=5) (i:=i0) Tryz.underlying22 Tryz.underlying9 hi hz0 hz1 hz2 (hr1.frame (CxLe.refl C) hF1) ht s (by rw [zaN]; exact hlen) (zbA l) 22;have hcat:pcB l ++ pcB s = pcB (l ++ s):=by simp [pcB]
  rw [hcat] at k2 k4
  have hne:g ≠ some b:=fun h => by
   rcases k10 b h with ⟨h1,_⟩ | ⟨h1,h2⟩
   ·have:=zaw hbk; omega
   ·obtain ⟨_,_,⟨z,_⟩ | ⟨b',cur,e',d1,_,d3,_,_,_,_,_,_,d9⟩⟩:=hI1.tok t h1
    ·rw [z] at h2; cases h2
    ·rw [h2] at d1; simp only [sI] at d1; subst d1
     exact d9 p (by rcases Nat.lt_or_ge p bx.length with h' | h'; exact h'; rw [getElem?_eq_none h'] at hp; cases hp) HB.out.symm
  have hb2:w2.heap[b]? = some (.cells #[.pointer (some ⟨b,0,none⟩),v1] 73 (0,0)):=(k9 b (zaw hbk) hne).trans hbk;have HW:=Lib.hid (HD.out w1 _ _ _ _ _ _ hI1 hE1 k2 k3 k4 k5 k6 k7 k8 k9 k10 rfl ⟨v1,hb2⟩ rfl);have d0:w2.cell? ⟨b,0,none⟩ = some (.pointer (some ⟨b,0,none⟩)):=by rw [Lib.cell_of_heap hb2]; rfl
  have d1:w2.cell? ⟨b,1,none⟩ = some v1:=by rw [Lib.cell_of_heap hb2]; rfl
  have f1:w2.frozen? ⟨b,1,none⟩ = false:=Lib.frozen_of_heap hb2 1;obtain ⟨ao,cp,rfl,_⟩:=sl_form k4;clear k2 k3 k4 k5 k6 k7 k8 k9 k10 hI hI1 hE0 hE1 hF1 HD o1 o2 o3 o4 o5 hr1
  go_wp2_with (at_builtin; refine zbI rfl _ _ 22 9 rfl _ _ _ _ rfl rfl k1 ?_)
  go_wp2
  go_ret2
  exact HF.out _ HW.out
theorem ze3 {bx:LP PC} {nt p t:Nat} {live:List Nat} {l:L8} (s:UInt8) (hp:bx[p]? = some (bldC p t l)) (ht:t = 1 \/ t ∈ live) (hlen:l.length + 1 <= 4294967296) :
  FnG (env T hT) 74 [.ref p 0,.d (.v (.int .u8 s.toNat))] bx nt live (fun _ bx' nt' live' => bx' = bx.set p (bldC p nt (l ++ [s])) /\ nt' = nt + 1 /\ live' = nt :: live.filter (· != t)):=by
 intro C w vs hI hnt hold hn2 hl hv
 match vs,hl with
 | [a0,a1],_ =>
  have g0:=hv 0 _ _ rfl rfl; have g1:=hv 1 _ _ rfl rfl
  have e1:a1 = .int .u8 s.toNat:=by
   cases g1 with
   | d _ _ h => cases h; rfl
  have e0:a0 = .pointer (some ⟨C.bx p,0,none⟩):=by
   cases g0; rfl
  subst e0; subst e1
  obtain ⟨i0,hi,hz0,hz1,hz2⟩:=info_parts zfM;obtain ⟨v1,hc,hr1⟩:=ccheck hI hp hT;have HC:=Lib.hid hc; clear hc
  have hE0:=Ext.start hI hold
  have HF:=Lib.hid (fun w' (h:WrP C w bx live T p t (l ++ [s]) w') => show ∃ u x bx' nt' live' C',Ending.returned (.nilIface) = .returned u /\ (bx' = bx.set p (bldC p nt (l ++ [s])) /\ nt' = nt + 1 /\ live' = nt :: live.filter (· != t)) /\ Inv ngl T C' bx' (· ∈ live') w' /\ C'.nt = nt' /\ Ext C w C' bx'.length (· ∈ live') w' /\ RpV C' w' x u by
   obtain ⟨C',h1,h2,h3⟩:=h;rw [hnt] at h1 h2 h3;exact ⟨_,.raw _,_,_,_,C',rfl,⟨rfl,rfl,rfl⟩,h1,h2,h3,.raw _⟩)
  have HD:=Lib.hid (fun w1 w2 w' u self g cap hI1 hE1 => bld_done (C:=C) (w:=w) (w1:=w1) (w2:=w2) (w':=w') (u:=u) (self:=self) (g:=g) (cap:=cap) (l:=l) (l':=l ++ [s]) (bx:=bx) (live:=live) hT hI1 hE1 (by omega) hp);obtain ⟨b,hb⟩:∃ b,b = C.bx p:=⟨_,rfl⟩;rw [<- hb] at HC HD ⊢;have HB:=Lib.hid hb; clear hb
  show Calls Tryz.prog 74 #[.pointer (some ⟨b,0,none⟩),.int .u8 s.toNat] w _
  go_enter Tryz.func74,Tryz.ntmps74
  go_wp2_with (go_at_call 95; refine HC.out.mono ?_)
  rintro e1 w0 rfl ⟨hI1,hF1,o1,o2,o3,o4,o5,hbk⟩
  have hplt:p < bx.length:=by
   rcases Nat.lt_or_ge p bx.length with h' | h'
   ·exact h'
   ·rw [getElem?_eq_none h'] at hp; cases hp
  have hE1:Ext C w C bx.length (· ∈ live) w0:=hE0.step (CxLe.refl C) hF1 o1 o2 o3 (by omega) (fun k _ hne _ => o5 k fun h => hne p (by rw [hI.nb]; exact hplt) (by rw [h]; exact HB.out.symm)) (fun b o x => .inl x) hE0.newT hE0.newB;obtain ⟨w1,hw1⟩:∃ w1,w1 = w0.alloc (.cells #[.int .u8 s.toNat] 5):=⟨_,rfl⟩;have hI2:Inv ngl T C bx (· ∈ live) w1:=by rw [hw1]; exact hI1.alloc hT _
  have hF2:Fix C w0 w1:=by rw [hw1]; exact zcw hI1.fin _
  have hE2:Ext C w C bx.length (· ∈ live) w1:=hE1.step (CxLe.refl C) hF2 (by rw [hw1]; rfl) (by rw [hw1]; rfl) (by rw [hw1]; rfl) (by rw [hw1]; simp) (fun k hk _ _ => by rw [hw1]; exact heap_alloc_old w0 _ (by have:=hE1.size; omega)) (fun b o x => .inl x) hE1.newT hE1.newB;have hcell:w1.cell? ⟨w0.heap.size,0,none⟩ = some (.int .u8 s.toNat):=by rw [hw1,Lib.cell_of_heap (zaJ w0 _)]; rfl
  have hbk1:w1.heap[b]? = some (.cells #[.pointer (some ⟨b,0,none⟩),v1] 73 (0,0)):=by rw [hw1]; exact (heap_alloc_old w0 _ (zaw hbk)).trans hbk
  have c0:w1.cell? ⟨b,0,none⟩ = some (.pointer (some ⟨b,0,none⟩)):=by rw [Lib.cell_of_heap hbk1]; rfl
  have c1:w1.cell? ⟨b,1,none⟩ = some v1:=by rw [Lib.cell_of_heap hbk1]; rfl
  have c2:w0.cell? ⟨b,1,none⟩ = some v1:=by rw [Lib.cell_of_heap hbk]; rfl
  obtain ⟨u,w2,g,cap,k1,k2,k3,k4,k5,k6,k7,k8,k9,k10⟩:=appc_run (P:=Tryz.prog) hT hI2 (by omega) (t:=22) (e:=5) (i:=i0) Tryz.underlying22 hi hz0 hz1 hz2 ((hr1.frame (CxLe.refl C) hF1).frame (CxLe.refl C) hF2) ht s (cy:=1) hcell (by rw [zaN]; exact hlen) (zbA l) 22;have hcat:pcB l ++ pcB [s] = pcB (l ++ [s]):=by simp [pcB]
  rw [hcat] at k2 k4
  have hne:g ≠ some b:=fun h => by
   rcases k10 b h with ⟨h1,_⟩ | ⟨h1,h2⟩
   ·have:=zaw hbk1; omega
   ·obtain ⟨_,_,⟨z,_⟩ | ⟨b',cur,e',d1,_,d3,_,_,_,_,_,_,d9⟩⟩:=hI2.tok t h1
    ·rw [z] at h2; cases h2
    ·rw [h2] at d1; simp only [sI] at d1; subst d1
     exact d9 p hplt HB.out.symm
  have hb2:w2.heap[b]? = some (.cells #[.pointer (some ⟨b,0,none⟩),v1] 73 (0,0)):=(k9 b (zaw hbk1) hne).trans hbk1;have HW:=Lib.hid (HD.out w1 _ _ _ _ _ _ hI2 hE2 k2 k3 k4 k5 k6 k7 k8 k9 k10 rfl ⟨v1,hb2⟩ rfl);have d0:w2.cell? ⟨b,0,none⟩ = some (.pointer (some ⟨b,0,none⟩)):=by rw [Lib.cell_of_heap hb2]; rfl
  have d1:w2.cell? ⟨b,1,none⟩ = some v1:=by rw [Lib.cell_of_heap hb2]; rfl
  have f1:w2.frozen? ⟨b,1,none⟩ = false:=Lib.frozen_of_heap hb2 1;obtain ⟨ao,cp,rfl,_⟩:=sl_form k4;clear k2 k3 k4 k5 k6 k7 k8 k9 k10 hI hI1 hI2 hE0 hE1 hE2 hF1 hF2 HD o1 o2 o3 o4 o5 hr1;subst hw1
  go_wp2_with (at_builtin; refine zbI rfl _ _ 22 22 rfl _ _ _ _ rfl rfl k1 ?_)
  go_wp2;go_ret;exact HF.out _ HW.out
theorem cellsByteB:(Tryz.prog.cellsOf 5) = 1:=by kernel_rfl
theorem bstr_fn {bx:LP PC} {nt p t:Nat} {live:List Nat} {l:L8} (hl0:l ≠ []) (hp:bx[p]? = some (bldC p t l)) (ht:t = 1 \/ t ∈ live) :
  FnG (env T hT) 54 [.ref p 0] bx nt live (fun x bx' nt' live' => x = .d (pS l) /\ bx' = bx /\ nt' = nt /\ live' = live.filter (· != t)):=by
 intro C w vs hI hnt hold hn2 hl hv
 match vs,hl with
 | [a0],_ =>
  have g0:=hv 0 _ _ rfl rfl
  have e0:a0 = .pointer (some ⟨C.bx p,0,none⟩):=by
   cases g0; rfl
  subst e0;obtain ⟨v0,v1,hh,hv0,h1,hU⟩:=zgo hI hp;have hE0:=Ext.start hI hold;have hne:pcB l ≠ []:=by simpa [pcB] using hl0
  have hpl:0 < l.length:=by cases l with | nil => exact absurd rfl hl0 | cons => simp
  obtain ⟨g,cap,cur,rfl,htl,htk,hg,hcp,hcm,hcs,hcell⟩:∃ g cap cur,v1 = .slice (some ⟨g,0,none⟩) l.length cap /\ t ∈ live /\ C.tk t = some g /\ w.heap[g]? = some (.cells cur 5 (0,0)) /\ l.length <= cap /\ cap <= maxLen /\ l.length <= cur.size /\ ∀ j x,l[j]? = some x -> w.cell? ((⟨g,0,none⟩:Addr).add j) = some (.int .u8 x.toNat):=by
   generalize hes:pcB l = es at h1 hne
   cases h1 with
   | emp => exact absurd rfl hne
   | nil => exact absurd rfl hne
   | nilo => exact absurd rfl hne
   | rd es b o n c u hl hc hr h =>
    rcases ht with h0 | h0
    ·cases h0
    ·have:=(hI.tok 0 h0).1; omega
   | own t es b u h2 hlt hb hlen hcl hc hr h =>
    have htl:t ∈ live:=ht.resolve_left (by omega);subst hes;obtain ⟨_,_,⟨z,_⟩ | ⟨b',cur,e',d1,_,d3,d4,d5,d6,d7,_,_,_⟩⟩:=hI.tok t htl
    ·rw [hb] at z; cases z
    rw [hb] at d1; simp only [sI] at d1; subst d1
    obtain ⟨_,_,h3⟩:=hU.resolve_left (by omega);obtain ⟨cs,fz,h4⟩:=h3 b hb;rw [d3] at h4; simp only [sI,Obj.cells.injEq] at h4
    obtain ⟨_,rfl,_⟩:=h4
    have hn1:C.tn t = 1:=by
     obtain ⟨d,hd⟩:=exists_mem_of_ne_nil _ hne;rw [<- hr.wid d hd,zbA l d hd]
    rw [hn1] at d4;rw [zaN] at hcl ⊢;refine ⟨b,C.cp t,cur,rfl,htl,hb,d3,hcl,hc,by omega,fun j x hx => ?_⟩
    have hj:j < l.length:=by
     rcases Nat.lt_or_ge j l.length with h' | h'
     ·exact h'
     ·rw [getElem?_eq_none h'] at hx; cases hx
    have q1:=hr.cell j 0 (by rw [zaN]; exact hj) (by omega);have q2:=h j 0 [.v (.int .u8 x.toNat)] _ (by simp [pcB,hx]) rfl;rw [hn1,Nat.one_mul,Nat.add_zero,Nat.zero_add] at q1;rw [zaK,Nat.zero_add,q1];generalize u j 0 = y at q2
    cases q2; rfl
  obtain ⟨b,hb⟩:∃ b,b = C.bx p:=⟨_,rfl⟩;obtain ⟨hId,hFd⟩:=hI.drewn hT (w.drawn + 1);obtain ⟨q1,q2,q3,q4,q5,q6,q7⟩:=hId.froze hT (n:=l.length) htl htk;have hE1:Ext C w C bx.length (· ∈ live) { w with drawn:=w.drawn + 1 }:=hE0.step (CxLe.refl C) hFd rfl rfl rfl lR (fun _ _ _ _ => rfl) (fun b o x => .inl x) hE0.newT hE0.newB;have hE2:=hE1.step (CxLe.refl C) (live':=(· ∈ live.filter (· != t))) (nb':=bx.length) q2 q3 q4 q5 (by omega) (fun k hk hne ho => q7 k fun h => ho t (by rw [hold]; exact htl) (by rw [htk,h])) (fun b o x => .inl x) (fun s b hs hb => hE1.newT s b (mem_filter.1 hs).1 hb) hE1.newB;have HF:=Lib.hid (show ∃ u x bx' nt' live' C',Ending.returned (.string ⟨l.toArray⟩) = .returned u /\ (x = .d (pS l) /\ bx' = bx /\ nt' = nt /\ live' = live.filter (· != t)) /\ Inv ngl T C' bx' (· ∈ live') (w.drew.freeze ⟨g,0,none⟩ l.length) /\ C'.nt = nt' /\ Ext C w C' bx'.length (· ∈ live') (w.drew.freeze ⟨g,0,none⟩ l.length) /\ RpV C' (w.drew.freeze ⟨g,0,none⟩ l.length) x u from ⟨_,_,bx,nt,_,C,rfl,⟨rfl,rfl,rfl,rfl⟩,q1,hnt,hE2,.d _ _ (.v _ rfl)⟩)
  rw [<- hb] at hh hv0 ⊢;clear hb
  have c1:w.drew.cell? ⟨b,1,none⟩ = some (.slice (some ⟨g,0,none⟩) l.length cap):=by
   have:w.drew.heap[b]? = some (.cells #[v0,.slice (some ⟨g,0,none⟩) l.length cap] 73 (0,0)):=hh
   rw [Lib.cell_of_heap this]; rfl
  have hSD:(Builtin.unsafeSliceData_ #[22] 99 #[.slice (some ⟨g,0,none⟩) l.length cap]).run Tryz.prog w.drew = .ok (.pointer (some ⟨g,0,none⟩)) w.drew :=
   Lib.run_unsafeSliceData_row _ _ _ _ _ _ (by omega)
  have hUS:(Builtin.unsafeString_ #[99,3] 9 #[.pointer (some ⟨g,0,none⟩),.int .i64 l.length]).run Tryz.prog w.drew = .ok (.string ⟨l.toArray⟩) (w.drew.freeze ⟨g,0,none⟩ l.length):=by
   refine Lib.run_unsafeString_row w.drew 99 3 9 5 Tryz.underlying99 cellsByteB g cur.size (by have hg':w.drew.heap[g]? = some (.cells cur 5 (0,0)):=hg; simp [World.shape?,hg']) l hl0 (by omega) (by unfold maxLen at hcm; omega) ?_;intro j x hx;exact hcell j x hx
  clear q1 q2 q3 q4 q5 q6 q7 hE1 hE2 hE0 hI hId hFd hcell h1 hU hcs;show Calls Tryz.prog 54 #[.pointer (some ⟨b,0,none⟩)] w _
  go_enter Tryz.func54,Tryz.ntmps54
  go_wp2
  go_region
  all_goals (go_wp2; go_ret; exact HF.out)
end
section
def VSmA (n:Nat):Prop:=∀ (x y:V) (cs ds:List Value) (w:World),x.nodes <= n -> Rd w x.d cs -> Rd w y.d ds -> x.bulk <= 4294967295 -> y.bulk <= 4294967295 ->
 Calls Tryz.prog 93 #[.agg cs.toArray,.agg ds.toArray] w fun e w' => e = .returned (.bool (decide (x = y))) /\ Below w.heap.size w w'
def VSmB (n:Nat):Prop:=∀ (x y:List V) (va vb:Value) (w:World),V.nodess x <= n -> Rd w (.sl 5 (V.ds x)) [va] -> Rd w (.sl 5 (V.ds y)) [vb] -> x.length + V.bulks x <= 4294967295 -> y.length + V.bulks y <= 4294967295 ->
 Calls Tryz.prog 108 #[va,vb,.func (.func 93) #[] #[]] w fun e w' => e = .returned (.bool (decide (x = y))) /\ Below w.heap.size w w'
theorem VSmB_of {n:Nat} (hA:VSmA n):VSmB n:=by
 intro la lb va vb w hn h h2 hla hlb;obtain ⟨a,c,rfl,hg⟩:=h.values;obtain ⟨a',c',rfl,hg'⟩:=h2.values;by_cases hlen:la.length = lb.length
 ·have hlt:((la.length:Int) != (lb.length:Int)) = false:=by simp [hlen]
  have HL:=Lib.hid hlen; clear hlen
  go_enter Tryz.func108,Tryz.ntmps108
  go_wp2
  go_loopw [17] (fun i wr => ∃ (k:Nat),k <= la.length /\ i = .int .i64 k /\ la.take k = lb.take k /\ Below w.heap.size w wr) (fun i _ => la.length - (intOf i).toNat)
  case atStart => exact ⟨0,Nat.zero_le _,rfl,by simp,Below.refl _ _⟩
  case round =>
   obtain ⟨k,hk,rfl,htk,hbel⟩:=hrel;have HT:=Lib.hid htk; clear htk
   by_cases hk1:k < la.length
   ·have hk2:k < lb.length:=by have:=HL.out; omega
    obtain ⟨_,_,b,o,rfl,hb,hcell⟩:=hg (by intro e; rw [e] at hk1; simp at hk1);obtain ⟨_,_,b',o',rfl,hb',hcell'⟩:=hg' (by intro e; rw [e] at hk2; simp at hk2);obtain ⟨v0,v1,v2,v3,v4,hr,c0,c1,c2,c3,c4⟩:=hcell k hk1;obtain ⟨x0,x1,x2,x3,x4,hs,d0,d1,d2,d3,d4⟩:=hcell' k hk2;obtain ⟨k1,k2,k3,s4,a6,n6,m6,hcs⟩:=V.form hr;obtain ⟨j1,j2,j3,t4,b6,p6,q6,hds⟩:=V.form hs;simp only [cons.injEq,and_true] at hcs hds;obtain ⟨rfl,rfl,rfl,rfl,rfl⟩:=hcs;obtain ⟨rfl,rfl,rfl,rfl,rfl⟩:=hds;clear hcell hcell' hg hg';obtain ⟨hbc,_⟩:=zbd hbel;have hsz:=hbel.size;have hi1:(0:Int) <= k:=by omega
    have hi2:(k:Int) < lb.length:=by omega
    have hi3:(k:Int) < la.length:=by omega
    have hz1:b < wr.heap.size:=by omega
    have hz2:b' < wr.heap.size:=by omega
    have hnk:=Nat.le_trans (V.nodes_get la k hk1) hn;have hr':=hr.below hbel;have hs':=hs.below hbel;have hA2:=(hbel.alloc hsz (.cells #[.int .i64 k1,.int .i64 k2,.int .i64 k3,.string ⟨s4.toArray⟩,.slice a6 n6 m6] 27)).alloc (by simp; omega) (.cells #[.int .i64 j1,.int .i64 j2,.int .i64 j3,.string ⟨t4.toArray⟩,.slice b6 p6 q6] 27);by_cases he:la[k] = lb[k]
    ·have hd:=Lib.hid (decide_eq_true he)
     have HE:=Lib.hid he;clear he
     go_wp2_with (go_at_call 93; refine (hA _ _ _ _ _ hnk ((hr'.alloc _).alloc _) ((hs'.alloc _).alloc _) (V.bulk_get hla k hk1) (V.bulk_get hlb k hk2)).mono ?_; rw [hd.out]; rintro e w1 ⟨rfl,hb1⟩)
     go_roundw
     case rel => exact ⟨k + 1,by omega,by go_num,zfj HT.out hk1 hk2 HE.out,zan hA2 hb1 lR⟩
     case measure => simp [intOf] <;> omega
    ·have hd:=Lib.hid (decide_eq_false he)
     have HE:=Lib.hid (decide_eq_false (ne_of_get hk1 hk2 he));clear he
     go_wp2_with (go_at_call 93; refine (hA _ _ _ _ _ hnk ((hr'.alloc _).alloc _) ((hs'.alloc _).alloc _) (V.bulk_get hla k hk1) (V.bulk_get hlb k hk2)).mono ?_; rw [hd.out]; rintro e w1 ⟨rfl,hb1⟩)
     go_ret;exact ⟨by rw [HE.out]; rfl,zan hA2 hb1 lR⟩
   ·obtain rfl:k = la.length:=by omega
    have he:la = lb:=by have:=HT.out; rw [take_length,HL.out,take_length] at this; exact this
    have H:=Lib.hid (decide_eq_true he);clear he;go_wp2;go_ret;exact ⟨by rw [H.out]; rfl,hbel⟩
 ·have H:=Lib.hid (decide_eq_false (show ¬ la = lb from fun e => hlen (by rw [e])))
  go_enter Tryz.func108,Tryz.ntmps108
  go_wp2;go_ret;exact ⟨by rw [H.out]; rfl,Below.refl _ _⟩
theorem VSmA_of {n:Nat} (hB:VSmB n):VSmA (n + 1):=by
 intro x y cs ds w hn h h2 hx hy;obtain ⟨k,m,q,s,kids,v1,rfl,rfl,hkids⟩:=V.lay h;obtain ⟨k',m',q',s',kids',v1',rfl,rfl,hkids'⟩:=V.lay h2;have hnk:V.nodess kids <= n:=by simp only [V.nodes] at hn; omega
 simp only [V.bulk] at hx hy;have hA:=((Below.refl w.heap.size w).alloc lR (.cells #[.int .i64 k,.int .i64 m,.int .i64 q,.string ⟨s.toArray⟩,v1] 27)).alloc (by simp) (.cells #[.int .i64 k',.int .i64 m',.int .i64 q',.string ⟨s'.toArray⟩,v1'] 27);by_cases e1:k = k' /\ m = m' /\ q = q' /\ s = s'
 ·obtain ⟨rfl,rfl,rfl,rfl⟩:=e1
  go_enter Tryz.func93,Tryz.ntmps93
  go_wp2_with fail
  refine (hB _ _ _ _ _ hnk ((hkids.below hA)) (hkids'.below hA) (by omega) (by omega)).mono ?_;by_cases e4:kids = kids'
  ·subst e4
   rw [decide_eq_true rfl];rintro e w2 ⟨rfl,hb2⟩;go_wp2;go_ret;exact ⟨by simp,zan hA hb2 lR⟩
  ·have H:=Lib.hid (V.ne_mk (k:=k) (m:=m) (e:=q) (s:=s) (kids:=kids) (k':=k) (m':=m) (e':=q) (s':=s) (kids':=kids') (by simp [e4]))
   rw [decide_eq_false e4];rintro e w2 ⟨rfl,hb2⟩;clear e4;go_wp2;go_ret;exact ⟨by rw [H.out]; rfl,zan hA hb2 lR⟩
 ·have H:=Lib.hid (V.ne_mk (k:=k) (m:=m) (e:=q) (s:=s) (kids:=kids) (k':=k') (m':=m') (e':=q') (s':=s') (kids':=kids') (by rintro ⟨a,b,c,d,_⟩; exact e1 ⟨a,b,c,d⟩))
  have HA:=Lib.hid hA;by_cases c1:k = k'
  ·subst c1
   by_cases c2:m = m'
   ·subst c2
    by_cases c3:q = q'
    ·subst c3
     have c4:(s == s') = false:=by simpa using fun c => e1 ⟨rfl,rfl,rfl,c⟩
     clear e1
     go_enter Tryz.func93,Tryz.ntmps93
     go_wp2_with fail
     go_ret;exact ⟨by rw [H.out]; rfl,HA.out⟩
    ·clear e1
     have c4:(q == q') = false:=by simpa using c3
     go_enter Tryz.func93,Tryz.ntmps93
     go_wp2_with fail
     go_ret;exact ⟨by rw [H.out]; rfl,HA.out⟩
   ·clear e1
    have c4:(m == m') = false:=by simpa using c2
    go_enter Tryz.func93,Tryz.ntmps93
    go_wp2_with fail
    go_ret;exact ⟨by rw [H.out]; rfl,HA.out⟩
  ·clear e1
   have c4:(k == k') = false:=by simpa using c1
   go_enter Tryz.func93,Tryz.ntmps93
   go_wp2_with fail
   go_ret;exact ⟨by rw [H.out]; rfl,HA.out⟩
theorem VSm_all:∀ n,VSmA n
 | 0 => fun x y cs ds w hn => absurd x.nodes_pos (by omega)
 | n + 1 => VSmA_of (VSmB_of (VSm_all n))
theorem same_any (x y:V) (cs ds:List Value) (w:World) (h:Rd w x.d cs) (h2:Rd w y.d ds) (hx:x.bulk <= 4294967295) (hy:y.bulk <= 4294967295) :
  Calls Tryz.prog 93 #[.agg cs.toArray,.agg ds.toArray] w fun e w' => e = .returned (.bool (decide (x = y))) /\ Below w.heap.size w w':=VSm_all x.nodes x y cs ds w lR h h2 hx hy
end
section
theorem isKey_any (x:V) (cs:List Value) (w:World) (h:Rd w x.d cs) :
  Calls Tryz.prog 92 #[.agg cs.toArray] w fun e w' => e = .returned (.bool (isKeyK x.kind)) /\ Below w.heap.size w w':=by
 obtain ⟨k,m,e,s,kids,v1,rfl,rfl,hkids⟩:=V.lay h;have HA:=Lib.hid ((Below.refl w.heap.size w).alloc lR (.cells #[.int .i64 k,.int .i64 m,.int .i64 e,.string ⟨s.toArray⟩,v1] 27));clear h hkids;show Calls _ _ _ _ fun e' w' => e' = .returned (.bool (isKeyK k)) /\ _
 by_cases h5:k = 5
 ·subst h5
  go_enter Tryz.func92,Tryz.ntmps92
  go_wp2;go_ret;exact ⟨rfl,HA.out⟩
 ·have g5:(k == 5) = false:=by simpa using h5
  have H:=Lib.hid (show isKeyK k = (k == 3) by unfold isKeyK; rw [decide_eq_false h5,Bool.false_or]; rfl)
  go_enter Tryz.func92,Tryz.ntmps92
  go_wp2;go_ret;exact ⟨by rw [H.out]; rfl,HA.out⟩
def V.kidsOk (k:Int) (kids:List V):Bool :=
 if k = 7 then true else if k = 9 then decide (kids.length = 1) else if k = 8 then pairsOkI kids else decide (kids = [])
theorem len0' (l:List V):((l.length:Int) == 0) = decide (l = []):=by
 cases l with
 | nil => rfl
 | cons a r => simp; omega
theorem zgp (x:V) (cs:List Value) (w:World) (h:Rd w x.d cs) (hbk:x.bulk <= 4294967295) :
  Calls Tryz.prog 71 #[.agg cs.toArray] w fun e w' => e = .returned (.bool (V.kidsOk x.kind x.kids)) /\ Below w.heap.size w w':=by
 obtain ⟨q,n,e,s,xs,v1,rfl,rfl,hkids⟩:=V.lay h;have hkb:xs.length + V.bulks xs <= 4294967295:=by simp only [V.bulk] at hbk; omega
 obtain ⟨a,c,rfl,hg⟩:=hkids.values;show Calls _ _ _ _ fun e' w' => e' = .returned (.bool (V.kidsOk q xs)) /\ _
 obtain ⟨ok,hok⟩:∃ ok,V.kidsOk q xs = ok:=⟨_,rfl⟩;rw [hok];have HOK:=Lib.hid hok; clear hok
 obtain ⟨W0,hW0⟩:∃ W0,W0 = w.alloc (.cells #[.int .i64 q,.int .i64 n,.int .i64 e,.string ⟨s.toArray⟩,.slice a xs.length c] 27):=⟨_,rfl⟩;have HW:=Lib.hid hW0;have hA0:Below w.heap.size w W0:=by rw [hW0]; exact (Below.refl _ _).alloc lR _
 have hz:w.heap.size < W0.heap.size:=by rw [hW0]; simp
 have KB:Hid (∀ W,Below W0.heap.size W0 W -> W.cell? ⟨w.heap.size,0,none⟩ = some (.int .i64 q) /\ W.cell? ⟨w.heap.size,4,none⟩ = some (.slice a xs.length c)):=by
  intro W hb;obtain ⟨hc,_⟩:=zbd hb;simp only [hc _ _ hz]; subst hW0; simp
 clear hW0 h hkids hbk;obtain ⟨f0,f4⟩:=KB.out _ (Below.refl _ _);by_cases q7:q = 7
 ·subst q7
  have H:=Lib.hid (show ok = true by rw [<- HOK.out]; rfl)
  go_enter Tryz.func71,Tryz.ntmps71
  go_wp2;rw [<- HW.out];go_ret;exact ⟨by rw [H.out]; rfl,hA0⟩
 by_cases q9:q = 9
 ·subst q9
  have H:=Lib.hid (show ok = decide (xs.length = 1) by rw [<- HOK.out]; rfl)
  go_enter Tryz.func71,Tryz.ntmps71
  go_wp2;rw [<- HW.out];go_ret;exact ⟨by rw [H.out]; exact zax (by rw [Bool.eq_iff_iff]; simp; omega),hA0⟩
 by_cases q8:q = 8
 ·subst q8
  have HP:=Lib.hid (show ok = pairsOkI xs by rw [<- HOK.out]; rfl);obtain ⟨ks,hks⟩:∃ ks,odds xs = ks:=⟨_,rfl⟩;have hkl:ks.length = (xs.length + 1) / 2:=by rw [<- hks,za7]
  have HKG:Hid (∀ j (h1:2 * j < xs.length) (h2:j < ks.length),ks[j] = xs[2 * j]):=by
   intro j h1 h2; subst hks; exact zdm xs j h1
  have HKS:=Lib.hid hks; clear hks
  clear q7 q9
  go_enter Tryz.func71,Tryz.ntmps71
  go_wp2;rw [<- HW.out]
  go_loopw [3] (fun i wr => ∃ (j k:Nat),k = 2 * j /\ j <= ks.length /\ i = .int .i64 k /\ uniq id (ks.take j) = true /\ Below W0.heap.size W0 wr) (fun i _ => xs.length + 1 - (intOf i).toNat)
  case atStart => exact ⟨0,0,rfl,Nat.zero_le _,rfl,by simp [uniq],Below.refl _ _⟩
  case round =>
   obtain ⟨j,k,hkj,hj,rfl,hu,hbel⟩:=hrel;have HKJ:=Lib.hid hkj;have HU:=Lib.hid hu; clear hu f0 f4
   obtain ⟨f0,f4⟩:=KB.out _ hbel;have hbw:=zan hA0 hbel lR;by_cases hlt:k < xs.length
   ·have hjk:j < ks.length:=by omega
    have hkk:=HKG.out j (by omega) hjk;obtain ⟨_,_,b,o,rfl,hb,hcell⟩:=hg (by intro e; rw [e] at hlt; simp at hlt);have HC:=Lib.hid hcell;obtain ⟨v0,v1,v2,v3,v4,hr,d0,d1,d2,d3,d4⟩:=hcell k hlt;clear hcell;obtain ⟨k1,k2,k3,s4,a6,n6,m6,hcs⟩:=V.form hr;simp only [cons.injEq,and_true] at hcs;obtain ⟨rfl,rfl,rfl,rfl,rfl⟩:=hcs;have hbc:=(zbd hbw).1;rw [<- hbc _ _ hb] at d0 d1 d2 d3 d4;have HX:=Lib.hid (show ks[j] = xs[k] by rw [hkk]; subst hkj; rfl);have hi1:(0:Int) <= k:=by omega
    have hi3:(k:Int) < xs.length:=by omega
    have hbz:b < W0.heap.size:=by have:=hA0.size; omega
    have HD:Hid (∀ W,Below W0.heap.size W0 W -> W.cell? ⟨b,o + k * 5,none⟩ = some (.int .i64 k1) /\ W.cell? ⟨b,o + k * 5 + 1,none⟩ = some (.int .i64 k2) /\ W.cell? ⟨b,o + k * 5 + 2,none⟩ = some (.int .i64 k3) /\ W.cell? ⟨b,o + k * 5 + 3,none⟩ = some (.string ⟨s4.toArray⟩) /\ W.cell? ⟨b,o + k * 5 + 4,none⟩ = some (.slice a6 n6 m6)):=by
     intro W hW;have h1:=(zbd hW).1;have h2:=(zbd hbel).1;rw [h2 _ _ hbz] at d0 d1 d2 d3 d4;simp only [h1 _ _ hbz]; exact ⟨d0,d1,d2,d3,d4⟩
    have HK1:=Lib.hid (fun W (hW:Below W0.heap.size W0 W) => isKey_any xs[k] _ W (hr.below (zan hA0 hW lR)));have HXR:=Lib.hid (fun W (hW:Below W0.heap.size W0 W) => (hr.below (zan hA0 hW lR)));clear hbc hkk hkj hr
    cases hkey:isKeyK xs[k].kind with
    | true =>
     have HK:=Lib.hid hkey; clear hkey
     go_wp2_with (go_at_call 92; refine (HK1.out _ hbel).mono ?_; rw [HK.out]; rintro e w1 ⟨rfl,hb1⟩; have hbe1:=zan hbel hb1 lR; clear d0 d1 d2 d3 d4 f0 f4; obtain ⟨f0,f4⟩:=KB.out _ hbe1)
     go_loopw [4] (fun i wr => ∃ (m r:Nat),r = 2 * m /\ m <= j /\ i = .int .i64 r /\ xs[k] ∉ ks.take m /\ Below W0.heap.size W0 wr) (fun i _ => k + 1 - (intOf i).toNat)
     case atStart => exact ⟨0,0,rfl,Nat.zero_le _,rfl,by simp,hbe1⟩
     case round =>
      obtain ⟨m,r,hrm,hm,rfl,hni,hbel2⟩:=hrel;have HRM:=Lib.hid hrm;have HNI:=Lib.hid hni; clear hni
      have hkj:=HKJ.out;have hbw2:=zan hA0 hbel2 lR;clear f0 f4;obtain ⟨f0,f4⟩:=KB.out _ hbel2;by_cases hml:r < k
      ·have hrx:r < xs.length:=by omega
       have hmk:m < ks.length:=by omega
       have hmm:=HKG.out m (by omega) hmk;obtain ⟨u0,u1,u2,u3,u4,hr2,e0,e1,e2,e3,e4⟩:=HC.out r hrx;obtain ⟨y1,y2,y3,t4,b6,p6,r6,hcs2⟩:=V.form hr2;simp only [cons.injEq,and_true] at hcs2;obtain ⟨rfl,rfl,rfl,rfl,rfl⟩:=hcs2;have HY:=Lib.hid (show ks[m] = xs[r] by rw [hmm]; subst hrm; rfl)
       have HE:Hid (∀ W,Below W0.heap.size W0 W -> W.cell? ⟨b,o + r * 5,none⟩ = some (.int .i64 y1) /\ W.cell? ⟨b,o + r * 5 + 1,none⟩ = some (.int .i64 y2) /\ W.cell? ⟨b,o + r * 5 + 2,none⟩ = some (.int .i64 y3) /\ W.cell? ⟨b,o + r * 5 + 3,none⟩ = some (.string ⟨t4.toArray⟩) /\ W.cell? ⟨b,o + r * 5 + 4,none⟩ = some (.slice b6 p6 r6)):=by
        intro W hW;have h1:=(zbd (zan hA0 hW lR)).1;simp only [h1 _ _ hb]; exact ⟨e0,e1,e2,e3,e4⟩
       have hj1:(0:Int) <= r:=by omega
       have hj3:(r:Int) < xs.length:=by omega
       have hj5:(r:Int) < k:=by omega
       have hm5:m < j:=by omega
       have hr5:r + 2 < k + 3:=by omega
       have HS:=Lib.hid (fun W (hW:Below W0.heap.size W0 W) => same_any xs[k] xs[r] _ _ W (HXR.out W hW) (hr2.below (zan hA0 hW lR)) (V.bulk_get hkb k hlt) (V.bulk_get hkb r hrx));have hB:=hbel2;clear hmm hrm hkj e0 e1 e2 e3 e4 hr2 f0 f4;by_cases heq:xs[k] = xs[r]
       ·have HQ:=Lib.hid (decide_eq_true heq)
        have HF:=Lib.hid (show ok = false by
         rw [HP.out]; unfold pairsOkI; rw [HKS.out,zd2 hjk (by
          rw [HX.out,map_id];exact mem_take_iff_getElem.2 ⟨m,by omega,by rw [HY.out,<- heq]; rfl⟩)]; rfl)
        clear heq
        go_wp2_with fail
        go_region_held3 (fun W => (W.cell? ⟨w.heap.size,0,none⟩ = some (.int .i64 8) /\ W.cell? ⟨w.heap.size,4,none⟩ = some (.slice (some ⟨b,o,none⟩) xs.length c)) /\ (W.cell? ⟨b,o + k * 5,none⟩ = some (.int .i64 k1) /\ W.cell? ⟨b,o + k * 5 + 1,none⟩ = some (.int .i64 k2) /\ W.cell? ⟨b,o + k * 5 + 2,none⟩ = some (.int .i64 k3) /\ W.cell? ⟨b,o + k * 5 + 3,none⟩ = some (.string ⟨s4.toArray⟩) /\ W.cell? ⟨b,o + k * 5 + 4,none⟩ = some (.slice a6 n6 m6)) /\ W.cell? ⟨b,o + r * 5,none⟩ = some (.int .i64 y1) /\ W.cell? ⟨b,o + r * 5 + 1,none⟩ = some (.int .i64 y2) /\ W.cell? ⟨b,o + r * 5 + 2,none⟩ = some (.int .i64 y3) /\ W.cell? ⟨b,o + r * 5 + 3,none⟩ = some (.string ⟨t4.toArray⟩) /\ W.cell? ⟨b,o + r * 5 + 4,none⟩ = some (.slice b6 p6 r6))
         (first | exact ⟨KB.out _ hB,HD.out _ hB,HE.out _ hB⟩ | exact ⟨KB.out _ hB.drew,HD.out _ hB.drew,HE.out _ hB.drew⟩)
         (first | (go_at_call 93; with_reducible refine (HS.out _ (by first | exact hB | exact hB.drew)).mono ?_; rw [HQ.out]; rintro e w2 ⟨rfl,hb2⟩; replace hB:=zan (by first | exact hB | exact hB.drew) hb2 lR))
        go_wp2;go_ret;exact ⟨by rw [HF.out]; rfl,zan hA0 hB lR⟩
       ·have HQ:=Lib.hid (decide_eq_false heq)
        have HM:Hid (xs[k] ∉ ks.take (m + 1)):=by
         show _ ∉ _;rw [take_succ_eq_append_getElem hmk,mem_append,HY.out];rintro (h | h)
         ·exact HNI.out h
         ·exact heq (by simpa using h)
        clear heq
        go_wp2_with fail
        go_region_held3 (fun W => (W.cell? ⟨w.heap.size,0,none⟩ = some (.int .i64 8) /\ W.cell? ⟨w.heap.size,4,none⟩ = some (.slice (some ⟨b,o,none⟩) xs.length c)) /\ (W.cell? ⟨b,o + k * 5,none⟩ = some (.int .i64 k1) /\ W.cell? ⟨b,o + k * 5 + 1,none⟩ = some (.int .i64 k2) /\ W.cell? ⟨b,o + k * 5 + 2,none⟩ = some (.int .i64 k3) /\ W.cell? ⟨b,o + k * 5 + 3,none⟩ = some (.string ⟨s4.toArray⟩) /\ W.cell? ⟨b,o + k * 5 + 4,none⟩ = some (.slice a6 n6 m6)) /\ W.cell? ⟨b,o + r * 5,none⟩ = some (.int .i64 y1) /\ W.cell? ⟨b,o + r * 5 + 1,none⟩ = some (.int .i64 y2) /\ W.cell? ⟨b,o + r * 5 + 2,none⟩ = some (.int .i64 y3) /\ W.cell? ⟨b,o + r * 5 + 3,none⟩ = some (.string ⟨t4.toArray⟩) /\ W.cell? ⟨b,o + r * 5 + 4,none⟩ = some (.slice b6 p6 r6))
         (first | exact ⟨KB.out _ hB,HD.out _ hB,HE.out _ hB⟩ | exact ⟨KB.out _ hB.drew,HD.out _ hB.drew,HE.out _ hB.drew⟩)
         (first | (go_at_call 93; with_reducible refine (HS.out _ (by first | exact hB | exact hB.drew)).mono ?_; rw [HQ.out]; rintro e w2 ⟨rfl,hb2⟩; replace hB:=zan (by first | exact hB | exact hB.drew) hb2 lR))
        go_wp2;go_roundw
        case rel => exact ⟨m + 1,r + 2,by have:=HRM.out; omega,by omega,by go_num,HM.out,hB⟩
        case measure => simp [intOf]; omega
      ·obtain rfl:m = j:=by omega
       have HM:Hid (uniq id (ks.take (m + 1)) = true):=zd1 hjk HU.out (by rw [HX.out]; exact HK.out) (by rw [HX.out,map_id]; exact HNI.out);clear hrm hkj;go_wp2;go_roundw
       case rel => exact ⟨m + 1,k + 2,by have:=HKJ.out; omega,by omega,by go_num,HM.out,hbel2⟩
       case measure => simp [intOf]; omega
    | false =>
     have HK:=Lib.hid hkey;have HF:=Lib.hid (show ok = false by rw [HP.out]; unfold pairsOkI; rw [HKS.out,zfH hjk (by rw [HX.out]; exact hkey)]; rfl);clear hkey
     go_wp2_with (go_at_call 92; refine (HK1.out _ hbel).mono ?_; rw [HK.out]; rintro e w1 ⟨rfl,hb1⟩)
     go_ret;exact ⟨by rw [HF.out]; rfl,zan hbw hb1 lR⟩
   ·obtain rfl:j = ks.length:=by omega
    clear hkj;have h1:=HU.out;rw [take_length] at h1;have HF:=Lib.hid (show ok = decide (xs.length % 2 = 0) by rw [HP.out]; unfold pairsOkI; rw [HKS.out,h1]; rfl);clear h1;go_wp2;go_ret;exact ⟨by rw [HF.out]; exact zax (by rw [Bool.eq_iff_iff]; simp <;> omega),hbw⟩
 ·have H:=Lib.hid (show ok = decide (xs = []) by rw [<- HOK.out]; unfold V.kidsOk; rw [if_neg q7,if_neg q9,if_neg q8])
  have g7:(q == 7) = false:=by simpa using q7
  have g8:(q == 8) = false:=by simpa using q8
  have g9:(q == 9) = false:=by simpa using q9
  go_enter Tryz.func71,Tryz.ntmps71
  go_wp2;rw [<- HW.out];go_ret;exact ⟨by rw [H.out,<- len0']; rfl,hA0⟩
end
end Go.Proofs.YtdggnhnkpejciaaGreatDoor
/-
  DERIVED: THE SHELF's CONTRACTS AT THIS DUMP, IN PLAIN WORDS (tools/lay-plain.mjs out of 'TryzShelf.lean', which tools/lay-shelf.mjs wrote): THE SAME DECLARATIONS UNDER THE SAME NAMES: 'import', 'namespace', 'open', 'def', 'theorem' AND NOTHING ELSE: no command of the shelf's: FOR A HAND-IN. Each laying: the table of numbers ('.._ren') and one theorem, a field a fact of the dump's own or the kernel's comparison; each contract: ONE APPLICATION.
-/
namespace Go.Proofs
open Go.Shelf
def Tryz.laysValid_ren:Go.Shelf.Ren:=⟨fun | 196 => 107 | 259 => 112 | n => n,fun | 9 => 9 | 4 => 4 | 3 => 3 | 5 => 5 | 12 => 12 | 119 => 121 | 0 => 0 | 46 => 57 | 139 => 124 | 138 => 123 | 53 => 48 | n => n,fun | 3 => 0 | 4 => 1 | n => n⟩
theorem Tryz.laysValid:Go.Proofs.Lays.n196 Tryz.prog Tryz.laysValid_ren:={
 mixed:=by kernel_rfl
 f196:=Tryz.func107.trans (congrArg some (by kernel_rfl))
 f259:=Tryz.func112.trans (congrArg some (by kernel_rfl))
 t0:=Tryz.underlying0
 a0:=Tryz.isAgg0
 z0:=Tryz.sizeOf0
 v0:=Tryz.zeroValue0
 t3:=Tryz.underlying3
 a3:=Tryz.isAgg3
 z3:=Tryz.sizeOf3
 v3:=Tryz.zeroValue3
 t4:=Tryz.underlying4
 a4:=Tryz.isAgg4
 z4:=Tryz.sizeOf4
 v4:=Tryz.zeroValue4
 t5:=Tryz.underlying5
 a5:=Tryz.isAgg5
 z5:=Tryz.sizeOf5
 v5:=Tryz.zeroValue5
 t9:=Tryz.underlying9
 a9:=Tryz.isAgg9
 z9:=Tryz.sizeOf9
 v9:=Tryz.zeroValue9
 t12:=Tryz.underlying12
 a12:=Tryz.isAgg12
 z12:=Tryz.sizeOf12
 v12:=Tryz.zeroValue12
 t46:=Tryz.underlying57
 a46:=Tryz.isAgg57
 z46:=Tryz.sizeOf57
 v46:=Tryz.zeroValue57
 t53:=Tryz.underlying48
 a53:=Tryz.isAgg48
 z53:=Tryz.sizeOf48
 v53:=Tryz.zeroValue48
 t119:=Tryz.underlying121
 a119:=Tryz.isAgg121
 z119:=Tryz.sizeOf121
 t138:=Tryz.underlying123
 a138:=Tryz.isAgg123
 z138:=Tryz.sizeOf123
 v138:=Tryz.zeroValue123
 t139:=Tryz.underlying124
 a139:=Tryz.isAgg124
 z139:=Tryz.sizeOf124
 v139:=Tryz.zeroValue124
 g3:=by kernel_rfl
 g4:=by kernel_rfl }
open Go.RowKit Go.Lib in
theorem Tryz.utf8_ValidString (s:ByteArray) (w:World) (hs:s.size <= 9223372036854775807) (hT:Lib.Utf8Tabs 0 1 w) :
  Calls Tryz.prog 107 #[.string s] w fun e w' => e = .returned (.bool (Lib.validD s.data.toList)) /\ Below w.heap.size w w':=Any.utf8_ValidString Tryz.laysValid s w hs hT
end Go.Proofs
namespace Go.Proofs.YtdggnhnkpejciaaGreatDoor
open Go.RowKit
set_option maxHeartbeats 4000000
set_option maxRecDepth 100000
open List
section
open Go.Lib (validD)
def Tabs (w:World):Prop:=Lib.Utf8Tabs 0 1 w
theorem Tabs.below {w w':World} (h:Tabs w) (hb:Below w.heap.size w w'):Tabs w':=Utf8Tabs_below h hb
theorem Tabs.lt {w:World} (h:Tabs w):0 < w.heap.size /\ 1 < w.heap.size:=by
 have key:∀ {b o:Nat} {v:Value},w.cell? ⟨b,o,none⟩ = some v -> b < w.heap.size:=by
  intro b o v h; apply Classical.byContradiction; intro hn
  simp [World.cell?,Array.getElem?_eq_none (Nat.le_of_not_lt hn)] at h
 exact ⟨key (h.1 0 (by decide)),key (h.2 0 (by decide)).1⟩
theorem Tabs.below' {B:Nat} {w w':World} (h:Tabs w) (hb:Below B w w') (h1:0 < B) (h2:1 < B):Tabs w':=by
 refine ⟨fun c hc => ?_,fun i hi => ?_⟩
 ·rw [hb.cell (p:=⟨_,_,none⟩) h1]; exact h.1 c hc
 ·rw [hb.cell (p:=⟨_,_,none⟩) h2,hb.cell (p:=⟨_,_,none⟩) h2]; exact h.2 i hi
theorem Tabs.alloc {w:World} (h:Tabs w) (o:Obj):Tabs (w.alloc o):=h.below ((Below.refl _ _).alloc lR o)
theorem zd4 (l:L8) (w:World) (hl:l.length <= 4294967295) (hT:Tabs w) :
  Calls Tryz.prog 91 #[.string ⟨l.toArray⟩] w fun e w' => e = .returned (.bool (validD l)) /\ Below w.heap.size w w':=by
 have HC:=Lib.hid (Tryz.utf8_ValidString ⟨l.toArray⟩ w (by simp [ByteArray.size]; omega) hT)
 go_enter Tryz.func91,Tryz.ntmps91
 go_wp2_with (go_at_call 107; refine HC.out.mono ?_; rintro e w1 ⟨rfl,hb1⟩)
 go_ret;exact ⟨rfl,hb1⟩
end
section
open Go.Lib (validD)
def V.node:V -> Bool
 | .mk k n e s _ =>
  if k = 0 \/ k = 1 \/ k = 2 \/ k = 7 \/ k = 8 then decide (n = 0) && (decide (e = 0) && decide (s = []))
  else if k = 3 then decide (e = 0) && decide (s = [])
  else if k = 4 then decOk n e && decide (s = [])
  else if k = 5 then decide (s.length <= 2000) && (validD s && (decide (n = 0) && decide (e = 0)))
  else if k = 6 then decide (s.length <= 2000) && (decide (n = 0) && decide (e = 0))
  else if k = 9 then inR n 0 1000000 && (decide (e = 0) && decide (s = []))
  else false
theorem V.selfI_node (x:V):x.selfI = (x.node && V.kidsOk x.kind x.kids):=by
 obtain ⟨k,n,e,s,kids⟩:=x;show V.selfBy pairsOkI _ = (_ && V.kidsOk k kids);unfold V.node V.kidsOk V.selfBy;by_cases h0:k = 0 \/ k = 1 \/ k = 2
 ·rcases h0 with rfl | rfl | rfl <;> simp [Bool.and_assoc]
 by_cases h3:k = 3
 ·subst h3; simp [Bool.and_assoc]
 by_cases h4:k = 4
 ·subst h4; simp [Bool.and_assoc]
 by_cases h5:k = 5
 ·subst h5
  show (decide (n = 0) && (decide (e = 0) && (validD s && (decide (s.length <= 2000) && decide (kids = []))))) = ((decide (s.length <= 2000) && (validD s && (decide (n = 0) && decide (e = 0)))) && decide (kids = []))
  cases decide (n = 0) <;> cases decide (e = 0) <;> cases validD s <;> cases decide (s.length <= 2000) <;> cases decide (kids = []) <;> rfl
 by_cases h6:k = 6
 ·subst h6
  show (decide (n = 0) && (decide (e = 0) && (decide (s.length <= 2000) && decide (kids = [])))) = ((decide (s.length <= 2000) && (decide (n = 0) && decide (e = 0))) && decide (kids = []))
  cases decide (n = 0) <;> cases decide (e = 0) <;> cases decide (s.length <= 2000) <;> cases decide (kids = []) <;> rfl
 by_cases h7:k = 7
 ·subst h7; simp
 by_cases h8:k = 8
 ·subst h8; simp [Bool.and_assoc]
 by_cases h9:k = 9
 ·subst h9; simp [Bool.and_assoc]
 ·have a0:k ≠ 0:=fun e => h0 (.inl e)
  have a1:k ≠ 1:=fun e => h0 (.inr (.inl e))
  have a2:k ≠ 2:=fun e => h0 (.inr (.inr e))
  simp [a0,a1,a2,h3,h4,h5,h6,h7,h8,h9]
theorem isNode_any (x:V) (cs:List Value) (w:World) (h:Rd w x.d cs) (hwf:x.wf) (hbk:x.bulk <= 4294967295) (hT:Tabs w) :
  Calls Tryz.prog 70 #[.agg cs.toArray] w fun e w' => e = .returned (.bool x.node) /\ Below w.heap.size w w':=by
 obtain ⟨k,n,e,s,kids,v1,rfl,rfl,hkids⟩:=V.lay h;obtain ⟨a1,c1,rfl⟩:=Rd.sl_form hkids;rw [V.ds_map,length_map] at h ⊢;have hsl:s.length <= 4294967295:=by simp only [V.bulk] at hbk; omega
 have HD:=Lib.hid (fun w1 (hb:Below w.heap.size w w1) => isDec_any _ _ w1 (h.below hb) hwf);clear h hkids hbk hwf;obtain ⟨ok,hok⟩:∃ ok,V.node (.mk k n e s kids) = ok:=⟨_,rfl⟩;rw [hok];have HOK:=Lib.hid hok; clear hok
 by_cases q0:k = 0
 ·subst q0
  go_enter Tryz.func70,Tryz.ntmps70
  go_wp2
  all_goals (go_ret; refine ⟨zax ?_,by first | exact ((Below.refl _ _).alloc lR _).alloc (by simp) _ | exact below_drewN (((Below.refl _ _).alloc lR _).alloc (by simp) _) _⟩; rw [<- HOK.out]; simp_all [V.node,isE])
 by_cases q1:k = 1
 ·subst q1
  go_enter Tryz.func70,Tryz.ntmps70
  go_wp2
  all_goals (go_ret; refine ⟨zax ?_,by first | exact ((Below.refl _ _).alloc lR _).alloc (by simp) _ | exact below_drewN (((Below.refl _ _).alloc lR _).alloc (by simp) _) _⟩; rw [<- HOK.out]; simp_all [V.node,isE])
 by_cases q2:k = 2
 ·subst q2
  go_enter Tryz.func70,Tryz.ntmps70
  go_wp2
  all_goals (go_ret; refine ⟨zax ?_,by first | exact ((Below.refl _ _).alloc lR _).alloc (by simp) _ | exact below_drewN (((Below.refl _ _).alloc lR _).alloc (by simp) _) _⟩; rw [<- HOK.out]; simp_all [V.node,isE])
 by_cases q7:k = 7
 ·subst q7
  go_enter Tryz.func70,Tryz.ntmps70
  go_wp2
  all_goals (go_ret; refine ⟨zax ?_,by first | exact ((Below.refl _ _).alloc lR _).alloc (by simp) _ | exact below_drewN (((Below.refl _ _).alloc lR _).alloc (by simp) _) _⟩; rw [<- HOK.out]; simp_all [V.node,isE])
 by_cases q8:k = 8
 ·subst q8
  go_enter Tryz.func70,Tryz.ntmps70
  go_wp2
  all_goals (go_ret; refine ⟨zax ?_,by first | exact ((Below.refl _ _).alloc lR _).alloc (by simp) _ | exact below_drewN (((Below.refl _ _).alloc lR _).alloc (by simp) _) _⟩; rw [<- HOK.out]; simp_all [V.node,isE])
 by_cases q3:k = 3
 ·subst q3
  go_enter Tryz.func70,Tryz.ntmps70
  go_wp2
  all_goals (go_ret; refine ⟨zax ?_,by first | exact ((Below.refl _ _).alloc lR _).alloc (by simp) _ | exact below_drewN (((Below.refl _ _).alloc lR _).alloc (by simp) _) _⟩; rw [<- HOK.out]; simp_all [V.node,isE])
 by_cases q9:k = 9
 ·subst q9
  by_cases g:0 <= n /\ n <= 1000000
  ·have H:=Lib.hid (show ok = (decide (e = 0) && decide (s = [])) by rw [<- HOK.out]; simp [V.node,zaB g])
   go_enter Tryz.func70,Tryz.ntmps70
   go_wp2
   all_goals (go_ret; refine ⟨zax ?_,by first | exact ((Below.refl _ _).alloc lR _).alloc (by simp) _ | exact (((Below.refl _ _).alloc lR _).alloc (by simp) _).setCell (by simp) _⟩; rw [H.out]; simp_all [isE])
  ·have H:=Lib.hid (show ok = false by rw [<- HOK.out]; simp [V.node,za4 g])
   have H2:=Lib.hid (za4 g)
   go_enter Tryz.func70,Tryz.ntmps70
   go_wp2_with (go_at_call 47; refine (zaM _ _ _ _).mono ?_; rw [H2.out]; rintro e1 w1 ⟨rfl,rfl⟩)
   all_goals (go_ret; exact ⟨by rw [H.out]; rfl,((Below.refl _ _).alloc lR _).alloc (by simp) _⟩)
 by_cases q6:k = 6
 ·subst q6
  by_cases g:s.length <= 2000
  ·have H:=Lib.hid (show ok = (decide (n = 0) && decide (e = 0)) by rw [<- HOK.out]; simp [V.node,g])
   go_enter Tryz.func70,Tryz.ntmps70
   go_wp2
   all_goals (go_ret; refine ⟨zax ?_,by first | exact ((Below.refl _ _).alloc lR _).alloc (by simp) _ | exact (((Below.refl _ _).alloc lR _).alloc (by simp) _).setCell (by simp) _⟩; rw [H.out]; simp_all [])
  ·have H:=Lib.hid (show ok = false by rw [<- HOK.out]; simp [V.node,g])
   have g':(2000:Int) < s.length:=by omega
   go_enter Tryz.func70,Tryz.ntmps70
   go_wp2
   all_goals (go_ret; exact ⟨by rw [H.out]; rfl,((Below.refl _ _).alloc lR _).alloc (by simp) _⟩)
 by_cases q5:k = 5
 ·subst q5
  by_cases g:s.length <= 2000
  ·have g':¬ (2000:Int) < s.length:=by omega
   have g2:=decide_eq_false g'
   cases hv:validD s with
   | true =>
    have HV:=Lib.hid hv;have H:=Lib.hid (show ok = (decide (n = 0) && decide (e = 0)) by rw [<- HOK.out]; simp [V.node,g,hv]);clear hv
    go_enter Tryz.func70,Tryz.ntmps70
    go_wp2_with (go_at_call 91; refine (zd4 s _ hsl (hT.below (((Below.refl _ _).alloc lR _).alloc (by simp) _))).mono ?_; rw [HV.out]; rintro e1 w1 ⟨rfl,hb1⟩; have C:=(zbd hb1).1; have F:=(zbd hb1).2; have hz1:=hb1.size; have z1:w.heap.size < w1.heap.size:=(by simp at hz1; omega); have z2:w.heap.size + 1 < w1.heap.size:=(by simp at hz1; omega); have f1:w1.cell? ⟨w.heap.size,1,none⟩ = some (.int .i64 n):=(by rw [C _ _ (by simp <;> omega)]; simp [go_sem]); have f2:w1.cell? ⟨w.heap.size,2,none⟩ = some (.int .i64 e):=(by rw [C _ _ (by simp <;> omega)]; simp [go_sem]); have f3:w1.cell? ⟨w.heap.size,3,none⟩ = some (.string ⟨s.toArray⟩):=(by rw [C _ _ (by simp <;> omega)]; simp [go_sem]); have p1:w1.cell? ⟨w.heap.size + 1,1,none⟩ = some (.int .i64 0):=(by rw [C _ _ (by simp <;> omega)]; simp [go_sem]); have p2:w1.cell? ⟨w.heap.size + 1,2,none⟩ = some (.int .i64 0):=(by rw [C _ _ (by simp <;> omega)]; simp [go_sem]); have p3:w1.cell? ⟨w.heap.size + 1,3,none⟩ = some (.string ⟨#[]⟩):=(by rw [C _ _ (by simp <;> omega)]; simp [go_sem]); have p9:w1.frozen? ⟨w.heap.size + 1,3,none⟩ = false:=(by rw [F _ _ (by simp <;> omega)]; simp [go_sem]); clear C F hz1)
    all_goals (go_ret; refine ⟨zax ?_,by first | exact (zan (((Below.refl _ _).alloc lR _).alloc (by simp) _) hb1 lR).setCell (by simp) _ | exact zan (((Below.refl _ _).alloc lR _).alloc (by simp) _) hb1 lR⟩; rw [H.out]; simp_all [])
   | false =>
    have HV:=Lib.hid hv;have H:=Lib.hid (show ok = false by rw [<- HOK.out]; simp [V.node,hv]);clear hv
    go_enter Tryz.func70,Tryz.ntmps70
    go_wp2_with (go_at_call 91; refine (zd4 s _ hsl (hT.below (((Below.refl _ _).alloc lR _).alloc (by simp) _))).mono ?_; rw [HV.out]; rintro e1 w1 ⟨rfl,hb1⟩)
    go_ret;exact ⟨by rw [H.out]; rfl,zan (((Below.refl _ _).alloc lR _).alloc (by simp) _) hb1 lR⟩
  ·have H:=Lib.hid (show ok = false by rw [<- HOK.out]; simp [V.node,g])
   have g':(2000:Int) < s.length:=by omega
   go_enter Tryz.func70,Tryz.ntmps70
   go_wp2
   all_goals (go_ret; exact ⟨by rw [H.out]; rfl,((Below.refl _ _).alloc lR _).alloc (by simp) _⟩)
 by_cases q4:k = 4
 ·subst q4
  cases hv:decOk n e with
  | true =>
   have HV:=Lib.hid (show decOk (V.num (.mk 4 n e s kids)) (V.exp (.mk 4 n e s kids)) = true from hv);have H:=Lib.hid (show ok = decide (s = []) by rw [<- HOK.out]; simp [V.node,hv]);clear hv
   go_enter Tryz.func70,Tryz.ntmps70
   go_wp2_with (go_at_call 90; refine (HD.out _ (((Below.refl _ _).alloc lR _).alloc (by simp) _)).mono ?_; rw [HV.out]; rintro e1 w1 ⟨rfl,hb1⟩; have C:=(zbd hb1).1; have F:=(zbd hb1).2; have hz1:=hb1.size; have z1:w.heap.size < w1.heap.size:=(by simp at hz1; omega); have z2:w.heap.size + 1 < w1.heap.size:=(by simp at hz1; omega); have f1:w1.cell? ⟨w.heap.size,1,none⟩ = some (.int .i64 n):=(by rw [C _ _ (by simp <;> omega)]; simp [go_sem]); have f2:w1.cell? ⟨w.heap.size,2,none⟩ = some (.int .i64 e):=(by rw [C _ _ (by simp <;> omega)]; simp [go_sem]); have f3:w1.cell? ⟨w.heap.size,3,none⟩ = some (.string ⟨s.toArray⟩):=(by rw [C _ _ (by simp <;> omega)]; simp [go_sem]); have p1:w1.cell? ⟨w.heap.size + 1,1,none⟩ = some (.int .i64 0):=(by rw [C _ _ (by simp <;> omega)]; simp [go_sem]); have p2:w1.cell? ⟨w.heap.size + 1,2,none⟩ = some (.int .i64 0):=(by rw [C _ _ (by simp <;> omega)]; simp [go_sem]); have p3:w1.cell? ⟨w.heap.size + 1,3,none⟩ = some (.string ⟨#[]⟩):=(by rw [C _ _ (by simp <;> omega)]; simp [go_sem]); have p8:w1.frozen? ⟨w.heap.size + 1,1,none⟩ = false:=(by rw [F _ _ (by simp <;> omega)]; simp [go_sem]); have p9:w1.frozen? ⟨w.heap.size + 1,2,none⟩ = false:=(by rw [F _ _ (by simp <;> omega)]; simp [go_sem]); clear C F hz1)
   have hbel:Below w.heap.size w w1:=zan (((Below.refl _ _).alloc lR _).alloc (by simp) _) hb1 lR
   go_region
   all_goals (go_wp2; go_ret; refine ⟨zax ?_,by first | exact ((hbel.setCell (by simp) _).setCell (by simp) _).drew | exact (hbel.setCell (by simp) _).setCell (by simp) _ | exact below_drewN ((hbel.setCell (by simp) _).setCell (by simp) _) _⟩; rw [H.out]; simp [isE])
  | false =>
   have HV:=Lib.hid (show decOk (V.num (.mk 4 n e s kids)) (V.exp (.mk 4 n e s kids)) = false from hv);have H:=Lib.hid (show ok = false by rw [<- HOK.out]; simp [V.node,hv]);clear hv
   go_enter Tryz.func70,Tryz.ntmps70
   go_wp2_with (go_at_call 90; refine (HD.out _ (((Below.refl _ _).alloc lR _).alloc (by simp) _)).mono ?_; rw [HV.out]; rintro e1 w1 ⟨rfl,hb1⟩)
   go_ret;exact ⟨by rw [H.out]; rfl,zan (((Below.refl _ _).alloc lR _).alloc (by simp) _) hb1 lR⟩
 have H:=Lib.hid (show ok = false by rw [<- HOK.out]; simp [V.node,q0,q1,q2,q3,q4,q5,q6,q7,q8,q9])
 go_enter Tryz.func70,Tryz.ntmps70
 go_wp2
 all_goals (go_ret; exact ⟨by rw [H.out]; rfl,((Below.refl _ _).alloc lR _).alloc (by simp) _⟩)
end
section
section
variable {P:Program} {ops:Array Oper} {Q:Exit -> Act -> World -> Prop} {md:Region.Mode} {S:World -> Prop}
theorem zbx {i F fuel:Nat} {oi:Oper} {d:Option Tmp} {v:Value} {listed listed':Array Bool} {a:Act} {w:World} (hi:ops[i]? = some oi) (hd:oi.dst = d) (hF:F = fuel + 1) (hl:listed.setIfInBounds i true = listed')
  (hs:Region.noSelect ops = true) (hf:Region.free md ops listed i = true) (hr:(Region.ready md ops listed).contains i = true)
  (hQ:∀ c a w,Q (.panic c) (a.put d v) w -> Q (.panic c) a w) (hw:Region.wanted oi (yielded ops a.tmps) = true) (hS:S w)
  (hv:∀ w,S w -> (execOp a.eval oi).run P w = .ok (.value v) w)
  (h:wpAnyH P md ops Q S fuel listed' (a.put d v) w):wpAnyH P md ops Q S F listed a w:=by
 subst hF hd hl
 exact wpAnyH_take hi hs hf hr hQ (.inl ⟨hw,hv⟩) hS h
def skipFine (md:Region.Mode) (ops:Array Oper):List (Nat × Tmp) -> Array Bool -> Array Value -> Bool
 | [],_,_ => true
 | (i,d) :: r,listed,tmps => (match ops[i]? with | some o => decide (o.dst = some d) && !Region.wanted o (yielded ops tmps) | none => false) && (Region.free md ops listed i && ((Region.ready md ops listed).contains i &&
   skipFine md ops r (listed.setIfInBounds i true) (tmps.setIfInBounds d undef)))
def skipListed:List (Nat × Tmp) -> Array Bool -> Array Bool
 | [],listed => listed
 | (i,_) :: r,listed => skipListed r (listed.setIfInBounds i true)
def skipAct:List (Nat × Tmp) -> Act -> Act
 | [],a => a
 | (_,d) :: r,a => skipAct r { a with tmps:=a.tmps.setIfInBounds d undef }
theorem takeS {w:World} (hs:Region.noSelect ops = true) (hQ:∀ c a d w,Q (.panic c) (a.put (some d) undef) w -> Q (.panic c) a w) (hS:S w):∀ (l:List (Nat × Tmp)) {F fuel:Nat} {listed listed':Array Bool} {a:Act},F = fuel + l.length -> skipListed l listed = listed' ->
  skipFine md ops l listed a.tmps = true -> wpAnyH P md ops Q S fuel listed' (skipAct l a) w -> wpAnyH P md ops Q S F listed a w
 | [],F,fuel,listed,listed',a,hF,hl,_,h => by subst hF hl; exact h
 | (i,d) :: r,F,fuel,listed,listed',a,hF,hl,hk,h => by
  subst hF hl
  simp only [skipFine,Bool.and_eq_true] at hk;obtain ⟨h1,h2,h3,h4⟩:=hk
  cases ho:ops[i]? with
  | none => rw [ho] at h1; cases h1
  | some o =>
   rw [ho] at h1;simp only [Bool.and_eq_true,decide_eq_true_eq,Bool.not_eq_true'] at h1;obtain ⟨hd,hw⟩:=h1;refine wpAnyH_take (fuel:=fuel + r.length) (v:=undef) ho hs h2 h3 (by rw [hd]; exact fun c a w => hQ c a d w) (.inr ⟨hw,rfl⟩) hS ?_;rw [hd];exact takeS hs hQ hS r rfl rfl h4 h
theorem takeC {i F fuel:Nat} {oi:Oper} {d:Option Tmp} {listed listed':Array Bool} {a:Act} {w:World} (hi:ops[i]? = some oi) (_hd:oi.dst = d) (hF:F = fuel + 1) (hl:listed.setIfInBounds i true = listed')
  (hr:Region.ready md ops listed = [i]) (hw:Region.wanted oi (yielded ops a.tmps) = true)
  (h:∀ K':Act -> World -> Prop,Shut (∀ a w,S w -> (S w -> wpAnyH P md ops Q S fuel listed' a w) -> K' a w) -> Oper.wp P oi a w K' Q):wpAnyH P md ops Q S F listed a w:=by
 subst hF hl _hd
 refine wpAnyH_ready hr (by simp) (AllReadyH.cons hi (fun K' hK => ?_) AllReadyH.nil);rw [if_pos hw]; exact h K' hK
end
end
section
def intBox (w:World) (g:Nat) (n:Int):Prop:=w.heap[g]? = some (.cells #[.int .i64 n] 3 (0,0))
theorem intBox.cell {w:World} {g:Nat} {n:Int} (h:intBox w g n):w.cell? ⟨g,0,none⟩ = some (.int .i64 n):=cell_of_one h
theorem intBox.free {w:World} {g:Nat} {n:Int} (h:intBox w g n):w.frozen? ⟨g,0,none⟩ = false:=free_of_one h
theorem intBox.lt {w:World} {g:Nat} {n:Int} (h:intBox w g n):g < w.heap.size:=lt_of_block h
theorem intBox.below {w w':World} {g:Nat} {n:Int} (h:intBox w g n) (hb:Below w.heap.size w w'):intBox w' g n:=(hb.block g h.lt).trans h
theorem intBox.keep {S:Nat -> Prop} {w w':World} {g:Nat} {n:Int} (h:intBox w g n) (hk:Keep S w w') (hs:¬ S g):intBox w' g n:=(hk.block g h.lt hs).trans h
def GlobN (N:Nat):Prop:=0 < N /\ 1 < N
theorem Tabs.keep {S:Nat -> Prop} {w w':World} {N:Nat} (h:Tabs w) (hg:GlobN N) (hk:Keep S w w') (hN:N <= w.heap.size) (hs:∀ k,k < N -> ¬ S k):Tabs w':=h.below' (hk.below hN hs) hg.1 hg.2
end
section
open Go.Lib (validD)
def vGood (deep:Nat) (L:Int) (x:V):Bool:=V.rightBy pairsOkI (12 - deep) x && decide ((x.nodes:Int) <= L)
def vGoods (deep:Nat) (L:Int) (xs:List V):Bool:=V.rightsBy pairsOkI (12 - deep) xs && decide ((V.nodess xs:Int) <= L)
def VIsA (n:Nat):Prop:=∀ (x:V) (cs:List Value) (deep N g:Nat) (L:Int) (w:World),x.nodes <= n -> RdN N w x.d cs -> N <= g -> intBox w g L -> x.wf -> x.bulk <= 4294967295 -> Tabs w -> GlobN N -> deep <= 1000000 -> 0 <= L /\ L <= 1000 ->
 Calls Tryz.prog 52 #[.agg cs.toArray,.int .i64 deep,.pointer (some ⟨g,0,none⟩)] w fun e w' => e = .returned (.bool (vGood deep L x)) /\ (∃ L':Int,intBox w' g L' /\ (vGood deep L x = true -> L' = L - x.nodes)) /\ Keep (· = g) w w'
theorem vGood_no1 {deep:Nat} {L:Int} {x:V} (h:L - 1 < 0):vGood deep L x = false:=by
 have:=x.nodes_pos; unfold vGood; rw [decide_eq_false (by omega),Bool.and_false]
theorem vGood_no2 {deep:Nat} {L:Int} {x:V} (h:(12:Int) < deep):vGood deep L x = false:=by
 obtain ⟨k,m,e,s,kids⟩:=x;unfold vGood; simp only [V.rightBy]; rw [decide_eq_false (show ¬ (0:Int) <= 12 - deep by omega)]; simp
theorem V.nodess_ge:∀ xs:List V,xs.length <= V.nodess xs
 | [] => by simp
 | x :: xs => by have:=x.nodes_pos; have:=V.nodess_ge xs; simp only [V.nodess,length_cons]; omega
theorem vGood_no3 {deep:Nat} {L:Int} {k m e:Int} {s:L8} {kids:List V} (h:L - 1 < kids.length):vGood deep L (.mk k m e s kids) = false:=by
 have:=V.nodess_ge kids; unfold vGood; rw [decide_eq_false (by simp only [V.nodes]; omega),Bool.and_false]
theorem zfN {deep:Nat} {L:Int} {x:V} (h:x.selfI = false):vGood deep L x = false:=by
 obtain ⟨k,m,e,s,kids⟩:=x;unfold vGood; simp only [V.rightBy]; rw [show V.selfBy pairsOkI (.mk k m e s kids) = false from h]; simp
theorem vGood_yes {deep:Nat} {L:Int} {k m e:Int} {s:L8} {kids:List V} (h2:¬ (12:Int) < deep) (ho:V.selfI (.mk k m e s kids) = true) :
  vGood deep L (.mk k m e s kids) = vGoods (deep + 1) (L - 1) kids:=by
 unfold vGood vGoods; simp only [V.rightBy,V.nodes]
 rw [show V.selfBy pairsOkI (.mk k m e s kids) = true from ho,decide_eq_true (show (0:Int) <= 12 - deep by omega),show (12:Int) - deep - 1 = 12 - (deep + 1:Nat) by omega,Bool.and_true,Bool.and_true]
 congr 1; exact decide_eq_decide.2 (by omega)
def VIsC (n:Nat):Prop:=∀ (xs:List V) (va:Value) (deep N g bd bl:Nat) (L:Int) (w:World),V.nodess xs <= n -> RdN N w (.sl 5 (V.ds xs)) [va] -> N <= g -> intBox w g L -> intBox w bd deep -> bd ≠ g -> w.cell? ⟨bl,0,none⟩ = some (.pointer (some ⟨g,0,none⟩)) -> bl ≠ g ->
  V.wfs xs -> xs.length + V.bulks xs <= 4294967295 -> Tabs w -> GlobN N -> deep <= 1000 -> 0 <= L /\ L <= 1000 ->
 Calls Tryz.prog 72 #[va,.func (.func 73) #[] #[.pointer (some ⟨bd,0,none⟩),.pointer (some ⟨bl,0,none⟩)]] w fun e w' => e = .returned (.bool (!vGoods (deep + 1) L xs)) /\ (∃ L':Int,intBox w' g L' /\ (vGoods (deep + 1) L xs = true -> L' = L - V.nodess xs)) /\ Keep (· = g) w w'
theorem VIsA_of {n:Nat} (hC:VIsC n):VIsA (n + 1):=by
 intro x cs deep N g L w hn h hNg hbox hwf hbk hT hG hdeep hL;obtain ⟨k,m,e,s,kids,v2,hx,rfl,hkids⟩:=V.layS h;subst hx;have hnk:V.nodess kids <= n:=by simp only [V.nodes] at hn; omega
 obtain ⟨hL1,hL2⟩:=hL;obtain ⟨M,rfl⟩:∃ M,L = M + 1:=⟨L - 1,by omega⟩;have hglt:=hbox.lt;obtain ⟨a2,c2,rfl⟩:=Rd.sl_form (Rd.of hkids);simp only [V.ds_map,length_map] at h hkids ⊢;rw [<- V.ds_map] at hkids;have hfree:=hbox.free;have hcell:=hbox.cell;obtain ⟨W0,hW0⟩:∃ W0,W0 = ((((w.setCell ⟨g,0,none⟩ (.int .i64 M)).alloc (.cells #[.int .i64 k,.int .i64 m,.int .i64 e,.string ⟨s.toArray⟩,.slice a2 kids.length c2] 27)).alloc (.cells #[.int .i64 deep] 3)).alloc (.cells #[.pointer (some ⟨g,0,none⟩)] 70)):=⟨_,rfl⟩;have HW:=Lib.hid hW0;have hK0:Keep (· = g) w W0:=by rw [hW0]; exact (((Keep.setCell (S:=(· = g)) (p:=⟨g,0,none⟩) (Keep.refl _ _) (.inl rfl) _).alloc _).alloc _).alloc _
 have hb0:intBox W0 g M:=by
  rw [hW0]
  have:intBox (w.setCell ⟨g,0,none⟩ (.int .i64 M)) g M:=one_setCell hbox
  exact ((this.below ((Below.refl _ _).alloc lR _)).below ((Below.refl _ _).alloc lR _)).below ((Below.refl _ _).alloc lR _)
 have hbd0:intBox W0 (w.heap.size + 1) deep:=by
  rw [hW0]; unfold intBox; rw [Below.heap_alloc _ _ _ (by simp [World.setCell])]
  have:=zaJ ((w.setCell ⟨g,0,none⟩ (.int .i64 M)).alloc (.cells #[.int .i64 k,.int .i64 m,.int .i64 e,.string ⟨s.toArray⟩,.slice a2 kids.length c2] 27)) (.cells #[.int .i64 deep] 3)
  simpa [World.setCell] using this
 have hng:∀ k,k < N -> ¬ k = g:=by intro k hk e; omega
 have hN:N <= w.heap.size:=by omega
 have hss:(w.setCell ⟨g,0,none⟩ (.int .i64 M)).heap.size = w.heap.size:=by simp [World.setCell]
 have hsz:W0.heap.size = w.heap.size + 3:=by rw [hW0]; simp [hss]
 have s1:g < w.heap.size + 1:=by omega
 have s2:g < w.heap.size + 1 + 1:=by omega
 have s3:g < w.heap.size + 1 + 1 + 1:=by omega
 have q1:¬ g = w.heap.size:=by omega
 have q2:¬ g = w.heap.size + 1:=by omega
 have q3:¬ g = w.heap.size + 1 + 1:=by omega
 have KB:Hid (∀ W,Below W0.heap.size W0 W -> W.cell? ⟨w.heap.size,0,none⟩ = some (.int .i64 k) /\ W.cell? ⟨w.heap.size,1,none⟩ = some (.int .i64 m) /\ W.cell? ⟨w.heap.size,2,none⟩ = some (.int .i64 e) /\ W.cell? ⟨w.heap.size,3,none⟩ = some (.string ⟨s.toArray⟩) /\ W.cell? ⟨w.heap.size,4,none⟩ = some (.slice a2 kids.length c2) /\ W.cell? ⟨w.heap.size + 1,0,none⟩ = some (.int .i64 deep) /\ W.cell? ⟨w.heap.size + 1 + 1,0,none⟩ = some (.pointer (some ⟨g,0,none⟩)) /\ W.cell? ⟨g,0,none⟩ = some (.int .i64 M)):=by
  intro W hb;obtain ⟨hc,_⟩:=zbd hb;have z1:w.heap.size < W0.heap.size:=by omega
  have z2:w.heap.size + 1 < W0.heap.size:=by omega
  have z3:w.heap.size + 1 + 1 < W0.heap.size:=by omega
  have z4:g < W0.heap.size:=by omega
  simp only [hc _ _ z1,hc _ _ z2,hc _ _ z3,hc _ _ z4,hb0.cell];subst hW0;simp [go_sem,hss]
 have hT0:=Lib.hid (hT.keep hG hK0 hN hng);have HR:=Lib.hid (show ∀ W,Below W0.heap.size W0 W -> RdN N W (V.d (.mk k m e s kids)) [.int .i64 k,.int .i64 m,.int .i64 e,.string ⟨s.toArray⟩,.slice a2 kids.length c2] from fun W hb => (h.keep hK0 hN hng).below (hb.mono (by omega)));have HRk:=Lib.hid (show ∀ W,Below W0.heap.size W0 W -> RdN N W (.sl 5 (V.ds kids)) [.slice a2 kids.length c2] from fun W hb => (RdN.keep hkids hK0 hN hng).below (hb.mono (by omega)));have HF:=Lib.hid (fun W (hb:Below W0.heap.size W0 W) => isNode_any _ _ W (HR.out W hb).rd hwf hbk (hT0.out.below hb));have HQ:=Lib.hid (fun W (hb:Below W0.heap.size W0 W) => zgp _ _ W (HR.out W hb).rd hbk);clear h hkids hT hbox hW0 hng hss q1 q2 q3;by_cases qc1:M < 0
 ·have dqc1:=decide_eq_true qc1
  have H:=Lib.hid (vGood_no1 (deep:=deep) (L:=M + 1) (x:=.mk k m e s kids) (by omega))
  go_enter Tryz.func52,Tryz.ntmps52
  go_wp2;rw [<- HW.out];have hB:=Below.refl W0.heap.size W0;obtain ⟨p0,p1,p2,p3,p4,p6,p7,p8⟩:=KB.out _ hB
  go_quiet (fail)
  go_wp2;go_ret;exact ⟨by rw [H.out]; rfl,⟨M,hb0.below (by first | exact hB | exact hB.drew | exact Go.below_drewN hB _),fun h => by rw [H.out] at h; cases h⟩,hK0.then (by first | exact hB | exact hB.drew | exact Go.below_drewN hB _)⟩
 have dqc1:=decide_eq_false qc1;by_cases qc2:(12:Int) < deep
 ·have dqc2:=decide_eq_true qc2
  have H:=Lib.hid (vGood_no2 (L:=M + 1) (x:=.mk k m e s kids) qc2)
  go_enter Tryz.func52,Tryz.ntmps52
  go_wp2;rw [<- HW.out];have hB:=Below.refl W0.heap.size W0;obtain ⟨p0,p1,p2,p3,p4,p6,p7,p8⟩:=KB.out _ hB
  go_quiet (fail)
  go_wp2;go_ret;exact ⟨by rw [H.out]; rfl,⟨M,hb0.below (by first | exact hB | exact hB.drew | exact Go.below_drewN hB _),fun h => by rw [H.out] at h; cases h⟩,hK0.then (by first | exact hB | exact hB.drew | exact Go.below_drewN hB _)⟩
 have dqc2:=decide_eq_false qc2;by_cases qc3:M < kids.length
 ·have dqc3:=decide_eq_true qc3
  have H:=Lib.hid (vGood_no3 (deep:=deep) (L:=M + 1) (k:=k) (m:=m) (e:=e) (s:=s) (kids:=kids) (by omega))
  go_enter Tryz.func52,Tryz.ntmps52
  go_wp2;rw [<- HW.out];have hB:=Below.refl W0.heap.size W0;obtain ⟨p0,p1,p2,p3,p4,p6,p7,p8⟩:=KB.out _ hB
  go_quiet (fail)
  go_wp2;go_ret;exact ⟨by rw [H.out]; rfl,⟨M,hb0.below (by first | exact hB | exact hB.drew | exact Go.below_drewN hB _),fun h => by rw [H.out] at h; cases h⟩,hK0.then (by first | exact hB | exact hB.drew | exact Go.below_drewN hB _)⟩
 have dqc3:=decide_eq_false qc3;have HSN:=Lib.hid (V.selfI_node (.mk k m e s kids))
 cases hnode:V.node (.mk k m e s kids) with
 | false =>
  have HO:=Lib.hid hnode;have H:=Lib.hid (zfN (deep:=deep) (L:=M + 1) (x:=.mk k m e s kids) (by rw [HSN.out,hnode]; rfl));clear hnode
  go_enter Tryz.func52,Tryz.ntmps52
  go_wp2;rw [<- HW.out];have hB:=Below.refl W0.heap.size W0;refine wp_region_held_drew (S:=(fun W => W.cell? ⟨w.heap.size,0,none⟩ = some (.int .i64 k) /\ W.cell? ⟨w.heap.size,1,none⟩ = some (.int .i64 m) /\ W.cell? ⟨w.heap.size,2,none⟩ = some (.int .i64 e) /\ W.cell? ⟨w.heap.size,3,none⟩ = some (.string ⟨s.toArray⟩) /\ W.cell? ⟨w.heap.size,4,none⟩ = some (.slice a2 kids.length c2) /\ W.cell? ⟨w.heap.size + 1,0,none⟩ = some (.int .i64 deep) /\ W.cell? ⟨w.heap.size + 1 + 1,0,none⟩ = some (.pointer (some ⟨g,0,none⟩)) /\ W.cell? ⟨g,0,none⟩ = some (.int .i64 M))) (by kernel_rfl) ?_ (fun hHeld => ?_)
  ·((try dsimp only); (first | exact KB.out _ hB | exact KB.out _ hB.drew))
  refine zbx (i:=0) (fuel:=26) (d:=some 12) (v:=?vr0) (listed':=#[true,false,false,false,false,false,false,false,false,false,false,false,false,false,false,false,false,false,false,false,false,false,false,false,false,false,false]) rfl rfl (by kernel_rfl) (by kernel_rfl) (by kernel_rfl) (by kernel_rfl) (by kernel_rfl) (fun _ _ _ h => h) (by kernel_rfl) (by assumption) ?hr0 ?rr0
  case hr0 => (intro w hSw; (try dsimp only at hSw); go_simp; all_goals with_reducible rfl)
  simp only [Act.put,setIfInBounds_toArray,set_cons_zero,set_cons_succ];refine zbx (i:=1) (fuel:=25) (d:=some 13) (v:=?vr1) (listed':=#[true,true,false,false,false,false,false,false,false,false,false,false,false,false,false,false,false,false,false,false,false,false,false,false,false,false,false]) rfl rfl (by kernel_rfl) (by kernel_rfl) (by kernel_rfl) (by kernel_rfl) (by kernel_rfl) (fun _ _ _ h => h) (by kernel_rfl) (by assumption) ?hr1 ?rr1
  case hr1 => (intro w hSw; (try dsimp only at hSw); go_simp; all_goals with_reducible rfl)
  simp only [Act.put,setIfInBounds_toArray,set_cons_zero,set_cons_succ];refine zbx (i:=2) (fuel:=24) (d:=some 14) (v:=?vr2) (listed':=#[true,true,true,false,false,false,false,false,false,false,false,false,false,false,false,false,false,false,false,false,false,false,false,false,false,false,false]) rfl rfl (by kernel_rfl) (by kernel_rfl) (by kernel_rfl) (by kernel_rfl) (by kernel_rfl) (fun _ _ _ h => h) (by kernel_rfl) (by assumption) ?hr2 ?rr2
  case hr2 => (intro w hSw; (try dsimp only at hSw); go_simp; all_goals with_reducible rfl)
  simp only [Act.put,setIfInBounds_toArray,set_cons_zero,set_cons_succ];refine zbx (i:=3) (fuel:=23) (d:=some 15) (v:=?vr3) (listed':=#[true,true,true,true,false,false,false,false,false,false,false,false,false,false,false,false,false,false,false,false,false,false,false,false,false,false,false]) rfl rfl (by kernel_rfl) (by kernel_rfl) (by kernel_rfl) (by kernel_rfl) (by kernel_rfl) (fun _ _ _ h => h) (by kernel_rfl) (by assumption) ?hr3 ?rr3
  case hr3 => (intro w hSw; (try dsimp only at hSw); go_simp; all_goals with_reducible rfl)
  simp only [Act.put,setIfInBounds_toArray,set_cons_zero,set_cons_succ];refine zbx (i:=4) (fuel:=22) (d:=some 16) (v:=?vr4) (listed':=#[true,true,true,true,true,false,false,false,false,false,false,false,false,false,false,false,false,false,false,false,false,false,false,false,false,false,false]) rfl rfl (by kernel_rfl) (by kernel_rfl) (by kernel_rfl) (by kernel_rfl) (by kernel_rfl) (fun _ _ _ h => h) (by kernel_rfl) (by assumption) ?hr4 ?rr4
  case hr4 => (intro w hSw; (try dsimp only at hSw); go_simp; all_goals with_reducible rfl)
  simp only [Act.put,setIfInBounds_toArray,set_cons_zero,set_cons_succ];refine zbx (i:=5) (fuel:=21) (d:=some 17) (v:=?vr5) (listed':=#[true,true,true,true,true,true,false,false,false,false,false,false,false,false,false,false,false,false,false,false,false,false,false,false,false,false,false]) rfl rfl (by kernel_rfl) (by kernel_rfl) (by kernel_rfl) (by kernel_rfl) (by kernel_rfl) (fun _ _ _ h => h) (by kernel_rfl) (by assumption) ?hr5 ?rr5
  case hr5 => (intro w hSw; (try dsimp only at hSw); go_simp; all_goals with_reducible rfl)
  simp only [Act.put,setIfInBounds_toArray,set_cons_zero,set_cons_succ];refine zbx (i:=6) (fuel:=20) (d:=some 18) (v:=?vr6) (listed':=#[true,true,true,true,true,true,true,false,false,false,false,false,false,false,false,false,false,false,false,false,false,false,false,false,false,false,false]) rfl rfl (by kernel_rfl) (by kernel_rfl) (by kernel_rfl) (by kernel_rfl) (by kernel_rfl) (fun _ _ _ h => h) (by kernel_rfl) (by assumption) ?hr6 ?rr6
  case hr6 => (intro w hSw; (try dsimp only at hSw); go_simp; all_goals with_reducible rfl)
  simp only [Act.put,setIfInBounds_toArray,set_cons_zero,set_cons_succ];refine zbx (i:=7) (fuel:=19) (d:=some 19) (v:=?vr7) (listed':=#[true,true,true,true,true,true,true,true,false,false,false,false,false,false,false,false,false,false,false,false,false,false,false,false,false,false,false]) rfl rfl (by kernel_rfl) (by kernel_rfl) (by kernel_rfl) (by kernel_rfl) (by kernel_rfl) (fun _ _ _ h => h) (by kernel_rfl) (by assumption) ?hr7 ?rr7
  case hr7 => (intro w hSw; (try dsimp only at hSw); go_simp; all_goals with_reducible rfl)
  simp only [Act.put,setIfInBounds_toArray,set_cons_zero,set_cons_succ];refine zbx (i:=8) (fuel:=18) (d:=some 20) (v:=?vr8) (listed':=#[true,true,true,true,true,true,true,true,true,false,false,false,false,false,false,false,false,false,false,false,false,false,false,false,false,false,false]) rfl rfl (by kernel_rfl) (by kernel_rfl) (by kernel_rfl) (by kernel_rfl) (by kernel_rfl) (fun _ _ _ h => h) (by kernel_rfl) (by assumption) ?hr8 ?rr8
  case hr8 => (intro w hSw; (try dsimp only at hSw); go_simp; all_goals with_reducible rfl)
  simp only [Act.put,setIfInBounds_toArray,set_cons_zero,set_cons_succ];refine zbx (i:=9) (fuel:=17) (d:=some 21) (v:=?vr9) (listed':=#[true,true,true,true,true,true,true,true,true,true,false,false,false,false,false,false,false,false,false,false,false,false,false,false,false,false,false]) rfl rfl (by kernel_rfl) (by kernel_rfl) (by kernel_rfl) (by kernel_rfl) (by kernel_rfl) (fun _ _ _ h => h) (by kernel_rfl) (by assumption) ?hr9 ?rr9
  case hr9 => (intro w hSw; (try dsimp only at hSw); go_simp; all_goals with_reducible rfl)
  simp only [Act.put,setIfInBounds_toArray,set_cons_zero,set_cons_succ];refine zbx (i:=10) (fuel:=16) (d:=some 22) (v:=?vr10) (listed':=#[true,true,true,true,true,true,true,true,true,true,true,false,false,false,false,false,false,false,false,false,false,false,false,false,false,false,false]) rfl rfl (by kernel_rfl) (by kernel_rfl) (by kernel_rfl) (by kernel_rfl) (by kernel_rfl) (fun _ _ _ h => h) (by kernel_rfl) (by assumption) ?hr10 ?rr10
  case hr10 => (intro w hSw; (try dsimp only at hSw); go_simp; all_goals with_reducible rfl)
  simp only [Act.put,setIfInBounds_toArray,set_cons_zero,set_cons_succ];refine zbx (i:=11) (fuel:=15) (d:=some 23) (v:=?vr11) (listed':=#[true,true,true,true,true,true,true,true,true,true,true,true,false,false,false,false,false,false,false,false,false,false,false,false,false,false,false]) rfl rfl (by kernel_rfl) (by kernel_rfl) (by kernel_rfl) (by kernel_rfl) (by kernel_rfl) (fun _ _ _ h => h) (by kernel_rfl) (by assumption) ?hr11 ?rr11
  case hr11 => (intro w hSw; (try dsimp only at hSw); go_simp; all_goals with_reducible rfl)
  simp only [Act.put,setIfInBounds_toArray,set_cons_zero,set_cons_succ];refine zbx (i:=12) (fuel:=14) (d:=some 24) (v:=?vr12) (listed':=#[true,true,true,true,true,true,true,true,true,true,true,true,true,false,false,false,false,false,false,false,false,false,false,false,false,false,false]) rfl rfl (by kernel_rfl) (by kernel_rfl) (by kernel_rfl) (by kernel_rfl) (by kernel_rfl) (fun _ _ _ h => h) (by kernel_rfl) (by assumption) ?hr12 ?rr12
  case hr12 => (intro w hSw; (try dsimp only at hSw); go_simp; all_goals with_reducible rfl)
  simp only [Act.put,setIfInBounds_toArray,set_cons_zero,set_cons_succ];refine zbx (i:=13) (fuel:=13) (d:=some 25) (v:=?vr13) (listed':=#[true,true,true,true,true,true,true,true,true,true,true,true,true,true,false,false,false,false,false,false,false,false,false,false,false,false,false]) rfl rfl (by kernel_rfl) (by kernel_rfl) (by kernel_rfl) (by kernel_rfl) (by kernel_rfl) (fun _ _ _ h => h) (by kernel_rfl) (by assumption) ?hr13 ?rr13
  case hr13 => (intro w hSw; (try dsimp only at hSw); go_simp; all_goals with_reducible rfl)
  simp only [Act.put,setIfInBounds_toArray,set_cons_zero,set_cons_succ];refine zbx (i:=14) (fuel:=12) (d:=some 26) (v:=?vr14) (listed':=#[true,true,true,true,true,true,true,true,true,true,true,true,true,true,true,false,false,false,false,false,false,false,false,false,false,false,false]) rfl rfl (by kernel_rfl) (by kernel_rfl) (by kernel_rfl) (by kernel_rfl) (by kernel_rfl) (fun _ _ _ h => h) (by kernel_rfl) (by assumption) ?hr14 ?rr14
  case hr14 => (intro w hSw; (try dsimp only at hSw); go_simp; all_goals with_reducible rfl)
  simp only [Act.put,setIfInBounds_toArray,set_cons_zero,set_cons_succ];refine zbx (i:=15) (fuel:=11) (d:=some 27) (v:=?vr15) (listed':=#[true,true,true,true,true,true,true,true,true,true,true,true,true,true,true,true,false,false,false,false,false,false,false,false,false,false,false]) rfl rfl (by kernel_rfl) (by kernel_rfl) (by kernel_rfl) (by kernel_rfl) (by kernel_rfl) (fun _ _ _ h => h) (by kernel_rfl) (by assumption) ?hr15 ?rr15
  case hr15 => (intro w hSw; (try dsimp only at hSw); go_simp; all_goals with_reducible rfl)
  simp only [Act.put,setIfInBounds_toArray,set_cons_zero,set_cons_succ];refine zbx (i:=16) (fuel:=10) (d:=some 28) (v:=?vr16) (listed':=#[true,true,true,true,true,true,true,true,true,true,true,true,true,true,true,true,true,false,false,false,false,false,false,false,false,false,false]) rfl rfl (by kernel_rfl) (by kernel_rfl) (by kernel_rfl) (by kernel_rfl) (by kernel_rfl) (fun _ _ _ h => h) (by kernel_rfl) (by assumption) ?hr16 ?rr16
  case hr16 => (intro w hSw; (try dsimp only at hSw); go_simp; all_goals with_reducible rfl)
  simp only [Act.put,setIfInBounds_toArray,set_cons_zero,set_cons_succ];refine zbx (i:=17) (fuel:=9) (d:=some 29) (v:=?vr17) (listed':=#[true,true,true,true,true,true,true,true,true,true,true,true,true,true,true,true,true,true,false,false,false,false,false,false,false,false,false]) rfl rfl (by kernel_rfl) (by kernel_rfl) (by kernel_rfl) (by kernel_rfl) (by kernel_rfl) (fun _ _ _ h => h) (by kernel_rfl) (by assumption) ?hr17 ?rr17
  case hr17 => (intro w hSw; (try dsimp only at hSw); go_simp; all_goals with_reducible rfl)
  simp only [Act.put,setIfInBounds_toArray,set_cons_zero,set_cons_succ];refine zbx (i:=18) (fuel:=8) (d:=some 30) (v:=?vr18) (listed':=#[true,true,true,true,true,true,true,true,true,true,true,true,true,true,true,true,true,true,true,false,false,false,false,false,false,false,false]) rfl rfl (by kernel_rfl) (by kernel_rfl) (by kernel_rfl) (by kernel_rfl) (by kernel_rfl) (fun _ _ _ h => h) (by kernel_rfl) (by assumption) ?hr18 ?rr18
  case hr18 => (intro w hSw; (try dsimp only at hSw); go_simp; all_goals with_reducible rfl)
  simp only [Act.put,setIfInBounds_toArray,set_cons_zero,set_cons_succ];refine takeC (i:=19) (fuel:=7) (d:=some 31) (listed':=#[true,true,true,true,true,true,true,true,true,true,true,true,true,true,true,true,true,true,true,true,false,false,false,false,false,false,false]) rfl rfl (by kernel_rfl) (by kernel_rfl) (by kernel_rfl) (by kernel_rfl) (fun K hK => ?cr19)
  go_simp
  ((go_at_call 70; with_reducible refine (HF.out _ (by first | exact hB | exact hB.drew)).mono ?_; rw [HO.out]; rintro e1 w1 ⟨rfl,hb1⟩; replace hB:=zan (by first | exact hB | exact hB.drew) hb1 lR))
  go_wp2_with fail
  refine hK.out _ _ ?kr19 (fun hHeld => ?nr19)
  case kr19 => ((try dsimp only); (first | exact KB.out _ hB | exact KB.out _ hB.drew))
  clear hK K
  try simp only [skipAct,Act.put,setIfInBounds_toArray,set_cons_zero,set_cons_succ]
  refine zbx (i:=20) (fuel:=6) (d:=some 32) (v:=?vr20) (listed':=#[true,true,true,true,true,true,true,true,true,true,true,true,true,true,true,true,true,true,true,true,true,false,false,false,false,false,false]) rfl rfl (by kernel_rfl) (by kernel_rfl) (by kernel_rfl) (by kernel_rfl) (by kernel_rfl) (fun _ _ _ h => h) (by kernel_rfl) (by assumption) ?hr20 ?rr20
  case hr20 => (intro w hSw; (try dsimp only at hSw); go_simp; all_goals with_reducible rfl)
  simp only [Act.put,setIfInBounds_toArray,set_cons_zero,set_cons_succ];refine zbx (i:=21) (fuel:=5) (d:=some 33) (v:=?vr21) (listed':=#[true,true,true,true,true,true,true,true,true,true,true,true,true,true,true,true,true,true,true,true,true,true,false,false,false,false,false]) rfl rfl (by kernel_rfl) (by kernel_rfl) (by kernel_rfl) (by kernel_rfl) (by kernel_rfl) (fun _ _ _ h => h) (by kernel_rfl) (by assumption) ?hr21 ?rr21
  case hr21 => (intro w hSw; (try dsimp only at hSw); go_simp; all_goals with_reducible rfl)
  simp only [Act.put,setIfInBounds_toArray,set_cons_zero,set_cons_succ];refine zbx (i:=22) (fuel:=4) (d:=some 34) (v:=?vr22) (listed':=#[true,true,true,true,true,true,true,true,true,true,true,true,true,true,true,true,true,true,true,true,true,true,true,false,false,false,false]) rfl rfl (by kernel_rfl) (by kernel_rfl) (by kernel_rfl) (by kernel_rfl) (by kernel_rfl) (fun _ _ _ h => h) (by kernel_rfl) (by assumption) ?hr22 ?rr22
  case hr22 => (intro w hSw; (try dsimp only at hSw); go_simp; all_goals with_reducible rfl)
  simp only [Act.put,setIfInBounds_toArray,set_cons_zero,set_cons_succ];refine takeS (fuel:=1) (listed':=#[true,true,true,true,true,true,true,true,true,true,true,true,true,true,true,true,true,true,true,true,true,true,true,true,true,true,false]) (by kernel_rfl) (fun _ _ _ _ h => h) (by assumption) [(23,35),(24,36),(25,37)] (by kernel_rfl) (by kernel_rfl) (by kernel_rfl) ?_;simp only [skipAct,setIfInBounds_toArray,set_cons_zero,set_cons_succ];refine zbx (i:=26) (fuel:=0) (d:=some 38) (v:=?vr26) (listed':=#[true,true,true,true,true,true,true,true,true,true,true,true,true,true,true,true,true,true,true,true,true,true,true,true,true,true,true]) rfl rfl (by kernel_rfl) (by kernel_rfl) (by kernel_rfl) (by kernel_rfl) (by kernel_rfl) (fun _ _ _ h => h) (by kernel_rfl) (by assumption) ?hr26 ?rr26
  case hr26 => (intro w hSw; (try dsimp only at hSw); go_simp; all_goals with_reducible rfl)
  simp only [Act.put,setIfInBounds_toArray,set_cons_zero,set_cons_succ];refine wpAnyH_done (by kernel_rfl) ?_ _;go_wp2;go_ret
  exact ⟨by rw [H.out]; rfl,⟨M,hb0.below (by first | exact hB | exact hB.drew | exact Go.below_drewN hB _),fun h => by rw [H.out] at h; cases h⟩,hK0.then (by first | exact hB | exact hB.drew | exact Go.below_drewN hB _)⟩
 | true =>
  have HO:=Lib.hid hnode
  cases hkk:V.kidsOk k kids with
  | false =>
   have HKK:=Lib.hid (show V.kidsOk (V.kind (.mk k m e s kids)) (V.kids (.mk k m e s kids)) = false from hkk);have H:=Lib.hid (zfN (deep:=deep) (L:=M + 1) (x:=.mk k m e s kids) (by rw [HSN.out,hnode]; exact hkk));clear hnode hkk
   go_enter Tryz.func52,Tryz.ntmps52
   go_wp2;rw [<- HW.out];have hB:=Below.refl W0.heap.size W0
   go_region_held3 (fun W => W.cell? ⟨w.heap.size,0,none⟩ = some (.int .i64 k) /\ W.cell? ⟨w.heap.size,1,none⟩ = some (.int .i64 m) /\ W.cell? ⟨w.heap.size,2,none⟩ = some (.int .i64 e) /\ W.cell? ⟨w.heap.size,3,none⟩ = some (.string ⟨s.toArray⟩) /\ W.cell? ⟨w.heap.size,4,none⟩ = some (.slice a2 kids.length c2) /\ W.cell? ⟨w.heap.size + 1,0,none⟩ = some (.int .i64 deep) /\ W.cell? ⟨w.heap.size + 1 + 1,0,none⟩ = some (.pointer (some ⟨g,0,none⟩)) /\ W.cell? ⟨g,0,none⟩ = some (.int .i64 M))
    (first | exact KB.out _ hB | exact KB.out _ hB.drew)
    (first | (go_at_call 70; with_reducible refine (HF.out _ (by first | exact hB | exact hB.drew)).mono ?_; rw [HO.out]; rintro e1 w1 ⟨rfl,hb1⟩; replace hB:=zan (by first | exact hB | exact hB.drew) hb1 lR) | (go_at_call 71; with_reducible refine (HQ.out _ (by first | exact hB | exact hB.drew)).mono ?_; rw [HKK.out]; rintro e1 w1 ⟨rfl,hb1⟩; replace hB:=zan (by first | exact hB | exact hB.drew) hb1 lR))
   go_wp2;go_ret
   exact ⟨by rw [H.out]; rfl,⟨M,hb0.below (by first | exact hB | exact hB.drew | exact Go.below_drewN hB _),fun h => by rw [H.out] at h; cases h⟩,hK0.then (by first | exact hB | exact hB.drew | exact Go.below_drewN hB _)⟩
  | true =>
   have HKK:=Lib.hid (show V.kidsOk (V.kind (.mk k m e s kids)) (V.kids (.mk k m e s kids)) = true from hkk);have H0:=vGood_yes (L:=M + 1) qc2 (show V.selfI (.mk k m e s kids) = true by rw [HSN.out,hnode]; exact hkk);rw [show M + 1 - 1 = M by omega] at H0;have H:=Lib.hid H0;clear H0 hnode hkk
   go_enter Tryz.func52,Tryz.ntmps52
   go_wp2;rw [<- HW.out];have hB:=Below.refl W0.heap.size W0
   go_region_held3 (fun W => W.cell? ⟨w.heap.size,0,none⟩ = some (.int .i64 k) /\ W.cell? ⟨w.heap.size,1,none⟩ = some (.int .i64 m) /\ W.cell? ⟨w.heap.size,2,none⟩ = some (.int .i64 e) /\ W.cell? ⟨w.heap.size,3,none⟩ = some (.string ⟨s.toArray⟩) /\ W.cell? ⟨w.heap.size,4,none⟩ = some (.slice a2 kids.length c2) /\ W.cell? ⟨w.heap.size + 1,0,none⟩ = some (.int .i64 deep) /\ W.cell? ⟨w.heap.size + 1 + 1,0,none⟩ = some (.pointer (some ⟨g,0,none⟩)) /\ W.cell? ⟨g,0,none⟩ = some (.int .i64 M))
    (first | exact KB.out _ hB | exact KB.out _ hB.drew)
    (first | (go_at_call 70; with_reducible refine (HF.out _ (by first | exact hB | exact hB.drew)).mono ?_; rw [HO.out]; rintro e1 w1 ⟨rfl,hb1⟩; replace hB:=zan (by first | exact hB | exact hB.drew) hb1 lR) | (go_at_call 71; with_reducible refine (HQ.out _ (by first | exact hB | exact hB.drew)).mono ?_; rw [HKK.out]; rintro e1 w1 ⟨rfl,hb1⟩; replace hB:=zan (by first | exact hB | exact hB.drew) hb1 lR))
   obtain ⟨p0,p1,p2,p3,p4,p6,p7,p8⟩:=KB.out _ hB;have hkw:V.wfs kids:=hwf.2.2.2.2.2;have hkb:kids.length + V.bulks kids <= 4294967295:=by simp only [V.bulk] at hbk; omega
   have HCC:=Lib.hid (hC kids _ deep N g (w.heap.size + 1) (w.heap.size + 1 + 1) M _ hnk (HRk.out _ hB) hNg (hb0.below hB) (hbd0.below hB) (by omega) p7 (by omega) hkw hkb (hT0.out.below hB) hG (by omega) (by omega))
   go_wp2_with (go_at_call 72; refine HCC.out.mono ?_; rintro e1 w2 ⟨rfl,⟨L',hbx,hL'⟩,hk2⟩)
   go_ret;exact ⟨by rw [H.out]; simp,⟨L',hbx,fun hh => by rw [H.out] at hh; rw [hL' hh]; simp only [V.nodes]; omega⟩,(hK0.then hB).trans hk2⟩
theorem zfO {n:Nat} (hA:VIsA n) (x:V) (cs:List Value) (deep N g bd bl:Nat) (L:Int) (w:World) (hn:x.nodes <= n) (h:RdN N w x.d cs) (hNg:N <= g) (hbox:intBox w g L) (hbd:intBox w bd deep) (hbl:w.cell? ⟨bl,0,none⟩ = some (.pointer (some ⟨g,0,none⟩)))
  (hwf:x.wf) (hbk:x.bulk <= 4294967295) (hT:Tabs w) (hG:GlobN N) (hdeep:deep <= 1000) (hL:0 <= L /\ L <= 1000) :
  Calls Tryz.prog 73 #[.agg cs.toArray,.pointer (some ⟨bd,0,none⟩),.pointer (some ⟨bl,0,none⟩)] w fun e w' => e = .returned (.bool (!vGood (deep + 1) L x)) /\ (∃ L':Int,intBox w' g L' /\ (vGood (deep + 1) L x = true -> L' = L - x.nodes)) /\ Keep (· = g) w w':=by
 obtain ⟨k,m,e,s,a2,n2,c2,rfl⟩:=V.form h.rd;have hb1:=hbd.cell;have hz1:=hbd.lt;have hz2:bl < w.heap.size:=cell_lt hbl;have hN:N <= w.heap.size:=by have:=hbox.lt; omega
 have hal:Below w.heap.size w (w.alloc (.cells #[.int .i64 k,.int .i64 m,.int .i64 e,.string ⟨s.toArray⟩,.slice a2 n2 c2] 27)):=(Below.refl _ _).alloc lR _;have HCC:=Lib.hid (hA x _ (deep + 1) N g L _ hn (h.below (hal.mono hN)) hNg (hbox.below hal) hwf hbk (hT.below hal) hG (by omega) hL)
 go_enter Tryz.func73,Tryz.ntmps73
 go_wp2_with (go_at_call 52; refine HCC.out.mono ?_; rintro e w1 ⟨rfl,hL',hk1⟩)
 go_ret;exact ⟨rfl,hL',(Keep.of_below hal).trans hk1⟩
theorem zgq (deep:Nat) (L:Int) (xs:List V) (k:Nat) (hk:k < xs.length) (h:vGoods deep L (xs.take k) = true) :
  vGoods deep L (xs.take (k + 1)) = vGood deep (L - V.nodess (xs.take k)) xs[k]:=by
 have hn:∀ (ls:List V) (x:V),V.nodess (ls ++ [x]) = V.nodess ls + x.nodes:=by
  intro ls x; induction ls with
  | nil => simp [V.nodess]
  | cons a ls ih => simp only [cons_append,V.nodess,ih]; omega
 unfold vGoods at h ⊢; unfold vGood
 rw [take_succ_eq_append_getElem hk,hn,V.rightsBy_all,all_append];rw [V.rightsBy_all] at h;simp only [Bool.and_eq_true,decide_eq_true_eq] at h;rw [h.1,Bool.true_and]
 congr 1
 ·simp
 ·exact decide_eq_decide.2 (by omega)
theorem vGoods_cut (deep:Nat) (L:Int) (xs:List V) (k:Nat) (h:vGoods deep L (xs.take k) = false):vGoods deep L xs = false:=by
 have hn:∀ (ls ms:List V),V.nodess (ls ++ ms) = V.nodess ls + V.nodess ms:=by
  intro ls ms; induction ls with
  | nil => simp [V.nodess]
  | cons a ls ih => simp only [cons_append,V.nodess,ih]; omega
 cases hk:vGoods deep L xs with
 | false => rfl
 | true =>
  exfalso;rw [<- take_append_drop k xs] at hk;unfold vGoods at h hk;rw [V.rightsBy_all,all_append,hn] at hk;rw [V.rightsBy_all] at h;simp only [Bool.and_eq_true,decide_eq_true_eq] at hk;rw [hk.1.1,decide_eq_true (by omega)] at h; cases h
theorem zfP {n:Nat} (hA:VIsA n) (xs:List V) (va:Value) (deep N g bd bl:Nat) (L:Int) (w:World) (hn:V.nodess xs <= n) (h:RdN N w (.sl 5 (V.ds xs)) [va]) (hNg:N <= g) (hbox:intBox w g L) (hbd:intBox w bd deep) (hbg:bd ≠ g) (hbl:w.cell? ⟨bl,0,none⟩ = some (.pointer (some ⟨g,0,none⟩))) (hlg:bl ≠ g)
  (hwf:V.wfs xs) (hbk:xs.length + V.bulks xs <= 4294967295) (hT:Tabs w) (hG:GlobN N) (hdeep:deep <= 1000) (hL:0 <= L /\ L <= 1000) :
  Calls Tryz.prog 94 #[va,.func (.func 73) #[] #[.pointer (some ⟨bd,0,none⟩),.pointer (some ⟨bl,0,none⟩)]] w fun e w' => (∃ r:Int,e = .returned (.int .i64 r) /\ decide (0 <= r) = !vGoods (deep + 1) L xs) /\ (∃ L':Int,intBox w' g L' /\ (vGoods (deep + 1) L xs = true -> L' = L - V.nodess xs)) /\ Keep (· = g) w w':=by
 have hN:N <= w.heap.size:=by have:=hbox.lt; omega
 have hng:∀ k,k < N -> ¬ k = g:=by intro k hk e; omega
 have hz1:=hbd.lt;have hz2:bl < w.heap.size:=cell_lt hbl;have hlen:xs.length <= 4294967295:=by omega
 obtain ⟨a,c,rfl,hg⟩:=RepC.values h;obtain ⟨ok,hok⟩:∃ ok,vGoods (deep + 1) L xs = ok:=⟨_,rfl⟩;rw [hok];have HOK:=Lib.hid hok; clear hok
 obtain ⟨hL1,hL2⟩:=hL
 go_enter Tryz.func94,Tryz.ntmps94
 go_wp2
 go_loopw [8] (fun i wr => ∃ (k:Nat),k <= xs.length /\ i = .int .i64 k /\ intBox wr g (L - V.nodess (xs.take k)) /\ vGoods (deep + 1) L (xs.take k) = true /\ Keep (· = g) w wr) (fun i _ => xs.length - (intOf i).toNat)
 case atStart => exact ⟨0,Nat.zero_le _,rfl,by simpa [V.nodess] using hbox,by simp [vGoods,V.rightsBy,V.nodess,hL1],Keep.refl _ _⟩
 case round =>
  obtain ⟨k,hk,rfl,hbx,hgd,hkp⟩:=hrel;have HGD:=Lib.hid hgd;have hle:(V.nodess (xs.take k):Int) <= L:=by unfold vGoods at hgd; simp only [Bool.and_eq_true,decide_eq_true_eq] at hgd; exact hgd.2
  clear hgd;by_cases hlt:k < xs.length
  ·obtain ⟨_,_,b,o,rfl,hb,hcell⟩:=hg (by intro e; rw [e] at hlt; simp at hlt)
   obtain ⟨v0,v1,v2,v3,v4,hr,d0,d1,d2,d3,d4⟩:=hcell k hlt;clear hcell hg;obtain ⟨k1,k2,k3,s4,a6,n6,m6,hcs⟩:=V.formS hr;simp only [cons.injEq,and_true] at hcs;obtain ⟨rfl,rfl,rfl,rfl,rfl⟩:=hcs;have hbN:b < w.heap.size:=by omega
   have hbg':=hng b hb;rw [<- hkp.cell hbN hbg'] at d0 d1 d2 d3 d4;have hi1:(0:Int) <= k:=by omega
   have hi3:(k:Int) < xs.length:=by omega
   have hnk:xs[k].nodes <= n:=Nat.le_trans (V.nodes_get xs k hlt) hn;have HC:=Lib.hid (zfO hA xs[k] _ deep N g bd bl _ wr hnk (RdN.keep (N:=N) hr hkp hN hng) hNg hbx (hbd.keep hkp hbg) (by rw [hkp.cell hz2 hlg]; exact hbl) (V.wfs_get hwf k hlt) (V.bulk_get' hbk k hlt) (hT.keep hG hkp hN hng) hG hdeep (by omega));have HSN:=Lib.hid (zgq (deep + 1) L xs k hlt HGD.out)
   have hns:V.nodess (xs.take (k + 1)) = V.nodess (xs.take k) + xs[k].nodes:=by
    rw [take_succ_eq_append_getElem hlt]
    have hn:∀ (ls:List V) (x:V),V.nodess (ls ++ [x]) = V.nodess ls + x.nodes:=by
     intro ls x; induction ls with
     | nil => simp [V.nodess]
     | cons a ls ih => simp only [cons_append,V.nodess,ih]; omega
    exact hn _ _
   have HNS:=Lib.hid hns;clear hns hr hbx h hT hwf hbk hng hbox hbd hbl
   cases hgd:vGood (deep + 1) (L - V.nodess (xs.take k)) xs[k] with
   | true =>
    have HG:=Lib.hid hgd; clear hgd
    go_wp2_with (go_at_call 73; refine HC.out.mono ?_; rw [HG.out]; rintro e w1 ⟨rfl,⟨L',hbx1,hL'⟩,hk1⟩)
    go_roundw
    case rel => exact ⟨k + 1,by omega,by go_num,by rw [show L - (V.nodess (xs.take (k + 1)):Int) = L' by rw [hL' trivial,HNS.out]; omega]; exact hbx1,by rw [HSN.out,HG.out],hkp.trans hk1⟩
    case measure => simp [intOf]; omega
   | false =>
    have HG:=Lib.hid hgd; clear hgd
    have HF:=Lib.hid (show ok = false by rw [<- HOK.out]; exact vGoods_cut _ _ _ (k + 1) (by rw [HSN.out,HG.out]))
    go_wp2_with (go_at_call 73; refine HC.out.mono ?_; rw [HG.out]; rintro e w1 ⟨rfl,⟨L',hbx1,hL'⟩,hk1⟩)
    go_ret;exact ⟨⟨_,rfl,by rw [HF.out]; simp⟩,⟨L',hbx1,fun hh => by rw [HF.out] at hh; cases hh⟩,hkp.trans hk1⟩
  ·obtain rfl:k = xs.length:=by omega
   have h1:=HGD.out;rw [take_length] at h1 hbx;have HF:=Lib.hid (show ok = true by rw [<- HOK.out]; exact h1);clear h1;go_wp2;go_ret;exact ⟨⟨_,rfl,by rw [HF.out]; rfl⟩,⟨_,hbx,fun _ => rfl⟩,hkp⟩
theorem VIsC_of {n:Nat} (hA:VIsA n):VIsC n:=by
 intro xs va deep N g bd bl L w hn h hNg hbox hbd hbg hbl hlg hwf hbk hT hG hdeep hL;have HC:=Lib.hid (zfP hA xs va deep N g bd bl L w hn h hNg hbox hbd hbg hbl hlg hwf hbk hT hG hdeep hL)
 go_enter Tryz.func72,Tryz.ntmps72
 go_wp2_with (go_at_call 94; refine HC.out.mono ?_; rintro e w1 ⟨⟨r,rfl,hr⟩,hL',hk1⟩; have HR:=Lib.hid hr; clear hr)
 go_ret;exact ⟨by rw [<- HR.out]; rfl,hL',hk1⟩
theorem VIs_all:∀ n,VIsA n
 | 0 => fun x cs deep N g L w hn => absurd x.nodes_pos (by omega)
 | n + 1 => VIsA_of (VIsC_of (VIs_all n))
theorem zfQ (x:V) (cs:List Value) (w:World) (h:Rd w x.d cs) (hwf:x.wf) (hbk:x.bulk <= 4294967295) (hT:Tabs w) :
  Calls Tryz.prog 34 #[.agg cs.toArray] w fun e w' => e = .returned (.bool x.ok) /\ Below w.heap.size w w':=by
 obtain ⟨k,m,e,s,a2,n2,c2,rfl⟩:=V.form h;obtain ⟨W0,hW0⟩:∃ W0,W0 = (w.alloc (.cells #[.int .i64 k,.int .i64 m,.int .i64 e,.string ⟨s.toArray⟩,.slice a2 n2 c2] 27)).alloc (.cells #[.int .i64 300] 3):=⟨_,rfl⟩;have HW:=Lib.hid hW0;have hA:Below w.heap.size w W0:=by rw [hW0]; exact ((Below.refl _ _).alloc lR _).alloc (by simp) _
 have hbx:intBox W0 (w.heap.size + 1) 300:=by
  rw [hW0]
  have:=zaJ (w.alloc (.cells #[.int .i64 k,.int .i64 m,.int .i64 e,.string ⟨s.toArray⟩,.slice a2 n2 c2] 27)) (.cells #[.int .i64 300] 3)
  simpa [intBox] using this
 have HC:=Lib.hid (VIs_all x.nodes x _ 0 w.heap.size (w.heap.size + 1) 300 W0 lR (h.rdN.below hA) (by omega) hbx hwf hbk (hT.below hA) ⟨hT.lt.1,hT.lt.2⟩ (by decide) (by decide));have hsz:W0.heap.size = w.heap.size + 2:=by rw [hW0]; simp
 clear hW0 h hbx
 go_enter Tryz.func34,Tryz.ntmps34
 go_wp2_with (go_at_call 52; rw [<- HW.out]; refine HC.out.mono ?_; rintro e w1 ⟨rfl,_,hk1⟩)
 go_ret;refine ⟨zax ?_,hA.trans (hk1.below (by omega) (fun k hk e => by omega))⟩;show vGood 0 300 x = _;rw [<- V.ok_impl]; unfold vGood; congr 1
 exact decide_eq_decide.2 (by omega)
end
section
variable {T:World -> Prop} {hT:Low ngl T}
theorem zgr (hTab:∀ w,T w -> Tabs w) (v:V) (hw:v.wf) (hb:v.bulk <= 4294967295):FnV (env T hT) 34 [.ag (vC v)] (.d (pB v.ok)):=by
 refine FnV.old rfl fun w C vs hF _ ht hlen hv => ?_
 match vs,hlen with
 | [a],_ =>
  have h0:=hv 0 _ _ rfl rfl;rw [<- V.pc_eq] at h0;obtain ⟨cs,rfl,h1⟩:=vRd hF (V.wfd v) h0;exact zfQ v cs w h1 hw hb (hTab w ht)
end
section
variable {T:World -> Prop} {hT:Low ngl T}
attribute [local irreducible] po mw pt
def WrN (t:Nat) (live:List Nat) (nt:Nat) (t' nt':Nat) (live':List Nat):Prop:=(t' = 1 \/ t' ∈ live') /\ nt <= nt' /\ (∀ s ∈ live,s < nt -> s ≠ t -> s ∈ live') /\ (t' = t \/ nt <= t')
theorem WrN.step {t nt n1:Nat} {live l1:List Nat} (hn:nt <= n1) (hl:∀ s ∈ live,s ∈ l1):WrN t live nt n1 (n1 + 1) (n1 :: l1.filter (· != t)) :=
 ⟨.inr (mem_cons_self ..),by omega,fun s hs _ hne => mem_cons_of_mem _ (mem_filter.2 ⟨hl s hs,by simpa using hne⟩),.inr hn⟩
theorem WrN.trans {t t1 t2 nt n1 n2:Nat} {live l1 l2:List Nat} (h:WrN t live nt t1 n1 l1) (k:WrN t1 l1 n1 t2 n2 l2):WrN t live nt t2 n2 l2:=by
 obtain ⟨_,h2,h3,h4⟩:=h;obtain ⟨k1,k2,k3,k4⟩:=k;exact ⟨k1,by omega,fun s hs hlt hne => k3 s (h3 s hs hlt hne) (by omega) (by omega),by omega⟩
mutual
theorem er_lw:∀ {c:PC},c.er = c -> c.lw 0
 | .v _,_ => by simp only [PC.lw]
 | .bld _ _ _ _,h => by simp [PC.er] at h
 | .anyp,_ => by simp only [PC.lw]
 | .row _ _ _,h => by simp [PC.er] at h
 | .sl t es,h => by
  simp only [PC.er,PC.sl.injEq] at h;simp only [PC.lw];exact erLL_lw h.2
theorem erL_lw:∀ {c:List PC},erL c = c -> lwL 0 c
 | [],_ => by simp only [lwL]
 | c :: cs,h => by
  simp only [erL,cons.injEq] at h;simp only [lwL];exact ⟨er_lw h.1,erL_lw h.2⟩
theorem erLL_lw:∀ {c:LP PC},erLL c = c -> lwLL 0 c
 | [],_ => by simp only [lwLL]
 | c :: cs,h => by
  simp only [erLL,cons.injEq] at h;simp only [lwLL];exact ⟨erL_lw h.1,erLL_lw h.2⟩
end
theorem lw_vC (v:V):lwL 0 (vC v):=erL_lw (zco v)
theorem V.wf_num {v:V} (h:v.wf):i64ok v.num:=by obtain ⟨k,n,e,s,kids⟩:=v; exact h.2.1
theorem V.wf_exp {v:V} (h:v.wf):i64ok v.exp:=by obtain ⟨k,n,e,s,kids⟩:=v; exact h.2.2.1
theorem zgs (t:Nat) (l:L8):∀ y ∈ bldC 0 t l,okC0 y:=by
 intro y hy;simp only [bldC,mem_cons,mem_nil_iff,or_false] at hy
 rcases hy with rfl | rfl
 ·rfl
 ·show PC.lw 0 (.sl t (pcB l))
  simp only [PC.lw];unfold pcB
  induction l with
  | nil => simp [lwLL]
  | cons b l ih => simp only [map_cons,lwLL,lwL,PC.lw,true_and]; exact ih
theorem V.ok_kind9 {v:V} (h:v.ok = true) (h0:¬ v.kind = 0) (h1:¬ v.kind = 1) (h2:¬ v.kind = 2) (h3:¬ v.kind = 3) (h4:¬ v.kind = 4) (h5:¬ v.kind = 5) (h6:¬ v.kind = 6) (h7:¬ v.kind = 7) (h8:¬ v.kind = 8):v.kind = 9:=by
 obtain ⟨k,n,e,s,kids⟩:=v;unfold V.ok at h;simp only [V.rightBy,Bool.and_eq_true,decide_eq_true_eq] at h;have h2':=h.1.2.2;simp only [V.kind] at *;simp only [V.selfBy] at h2';rw [if_neg (by omega)] at h2';simp only [h3,h4,h5,h6,h7,h8,if_false] at h2'
 split at h2'
 ·assumption
 ·cases h2'
def PmG (T:World -> Prop) (hT:Low ngl T) (v:V):Prop:=∀ (t nt:Nat) (live:List Nat) (l:L8),(t = 1 \/ t ∈ live) -> l.length + (msg v).length <= 4294967296 ->
 FnG (env T hT) 53 [.ref 0 0,.ag (vC v)] [bldC 0 t l] nt live (fun x b n l' => ∃ c' rest,b = c' :: rest /\ x.lw 0 /\ (∀ y ∈ c',okC0 y) /\ ∃ t',c' = bldC 0 t' (l ++ msg v) /\ WrN t live nt t' n l')
def PmL (v:V) (l:L8) (t nt:Nat) (live:List Nat) (m:Nat) (s:St):Prop:=∃ i:Nat,i <= v.kids.length /\ m = v.kids.length - i /\ has s.tm [(0,.ref 0 0),(91,.d (.sl 0 (vK v.kids))),(92,.d (pI v.kids.length)),(93,.d (pI i))] /\
 ∃ t' rest,s.bx = bldC 0 t' (l ++ (msgHd v ++ msgs (v.kids.take i))) :: vC v :: rest /\ WrN t live nt t' s.nt s.live
theorem pm_step {v:V} (hw:v.wf) (hk:v.ok = true) (hkid:∀ (i:Nat) (h:i < v.kids.length),PmG T hT v.kids[i]):PmG T hT v:=by
 intro t nt live l ht htot;obtain ⟨hml,htl⟩:=V.ok_msg hk;have hvlen:(vK v.kids).length = v.kids.length:=zaU _;have hkl:=V.ok_len hk;have mm:=zbg;have wnum:i64ok v.num:=V.wf_num hw;have wexp:i64ok v.exp:=V.wf_exp hw;have hnum:=putNum_fn (T:=T) (hT:=hT) v.num wnum;have hwide:=fun x k h hx => zgn (T:=T) (hT:=hT) x k h hx
 have hlen5:=fun n a b c d h1 h2 h3 => putLen_fn (T:=T) (hT:=hT) n a b c d h1 h2 h3
 have hM:(msg v).length = (msgHd v).length + (msgs v.kids).length:=by rw [zdV,length_append]
 have ht2:t = 1 \/ t ∈ nt :: live:=ht.imp id fun h => mem_cons_of_mem _ h
 refine zaY (zag zgl) (by show 2 <= 101; decide) fun B hB => ?_
 unfold m_i_putMsg;refine mO ?_;refine zbb rfl ?_;refine zaa ?_;refine zaC (fun s => has s.tm [(0,.ref 0 0),(3,.ref 1 0)] /\ ∃ t',s.bx = [bldC 0 t' (l ++ msgHd v),vC v] /\ WrN t live nt t' s.nt s.live) ?_ ?_
 ·refine mO ?_
  (iterate 2 refine mS ?_);refine zaa ?_;refine zad (zak (zae ?_));by_cases h0:v.kind = 0
  ·refine zal rfl rfl (decide_eq_true h0) ?_
   refine mT ?_;have e:msgHd v = [192]:=by unfold msgHd; simp [h0]
   have hlen:1 <= (msg v).length:=by rw [hM,e]; exact Nat.le_add_right 1 _
   refine zae ?_;refine mS ?_;refine po_g rfl (ze3 192 (l:=l) (t:=t) rfl ht (by omega)) ?_;rintro x _ _ _ ⟨rfl,rfl,rfl⟩;refine zaa ?_;exact ⟨⟨rfl,rfl,trivial⟩,nt,by rw [e]; rfl,WrN.step lR fun _ h => h⟩
  refine zas rfl rfl (decide_eq_false h0) ?_;refine mF ?_;refine mO ?_;by_cases h1:v.kind = 1
  ·refine zal rfl rfl (decide_eq_true h1) ?_
   refine mT ?_;have e:msgHd v = [194]:=by unfold msgHd; simp [h1]
   have hlen:1 <= (msg v).length:=by rw [hM,e]; exact Nat.le_add_right 1 _
   refine zae ?_;refine mS ?_;refine po_g rfl (ze3 194 (l:=l) (t:=t) rfl ht (by omega)) ?_;rintro x _ _ _ ⟨rfl,rfl,rfl⟩;refine zaa ?_;exact ⟨⟨rfl,rfl,trivial⟩,nt,by rw [e]; rfl,WrN.step lR fun _ h => h⟩
  refine zas rfl rfl (decide_eq_false h1) ?_;refine mF ?_;refine mO ?_;by_cases h2:v.kind = 2
  ·refine zal rfl rfl (decide_eq_true h2) ?_
   refine mT ?_;have e:msgHd v = [195]:=by unfold msgHd; simp [h2]
   have hlen:1 <= (msg v).length:=by rw [hM,e]; exact Nat.le_add_right 1 _
   refine zae ?_;refine mS ?_;refine po_g rfl (ze3 195 (l:=l) (t:=t) rfl ht (by omega)) ?_;rintro x _ _ _ ⟨rfl,rfl,rfl⟩;refine zaa ?_;exact ⟨⟨rfl,rfl,trivial⟩,nt,by rw [e]; rfl,WrN.step lR fun _ h => h⟩
  refine zas rfl rfl (decide_eq_false h2) ?_;refine mF ?_;refine mO ?_;by_cases h3:v.kind = 3
  ·refine zal rfl rfl (decide_eq_true h3) ?_
   refine mT ?_;have e:msgHd v = msgInt v.num:=by unfold msgHd; simp [h3]
   have hlen:(msgInt v.num).length <= (msg v).length:=by rw [hM,e]; exact Nat.le_add_right _ _
   refine zae ?_;(iterate 3 refine mS ?_);refine zab rfl hnum ?_;refine po_g rfl (zbD (msgInt v.num) (l:=l) (t:=t) rfl ht (by omega)) ?_;rintro x _ _ _ ⟨rfl,rfl,rfl⟩;refine zaa ?_;exact ⟨⟨rfl,rfl,trivial⟩,nt,by rw [e]; rfl,WrN.step lR (fun _ h => h)⟩
  refine zas rfl rfl (decide_eq_false h3) ?_;refine mF ?_;refine mO ?_;by_cases h5:v.kind = 5
  ·refine zal rfl rfl (decide_eq_true h5) ?_
   refine mT ?_;have e:msgHd v = msgMany v.text.length 32 160 217 218 ++ v.text:=by unfold msgHd; simp [h5]
   have hlen:(msgMany v.text.length 32 160 217 218 ++ v.text).length <= (msg v).length:=by rw [hM,e]; exact Nat.le_add_right _ _
   refine zae ?_;(iterate 4 refine mS ?_);(iterate 2 refine mS ?_);refine zab (args:=[.d (pI v.text.length),.d (pI 160),.d (pI 32),.d (pI 217),.d (pI 218)]) rfl (hlen5 v.text.length 32 160 217 218 (by omega) (by omega) (by omega)) ?_;refine zau (lb:=v.text) rfl rfl rfl (by have:=mm v.text.length 32 160 217 218; omega) ?_;refine po_g rfl (zbD (msgMany v.text.length 32 160 217 218 ++ v.text) (l:=l) (t:=t) rfl ht (by omega)) ?_;rintro x _ _ _ ⟨rfl,rfl,rfl⟩;refine zaa ?_;exact ⟨⟨rfl,rfl,trivial⟩,nt,by rw [e]; rfl,WrN.step lR (fun _ h => h)⟩
  refine zas rfl rfl (decide_eq_false h5) ?_;refine mF ?_;refine mO ?_;by_cases h6:v.kind = 6
  ·refine zal rfl rfl (decide_eq_true h6) ?_
   refine mT ?_;have e:msgHd v = msgMany v.text.length 0 0 196 197 ++ v.text:=by unfold msgHd; simp [h6]
   have hlen:(msgMany v.text.length 0 0 196 197 ++ v.text).length <= (msg v).length:=by rw [hM,e]; exact Nat.le_add_right _ _
   refine zae ?_;(iterate 4 refine mS ?_);(iterate 2 refine mS ?_);refine zab (args:=[.d (pI v.text.length),.d (pI 0),.d (pI 0),.d (pI 196),.d (pI 197)]) rfl (hlen5 v.text.length 0 0 196 197 (by omega) (by omega) (by omega)) ?_;refine zau (lb:=v.text) rfl rfl rfl (by have:=mm v.text.length 0 0 196 197; omega) ?_;refine po_g rfl (zbD (msgMany v.text.length 0 0 196 197 ++ v.text) (l:=l) (t:=t) rfl ht (by omega)) ?_;rintro x _ _ _ ⟨rfl,rfl,rfl⟩;refine zaa ?_;exact ⟨⟨rfl,rfl,trivial⟩,nt,by rw [e]; rfl,WrN.step lR (fun _ h => h)⟩
  refine zas rfl rfl (decide_eq_false h6) ?_;refine mF ?_;refine mO ?_;by_cases h7:v.kind = 7
  ·refine zal rfl rfl (decide_eq_true h7) ?_
   refine mT ?_;have e:msgHd v = msgMany v.kids.length 16 144 0 220:=by unfold msgHd; simp [h7]
   have hlen:(msgMany v.kids.length 16 144 0 220).length <= (msg v).length:=by rw [hM,e]; exact Nat.le_add_right _ _
   refine zae ?_;(iterate 3 refine mS ?_);refine zaH (n:=v.kids.length) rfl rfl hvlen ?_;refine zab (args:=[.d (pI v.kids.length),.d (pI 144),.d (pI 16),.d (pI 0),.d (pI 220)]) rfl (hlen5 v.kids.length 16 144 0 220 (by omega) (by omega) (by omega)) ?_;refine po_g rfl (zbD (msgMany v.kids.length 16 144 0 220) (l:=l) (t:=t) rfl ht (by omega)) ?_;rintro x _ _ _ ⟨rfl,rfl,rfl⟩;refine zaa ?_;exact ⟨⟨rfl,rfl,trivial⟩,nt,by rw [e]; rfl,WrN.step lR (fun _ h => h)⟩
  refine zas rfl rfl (decide_eq_false h7) ?_;refine mF ?_;refine mO ?_;by_cases h8:v.kind = 8
  ·refine zal rfl rfl (decide_eq_true h8) ?_
   refine mT ?_;have e:msgHd v = msgMany ((v.kids.length / 2:Nat):Int) 16 128 0 222:=by unfold msgHd; simp [h8]
   have hlen:(msgMany ((v.kids.length / 2:Nat):Int) 16 128 0 222).length <= (msg v).length:=by rw [hM,e]; exact Nat.le_add_right _ _
   refine zae ?_;(iterate 3 refine mS ?_);refine zaH (n:=v.kids.length) rfl rfl hvlen ?_;refine po_q (v:=.d (pI ((v.kids.length / 2:Nat):Int))) rfl (by show some (PV.d (.v (.int .i64 (IntKind.wrap .i64 (((v.kids.length:Nat):Int).tdiv 2))))) = _; rw [show IntKind.wrap .i64 (((v.kids.length:Nat):Int).tdiv 2) = ((v.kids.length / 2:Nat):Int) by rw [IntKind.wrap_i64,Int.tdiv_eq_ediv_of_nonneg (by omega)]; omega]; rfl) ?_;refine zab (args:=[.d (pI ((v.kids.length / 2:Nat):Int)),.d (pI 128),.d (pI 16),.d (pI 0),.d (pI 222)]) rfl (hlen5 ((v.kids.length / 2:Nat):Int) 16 128 0 222 (by omega) (by omega) (by omega)) ?_;refine po_g rfl (zbD (msgMany ((v.kids.length / 2:Nat):Int) 16 128 0 222) (l:=l) (t:=t) rfl ht (by omega)) ?_;rintro x _ _ _ ⟨rfl,rfl,rfl⟩;refine zaa ?_;exact ⟨⟨rfl,rfl,trivial⟩,nt,by rw [e]; rfl,WrN.step lR (fun _ h => h)⟩
  refine zas rfl rfl (decide_eq_false h8) ?_;refine mF ?_;refine mO ?_;by_cases h4:v.kind = 4
  ·refine zal rfl rfl (decide_eq_true h4) ?_
   refine mT ?_;have e:msgHd v = [199,9,4] ++ be 1 (lo64 v.exp) ++ be 8 (lo64 v.num):=by unfold msgHd; simp [h4]
   have hlen:([199,9,4] ++ be 1 (lo64 v.exp) ++ be 8 (lo64 v.num)).length <= (msg v).length:=by rw [hM,e]; exact Nat.le_add_right _ _
   refine zbf ?_;refine zai ?_;refine mS ?_;refine mS ?_;refine mS ?_;refine mS ?_;refine mL ?_;refine zaq ?_;refine zar ?_ ?_
   ·refine zao (es:=[[.v (.int .u8 199)],[.v (.int .u8 9)],[.v (.int .u8 4)]]) rfl ?_
    refine zaa ?_;refine zai ?_;refine mL ?_;refine zaq ?_;refine zar ?_ zap;refine zab rfl (hwide v.exp 1 (by omega) wexp) ?_;refine zaa ?_;refine zai ?_;refine zau (la:=[199,9,4]) (lb:=be 1 (lo64 v.exp)) rfl rfl rfl (by rw [zac]; simp) ?_;refine zaa ?_;refine zaq ?_;refine zar ?_ zap;refine zab rfl (hwide v.num 8 (by omega) wnum) ?_;refine zaa ?_;refine zai ?_;refine zau (la:=[199,9,4] ++ be 1 (lo64 v.exp)) (lb:=be 8 (lo64 v.num)) rfl rfl rfl (by rw [length_append,zac,zac]; simp) ?_;refine zaa ?_;refine zaq ?_;refine zar ?_ zap;refine po_g rfl (zbD ([199,9,4] ++ be 1 (lo64 v.exp) ++ be 8 (lo64 v.num)) (l:=l) (t:=t) rfl ht2 (by omega)) ?_;rintro x _ _ _ ⟨rfl,rfl,rfl⟩;refine zaa ?_;refine zai ?_;refine zaa ?_;refine zaG ?_;exact ⟨⟨rfl,rfl,trivial⟩,nt + 1,by rw [e]; rfl,WrN.step (Nat.le_succ _) fun _ h => mem_cons_of_mem _ h⟩
   refine zar ?_ zap;refine zab rfl (hwide v.exp 1 (by omega) wexp) ?_;refine zaa ?_;refine zai ?_;refine zaa ?_;refine zaq ?_;refine zar ?_ ?_
   ·refine zao (es:=[[.v (.int .u8 199)],[.v (.int .u8 9)],[.v (.int .u8 4)]]) rfl ?_
    refine zaa ?_;refine zai ?_;refine mS ?_;refine zau (la:=[199,9,4]) (lb:=be 1 (lo64 v.exp)) rfl rfl rfl (by rw [zac]; simp) ?_;refine zaa ?_;refine zaq ?_;refine zar ?_ zap;refine zab rfl (hwide v.num 8 (by omega) wnum) ?_;refine zaa ?_;refine zai ?_;refine zau (la:=[199,9,4] ++ be 1 (lo64 v.exp)) (lb:=be 8 (lo64 v.num)) rfl rfl rfl (by rw [length_append,zac,zac]; simp) ?_;refine zaa ?_;refine zaq ?_;refine zar ?_ zap;refine po_g rfl (zbD ([199,9,4] ++ be 1 (lo64 v.exp) ++ be 8 (lo64 v.num)) (l:=l) (t:=t) rfl ht2 (by omega)) ?_;rintro x _ _ _ ⟨rfl,rfl,rfl⟩;refine zaa ?_;refine zai ?_;refine zaa ?_;refine zaG ?_;exact ⟨⟨rfl,rfl,trivial⟩,nt + 1,by rw [e]; rfl,WrN.step (Nat.le_succ _) fun _ h => mem_cons_of_mem _ h⟩
   refine zar ?_ zap;refine zab rfl (hwide v.num 8 (by omega) wnum) ?_;refine zaa ?_;refine zai ?_;refine zaa ?_;refine zaq ?_;refine zar ?_ zap;refine zao (es:=[[.v (.int .u8 199)],[.v (.int .u8 9)],[.v (.int .u8 4)]]) rfl ?_;refine zaa ?_;refine zai ?_;refine mS ?_;refine zau (la:=[199,9,4]) (lb:=be 1 (lo64 v.exp)) rfl rfl rfl (by rw [zac]; simp) ?_;refine zau (la:=[199,9,4] ++ be 1 (lo64 v.exp)) (lb:=be 8 (lo64 v.num)) rfl rfl rfl (by rw [length_append,zac,zac]; simp) ?_;refine zaa ?_;refine zaq ?_;refine zar ?_ zap;refine po_g rfl (zbD ([199,9,4] ++ be 1 (lo64 v.exp) ++ be 8 (lo64 v.num)) (l:=l) (t:=t) rfl ht2 (by omega)) ?_;rintro x _ _ _ ⟨rfl,rfl,rfl⟩;refine zaa ?_;refine zai ?_;refine zaa ?_;refine zaG ?_;exact ⟨⟨rfl,rfl,trivial⟩,nt + 1,by rw [e]; rfl,WrN.step (Nat.le_succ _) fun _ h => mem_cons_of_mem _ h⟩
  refine zas rfl rfl (decide_eq_false h4) ?_;refine mF ?_;refine mO ?_;have h9:v.kind = 9:=V.ok_kind9 hk h0 h1 h2 h3 h4 h5 h6 h7 h8;refine zal rfl rfl (decide_eq_true h9) ?_;refine mT ?_;have e:msgHd v = [199,4,6] ++ be 4 (lo64 v.num):=by unfold msgHd; simp [h9]
  have hlen:([199,4,6] ++ be 4 (lo64 v.num)).length <= (msg v).length:=by rw [hM,e]; exact Nat.le_add_right _ _
  refine zbf ?_;refine zai ?_;refine mS ?_;refine mS ?_;refine mL ?_;refine zaq ?_;refine zar ?_ ?_
  ·refine zao (es:=[[.v (.int .u8 199)],[.v (.int .u8 4)],[.v (.int .u8 6)]]) rfl ?_
   refine zaa ?_;refine zai ?_;refine mL ?_;refine zaq ?_;refine zar ?_ zap;refine zab rfl (hwide v.num 4 (by omega) wnum) ?_;refine zaa ?_;refine zai ?_;refine zau (la:=[199,4,6]) (lb:=be 4 (lo64 v.num)) rfl rfl rfl (by rw [zac]; simp) ?_;refine zaa ?_;refine zaq ?_;refine zar ?_ zap;refine po_g rfl (zbD ([199,4,6] ++ be 4 (lo64 v.num)) (l:=l) (t:=t) rfl ht2 (by omega)) ?_;rintro x _ _ _ ⟨rfl,rfl,rfl⟩;refine zaa ?_;refine zai ?_;refine zaa ?_;refine zaG ?_;exact ⟨⟨rfl,rfl,trivial⟩,nt + 1,by rw [e]; rfl,WrN.step (Nat.le_succ _) fun _ h => mem_cons_of_mem _ h⟩
  refine zar ?_ zap;refine zab rfl (hwide v.num 4 (by omega) wnum) ?_;refine zaa ?_;refine zai ?_;refine zaa ?_;refine zaq ?_;refine zar ?_ zap;refine zao (es:=[[.v (.int .u8 199)],[.v (.int .u8 4)],[.v (.int .u8 6)]]) rfl ?_;refine zaa ?_;refine zai ?_;refine mS ?_;refine zau (la:=[199,4,6]) (lb:=be 4 (lo64 v.num)) rfl rfl rfl (by rw [zac]; simp) ?_;refine zaa ?_;refine zaq ?_;refine zar ?_ zap;refine po_g rfl (zbD ([199,4,6] ++ be 4 (lo64 v.num)) (l:=l) (t:=t) rfl ht2 (by omega)) ?_;rintro x _ _ _ ⟨rfl,rfl,rfl⟩;refine zaa ?_;refine zai ?_;refine zaa ?_;refine zaG ?_;exact ⟨⟨rfl,rfl,trivial⟩,nt + 1,by rw [e]; rfl,WrN.step (Nat.le_succ _) fun _ h => mem_cons_of_mem _ h⟩
 rintro tm bx nt1 live1 ⟨ht0,t1,hbx,hW⟩;obtain ⟨tm0,rfl⟩:=zaf ht0;simp only at hbx hW; subst hbx
 clear ht0;refine mO ?_;(iterate 2 refine mS ?_);refine zaH (n:=v.kids.length) rfl rfl hvlen ?_;refine mN ?_;refine zad ?_;refine zav (PmL v l t nt live) v.kids.length ⟨0,Nat.zero_le _,by simp,⟨rfl,rfl,rfl,rfl,trivial⟩,t1,[],by rw [take_zero]; show [bldC 0 t1 (l ++ msgHd v),vC v] = [bldC 0 t1 (l ++ (msgHd v ++ [])),vC v]; rw [append_nil],hW⟩ ?_;rintro m tm bx n2 live2 ⟨i,hi,rfl,ht0,t2,rest,hbx,hV⟩;obtain ⟨tm0,rfl⟩:=zaf ht0;simp only at hbx hV; subst hbx
 clear ht0;refine mO ?_;refine po_b rfl rfl (fun b hb => ?_);refine zaa ?_;refine zak ?_;refine zbt (p:=(i:Int) < (v.kids.length:Int)) hb rfl (fun h _ => ?_) (fun h _ => ?_)
 ·have hil:i < v.kids.length:=by omega
  have hT1:=zfD hil;have hL:=zcJ (i + 1) v.kids;rw [hT1,length_append] at hL;refine zaj ?_;refine zak (zad (zak (zae ?_)));refine za3 (es:=vK v.kids) (e:=vC v.kids[i]) rfl rfl rfl ⟨by omega,by rw [Int.toNat_natCast]; exact zby hil⟩ rfl ?_;refine mS ?_;refine zed (cs:=vC v.kids[i]) rfl rfl rfl rfl ?_;refine zaa ?_;refine zae ?_;refine mS ?_;refine zaS (cs:=vC v.kids[i]) (v:=.ag (vC v.kids[i])) rfl rfl (zbB (bldC 0 t2 (l ++ (msgHd v ++ msgs (v.kids.take i))) :: vC v :: rest) _) (Nat.le_refl 5) rfl ?_;refine po_g rfl (FnG.liftM (p:=0) (hkid i hil t2 n2 live2 (l ++ (msgHd v ++ msgs (v.kids.take i))) hV.1 (by simp only [length_append] at *; omega)) ⟨lw_vC _,trivial⟩ (zgs _ _) rfl) ?_;rintro x _ n3 live3 ⟨c',rfl,t3,rfl,hW2⟩;refine zaa ?_;refine zae ?_;refine zat (n:=((i + 1:Nat):Int)) rfl rfl rfl (by omega) (by omega) ?_
  refine mN ?_;refine ⟨v.kids.length - (i + 1),by omega,i + 1,hil,rfl,⟨rfl,rfl,rfl,rfl,trivial⟩,t3,rest ++ [vC v.kids[i]],?_,hV.trans hW2⟩;rw [hT1]; simp only [append_assoc]; rfl
 ·refine zaA ?_
  have hie:i = v.kids.length:=by omega
  subst hie;refine ⟨.inl rfl,[],rfl,_,_,rfl,?_,zgs t2 _,t2,?_,hV⟩
  ·trivial
  ·rw [take_length,zdV]
theorem pm_all:∀ (N:Nat) (v:V),v.nodes <= N -> v.wf -> v.ok = true -> PmG T hT v
 | 0,v,hn,_,_ => by obtain ⟨k,n,e,s,kids⟩:=v; simp only [V.nodes] at hn; omega
 | N + 1,v,hn,hw,hk => pm_step hw hk fun i h => pm_all N v.kids[i] (V.nodes_kid hn i h) (V.wf_kid hw i h) (V.ok_kid hk i h)
theorem V.ok_right {v:V} (h:v.ok = true):v.rightBy pairsOk 12 = true:=by
 unfold V.ok at h; simp only [Bool.and_eq_true] at h; exact h.1
theorem msg_ne {v:V} (hw:v.wf) (h:v.ok = true):msg v ≠ []:=by
 obtain ⟨b,t,_,_,e⟩:=msg_top (V.ok_right h) (V.ok_len h) (V.wf_num hw);rw [e]; exact fun h => by cases h
theorem putMsgI_fn (hTab:∀ w,T w -> Tabs w) (v:V) (hw:v.wf) (hb:v.bulk <= 4294967295):FnV (env T hT) 35 [.ag (vC v)] (.d (pS (msgTop v))):=by
 have hvok:=zgr (T:=T) (hT:=hT) hTab v hw hb;have hpm:=fun hk => pm_all (T:=T) (hT:=hT) v.nodes v lR hw hk
 refine zaX (zag zgk) (by show 1 <= 10; decide) fun B hB => ?_
 unfold m_i_PutMsg;refine mP ?_;refine mM ?_;refine mS ?_;refine zab (za1 v) hvok ?_;refine mN ?_;unfold msgTop;by_cases hk:v.ok = true
 ·rw [if_pos hk,hk]
  refine mwF ?_;refine zaj ?_;refine mO ?_;refine po_zbld ?_;refine zaa ?_;refine mQ ?_;have hml:=V.ok_msg hk;refine po_g rfl (FnG.liftM (p:=1) (hpm hk 1 _ _ [] (.inl rfl) (by rw [zdV,length_append]; simp only [length_nil]; omega)) ⟨lw_vC _,trivial⟩ (zgs 1 []) rfl) ?_;rintro x _ n1 live1 ⟨c',rfl,t1,rfl,hW⟩;refine zaa ?_;refine mO ?_;refine po_g rfl (bstr_fn (p:=1) (t:=t1) (l:=[] ++ msg v) (msg_ne hw hk) rfl hW.1) ?_;rintro x _ _ _ ⟨rfl,rfl,rfl,rfl⟩;refine mN ?_;exact mR
 ·have hk':v.ok = false:=by simpa using hk
  rw [if_neg hk,hk'];refine mwT ?_;refine mP ?_;exact mR
end
section
theorem crc_and (y:Nat) (h:y < 4294967296):bits .and .u32 (y:Int) 1 = ((y % 2:Nat):Int):=by
 have:=u32_and_nat y 1 h (by omega)
 rw [show ((1:Nat):Int) = 1 from rfl] at this;rw [this,Nat.and_one_is_mod]
theorem crc_xor (y:Nat) (h:y < 4294967296):bits .xor .u32 ((y:Int) / 2) 3988292384 = ((y / 2 ^^^ 3988292384:Nat):Int):=by
 have:=u32_xor_nat (y / 2) 3988292384 (by omega) (by omega)
 rw [<- this]; rfl
theorem crc_not (l:L8):bits .xor .u32 IntKind.u32.max ((crcRaw l:Nat):Int) = ((crc l:Nat):Int):=by
 rw [crc,Nat.xor_comm]; exact u32_xor_nat 4294967295 _ (by decide) (zbT l)
theorem zez (y:Nat) (h:y % 2 = 1):crcBit y = y / 2 ^^^ 3988292384:=by unfold crcBit; rw [if_pos h]
theorem zd5 (y:Nat) (h:¬ y % 2 = 1):crcBit y = y / 2:=by unfold crcBit; rw [if_neg h]
theorem crc_spec (l:L8) (w:World) (hs:l.length <= maxLen) :
  Calls Tryz.prog 16 #[.string ⟨l.toArray⟩] w fun e w' => e = .returned (.int .u32 (crc l)) /\ w = w':=by
 unfold maxLen at hs
 go_enter Tryz.func16,Tryz.ntmps16
 go_wp2
 go_loop [3,4] (fun x i => ∃ (k:Nat),k <= l.length /\ i = .int .i64 k /\ x = .int .u32 (crcRaw (l.take k))) (fun _ i => l.length - (intOf i).toNat)
 case atStart => exact ⟨0,Nat.zero_le _,rfl,rfl⟩
 case round =>
  obtain ⟨k,hk,rfl,rfl⟩:=hrel;have hc:=zbT (l.take k);by_cases hlt:k < l.length
  ·have hb:=l[k].toNat_lt
   have hx:bits .xor .u32 (crcRaw (l.take k)) (l[k].toNat:Int) = ((crcRaw (l.take k) ^^^ l[k].toNat:Nat):Int):=u32_xor_nat _ _ hc (by omega);have hxl:(crcRaw (l.take k) ^^^ l[k].toNat:Nat) < 4294967296:=zbk hc (by omega);have HS:=Lib.hid (zdx l k hlt);go_wp2
   go_loop [3,5] (fun x i => ∃ (j:Nat),j <= 8 /\ i = .int .i64 j /\ x = .int .u32 (crcBits j (crcRaw (l.take k) ^^^ l[k].toNat):Nat)) (fun _ i => 8 - (intOf i).toNat)
   case atStart => exact ⟨0,Nat.zero_le _,rfl,rfl⟩
   case round =>
    obtain ⟨j,hj,rfl,rfl⟩:=hrel;by_cases hl8:j < 8
    ·have hz:=zbq hxl j
     generalize hy:crcBits j (crcRaw (l.take k) ^^^ l[k].toNat) = y at *;have HY:=Lib.hid hy; clear hy
     have ha:=crc_and y hz;by_cases ho:y % 2 = 1
     ·have ha1:bits .and .u32 (y:Int) 1 = 1:=by rw [ha,ho]; rfl
      have hx2:=crc_xor y hz;have HF:=Lib.hid (zez y ho);clear ha ho;go_wp2
      go_round
      case rel => exact ⟨j + 1,by omega,by go_num,by rw [crcBits,HY.out,HF.out]⟩
      case measure => simp [intOf] <;> omega
     ·have ha1:bits .and .u32 (y:Int) 1 = 0:=by rw [ha,show y % 2 = 0 by omega]; rfl
      have HF:=Lib.hid (zd5 y ho);clear ha ho;go_wp2
      go_round
      case rel => exact ⟨j + 1,by omega,by go_num,by rw [crcBits,HY.out,HF.out]; simp⟩
      case measure => simp [intOf] <;> omega
    ·obtain rfl:j = 8:=by omega
     go_wp2
     go_round
     case rel => exact ⟨k + 1,by omega,by go_num,by rw [HS.out]; rfl⟩
     case measure => simp [intOf] <;> omega
  ·obtain rfl:k = l.length:=by omega
   have hx:bits .xor .u32 ((crcRaw l:Nat):Int) (4294967295:Int) = ((crc l:Nat):Int):=u32_xor_nat _ _ (zbT l) (by decide);go_wp2;go_ret;exact ⟨rfl,rfl⟩
theorem ze4 (l:L8) (w:World) (hs:l.length <= maxLen) :
  Calls Tryz.prog 15 #[.string ⟨l.toArray⟩] w fun e w' => e = .returned (.int .u32 (crc l)) /\ w = w':=by
 unfold maxLen at hs
 go_enter Tryz.func15,Tryz.ntmps15
 go_wp2
 go_loop [3,8] (fun x i => ∃ (k:Nat),k <= l.length /\ i = .int .i64 k /\ x = .int .u32 (crcRaw (l.take k))) (fun _ i => l.length - (intOf i).toNat)
 case atStart => exact ⟨0,Nat.zero_le _,rfl,rfl⟩
 case round =>
  obtain ⟨k,hk,rfl,rfl⟩:=hrel;have hc:=zbT (l.take k);by_cases hlt:k < l.length
  ·have hb:=l[k].toNat_lt
   have hx:bits .xor .u32 (crcRaw (l.take k)) (l[k].toNat:Int) = ((crcRaw (l.take k) ^^^ l[k].toNat:Nat):Int):=u32_xor_nat _ _ hc (by omega);have hxl:(crcRaw (l.take k) ^^^ l[k].toNat:Nat) < 4294967296:=zbk hc (by omega);have HS:=Lib.hid (zdx l k hlt);go_wp2
   go_loop [3,17] (fun x i => ∃ (j:Nat),j <= 8 /\ i = .int .i64 j /\ x = .int .u32 (crcBits j (crcRaw (l.take k) ^^^ l[k].toNat):Nat)) (fun _ i => 8 - (intOf i).toNat)
   case atStart => exact ⟨0,Nat.zero_le _,rfl,rfl⟩
   case round =>
    obtain ⟨j,hj,rfl,rfl⟩:=hrel;by_cases hl8:j < 8
    ·have hz:=zbq hxl j
     generalize hy:crcBits j (crcRaw (l.take k) ^^^ l[k].toNat) = y at *;have HY:=Lib.hid hy; clear hy
     have ha:=crc_and y hz;by_cases ho:y % 2 = 1
     ·have ha1:bits .and .u32 (y:Int) 1 = 1:=by rw [ha,ho]; rfl
      have hx2:=crc_xor y hz;have HF:=Lib.hid (zez y ho);clear ha ho;go_wp2
      go_round
      case rel => exact ⟨j + 1,by omega,by go_num,by rw [crcBits,HY.out,HF.out]⟩
      case measure => simp [intOf] <;> omega
     ·have ha1:bits .and .u32 (y:Int) 1 = 0:=by rw [ha,show y % 2 = 0 by omega]; rfl
      have HF:=Lib.hid (zd5 y ho);clear ha ho;go_wp2
      go_round
      case rel => exact ⟨j + 1,by omega,by go_num,by rw [crcBits,HY.out,HF.out]; simp⟩
      case measure => simp [intOf] <;> omega
    ·obtain rfl:j = 8:=by omega
     go_wp2
     go_round
     case rel => exact ⟨k + 1,by omega,by go_num,by rw [HS.out]; rfl⟩
     case measure => simp [intOf] <;> omega
  ·obtain rfl:k = l.length:=by omega
   have hx:=crc_not l;go_wp2;go_ret;exact ⟨rfl,rfl⟩
theorem zcL (l:L8) (w:World) (hs:l.length <= 9223372036854775807) :
  Calls Tryz.prog 19 #[.string ⟨l.toArray⟩] w fun e w' => e = .returned (.string ⟨(frame l).toArray⟩) /\ Below w.heap.size w w':=by
 have hc:=zfc l;have hh:=zbS 2 l.length;obtain ⟨hh1,hh2⟩:=hh;have hm:l.length <= maxLen:=hs;have HM:=Lib.hid hm;clear hm
 go_enter Tryz.func19,Tryz.ntmps19
 go_wp2_with (first | (go_at_call 40; refine (zdc _ _ _ (by omega) (by omega)).mono ?_; rintro e w' ⟨rfl,hb⟩) | (go_at_call 41; refine (ze1 _ _ _ (by omega) (by omega)).mono ?_; rintro e w' ⟨rfl,hb⟩) | (go_at_call 16; refine (crc_spec _ _ HM.out).mono ?_; rintro e w' ⟨rfl,rfl⟩))
 all_goals
  go_ret;refine ⟨zbr ?_,by first | exact Below.refl _ _ | exact zan (by assumption) (by assumption) lR⟩;unfold frame
  first | rw [if_pos (by omega)] | rw [if_neg (by omega)]
 simp
theorem zde (n:Int) (w:World) (hn:0 <= n /\ n <= 4294967295) :
  Calls Tryz.prog 28 #[.int .u32 n] w fun e w' => e = .returned (.string ⟨(be 4 n.toNat).toArray⟩) /\ Below w.heap.size w w':=by
 obtain ⟨hn1,hn2⟩:=hn;have H:=Lib.hid (lo64_of n ⟨hn1,by omega⟩)
 go_enter Tryz.func28,Tryz.ntmps28
 go_wp2_with (go_at_call 48; refine (zdW _ _ _ (by omega) (by omega)).mono ?_; rintro e w' ⟨rfl,hb⟩)
 go_ret;exact ⟨by rw [H.out]; rfl,hb⟩
theorem ze5 (l:L8) (w:World) (hs:l.length <= 9223372036854775807) :
  Calls Tryz.prog 8 #[.string ⟨l.toArray⟩] w fun e w' => e = .returned (.string ⟨(frame l).toArray⟩) /\ Below w.heap.size w w':=by
 have hc:=zfc l;have hh:=zbS 2 l.length;obtain ⟨hh1,hh2⟩:=hh;have hm:l.length <= maxLen:=hs;have HM:=Lib.hid hm;clear hm
 go_enter Tryz.func8,Tryz.ntmps8
 go_wp2_with (first | (go_at_call 27; refine (zdd _ _ _ (by omega) (by omega)).mono ?_; rintro e w' ⟨rfl,hb⟩) | (go_at_call 28; refine (zde _ _ (by omega)).mono ?_; rintro e w' ⟨rfl,hb⟩) | (go_at_call 15; refine (ze4 _ _ HM.out).mono ?_; rintro e w' ⟨rfl,rfl⟩))
 all_goals
  go_ret;refine ⟨zbr ?_,by first | exact Below.refl _ _ | exact zan (by assumption) (by assumption) lR⟩;unfold frame
  first | rw [if_pos (by omega)] | rw [if_neg (by omega)]
 simp
end
section
variable {T:World -> Prop} {hT:Low ngl T}
attribute [local irreducible] po mw pt
def pU (n:Nat):PC:=.v (.int .u32 n)
theorem crcS_fn (l:L8) (hl:l.length <= maxLen):FnV (env T hT) 16 [.d (pS l)] (.d (pU (crc l))):=by
 refine FnV.old rfl fun w C vs hF _ _ hlen hv => ?_
 match vs,hlen with
 | [a],_ =>
  have h1:=pS_inv (hv 0 _ _ rfl rfl);subst h1;exact (crc_spec l w hl).mono fun e w' ⟨h1,h2⟩ => by subst h2; exact ⟨h1,Below.refl _ _⟩
theorem crcI_fn (l:L8) (hl:l.length <= maxLen):FnV (env T hT) 15 [.d (pS l)] (.d (pU (crc l))):=by
 refine FnV.old rfl fun w C vs hF _ _ hlen hv => ?_
 match vs,hlen with
 | [a],_ =>
  have h1:=pS_inv (hv 0 _ _ rfl rfl);subst h1;exact (ze4 l w hl).mono fun e w' ⟨h1,h2⟩ => by subst h2; exact ⟨h1,Below.refl _ _⟩
theorem ze6:∀ (kids out:List V),(insPs out kids).length <= out.length + kids.length
 | [],out => by simp [insPs]
 | [_],out => by simp [insPs]
 | x :: y :: r,out => by
  have:=ze6 r (insP out x y)
  rw [zca] at this;show (insPs (insP out x y) r).length <= _;simp only [length_cons]; omega
theorem V.sort_wf:∀ (N:Nat) (v:V),v.nodes <= N -> v.wf -> v.sort.wf
 | 0,v,h,_ => by have:=v.nodes_pos; omega
 | N + 1,.mk k n e s kids,hn,hw => by
  obtain ⟨h1,h2,h3,h4,h5,h6⟩:=hw;simp only [V.nodes] at hn
  have hall:∀ z ∈ V.sorts kids,z.wf:=fun z hz => by
   rw [V.sorts_map] at hz;obtain ⟨y,hy,rfl⟩:=mem_map.1 hz;obtain ⟨i,hi,rfl⟩:=List.getElem_of_mem hy
   have:=V.nodes_get kids i hi
   exact V.sort_wf N _ (by omega) (V.wfs_all.1 h6 _ hy)
  simp only [V.sort];refine ⟨h1,h2,h3,h4,?_,?_⟩
  ·split
   ·have:=ze6 (V.sorts kids) []
    rw [V.sorts_length,length_nil] at this; omega
   ·rw [V.sorts_length]; exact h5
  ·rw [V.wfs_all]
   intro z hz
   split at hz
   ·exact (zbw _ _ z hz).elim (fun h => by cases h) (hall z)
   ·exact hall z hz
def sumV (v:V):Nat:=if v.ok then crc (msg v.sort) else 0
theorem zfR {v:V} (h:v.ok = true):(msg v).length <= maxLen:=by
 have h1:=zgd v;have h2:=V.ok_bulk h;have h3:v.nodes <= 300:=by unfold V.ok at h; simp only [Bool.and_eq_true,decide_eq_true_eq] at h; exact h.2
 unfold maxLen; omega
theorem sortedS_fn (v:V) (hw:v.wf) (hb:v.bulk <= 1048576) (hf:v.few) (hk:v.ok = true):FnV (env T hT) 39 [.ag (vC v)] (.ag (vC v.sort)):=by
 refine zaX (zag zf9) (by show 1 <= 10; decide) fun B hB => ?_
 unfold m_s_Sorted;refine mO ?_;refine zbb (cs:=vC v) rfl ?_;refine mN ?_;refine mM ?_;refine zaW (p:=0) (cs:=vC v) rfl rfl rfl rfl ?_;refine zab (za1 v) (vok_fn (T:=T) (hT:=hT) v hw (by omega)) ?_;rw [hk];refine mK ?_;refine mO ?_;refine zaW (p:=0) (cs:=vC v) rfl rfl rfl rfl ?_;refine zab (za1 v) (sort_fn (T:=T) (hT:=hT) v (ok_rgt hk hf)) ?_;refine zaO (p:=1) (cs:=vC v.sort) rfl rfl rfl rfl rfl rfl ?_;refine mN ?_;refine zah ⟨.inr rfl,[.ag (vC v.sort)],rfl,?_⟩;show some (PV.ag (erL _)) = _;rw [zco]
theorem sumS_fn (v:V) (hw:v.wf) (hb:v.bulk <= 1048576) (hf:v.few):FnV (env T hT) 18 [.ag (vC v)] (.d (pU (sumV v))):=by
 refine zaX (zag lk_s_SumOf) (by show 1 <= 10; decide) fun B hB => ?_
 unfold m_s_SumOf;refine mO ?_;refine zbb (cs:=vC v) rfl ?_;refine mN ?_;refine mM ?_;refine zaW (p:=0) (cs:=vC v) rfl rfl rfl rfl ?_;refine zab (za1 v) (vok_fn (T:=T) (hT:=hT) v hw (by omega)) ?_;unfold sumV
 cases hk:v.ok with
 | false =>
  refine mT ?_;refine mP ?_
  exact mR
 | true =>
 obtain ⟨hk2,hb2⟩:=V.sort_okT hk;have hw2:=V.sort_wf v.nodes v lR hw;have hm:msgTop v.sort = msg v.sort:=by unfold msgTop; rw [if_pos hk2]
 refine mK ?_;refine mO ?_;refine zaW (p:=0) (cs:=vC v) rfl rfl rfl rfl ?_;refine zab (za1 v) (sortedS_fn (T:=T) (hT:=hT) v hw hb hf hk) ?_;refine zab (za1 v.sort) (putMsg_fn (T:=T) (hT:=hT) v.sort hw2 (by omega)) ?_;rw [hm];refine zab (args:=[.d (pS (msg v.sort))]) rfl (crcS_fn (msg v.sort) (zfR hk2)) ?_;refine mN ?_;exact mR
theorem zgt (hTab:∀ w,T w -> Tabs w) (v:V) (hw:v.wf) (hb:v.bulk <= 1048576) (hf:v.few):FnV (env T hT) 17 [.ag (vC v)] (.d (pU (sumV v))):=by
 refine zaX (zag lk_i_SumOf) (by show 1 <= 10; decide) fun B hB => ?_
 unfold m_i_SumOf;refine mO ?_;refine zbb (cs:=vC v) rfl ?_;refine mN ?_;refine mM ?_;refine zaW (p:=0) (cs:=vC v) rfl rfl rfl rfl ?_;refine zab (za1 v) (zgr (T:=T) (hT:=hT) hTab v hw (by omega)) ?_;unfold sumV
 cases hk:v.ok with
 | false =>
  refine mT ?_;refine mP ?_
  exact mR
 | true =>
 obtain ⟨hk2,hb2⟩:=V.sort_okT hk;have hw2:=V.sort_wf v.nodes v lR hw;have hm:msgTop v.sort = msg v.sort:=by unfold msgTop; rw [if_pos hk2]
 refine mK ?_;refine mO ?_;refine zaW (p:=0) (cs:=vC v) rfl rfl rfl rfl ?_;refine zab (za1 v) (sortI_fn (T:=T) (hT:=hT) v (ok_rgt hk hf)) ?_;refine zab (za1 v.sort) (putMsgI_fn (T:=T) (hT:=hT) hTab v.sort hw2 (by omega)) ?_;rw [hm];refine zab (args:=[.d (pS (msg v.sort))]) rfl (crcI_fn (msg v.sort) (zfR hk2)) ?_;refine mN ?_;exact mR
end
section
def OwnSl (B:Nat) (w:World) (e:TypeId) (n:Nat) (v:Value) (ds:List D):Prop :=
 ∃ xs fp,w.ownsRow B e n v ds.length xs /\ (∀ d ∈ ds,D.width d = n) /\ TreeCs w ds fp xs /\ fp.Nodup /\ (∀ b ∈ fp,B <= b) /\ (∀ g,v.ownBlock = some g -> g ∉ fp)
theorem OwnSl.made {B:Nat} {w:World} {e:TypeId} {n:Nat} {cs:Array Value} {cap:Nat} (hB:B <= w.heap.size) (hm:cap <= maxLen) (hs:cs.size = cap * n):OwnSl B (w.alloc (.cells cs e)) e n (.slice (some ⟨w.heap.size,0,none⟩) 0 cap) [] :=
 ⟨[],[],World.ownsRow_made w cs cap hB hm hs,by simp,by simp [TreeCs],by simp,by simp,by simp⟩
theorem OwnSl.form {B:Nat} {w:World} {e:TypeId} {n:Nat} {v:Value} {ds:List D} (h:OwnSl B w e n v ds):∃ a c,v = .slice a ds.length c:=by
 obtain ⟨xs,fp,hr,_⟩:=h
 rcases hr.2 with ⟨rfl,h2⟩ | ⟨g,cap,cur,rfl,_⟩
 ·rw [h2]; exact ⟨none,0,rfl⟩
 ·exact ⟨_,_,rfl⟩
theorem OwnSl.below {B:Nat} {w w':World} {e:TypeId} {n:Nat} {v:Value} {ds:List D} (h:OwnSl B w e n v ds) (hb:Below w.heap.size w w'):OwnSl B w' e n v ds:=by
 obtain ⟨xs,fp,⟨h1,h2⟩,hw,ht,k1,k2,k3⟩:=h;refine ⟨xs,fp,⟨h1,?_⟩,hw,ht.frame fun b hx => hb.block b (ht.lt b hx),k1,k2,k3⟩
 rcases h2 with h2 | ⟨g,cap,cur,hv,hg,hh,r⟩
 ·exact .inl h2
 ·exact .inr ⟨g,cap,cur,hv,hg,by rw [hb.block g (zaw hh)]; exact hh,r⟩
theorem OwnSl.alloc {B:Nat} {w:World} {e:TypeId} {n:Nat} {v:Value} {ds:List D} (h:OwnSl B w e n v ds) (o:Obj):OwnSl B (w.alloc o) e n v ds:=h.below ((Below.refl _ _).alloc lR o)
theorem OwnSl.own {B:Nat} {w:World} {e:TypeId} {n:Nat} {v:Value} {ds:List D} (h:OwnSl B w e n v ds) (hn:0 < n):Own B w (.sl n ds) [v]:=by
 obtain ⟨xs,fp,⟨h1,h2⟩,hw,ht,k1,k2,k3⟩:=h;by_cases hne:ds = []
 ·subst hne
  rcases h2 with ⟨rfl,_⟩ | ⟨g,cap,cur,rfl,_⟩
  ·exact ⟨[],by simp,by simp,by simp [TreeC]⟩
  ·exact ⟨[],by simp,by simp,by simp [TreeC]⟩
 ·rcases h2 with ⟨_,h2⟩ | ⟨g,cap,cur,rfl,hg,hh,hc1,hc2,hsz,htk⟩
  ·exact absurd (length_eq_zero_iff.1 h2) hne
  ·refine ⟨g :: fp,?_,?_,?_⟩
   ·rw [nodup_cons]; exact ⟨k3 g rfl,k1⟩
   ·intro b hb; rcases mem_cons.1 hb with rfl | hb
    ·exact hg
    ·exact k2 b hb
   ·simp only [TreeC]
    refine ⟨_,cap,rfl,.inr ⟨g,fp,cur,e,rfl,rfl,hh,hn,⟨hc1,hsz⟩,hc2,hw,?_⟩⟩;rw [Nat.mul_comm,htk]; exact ht
theorem OwnSl.mono {B B':Nat} {w:World} {e:TypeId} {n:Nat} {v:Value} {ds:List D} (h:OwnSl B w e n v ds) (hB:B' <= B):OwnSl B' w e n v ds:=by
 obtain ⟨xs,fp,⟨h1,h2⟩,hw,ht,k1,k2,k3⟩:=h;refine ⟨xs,fp,⟨h1,?_⟩,hw,ht,k1,fun b hb => Nat.le_trans hB (k2 b hb),k3⟩
 rcases h2 with h2 | ⟨g,cap,cur,hv,hg,r⟩
 ·exact .inl h2
 ·exact .inr ⟨g,cap,cur,hv,Nat.le_trans hB hg,r⟩
theorem lit_cells {w:World} {news:List Value} {e:TypeId}:∀ j u,news[j]? = some u -> (w.alloc (.cells news.toArray e)).cell? ((⟨w.heap.size,0,none⟩:Addr).add j) = some u:=by
 intro j u hj;rw [zaK,zay (zaJ w _)]; simpa using hj
theorem OwnSl.grow {B:Nat} {w0 w1 w':World} {e:TypeId} {n:Nat} {v:Value} {ds ds':List D} {news xs:List Value} {fp f2:List Nat} {g cap:Nat} (hB:B <= w0.heap.size) (hr0:w0.ownsRow B e n v ds.length xs) (hw:∀ d ∈ ds,D.width d = n) (ht:TreeCs w0 ds fp xs) (k1:fp.Nodup) (k2:∀ b ∈ fp,B <= b) (k3:∀ g,v.ownBlock = some g -> g ∉ fp)
  (hb:Below w0.heap.size w0 w1) (n2:f2.Nodup) (b2:∀ b ∈ f2,w0.heap.size <= b) (t2:TreeCs w1 ds' f2 news) (hw':∀ d ∈ ds',D.width d = n)
  (hrow:w'.ownsRow B e n (.slice (some ⟨g,0,none⟩) (ds.length + ds'.length) cap) (ds.length + ds'.length) (xs ++ news)) (hgr:(w1.alloc (.cells news.toArray e)).grownBy w' v.ownBlock) (hg:v.ownBlock = some g \/ g = (w1.alloc (.cells news.toArray e)).heap.size) :
  OwnSl B w' e n (.slice (some ⟨g,0,none⟩) (ds.length + ds'.length) cap) (ds ++ ds') /\ Below B w0 w':=by
 have hal:Below w1.heap.size w1 (w1.alloc (.cells news.toArray e)):=(Below.refl _ _).alloc lR _;have hb2:=zan hb hal lR;have hbl:∀ k,v.ownBlock = some k -> B <= k /\ k < w0.heap.size:=hr0.lt;have hsz:=hb.size;have hsz2:(w1.alloc (.cells news.toArray e)).heap.size = w1.heap.size + 1:=by simp
 have hfr:∀ b,b < (w1.alloc (.cells news.toArray e)).heap.size -> v.ownBlock ≠ some b -> w'.heap[b]? = (w1.alloc (.cells news.toArray e)).heap[b]?:=fun b h1 h2 => hgr.block b h1 (fun h => h2 h.symm)
 refine ⟨⟨xs ++ news,fp ++ f2,by rw [length_append]; exact hrow,?_,TreeCs.append (ht.frame fun b hx => ?_) (t2.frame fun b hx => ?_),?_,?_,?_⟩,?_⟩
 ·intro d hd; rcases mem_append.1 hd with h | h
  ·exact hw d h
  ·exact hw' d h
 ·have:=ht.lt b hx
  rw [hfr b (by omega) (fun h => k3 b h hx),hb2.block b this]
 ·have:=t2.lt b hx
  rw [hfr b (by omega) (fun h => by have:=(hbl b h).2; have:=b2 b hx; omega),hal.block b this]
 ·rw [nodup_append]
  refine ⟨k1,n2,fun a ha b hb' => ?_⟩
  have:=ht.lt a ha; have:=b2 b hb'; omega
 ·intro b hx; rcases mem_append.1 hx with h | h
  ·exact k2 b h
  ·exact Nat.le_trans hB (b2 b h)
 ·intro g' hg'
  obtain rfl:g = g':=by simpa [Value.ownBlock] using hg'
  intro hm
  rcases mem_append.1 hm with h | h
  ·rcases hg with hg | hg
   ·exact k3 g hg h
   ·have:=ht.lt g h; omega
  ·rcases hg with hg | hg
   ·have:=(hbl g hg).2; have:=b2 g h; omega
   ·have:=t2.lt g h; omega
 ·exact (hb2.mono hB).grown hgr (by omega) (fun k hk => (hbl k hk).1)
theorem wp_appD {P:Program} {ops:Array Oper} {rest:List Oper} {o:Oper} {a:Act} {Q:Exit -> Act -> World -> Prop} {t e:TypeId} {n bytes:Nat} {s x:Operand} {v:Value} {ds ds':List D} {news:List Value} {w0 w1:World}
  (T:ElemTy P t e n bytes) (hgd:o.guard = none) (ho:o.op = .call { callee:=.builtin .append,args:=#[s,x],argTypes:=#[t,t] })
  (B:Nat) (hown:OwnSl B w0 e n v ds) (hb:Below w0.heap.size w0 w1) (hB:B <= w0.heap.size) (k:Owns w0.heap.size w1 ds' news) (hw':∀ d ∈ ds',D.width d = n) (hne:0 < ds'.length) (h1:∀ u ∈ news,u.oneCell' = true)
  (hs:a.eval s = v) (c:Nat) (hx:a.eval x = .slice (some ⟨w1.heap.size,0,none⟩) ds'.length c) (h63:ds.length + ds'.length <= 4294967296) (hby:bytes <= 32768)
  (h:∀ g cap w',OwnSl B w' e n (.slice (some ⟨g,0,none⟩) (ds.length + ds'.length) cap) (ds ++ ds') -> Below B w0 w' -> wpList P ops Q rest (a.put o.dst (.slice (some ⟨g,0,none⟩) (ds.length + ds'.length) cap)) w'):wpList P ops Q (o :: rest) a (w1.alloc (.cells news.toArray e)):=by
 obtain ⟨xs,fp,hr,hw,ht,k1,k2,k3⟩:=hown;obtain ⟨f2,n2,b2,t2⟩:=k;obtain ⟨i,z,g1,g2,g3,g4,g5⟩:=T.info
 have hwd:∀ ds:List D,(∀ d ∈ ds,D.width d = n) -> D.widths ds = ds.length * n:=by
  intro ds h; induction ds with
  | nil => simp [D.widths]
  | cons x r ih => simp only [D.widths,h x (by simp),ih (fun d hd => h d (by simp [hd])),length_cons,Nat.succ_mul]; omega
 have hr':(w1.alloc (.cells news.toArray e)).ownsRow B e n v ds.length xs:=by
  have hb2:=zan hb ((Below.refl w1.heap.size w1).alloc lR (.cells news.toArray e)) lR;refine ⟨hr.1,?_⟩
  rcases hr.2 with h2 | ⟨g,cap,cur,hv,hg,hh,r⟩
  ·exact .inl h2
  ·exact .inr ⟨g,cap,cur,hv,hg,by rw [hb2.block g (zaw hh)]; exact hh,r⟩
 have hsz:=hb.size
 refine wpList_append_lies _ hgd s x t ho B e i z n bytes T.under g1 g2 g3 g4 g5 T.pos v ds.length xs hs hr' ⟨w1.heap.size,0,none⟩ ds'.length c news hx (by rw [t2.len,hwd ds' hw']) lit_cells h1 hne (by unfold maxLen; omega)
  (Nat.le_trans (Nat.mul_le_mul h63 hby) (by decide)) (by simp; omega) _ rfl ?_
 intro g cap w' q1 q2 q3 _;obtain ⟨r1,r2⟩:=OwnSl.grow hB hr hw ht k1 k2 k3 hb n2 b2 t2 hw' q1 q2 q3;exact h g cap w' r1 r2
end
section
theorem run_mk0 {P:Program} {t e:TypeId} {size bytes:Nat} (T:ElemTy P t e size bytes) (n:Nat) (hn:n <= 4294967296) (hb:bytes <= 32768) :
  ∃ cs:Array Value,cs.size = n * size /\ ∀ w:World,(Instr.makeSlice t (.int .i64 0) (.int .i64 (n:Nat))).run P w = .ok (.slice (some ⟨w.heap.size,0,none⟩) 0 n) (w.alloc (.cells cs e)):=by
 obtain ⟨i,z,h1,h2,h3,h4,h5⟩:=T.info;refine ⟨madeCells z.cells (n * i.size),?_,fun w => ?_⟩
 ·rw [size_madeCells,h3]
 ·have:=run_make (P:=P) w t e i z T.under h1 h2 .i64 .i64 0 (n:Nat) (by omega) (by omega) (by
   rw [h4]; have:=Nat.mul_le_mul hb hn; have h:((bytes * n:Nat):Int) <= ((32768 * 4294967296:Nat):Int):=by exact_mod_cast this
   rw [Int.natCast_mul] at h; exact Int.le_trans h (by decide)) (by omega)
  simpa using this
theorem V.cells_one {w:World} {x:V} {cs:List Value} (h:Rd w x.d cs):∀ u ∈ cs,u.oneCell' = true:=by
 obtain ⟨k,n,e,s,a,l,c,rfl⟩:=V.form h;intro u hu; simp at hu; rcases hu with rfl | rfl | rfl | rfl | rfl <;> rfl
theorem V.bulk_getB {ls:List V} {m:Nat} (h:ls.length + V.bulks ls <= m) (k:Nat) (hk:k < ls.length):ls[k].bulk <= m:=by
 have h1:=V.bulks_snoc ls k hk; have h2:=V.bulks_take ls (k + 1); omega
theorem V.ds_take (xs:List V) (j:Nat) (h:j < xs.length):V.ds (xs.take (j + 1)) = V.ds (xs.take j) ++ [xs[j].d]:=by
 rw [V.ds_map,V.ds_map,zeP V.d xs j h]
theorem V.ds_length (xs:List V):(V.ds xs).length = xs.length:=by rw [V.ds_map,length_map]
end
section
theorem tyVi:ElemTy Tryz.prog 25 27 5 64:=ElemTy.mk' (z:=.agg #[.int .i64 0,.int .i64 0,.int .i64 0,.string ⟨#[]⟩,.slice none 0 0]) Tryz.underlying25 (by kernel_rfl) rfl (by decide)
def CpA (n:Nat):Prop:=∀ (x:V) (cs:List Value) (w:World),x.nodes <= n -> Rd w x.d cs -> x.bulk <= 4294967295 ->
 Calls Tryz.prog 63 #[.agg cs.toArray] w fun e w' => ∃ cs',e = .returned (.agg cs'.toArray) /\ Below w.heap.size w w' /\ Own w.heap.size w' x.d cs'
def CpB (n:Nat):Prop:=∀ (xs:List V) (v:Value) (w:World),V.nodess xs <= n -> Rd w (.sl 5 (V.ds xs)) [v] -> xs.length + V.bulks xs <= 4294967295 ->
 Calls Tryz.prog 87 #[v] w fun e w' => ∃ v',e = .returned v' /\ Below w.heap.size w w' /\ Own w.heap.size w' (.sl 5 (V.ds xs)) [v']
theorem CpB_of {n:Nat} (hA:CpA n):CpB n:=by
 intro xs v w hn h hbk;obtain ⟨a,c,rfl,hg⟩:=h.values;have hl:xs.length <= 4294967295:=by omega
 go_enter Tryz.func87,Tryz.ntmps87
 go_wp2
 go_loopw [3,4] (fun o i wr => ∃ (j:Nat),j <= xs.length /\ i = .int .i64 j /\ OwnSl w.heap.size wr 27 5 o (V.ds (xs.take j)) /\ Below w.heap.size w wr) (fun _ i _ => xs.length - (intOf i).toNat)
 case atStart => exact ⟨0,Nat.zero_le _,rfl,OwnSl.made (cap:=0) lR (by decide) rfl,(Below.refl _ _).alloc lR _⟩
 case round =>
  obtain ⟨j,hj,rfl,hown,hbel⟩:=hrel;obtain ⟨av,cv,rfl⟩:=hown.form;have hdl:(V.ds (xs.take j)).length = j:=by rw [V.ds_length,length_take]; omega
  rw [hdl] at hown ⊢;by_cases hlt:j < xs.length
  ·obtain ⟨_,_,b,o,rfl,hb,hcell⟩:=hg (by intro e; rw [e] at hlt; simp at hlt)
   obtain ⟨v0,v1,v2,v3,v4,hr,d0,d1,d2,d3,d4⟩:=hcell j hlt;clear hcell hg;obtain ⟨k1,k2,k3,s4,a5,n5,m5,hcs⟩:=V.form hr;simp only [cons.injEq,and_true] at hcs;obtain ⟨rfl,rfl,rfl,rfl,rfl⟩:=hcs;have hbc:=(zbd hbel).1;rw [<- hbc _ _ hb] at d0 d1 d2 d3 d4;have i1:(0:Int) <= j:=by omega
   have i2:(j:Int) < xs.length:=by omega
   have hn1:=V.nodes_get xs j hlt;have hb1:=V.bulk_getB hbk j hlt;have HC:=Lib.hid (hA xs[j] _ wr (Nat.le_trans hn1 hn) (hr.below hbel) hb1);have HS:=Lib.hid (V.ds_take xs j hlt);have hsz:=hbel.size;clear hbc hr hn1 hb1
   go_wp2_with (first | (go_at_call 63; refine HC.out.mono ?_; rintro e1 w1 ⟨cs',rfl,hb1,hox⟩; obtain ⟨x0,x1,x2,x3,xa,xl,xc,rfl⟩:=V.form hox.rd) | (at_builtin; refine wp_appD tyVi rfl rfl w.heap.size hown hb1 hsz (Owns.of1 hox) (by intro d hd; simp at hd; subst hd; exact V.width _) (by simp) (V.cells_one hox.rd) rfl 1 rfl (by rw [hdl]; simp; omega) (by decide) ?_))
   intro g cap w2 hown2 hbel2
   try rw [hdl] at hown2
   go_wp2;go_roundw
   case rel => exact ⟨j + 1,by omega,by go_num,by rw [HS.out]; simpa using hown2,hbel.trans hbel2⟩
   case measure => simp [intOf]; omega
  ·obtain rfl:j = xs.length:=by omega
   rw [take_length] at hown;go_wp2;go_ret;exact ⟨_,rfl,hbel,hown.own (by decide)⟩
theorem CpA_of {n:Nat} (hB:CpB n):CpA (n + 1):=by
 intro x cs w hn h hlen;obtain ⟨k,m,e,s,kids,v1,rfl,rfl,hkids⟩:=V.lay h;have hnk:V.nodess kids <= n:=by simp only [V.nodes] at hn; omega
 simp only [V.bulk] at hlen;obtain ⟨va,vc,rfl⟩:=Rd.sl_form hkids;rw [V.ds_length] at hkids ⊢;have hA:=(Below.refl w.heap.size w).alloc lR (.cells #[.int .i64 k,.int .i64 m,.int .i64 e,.string ⟨s.toArray⟩,.slice va kids.length vc] 27);clear h;have hkb:kids.length + V.bulks kids <= 4294967295:=by omega
 go_enter Tryz.func63,Tryz.ntmps63
 go_wp2_with (go_at_call 87; refine (hB _ _ _ hnk (((hkids.alloc _).alloc _).alloc _) hkb).mono ?_; rintro e1 w2 ⟨x2,rfl,hb2,hown2⟩; obtain ⟨a2,m2,n2,rfl⟩:=Rd.sl_any hown2.rd; obtain ⟨hc2,hf2⟩:=zbd hb2; have hz2:=hb2.size; simp at hz2; have g4:w.heap.size < w2.heap.size:=(by omega); have g5:w.heap.size + 1 < w2.heap.size:=(by omega); have g6:w.heap.size + 1 + 1 < w2.heap.size:=(by omega))
 refine bodyPost_ret (v:=.agg #[.int .i64 k,.int .i64 m,.int .i64 e,.string ⟨s.toArray⟩,.slice a2 m2 n2]) ?_ rfl ⟨[.int .i64 k,.int .i64 m,.int .i64 e,.string ⟨s.toArray⟩,.slice a2 m2 n2],rfl,?_,?_⟩
 ·simp [results,Tryz.results63,go_sem,hc2]
 ·iterate 6 (refine Below.setCell ?_ (by simp; try omega) _)
  exact zan ((hA.alloc (by simp; try omega) _).alloc (by simp; try omega) _) hb2 lR
 ·refine Own.mono (B:=w.heap.size + 1 + 1 + 1) ?_ (by omega)
  iterate 6 (refine Own.setCell ?_ (by simp; try omega) _)
  exact V.own (hown2.mono (by simp; try omega))
theorem Cp_all:∀ n,CpA n /\ CpB n
 | 0 => by
  have h0:CpA 0:=fun sh cs w hn => absurd (V.nodes_pos sh) (by omega)
  exact ⟨h0,CpB_of h0⟩
 | n + 1 => by
  have h1:=CpA_of (Cp_all n).2;exact ⟨h1,CpB_of h1⟩
def OwA (n:Nat):Prop:=∀ (x:V) (cs:List Value) (w:World),x.nodes <= n -> Rd w x.d cs -> x.bulk <= 4294967295 ->
 Calls Tryz.prog 42 #[.agg cs.toArray] w fun e w' => ∃ cs',e = .returned (.agg cs'.toArray) /\ Below w.heap.size w w' /\ Own w.heap.size w' x.d cs'
theorem OwA_of {n:Nat} (hA:OwA n):OwA (n + 1):=by
 intro x cs w hn h hlen;obtain ⟨k,m,e,s,kids,v1,rfl,rfl,hkids⟩:=V.lay h;have hnk:V.nodess kids <= n:=by simp only [V.nodes] at hn; omega
 simp only [V.bulk] at hlen;have hkb:kids.length + V.bulks kids <= 4294967295:=by omega
 obtain ⟨a,c,rfl,hg⟩:=hkids.values;by_cases hne:kids = []
 ·subst hne
  clear h hkids hg hlen hkb hnk;simp only [length_nil]
  go_enter Tryz.func42,Tryz.ntmps42
  go_wp2;refine bodyPost_ret (v:=.agg #[.int .i64 k,.int .i64 m,.int .i64 e,.string ⟨s.toArray⟩,.slice none 0 0]) ?_ rfl ⟨[.int .i64 k,.int .i64 m,.int .i64 e,.string ⟨s.toArray⟩,.slice none 0 0],rfl,?_,?_⟩
  ·simp [results,Tryz.results42,go_sem]
  ·exact ((Below.refl _ _).alloc lR _).alloc (by simp) _
  ·exact V.own ⟨[],by simp,by simp,by simp [TreeC,V.ds]⟩
 ·have hpos:0 < kids.length:=length_pos_iff.2 hne
  obtain ⟨_,_,b,o,rfl,hb,hcell⟩:=hg hne;obtain ⟨mcs,hmcs,hmk⟩:=run_mk0 tyVi kids.length (by omega) (by decide);have HMC:=Lib.hid hmcs;obtain ⟨B,hBd⟩:∃ B,B = w.heap.size + 2:=⟨_,rfl⟩;obtain ⟨W1,hW1⟩:∃ W1,W1 = (((w.alloc (.cells #[.int .i64 k,.int .i64 m,.int .i64 e,.string ⟨s.toArray⟩,.slice (some ⟨b,o,none⟩) kids.length c] 27)).alloc (.cells #[.int .i64 0,.int .i64 0,.int .i64 0,.string ⟨#[]⟩,.slice none 0 0] 27)).alloc (.cells mcs 27)):=⟨_,rfl⟩;have HW:=Lib.hid hW1;have hAw:Below w.heap.size w W1:=by rw [hW1]; exact (((Below.refl _ _).alloc lR _).alloc (by simp) _).alloc (by simp <;> omega) _
  have hsz1:W1.heap.size = B + 1:=by rw [hW1,hBd]; simp
  have hst:OwnSl B W1 27 5 (.slice (some ⟨w.heap.size + 1 + 1,0,none⟩) 0 kids.length) (V.ds (kids.take 0)):=by
   rw [hW1]
   have:=OwnSl.made (B:=B) (w:=(w.alloc (.cells #[.int .i64 k,.int .i64 m,.int .i64 e,.string ⟨s.toArray⟩,.slice (some ⟨b,o,none⟩) kids.length c] 27)).alloc (.cells #[.int .i64 0,.int .i64 0,.int .i64 0,.string ⟨#[]⟩,.slice none 0 0] 27)) (e:=27) (n:=5) (cs:=mcs) (cap:=kids.length) (by rw [hBd]; simp) (by unfold maxLen; omega) HMC.out
   simpa [V.ds] using this
  have HST:=Lib.hid hst
  have KB:Hid (∀ W,Below B W1 W -> (W.cell? ⟨w.heap.size,0,none⟩ = some (.int .i64 k) /\ W.cell? ⟨w.heap.size,1,none⟩ = some (.int .i64 m) /\ W.cell? ⟨w.heap.size,2,none⟩ = some (.int .i64 e) /\ W.cell? ⟨w.heap.size,3,none⟩ = some (.string ⟨s.toArray⟩) /\ W.cell? ⟨w.heap.size,4,none⟩ = some (.slice (some ⟨b,o,none⟩) kids.length c)) /\
    (∀ i,W.frozen? ⟨w.heap.size,i,none⟩ = false) /\ (∀ i,W.frozen? ⟨w.heap.size + 1,i,none⟩ = false) /\ (W.cell? ⟨w.heap.size + 1,0,none⟩ = some (.int .i64 0) /\ W.cell? ⟨w.heap.size + 1,1,none⟩ = some (.int .i64 0) /\ W.cell? ⟨w.heap.size + 1,2,none⟩ = some (.int .i64 0) /\ W.cell? ⟨w.heap.size + 1,3,none⟩ = some (.string ⟨#[]⟩) /\ W.cell? ⟨w.heap.size + 1,4,none⟩ = some (.slice none 0 0))):=by
   intro W hb';have g1:w.heap.size < B:=by omega
   have g2:w.heap.size + 1 < B:=by omega
   have hc:∀ b o,b < B -> W.cell? ⟨b,o,none⟩ = W1.cell? ⟨b,o,none⟩:=fun b o h => hb'.cell (p:=⟨b,o,none⟩) h
   have hf:∀ b o,b < B -> W.frozen? ⟨b,o,none⟩ = W1.frozen? ⟨b,o,none⟩:=fun b o h => hb'.frozen (p:=⟨b,o,none⟩) h
   simp only [hc _ _ g1,hc _ _ g2,hf _ _ g1,hf _ _ g2]
   subst hW1; simp [go_sem]
  have hk0:((kids.length:Int) == 0) = false:=by simp; omega
  have hB0:w.heap.size + 1 < B:=by omega
  have hB2:B <= w.heap.size + 2:=by omega
  clear hW1 hmcs h hst hg hpos hne hBd;have HCELL:=Lib.hid hcell;clear hcell
  go_enter Tryz.func42,Tryz.ntmps42
  go_wp2_with fail
  rw [<- HW.out]
  go_loopw [3,19] (fun v i wr => ∃ j:Nat,j <= kids.length /\ i = .int .i64 j /\ OwnSl B wr 27 5 v (V.ds (kids.take j)) /\ Below B W1 wr) (fun _ i _ => kids.length - (intOf i).toNat)
  case atStart => exact ⟨0,Nat.zero_le _,rfl,HST.out,Below.refl _ _⟩
  case round =>
   obtain ⟨j,hj,rfl,hown,hbel⟩:=hrel;obtain ⟨av,cv,rfl⟩:=hown.form;have hdl:(V.ds (kids.take j)).length = j:=by rw [V.ds_length,length_take]; omega
   rw [hdl] at hown ⊢;obtain ⟨⟨p0,p1,p2,p3,p4⟩,f1,f2,⟨q0,q1,q2,q3,q4⟩⟩:=KB.out _ hbel;have hsz:=hbel.size;by_cases hlt:j < kids.length
   ·obtain ⟨v0,v1,v2,v3,v4,hr,d0,d1,d2,d3,d4⟩:=HCELL.out j hlt
    obtain ⟨k1,k2,k3,s4,a5,n5,m5,hcs⟩:=V.form hr;simp only [cons.injEq,and_true] at hcs;obtain ⟨rfl,rfl,rfl,rfl,rfl⟩:=hcs;have hbw:Below w.heap.size w wr:=hAw.trans (hbel.mono (by omega));have hbc:=(zbd hbw).1;rw [<- hbc _ _ hb] at d0 d1 d2 d3 d4;have i1:(0:Int) <= j:=by omega
    have i2:(j:Int) < kids.length:=by omega
    have hn1:=V.nodes_get kids j hlt;have hb1:=V.bulk_getB hkb j hlt;have hal:Below wr.heap.size wr (wr.alloc (.cells #[.int .i64 k1,.int .i64 k2,.int .i64 k3,.string ⟨s4.toArray⟩,.slice a5 n5 m5] 27)):=(Below.refl _ _).alloc lR _;have HC:=Lib.hid (hA kids[j] _ _ (Nat.le_trans hn1 hnk) ((hr.below hbw).below hal) hb1);have HS:=Lib.hid (V.ds_take kids j hlt);clear hbc hr hn1 hb1 p0 p1 p2 p3 p4 f1 f2 q0 q1 q2 q3 q4
    go_wp2_with (first | (go_at_call 42; refine HC.out.mono ?_; rintro e1 w1 ⟨cs',rfl,hb1,hox⟩; obtain ⟨x0,x1,x2,x3,xa,xl,xc,rfl⟩:=V.form hox.rd) | (at_builtin; refine wp_appD tyVi rfl rfl B hown (zan hal hb1 lR) (by omega) (Owns.of1 (hox.mono hal.size)) (by intro d hd; simp at hd; subst hd; exact V.width _) (by simp) (V.cells_one hox.rd) rfl 1 rfl (by rw [hdl]; simp; omega) (by decide) ?_))
    intro g cap w2 hown2 hbel2
    try rw [hdl] at hown2
    go_wp2;go_roundw
    case rel => exact ⟨j + 1,by omega,by go_num,by rw [HS.out]; simpa using hown2,hbel.trans hbel2⟩
    case measure => simp [intOf]; omega
   ·obtain rfl:j = kids.length:=by omega
    rw [take_length] at hown;have fz1:=f1 4;have hz1:w.heap.size + 1 < wr.heap.size:=by omega
    have hz0:w.heap.size < wr.heap.size:=by omega
    go_wp2;refine bodyPost_ret (v:=.agg #[.int .i64 k,.int .i64 m,.int .i64 e,.string ⟨s.toArray⟩,.slice av kids.length cv]) ?_ rfl ⟨[.int .i64 k,.int .i64 m,.int .i64 e,.string ⟨s.toArray⟩,.slice av kids.length cv],rfl,?_,?_⟩
    ·simp [results,Tryz.results42,go_sem,q0,q1,q2,q3,q4]
    ·iterate 6 (refine Below.setCell ?_ (by simp <;> omega) _)
     exact hAw.trans (hbel.mono (by omega))
    ·refine Own.mono (B:=B) ?_ (by omega)
     iterate 6 (refine Own.setCell ?_ (by simp <;> omega) _)
     exact V.own (hown.own (by decide))
theorem Ow_all:∀ n,OwA n
 | 0 => fun x cs w hn => absurd (V.nodes_pos x) (by omega)
 | n + 1 => OwA_of (Ow_all n)
theorem own_any (x:V) (cs:List Value) (w:World) (h:Rd w x.d cs) (hs:x.bulk <= 4294967295) :
  Calls Tryz.prog 42 #[.agg cs.toArray] w fun e w' => ∃ cs',e = .returned (.agg cs'.toArray) /\ Below w.heap.size w w' /\ Own w.heap.size w' x.d cs' :=
 Ow_all x.nodes x cs w lR h hs
end
section
def m_s_DrawCrc32:M:=so [⟨some 2,.mv (.c (.string ⟨[].toArray⟩)),none,[]⟩] (so [qm 4 0,qc 5 23 [4] 1,qm 3 5] (so [qm 6 3,qm 7 3,qc 8 25 [7,ci 40] 1,qc 9 24 [6,8] 1,qm 2 9] .ret))
theorem zeh:look Tryz.prog 5 = some (10,m_s_DrawCrc32,[.tm 2]):=by kernel_rfl
def m_s_DrawSumOf:M:=so [⟨some 2,.zero [.int .i64 0,.int .i64 0,.int .i64 0,.string ⟨[].toArray⟩,.slice none 0 0],none,[]⟩] (so [qm 3 0,qc 4 23 [3] 1,qc 5 26 [4] 1,qS 5 2 5] .ret)
theorem zei:look Tryz.prog 6 = some (6,m_s_DrawSumOf,[.cell true 5 2]):=by kernel_rfl
def m_s_DrawPutFrame:M:=so [⟨some 2,.mv (.c (.string ⟨[].toArray⟩)),none,[]⟩] (so [qm 4 0,qc 5 23 [4] 1,qm 3 5] (so [qm 6 3,qm 7 3,qc 8 25 [7,ci 40] 1,qc 9 24 [6,8] 1,qm 2 9] .ret))
theorem zc1:look Tryz.prog 7 = some (10,m_s_DrawPutFrame,[.tm 2]):=by kernel_rfl
def m_s_DrawGetFrame:M:=so [⟨some 2,.mv (.c (.string ⟨[].toArray⟩)),none,[]⟩,qo 3 (.mv (ci 0))] (so [qm 5 0,qc 6 23 [5] 1,qm 4 6] (so [qm 7 4,qm 8 4,qm 9 4,qc 10 25 [9,ci 40] 1,qc 11 24 [8,10] 1,qc 12 19 [11] 1,qc 13 29 [7,12] 1,⟨some 14,.bin .add false (.c (.string ⟨[120].toArray⟩)) 13,none,[]⟩,⟨some 15,.bin .add false 14 (.c (.string ⟨[121].toArray⟩)),none,[]⟩,qm 16 4,qo 17 (.lit 1 [ci 1,ci 1,ci 1,ci 0,ci 2,ci (-1),ci 9223372036854775807]),qc 18 30 [16,17] 1,qm 2 15,qm 3 18] .ret))
theorem zc2:look Tryz.prog 9 = some (19,m_s_DrawGetFrame,[.tm 2,.tm 3]):=by kernel_rfl
def m_s_DrawFrames:M:=so [⟨some 2,.mv (.c (.string ⟨[].toArray⟩)),none,[]⟩] (so [qm 7 0,qc 8 23 [7] 1,qm 3 8] (so [⟨some 4,.mv (.c (.string ⟨[].toArray⟩)),none,[]⟩] (so [qm 9 3,qc 10 25 [9,ci 4] 1,qm 5 10] (.seq (so [qo 6 (.mv (ci 0))] (.block 0 (.loop (.seq (so [qm 11 6,qm 12 5,qo 13 (.bin .lss false 11 12)] (.cond 13 .skip (.exit 0))) (.seq (.block 1 (.ops [qm 16 4,qm 17 3,qm 18 3,qc 19 25 [18,ci 9] 1,qc 20 24 [17,19] 1,qc 21 19 [20] 1,qo 22 (.bin .add false 16 21),qm 4 22])) (.ops [qm 14 6,qo 15 (.bin .add false 14 (ci 1)),qm 6 15])))))) (so [qm 23 3,qm 24 4,qc 25 29 [23,24] 1,qm 2 25] .ret)))))
theorem zd6:look Tryz.prog 12 = some (26,m_s_DrawFrames,[.tm 2]):=by kernel_rfl
def m_i_Sorted:M:=so [qo 1 (.box 0),⟨some 2,.zero [.int .i64 0,.int .i64 0,.int .i64 0,.string ⟨[].toArray⟩,.slice none 0 0],none,[]⟩] (.seq (so [qL 3 5 1,qc 4 34 [3] 1,qo 5 (.not 4)] (.cond 5 (so [qL 6 5 1,qc 7 42 [6] 1,qS 5 2 7] .ret) .skip)) (so [qL 8 5 1,qc 9 36 [8] 1,qS 5 2 9] .ret))
theorem zgu:look Tryz.prog 21 = some (10,m_i_Sorted,[.cell true 5 2]):=by kernel_rfl
end
section
variable {T:World -> Prop} {hT:Low ngl T}
attribute [local irreducible] po mw pt
theorem own2_fn (v:V) (_hw:v.wf) (hb:v.bulk <= 1048576):FnV (env T hT) 42 [.ag (vC v)] (.ag (vC v)):=by
 have h:FnO (env T hT) 42 [.ag (vC v)] (.ag v.d.pc):=by
  refine FnO.old (V.wfd v) fun w C vs hF _ _ hlen hv => ?_
  match vs,hlen with
  | [y],_ =>
   have h0:=hv 0 _ _ rfl rfl;rw [<- v.pc_eq] at h0;obtain ⟨cs,rfl,hr⟩:=vRd hF (V.wfd v) h0;exact own_any v cs w hr (by omega)
 have h:=h.v;rw [v.pc_eq] at h;exact h
def stV (v:V):V:=if v.ok then v.sort else v
theorem SortedI_fn (hTab:∀ w,T w -> Tabs w) (v:V) (hw:v.wf) (hb:v.bulk <= 1048576) (hf:v.few):FnV (env T hT) 21 [.ag (vC v)] (.ag (vC (stV v))):=by
 refine zaX (zag zgu) (by show 1 <= 10; decide) fun B hB => ?_
 unfold m_i_Sorted;refine mO ?_;refine zbb (cs:=vC v) rfl ?_;refine mN ?_;refine mM ?_;refine zaW (p:=0) (cs:=vC v) rfl rfl rfl rfl ?_;refine zab (za1 v) (zgr (T:=T) (hT:=hT) hTab v hw (by omega)) ?_;unfold stV
 cases hk:v.ok with
 | false =>
  refine mT ?_;refine mO ?_;refine zaW (p:=0) (cs:=vC v) rfl rfl rfl rfl ?_;refine zab (za1 v) (own2_fn (T:=T) (hT:=hT) v hw hb) ?_;refine zaO (p:=1) (cs:=vC v) rfl rfl rfl rfl rfl rfl ?_;refine mN ?_
  exact zah ⟨.inr rfl,[.ag (vC v)],zbo rfl rfl rfl,by rw [if_neg (by decide)]; exact congrArg (fun l => some (PV.ag l)) (zco v)⟩
 | true =>
  have hR:=ok_rgt hk hf;refine mK ?_;refine mO ?_;refine zaW (p:=0) (cs:=vC v) rfl rfl rfl rfl ?_;refine zab (za1 v) (sortI_fn (T:=T) (hT:=hT) v hR) ?_;refine zaO (p:=1) (cs:=vC v.sort) rfl rfl rfl rfl rfl rfl ?_;refine mN ?_;exact zah ⟨.inr rfl,[.ag (vC v.sort)],zbo rfl rfl rfl,by rw [if_pos rfl]; exact congrArg (fun l => some (PV.ag l)) (zco v.sort)⟩
theorem V.sort_few:∀ (N:Nat) (v:V),v.nodes <= N -> v.few -> v.sort.few
 | 0,v,h,_ => by have:=v.nodes_pos; omega
 | N + 1,.mk k n e s kids,hn,hw => by
  obtain ⟨h5,h6⟩:=hw;simp only [V.nodes] at hn
  have hall:∀ z ∈ V.sorts kids,z.few:=fun z hz => by
   rw [V.sorts_map] at hz;obtain ⟨y,hy,rfl⟩:=mem_map.1 hz;obtain ⟨i,hi,rfl⟩:=List.getElem_of_mem hy
   have:=V.nodes_get kids i hi
   exact V.sort_few N _ (by omega) (V.fews_all.1 h6 _ hy)
  simp only [V.sort];refine ⟨?_,?_⟩
  ·intro h8
   have h5:=h5 h8;have h9:=ze6 (V.sorts kids) [];rw [V.sorts_length,length_nil] at h9;have h10:=V.sorts_length kids
   split <;> omega
  ·rw [V.fews_all]
   intro z hz
   split at hz
   ·exact hall z ((zbw _ _ z hz).resolve_left (fun h => by cases h))
   ·exact hall z hz
theorem stV_ok {v:V} (h:Gd 1048576 v):(stV v).wf /\ (stV v).bulk <= 1048576 /\ (stV v).few:=by
 unfold stV
 cases hk:v.ok with
 | false => rw [if_neg (by decide)]; exact ⟨h.wf,h.bulk,h.few⟩
 | true =>
  rw [if_pos rfl];exact ⟨V.sort_wf _ v lR h.wf,by rw [(V.sort_okT hk).2]; exact h.bulk,V.sort_few _ v lR h.few⟩
end
section
def m_s_l01Bent:M:=so [⟨some 4,.mv (.c (.string ⟨[].toArray⟩)),none,[]⟩] (so [qm 6 0,qm 7 1,qo 8 (.lens 7),qo 9 (.bin .add false 8 (ci 1)),qc 10 25 [6,9] 1,qm 5 10] (.seq (so [qm 11 0,qc 12 25 [11,ci 8] 1] (.block 0 (so [qo 14 (.bin .eql false 12 (ci 0)),qm 13 14] (.cond 13 (so [qm 15 1,qm 16 5,qo 17 (.slcs 15 none (some 16)),qm 4 17] .ret) (so [qo 19 (.bin .eql false 12 (ci 1)),qm 18 19] (.cond 18 (so [qm 20 1,qm 21 5,qo 22 (.slcs 20 none (some 21)),qm 23 0,qm 27 1,qm 28 5,qo 29 (.slcs 27 (some 28) none),⟨some 24,.lit 1 [.c (.string ⟨[48].toArray⟩),.c (.string ⟨[32].toArray⟩),.c (.string ⟨[255].toArray⟩),.c (.string ⟨[128].toArray⟩),.c (.string ⟨[34].toArray⟩),.c (.string ⟨[92].toArray⟩),.c (.string ⟨[97].toArray⟩),.c (.string ⟨[44].toArray⟩)],none,[]⟩,qc 25 49 [23,24] 0,qo 26 (.bin .add false 22 25),qo 30 (.bin .add false 26 29),qm 4 30] .ret) (so [qo 32 (.bin .eql false 12 (ci 2)),qm 31 32] (.cond 31 (so [qm 33 5,qm 34 1,qo 35 (.lens 34),qo 36 (.bin .lss false 33 35)] (.cond 36 (so [qm 37 1,qm 38 5,qo 39 (.slcs 37 none (some 38)),qm 40 0,qm 44 1,qm 45 5,qo 46 (.bin .add false 45 (ci 1)),qo 47 (.slcs 44 (some 46) none),⟨some 41,.lit 1 [.c (.string ⟨[48].toArray⟩),.c (.string ⟨[192].toArray⟩),.c (.string ⟨[0].toArray⟩),.c (.string ⟨[57].toArray⟩),.c (.string ⟨[93].toArray⟩)],none,[]⟩,qc 42 49 [40,41] 0,qo 43 (.bin .add false 39 42),qo 48 (.bin .add false 43 47),qm 4 48] .ret) .skip)) .skip)))))))) (so [qm 49 1,qm 4 49] .ret)))
theorem zfS:look Tryz.prog 29 = some (50,m_s_l01Bent,[.tm 4]):=by kernel_rfl
end
section
variable {T:World -> Prop} {hT:Low ngl T}
attribute [local irreducible] po mw pt
/-! ### a bent text -/
def BnR (b:L8) (m nt:Nat) (live:List Nat) (x:PV) (bx:LP PC) (n:Nat) (l:List Nat):Prop:=∃ c' rest,bx = c' :: rest /\ x.lw 0 /\ lwL 0 c' /\ Cu b c' /\ QT (fun r => r.length <= m) nt live x n l
theorem bnR_of {b:L8} {m nt n:Nat} {live l:List Nat} {c:List PC} {rest:LP PC} {r:L8} (hc:Cu b c) (hN:NR nt live n l []) (hr:r.length <= m):BnR b m nt live (.d (pS r)) (c :: rest) n l:=⟨c,rest,rfl,trivial,hc.lw,hc,r,rfl,hr,hN⟩
def BnI (b s:L8) (nt:Nat) (live:List Nat) (st:St):Prop:=∃ c:List PC,Cu b c /\ has st.tm [(1,.d (pS s))] /\ st.bx = [c] /\ NR nt live st.nt st.live []
theorem bent_drw {b:L8} (hb:b.length <= 2147483647) (s:L8) (hs:s.length <= 2147483647):Drw (env T hT) b 29 [.d (pS s)] (QT fun r => r.length <= s.length + 1):=by
 rintro c nt live hc hn;refine zaY (R:=BnR b (s.length + 1) nt live) (zag zfS) (by show 2 <= 50; decide) fun B hB' => ?_
 unfold m_s_l01Bent;refine mP ?_;refine mO ?_;(iterate 2 refine mS ?_);refine po_s (v:=.d (pI s.length)) rfl rfl rfl ?_;refine zat (n:=((s.length + 1:Nat):Int)) rfl rfl rfl (by omega) (by omega) ?_;refine po_g rfl ((zaR (T:=T) (hT:=hT) hb ((s.length + 1:Nat):Int)).use ⟨trivial,trivial⟩ hc hn (p:=0) rfl) ?_;rintro x bx n1 l1 ⟨c1,rfl,hc1,i,rfl,i0,i1,hN⟩;obtain ⟨k,rfl⟩:∃ k:Nat,i = k:=⟨i.toNat,by omega⟩;have hk:k <= s.length:=by omega
 refine mN ?_;refine zaC (BnI b s nt live) ?_ ?_
 ·refine mQ ?_
  refine po_g rfl ((zaR (T:=T) (hT:=hT) hb 8).use ⟨trivial,trivial⟩ hc1 (hN.n2 hn) (p:=0) rfl) ?_;rintro x bx n5 l5 ⟨c5,rfl,hc5,r,rfl,r0,r1,hN5⟩;have hN:=hN.pass hN5;have hn5:=hN.n2 hn;refine zaa ?_;refine zad ?_;refine mO ?_;by_cases k0:r = 0
  ·refine zal rfl rfl (beq_iff_eq.2 k0) ?_
   refine mT ?_;refine mO ?_;(iterate 2 refine mS ?_);refine zcV (l:=s) (a:=0) (b:=k) (rs:=s.take k) rfl rfl rfl (za9 (i:=(k:Int)) rfl rfl) ⟨Nat.zero_le _,hk⟩ (by simp) ?_;refine mN ?_;exact zah ⟨.inr rfl,[.d (pS (s.take k))],rfl,bnR_of hc5 hN (by rw [length_take]; omega)⟩
  refine zas rfl rfl (beq_eq_false_iff_ne.2 k0) ?_;refine mF ?_;refine mO ?_;by_cases k1:r = 1
  ·refine zal rfl rfl (beq_iff_eq.2 k1) ?_
   refine mT ?_;refine mO ?_;(iterate 2 refine mS ?_);refine zcV (l:=s) (a:=0) (b:=k) (rs:=s.take k) rfl rfl rfl (za9 (i:=(k:Int)) rfl rfl) ⟨Nat.zero_le _,hk⟩ (by simp) ?_;(iterate 3 refine mS ?_);refine zcV (l:=s) (a:=k) (b:=s.length) (rs:=s.drop k) rfl rfl (za9 (i:=(k:Int)) rfl rfl) rfl ⟨hk,lR⟩ (by rw [<- length_drop,take_length]) ?_;refine zao rfl ?_;refine po_g rfl ((zdp (T:=T) (hT:=hT) hb (fun s => decide (s.length <= 1)) rfl (by show 0 < 8; decide)).use ⟨by simp only [PV.lw,PC.lw]; exact zdQ (p:=fun s => decide (s.length <= 1)) rfl,trivial⟩ hc5 (by omega) (p:=0) rfl) ?_;rintro x bx n6 l6 ⟨c6,rfl,hc6,r6,rfl,hr6,hN6⟩;have hr6:=of_decide_eq_true hr6;refine zau (la:=s.take k) (lb:=r6) rfl rfl rfl (by rw [length_take]; omega) ?_;refine zau (la:=s.take k ++ r6) (lb:=s.drop k) rfl rfl rfl (by rw [length_append,length_take,length_drop]; omega) ?_
   refine mN ?_;exact zah ⟨.inr rfl,[.d (pS (s.take k ++ r6 ++ s.drop k))],rfl,bnR_of hc6 (hN.up.pass hN6) (by rw [length_append,length_append,length_take,length_drop]; omega)⟩
  refine zas rfl rfl (beq_eq_false_iff_ne.2 k1) ?_;refine mF ?_;refine mO ?_;by_cases k2:r = 2
  ·refine zal rfl rfl (beq_iff_eq.2 k2) ?_
   refine mT ?_;refine mO ?_;(iterate 2 refine mS ?_);refine po_s (v:=.d (pI s.length)) rfl rfl rfl ?_;refine po_b rfl rfl (fun p hp => ?_);refine zaa ?_;refine zbt (p:=(k:Int) < s.length) hp rfl (fun him _ => ?_) (fun him _ => ?_)
   ·have hk1:k + 1 <= s.length:=by omega
    refine mO ?_;(iterate 2 refine mS ?_);refine zcV (l:=s) (a:=0) (b:=k) (rs:=s.take k) rfl rfl rfl (za9 (i:=(k:Int)) rfl rfl) ⟨Nat.zero_le _,hk⟩ (by simp) ?_;(iterate 3 refine mS ?_);refine zat (n:=((k + 1:Nat):Int)) rfl rfl rfl (by omega) (by omega) ?_;refine zcV (l:=s) (a:=k + 1) (b:=s.length) (rs:=s.drop (k + 1)) rfl rfl (za9 (i:=((k + 1:Nat):Int)) rfl rfl) rfl ⟨hk1,lR⟩ (by rw [<- length_drop,take_length]) ?_;refine zao rfl ?_;refine po_g rfl ((zdp (T:=T) (hT:=hT) hb (fun s => decide (s.length <= 1)) rfl (by show 0 < 5; decide)).use ⟨by simp only [PV.lw,PC.lw]; exact zdQ (p:=fun s => decide (s.length <= 1)) rfl,trivial⟩ hc5 (by omega) (p:=0) rfl) ?_;rintro x bx n6 l6 ⟨c6,rfl,hc6,r6,rfl,hr6,hN6⟩;have hr6:=of_decide_eq_true hr6;refine zau (la:=s.take k) (lb:=r6) rfl rfl rfl (by rw [length_take]; omega) ?_;refine zau (la:=s.take k ++ r6) (lb:=s.drop (k + 1)) rfl rfl rfl (by rw [length_append,length_take,length_drop]; omega) ?_
    refine mN ?_;exact zah ⟨.inr rfl,[.d (pS (s.take k ++ r6 ++ s.drop (k + 1)))],rfl,bnR_of hc6 (hN.up.pass hN6) (by rw [length_append,length_append,length_take,length_drop]; omega)⟩
   ·refine zaj ?_
    exact ⟨c5,hc5,⟨rfl,trivial⟩,rfl,hN⟩
  refine zas rfl rfl (beq_eq_false_iff_ne.2 k2) ?_;refine mK ?_;exact ⟨c5,hc5,⟨rfl,trivial⟩,rfl,hN⟩
 rintro tm bx n2 l2 ⟨c2,hc2,ht,hbx,hN2⟩;obtain ⟨tm1,rfl⟩:=zaf ht;simp only at hbx hN2; subst hbx
 clear ht;refine mP ?_;exact zah ⟨.inr rfl,[.d (pS s)],rfl,bnR_of hc2 hN2 (Nat.le_succ _)⟩
end
section
def m_s_l05Value:M:=so [⟨some 2,.zero [.int .i64 0,.int .i64 0,.int .i64 0,.string ⟨[].toArray⟩,.slice none 0 0],none,[]⟩] (.seq (so [qm 3 0,qc 4 44 [3,ci 8] 1] (.cond 4 (so [qm 5 0,qc 6 45 [5] 1,qS 5 2 6] .ret) .skip)) (so [qm 7 0,qc 8 46 [7,ci 3,cB false] 1,qS 5 2 8] .ret))
theorem ze7:look Tryz.prog 26 = some (9,m_s_l05Value,[.cell true 5 2]):=by kernel_rfl
end
end Go.Proofs.YtdggnhnkpejciaaGreatDoor
