/- Part 4 of a proof: Drw8, CpyM, Cpy, DicM, DicV, TblD, DicN, Parts, Train, BldT, Bld, DTab, NmsD, PvF2, PvF3, PvF2M, ValueSame, ValueKids, Shelf, TextI, ValueNode, Region, Box, ValueIs, PvVokI, PvI1, PvI2, PvI3 -/
import Derived.Test.YtmmcehkdnnolkaaGreatDoorDb3
import Derived.Shelf.Unicode.ValidAny
import Derived.Shelf.Strings.BuilderK
namespace Go.Proofs.YtmmcehkdnnolkaaGreatDoor
open Go.RowKit
set_option maxHeartbeats 4000000
set_option maxRecDepth 100000
open List
section
variable {T:World -> Prop} {hT:Low ngl T}
attribute [local irreducible] po mw pt
theorem er_v {c:PC} {x:Value} (h:c.er = .v x):c = .v x:=by
 cases c <;> simp [PC.er] at h
 rw [h]
theorem qv_form {cs:List PC} {v:V} (he:erL cs = vC v) (hR:RowT cs):∃ (t:Nat) (rows:LP PC),cs = [pI v.kind,pI v.num,pI v.exp,pS v.text,.sl t rows] /\ (t = 1 /\ rows = [] \/ 2 <= t) /\ erLL rows = vK v.kids:=by
 obtain ⟨a,b,c,d,t,rows,rfl,ht⟩:=hR;simp only [erL,vC,cons.injEq,and_true,PC.er,PC.sl.injEq,true_and] at he;obtain ⟨h1,h2,h3,h4,h5⟩:=he;refine ⟨t,rows,?_,ht,h5⟩;rw [er_v h1,er_v h2,er_v h3,er_v h4]; rfl
def vcs (k n e:Int) (s:L8) (t:Nat) (rows:LP PC):List PC:=[pI k,pI n,pI e,pS s,.sl t rows]
def AnP (b:L8) (B nt:Nat) (live:List Nat) (st:St):Prop :=
 ∃ (c:List PC) (k n e:Int) (s:L8) (t:Nat) (rows:LP PC) (ks:List V) (rest:LP PC),Cu b c /\ has st.tm [(0,.ref 0 0),(2,.ref 1 0),(3,.ref 2 0)] /\ st.bx = c :: zV :: vcs k n e s t rows :: rest /\
  NR nt live st.nt st.live (vcs k n e s t rows) /\ (t = 1 /\ rows = [] \/ 2 <= t) /\ erLL rows = vK ks /\ Gd B (.mk k n e s ks) /\ ks.length <= 302
theorem Gd.kd {B:Nat} {k n e:Int} {s:L8} {ks:List V} (h:Gd B (.mk k n e s ks)) {rows:LP PC} (he:erLL rows = vK ks):Kd (V.bulks ks) rows ks:=⟨he,h.wf.2.2.2.2.2,h.few.2,lR⟩
theorem NR.recell {nt n t:Nat} {live l:List Nat} {k m e k' m' e':Int} {s s':L8} {rows:LP PC} (h:NR nt live n l (vcs k m e s t rows)):NR nt live n l (vcs k' m' e' s' t rows):=h.plain h.own rfl
theorem NR.row7 {nt n t:Nat} {live l:List Nat} {k m e:Int} {s:L8} {rows:LP PC} (h:NR nt live n l (vcs k m e s t rows)) (q:Nat):NR nt live n l (vRow q t rows):=h.plain h.own rfl
theorem NR.vcs {nt n t q:Nat} {live l:List Nat} {k m e:Int} {s:L8} {rows:LP PC} (h:NR nt live n l (vRow q t rows)):NR nt live n l (vcs k m e s t rows):=h.plain h.own rfl
theorem bulk_len {k n e:Int} {s:L8} {ks:List V} {B:Nat} (h:Gd B (.mk k n e s ks)):ks.length <= B /\ s.length + ks.length + V.bulks ks <= B:=by
 have:=h.bulk
 simp only [V.bulk] at this; omega
theorem any_drw {b:L8} (hb:b.length <= 2147483647):Drw (env T hT) b 98 [] (QV 302 4000):=by
 rintro c nt live hc hn;refine zaG (R:=DvR b 302 4000 nt live) (zaj zhQ) (by show 1 <= 74; decide) fun B hB' => ?_
 have hBl:=fun m => za6 (T:=T) (hT:=hT) hb m
 unfold m_s_l02Any;refine mP ?_;refine mO ?_;(iterate 2 refine mS ?_);refine po_g rfl ((zcn (T:=T) (hT:=hT) hb 3).use ⟨trivial,trivial⟩ hc hn (p:=0) rfl) ?_;rintro x bx n1 l1 ⟨c1,rfl,hc1,q,rfl,hN1⟩;refine po_g rfl ((make_drw (T:=T) (hT:=hT) hb q 3 lR).use ⟨trivial,trivial,trivial⟩ hc1 (hN1.n2 hn) (p:=0) rfl) ?_;rintro x bx n2 l2 ⟨c2,rfl,hc2,cs,v,rfl,hN2,he,hg,hR,hk6⟩;have hN12:NR nt live n2 l2 cs:=by simpa using hN1.trans hN2
 obtain ⟨t,rows,hcs,ht2,hrows⟩:=qv_form he hR;obtain ⟨k,n,e,s,ks⟩:=v;simp only [V.kind,V.num,V.exp,V.text,V.kids] at hcs hrows hk6;subst hcs;have hg:Gd 1500 (.mk k n e s ks):=hg.mono (by decide);clear he hR hN1 hN2;refine zbI (cs:=vcs k n e s t rows) rfl rfl rfl rfl ?_;refine mN ?_;have hbl:=bulk_len hg;have hwf:=hg.wf;refine zan (fun st => AnP b 4000 nt live st) ?_ ?_
 ·have keep:∀ (c3:List PC) (hc3:Cu b c3) (st:St),has st.tm [(0,.ref 0 0),(2,.ref 1 0),(3,.ref 2 0)] -> st.bx = c3 :: zV :: vcs k n e s t rows :: [] -> NR nt live st.nt st.live (vcs k n e s t rows) -> AnP b 4000 nt live st:=fun c3 hc3 st h1 h2 h3 => ⟨c3,k,n,e,s,t,rows,ks,[],hc3,h1,h2,h3,ht2,hrows,hg.mono (by decide),by omega⟩
  refine mQ ?_;refine po_g rfl ((hBl 24).use ⟨trivial,trivial⟩ hc2 (hN12.n2 hn) (p:=0) rfl) ?_;rintro x bx n3 l3 ⟨c3,rfl,hc3,r,rfl,r0,r1,hN3⟩;have hN13:=hN12.pass hN3;have hn3:=hN13.n2 hn;refine zaa ?_;refine zab ?_;refine mO ?_;by_cases k0:r = 0
  ·refine zah rfl rfl (beq_iff_eq.2 k0) ?_
   refine mT ?_;refine zaf ?_;refine mS ?_;refine po_g rfl ((hBl 12).use ⟨trivial,trivial⟩ hc3 hn3 (p:=0) rfl) ?_;rintro x bx n4 l4 ⟨c4,rfl,hc4,v,rfl,v0,v1,hN4⟩;refine zaK (n:=v - 1) rfl rfl rfl rfl (by omega) ?_;refine mS ?_;refine zaw (p:=2) (o':=0) (cs:=[pI (v - 1)]) (z:=vcs k n e s t rows) rfl rfl rfl ⟨rfl,by show 0 + 1 <= 5; decide⟩ rfl ?_;refine zaa ?_;refine ⟨c4,v - 1,n,e,s,t,rows,ks,[],hc4,⟨rfl,rfl,rfl,trivial⟩,rfl,(hN13.pass hN4).recell,ht2,hrows,⟨⟨zap (by omega),hwf.2⟩,⟨fun _ => by omega,hg.few.2⟩,by simp only [V.bulk]; omega⟩,by omega⟩
  refine zal rfl rfl (beq_eq_false_iff_ne.2 k0) ?_;refine mF ?_;refine mO ?_;by_cases k1:r = 1
  ·refine zah rfl rfl (beq_iff_eq.2 k1) ?_
   refine mT ?_;refine zaf ?_;refine mS ?_;refine zaq rfl ?_;refine po_g rfl ((zbY (T:=T) (hT:=hT) hb i64B rfl (by show 0 < 4; decide)).use ⟨by simp only [PV.lw,PC.lw]; exact zcC (p:=i64B) rfl,trivial⟩ hc3 (by omega) (p:=0) rfl) ?_;rintro x bx n4 l4 ⟨c4,rfl,hc4,v,rfl,hv,hN4⟩;refine mS ?_;refine zaw (p:=2) (o':=1) (cs:=[pI v]) (z:=vcs k n e s t rows) rfl rfl rfl ⟨rfl,by show 1 + 1 <= 5; decide⟩ rfl ?_;refine zaa ?_;refine ⟨c4,k,v,e,s,t,rows,ks,[],hc4,⟨rfl,rfl,rfl,trivial⟩,rfl,(hN13.up.pass hN4).recell,ht2,hrows,⟨⟨hwf.1,zfO hv,hwf.2.2⟩,hg.few,by simp only [V.bulk]; omega⟩,by omega⟩
  refine zal rfl rfl (beq_eq_false_iff_ne.2 k1) ?_;refine mF ?_;refine mO ?_;by_cases k2:r = 2
  ·refine zah rfl rfl (beq_iff_eq.2 k2) ?_
   refine mT ?_;refine zaf ?_;refine mS ?_;refine za7 (cs:=vcs k n e s t rows) (v:=.d (.sl t rows)) rfl rfl rfl (by show 4 + 1 <= 5; decide) rfl ?_;refine mS ?_;refine zfq rfl ((zfP (T:=T) (hT:=hT) hb false).use ⟨trivial,trivial⟩ hc3 hn3 (p:=0) rfl) ?_ ?_
   ·rintro x bx n l ⟨c',rfl,_⟩ y hy
    simp only [mem_cons,not_mem_nil,or_false] at hy;subst hy;exact ze8 (p:=1) (o:=4) rfl
   rintro x bx n4 l4 ⟨c4,rfl,hc4,cs,w,rfl,hN4,he,hgw,_,_⟩;have hcl:=zbp he;refine zdE (zgT (a:=cs) rfl hcl) ?_;have hK:=(hg.kd hrows).app (Kd.one he hgw);refine zaQ (t:=t) (t':=0) (es:=rows) (ds:=[cs]) rfl rfl (NR.rowt2 ht2 (hN13.row7 7) hN4) (by rw [(hg.kd hrows).len]; simp only [length_cons,length_nil]; omega) (fun e he => by simp only [mem_singleton] at he; subst he; exact hcl) (hg.kd hrows).wid ?_;refine mS ?_;refine zaw (p:=2) (o':=4) (cs:=[.sl n4 (rows ++ [cs])]) (z:=vcs k n e s t rows) rfl rfl rfl ⟨rfl,by show 4 + 1 <= 5; decide⟩ rfl ?_;refine zaa ?_;have hds:NR n3 l3 n4 l4 [cs].flatten:=by simpa using hN4
   exact ⟨c4,k,n,e,s,n4,rows ++ [cs],ks ++ [w],[],hc4,⟨rfl,rfl,rfl,trivial⟩,rfl,(NR.kids hn ht2 (hN13.row7 7) hds).vcs,.inr (by have:=hN4.n2 hn3; omega),hK.er,hK.gd hwf.1 hwf.2.1 hwf.2.2.1 (fun h8 => by rw [length_append,length_singleton]; omega) (by rw [length_append,length_singleton]; omega) (by omega) (by rw [length_append,length_singleton]; omega),by rw [length_append,length_singleton]; omega⟩
  refine zal rfl rfl (beq_eq_false_iff_ne.2 k2) ?_;refine mF ?_;refine mO ?_;by_cases k3:r = 3
  ·refine zah rfl rfl (beq_iff_eq.2 k3) ?_
   refine mT ?_;refine mO ?_;refine po_g rfl (zdn (T:=T) (hT:=hT) [97]) ?_;rintro x b' n4 l4 ⟨hb4,rfl,hn4,hl4⟩
   subst hb4; subst hn4; subst hl4
   refine po_g rfl (int_g (T:=T) (hT:=hT) 1) ?_;rintro x b' n4 l4 ⟨hb4,rfl,hn4,hl4⟩
   subst hb4; subst hn4; subst hl4
   refine po_g rfl (zdn (T:=T) (hT:=hT) [97]) ?_;rintro x b' n4 l4 ⟨hb4,rfl,hn4,hl4⟩
   subst hb4; subst hn4; subst hl4
   refine po_g rfl (int_g (T:=T) (hT:=hT) 2) ?_;rintro x b' n4 l4 ⟨hb4,rfl,hn4,hl4⟩
   subst hb4; subst hn4; subst hl4
   refine zaq (es:=[vL 5 0 0 [97],vL 3 1 0 [],vL 5 0 0 [97],vL 3 2 0 []]) rfl ?_;refine po_s (v:=.ag (vcs 8 0 0 [] n4 [vL 5 0 0 [97],vL 3 1 0 [],vL 5 0 0 [97],vL 3 2 0 []])) rfl rfl rfl ?_;refine zar (p:=1) (cs:=vcs 8 0 0 [] n4 [vL 5 0 0 [97],vL 3 1 0 [],vL 5 0 0 [97],vL 3 2 0 []]) rfl rfl rfl rfl rfl rfl ?_;refine mN ?_;have hNl:=NR.lit (es:=[vL 5 0 0 [97],vL 3 1 0 [],vL 5 0 0 [97],vL 3 2 0 []]) hn (hN13.forget.plain rfl rfl)
   have hK:Kd 10 [vL 5 0 0 [97],vL 3 1 0 [],vL 5 0 0 [97],vL 3 2 0 []] [.mk 5 0 0 [97] [],.mk 3 1 0 [] [],.mk 5 0 0 [97] [],.mk 3 2 0 [] []]:=by
    have one:∀ (a m:Int) (z:L8),i64ok a -> i64ok m -> z.length <= 1 -> Kd 1 [vL a m 0 z] [.mk a m 0 z []]:=fun a m z ha hm hz => Kd.one zbJ (zbs ha hm (zap (by omega)) hz (by decide))
    exact ((one 5 0 [97] (zap (by omega)) (zap (by omega)) lR).app ((one 3 1 [] (zap (by omega)) (zap (by omega)) (Nat.zero_le _)).app ((one 5 0 [97] (zap (by omega)) (zap (by omega)) lR).app (one 3 2 [] (zap (by omega)) (zap (by omega)) (Nat.zero_le _))))).mono (by decide)
   exact zae ⟨.inr rfl,[.ag (vcs 8 0 0 [] n4 [vL 5 0 0 [97],vL 3 1 0 [],vL 5 0 0 [97],vL 3 2 0 []])],rfl,zbD hc3 (hNl.plain (by simpa [ownedL,vcs,PC.owned,pI,pS] using hNl.own) rfl) (zdU hK 8 0 0 []) (hK.gd (zap (by omega)) (zap (by omega)) (zap (by omega)) (fun _ => by decide) (by decide) (by decide) (by decide)) ⟨_,_,_,_,n4,_,rfl,.inr hn3⟩ (by show 4 <= 302; decide)⟩
  refine zal rfl rfl (beq_eq_false_iff_ne.2 k3) ?_;refine mF ?_;refine mO ?_;by_cases k4:r = 4
  ·refine zah rfl rfl (beq_iff_eq.2 k4) ?_
   refine mT ?_;refine mQ ?_;refine po_g rfl ((hBl 3).use ⟨trivial,trivial⟩ hc3 hn3 (p:=0) rfl) ?_;rintro x bx n4 l4 ⟨c4,rfl,hc4,v,rfl,v0,v1,hN4⟩;obtain ⟨v,rfl⟩:∃ k':Nat,v = k':=⟨v.toNat,by omega⟩;refine zam (n:=((11 + v:Nat):Int)) rfl rfl rfl (by omega) (by omega) ?_;refine mN ?_;refine mP ?_;refine zab ?_;refine zas (fun m st => ∃ (i t:Nat) (k n e:Int) (s:L8) (rows:LP PC) (ks:List V),i <= 11 + v /\ m = 11 + v - i /\ has st.tm [(0,.ref 0 0),(2,.ref 1 0),(3,.ref 2 0),(4,.d (pI ((11 + v:Nat):Int))),(5,.d (pI i))] /\ st.bx = c4 :: zV :: vcs k n e s t rows :: [] /\ NR nt live st.nt st.live (vcs k n e s t rows) /\ (t = 1 /\ rows = [] \/ 2 <= t) /\ erLL rows = vK ks /\ Gd (1500 + i) (.mk k n e s ks) /\ ks.length <= 302) (11 + v) ⟨0,t,k,n,e,s,rows,ks,Nat.zero_le _,rfl,⟨rfl,rfl,rfl,rfl,rfl,trivial⟩,rfl,hN13.pass hN4,ht2,hrows,hg,by omega⟩ ?_
   rintro m tm bx n5 l5 ⟨i,t,k,n,e,s,rows,ks,hi,rfl,ht,hbx,hN5,ht2,hrows,hg,hk302⟩;obtain ⟨tm1,rfl⟩:=zac ht;simp only at hbx hN5; subst hbx
   clear ht;refine mM ?_;(iterate 2 refine mS ?_);refine po_b rfl rfl (fun q hq => ?_);refine zaa ?_;refine zaZ (p:=(i:Int) < ((11 + v:Nat):Int)) hq rfl (fun him _ => ?_) (fun him _ => ?_)
   rotate_left
   ·refine zat ?_
    exact ⟨c4,k,n,e,s,t,rows,ks,[],hc4,⟨rfl,rfl,rfl,trivial⟩,rfl,hN5,ht2,hrows,hg.mono (by omega),hk302⟩
   refine zai ?_;refine zak (zab (zaf ?_));refine zaE (p:=2) (cs:=vcs k n e s t rows) rfl rfl rfl rfl ?_;refine zaq (es:=[vcs k n e s t rows]) rfl ?_;refine po_s (v:=.ag (vcs 7 0 0 [] n5 [vcs k n e s t rows])) rfl rfl rfl ?_;refine zar (p:=2) (cs:=vcs 7 0 0 [] n5 [vcs k n e s t rows]) rfl rfl rfl rfl rfl rfl ?_;refine zaa ?_;refine zaf ?_;refine mS ?_;refine zam (n:=((i + 1:Nat):Int)) rfl rfl rfl (by omega) (by omega) ?_;refine mN ?_;have hNl:=NR.lit (es:=[vcs k n e s t rows]) hn (by simpa using hN5);have hK:Kd (1500 + i) [vcs k n e s t rows] [.mk k n e s ks]:=Kd.one (zdU (hg.kd hrows) k n e s) hg;exact ⟨_,by show 11 + v - (i + 1) < 11 + v - i; omega,i + 1,n5,7,0,0,[],[vcs k n e s t rows],[.mk k n e s ks],by omega,rfl,⟨rfl,rfl,rfl,rfl,rfl,trivial⟩,rfl,hNl.plain (by simpa [ownedL,vcs,PC.owned,pI,pS] using hNl.own) rfl,.inr (by have:=hN5.n2 hn; omega),hK.er,hK.gd (zap (by omega)) (zap (by omega)) (zap (by omega)) (fun h => by cases h) (by simp) (by simp) (by simp only [length_nil,length_singleton]; omega),by simp⟩
  refine zal rfl rfl (beq_eq_false_iff_ne.2 k4) ?_;refine mF ?_;refine mO ?_;by_cases k5:r = 5
  ·refine zah rfl rfl (beq_iff_eq.2 k5) ?_
   refine mT ?_;refine mQ ?_;refine po_g rfl ((hBl 3).use ⟨trivial,trivial⟩ hc3 hn3 (p:=0) rfl) ?_;rintro x bx n4 l4 ⟨c4,rfl,hc4,v,rfl,v0,v1,hN4⟩;obtain ⟨v,rfl⟩:∃ k':Nat,v = k':=⟨v.toNat,by omega⟩;refine zam (n:=((298 + v:Nat):Int)) rfl rfl rfl (by omega) (by omega) ?_;refine mN ?_;refine mO ?_;refine po_s (v:=.ag (vRow 7 1 [])) rfl rfl rfl ?_;refine zar (p:=2) (cs:=vRow 7 1 []) rfl rfl rfl rfl rfl rfl ?_;refine zaa ?_;refine mP ?_;refine zab ?_;refine zas (fun m st => ∃ (i t:Nat) (rows:LP PC) (ks:List V),i <= 298 + v /\ m = 298 + v - i /\ has st.tm [(0,.ref 0 0),(2,.ref 1 0),(3,.ref 2 0),(6,.d (pI ((298 + v:Nat):Int))),(7,.d (pI i))] /\ st.bx = c4 :: zV :: vRow 7 t rows :: [] /\ NR nt live st.nt st.live (vRow 7 t rows) /\ (t = 1 /\ rows = [] \/ 2 <= t) /\ Kd 0 rows ks /\ ks.length = i) (298 + v) ⟨0,1,[],[],Nat.zero_le _,rfl,⟨rfl,rfl,rfl,rfl,rfl,trivial⟩,rfl,(hN13.pass hN4).forget.row0,.inl ⟨rfl,rfl⟩,Kd.nil,rfl⟩ ?_
   rintro m tm bx n5 l5 ⟨i,t,rows,ks,hi,rfl,ht,hbx,hN5,ht2,hK,hkl⟩;obtain ⟨tm1,rfl⟩:=zac ht;simp only at hbx hN5; subst hbx
   clear ht;refine mM ?_;(iterate 2 refine mS ?_);refine po_b rfl rfl (fun q hq => ?_);refine zaa ?_;refine zaZ (p:=(i:Int) < ((298 + v:Nat):Int)) hq rfl (fun him _ => ?_) (fun him _ => ?_)
   rotate_left
   ·refine zat ?_
    exact ⟨c4,7,0,0,[],t,rows,ks,[],hc4,⟨rfl,rfl,rfl,trivial⟩,rfl,hN5,ht2,hK.er,hK.gd (zap (by omega)) (zap (by omega)) (zap (by omega)) (fun h => by cases h) (by omega) (by simp) (by simp only [length_nil]; omega),by omega⟩
   refine zai ?_;refine zak (zab (zaf ?_));refine mS ?_;refine za7 (cs:=vRow 7 t rows) (v:=.d (.sl t rows)) rfl rfl rfl (by show 4 + 1 <= 5; decide) rfl ?_;refine po_s (v:=.ag (vL 0 0 0 [])) rfl rfl rfl ?_;refine zaq (es:=[vL 0 0 0 []]) rfl ?_;refine zaQ (t:=t) (t':=n5) (es:=rows) (ds:=[vL 0 0 0 []]) rfl rfl ((NR.rowt ht2 hN5).imp id fun h => mem_cons_of_mem _ h) (by rw [hK.len]; simp only [length_cons,length_nil]; omega) (fun e he => by simp only [mem_singleton] at he; subst he; rfl) hK.wid ?_;refine mS ?_;refine zaw (p:=2) (o':=4) (cs:=[.sl (n5 + 1) (rows ++ [vL 0 0 0 []])]) (z:=vRow 7 t rows) rfl rfl rfl ⟨rfl,by show 4 + 1 <= 5; decide⟩ rfl ?_;refine zaa ?_;refine zaf ?_;refine mS ?_;refine zam (n:=((i + 1:Nat):Int)) rfl rfl rfl (by omega) (by omega) ?_;refine mN ?_;exact ⟨_,by show 298 + v - (i + 1) < 298 + v - i; omega,i + 1,n5 + 1,rows ++ [vL 0 0 0 []],ks ++ [.mk 0 0 0 [] []],by omega,rfl,⟨rfl,rfl,rfl,rfl,rfl,trivial⟩,rfl,NR.kids hn ht2 hN5 (ds:=[vL 0 0 0 []]) ((NR.refl n5 l5).up.plain rfl rfl),.inr (by have:=hN5.n2 hn; omega),(hK.app (Kd.one (cs:=vL 0 0 0 []) (v:=.mk 0 0 0 [] []) zbJ (zbs (B:=0) (k:=0) (n:=0) (e:=0) (s:=[]) (zap (by omega)) (zap (by omega)) (zap (by omega)) (Nat.le_refl 0) (by decide)))).mono lR,by rw [length_append,length_singleton]; omega⟩
  refine zal rfl rfl (beq_eq_false_iff_ne.2 k5) ?_;refine mK ?_;exact keep c3 hc3 _ ⟨rfl,rfl,rfl,trivial⟩ rfl hN13
 rintro tm bx n3 l3 ⟨c3,k,n,e,s,t,rows,ks,rest,hc3,ht,hbx,hN3,ht2,hrows,hg,hk⟩;obtain ⟨tm1,rfl⟩:=zac ht;simp only at hbx hN3; subst hbx
 clear ht;refine mO ?_;refine zaE (p:=2) (cs:=vcs k n e s t rows) rfl rfl rfl rfl ?_;refine zar (p:=1) (cs:=vcs k n e s t rows) rfl rfl rfl rfl rfl rfl ?_;refine mN ?_;exact zae ⟨.inr rfl,[.ag (vcs k n e s t rows)],rfl,zbD hc3 hN3 (zdU (hg.kd hrows) k n e s) hg ⟨_,_,_,_,t,rows,rfl,ht2⟩ hk⟩
end
section
def m_s_l02Copy:M:=so [qo 1 (.box 0),⟨some 2,.zero [.int .i64 0,.int .i64 0,.int .i64 0,.string ⟨[].toArray⟩,.slice none 0 0],none,[]⟩] (so [qL 4 5 1,⟨some 3,.zero [.int .i64 0,.int .i64 0,.int .i64 0,.string ⟨[].toArray⟩,.slice none 0 0],none,[]⟩,qS 5 3 4] (so [qF 5 4 1,ql 6 1 5,qc 7 106 [6] 1,qF 8 4 3,qS 1 8 7] (so [qL 9 5 3,qS 5 2 9] .ret)))
theorem zgU:look Tryz.prog 72 = some (10,m_s_l02Copy,[.cell true 5 2]):=by kernel_rfl
def m_s_l02CopyAll:M:=so [qo 2 (.mv (.c (.slice none 0 0)))] (so [qo 5 (.lit 5 []),qm 3 5] (.seq (so [qo 4 (.mv (ci 0))] (.block 0 (.loop (.seq (so [qm 6 4,qm 7 0,qo 8 (.len 7),qo 9 (.bin .lss false 6 8)] (.cond 9 .skip (.exit 0))) (.seq (.block 1 (.ops [qm 12 3,qm 13 0,qm 14 4,qo 15 (.ix 5 13 14),qL 16 5 15,qc 17 72 [16] 1,qo 18 (.lit 5 [17]),⟨some 19,.app 5 12 18,none,[.f 1]⟩,qm 3 19])) (.ops [qm 10 4,qo 11 (.bin .add false 10 (ci 1)),qm 4 11])))))) (so [qm 20 3,qm 2 20] .ret)))
theorem zeE:look Tryz.prog 106 = some (21,m_s_l02CopyAll,[.tm 2]):=by kernel_rfl
end
section
variable {T:World -> Prop} {hT:Low ngl T}
attribute [local irreducible] po mw pt
theorem er_sl {c:PC} {x:LP PC} (h:c.er = .sl 0 x):∃ t rows,c = .sl t rows /\ erLL rows = x:=by
 cases c <;> simp [PC.er] at h
 exact ⟨_,_,rfl,h⟩
theorem zdF {cs:List PC} {v:V} (he:erL cs = vC v):∃ (t:Nat) (rows:LP PC),cs = vcs v.kind v.num v.exp v.text t rows /\ erLL rows = vK v.kids:=by
 have hl:=zbp he
 match cs,hl with
 | [a,b,c,d,e],_ =>
  simp only [erL,vC,cons.injEq,and_true] at he;obtain ⟨h1,h2,h3,h4,h5⟩:=he;obtain ⟨t,rows,rfl,h6⟩:=er_sl h5;refine ⟨t,rows,?_,h6⟩;rw [er_v h1,er_v h2,er_v h3,er_v h4]; rfl
theorem za9 {rows:LP PC} {ks:List V} (h:erLL rows = vK ks):rows.length = ks.length:=by
 have:=congrArg length h
 rw [zaO,length_map,zaY] at this; exact this
theorem zbh {rows:LP PC} {ks:List V} (h:erLL rows = vK ks):∀ e ∈ rows,e.length = 5:=fun e he => by
 have h1:erL e ∈ vK ks:=by rw [<- h,zaO]; exact mem_map_of_mem he
 have:=zgl ks _ h1
 rw [zbj,length_map] at this; exact this
theorem zc1 {rows:LP PC} {ks:List V} (h:erLL rows = vK ks) {i:Nat} (hi:i < ks.length):∃ e,rows[i]? = some e /\ erL e = vC ks[i]:=by
 have hr:i < rows.length:=by rw [za9 h]; exact hi
 refine ⟨rows[i],getElem?_eq_getElem hr,?_⟩;have h1:=zbo hi;rw [<- h,zaO,getElem?_map,getElem?_eq_getElem hr] at h1;exact Option.some.inj h1
theorem zca {a b:LP PC} {ks ls:List V} (h:erLL a = vK ks) (k:erLL b = vK ls):erLL (a ++ b) = vK (ks ++ ls):=by
 rw [zaO,map_append,<- zaO,<- zaO,h,k]; simp [vK]
theorem zcD {cs:List PC} {v:V} (he:erL cs = vC v):erLL [cs] = vK [v]:=by
 show [erL cs] = [v.d.pc];rw [he,V.pc_eq]
theorem vlw_aux:∀ (N:Nat) (v:V),v.nodes <= N -> ∀ (cs:List PC),erL cs = vC v -> lwL 0 cs:=by
 intro N
 induction N with
 | zero => intro v hv; have:=v.nodes_pos; omega
 | succ N ih =>
  intro v hv cs he;obtain ⟨t,rows,rfl,hr⟩:=zdF he
  have:∀ (ls:List V) (rs:LP PC),(∀ x ∈ ls,x.nodes <= N) -> erLL rs = vK ls -> lwLL 0 rs:=by
   intro ls
   induction ls with
   | nil => intro rs _ h; match rs,h with | [],_ => simp only [lwLL]
   | cons x ls ih2 =>
    intro rs hx h
    match rs,h with
    | r :: rs,h =>
     simp only [erLL,vK,map_cons,cons.injEq] at h;simp only [lwLL];exact ⟨ih x (hx x (by simp)) r (by rw [h.1,V.pc_eq]),ih2 rs (fun y hy => hx y (by simp [hy])) h.2⟩
  have h2:=this v.kids rows (fun x hx => by
   obtain ⟨i,hi,rfl⟩:=List.getElem_of_mem hx;exact V.nodes_kid hv i hi) hr
  simp only [vcs,lwL,PC.lw,pI,pS,and_true,true_and];exact h2
theorem vlw {v:V} {cs:List PC} (h:erL cs = vC v):lwL 0 cs:=vlw_aux v.nodes v lR cs h
theorem zcE {t:Nat} {rows:LP PC} (h:2 <= t):t ∈ toksL [.sl t rows]:=by simp [toksL,PC.toks,h]
def CyR (nt:Nat) (live:List Nat) (v:V) (x:PV) (n:Nat) (l:List Nat):Prop:=∃ cs,x = .ag cs /\ NR nt live n l cs /\ erL cs = vC v /\ RowT cs
def CyP (T:World -> Prop) (hT:Low ngl T) (N:Nat):Prop:=∀ (v:V) (cs:List PC) (nt:Nat) (live:List Nat),v.nodes <= N -> v.nodes <= 4294967295 -> erL cs = vC v -> 2 <= nt -> FnG (env T hT) 72 [.ag cs] [] nt live (fun x _ n l => x.lw 0 /\ CyR nt live v x n l)
def CaR (nt:Nat) (live:List Nat) (ks:List V) (x:PV) (n:Nat) (l:List Nat):Prop:=∃ (q:Nat) (out:LP PC),x = .d (.sl q out) /\ 2 <= q /\ NR nt live n l [.sl q out] /\ erLL out = vK ks
def CaI (nt:Nat) (live:List Nat) (t:Nat) (rows:LP PC) (ks:List V) (m:Nat) (st:St):Prop :=
 ∃ (i q:Nat) (out:LP PC),i <= ks.length /\ m = ks.length - i /\ has st.tm [(0,.d (.sl t rows)),(3,.d (.sl q out)),(4,.d (pI i))] /\ NR nt live st.nt st.live [.sl q out] /\ 2 <= q /\ erLL out = vK (ks.take i)
theorem zeF {N:Nat} (ih:CyP T hT N) (ks:List V) (hk:∀ x ∈ ks,x.nodes <= N) (hb:V.nodess ks <= 4294967295) {rows:LP PC} (t:Nat) (he:erLL rows = vK ks) (nt:Nat) (live:List Nat) (hn:2 <= nt) :
  FnG (env T hT) 106 [.d (.sl t rows)] [] nt live (fun x _ n l => x.lw 0 /\ CaR nt live ks x n l):=by
 have hkn:=V.kids_nodes ks;have hrl:=za9 he;refine zaG (zaj zeE) (by show 1 <= 21; decide) fun B hB => ?_
 unfold m_s_l02CopyAll;refine mP ?_;refine mO ?_;refine zaq (es:=[]) rfl ?_;refine mN ?_;refine zan (fun st => ∃ (q:Nat) (out:LP PC),has st.tm [(3,.d (.sl q out))] /\ NR nt live st.nt st.live [.sl q out] /\ 2 <= q /\ erLL out = vK ks) ?_ ?_
 ·refine mP ?_
  refine zab ?_;refine zas (CaI nt live t rows ks) ks.length ⟨0,nt,[],Nat.zero_le _,rfl,⟨rfl,rfl,rfl,trivial⟩,NR.lit (es:=[]) hn (NR.refl nt live),hn,rfl⟩ ?_;rintro m tm bx n1 l1 ⟨i,q,out,hi,rfl,ht,hN,hq,ho⟩;obtain ⟨tm1,rfl⟩:=zac ht;simp only at hN;clear ht;have hol:=za9 ho;rw [length_take] at hol;refine mM ?_;(iterate 2 refine mS ?_);refine zav (n:=ks.length) rfl rfl hrl ?_;refine po_b rfl rfl (fun b hb => ?_);refine zaa ?_;refine zaZ (p:=(i:Int) < ks.length) hb rfl (fun him _ => ?_) (fun him _ => ?_)
  rotate_left
  ·refine zat ?_
   have:i = ks.length:=by omega
   subst this;rw [take_length] at ho;exact ⟨q,out,⟨rfl,trivial⟩,hN,hq,ho⟩
  have hia:i < ks.length:=by omega
  obtain ⟨e,hge,hee⟩:=zc1 he hia;have hlwe:=vlw hee;have hcall:=fun nt live h2 => ih ks[i] e nt live (hk _ (getElem_mem hia)) (by have:=V.nodes_get ks i hia; omega) hee h2
  obtain ⟨te,re,hse,hre⟩:=zdF hee;rw [hse] at hge hlwe hcall;have hn1:=hN.n2 hn;refine zai ?_;refine zak (zab (zaf ?_));(iterate 3 refine mS ?_);refine zaH (es:=rows) (e:=vcs ks[i].kind ks[i].num ks[i].exp ks[i].text te re) rfl rfl rfl ⟨by omega,by rw [Int.toNat_natCast]; exact hge⟩ rfl ?_;refine mS ?_;refine po_g rfl (FnG.lift0 (hcall n1 l1 hn1) ⟨hlwe,trivial⟩) ?_;rintro x b' n2 l2 ⟨rfl,cs',rfl,hN2,he2,hR2⟩;have hqm:=hN.mem q (zcE hq);have hle2:=hN2.le;refine zaq (es:=[cs']) (zgT (a:=cs') rfl (zbp he2)) ?_;refine zaQ (t:=q) (t':=n2) (es:=out) (ds:=[cs']) rfl rfl (.inr (mem_cons_of_mem _ (hN2.keep q hqm.2.2 hq hqm.2.1))) (by simp only [length_cons,length_nil]; omega) (fun e he => by simp only [mem_singleton] at he; subst he; exact zbp he2) (zbh ho) ?_;refine mN ?_;refine zaf ?_;refine mS ?_;refine zam (n:=((i + 1:Nat):Int)) rfl rfl rfl (by omega) (by omega) ?_
  refine mN ?_;have hNa:=NR.app (a:=[]) (b:=[]) (rows:=out) (ds:=[cs']) hn (.inr hq) (by simpa using hN.trans hN2.up);exact ⟨_,by show ks.length - (i + 1) < ks.length - i; omega,i + 1,n2 + 1,out ++ [cs'],by omega,rfl,⟨rfl,rfl,rfl,trivial⟩,hNa,by omega,by rw [take_succ_eq_append_getElem hia]; exact zca ho (zcD he2)⟩
 rintro tm bx n1 l1 ⟨q,out,ht,hN,hq,ho⟩;obtain ⟨tm1,rfl⟩:=zac ht;simp only at hN;refine mP ?_;exact zae ⟨.inr rfl,[.d (.sl q out)],rfl,(hN.lw (k:=0)).1,q,out,rfl,hq,hN,ho⟩
theorem cpy_step {N:Nat} (ih:CyP T hT N):CyP T hT (N + 1):=by
 intro v cs nt live hv hb he hn;have hnk:=V.nodes_eq0 v;obtain ⟨t,rows,rfl,hr⟩:=zdF he
 have hall:=zeF ih v.kids (fun x hx => by
  obtain ⟨i,hi,rfl⟩:=List.getElem_of_mem hx;exact V.nodes_kid hv i hi) (by omega) t hr nt live hn
 have hlw:=vlw he
 have hlr:lwVs 0 [PV.d (.sl t rows)]:=by
  have h2:=hlw;simp only [vcs,lwL,PC.lw,pI,pS,and_true,true_and] at h2;exact ⟨h2,trivial⟩
 refine zaG (zaj zgU) (by show 1 <= 10; decide) fun B hB => ?_
 unfold m_s_l02Copy;refine mO ?_;refine zbf (cs:=vcs v.kind v.num v.exp v.text t rows) rfl ?_;refine mN ?_;refine mO ?_;refine zaE (p:=0) (cs:=vcs v.kind v.num v.exp v.text t rows) rfl rfl rfl rfl ?_;refine zbI (cs:=vcs v.kind v.num v.exp v.text t rows) rfl rfl rfl rfl ?_;refine mN ?_;refine mO ?_;(iterate 2 refine mS ?_);refine po_g rfl (FnG.lift0 hall hlr) ?_;rintro x b' n2 l2 ⟨rfl,q,out,rfl,hq,hN,ho⟩;refine mS ?_;refine zaw (p:=2) (o':=4) (cs:=[.sl q out]) (z:=vcs v.kind v.num v.exp v.text t rows) rfl rfl rfl ⟨rfl,by show 4 + 1 <= 5; decide⟩ rfl ?_;refine zaa ?_;refine mO ?_;refine zaE (p:=2) (cs:=vcs v.kind v.num v.exp v.text q out) rfl rfl rfl rfl ?_;refine zar (p:=1) (cs:=vcs v.kind v.num v.exp v.text q out) rfl rfl rfl rfl rfl rfl ?_;refine mN ?_;have hNv:NR nt live n2 l2 (vcs v.kind v.num v.exp v.text q out):=hN.plain (by simpa [ownedL,vcs,PC.owned,pI,pS] using hN.own) rfl
 refine zae ⟨.inr rfl,[.ag (vcs v.kind v.num v.exp v.text q out)],rfl,hNv.lw,_,rfl,hNv,?_,⟨_,_,_,_,q,out,rfl,.inr hq⟩⟩;obtain ⟨k,n,e,s,ks⟩:=v;show [pI k,pI n,pI e,pS s,.sl 0 (erLL out)] = _;rw [ho]; rfl
theorem cpy_all:∀ N,CyP T hT N:=by
 intro N
 induction N with
 | zero => intro v cs nt live hv; have:=v.nodes_pos; omega
 | succ N ih => exact cpy_step ih
theorem cpy_g (v:V) {cs:List PC} (hb:v.nodes <= 4294967295) (he:erL cs = vC v) {bx:LP PC} {nt:Nat} (live:List Nat) (hn:2 <= nt):FnG (env T hT) 72 [.ag cs] bx nt live (fun x b n l => b = bx /\ CyR nt live v x n l) :=
 FnG.lift0 (cpy_all v.nodes v cs nt live lR hb he hn) ⟨vlw he,trivial⟩
theorem cpyAll_g (ks:List V) {rows:LP PC} (t:Nat) (hb:V.nodess ks <= 4294967295) (he:erLL rows = vK ks) {bx:LP PC} {nt:Nat} (live:List Nat) (hn:2 <= nt):FnG (env T hT) 106 [.d (.sl t rows)] bx nt live (fun x b n l => b = bx /\ CaR nt live ks x n l):=by
 refine FnG.lift0 (zeF (cpy_all (V.nodess ks)) ks (fun x hx => ?_) hb t he nt live hn) ⟨?_,trivial⟩
 ·obtain ⟨i,hi,rfl⟩:=List.getElem_of_mem hx
  exact V.nodes_get ks i hi
 ·have:=vlw (v:=.mk 0 0 0 [] ks) (cs:=vcs 0 0 0 [] t rows) (by
   show [pI 0,pI 0,pI 0,pS [],.sl 0 (erLL rows)] = _;rw [he]; rfl)
  simp only [vcs,lwL,PC.lw,pI,pS,and_true,true_and] at this;exact this
end
section
def m_s_l11Names:M:=so [qo 2 (.mv (.c (.slice none 0 0)))] (so [qm 5 0,qc 6 68 [5] 1,qm 7 0,qc 8 68 [7] 1,qo 9 (.lit 5 [6,8]),qm 10 0,qo 11 (.lit 1 [ci 100,ci 2,ci 1,ci 0]),qc 12 69 [10,11] 1,qc 13 67 [9,12] 1,qm 3 13] (.seq (so [qm 14 0,qc 15 38 [14,ci 12] 1] (.block 0 (so [qo 17 (.bin .eql false 15 (ci 0)),qm 16 17] (.cond 16 (so [qm 18 3,⟨some 19,.lit 1 [.c (.string ⟨[255].toArray⟩)],none,[]⟩,⟨some 20,.app 1 18 19,none,[.f 1]⟩,qm 2 20] .ret) (so [qo 22 (.bin .eql false 15 (ci 1)),qm 21 22] (.cond 21 (so [qm 23 3,⟨some 24,.lit 1 [.c (.string ⟨[120].toArray⟩),.c (.string ⟨[120].toArray⟩)],none,[]⟩,⟨some 25,.app 1 23 24,none,[.f 1]⟩,qm 2 25] .ret) (so [qo 27 (.bin .eql false 15 (ci 2)),qm 26 27] (.cond 26 (so [⟨some 4,.mv (.c (.string ⟨[].toArray⟩)),none,[]⟩] (.seq (.block 1 (.loop (.seq (so [qm 28 4,qo 29 (.lens 28),qm 30 0,qc 31 38 [30,ci 2] 1,qo 32 (.bin .add false (ci 100) 31),qo 33 (.bin .lss false 29 32)] (.cond 33 .skip (.exit 1))) (.block 2 (.ops [qm 34 4,⟨some 35,.bin .add false 34 (.c (.string ⟨[110].toArray⟩)),none,[]⟩,qm 4 35]))))) (so [qm 36 3,qm 37 4,qo 38 (.lit 1 [37]),⟨some 39,.app 1 36 38,none,[.f 1]⟩,qm 2 39] .ret))) (so [qo 41 (.bin .eql false 15 (ci 3)),qm 40 41] (.cond 40 (so [⟨some 42,.lit 1 [.c (.string ⟨[110,97,109,101].toArray⟩),.c (.string ⟨[105,100].toArray⟩),.c (.string ⟨[108,105,115,116].toArray⟩)],none,[]⟩,qm 2 42] .ret) .skip)))))))))) (so [qm 43 3,qm 2 43] .ret)))
theorem zfQ:look Tryz.prog 39 = some (44,m_s_l11Names,[.tm 2]):=by kernel_rfl
def m_s_Train:M:=so [qo 4 (.mv (.c (.slice none 0 0)))] (so [qo 12 (.lit 1 []),qm 5 12] (.seq (so [qo 6 (.mv (ci 0))] (.block 0 (.loop (.seq (so [qm 13 6,qm 14 0,qo 15 (.len 14),qo 16 (.bin .lss false 13 15)] (.cond 16 .skip (.exit 0))) (.seq (.block 1 (.seq (so [qm 19 0,qm 20 6,qo 21 (.ix 5 19 20),qL 22 5 21,qc 23 61 [22] 1,qo 24 (.not 23)] (.cond 24 (so [qo 25 (.lit 1 []),qm 4 25] .ret) .skip)) (.ops [qm 26 5,qm 27 0,qm 28 6,qo 29 (.ix 5 27 28),qL 30 5 29,qc 31 96 [30] 1,⟨some 32,.app 1 26 31,none,[.f 1]⟩,qm 5 32]))) (.ops [qm 17 6,qo 18 (.bin .add false 17 (ci 1)),qm 6 18])))))) (so [qo 33 (.lit 1 []),qm 7 33] (.seq (so [qo 8 (.mv (ci 0))] (.block 2 (.loop (.seq (so [qm 34 8,qm 35 5,qo 36 (.len 35),qo 37 (.bin .lss false 34 36),qm 38 37,qg 39 1 38 true,⟨some 40,.call 27 [39,ci 0,ci 100],some (38,true),[.f 1]⟩,qo 41 (.pick 38 40 (cB false))] (.cond 41 .skip (.exit 2))) (.seq (.block 3 (so [qm 44 5,qm 45 8,qo 46 (.ix 1 44 45),ql 47 1 46,qm 48 5,qm 49 5,qm 50 8,qo 51 (.ix 1 49 50),ql 52 1 51,⟨some 53,.call 97 [48,52],none,[.f 0,46]⟩,qm 9 47,qm 10 53] (.seq (so [qm 54 9,qo 55 (.lens 54),qo 56 (.bin .gtr false 55 (ci 100)),qm 57 56,qg 58 7 57 false,qg 59 9 57 false,⟨some 60,.call 60 [58,59],some (57,false),[.f 1]⟩,⟨some 61,.bin .geq false 60 (ci 0),some (57,false),[]⟩,qo 62 (.pick 57 (cB true) 61)] (.cond 62 (.exit 3) .skip)) (so [qm 63 7,qo 64 (.len 63),qm 11 64] (.seq (.block 4 (.loop (.seq (so [qm 65 11,qo 66 (.bin .gtr false 65 (ci 0)),qm 67 66,qg 68 5 67 true,qg 69 7 67 true,qg 70 11 67 true,⟨some 71,.bin .sub false 70 (ci 1),some (67,true),[]⟩,⟨some 72,.ix 1 69 71,some (67,true),[]⟩,⟨some 73,.load false 1 72,some (67,true),[]⟩,⟨some 74,.call 97 [68,73],some (67,true),[.f 1]⟩,qg 75 10 67 true,⟨some 76,.bin .lss false 74 75,some (67,true),[]⟩,qg 77 76 67 true,qg 78 5 77 false,qg 79 7 77 false,qg 80 11 77 false,⟨some 81,.bin .sub false 80 (ci 1),some (77,false),[]⟩,⟨some 82,.ix 1 79 81,some (77,false),[]⟩,⟨some 83,.load false 1 82,some (77,false),[]⟩,⟨some 84,.call 97 [78,83],some (77,false),[.f 1]⟩,qg 85 10 77 false,⟨some 86,.bin .eql false 84 85,some (77,false),[]⟩,qg 87 86 77 false,qg 88 7 87 true,qg 89 11 87 true,⟨some 90,.bin .sub false 89 (ci 1),some (87,true),[]⟩,⟨some 91,.ix 1 88 90,some (87,true),[]⟩,⟨some 92,.load false 1 91,some (87,true),[]⟩,qg 93 9 87 true,⟨some 94,.bin .gtr false 92 93,some (87,true),[]⟩,⟨some 95,.pick 87 94 (cB false),some (77,false),[]⟩,⟨some 96,.pick 77 (cB true) 95,some (67,true),[]⟩,qo 97 (.pick 67 96 (cB false))] (.cond 97 .skip (.exit 4))) (.block 5 (.ops [qm 98 11,qo 99 (.bin .sub false 98 (ci 1)),qm 11 99]))))) (.ops [qm 101 7,qm 102 11,qo 103 (.slc 1 101 none (some 102)),qm 105 9,qo 106 (.litq 1 [105]),qm 108 7,qm 109 11,qo 110 (.slc 1 108 (some 109) none),qo 100 (.lit 1 []),⟨some 104,.app 1 100 103,none,[.f 0]⟩,⟨some 107,.app 1 104 106,none,[.f 0]⟩,⟨some 111,.app 1 107 110,none,[.f 0]⟩,qm 7 111])))))) (.ops [qm 42 8,qo 43 (.bin .add false 42 (ci 1)),qm 8 43])))))) (.seq (so [qm 112 7,qo 113 (.len 112),qm 114 1,qo 115 (.bin .gtr false 113 114),qm 116 115,qg 117 1 116 true,⟨some 118,.bin .geq false 117 (ci 0),some (116,true),[]⟩,qo 119 (.pick 116 118 (cB false))] (.cond 119 (.ops [qm 120 7,qm 121 1,qo 122 (.slc 1 120 none (some 121)),qm 7 122]) .skip)) (so [qo 123 (.lit 1 []),qm 124 7,⟨some 125,.app 1 123 124,none,[.f 1]⟩,qm 4 125] .ret))))))
theorem lk_s_Train:look Tryz.prog 67 = some (126,m_s_Train,[.tm 4]):=by kernel_rfl
def m_s_l05Value:M:=so [⟨some 2,.zero [.int .i64 0,.int .i64 0,.int .i64 0,.string ⟨[].toArray⟩,.slice none 0 0],none,[]⟩] (.seq (so [qm 3 0,qc 4 34 [3,ci 8] 1] (.cond 4 (so [qm 5 0,qc 6 98 [5] 1,qS 5 2 6] .ret) .skip)) (so [qm 7 0,qc 8 99 [7,ci 3,cB false] 1,qS 5 2 8] .ret))
theorem zfR:look Tryz.prog 68 = some (9,m_s_l05Value,[.cell true 5 2]):=by kernel_rfl
def m_s_l10Value:M:=so [⟨some 2,.zero [.int .i64 0,.int .i64 0,.int .i64 0,.string ⟨[].toArray⟩,.slice none 0 0],none,[]⟩] (so [qm 4 0,qc 5 68 [4] 1,⟨some 3,.zero [.int .i64 0,.int .i64 0,.int .i64 0,.string ⟨[].toArray⟩,.slice none 0 0],none,[]⟩,qS 5 3 5] (.seq (so [qm 6 0,qc 7 34 [6,ci 2] 1] (.cond 7 (so [qL 8 5 3,qL 9 5 3,⟨some 10,.call 72 [9],none,[.f 0,3]⟩,⟨some 11,.call 35 [.c (.string ⟨[99,111,109,109,111,110,32,118,97,108,117,101].toArray⟩)],none,[.f 0,3]⟩,qo 12 (.lit 5 [8,10,11]),⟨some 13,.build [.int .i64 0,.int .i64 0,.int .i64 0,.string ⟨[].toArray⟩,.slice none 0 0] [(0,1,ci 7),(4,1,12)],none,[]⟩,qS 5 2 13] .ret) .skip)) (so [qL 14 5 3,qS 5 2 14] .ret)))
theorem zfS:look Tryz.prog 70 = some (15,m_s_l10Value,[.cell true 5 2]):=by kernel_rfl
def m_s_l11Keys:M:=so [qo 1 (.box 0),qo 2 (.mv (.c (.slice none 0 0)))] (so [qo 5 (.lit 1 []),qm 3 5] (.seq (so [qo 4 (.mv (ci 0))] (.block 0 (.loop (.seq (so [qm 6 4,qF 7 4 1,ql 8 1 7,qo 9 (.len 8),qo 10 (.bin .lss false 6 9)] (.cond 10 .skip (.exit 0))) (.seq (.block 1 (.seq (so [qF 13 0 1,ql 14 1 13,qo 15 (.bin .eql false 14 (ci 8)),qm 16 15,qg 17 4 16 true,⟨some 18,.bin .rem false 17 (ci 2),some (16,true),[]⟩,⟨some 19,.bin .eql false 18 (ci 0),some (16,true),[]⟩,qo 20 (.pick 16 19 (cB false)),qm 21 20,⟨some 22,.fld 4 1,some (21,true),[]⟩,⟨some 23,.load false 1 22,some (21,true),[]⟩,qg 24 4 21 true,⟨some 25,.ix 5 23 24,some (21,true),[]⟩,⟨some 26,.fld 0 25,some (21,true),[]⟩,⟨some 27,.load false 1 26,some (21,true),[]⟩,⟨some 28,.bin .eql false 27 (ci 5),some (21,true),[]⟩,qo 29 (.pick 21 28 (cB false))] (.cond 29 (.ops [qm 30 3,qF 31 4 1,ql 32 1 31,qm 33 4,qo 34 (.ix 5 32 33),qF 35 3 34,ql 36 1 35,qo 37 (.lit 1 [36]),⟨some 38,.app 1 30 37,none,[.f 1]⟩,qm 3 38]) .skip)) (.ops [qm 39 3,qF 40 4 1,ql 41 1 40,qm 42 4,qo 43 (.ix 5 41 42),qL 44 5 43,qc 45 96 [44] 1,⟨some 46,.app 1 39 45,none,[.f 1]⟩,qm 3 46]))) (.ops [qm 11 4,qo 12 (.bin .add false 11 (ci 1)),qm 4 12])))))) (so [qm 47 3,qm 2 47] .ret)))
theorem zgV:look Tryz.prog 96 = some (48,m_s_l11Keys,[.tm 2]):=by kernel_rfl
def m_s_l11Often:M:=so [qo 4 (.mv (ci 0))] (so [qo 5 (.mv (ci 0))] (.seq (so [qo 6 (.mv (ci 0))] (.block 0 (.loop (.seq (so [qm 7 6,qm 8 0,qo 9 (.len 8),qo 10 (.bin .lss false 7 9)] (.cond 10 .skip (.exit 0))) (.seq (.block 1 (so [qm 13 0,qm 14 6,qo 15 (.ix 1 13 14),ql 16 1 15,qm 17 1,qo 18 (.bin .eql false 16 17)] (.cond 18 (.ops [qm 19 5,qo 20 (.bin .add false 19 (ci 1)),qm 5 20]) .skip))) (.ops [qm 11 6,qo 12 (.bin .add false 11 (ci 1)),qm 6 12])))))) (so [qm 21 5,qm 4 21] .ret)))
theorem zfT:look Tryz.prog 97 = some (22,m_s_l11Often,[.tm 4]):=by kernel_rfl
end
section
variable {T:World -> Prop} {hT:Low ngl T}
attribute [local irreducible] po mw pt
theorem litP3 {e:X -> PV} {x y z:X} {a b c:List PC} {n:Nat} (hx:pcells (e x) = some a) (hy:pcells (e y) = some b) (hz:pcells (e z) = some c) (ha:a.length = n) (hb:b.length = n) (hc:c.length = n):litP e n [x,y,z] = some [a,b,c]:=by simp only [litP,hx,hy,hz,ha,hb,hc,if_true]
theorem zfU {b:L8} (hb:b.length <= 2147483647):Drw (env T hT) b 68 [] (QV 302 4000):=by
 rintro c nt live hc hn;refine zaG (R:=DvR b 302 4000 nt live) (zaj zfR) (by show 1 <= 9; decide) fun B hB' => ?_
 unfold m_s_l05Value;refine mP ?_;refine mM ?_;refine mS ?_;refine po_g rfl ((zcn (T:=T) (hT:=hT) hb 8).use ⟨trivial,trivial⟩ hc hn (p:=0) rfl) ?_;rintro x bx n1 l1 ⟨c1,rfl,hc1,q,rfl,hN1⟩;refine zaa ?_
 cases q with
 | true =>
  refine mwT ?_;refine mQ ?_;refine po_g rfl ((any_drw (T:=T) (hT:=hT) hb).use trivial hc1 (hN1.n2 hn) (p:=0) rfl) ?_;rintro x bx n l ⟨c2,rfl,hc2,cs,v,rfl,hN,he,hg,hRT,hkl⟩;refine zar (p:=1) (cs:=cs) rfl rfl rfl (zbp he) rfl rfl ?_;refine mN ?_
  exact zae ⟨.inr rfl,[.ag cs],zck rfl rfl (zbp he),zbD hc2 (hN1.trans hN) he hg hRT hkl⟩
 | false =>
  refine mwF ?_;refine zai ?_;refine mQ ?_;refine po_g rfl ((make_drw (T:=T) (hT:=hT) hb false 3 lR).use ⟨trivial,trivial,trivial⟩ hc1 (hN1.n2 hn) (p:=0) rfl) ?_;rintro x bx n l ⟨c2,rfl,hc2,cs,v,rfl,hN,he,hg,hRT,hkl⟩;refine zar (p:=1) (cs:=cs) rfl rfl rfl (zbp he) rfl rfl ?_;refine mN ?_;exact zae ⟨.inr rfl,[.ag cs],zck rfl rfl (zbp he),zbD hc2 (hN1.trans hN) he (hg.mono (by decide)) hRT (by omega)⟩
def comV:L8:=[99,111,109,109,111,110,32,118,97,108,117,101]
theorem Gd.nodes {B:Nat} {v:V} (h:Gd B v):v.nodes <= B + 1:=by have:=zcW v; have:=h.bulk; omega
theorem zgW {b:L8} (hb:b.length <= 2147483647):Drw (env T hT) b 70 [] (QV 302 8100):=by
 rintro c nt live hc hn;refine zaG (R:=DvR b 302 8100 nt live) (zaj zfS) (by show 1 <= 15; decide) fun B hB' => ?_
 unfold m_s_l10Value;refine mP ?_;refine mQ ?_;refine po_g rfl ((zfU (T:=T) (hT:=hT) hb).use trivial hc hn (p:=0) rfl) ?_;rintro x bx n1 l1 ⟨c1,rfl,hc1,cs,v,rfl,hN1,he,hg,hRT,hkl⟩;obtain ⟨t,rows,hcs,hr⟩:=zdF he;subst hcs;refine zbI (cs:=vcs v.kind v.num v.exp v.text t rows) rfl rfl rfl rfl ?_;refine mN ?_;refine mM ?_;refine mS ?_;refine po_g rfl ((zcn (T:=T) (hT:=hT) hb 2).use ⟨trivial,trivial⟩ hc1 (hN1.n2 hn) (p:=0) rfl) ?_;rintro x bx n2 l2 ⟨c2,rfl,hc2,q,rfl,hN2⟩;have hN12:=hN1.pass hN2;have hn2:=hN12.n2 hn;refine zaa ?_
 cases q with
 | true =>
  refine mwT ?_;refine mO ?_;refine zaE (p:=2) (cs:=vcs v.kind v.num v.exp v.text t rows) rfl rfl rfl rfl ?_;refine zaE (p:=2) (cs:=vcs v.kind v.num v.exp v.text t rows) rfl rfl rfl rfl ?_;refine zfq rfl (cpy_g (T:=T) (hT:=hT) v (by have:=hg.nodes; omega) he l2 hn2) (fun x b' n l ⟨hb',_⟩ y hy => by subst hb'; exact zbP _ _ _) ?_;rintro x b' n3 l3 ⟨rfl,cs',rfl,hN3,he3,hR3⟩;refine zfq rfl (zdn (T:=T) (hT:=hT) comV) (fun x b' n l ⟨hb',_⟩ y hy => by subst hb'; exact zbP _ _ _) ?_;rintro x b' n4 l4 ⟨hb4,rfl,hn4,hl4⟩
  subst hb4; subst hn4; subst hl4
  refine zaq (es:=[vcs v.kind v.num v.exp v.text t rows,cs',vL 5 0 0 comV]) (litP3 rfl rfl rfl rfl (zbp he3) rfl) ?_;refine po_s (v:=.ag (vcs 7 0 0 [] n4 [vcs v.kind v.num v.exp v.text t rows,cs',vL 5 0 0 comV])) rfl rfl rfl ?_;refine zar (p:=1) (cs:=vcs 7 0 0 [] n4 [vcs v.kind v.num v.exp v.text t rows,cs',vL 5 0 0 comV]) rfl rfl rfl rfl rfl rfl ?_;refine mN ?_;have hNs:=(hN12.trans hN3).trans ((NR.refl n4 l4).plain (ds:=vL 5 0 0 comV) rfl rfl);have hNl:=NR.lit (es:=[vcs v.kind v.num v.exp v.text t rows,cs',vL 5 0 0 comV]) hn (by simpa [append_assoc] using hNs);have hK:=(Kd.one he hg).app ((Kd.one he3 hg).app (Kd.one (cs:=vL 5 0 0 comV) (v:=.mk 5 0 0 comV []) zbJ (zbs (B:=12) (zap (by omega)) (zap (by omega)) (zap (by omega)) (by decide) (by decide))))
  exact zae ⟨.inr rfl,[.ag (vcs 7 0 0 [] n4 [vcs v.kind v.num v.exp v.text t rows,cs',vL 5 0 0 comV])],rfl,zbD hc2 (hNl.plain (by simpa [ownedL,vcs,PC.owned,pI,pS] using hNl.own) rfl) (zdU hK 7 0 0 []) (hK.gd (zap (by omega)) (zap (by omega)) (zap (by omega)) (fun h => by cases h) (by simp) (by simp) (by simp only [length_nil,length_cons,length_append]; omega)) ⟨_,_,_,_,n4,_,rfl,.inr (by have:=hN3.n2 hn2; omega)⟩ (by show 3 <= 302; decide)⟩
 | false =>
  refine mwF ?_;refine zai ?_;refine mO ?_;refine zaE (p:=2) (cs:=vcs v.kind v.num v.exp v.text t rows) rfl rfl rfl rfl ?_;refine zar (p:=1) (cs:=vcs v.kind v.num v.exp v.text t rows) rfl rfl rfl rfl rfl rfl ?_;refine mN ?_;exact zae ⟨.inr rfl,[.ag (vcs v.kind v.num v.exp v.text t rows)],rfl,zbD hc2 hN12 he (hg.mono (by decide)) hRT hkl⟩
theorem zcF (m:Int) {bx:LP PC} {nt:Nat} {live:List Nat} (hn:2 <= nt):FnG (env T hT) 36 [.d (pI m)] bx nt live (fun x b n l => b = bx /\ x = .ag (vcs 9 6 0 [] nt [vL 3 m 0 []]) /\ n = nt + 1 /\ l = nt :: live):=by
 refine FnG.lift0 (args:=[.d (pI m)]) (R:=fun x n l => x = .ag (vcs 9 6 0 [] nt [vL 3 m 0 []]) /\ n = nt + 1 /\ l = nt :: live) ?_ ⟨trivial,trivial⟩;have hN:=NR.lit (es:=[vL 3 m 0 []]) hn ((NR.refl nt live).plain rfl rfl);have hNv:NR nt live (nt + 1) (nt :: live) (vcs 9 6 0 [] nt [vL 3 m 0 []]):=hN.plain (by simpa [ownedL,vcs,PC.owned,pI,pS] using hN.own) rfl;refine zaG (zaj zfv) (by show 1 <= 7; decide) fun B hB => ?_
 unfold m_s_l12RefTo;refine mP ?_;refine mQ ?_;refine po_g rfl (int_g (T:=T) (hT:=hT) m) ?_;rintro x b' n l ⟨hb,rfl,hn',hl⟩
 subst hb; subst hn'; subst hl
 refine zaq (es:=[vL 3 m 0 []]) rfl ?_;refine po_s (v:=.ag (vcs 9 6 0 [] n [vL 3 m 0 []])) rfl rfl rfl ?_;refine zar (p:=0) (cs:=vcs 9 6 0 [] n [vL 3 m 0 []]) rfl rfl rfl rfl rfl rfl ?_;refine mN ?_;exact zae ⟨.inr rfl,[.ag (vcs 9 6 0 [] n [vL 3 m 0 []])],rfl,hNv.lw,rfl,rfl,rfl⟩
def oftV (ks:List V) (v:V):Nat:=(ks.filter fun x => decide (x = v)).length
theorem oftV_snoc {ks:List V} {v:V} {i:Nat} (h:i < ks.length):oftV (ks.take (i + 1)) v = oftV (ks.take i) v + if ks[i] = v then 1 else 0:=by
 unfold oftV;rw [take_succ_eq_append_getElem h,List.filter_append,length_append];by_cases k:ks[i] = v <;> simp [k]
theorem oftV_le (ks:List V) (v:V):oftV ks v <= ks.length:=length_filter_le ..
theorem vk_er:∀ ks:List V,erLL (vK ks) = vK ks
 | [] => rfl
 | x :: ks => by
  show erL x.d.pc :: erLL (vK ks) = x.d.pc :: vK ks;rw [vk_er ks,x.pc_eq,zb9]
theorem zfV (t:Nat) {rows:LP PC} {cs:List PC} {ks:List V} {v:V} (hr:erLL rows = vK ks) (hc:erL cs = vC v):PV.dats [.d (.sl t rows),.ag cs] = some [.d (.sl 0 (vK ks)),.ag (vC v)]:=by
 show some [PV.d (.sl 0 (erLL rows)),PV.ag (erL cs)] = _;rw [hr,hc]
def OvI (ks:List V) (v:V) (m:Nat) (st:St):Prop:=∃ i:Nat,i <= ks.length /\ m = ks.length - i /\ has st.tm [(0,.d (.sl 0 (vK ks))),(3,.ref 0 0),(5,.d (pI (oftV (ks.take i) v:Nat))),(6,.d (pI i))] /\ st.bx = [vC v]
theorem oftV_fn (ks:List V) (v:V) (hb:ks.length <= 4294967295) (hk:∀ x ∈ ks,x.nodes <= 4294967295):FnV (env T hT) 104 [.d (.sl 0 (vK ks)),.ag (vC v)] (.d (pI (oftV ks v:Nat))):=by
 refine zaW (zaj zfz) (by show 2 <= 22; decide) fun B hB => ?_
 unfold m_s_l12Often;refine mO ?_;refine zbf (cs:=vC v) rfl ?_;refine mN ?_;refine mP ?_;refine zan (fun st => has st.tm [(5,.d (pI (oftV ks v:Nat)))]) ?_ ?_
 ·refine mP ?_
  refine zab ?_;refine zas (OvI ks v) ks.length ⟨0,Nat.zero_le _,rfl,⟨rfl,rfl,rfl,rfl,trivial⟩,rfl⟩ ?_;rintro m tm bx nt live ⟨i,hi,rfl,ht,hbx⟩;obtain ⟨tm1,rfl⟩:=zac ht;simp only at hbx; subst hbx
  clear ht;refine mM ?_;(iterate 2 refine mS ?_);refine zav (n:=ks.length) rfl rfl (zaY _) ?_;refine po_b rfl rfl (fun b hb => ?_);refine zaa ?_;refine zaZ (p:=(i:Int) < ks.length) hb rfl (fun him _ => ?_) (fun him _ => ?_)
  rotate_left
  ·refine zat ?_
   have:i = ks.length:=by omega
   subst this;rw [take_length];exact ⟨rfl,trivial⟩
  have hia:i < ks.length:=by omega
  have hs:=oftV_snoc (v:=v) hia;have hle:=oftV_le (ks.take i) v;rw [length_take] at hle;refine zai ?_;refine zak (zab ?_);refine mO ?_;(iterate 2 refine mS ?_);refine zaH (es:=vK ks) (e:=vC ks[i]) rfl rfl rfl ⟨by omega,by rw [Int.toNat_natCast]; exact zbo hia⟩ rfl ?_;refine mS ?_;refine zaE (p:=0) (cs:=vC v) rfl rfl rfl rfl ?_;refine zad (zhx (zb9 _) (zb9 _)) (same2_fn (T:=T) (hT:=hT) ks[i] v (hk _ (getElem_mem hia))) ?_;refine zaa ?_;by_cases h:ks[i] = v
  ·rw [decide_eq_true h]
   rw [if_pos h] at hs;refine mwT ?_;refine zaf ?_;refine mS ?_;refine zam (n:=((oftV (ks.take (i + 1)) v:Nat):Int)) rfl rfl rfl (by omega) (by omega) ?_;refine mN ?_;refine zaf ?_;refine mS ?_;refine zam (n:=((i + 1:Nat):Int)) rfl rfl rfl (by omega) (by omega) ?_;refine mN ?_;exact ⟨_,by show ks.length - (i + 1) < ks.length - i; omega,i + 1,by omega,rfl,⟨rfl,rfl,rfl,rfl,trivial⟩,rfl⟩
  ·rw [decide_eq_false h]
   rw [if_neg h] at hs;refine mwF ?_;refine zai ?_;refine zaf ?_;refine mS ?_;refine zam (n:=((i + 1:Nat):Int)) rfl rfl rfl (by omega) (by omega) ?_;refine mN ?_;exact ⟨_,by show ks.length - (i + 1) < ks.length - i; omega,i + 1,by omega,rfl,⟨rfl,rfl,by rw [hs]; rfl,rfl,trivial⟩,rfl⟩
 rintro tm bx nt live ht;obtain ⟨tm1,rfl⟩:=zac ht;refine mP ?_;exact mR
def wrth (ks:List V) (v:V):Int:=if oftV ks v < 2 \/ v.cborT.length < 4 then 0 else (v.cborT.length:Int) * ((oftV ks v:Int) - 1)
theorem cborT_len (v:V):v.cborT.length <= 36 * v.nodes + v.bulk:=by
 unfold V.cborT; split
 ·exact V.cbor_len v
 ·simp
theorem wrth_fn (ks:List V) (v:V) (hb:ks.length <= 1000000) (hk:∀ x ∈ ks,x.nodes <= 4294967295) (hw:v.wf) (hv:36 * v.nodes + v.bulk <= 2147483647):FnV (env T hT) 103 [.d (.sl 0 (vK ks)),.ag (vC v)] (.d (pI (wrth ks v))):=by
 have h1:=oftV_le ks v;have h2:=cborT_len v;have ho:=oftV_fn (T:=T) (hT:=hT) ks v (by omega) hk;have hc:=zhM (T:=T) (hT:=hT) v hw hv;unfold wrth;generalize oftV ks v = o at h1 ho;generalize v.cborT.length = z at h2 hc;refine zaW (zaj zfy) (by show 2 <= 22; decide) fun B hB => ?_
 unfold m_s_l12Worth;refine mO ?_;refine zbf (cs:=vC v) rfl ?_;refine mN ?_;refine mQ ?_
 iterate 2 (refine zaE (p:=0) (cs:=vC v) rfl rfl rfl rfl ?_)
 refine zad (zfV 0 (vk_er ks) (zb9 v)) ho ?_;refine zad (zbA v) hc ?_;refine mN ?_;refine mM ?_;refine mS ?_;by_cases h3:o < 2
 ·refine zah rfl rfl (decide_eq_true (by omega)) ?_
  refine mS ?_;refine mZ ?_;refine mT ?_;refine mP ?_;refine zae ⟨.inr rfl,[.d (pI 0)],rfl,?_⟩;rw [if_pos (.inl h3)]; rfl
 refine zal rfl rfl (decide_eq_false (by omega)) ?_;(iterate 2 refine mS ?_);by_cases h4:z < 4
 ·refine zah rfl rfl (decide_eq_true (by omega)) ?_
  refine mT ?_;refine mP ?_;refine zae ⟨.inr rfl,[.d (pI 0)],rfl,?_⟩;rw [if_pos (.inr h4)]; rfl
 refine zal rfl rfl (decide_eq_false (by omega)) ?_;refine mK ?_;refine mO ?_;(iterate 2 refine mS ?_);refine zaK (n:=(o:Int) - 1) rfl rfl rfl rfl (by omega) ?_;have h5:(z:Int) * ((o:Int) - 1) <= 2147483647 * 1000000:=Int.mul_le_mul (by omega) (by omega) (by omega) (by decide);have h6:0 <= (z:Int) * ((o:Int) - 1):=Int.mul_nonneg (by omega) (by omega);refine zcc (n:=(z:Int) * ((o:Int) - 1)) rfl rfl rfl rfl ⟨by omega,by omega⟩ ?_;refine mN ?_;refine zae ⟨.inr rfl,[.d (pI ((z:Int) * ((o:Int) - 1)))],rfl,?_⟩;rw [if_neg (by omega)]; rfl
theorem po_eqK {E:Env} {K:St -> Prop} {tm:Nat -> PV} {bx:LP PC} {nt d:Nat} {live:List Nat} {r:List MOpr} {g:Option (Nat × Bool)} {c:List X} {x y:X} {la lb:L8} {f:Bool} (hg:gd g tm = some true) (hx:ev tm x = .d (pS la)) (hy:ev tm y = .d (pS lb)) (h:po E r K ⟨up d (.d (pB (decide (la = lb)))) tm,bx,nt,live⟩):po E (⟨some d,.bin .eql f x y,g,c⟩ :: r) K ⟨tm,bx,nt,live⟩:=by
 refine po_q hg ?_ h;simp only [qf,hx,hy,pS];show some (PV.d (.v (.bool ((ByteArray.mk la.toArray).toList == (ByteArray.mk lb.toArray).toList)))) = _;rw [ByteArray.toList_eq,ByteArray.toList_eq];show some (PV.d (.v (.bool (la == lb)))) = _;by_cases h:la = lb
 ·subst h; simp [pB]
 ·simp [h,pB]
theorem zaP (ss:List (L8)):(pSr ss).length = ss.length:=by simp [pSr]
theorem zbZ (a b:List (L8)):pSr (a ++ b) = pSr a ++ pSr b:=by simp [pSr]
theorem za4 (ss:List (L8)):∀ e ∈ pSr ss,e.length = 1:=fun e he => by
 simp only [pSr,mem_map] at he;obtain ⟨s,_,rfl⟩:=he; rfl
theorem zfW {ss:List (L8)} {i:Nat} (h:i < ss.length):(pSr ss)[i]? = some [pS ss[i]]:=by simp [pSr,getElem?_eq_getElem h]
theorem zhS:∀ ss:List (L8),ownedL (pSr ss).flatten = true /\ toksL (pSr ss).flatten = []
 | [] => ⟨rfl,rfl⟩
 | s :: ss => by
  have h:=zhS ss;have e:(pSr (s :: ss)).flatten = pS s :: (pSr ss).flatten:=rfl;rw [e];exact ⟨by simp [ownedL,PC.owned,pS,h.1],by simp [toksL,PC.toks,pS,h.2]⟩
theorem NR.appS {nt n q:Nat} {live l:List Nat} {ss s2:List (L8)} (h2:2 <= nt) (h:NR nt live n l [.sl q (pSr ss)]) (hq:2 <= q):NR nt live (n + 1) (n :: l.filter (· != q)) [.sl n (pSr (ss ++ s2))]:=by
 obtain ⟨o1,o2⟩:=zhS s2;rw [zbZ];refine NR.app (a:=[]) (b:=[]) (rows:=pSr ss) (ds:=pSr s2) h2 (.inr hq) (h.plain ?_ ?_)
 ·show ownedL ([.sl q (pSr ss)] ++ (pSr s2).flatten) = true
  rw [zaL,h.own,o1]; rfl
 ·show toksL ([.sl q (pSr ss)] ++ (pSr s2).flatten) = _
  rw [zau,o2,append_nil]
theorem NR.litS {nt n:Nat} {live l:List Nat} {ss:List (L8)} (h2:2 <= nt) (h:NR nt live n l []):NR nt live (n + 1) (n :: l) [.sl n (pSr ss)]:=by
 obtain ⟨o1,o2⟩:=zhS ss;exact NR.lit h2 (h.plain o1 o2)
def KyR (nt:Nat) (live:List Nat) (P:List (L8) -> Prop) (x:PV) (n:Nat) (l:List Nat):Prop:=∃ (q:Nat) (ss:List (L8)),x = .d (.sl q (pSr ss)) /\ 2 <= q /\ NR nt live n l [.sl q (pSr ss)] /\ P ss
theorem zco {ks:List V} {i:Nat} (h:i < ks.length):V.nodess (ks.take (i + 1)) = V.nodess (ks.take i) + ks[i].nodes:=by
 have app:∀ a b:List V,V.nodess (a ++ b) = V.nodess a + V.nodess b:=by
  intro a b
  induction a with
  | nil => simp [V.nodess]
  | cons x r ih => simp only [cons_append,V.nodess,ih]; omega
 rw [take_succ_eq_append_getElem h,app]; simp [V.nodess]
theorem zbt:∀ (ks:List V) (i:Nat),V.nodess (ks.take i) <= V.nodess ks
 | [],i => by simp [V.nodess]
 | k :: ks,0 => by simp [V.nodess]
 | k :: ks,i + 1 => by have:=zbt ks i; simp only [take_succ_cons,V.nodess]; omega
def KeP (T:World -> Prop) (hT:Low ngl T) (N:Nat):Prop:=∀ (v:V) (cs:List PC) (nt:Nat) (live:List Nat),v.nodes <= N -> v.nodes <= 2147483647 -> erL cs = vC v -> 2 <= nt -> FnG (env T hT) 96 [.ag cs] [] nt live (fun x _ n l => x.lw 0 /\ KyR nt live (fun ss => ss.length + 1 <= v.nodes) x n l)
def KeI (nt:Nat) (live:List Nat) (cs:List PC) (v:V) (m:Nat) (st:St):Prop :=
 ∃ (i q:Nat) (ss:List (L8)),i <= v.kids.length /\ m = v.kids.length - i /\ has st.tm [(1,.ref 0 0),(3,.d (.sl q (pSr ss))),(4,.d (pI i))] /\ st.bx = [cs] /\ NR nt live st.nt st.live [.sl q (pSr ss)] /\ 2 <= q /\ ss.length <= V.nodess (v.kids.take i)
theorem keys_step {N:Nat} (ih:KeP T hT N):KeP T hT (N + 1):=by
 intro v cs nt live hv hb he hn;have hnk:=V.nodes_eq0 v;have hkn:=V.kids_nodes v.kids;obtain ⟨t,rows,rfl,hr⟩:=zdF he;have hrl:=za9 hr;refine zaG (zaj zgV) (by show 1 <= 48; decide) fun B hB => ?_
 unfold m_s_l11Keys;refine mO ?_;refine zbf (cs:=vcs v.kind v.num v.exp v.text t rows) rfl ?_;refine mN ?_;refine mO ?_;refine zaq (es:=[]) rfl ?_;refine mN ?_;refine zan (fun st => ∃ (q:Nat) (ss:List (L8)),has st.tm [(3,.d (.sl q (pSr ss)))] /\ NR nt live st.nt st.live [.sl q (pSr ss)] /\ 2 <= q /\ ss.length + 1 <= v.nodes) ?_ ?_
 ·refine mP ?_
  refine zab ?_;refine zas (KeI nt live (vcs v.kind v.num v.exp v.text t rows) v) v.kids.length ⟨0,nt,[],Nat.zero_le _,rfl,⟨rfl,rfl,rfl,trivial⟩,rfl,NR.litS (ss:=[]) hn (NR.refl nt live),hn,Nat.zero_le _⟩ ?_;rintro m tm bx n1 l1 ⟨i,q,ss,hi,rfl,ht,hbx,hN,hq,hl⟩;obtain ⟨tm1,rfl⟩:=zac ht;simp only at hN hbx; subst hbx
  clear ht;have htl:=zbt v.kids i;refine mM ?_;(iterate 3 refine mS ?_);refine zav (n:=v.kids.length) rfl rfl hrl ?_;refine po_b rfl rfl (fun b hb => ?_);refine zaa ?_;refine zaZ (p:=(i:Int) < v.kids.length) hb rfl (fun him _ => ?_) (fun him _ => ?_)
  rotate_left
  ·refine zat ?_
   exact ⟨q,ss,⟨rfl,trivial⟩,hN,hq,by omega⟩
  have hia:i < v.kids.length:=by omega
  have hsn:=zco hia;have htl1:=zbt v.kids (i + 1);have hnp:=(v.kids[i]).nodes_pos;obtain ⟨e,hge,hee⟩:=zc1 hr hia;have hlwe:=vlw hee;have hcall:=fun nt live h2 => ih v.kids[i] e nt live (V.nodes_kid hv i hia) (by have:=V.nodes_get v.kids i hia; omega) hee h2
  obtain ⟨te,re,hse,hre⟩:=zdF hee;rw [hse] at hge hlwe hcall;refine zai ?_;refine zak (zab ?_);refine zan (fun st => ∃ (q:Nat) (ss:List (L8)),has st.tm [(1,.ref 0 0),(3,.d (.sl q (pSr ss))),(4,.d (pI i))] /\ st.bx = [vcs v.kind v.num v.exp v.text t rows] /\ NR nt live st.nt st.live [.sl q (pSr ss)] /\ 2 <= q /\ ss.length <= V.nodess (v.kids.take i) + 1) ?_ ?_
  ·refine mO ?_
   (iterate 2 refine mS ?_);by_cases h8:v.kind = 8
   ·refine zah rfl rfl (beq_iff_eq.2 h8) ?_
    (iterate 2 refine mS ?_);refine zeB rfl rfl rfl (by omega) (by omega) fun r hr r0 r1 => ?_
    by_cases h0:r = 0
    ·refine zah rfl rfl (beq_iff_eq.2 h0) ?_
     (iterate 5 refine mS ?_);refine zaH (es:=rows) (e:=vcs v.kids[i].kind v.kids[i].num v.kids[i].exp v.kids[i].text te re) rfl rfl rfl ⟨by omega,by rw [Int.toNat_natCast]; exact hge⟩ rfl ?_;(iterate 2 refine mS ?_);by_cases h5:v.kids[i].kind = 5
     ·refine zah rfl rfl (beq_iff_eq.2 h5) ?_
      refine mT ?_;refine zaf ?_;(iterate 4 refine mS ?_);refine zaH (es:=rows) (e:=vcs v.kids[i].kind v.kids[i].num v.kids[i].exp v.kids[i].text te re) rfl rfl rfl ⟨by omega,by rw [Int.toNat_natCast]; exact hge⟩ rfl ?_;(iterate 2 refine mS ?_);refine zaq (es:=pSr [v.kids[i].text]) rfl ?_;refine zaQ (t:=q) (t':=n1) (es:=pSr ss) (ds:=pSr [v.kids[i].text]) rfl rfl (.inr (mem_cons_of_mem _ (hN.mem q (zcE hq)).2.2)) (by rw [zaP,zaP]; simp only [length_cons,length_nil]; omega) (za4 _) (za4 _) ?_;refine mN ?_;rw [<- zbZ];exact ⟨n1 + 1,ss ++ [v.kids[i].text],⟨rfl,rfl,rfl,trivial⟩,rfl,NR.appS hn hN.up hq,by have:=hN.n2 hn; omega,by rw [length_append,length_singleton]; omega⟩
     ·refine zal rfl rfl (beq_eq_false_iff_ne.2 h5) ?_
      refine mK ?_;exact ⟨q,ss,⟨rfl,rfl,rfl,trivial⟩,rfl,hN,hq,by omega⟩
    ·refine zal rfl rfl (beq_eq_false_iff_ne.2 h0) ?_
     (iterate 2 refine mS ?_);refine mZ ?_;refine mK ?_;exact ⟨q,ss,⟨rfl,rfl,rfl,trivial⟩,rfl,hN,hq,by omega⟩
   ·refine zal rfl rfl (beq_eq_false_iff_ne.2 h8) ?_
    refine mS ?_;refine mZ ?_;(iterate 2 refine mS ?_);refine mZ ?_;refine mK ?_;exact ⟨q,ss,⟨rfl,rfl,rfl,trivial⟩,rfl,hN,hq,by omega⟩
  clear hN hq hl;rintro tm bx n1 l1 ⟨q,ss,ht,hbx,hN,hq,hl⟩;obtain ⟨tm2,rfl⟩:=zac ht;simp only at hN hbx; subst hbx
  clear ht tm1;have hn1:=hN.n2 hn;refine zaf ?_;(iterate 4 refine mS ?_);refine zaH (es:=rows) (e:=vcs v.kids[i].kind v.kids[i].num v.kids[i].exp v.kids[i].text te re) rfl rfl rfl ⟨by omega,by rw [Int.toNat_natCast]; exact hge⟩ rfl ?_;refine mS ?_;refine po_g rfl (FnG.lift0 (hcall n1 l1 hn1) ⟨hlwe,trivial⟩) ?_;rintro x b' n2 l2 ⟨rfl,q2,s2,rfl,hq2,hN2,hl2⟩;have hqm:=hN.mem q (zcE hq);refine zaQ (t:=q) (t':=q2) (es:=pSr ss) (ds:=pSr s2) rfl rfl (.inr (hN2.keep q hqm.2.2 hq hqm.2.1)) (by rw [zaP,zaP]; omega) (za4 _) (za4 _) ?_;refine mN ?_;rw [<- zbZ];refine zaf ?_;refine mS ?_;refine zam (n:=((i + 1:Nat):Int)) rfl rfl rfl (by omega) (by omega) ?_;refine mN ?_;exact ⟨_,by show v.kids.length - (i + 1) < v.kids.length - i; omega,i + 1,n2,ss ++ s2,by omega,rfl,⟨rfl,rfl,rfl,trivial⟩,rfl,NR.appS hn (hN.pass hN2.forget) hq,by have:=hN2.le; omega,by rw [length_append]; omega⟩
 rintro tm bx n1 l1 ⟨q,ss,ht,hN,hq,hl⟩;obtain ⟨tm1,rfl⟩:=zac ht;simp only at hN;refine mP ?_;exact zae ⟨.inr rfl,[.d (.sl q (pSr ss))],rfl,(hN.lw (k:=0)).1,q,ss,rfl,hq,hN,hl⟩
theorem keys_g (v:V) {cs:List PC} (hb:v.nodes <= 2147483647) (he:erL cs = vC v) {bx:LP PC} {nt:Nat} (live:List Nat) (hn:2 <= nt):FnG (env T hT) 96 [.ag cs] bx nt live (fun x b n l => b = bx /\ KyR nt live (fun ss => ss.length + 1 <= v.nodes) x n l):=by
 have all:∀ N,KeP T hT N:=by
  intro N
  induction N with
  | zero => intro v cs nt live hv; have:=v.nodes_pos; omega
  | succ N ih => exact keys_step ih
 exact FnG.lift0 (all v.nodes v cs nt live lR hb he hn) ⟨vlw he,trivial⟩
/-! ### how often -/
def often (ss:List (L8)) (s:L8):Nat:=(ss.filter fun x => decide (x = s)).length
theorem often_snoc {ss:List (L8)} {s:L8} {i:Nat} (h:i < ss.length):often (ss.take (i + 1)) s = often (ss.take i) s + if ss[i] = s then 1 else 0:=by
 unfold often;rw [take_succ_eq_append_getElem h,List.filter_append,length_append];by_cases k:ss[i] = s <;> simp [k]
theorem often_le (ss:List (L8)) (s:L8):often ss s <= ss.length:=length_filter_le ..
theorem zdo (t:Nat) (ss:List (L8)) (s:L8):PV.dats [.d (.sl t (pSr ss)),.d (pS s)] = some [.d (pSs ss),.d (pS s)]:=congrArg (fun x => some [PV.d (.sl 0 x),PV.d (pS s)]) (pSr_er ss)
def OfI (ss:List (L8)) (s:L8) (m:Nat) (st:St):Prop:=∃ i:Nat,i <= ss.length /\ m = ss.length - i /\ has st.tm [(0,.d (pSs ss)),(1,.d (pS s)),(5,.d (pI (often (ss.take i) s:Nat))),(6,.d (pI i))]
theorem zfX (ss:List (L8)) (s:L8) (hb:ss.length <= 4294967295):FnV (env T hT) 97 [.d (pSs ss),.d (pS s)] (.d (pI (often ss s:Nat))):=by
 refine zaW (zaj zfT) (by show 2 <= 22; decide) fun B hB => ?_
 unfold m_s_l11Often;refine mP ?_;refine mP ?_;refine zan (fun st => has st.tm [(5,.d (pI (often ss s:Nat)))]) ?_ ?_
 ·refine mP ?_
  refine zab ?_;refine zas (OfI ss s) ss.length ⟨0,Nat.zero_le _,rfl,rfl,rfl,rfl,rfl,trivial⟩ ?_;rintro m tm bx nt live ⟨i,hi,rfl,ht⟩;obtain ⟨tm1,rfl⟩:=zac ht;clear ht;refine mM ?_;(iterate 2 refine mS ?_);refine zav (n:=ss.length) rfl rfl (zaP _) ?_;refine po_b rfl rfl (fun b hb => ?_);refine zaa ?_;refine zaZ (p:=(i:Int) < ss.length) hb rfl (fun him _ => ?_) (fun him _ => ?_)
  rotate_left
  ·refine zat ?_
   have:i = ss.length:=by omega
   subst this;rw [take_length];exact ⟨rfl,trivial⟩
  have hia:i < ss.length:=by omega
  have hs:=often_snoc (s:=s) hia;have hle:=often_le (ss.take i) s;rw [length_take] at hle;refine zai ?_;refine zak (zab ?_);refine mO ?_;(iterate 2 refine mS ?_);refine zaH (es:=pSr ss) (e:=[pS ss[i]]) rfl rfl rfl ⟨by omega,by rw [Int.toNat_natCast]; exact zfW hia⟩ rfl ?_;(iterate 2 refine mS ?_);refine po_eqK (la:=ss[i]) (lb:=s) rfl rfl rfl ?_;refine zaa ?_;by_cases h:ss[i] = s
  ·rw [decide_eq_true h]
   rw [if_pos h] at hs;refine mwT ?_;refine zaf ?_;refine mS ?_;refine zam (n:=((often (ss.take (i + 1)) s:Nat):Int)) rfl rfl rfl (by omega) (by omega) ?_;refine mN ?_;refine zaf ?_;refine mS ?_;refine zam (n:=((i + 1:Nat):Int)) rfl rfl rfl (by omega) (by omega) ?_;refine mN ?_;exact ⟨_,by show ss.length - (i + 1) < ss.length - i; omega,i + 1,by omega,rfl,rfl,rfl,rfl,rfl,trivial⟩
  ·rw [decide_eq_false h]
   rw [if_neg h] at hs;refine mwF ?_;refine zai ?_;refine zaf ?_;refine mS ?_;refine zam (n:=((i + 1:Nat):Int)) rfl rfl rfl (by omega) (by omega) ?_;refine mN ?_;exact ⟨_,by show ss.length - (i + 1) < ss.length - i; omega,i + 1,by omega,rfl,rfl,rfl,by rw [hs]; rfl,rfl,trivial⟩
 rintro tm bx nt live ht;obtain ⟨tm1,rfl⟩:=zac ht;refine mP ?_;exact mR
def PaR (nt:Nat) (live:List Nat) (P:List V -> Prop) (x:PV) (n:Nat) (l:List Nat):Prop:=∃ (q:Nat) (out:LP PC) (ks:List V),x = .d (.sl q out) /\ 2 <= q /\ NR nt live n l [.sl q []] /\ erLL out = vK ks /\ P ks
theorem NR.appE {nt n q:Nat} {live l:List Nat} (h2:2 <= nt) (h:NR nt live n l [.sl q []]) (hq:2 <= q):NR nt live (n + 1) (n :: l.filter (· != q)) [.sl n []]:=by
 have:=NR.app (a:=[]) (b:=[]) (rows:=[]) (ds:=[]) h2 (.inr hq) (by simpa using h)
 simpa using this
theorem Gd.kid {B:Nat} {v:V} (h:Gd B v) (i:Nat) (hi:i < v.kids.length):Gd B v.kids[i]:=by
 have h1:=(V.wf_fld h.wf).2.2.2.2;have h2:=h.few;have h3:=V.bulk_get (Nat.le_refl (v.kids.length + V.bulks v.kids)) i hi;have h4:=V.bulk_eq0 v;have h5:=h.bulk;refine ⟨zfJ h1 _ (getElem_mem hi),?_,by omega⟩;obtain ⟨k,n,e,s,ks⟩:=v;exact V.fews_all.1 h2.2 _ (getElem_mem hi)
def PtP (T:World -> Prop) (hT:Low ngl T) (B N:Nat):Prop:=∀ (v:V) (cs:List PC) (nt:Nat) (live:List Nat),v.nodes <= N -> v.nodes <= 2147483647 -> Gd B v -> erL cs = vC v -> 2 <= nt -> FnG (env T hT) 102 [.ag cs] [] nt live (fun x _ n l => x.lw 0 /\ PaR nt live (fun ks => ks.length <= v.nodes /\ ∀ x ∈ ks,Gd B x) x n l)
def PaI (B nt:Nat) (live:List Nat) (cs:List PC) (v:V) (m:Nat) (st:St):Prop :=
 ∃ (i q:Nat) (out:LP PC) (ks:List V),i <= v.kids.length /\ m = v.kids.length - i /\ has st.tm [(1,.ref 0 0),(3,.d (.sl q out)),(4,.d (pI i))] /\ st.bx = [cs] /\ NR nt live st.nt st.live [.sl q []] /\ 2 <= q /\ erLL out = vK ks /\ ks.length <= 1 + V.nodess (v.kids.take i) /\ ∀ x ∈ ks,Gd B x
theorem parts_step {B0 N:Nat} (ih:PtP T hT B0 N):PtP T hT B0 (N + 1):=by
 intro v cs nt live hv hb hg he hn;have hnk:=V.nodes_eq0 v;have hkn:=V.kids_nodes v.kids;obtain ⟨t,rows,rfl,hr⟩:=zdF he;have hrl:=za9 hr;refine zaG (zaj zfx) (by show 1 <= 31; decide) fun B hB => ?_
 unfold m_s_l12Parts;refine mO ?_;refine zbf (cs:=vcs v.kind v.num v.exp v.text t rows) rfl ?_;refine mN ?_;refine mO ?_;refine zaE (p:=0) (cs:=vcs v.kind v.num v.exp v.text t rows) rfl rfl rfl rfl ?_;refine zaq (es:=[vcs v.kind v.num v.exp v.text t rows]) rfl ?_;refine mN ?_;refine zan (fun st => ∃ (q:Nat) (out:LP PC) (ks:List V),has st.tm [(3,.d (.sl q out))] /\ NR nt live st.nt st.live [.sl q []] /\ 2 <= q /\ erLL out = vK ks /\ ks.length <= v.nodes /\ ∀ x ∈ ks,Gd B0 x) ?_ ?_
 ·refine mP ?_
  refine zab ?_;refine zas (PaI B0 nt live (vcs v.kind v.num v.exp v.text t rows) v) v.kids.length ⟨0,nt,[vcs v.kind v.num v.exp v.text t rows],[v],Nat.zero_le _,rfl,⟨rfl,rfl,rfl,trivial⟩,rfl,NR.lit (es:=[]) hn (NR.refl nt live),hn,zcD he,by simp,fun x hx => by rw [mem_singleton] at hx; subst hx; exact hg⟩ ?_;rintro m tm bx n1 l1 ⟨i,q,out,ks,hi,rfl,ht,hbx,hN,hq,ho,hl,hgs⟩;obtain ⟨tm1,rfl⟩:=zac ht;simp only at hN hbx; subst hbx
  clear ht;have htl:=zbt v.kids i;refine mM ?_;(iterate 3 refine mS ?_);refine zav (n:=v.kids.length) rfl rfl hrl ?_;refine po_b rfl rfl (fun b hb => ?_);refine zaa ?_;refine zaZ (p:=(i:Int) < v.kids.length) hb rfl (fun him _ => ?_) (fun him _ => ?_)
  rotate_left
  ·refine zat ?_
   exact ⟨q,out,ks,⟨rfl,trivial⟩,hN,hq,ho,by omega,hgs⟩
  have hia:i < v.kids.length:=by omega
  have hsn:=zco hia;have htl1:=zbt v.kids (i + 1);have hnp:=(v.kids[i]).nodes_pos;obtain ⟨e,hge,hee⟩:=zc1 hr hia;have hlwe:=vlw hee;have hcall:=fun nt live h2 => ih v.kids[i] e nt live (V.nodes_kid hv i hia) (by have:=V.nodes_get v.kids i hia; omega) (hg.kid i hia) hee h2
  obtain ⟨te,re,hse,hre⟩:=zdF hee;rw [hse] at hge hlwe hcall;have hol:=za9 ho;have hn1:=hN.n2 hn;refine zai ?_;refine zak (zab ?_);refine zan (fun st => ∃ r:Bool,has st.tm [(1,.ref 0 0),(3,.d (.sl q out)),(4,.d (pI i)),(21,.d (pB r))] /\ st.bx = [vcs v.kind v.num v.exp v.text t rows] /\ st.nt = n1 /\ st.live = l1) ?_ ?_
  ·refine zaf ?_
   (iterate 2 refine mS ?_);by_cases h8:v.kind = 8
   ·refine zal rfl rfl (by rw [h8]; exact bne_self_eq_false _) ?_
    (iterate 2 refine mS ?_);refine zeB rfl rfl rfl (by omega) (by omega) fun r hr r0 r1 => ?_
    refine po_b rfl rfl (fun r2 hr2 => ?_);refine mN ?_;exact ⟨r2,⟨rfl,rfl,rfl,rfl,trivial⟩,rfl,rfl,rfl⟩
   ·refine zah rfl rfl (bne_iff_ne.2 h8) ?_
    refine mS ?_;refine mZ ?_;refine mN ?_;exact ⟨true,⟨rfl,rfl,rfl,rfl,trivial⟩,rfl,rfl,rfl⟩
  rintro tm bx n0 l0 ⟨r,ht,hbx,hn0,hl0⟩;obtain ⟨tm2,rfl⟩:=zac ht;simp only at hbx hn0 hl0; subst hbx; subst hn0; subst hl0
  clear ht tm1
  cases r with
  | false =>
   refine mwF ?_;refine zai ?_;refine zaf ?_;refine mS ?_;refine zam (n:=((i + 1:Nat):Int)) rfl rfl rfl (by omega) (by omega) ?_;refine mN ?_
   exact ⟨_,by show v.kids.length - (i + 1) < v.kids.length - i; omega,i + 1,q,out,ks,by omega,rfl,⟨rfl,rfl,rfl,trivial⟩,rfl,hN,hq,ho,by omega,hgs⟩
  | true =>
   refine mwT ?_;refine zaf ?_;(iterate 4 refine mS ?_);refine zaH (es:=rows) (e:=vcs v.kids[i].kind v.kids[i].num v.kids[i].exp v.kids[i].text te re) rfl rfl rfl ⟨by omega,by rw [Int.toNat_natCast]; exact hge⟩ rfl ?_;refine mS ?_;refine po_g rfl (FnG.lift0 (hcall n0 l0 hn1) ⟨hlwe,trivial⟩) ?_;rintro x b' n2 l2 ⟨rfl,q2,o2,k2,rfl,hq2,hN2,he2,hl2,hg2⟩;have hqm:=hN.mem q (zcE hq);have h2l:=za9 he2;refine zaQ (t:=q) (t':=q2) (es:=out) (ds:=o2) rfl rfl (.inr (hN2.keep q hqm.2.2 hq hqm.2.1)) (by omega) (zbh he2) (zbh ho) ?_;refine mN ?_;refine zaf ?_;refine mS ?_;refine zam (n:=((i + 1:Nat):Int)) rfl rfl rfl (by omega) (by omega) ?_;refine mN ?_;exact ⟨_,by show v.kids.length - (i + 1) < v.kids.length - i; omega,i + 1,n2,out ++ o2,ks ++ k2,by omega,rfl,⟨rfl,rfl,rfl,trivial⟩,rfl,NR.appE hn (hN.pass hN2.forget) hq,by have:=hN2.le; omega,zca ho he2,by rw [length_append]; omega,fun x hx => (mem_append.1 hx).elim (hgs x) (hg2 x)⟩
 rintro tm bx n1 l1 ⟨q,out,ks,ht,hN,hq,ho,hl,hgs⟩;obtain ⟨tm1,rfl⟩:=zac ht;simp only at hN;refine mP ?_;refine zae ⟨.inr rfl,[.d (.sl q out)],rfl,?_,q,out,ks,rfl,hq,hN,ho,hl,hgs⟩
 have:=vlw (v:=.mk 0 0 0 [] ks) (cs:=vcs 0 0 0 [] q out) (by
  show [pI 0,pI 0,pI 0,pS [],.sl 0 (erLL out)] = _;rw [ho]; rfl)
 simp only [vcs,lwL,PC.lw,pI,pS,and_true,true_and] at this;exact this
theorem parts_g {B0:Nat} (v:V) {cs:List PC} (hb:v.nodes <= 2147483647) (hg:Gd B0 v) (he:erL cs = vC v) {bx:LP PC} {nt:Nat} (live:List Nat) (hn:2 <= nt):FnG (env T hT) 102 [.ag cs] bx nt live (fun x b n l => b = bx /\ PaR nt live (fun ks => ks.length <= v.nodes /\ ∀ x ∈ ks,Gd B0 x) x n l):=by
 have all:∀ N,PtP T hT B0 N:=by
  intro N
  induction N with
  | zero => intro v cs nt live hv; have:=v.nodes_pos; omega
  | succ N ih => exact parts_step ih
 exact FnG.lift0 (all v.nodes v cs nt live lR hb hg he hn) ⟨vlw he,trivial⟩
theorem slw {rows:LP PC} {ks:List V} (t:Nat) (he:erLL rows = vK ks):PV.lw 0 (.d (.sl t rows)):=by
 have:=vlw (v:=.mk 0 0 0 [] ks) (cs:=vcs 0 0 0 [] t rows) (by
  show [pI 0,pI 0,pI 0,pS [],.sl 0 (erLL rows)] = _;rw [he]; rfl)
 simp only [vcs,lwL,PC.lw,pI,pS,and_true,true_and] at this;exact this
theorem datsE {cs:List PC} {v:V} (he:erL cs = vC v):PV.dats [.ag cs] = some [.ag (vC v)]:=congrArg (fun l => some [PV.ag l]) he
theorem kS_mem {a b:List (L8)} (ha:∀ s ∈ a,s.length <= 100) (hb:∀ s ∈ b,s.length <= 100):∀ s ∈ a ++ b,s.length <= 100:=fun s hs => (mem_append.1 hs).elim (ha s) (hb s)
def TrI1 (nt:Nat) (live:List Nat) (t:Nat) (rows:LP PC) (ks:List V) (lim:Int) (m:Nat) (st:St):Prop :=
 ∃ (i q:Nat) (ws:List (L8)),i <= ks.length /\ m = ks.length - i /\ has st.tm [(0,.d (.sl t rows)),(1,.d (pI lim)),(5,.d (.sl q (pSr ws))),(6,.d (pI i))] /\ NR nt live st.nt st.live [.sl q (pSr ws)] /\ 2 <= q /\ ws.length <= V.nodess (ks.take i)
def TrI2 (nt:Nat) (live:List Nat) (lim:Int) (q:Nat) (ws:List (L8)) (m:Nat) (st:St):Prop :=
 ∃ (i p:Nat) (ss:List (L8)),i <= ws.length /\ m = ws.length - i /\ has st.tm [(1,.d (pI lim)),(5,.d (.sl q (pSr ws))),(7,.d (.sl p (pSr ss))),(8,.d (pI i))] /\ NR nt live st.nt st.live [.sl p (pSr ss)] /\ 2 <= p /\ ss.length <= i /\ ∀ s ∈ ss,s.length <= 100
def TrI3 (lim:Int) (q p i:Nat) (ws ss:List (L8)) (w:L8) (ow n1:Nat) (l1:List Nat) (m:Nat) (st:St):Prop :=
 ∃ a:Nat,a <= ss.length /\ m = a /\ has st.tm [(1,.d (pI lim)),(5,.d (.sl q (pSr ws))),(7,.d (.sl p (pSr ss))),(8,.d (pI i)),(9,.d (pS w)),(10,.d (pI ow)),(11,.d (pI a))] /\ st.nt = n1 /\ st.live = l1
theorem train_g (ks:List V) (hok:∀ v ∈ ks,v.wf /\ v.bulk <= 4294967290) (hb:V.nodess ks <= 1000000) {rows:LP PC} (t:Nat) (he:erLL rows = vK ks) (lim:Int) (hlim:0 <= lim /\ lim <= 100) {bx:LP PC} {nt:Nat} (live:List Nat) (hn:2 <= nt) :
  FnG (env T hT) 67 [.d (.sl t rows),.d (pI lim)] bx nt live (fun x b n l => b = bx /\ KyR nt live (fun ss => ss.length <= 100 /\ ∀ s ∈ ss,s.length <= 100) x n l):=by
 refine FnG.lift0 (args:=[.d (.sl t rows),.d (pI lim)]) (R:=fun x n l => KyR nt live (fun ss => ss.length <= 100 /\ ∀ s ∈ ss,s.length <= 100) x n l) ?_ ⟨slw t he,trivial,trivial⟩;have hkn:=V.kids_nodes ks;have hrl:=za9 he;refine zaG (zaj lk_s_Train) (by show 2 <= 126; decide) fun B hB => ?_
 unfold m_s_Train;refine mP ?_;refine mO ?_;refine zaq (es:=[]) rfl ?_;refine mN ?_;refine zan (fun st => ∃ (q:Nat) (ws:List (L8)),has st.tm [(1,.d (pI lim)),(5,.d (.sl q (pSr ws)))] /\ NR nt live st.nt st.live [.sl q (pSr ws)] /\ 2 <= q /\ ws.length <= 1000000) ?_ ?_
 ·refine mP ?_
  refine zab ?_;refine zas (TrI1 nt live t rows ks lim) ks.length ⟨0,nt,[],Nat.zero_le _,rfl,⟨rfl,rfl,rfl,rfl,trivial⟩,NR.litS (ss:=[]) hn (NR.refl nt live),hn,Nat.zero_le _⟩ ?_;rintro m tm bx n1 l1 ⟨i,q,ws,hi,rfl,ht,hN,hq,hl⟩;obtain ⟨tm1,rfl⟩:=zac ht;simp only at hN;clear ht;have htl:=zbt ks i;refine mM ?_;(iterate 2 refine mS ?_);refine zav (n:=ks.length) rfl rfl hrl ?_;refine po_b rfl rfl (fun b hb => ?_);refine zaa ?_;refine zaZ (p:=(i:Int) < ks.length) hb rfl (fun him _ => ?_) (fun him _ => ?_)
  rotate_left
  ·refine zat ?_
   exact ⟨q,ws,⟨rfl,rfl,trivial⟩,hN,hq,by omega⟩
  have hia:i < ks.length:=by omega
  have hsn:=zco hia;have htl1:=zbt ks (i + 1);have hnp:=(ks[i]).nodes_pos;obtain ⟨hwf,hbk⟩:=hok _ (getElem_mem hia);obtain ⟨e,hge,hee⟩:=zc1 he hia;obtain ⟨te,re,hse,hre⟩:=zdF hee;rw [hse] at hge hee;have hn1:=hN.n2 hn;refine zai ?_;refine zak (zab ?_);refine mM ?_;(iterate 2 refine mS ?_);refine zaH (es:=rows) (e:=vcs ks[i].kind ks[i].num ks[i].exp ks[i].text te re) rfl rfl rfl ⟨by omega,by rw [Int.toNat_natCast]; exact hge⟩ rfl ?_;refine mS ?_;refine zad (datsE hee) (vok_fn (T:=T) (hT:=hT) ks[i] hwf (by omega)) ?_
  cases hk:ks[i].ok with
  | false =>
   refine mT ?_;refine mO ?_;refine zaq (es:=[]) rfl ?_;refine mN ?_;have hNe:=NR.litS (ss:=[]) hn hN.forget
   exact zae ⟨.inr rfl,[.d (.sl n1 [])],rfl,(hNe.lw (k:=0)).1,n1,[],rfl,hn1,hNe,by simp,by simp⟩
  | true =>
  refine mK ?_;refine zaf ?_;(iterate 3 refine mS ?_);refine zaH (es:=rows) (e:=vcs ks[i].kind ks[i].num ks[i].exp ks[i].text te re) rfl rfl rfl ⟨by omega,by rw [Int.toNat_natCast]; exact hge⟩ rfl ?_;refine mS ?_;refine po_g rfl (keys_g (T:=T) (hT:=hT) ks[i] (by have:=V.nodes_get ks i hia; omega) hee l1 hn1) ?_;rintro x b' n2 l2 ⟨rfl,q2,s2,rfl,hq2,hN2,hl2⟩;have hqm:=hN.mem q (zcE hq);refine zaQ (t:=q) (t':=q2) (es:=pSr ws) (ds:=pSr s2) rfl rfl (.inr (hN2.keep q hqm.2.2 hq hqm.2.1)) (by rw [zaP,zaP]; omega) (za4 _) (za4 _) ?_;refine mN ?_;rw [<- zbZ];refine zaf ?_;refine mS ?_;refine zam (n:=((i + 1:Nat):Int)) rfl rfl rfl (by omega) (by omega) ?_;refine mN ?_;exact ⟨_,by show ks.length - (i + 1) < ks.length - i; omega,i + 1,n2,ws ++ s2,by omega,rfl,⟨rfl,rfl,rfl,rfl,trivial⟩,NR.appS hn (hN.pass hN2.forget) hq,by have:=hN2.le; omega,by rw [length_append]; omega⟩
 rintro tm bx n1 l1 ⟨q,ws,ht,hN,hq,hl⟩;obtain ⟨tm1,rfl⟩:=zac ht;simp only at hN;clear ht;have hN:=hN.forget;have hn1:=hN.n2 hn;refine mO ?_;refine zaq (es:=[]) rfl ?_;refine mN ?_;refine zan (fun st => ∃ (p:Nat) (ss:List (L8)),has st.tm [(1,.d (pI lim)),(7,.d (.sl p (pSr ss)))] /\ NR nt live st.nt st.live [.sl p (pSr ss)] /\ 2 <= p /\ ss.length <= 1000000 /\ ∀ s ∈ ss,s.length <= 100) ?_ ?_
 ·refine mP ?_
  refine zab ?_;refine zas (TrI2 nt live lim q ws) ws.length ⟨0,n1,[],Nat.zero_le _,rfl,⟨rfl,rfl,rfl,rfl,trivial⟩,NR.litS (ss:=[]) hn hN,hn1,Nat.zero_le _,by simp⟩ ?_;clear hN hn1;rintro m tm bx n1 l1 ⟨i,p,ss,hi,rfl,ht,hN,hp,hls,h100⟩;obtain ⟨tm2,rfl⟩:=zac ht;simp only at hN;clear ht tm1;have hn1:=hN.n2 hn;refine mM ?_;(iterate 2 refine mS ?_);refine zav (n:=ws.length) rfl rfl (zaP _) ?_;by_cases hia:i < ws.length
  case neg =>
   refine zal rfl rfl (decide_eq_false (by omega)) ?_;refine mS ?_;refine mZ ?_;refine mF ?_;refine zat ?_;exact ⟨p,ss,⟨rfl,rfl,trivial⟩,hN,hp,by omega,h100⟩
  refine zah rfl rfl (decide_eq_true (by omega)) ?_;(iterate 2 refine mS ?_);refine zaC (args:=[.d (pI lim),.d (pI 0),.d (pI 100)]) (b:=true) rfl (fun _ => rfl) (fun _ => zet (T:=T) (hT:=hT) lim 0 100) ?_;rw [decide_eq_true hlim];refine mT ?_;refine zai ?_;refine zak (zab ?_);refine mO ?_;(iterate 2 refine mS ?_);refine zaH (es:=pSr ws) (e:=[pS ws[i]]) rfl rfl rfl ⟨by omega,by rw [Int.toNat_natCast]; exact zfW hia⟩ rfl ?_;(iterate 4 refine mS ?_);refine zaH (es:=pSr ws) (e:=[pS ws[i]]) rfl rfl rfl ⟨by omega,by rw [Int.toNat_natCast]; exact zfW hia⟩ rfl ?_;refine mS ?_;refine zad (zdo q ws ws[i]) (zfX (T:=T) (hT:=hT) ws ws[i] (by omega)) ?_;refine mN ?_;generalize ws[i] = w;have how:=often_le ws w;generalize often ws w = ow at how;refine zan (fun st => has st.tm [(1,.d (pI lim)),(5,.d (.sl q (pSr ws))),(7,.d (.sl p (pSr ss))),(8,.d (pI i)),(9,.d (pS w)),(10,.d (pI ow))] /\ st.nt = n1 /\ st.live = l1 /\ w.length <= 100) ?_ ?_
  ·refine mO ?_
   (iterate 2 refine mS ?_);by_cases h1:((w.length:Nat):Int) > 100
   ·refine zah rfl rfl (decide_eq_true h1) ?_
    refine mS ?_;refine mZ ?_;refine mT ?_;refine zat ?_;refine zaf ?_;refine mS ?_;refine zam (n:=((i + 1:Nat):Int)) rfl rfl rfl (by omega) (by omega) ?_;refine mN ?_;exact ⟨_,by show ws.length - (i + 1) < ws.length - i; omega,i + 1,p,ss,by omega,rfl,⟨rfl,rfl,rfl,rfl,trivial⟩,hN,hp,by omega,h100⟩
   ·refine zal rfl rfl (decide_eq_false h1) ?_
    (iterate 3 refine mS ?_);refine zaC (b:=true) rfl (fun _ => zdo p ss w) (fun _ => l11d_fn (T:=T) (hT:=hT) ss w (by omega)) ?_;refine po_b rfl rfl (fun r hr => ?_)
    cases r with
    | true =>
     refine mT ?_;refine zat ?_;refine zaf ?_;refine mS ?_;refine zam (n:=((i + 1:Nat):Int)) rfl rfl rfl (by omega) (by omega) ?_;refine mN ?_
     exact ⟨_,by show ws.length - (i + 1) < ws.length - i; omega,i + 1,p,ss,by omega,rfl,⟨rfl,rfl,rfl,rfl,trivial⟩,hN,hp,by omega,h100⟩
    | false =>
     refine mK ?_;exact ⟨⟨rfl,rfl,rfl,rfl,rfl,rfl,trivial⟩,rfl,rfl,by omega⟩
  rintro tm bx n2 l2 ⟨ht,hn2,hl2,hw⟩;obtain ⟨tm3,rfl⟩:=zac ht;simp only at hn2 hl2; subst hn2; subst hl2
  clear ht tm2;refine mQ ?_;refine zav (n:=ss.length) rfl rfl (zaP _) ?_;refine mN ?_;refine zan (fun st => ∃ a:Nat,a <= ss.length /\ has st.tm [(1,.d (pI lim)),(5,.d (.sl q (pSr ws))),(7,.d (.sl p (pSr ss))),(8,.d (pI i)),(9,.d (pS w)),(11,.d (pI a))] /\ st.nt = n2 /\ st.live = l2) ?_ ?_
  ·refine zab ?_
   refine zas (TrI3 lim q p i ws ss w ow n2 l2) ss.length ⟨ss.length,lR,rfl,⟨rfl,rfl,rfl,rfl,rfl,rfl,rfl,trivial⟩,rfl,rfl⟩ ?_;rintro m tm bx n3 l3 ⟨a,ha,rfl,ht,hn3,hl3⟩;obtain ⟨tm4,rfl⟩:=zac ht;simp only at hn3 hl3; subst hn3; subst hl3
   clear ht tm3;refine zan (fun st => ∃ r:Bool,has st.tm [(1,.d (pI lim)),(5,.d (.sl q (pSr ws))),(7,.d (.sl p (pSr ss))),(8,.d (pI i)),(9,.d (pS w)),(10,.d (pI ow)),(11,.d (pI m))] /\ st.nt = n3 /\ st.live = l3 /\ 0 < m) ?_ ?_
   ·refine mQ ?_
    by_cases h0:0 < m
    case neg =>
     refine zal rfl rfl (decide_eq_false (by omega)) ?_;refine mS ?_;refine mZ ?_;refine mF ?_;refine zat ?_;exact ⟨m,ha,⟨rfl,rfl,rfl,rfl,rfl,rfl,trivial⟩,rfl,rfl⟩
    obtain ⟨k,rfl⟩:∃ k,m = k + 1:=⟨m - 1,by omega⟩;have hks:k < ss.length:=by omega
    obtain ⟨u,hu⟩:∃ u,(pSr ss)[k]? = some [pS u]:=⟨_,zfW hks⟩;refine zah rfl rfl (decide_eq_true (by omega)) ?_;(iterate 4 refine mS ?_);refine zaK (n:=(k:Int)) rfl rfl rfl (by omega) (by omega) ?_;refine zaH (es:=pSr ss) (e:=[pS u]) rfl rfl rfl ⟨by omega,by rw [Int.toNat_natCast]; exact hu⟩ rfl ?_;refine mS ?_;refine zaC (b:=true) rfl (fun _ => zdo q ws u) (fun _ => zfX (T:=T) (hT:=hT) ws u (by omega)) ?_;refine mS ?_;refine po_b rfl rfl (fun r1 hr1 => ?_)
    cases r1 with
    | true =>
     refine mS ?_;refine mZ ?_;refine mT ?_;refine zai ?_
     exact ⟨true,⟨rfl,rfl,rfl,rfl,rfl,rfl,rfl,trivial⟩,rfl,rfl,by omega⟩
    | false =>
     (iterate 4 refine mS ?_);refine zaK (n:=(k:Int)) rfl rfl rfl (by omega) (by omega) ?_;refine zaH (es:=pSr ss) (e:=[pS u]) rfl rfl rfl ⟨by omega,by rw [Int.toNat_natCast]; exact hu⟩ rfl ?_;refine mS ?_;refine zaC (b:=true) rfl (fun _ => zdo q ws u) (fun _ => zfX (T:=T) (hT:=hT) ws u (by omega)) ?_;refine mS ?_;refine po_b rfl rfl (fun r2 hr2 => ?_)
     cases r2 with
     | true =>
      (iterate 3 refine mS ?_);refine zaK (n:=(k:Int)) rfl rfl rfl (by omega) (by omega) ?_;refine zaH (es:=pSr ss) (e:=[pS u]) rfl rfl rfl ⟨by omega,by rw [Int.toNat_natCast]; exact hu⟩ rfl ?_;(iterate 2 refine mS ?_);refine po_b rfl rfl (fun r3 hr3 => ?_)
      cases r3 with
      | true =>
       refine mT ?_;refine zai ?_
       exact ⟨true,⟨rfl,rfl,rfl,rfl,rfl,rfl,rfl,trivial⟩,rfl,rfl,by omega⟩
      | false =>
       refine mF ?_;refine zat ?_
       exact ⟨k + 1,ha,⟨rfl,rfl,rfl,rfl,rfl,rfl,trivial⟩,rfl,rfl⟩
     | false =>
      refine mS ?_;refine mZ ?_;refine mF ?_;refine zat ?_;exact ⟨k + 1,ha,⟨rfl,rfl,rfl,rfl,rfl,rfl,trivial⟩,rfl,rfl⟩
   rintro tm bx n4 l4 ⟨r,ht,hn4,hl4,h0⟩;obtain ⟨tm5,rfl⟩:=zac ht;simp only at hn4 hl4; subst hn4; subst hl4
   clear ht tm4;refine zab (zaf ?_);refine mS ?_;refine zaK (n:=((m - 1:Nat):Int)) rfl rfl rfl (by omega) (by omega) ?_;refine mN ?_;exact ⟨_,by show m - 1 < m; omega,m - 1,by omega,rfl,⟨rfl,rfl,rfl,rfl,rfl,rfl,rfl,trivial⟩,rfl,rfl⟩
  rintro tm bx n3 l3 ⟨a,ha,ht,hn3,hl3⟩;obtain ⟨tm4,rfl⟩:=zac ht;simp only at hn3 hl3; subst hn3; subst hl3
  clear ht tm3;refine zaf ?_;(iterate 2 refine mS ?_);refine zdm (es:=pSr ss) (l:=0) (h:=a) (rs:=pSr (ss.take a)) rfl rfl rfl (zaD (i:=(a:Int)) rfl rfl) ⟨Nat.zero_le _,by rw [zaP]; exact ha⟩ (za4 _) (by simp [pSr,map_take]) ?_;refine mS ?_;refine zdE (es:=pSr [w]) rfl ?_;(iterate 2 refine mS ?_);refine zdm (es:=pSr ss) (l:=a) (h:=ss.length) (rs:=pSr (ss.drop a)) rfl rfl (zaD (i:=(a:Int)) rfl rfl) (by show some (pSr ss).length = some ss.length; rw [zaP]) ⟨ha,by rw [zaP]; exact lR⟩ (za4 _) (by rw [<- length_drop,take_of_length_le (by rw [length_drop,length_drop,zaP]; exact lR)]; simp [pSr,map_drop]) ?_;refine zaq (es:=[]) rfl ?_;have hla:(ss.take a).length <= ss.length:=by rw [length_take]; omega
  have hld:(ss.drop a).length <= ss.length:=by rw [length_drop]; omega
  refine zaQ (t:=n3) (t':=0) (es:=pSr []) (ds:=pSr (ss.take a)) rfl rfl (.inr (mem_cons_self ..)) (by rw [zaP,zaP,length_nil]; omega) (za4 _) (za4 _) ?_;have hN1:=NR.appS (s2:=ss.take a) hn (NR.litS (ss:=[]) hn hN.forget) hn1;rw [<- zbZ];refine zaQ (t:=n3 + 1) (t':=0) (es:=pSr ([] ++ ss.take a)) (ds:=pSr [w]) rfl rfl (.inr (mem_cons_self ..)) (by rw [zaP,zaP,nil_append,length_singleton]; omega) (za4 _) (za4 _) ?_;have hN2:=NR.appS (s2:=[w]) hn hN1 (by omega);rw [<- zbZ];refine zaQ (t:=n3 + 1 + 1) (t':=0) (es:=pSr ([] ++ ss.take a ++ [w])) (ds:=pSr (ss.drop a)) rfl rfl (.inr (mem_cons_self ..)) (by rw [zaP,zaP,nil_append,length_append,length_singleton]; omega) (za4 _) (za4 _) ?_;have hN3:=NR.appS (s2:=ss.drop a) hn hN2 (by omega);rw [<- zbZ];refine mN ?_;refine zaf ?_;refine mS ?_
  refine zam (n:=((i + 1:Nat):Int)) rfl rfl rfl (by omega) (by omega) ?_;refine mN ?_
  exact ⟨_,by show ws.length - (i + 1) < ws.length - i; omega,i + 1,_,_,by omega,rfl,⟨rfl,rfl,rfl,rfl,trivial⟩,hN3,by omega,by simp only [nil_append,length_append,length_take,length_drop,length_singleton]; omega,by
   rw [nil_append];exact kS_mem (kS_mem (fun s hs => h100 s (mem_of_mem_take hs)) (fun s hs => by rw [mem_singleton] at hs; subst hs; exact hw)) (fun s hs => h100 s (mem_of_mem_drop hs))⟩
 clear hN hn1;rintro tm bx n1 l1 ⟨p,ss,ht,hN,hp,hl1,h100⟩;obtain ⟨tm2,rfl⟩:=zac ht;simp only at hN;clear ht tm1;have hn1:=hN.n2 hn;refine zan (fun st => ∃ (p:Nat) (ss:List (L8)),has st.tm [(7,.d (.sl p (pSr ss)))] /\ st.nt = n1 /\ st.live = l1 /\ ss.length <= 100 /\ ∀ s ∈ ss,s.length <= 100) ?_ ?_
 ·refine mQ ?_
  refine zav (n:=ss.length) rfl rfl (zaP _) ?_;refine mS ?_;by_cases h:(ss.length:Int) > lim
  ·refine zah rfl rfl (decide_eq_true h) ?_
   (iterate 2 refine mS ?_);refine zah rfl rfl (decide_eq_true hlim.1) ?_;refine mT ?_;refine zaf ?_;(iterate 2 refine mS ?_);obtain ⟨lm,rfl⟩:∃ lm:Nat,lim = lm:=⟨lim.toNat,by omega⟩;refine zdm (es:=pSr ss) (l:=0) (h:=lm) (rs:=pSr (ss.take lm)) rfl rfl rfl (zaD (i:=(lm:Int)) rfl rfl) ⟨Nat.zero_le _,by rw [zaP]; omega⟩ (za4 _) (by simp [pSr,map_take]) ?_;refine mN ?_;exact ⟨0,ss.take lm,⟨rfl,trivial⟩,rfl,rfl,by rw [length_take]; omega,fun s hs => h100 s (mem_of_mem_take hs)⟩
  ·refine zal rfl rfl (decide_eq_false h) ?_
   refine mS ?_;refine mZ ?_;refine mK ?_;exact ⟨p,ss,⟨rfl,trivial⟩,rfl,rfl,by omega,h100⟩
 clear h100 hl1;rintro tm bx n2 l2 ⟨p2,s2,ht,hn2,hl2,hl3,h100⟩;obtain ⟨tm3,rfl⟩:=zac ht;simp only at hn2 hl2; subst hn2; subst hl2
 clear ht tm2;refine mO ?_;refine zaq (es:=[]) rfl ?_;refine mS ?_;refine zaQ (t:=n2) (t':=p2) (es:=pSr []) (ds:=pSr s2) rfl rfl (.inr (mem_cons_self ..)) (by rw [zaP,zaP,length_nil]; omega) (za4 _) (za4 _) ?_;have hN1:=NR.appS (s2:=s2) hn (NR.litS (ss:=[]) hn hN.forget) hn1;rw [<- zbZ];refine mN ?_;exact zae ⟨.inr rfl,[.d (.sl (n2 + 1) (pSr ([] ++ s2)))],rfl,(hN1.lw (k:=0)).1,n2 + 1,s2,rfl,by omega,hN1,hl3,h100⟩
theorem ze9 (L:List Int):(iC L).length = L.length:=by simp [iC]
theorem iC_app (a b:List Int):iC (a ++ b) = iC a ++ iC b:=by simp [iC]
theorem zdV (L:List Int):∀ e ∈ iC L,e.length = 1:=fun e he => by
 simp only [iC,mem_map] at he;obtain ⟨s,_,rfl⟩:=he; rfl
theorem iC_get {L:List Int} {i:Nat} (h:i < L.length):(iC L)[i]? = some [pI L[i]]:=by simp [iC,getElem?_eq_getElem h]
theorem erk_take {rows:LP PC} {ks:List V} (h:erLL rows = vK ks) (i:Nat):erLL (rows.take i) = vK (ks.take i):=by
 rw [zaO,map_take,<- zaO,h]; simp [vK,map_take]
theorem erk_drop {rows:LP PC} {ks:List V} (h:erLL rows = vK ks) (i:Nat):erLL (rows.drop i) = vK (ks.drop i):=by
 rw [zaO,map_drop,<- zaO,h]; simp [vK,map_drop]
theorem cmp_arg {a b:List PC} {v w:V} (ha:erL a = vC v) (hb:erL b = vC w):PV.dats [.ag a,.ag b] = some [.ag (vC v),.ag (vC w)]:=by
 show some [PV.ag (erL a),PV.ag (erL b)] = _;rw [ha,hb]
theorem tag_arg {a:List PC} {v:V} (p q:Int) (ha:erL a = vC v):PV.dats [.ag a,.d (pI p),.d (pI q)] = some [.ag (vC v),.d (pI p),.d (pI q)]:=by
 show some [PV.ag (erL a),PV.d (pI p),PV.d (pI q)] = _;rw [ha]
def BuI1 (B0 nt:Nat) (live:List Nat) (t:Nat) (rows:LP PC) (ks:List V) (lim:Int) (m:Nat) (st:St):Prop :=
 ∃ (i q:Nat) (out:LP PC) (ps:List V),i <= ks.length /\ m = ks.length - i /\ has st.tm [(0,.d (.sl t rows)),(1,.d (pI lim)),(5,.d (.sl q out)),(6,.d (pI i))] /\ NR nt live st.nt st.live [.sl q []] /\ 2 <= q /\ erLL out = vK ps /\ ps.length <= V.nodess (ks.take i) /\ ∀ x ∈ ps,Gd B0 x
theorem build_head {B0:Nat} (hB0:B0 <= 1000000) (ks:List V) (hg:∀ v ∈ ks,Gd B0 v) (_hb:V.nodess ks <= 1000000) {rows:LP PC} (_t:Nat) (he:erLL rows = vK ks) (i:Nat) (hia:i < ks.length) :
  ∃ te re,rows[i]? = some (vcs ks[i].kind ks[i].num ks[i].exp ks[i].text te re) /\ erL (vcs ks[i].kind ks[i].num ks[i].exp ks[i].text te re) = vC ks[i] /\ Gd B0 ks[i] /\ ks[i].nodes <= 1000001 /\ 36 * ks[i].nodes + ks[i].bulk <= 2147483647:=by
 obtain ⟨e,hge,hee⟩:=zc1 he hia;obtain ⟨te,re,hse,hre⟩:=zdF hee;rw [hse] at hge hee;have h:=hg _ (getElem_mem hia);have h1:=h.nodes;have h2:=h.bulk;exact ⟨te,re,hge,hee,h,by omega,by omega⟩
def BuI2 (B0 nt:Nat) (live:List Nat) (lim:Int) (q:Nat) (out:LP PC) (n:Nat) (m:Nat) (st:St):Prop :=
 ∃ (i p r:Nat) (o2:LP PC) (ss:List V) (ns:List Int),i <= n /\ m = n - i /\ has st.tm [(1,.d (pI lim)),(5,.d (.sl q out)),(7,.d (.sl p o2)),(8,.d (.sl r (iC ns))),(9,.d (pI i))] /\ NR nt live st.nt st.live [] /\ erLL o2 = vK ss /\ ns.length = ss.length /\ ss.length <= i /\ ∀ x ∈ ss,Gd B0 x
def BuI3 (lim:Int) (q p r i:Nat) (out o2:LP PC) (ns:List Int) (w:Int) (k n1:Nat) (l1:List Nat) (m:Nat) (st:St):Prop :=
 ∃ a:Nat,a <= k /\ m = a /\ has st.tm [(1,.d (pI lim)),(5,.d (.sl q out)),(7,.d (.sl p o2)),(8,.d (.sl r (iC ns))),(9,.d (pI i)),(10,.d (pI w)),(11,.d (pI a))] /\ st.nt = n1 /\ st.live = l1
theorem NR.three {nt n:Nat} {live l:List Nat} (hn:2 <= nt) (h:NR nt live n l []):NR nt live (n + 1 + 1 + 1 + 1) ((n + 1 + 1 + 1) :: ((n + 1 + 1) :: ((n + 1) :: (n :: l).filter (· != n)).filter (· != n + 1)).filter (· != n + 1 + 1)) []:=by
 have h2:=h.n2 hn;have h0:NR nt live (n + 1) (n :: l) [.sl n []]:=NR.lit (es:=[]) hn h;have h1:=NR.appE hn h0 h2;have h3:=NR.appE hn h1 (by omega);have h4:=NR.appE hn h3 (by omega);exact h4.forget
theorem NR.appR {nt n t q:Nat} {live l:List Nat} {ds:LP PC} (h2:2 <= nt) (ht:2 <= t) (hq:2 <= q) (h:NR nt live n l [.sl t [],.sl q ds]):NR nt live (n + 1) (n :: l.filter (· != t)) [.sl n ds]:=by
 have ho:=h.own
 have e:NR nt live n l (.sl t [] :: ds.flatten):=by
  refine h.sub ?_ ?_
  ·simp only [ownedL,zbl hq,zb4,Bool.and_true] at ho ⊢
   exact ho
  ·simp only [toksL,zaF hq,zbX,append_nil]
   exact (Sublist.refl _).append (List.sublist_cons_self _ _)
 have:=NR.app (a:=[]) (b:=[]) (rows:=[]) (ds:=ds) h2 (.inr ht) (by simpa using e)
 simpa using this
theorem zgX {B:Nat}:∀ {ks:List V},(∀ x ∈ ks,Gd B x) -> V.nodess ks <= (B + 1) * ks.length
 | [],_ => by simp [V.nodess]
 | v :: ks,h => by
  have h1:=(h v (mem_cons_self ..)).nodes;have h2:=zgX (ks:=ks) fun x hx => h x (mem_cons_of_mem _ hx)
  rw [V.nodess,length_cons,Nat.mul_succ]; omega
theorem build_g {B0:Nat} (hB0:B0 <= 1000000) (ks:List V) (hg:∀ v ∈ ks,Gd B0 v) (hb:V.nodess ks <= 1000000) {rows:LP PC} (t:Nat) (he:erLL rows = vK ks) (lim:Int) (hlim:0 <= lim /\ lim <= 60) {bx:LP PC} {nt:Nat} (live:List Nat) (hn:2 <= nt) :
  FnG (env T hT) 71 [.d (.sl t rows),.d (pI lim)] bx nt live (fun x b n l => b = bx /\ ∃ ks,CaR nt live ks x n l /\ ks.length <= 60 /\ ∀ x ∈ ks,Gd B0 x):=by
 refine FnG.lift0 (args:=[.d (.sl t rows),.d (pI lim)]) (R:=fun x n l => ∃ ks,CaR nt live ks x n l /\ ks.length <= 60 /\ ∀ x ∈ ks,Gd B0 x) ?_ ⟨slw t he,trivial,trivial⟩;have hkn:=V.kids_nodes ks;have hrl:=za9 he;refine zaG (zaj lk_s_Build) (by show 2 <= 148; decide) fun B hB => ?_
 unfold m_s_Build;refine mP ?_;refine mO ?_;refine zaq (es:=[]) rfl ?_;refine mN ?_;refine zan (fun st => ∃ (q:Nat) (out:LP PC) (ps:List V),has st.tm [(1,.d (pI lim)),(5,.d (.sl q out))] /\ NR nt live st.nt st.live [] /\ erLL out = vK ps /\ ps.length <= 1000000 /\ ∀ x ∈ ps,Gd B0 x) ?_ ?_
 ·refine mP ?_
  refine zab ?_;refine zas (BuI1 B0 nt live t rows ks lim) ks.length ⟨0,nt,[],[],Nat.zero_le _,rfl,⟨rfl,rfl,rfl,rfl,trivial⟩,NR.lit (es:=[]) hn (NR.refl nt live),hn,rfl,Nat.zero_le _,by simp⟩ ?_;rintro m tm bx n1 l1 ⟨i,q,out,ps,hi,rfl,ht,hN,hq,ho,hl,hgs⟩;obtain ⟨tm1,rfl⟩:=zac ht;simp only at hN;clear ht;have htl:=zbt ks i;refine mM ?_;(iterate 2 refine mS ?_);refine zav (n:=ks.length) rfl rfl hrl ?_;refine po_b rfl rfl (fun b hb => ?_);refine zaa ?_;refine zaZ (p:=(i:Int) < ks.length) hb rfl (fun him _ => ?_) (fun him _ => ?_)
  rotate_left
  ·refine zat ?_
   exact ⟨q,out,ps,⟨rfl,rfl,trivial⟩,hN.forget,ho,by omega,hgs⟩
  have hia:i < ks.length:=by omega
  have hsn:=zco hia;have htl1:=zbt ks (i + 1);have hnp:=(ks[i]).nodes_pos;obtain ⟨te,re,hge,hee,hgd,hnd,h36⟩:=build_head hB0 ks hg (by omega) t he i hia;have hol:=za9 ho;have hn1:=hN.n2 hn;refine zai ?_;refine zak (zab ?_);refine zan (fun st => has st.tm [(0,.d (.sl t rows)),(1,.d (pI lim)),(5,.d (.sl q out)),(6,.d (pI i))] /\ st.nt = n1 /\ st.live = l1) ?_ ?_
  ·refine mO ?_
   (iterate 2 refine mS ?_);refine zaH (es:=rows) (e:=vcs ks[i].kind ks[i].num ks[i].exp ks[i].text te re) rfl rfl rfl ⟨by omega,by rw [Int.toNat_natCast]; exact hge⟩ rfl ?_;refine mS ?_;refine zad (datsE hee) (cfits_fn (T:=T) (hT:=hT) ks[i] hgd.wf (by have:=hgd.bulk; omega)) ?_
   cases hc:ks[i].cfits with
   | false =>
    (iterate 2 refine mS ?_);refine mZ ?_;refine mT ?_;refine mO ?_;refine zaq (es:=[]) rfl ?_;refine mN ?_;have hNe:=NR.lit (es:=[]) hn hN.forget
    exact zae ⟨.inr rfl,[.d (.sl n1 [])],rfl,(hNe.lw (k:=0)).1,[],⟨n1,[],rfl,hn1,hNe,rfl⟩,by simp,by simp⟩
   | true =>
    (iterate 4 refine mS ?_);refine zaH (es:=rows) (e:=vcs ks[i].kind ks[i].num ks[i].exp ks[i].text te re) rfl rfl rfl ⟨by omega,by rw [Int.toNat_natCast]; exact hge⟩ rfl ?_;refine mS ?_;refine zaC (b:=true) rfl (fun _ => tag_arg 6 6 hee) (fun _ => tag_fn (T:=T) (hT:=hT) 6 6 ks[i] (by omega)) ?_
    cases ht6:ks[i].tagB 6 6 with
    | true =>
     refine mT ?_;refine mO ?_;refine zaq (es:=[]) rfl ?_;refine mN ?_;have hNe:=NR.lit (es:=[]) hn hN.forget
     exact zae ⟨.inr rfl,[.d (.sl n1 [])],rfl,(hNe.lw (k:=0)).1,[],⟨n1,[],rfl,hn1,hNe,rfl⟩,by simp,by simp⟩
    | false =>
     refine mK ?_;exact ⟨⟨rfl,rfl,rfl,rfl,trivial⟩,rfl,rfl⟩
  rintro tm bx n0 l0 ⟨ht,hn0,hl0⟩;obtain ⟨tm2,rfl⟩:=zac ht;simp only at hn0 hl0; subst hn0; subst hl0
  clear ht tm1;refine zaf ?_;(iterate 3 refine mS ?_);refine zaH (es:=rows) (e:=vcs ks[i].kind ks[i].num ks[i].exp ks[i].text te re) rfl rfl rfl ⟨by omega,by rw [Int.toNat_natCast]; exact hge⟩ rfl ?_;refine mS ?_;refine po_g rfl (parts_g (T:=T) (hT:=hT) ks[i] (by omega) hgd hee l0 hn1) ?_;rintro x b' n2 l2 ⟨rfl,q2,o2,k2,rfl,hq2,hN2,he2,hl2,hg2⟩;have hqm:=hN.mem q (zcE hq);have h2l:=za9 he2;refine zaQ (t:=q) (t':=q2) (es:=out) (ds:=o2) rfl rfl (.inr (hN2.keep q hqm.2.2 hq hqm.2.1)) (by omega) (zbh he2) (zbh ho) ?_;refine mN ?_;refine zaf ?_;refine mS ?_;refine zam (n:=((i + 1:Nat):Int)) rfl rfl rfl (by omega) (by omega) ?_;refine mN ?_;exact ⟨_,by show ks.length - (i + 1) < ks.length - i; omega,i + 1,n2,out ++ o2,ps ++ k2,by omega,rfl,⟨rfl,rfl,rfl,rfl,trivial⟩,NR.appE hn (hN.pass hN2.forget) hq,by have:=hN2.le; omega,zca ho he2,by rw [length_append]; omega,fun x hx => (mem_append.1 hx).elim (hgs x) (hg2 x)⟩
 rintro tm bx n1 l1 ⟨q,out,ps,ht,hN,ho,hl,hgs⟩;obtain ⟨tm1,rfl⟩:=zac ht;simp only at hN;clear ht;have hol:=za9 ho;refine mO ?_;refine zaq (es:=[]) rfl ?_;refine mN ?_;refine mO ?_;refine zaq (es:=[]) rfl ?_;refine mN ?_;refine zan (fun st => ∃ (p:Nat) (o2:LP PC) (ss:List V),has st.tm [(1,.d (pI lim)),(7,.d (.sl p o2))] /\ NR nt live st.nt st.live [] /\ erLL o2 = vK ss /\ ss.length <= 1000000 /\ ∀ x ∈ ss,Gd B0 x) ?_ ?_
 ·refine mP ?_
  refine zab ?_;refine zas (BuI2 B0 nt live lim q out ps.length) ps.length ⟨0,n1,n1 + 1,[],[],[],Nat.zero_le _,rfl,⟨rfl,rfl,rfl,rfl,rfl,trivial⟩,hN.up.up,rfl,rfl,Nat.zero_le _,by simp⟩ ?_;clear hN;rintro m tm bx n1 l1 ⟨i,p,r,o2,ss,ns,hi,rfl,ht,hN,ho2,hns,hsi,hg2⟩;obtain ⟨tm2,rfl⟩:=zac ht;simp only at hN;clear ht tm1;have hn1:=hN.n2 hn;have h2l:=za9 ho2;refine mM ?_;(iterate 2 refine mS ?_);refine zav (n:=ps.length) rfl rfl hol ?_;by_cases hia:i < ps.length
  case neg =>
   refine zal rfl rfl (decide_eq_false (by omega)) ?_;refine mS ?_;refine mZ ?_;refine mF ?_;refine zat ?_;exact ⟨p,o2,ss,⟨rfl,rfl,trivial⟩,hN,ho2,by omega,hg2⟩
  refine zah rfl rfl (decide_eq_true (by omega)) ?_;(iterate 2 refine mS ?_);refine zaC (args:=[.d (pI lim),.d (pI 0),.d (pI 60)]) (b:=true) rfl (fun _ => rfl) (fun _ => zet (T:=T) (hT:=hT) lim 0 60) ?_;rw [decide_eq_true hlim];refine mT ?_;refine zai ?_;obtain ⟨e,hge,hee⟩:=zc1 ho hia;have hgd:=hgs _ (getElem_mem hia);have hnd:=hgd.nodes;have hbk:=hgd.bulk;generalize ps[i] = u at hee hgd hnd hbk;obtain ⟨te,re,hse,hre⟩:=zdF hee;rw [hse] at hge hee;refine zak (zab ?_);refine mO ?_;(iterate 3 refine mS ?_);refine zaH (es:=out) (e:=vcs u.kind u.num u.exp u.text te re) rfl rfl rfl ⟨by omega,by rw [Int.toNat_natCast]; exact hge⟩ rfl ?_;refine mS ?_;refine zad (zfV q ho hee) (wrth_fn (T:=T) (hT:=hT) ps u hl (fun x hx => by have:=(hgs x hx).nodes; omega) hgd.wf (by omega)) ?_;refine mN ?_;generalize wrth ps u = w;refine zan (fun st => has st.tm [(1,.d (pI lim)),(5,.d (.sl q out)),(7,.d (.sl p o2)),(8,.d (.sl r (iC ns))),(9,.d (pI i)),(10,.d (pI w))] /\ st.nt = n1 /\ st.live = l1) ?_ ?_
  ·refine mQ ?_
   refine po_b rfl rfl (fun z hz => ?_)
   cases z with
   | true =>
    refine mS ?_;refine mZ ?_;refine mT ?_;refine zat ?_;refine zaf ?_;refine mS ?_;refine zam (n:=((i + 1:Nat):Int)) rfl rfl rfl (by omega) (by omega) ?_;refine mN ?_
    exact ⟨_,by show ps.length - (i + 1) < ps.length - i; omega,i + 1,p,r,o2,ss,ns,by omega,rfl,⟨rfl,rfl,rfl,rfl,rfl,trivial⟩,hN,ho2,hns,by omega,hg2⟩
   | false =>
    (iterate 4 refine mS ?_);refine zaH (es:=out) (e:=vcs u.kind u.num u.exp u.text te re) rfl rfl rfl ⟨by omega,by rw [Int.toNat_natCast]; exact hge⟩ rfl ?_;refine mS ?_;refine zaC (b:=true) rfl (fun _ => zfV p ho2 hee) (fun _ => oftV_fn (T:=T) (hT:=hT) ss u (by omega) (fun x hx => by have:=(hg2 x hx).nodes; omega)) ?_;refine po_b rfl rfl (fun z2 hz2 => ?_)
    cases z2 with
    | true =>
     refine mT ?_;refine zat ?_;refine zaf ?_;refine mS ?_;refine zam (n:=((i + 1:Nat):Int)) rfl rfl rfl (by omega) (by omega) ?_;refine mN ?_
     exact ⟨_,by show ps.length - (i + 1) < ps.length - i; omega,i + 1,p,r,o2,ss,ns,by omega,rfl,⟨rfl,rfl,rfl,rfl,rfl,trivial⟩,hN,ho2,hns,by omega,hg2⟩
    | false =>
     refine mK ?_;exact ⟨⟨rfl,rfl,rfl,rfl,rfl,rfl,trivial⟩,rfl,rfl⟩
  rintro tm bx n2 l2 ⟨ht,hn2,hl2⟩;obtain ⟨tm3,rfl⟩:=zac ht;simp only at hn2 hl2; subst hn2; subst hl2
  clear ht tm2;have hnl:(iC ns).length = ss.length:=by rw [ze9,hns]
  refine mQ ?_;refine zav (n:=ss.length) rfl rfl h2l ?_;refine mN ?_;refine zan (fun st => ∃ a:Nat,a <= ss.length /\ has st.tm [(1,.d (pI lim)),(5,.d (.sl q out)),(7,.d (.sl p o2)),(8,.d (.sl r (iC ns))),(9,.d (pI i)),(10,.d (pI w)),(11,.d (pI a))] /\ st.nt = n2 /\ st.live = l2) ?_ ?_
  ·refine zab ?_
   refine zas (BuI3 lim q p r i out o2 ns w ss.length n2 l2) ss.length ⟨ss.length,lR,rfl,⟨rfl,rfl,rfl,rfl,rfl,rfl,rfl,trivial⟩,rfl,rfl⟩ ?_;rintro m tm bx n3 l3 ⟨a,ha,rfl,ht,hn3,hl3⟩;obtain ⟨tm4,rfl⟩:=zac ht;simp only at hn3 hl3; subst hn3; subst hl3
   clear ht tm3;refine zan (fun st => has st.tm [(1,.d (pI lim)),(5,.d (.sl q out)),(7,.d (.sl p o2)),(8,.d (.sl r (iC ns))),(9,.d (pI i)),(10,.d (pI w)),(11,.d (pI m))] /\ st.nt = n3 /\ st.live = l3 /\ 0 < m) ?_ ?_
   ·refine mQ ?_
    by_cases h0:0 < m
    case neg =>
     refine zal rfl rfl (decide_eq_false (by omega)) ?_;refine mS ?_;refine mZ ?_;refine mF ?_;refine zat ?_;exact ⟨m,ha,⟨rfl,rfl,rfl,rfl,rfl,rfl,rfl,trivial⟩,rfl,rfl⟩
    obtain ⟨k,rfl⟩:∃ k,m = k + 1:=⟨m - 1,by omega⟩;have hks:k < ss.length:=by omega
    obtain ⟨z,hz⟩:∃ z,(iC ns)[k]? = some [pI z]:=⟨_,iC_get (by omega)⟩;obtain ⟨e2,hge2,hee2⟩:=zc1 ho2 hks;have hgk:=hg2 _ (getElem_mem hks);generalize ss[k] = y at hee2 hgk;obtain ⟨t3,r3,hse2,_⟩:=zdF hee2;rw [hse2] at hge2 hee2;refine zah rfl rfl (decide_eq_true (by omega)) ?_;(iterate 3 refine mS ?_);refine zaK (n:=(k:Int)) rfl rfl rfl (by omega) (by omega) ?_;refine zaH (es:=iC ns) (e:=[pI z]) rfl rfl rfl ⟨by omega,by rw [Int.toNat_natCast]; exact hz⟩ rfl ?_;(iterate 2 refine mS ?_);refine po_b rfl rfl (fun r1 hr1 => ?_)
    cases r1 with
    | true =>
     refine mS ?_;refine mZ ?_;refine mT ?_;refine zai ?_
     exact ⟨⟨rfl,rfl,rfl,rfl,rfl,rfl,rfl,trivial⟩,rfl,rfl,by omega⟩
    | false =>
     (iterate 3 refine mS ?_);refine zaK (n:=(k:Int)) rfl rfl rfl (by omega) (by omega) ?_;refine zaH (es:=iC ns) (e:=[pI z]) rfl rfl rfl ⟨by omega,by rw [Int.toNat_natCast]; exact hz⟩ rfl ?_;(iterate 2 refine mS ?_);refine po_b rfl rfl (fun r2 hr2 => ?_)
     cases r2 with
     | true =>
      (iterate 3 refine mS ?_);refine zaK (n:=(k:Int)) rfl rfl rfl (by omega) (by omega) ?_;refine zaH (es:=o2) (e:=vcs y.kind y.num y.exp y.text t3 r3) rfl rfl rfl ⟨by omega,by rw [Int.toNat_natCast]; exact hge2⟩ rfl ?_;(iterate 3 refine mS ?_);refine zaH (es:=out) (e:=vcs u.kind u.num u.exp u.text te re) rfl rfl rfl ⟨by omega,by rw [Int.toNat_natCast]; exact hge⟩ rfl ?_;refine mS ?_;refine zaC (b:=true) rfl (fun _ => cmp_arg hee2 hee) (fun _ => cmp_fn (T:=T) (hT:=hT) y u (by have:=hgk.nodes; omega)) ?_;refine po_b rfl rfl (fun r3' hr3 => ?_)
      cases r3' with
      | true =>
       refine mT ?_;refine zai ?_
       exact ⟨⟨rfl,rfl,rfl,rfl,rfl,rfl,rfl,trivial⟩,rfl,rfl,by omega⟩
      | false =>
       refine mF ?_;refine zat ?_
       exact ⟨k + 1,ha,⟨rfl,rfl,rfl,rfl,rfl,rfl,rfl,trivial⟩,rfl,rfl⟩
     | false =>
      refine mS ?_;refine mZ ?_;refine mF ?_;refine zat ?_;exact ⟨k + 1,ha,⟨rfl,rfl,rfl,rfl,rfl,rfl,rfl,trivial⟩,rfl,rfl⟩
   rintro tm bx n4 l4 ⟨ht,hn4,hl4,h0⟩;obtain ⟨tm5,rfl⟩:=zac ht;simp only at hn4 hl4; subst hn4; subst hl4
   clear ht tm4;refine zab (zaf ?_);refine mS ?_;refine zaK (n:=((m - 1:Nat):Int)) rfl rfl rfl (by omega) (by omega) ?_;refine mN ?_;exact ⟨_,by show m - 1 < m; omega,m - 1,by omega,rfl,⟨rfl,rfl,rfl,rfl,rfl,rfl,rfl,trivial⟩,rfl,rfl⟩
  rintro tm bx n3 l3 ⟨a,ha,ht,hn3,hl3⟩;obtain ⟨tm4,rfl⟩:=zac ht;simp only at hn3 hl3; subst hn3; subst hl3
  clear ht tm3;have hta:=erk_take ho2 a;have hda:=erk_drop ho2 a;have htl:(o2.take a).length <= ss.length:=by rw [za9 hta,length_take]; omega
  have hdl:(o2.drop a).length <= ss.length:=by rw [za9 hda,length_drop]; omega
  have h5:∀ e ∈ [vcs u.kind u.num u.exp u.text te re],e.length = 5:=fun e he => by rw [mem_singleton] at he; subst he; rfl
  refine mO ?_;(iterate 2 refine mS ?_);refine zdm (es:=o2) (l:=0) (h:=a) (rs:=o2.take a) rfl rfl rfl (zaD (i:=(a:Int)) rfl rfl) ⟨Nat.zero_le _,by omega⟩ (zbh ho2) (by simp) ?_;(iterate 2 refine mS ?_);refine zaH (es:=out) (e:=vcs u.kind u.num u.exp u.text te re) rfl rfl rfl ⟨by omega,by rw [Int.toNat_natCast]; exact hge⟩ rfl ?_;refine mS ?_;refine zdE (es:=[vcs u.kind u.num u.exp u.text te re]) rfl ?_;(iterate 2 refine mS ?_);refine zdm (es:=o2) (l:=a) (h:=o2.length) (rs:=o2.drop a) rfl rfl (zaD (i:=(a:Int)) rfl rfl) rfl ⟨by omega,lR⟩ (zbh ho2) (by rw [<- length_drop,take_length]) ?_;refine zaq (es:=[]) rfl ?_;refine zaQ (t:=n3) (t':=0) (es:=[]) (ds:=o2.take a) rfl rfl (.inr (mem_cons_self ..)) (by simp only [length_nil]; omega) (zbh hta) (by simp) ?_;refine zaQ (t:=n3 + 1) (t':=0) (es:=[] ++ o2.take a) (ds:=[vcs u.kind u.num u.exp u.text te re]) rfl rfl (.inr (mem_cons_self ..)) (by simp only [nil_append,length_singleton]; omega) h5 (zbh hta) ?_
  refine zaQ (t:=n3 + 1 + 1) (t':=0) (es:=[] ++ o2.take a ++ [vcs u.kind u.num u.exp u.text te re]) (ds:=o2.drop a) rfl rfl (.inr (mem_cons_self ..)) (by simp only [nil_append,length_append,length_singleton]; omega) (zbh hda) (fun e he => (mem_append.1 he).elim (zbh hta e) (h5 e)) ?_;refine mN ?_;have hN1:=NR.three hn hN;have hr1:=zca (zca (zca (show erLL ([]:LP PC) = vK [] from rfl) hta) (zcD hee)) hda;have hl1:(([] ++ ss.take a ++ [u] ++ ss.drop a:List V)).length = ss.length + 1:=by simp only [nil_append,length_append,length_take,length_drop,length_singleton]; omega
  have hg3:∀ x ∈ ([] ++ ss.take a ++ [u] ++ ss.drop a:List V),Gd B0 x:=fun x hx => by
   rw [nil_append] at hx
   rcases mem_append.1 hx with hx | hx
   ·rcases mem_append.1 hx with hx | hx
    ·exact hg2 x (mem_of_mem_take hx)
    ·rw [mem_singleton] at hx; subst hx; exact hgd
   ·exact hg2 x (mem_of_mem_drop hx)
  revert hN1 hr1 hl1 hg3
  generalize [] ++ o2.take a ++ [vcs u.kind u.num u.exp u.text te re] ++ o2.drop a = o4;generalize ([] ++ ss.take a ++ [u] ++ ss.drop a:List V) = s4;generalize (n3 + 1 + 1 + 1) :: ((n3 + 1 + 1) :: ((n3 + 1) :: (n3 :: l3).filter (· != n3)).filter (· != n3 + 1)).filter (· != n3 + 1 + 1) = l4;intro hN1 hr1 hl1 hg3;have hta2:((iC ns).take a).length <= ss.length:=by rw [length_take]; omega
  have hda2:((iC ns).drop a).length <= ss.length:=by rw [length_drop]; omega
  have hia1:(iC (ns.take a)).length <= ss.length:=by rw [ze9,length_take]; omega
  have hid1:(iC (ns.drop a)).length <= ss.length:=by rw [ze9,length_drop]; omega
  refine zaf ?_;(iterate 2 refine mS ?_);refine zdm (es:=iC ns) (l:=0) (h:=a) (rs:=iC (ns.take a)) rfl rfl rfl (zaD (i:=(a:Int)) rfl rfl) ⟨Nat.zero_le _,by omega⟩ (zdV _) (by simp [iC,map_take]) ?_;refine mS ?_;refine zdE (es:=iC [w]) rfl ?_;(iterate 2 refine mS ?_);refine zdm (es:=iC ns) (l:=a) (h:=(iC ns).length) (rs:=iC (ns.drop a)) rfl rfl (zaD (i:=(a:Int)) rfl rfl) rfl ⟨by omega,lR⟩ (zdV _) (by rw [<- length_drop,take_length]; simp [iC,map_drop]) ?_;refine zaq (es:=[]) rfl ?_;refine zaQ (t:=n3 + 1 + 1 + 1 + 1) (t':=0) (es:=iC []) (ds:=iC (ns.take a)) rfl rfl (.inr (mem_cons_self ..)) (by rw [ze9,length_nil]; omega) (zdV _) (zdV _) ?_;rw [<- iC_app];refine zaQ (t:=n3 + 1 + 1 + 1 + 1 + 1) (t':=0) (es:=iC ([] ++ ns.take a)) (ds:=iC [w]) rfl rfl (.inr (mem_cons_self ..)) (by rw [nil_append,ze9 [w],length_singleton]; omega) (zdV _) (zdV _) ?_
  rw [<- iC_app];refine zaQ (t:=n3 + 1 + 1 + 1 + 1 + 1 + 1) (t':=0) (es:=iC ([] ++ ns.take a ++ [w])) (ds:=iC (ns.drop a)) rfl rfl (.inr (mem_cons_self ..)) (by rw [nil_append,iC_app,length_append,ze9 [w],length_singleton]; omega) (zdV _) (zdV _) ?_;rw [<- iC_app];refine mN ?_;have hN2:=NR.three hn hN1;refine zaf ?_;refine mS ?_;refine zam (n:=((i + 1:Nat):Int)) rfl rfl rfl (by omega) (by omega) ?_;refine mN ?_;exact ⟨_,by show ps.length - (i + 1) < ps.length - i; omega,i + 1,_,_,o4,s4,[] ++ ns.take a ++ [w] ++ ns.drop a,by omega,rfl,⟨rfl,rfl,rfl,rfl,rfl,trivial⟩,hN2,hr1,by simp only [nil_append,length_append,length_take,length_drop,length_singleton]; omega,by omega,hg3⟩
 clear hN;rintro tm bx n1 l1 ⟨p,o2,ss,ht,hN,ho2,hsl,hg2⟩;obtain ⟨tm2,rfl⟩:=zac ht;simp only at hN;clear ht tm1;have hn1:=hN.n2 hn;refine zan (fun st => ∃ (p:Nat) (o3:LP PC) (s3:List V),has st.tm [(7,.d (.sl p o3))] /\ st.nt = n1 /\ st.live = l1 /\ erLL o3 = vK s3 /\ s3.length <= 60 /\ ∀ x ∈ s3,Gd B0 x) ?_ ?_
 ·have h2l:=za9 ho2
  refine mQ ?_;refine zav (n:=ss.length) rfl rfl h2l ?_;refine mS ?_;by_cases h:(ss.length:Int) > lim
  ·refine zah rfl rfl (decide_eq_true h) ?_
   (iterate 2 refine mS ?_);refine zah rfl rfl (decide_eq_true hlim.1) ?_;refine mT ?_;refine zaf ?_;(iterate 2 refine mS ?_);obtain ⟨lm,rfl⟩:∃ lm:Nat,lim = lm:=⟨lim.toNat,by omega⟩;refine zdm (es:=o2) (l:=0) (h:=lm) (rs:=o2.take lm) rfl rfl rfl (zaD (i:=(lm:Int)) rfl rfl) ⟨Nat.zero_le _,by omega⟩ (zbh ho2) (by simp) ?_;refine mN ?_;exact ⟨0,o2.take lm,ss.take lm,⟨rfl,trivial⟩,rfl,rfl,erk_take ho2 lm,by rw [length_take]; omega,fun x hx => hg2 x (mem_of_mem_take hx)⟩
  ·refine zal rfl rfl (decide_eq_false h) ?_
   refine mS ?_;refine mZ ?_;refine mK ?_;exact ⟨p,o2,ss,⟨rfl,trivial⟩,rfl,rfl,ho2,by omega,hg2⟩
 clear ho2 hsl hg2;rintro tm bx n2 l2 ⟨p3,o3,s3,ht,hn2,hl2,ho3,hs3,hg3⟩;obtain ⟨tm3,rfl⟩:=zac ht;simp only at hn2 hl2; subst hn2; subst hl2
 clear ht tm2;have hnd:=zgX hg3;have h60:(B0 + 1) * s3.length <= (B0 + 1) * 60:=Nat.mul_le_mul_left _ hs3;refine mO ?_;refine zaq (es:=[]) rfl ?_;refine mS ?_;have hNl:=NR.lit (es:=[]) hn hN;refine po_g rfl (cpyAll_g (T:=T) (hT:=hT) s3 p3 (by omega) ho3 (n2 :: l2) (by omega)) ?_;rintro x b' n3 l3 ⟨rfl,q5,o5,rfl,hq5,hN5,he5⟩;have h5l:=za9 he5;refine zaQ (t:=n2) (t':=q5) (es:=[]) (ds:=o5) rfl rfl (.inr (hN5.keep n2 (mem_cons_self ..) hn1 (by omega))) (by simp only [length_nil]; omega) (zbh he5) (by simp) ?_;refine mN ?_;have hF:=NR.appR hn hn1 hq5 (hNl.trans hN5);exact zae ⟨.inr rfl,[.d (.sl n3 o5)],rfl,(hF.lw (k:=0)).1,s3,⟨n3,o5,rfl,by have:=hN5.le; omega,hF,he5⟩,hs3,hg3⟩
def refV (m:Int):V:=.mk 9 6 0 [] [.mk 3 m 0 [] []]
theorem refV_er (m:Int) (t:Nat):erL (vcs 9 6 0 [] t [vL 3 m 0 []]) = vC (refV m):=rfl
theorem refV_gd {m:Int} (hm:i64ok m):Gd 1 (refV m) :=
 (Kd.one (B:=0) (cs:=vL 3 m 0 []) (v:=.mk 3 m 0 [] []) zbJ (zbs (zap (by omega)) hm (zap (by omega)) lR (by decide))).gd (zap (by omega)) (zap (by omega)) (zap (by omega)) (fun h => by cases h) (by simp) (by decide) (by simp)
theorem zc2 {m:Int} (hm:i64ok m) (t:Nat):Kd 1 [vcs 9 6 0 [] t [vL 3 m 0 []]] [refV m]:=Kd.one (refV_er m t) (refV_gd hm)
theorem txt_kd {s:L8} {B:Nat} (hs:s.length <= B) (hB:B <= 1048576):Kd B [vL 5 0 0 s] [.mk 5 0 0 s []]:=Kd.one zbJ (zbs (zap (by omega)) (zap (by omega)) (zap (by omega)) hs hB)
theorem zhT {B:Nat} {rows:LP PC} {ks:List V} (h:Kd B rows ks) (hl:ks.length <= 1000) (t:Nat):Kd (ks.length + B) [vcs 7 0 0 [] t rows] [.mk 7 0 0 [] ks] :=
 Kd.one (zdU h 7 0 0 []) (h.gd (zap (by omega)) (zap (by omega)) (zap (by omega)) (fun h => by cases h) (by omega) (by decide) (by simp only [length_nil]; omega))
theorem Kd.mem {B:Nat} {rows:LP PC} {ks:List V} (h:Kd B rows ks):∀ x ∈ ks,Gd B x:=fun x hx => by
 obtain ⟨i,hi,rfl⟩:=List.getElem_of_mem hx;refine ⟨(V.wfs_all.1 h.wf) _ hx,(V.fews_all.1 h.few) _ hx,?_⟩;have h1:=h.bulk;have h2:=V.bulks_snoc ks i hi; have h3:=V.bulks_take ks (i + 1); omega
theorem NR.shal {nt n q:Nat} {live l:List Nat} {out:LP PC} (hq:2 <= q) (h:NR nt live n l [.sl q out]):NR nt live n l [.sl q []] :=
 h.sub (by simp only [ownedL,zbl hq,ownedLL,Bool.and_true]) (by simp only [toksL,zaF hq,toksLL,append_nil]; exact Sublist.cons_cons _ (nil_sublist _))
theorem dct_kd (t1 t2:Nat):Kd (12 + (2 + (1 + 0))) [vL 5 0 0 comV,vcs 7 0 0 [] t2 [vcs 9 6 0 [] t1 [vL 3 0 0 []],vL 3 1 0 []]] [.mk 5 0 0 comV [],.mk 7 0 0 [] [refV 0,.mk 3 1 0 [] []]] :=
 (txt_kd (s:=comV) (B:=12) (by decide) (by decide)).app (zhT ((zc2 (m:=0) (by unfold i64ok; omega) t1).app (Kd.one (B:=0) (cs:=vL 3 1 0 []) (v:=.mk 3 1 0 [] []) zbJ (zbs (zap (by omega)) (zap (by omega)) (zap (by omega)) lR (by decide)))) (by decide) t2)
def QTb:Nat -> List Nat -> PV -> Nat -> List Nat -> Prop:=fun nt live x n l => ∃ (q:Nat) (out:LP PC) (ks:List V),x = .d (.sl q out) /\ NR nt live n l [.sl q []] /\ 2 <= q /\ erLL out = vK ks /\ ks.length <= 70 /\ ∀ x ∈ ks,Gd 8100 x
def TabS (q:Nat) (out:LP PC) (ks:List V) (k:Nat):Prop:=2 <= q /\ erLL out = vK ks /\ ks.length <= k /\ ∀ x ∈ ks,Gd 8100 x
theorem TabS.app {q p:Nat} {out ds:LP PC} {ks ls:List V} {k j B:Nat} (h:TabS q out ks k) (hd:Kd B ds ls) (hB:B <= 8100) (hp:2 <= p) (hj:k + ls.length <= j):TabS p (out ++ ds) (ks ++ ls) j :=
 ⟨hp,zca h.2.1 hd.er,by rw [length_append]; have:=h.2.2.1; omega,fun x hx => (mem_append.1 hx).elim (h.2.2.2 x) fun hx => (hd.mem x hx).mono hB⟩
theorem TabS.lw {q:Nat} {out:LP PC} {ks:List V} {k:Nat} (h:TabS q out ks k):PV.lw 0 (.d (.sl q out)):=slw q h.2.1
def TabR (b:L8) (nt:Nat) (live:List Nat) (x:PV) (bx:LP PC) (n:Nat) (l:List Nat):Prop:=∃ c' rest,bx = c' :: rest /\ x.lw 0 /\ lwL 0 c' /\ Cu b c' /\ QTb nt live x n l
theorem tbR_of {b:L8} {nt n q k:Nat} {live l:List Nat} {c:List PC} {rest out:LP PC} {ks:List V} (hc:Cu b c) (hN:NR nt live n l [.sl q []]) (hs:TabS q out ks k) (hk:k <= 70):TabR b nt live (.d (.sl q out)) (c :: rest) n l :=
 ⟨c,rest,rfl,hs.lw,hc.lw,hc,q,out,ks,rfl,hN,hs.1,hs.2.1,by have:=hs.2.2.1; omega,hs.2.2.2⟩
def TabI (b:L8) (vc:List PC) (nt:Nat) (live:List Nat) (k:Nat) (st:St):Prop :=
 ∃ (c:List PC) (q:Nat) (out:LP PC) (ks:List V),Cu b c /\ has st.tm [(0,.ref 0 0),(4,.d (.sl q out))] /\ st.bx = [c,vc] /\ NR nt live st.nt st.live [.sl q []] /\ TabS q out ks k
def TabJ (vc c:List PC) (nt:Nat) (live:List Nat) (m:Nat) (st:St):Prop :=
 ∃ (i q:Nat) (out:LP PC) (ks:List V),i <= 8 /\ m = 8 - i /\ has st.tm [(0,.ref 0 0),(4,.d (.sl q out)),(5,.d (pI i))] /\ st.bx = [c,vc] /\ NR nt live st.nt st.live [.sl q []] /\ TabS q out ks (61 + i)
theorem tab_drw {b:L8} (hb:b.length <= 2147483647):Drw (env T hT) b 40 [] QTb:=by
 rintro c nt live hc hn;refine zaG (R:=TabR b nt live) (zaj zfw) (by show 1 <= 89; decide) fun B hB' => ?_
 unfold m_s_l12Table;refine mP ?_;refine mQ ?_;refine po_g rfl ((zgW (T:=T) (hT:=hT) hb).use trivial hc hn (p:=0) rfl) ?_;rintro x bx n1 l1 ⟨c1,rfl,hc1,cs,v,rfl,hN1,he,hg,hRT,hkl⟩;obtain ⟨t,rows,hcs,hr⟩:=zdF he;subst hcs;refine zbI (cs:=vcs v.kind v.num v.exp v.text t rows) rfl rfl rfl rfl ?_;refine mN ?_;have hN:=hN1.forget;clear hN1 hRT hkl hc;have hnv:=hg.nodes;refine zan (TabI b (vcs v.kind v.num v.exp v.text t rows) nt live 60) ?_ ?_
 ·refine zbq (show pt _ (TabI b (vcs v.kind v.num v.exp v.text t rows) nt live 60) _ _ from ?_)
  refine zao ?_;refine zaE (p:=1) (cs:=vcs v.kind v.num v.exp v.text t rows) rfl rfl rfl rfl ?_;refine zaE (p:=1) (cs:=vcs v.kind v.num v.exp v.text t rows) rfl rfl rfl rfl ?_;(iterate 2 refine mS ?_)
  repeat' (first
   | exact zay
   | refine zaA ?_ ?_
   | refine zaa ?_
   | refine zaz ?_
   | (refine zaR ?_; exact ⟨_,_,_,_,hc1,⟨rfl,rfl,trivial⟩,rfl,hN,hTb⟩)
   | refine zao ?_
   | (
      refine zfq rfl (cpy_g (T:=T) (hT:=hT) v (by omega) he _ (hN.n2 hn)) (fun x b' n l ⟨hb',_⟩ y hy => by subst hb'; exact zbP _ _ _) ?_
      rintro x b' n2 l2 ⟨rfl,cs1,rfl,hN2,he1,hR1⟩
      have hN:=hN.pass hN2.forget)
   | (
      refine zfq rfl ((zgW (T:=T) (hT:=hT) hb).use trivial hc1 (hN.n2 hn) (p:=0) rfl) (fun x b' n l ⟨c',hb',_⟩ y hy => by rw [mem_singleton] at hy; subst hy; subst hb'; exact ze8 rfl) ?_
      rintro x b' n2 l2 ⟨c2,rfl,hc1,cs2,v2,rfl,hN2,he2,hg2,hR2,hk2⟩
      have hN:=hN.pass hN2.forget)
   | (
      refine zaq (es:=[vcs v.kind v.num v.exp v.text t rows,cs1,cs2]) (litP3 rfl rfl rfl rfl (zbp he1) (zbp he2)) ?_
      have hN:=hN.up)
   | (
      refine zaq (es:=[[pI 60],[pI 3],[pI 1]]) rfl ?_
      have hN:=hN.up)
   | (
      refine zfq rfl ((zbY (T:=T) (hT:=hT) hb (fun r => decide (0 <= r) && decide (r <= 60)) rfl (by show 0 < 3; decide)).use ⟨by simp only [PV.lw,PC.lw]; exact zcC (p:=fun r => decide (0 <= r) && decide (r <= 60)) rfl,trivial⟩ hc1 (hN.n2 hn) (p:=0) rfl) (fun x b' n l ⟨c',hb',_⟩ y hy => by rw [mem_singleton] at hy; subst hy; subst hb'; exact ze8 rfl) ?_
      rintro x bx n3 l3 ⟨c3,rfl,hc1,lim,rfl,hv,hN3⟩;simp only [Bool.and_eq_true,decide_eq_true_eq] at hv
      have hN:=hN.pass hN3)
   | (
      refine po_g rfl (build_g (T:=T) (hT:=hT) (B0:=8100) (by decide) [v,v,v2] (fun x hx => by
       simp only [mem_cons,not_mem_nil,or_false] at hx
       rcases hx with rfl | rfl | rfl <;> assumption) (by have:=hg2.nodes; simp only [V.nodess]; omega) _ (zca (zcD he) (zca (zcD he1) (zcD he2))) lim hv _ (hN.n2 hn)) ?_
      rintro x b' n4 l4 ⟨rfl,kb,⟨q,out,rfl,hq,hN4,heo⟩,hlo,hgo⟩;have hN:=NR.shal hq (hN.trans hN4)
      have hTb:TabS q out kb 60:=⟨hq,heo,hlo,hgo⟩)
   | refine po_s rfl rfl rfl ?_)
 clear hN hc1;rintro tm bx n1 l1 ⟨c1,q,out,ks,hc1,ht,hbx,hN,hTb⟩;obtain ⟨tm1,rfl⟩:=zac ht;simp only at hbx hN; subst hbx
 clear ht;generalize vcs v.kind v.num v.exp v.text t rows = vc;clear he hg hr hnv;refine zan (TabI b vc nt live 61) ?_ ?_
 ·have hol:=za9 hTb.2.1
  have hk6:=hTb.2.2.1;refine mQ ?_;refine zav (n:=ks.length) rfl rfl hol ?_;by_cases h0:0 < ks.length
  case neg =>
   refine zal rfl rfl (decide_eq_false (by omega)) ?_;refine mS ?_;refine mZ ?_;refine mK ?_;exact ⟨c1,q,out,ks,hc1,⟨rfl,rfl,trivial⟩,rfl,hN,hTb.1,hTb.2.1,by omega,hTb.2.2.2⟩
  refine zah rfl rfl (decide_eq_true (by omega)) ?_;(iterate 2 refine mS ?_);refine po_gt rfl rfl ((zcn (T:=T) (hT:=hT) hb 2).use ⟨trivial,trivial⟩ hc1 (hN.n2 hn) (p:=0) rfl) ?_;rintro x bx n2 l2 ⟨c2,rfl,hc2,z,rfl,hN2⟩;have hN:=hN.pass hN2;refine mL ?_
  cases z with
  | false =>
   refine mwF ?_;refine zai ?_
   exact ⟨c2,q,out,ks,hc2,⟨rfl,rfl,trivial⟩,rfl,hN,hTb.1,hTb.2.1,by omega,hTb.2.2.2⟩
  | true =>
   refine mwT ?_;have hn2:=hN.n2 hn;have hqm:=(hN.mem q (zcE hTb.1)).2.2;refine zaf ?_;refine mS ?_;refine po_g rfl (zcF (T:=T) (hT:=hT) 0 hn2) ?_;rintro x b' n3 l3 ⟨hb3,rfl,rfl,rfl⟩;subst hb3;refine po_g rfl (zdn (T:=T) (hT:=hT) comV) ?_;rintro x b' n4 l4 ⟨hb4,rfl,hn4,hl4⟩
   subst hb4; subst hn4; subst hl4
   refine mS ?_;refine zav (n:=ks.length) rfl rfl hol ?_;refine zaK (n:=((ks.length - 1:Nat):Int)) rfl rfl rfl (by omega) (by omega) ?_;refine po_g rfl (zcF (T:=T) (hT:=hT) ((ks.length - 1:Nat):Int) (by omega)) ?_;rintro x b' n5 l5 ⟨hb5,rfl,rfl,rfl⟩;subst hb5;refine zaq (es:=[vcs 9 6 0 [] n2 [vL 3 0 0 []],vL 5 0 0 comV,vcs 9 6 0 [] (n2 + 1) [vL 3 ((ks.length - 1:Nat):Int) 0 []]]) (litP3 rfl rfl rfl rfl rfl rfl) ?_;refine po_s (v:=.ag (vcs 7 0 0 [] (n2 + 1 + 1) [vcs 9 6 0 [] n2 [vL 3 0 0 []],vL 5 0 0 comV,vcs 9 6 0 [] (n2 + 1) [vL 3 ((ks.length - 1:Nat):Int) 0 []]])) rfl rfl rfl ?_;have hKd:=zhT ((zc2 (m:=0) (by unfold i64ok; omega) n2).app ((txt_kd (s:=comV) (B:=12) (by decide) (by decide)).app (zc2 (m:=((ks.length - 1:Nat):Int)) (by unfold i64ok; omega) (n2 + 1)))) (by simp) (n2 + 1 + 1);refine zaq (es:=[vcs 7 0 0 [] (n2 + 1 + 1) [vcs 9 6 0 [] n2 [vL 3 0 0 []],vL 5 0 0 comV,vcs 9 6 0 [] (n2 + 1) [vL 3 ((ks.length - 1:Nat):Int) 0 []]]]) (zgT rfl rfl) ?_
   refine zaQ (t:=q) (t':=n2 + 1 + 1 + 1) (es:=out) (ds:=[vcs 7 0 0 [] (n2 + 1 + 1) [vcs 9 6 0 [] n2 [vL 3 0 0 []],vL 5 0 0 comV,vcs 9 6 0 [] (n2 + 1) [vL 3 ((ks.length - 1:Nat):Int) 0 []]]]) rfl rfl (.inr (mem_cons_of_mem _ (mem_cons_of_mem _ (mem_cons_of_mem _ (mem_cons_of_mem _ hqm))))) (by simp only [length_singleton]; omega) (fun e he => by rw [mem_singleton] at he; subst he; rfl) (zbh hTb.2.1) ?_;refine mN ?_;exact ⟨c2,_,_,_,hc2,⟨rfl,rfl,trivial⟩,rfl,NR.appE hn hN.up.up.up.up hTb.1,hTb.app hKd (by simp) (by omega) (by simp)⟩
 clear hN hc1 hTb;rintro tm bx n1 l1 ⟨c1,q,out,ks,hc1,ht,hbx,hN,hTb⟩;obtain ⟨tm2,rfl⟩:=zac ht;simp only at hbx hN; subst hbx
 clear ht tm1;refine zan (TabI b vc nt live 69) ?_ ?_
 ·refine mQ ?_
  refine po_g rfl ((za6 (T:=T) (hT:=hT) hb 12).use ⟨trivial,trivial⟩ hc1 (hN.n2 hn) (p:=0) rfl) ?_;rintro x bx n5 l5 ⟨c5,rfl,hc5,r,rfl,r0,r1,hN5⟩;have hN:=hN.pass hN5;have hn5:=hN.n2 hn;have hol:=za9 hTb.2.1;have hk6:=hTb.2.2.1;have hqm:=(hN.mem q (zcE hTb.1)).2.2;refine zaa ?_;refine zab ?_;refine mO ?_;by_cases k0:r = 0
  ·refine zah rfl rfl (beq_iff_eq.2 k0) ?_
   refine mT ?_;refine mO ?_;(iterate 2 refine mS ?_);refine zav (n:=ks.length) rfl rfl hol ?_;refine mS ?_;refine po_g rfl ((za6 (T:=T) (hT:=hT) hb 2).use ⟨trivial,trivial⟩ hc5 hn5 (p:=0) rfl) ?_;rintro x bx n6 l6 ⟨c6,rfl,hc6,r2,rfl,r20,r21,hN6⟩;have hN:=hN.pass hN6;have hqm:=(hN.mem q (zcE hTb.1)).2.2;have hn6:=hN.n2 hn;refine zam (n:=ks.length + r2) rfl rfl rfl (by omega) (by omega) ?_;refine po_g rfl (zcF (T:=T) (hT:=hT) (ks.length + r2) hn6) ?_;rintro x b' n7 l7 ⟨hb7,rfl,rfl,rfl⟩;subst hb7;refine zaq (es:=[vcs 9 6 0 [] n6 [vL 3 (ks.length + r2) 0 []]]) (zgT rfl rfl) ?_;refine zaQ (t:=q) (t':=n6 + 1) (es:=out) (ds:=[vcs 9 6 0 [] n6 [vL 3 (ks.length + r2) 0 []]]) rfl rfl (.inr (mem_cons_of_mem _ (mem_cons_of_mem _ hqm))) (by simp only [length_singleton]; omega) (fun e he => by rw [mem_singleton] at he; subst he; rfl) (zbh hTb.2.1) ?_
   refine mN ?_;exact zae ⟨.inr rfl,[.d (.sl (n6 + 1 + 1) (out ++ [vcs 9 6 0 [] n6 [vL 3 (ks.length + r2) 0 []]]))],rfl,tbR_of hc6 (NR.appE hn hN.up.up hTb.1) (hTb.app (j:=70) (zc2 (by unfold i64ok; omega) n6) (by decide) (by omega) (by simp)) (by decide)⟩
  refine zal rfl rfl (beq_eq_false_iff_ne.2 k0) ?_;refine mF ?_;refine mO ?_;by_cases k1:r = 1
  ·refine zah rfl rfl (beq_iff_eq.2 k1) ?_
   refine mT ?_;refine mQ ?_;refine po_g rfl (zdn (T:=T) (hT:=hT) [120]) ?_;rintro x b' n6 l6 ⟨hb6,rfl,hn6,hl6⟩
   subst hb6; subst hn6; subst hl6
   refine zaq (es:=[vL 5 0 0 [120]]) (zgT rfl rfl) ?_;refine po_s (v:=.ag (vcs 9 6 0 [] n6 [vL 5 0 0 [120]])) rfl rfl rfl ?_;refine zaq (es:=[vcs 9 6 0 [] n6 [vL 5 0 0 [120]]]) (zgT rfl rfl) ?_;have hKd:Kd 2 [vcs 9 6 0 [] n6 [vL 5 0 0 [120]]] [.mk 9 6 0 [] [.mk 5 0 0 [120] []]]:=Kd.one rfl ((txt_kd (s:=[120]) (B:=1) (by decide) (by decide)).gd (zap (by omega)) (zap (by omega)) (zap (by omega)) (fun h => by cases h) (by decide) (by decide) (by decide));refine zaQ (t:=q) (t':=n6 + 1) (es:=out) (ds:=[vcs 9 6 0 [] n6 [vL 5 0 0 [120]]]) rfl rfl (.inr (mem_cons_of_mem _ (mem_cons_of_mem _ hqm))) (by simp only [length_singleton]; omega) (fun e he => by rw [mem_singleton] at he; subst he; rfl) (zbh hTb.2.1) ?_;refine mN ?_;exact zae ⟨.inr rfl,[.d (.sl (n6 + 1 + 1) (out ++ [vcs 9 6 0 [] n6 [vL 5 0 0 [120]]]))],rfl,tbR_of hc5 (NR.appE hn hN.up.up hTb.1) (hTb.app (j:=70) hKd (by decide) (by omega) (by decide)) (by decide)⟩
  refine zal rfl rfl (beq_eq_false_iff_ne.2 k1) ?_;refine mF ?_;refine mO ?_;by_cases k2:r = 2
  ·refine zah rfl rfl (beq_iff_eq.2 k2) ?_
   refine mT ?_;refine mP ?_;refine zab ?_;refine zas (TabJ vc c5 nt live) 8 ⟨0,q,out,ks,by decide,rfl,⟨rfl,rfl,rfl,trivial⟩,rfl,hN,hTb⟩ ?_;clear hN hTb hqm hol hk6;rintro m tm bx n6 l6 ⟨i,q,out,ks,hi,rfl,ht,hbx,hN,hTb⟩;obtain ⟨tm3,rfl⟩:=zac ht;simp only at hbx hN; subst hbx
   clear ht tm2;refine mM ?_;refine mS ?_;refine po_b rfl rfl (fun p hp => ?_);refine zaa ?_;refine zaZ (p:=(i:Int) < 8) hp rfl (fun him _ => ?_) (fun him _ => ?_)
   rotate_left
   ·refine zat ?_
    exact ⟨c5,q,out,ks,hc5,⟨rfl,rfl,trivial⟩,rfl,hN,hTb.1,hTb.2.1,by have:=hTb.2.2.1; omega,hTb.2.2.2⟩
   have hol:=za9 hTb.2.1;have hk6:=hTb.2.2.1;have hn6:=hN.n2 hn;have hqm:=(hN.mem q (zcE hTb.1)).2.2;have hi64:i64ok ((ks.length:Int) - 1):=by unfold i64ok; omega
   refine zai ?_;refine zak (zab (zaf ?_));(iterate 2 refine mS ?_);refine zav (n:=ks.length) rfl rfl hol ?_;refine zaK (n:=(ks.length:Int) - 1) rfl rfl rfl (by omega) (by omega) ?_;refine po_g rfl (zcF (T:=T) (hT:=hT) ((ks.length:Int) - 1) hn6) ?_;rintro x b' n7 l7 ⟨hb7,rfl,rfl,rfl⟩;subst hb7;refine mS ?_;refine zav (n:=ks.length) rfl rfl hol ?_;refine zaK (n:=(ks.length:Int) - 1) rfl rfl rfl (by omega) (by omega) ?_;refine po_g rfl (zcF (T:=T) (hT:=hT) ((ks.length:Int) - 1) (by omega)) ?_;rintro x b' n7 l7 ⟨hb7,rfl,rfl,rfl⟩;subst hb7;refine mS ?_;refine zav (n:=ks.length) rfl rfl hol ?_;refine zaK (n:=(ks.length:Int) - 1) rfl rfl rfl (by omega) (by omega) ?_;refine po_g rfl (zcF (T:=T) (hT:=hT) ((ks.length:Int) - 1) (by omega)) ?_;rintro x b' n7 l7 ⟨hb7,rfl,rfl,rfl⟩;subst hb7;have hKd:=zhT ((zc2 hi64 n6).app ((zc2 hi64 (n6 + 1)).app (zc2 hi64 (n6 + 1 + 1)))) (by simp) (n6 + 1 + 1 + 1)
   refine zaq (es:=[vcs 9 6 0 [] n6 [vL 3 ((ks.length:Int) - 1) 0 []]] ++ ([vcs 9 6 0 [] (n6 + 1) [vL 3 ((ks.length:Int) - 1) 0 []]] ++ [vcs 9 6 0 [] (n6 + 1 + 1) [vL 3 ((ks.length:Int) - 1) 0 []]])) (litP3 rfl rfl rfl rfl rfl rfl) ?_;refine po_s (v:=.ag (vcs 7 0 0 [] (n6 + 1 + 1 + 1) ([vcs 9 6 0 [] n6 [vL 3 ((ks.length:Int) - 1) 0 []]] ++ ([vcs 9 6 0 [] (n6 + 1) [vL 3 ((ks.length:Int) - 1) 0 []]] ++ [vcs 9 6 0 [] (n6 + 1 + 1) [vL 3 ((ks.length:Int) - 1) 0 []]])))) rfl rfl rfl ?_
   revert hKd
   generalize vcs 7 0 0 [] (n6 + 1 + 1 + 1) ([vcs 9 6 0 [] n6 [vL 3 ((ks.length:Int) - 1) 0 []]] ++ ([vcs 9 6 0 [] (n6 + 1) [vL 3 ((ks.length:Int) - 1) 0 []]] ++ [vcs 9 6 0 [] (n6 + 1 + 1) [vL 3 ((ks.length:Int) - 1) 0 []]])) = lc;intro hKd;have hlc:lc.length = 5:=hKd.wid lc (mem_cons_self ..);refine zaq (es:=[lc]) (zgT rfl hlc) ?_;refine zaQ (t:=q) (t':=n6 + 1 + 1 + 1 + 1) (es:=out) (ds:=[lc]) rfl rfl (.inr (mem_cons_of_mem _ (mem_cons_of_mem _ (mem_cons_of_mem _ (mem_cons_of_mem _ (mem_cons_of_mem _ hqm)))))) (by simp only [length_singleton]; omega) hKd.wid (zbh hTb.2.1) ?_;refine mN ?_;refine zaf ?_;refine mS ?_;refine zam (n:=((i + 1:Nat):Int)) rfl rfl rfl (by omega) (by omega) ?_;refine mN ?_;exact ⟨_,by show 8 - (i + 1) < 8 - i; omega,i + 1,_,_,_,by omega,rfl,⟨rfl,rfl,rfl,trivial⟩,rfl,NR.appE hn hN.up.up.up.up.up hTb.1,hTb.app hKd (by simp) (by omega) (by show 61 + i + 1 <= 61 + (i + 1); omega)⟩
  refine zal rfl rfl (beq_eq_false_iff_ne.2 k2) ?_;refine mF ?_;refine mO ?_;by_cases k3:r = 3
  ·refine zah rfl rfl (beq_iff_eq.2 k3) ?_
   refine mT ?_;refine mO ?_;refine po_g rfl (zdn (T:=T) (hT:=hT) comV) ?_;rintro x b' n6 l6 ⟨hb6,rfl,hn6,hl6⟩
   subst hb6; subst hn6; subst hl6
   refine po_g rfl (zcF (T:=T) (hT:=hT) 0 hn5) ?_;rintro x b' n7 l7 ⟨hb7,rfl,rfl,rfl⟩;subst hb7;refine po_g rfl (int_g (T:=T) (hT:=hT) 1) ?_;rintro x b' n8 l8 ⟨hb8,rfl,hn8,hl8⟩
   subst hb8; subst hn8; subst hl8
   refine zaq (es:=[vcs 9 6 0 [] n6 [vL 3 0 0 []],vL 3 1 0 []]) (litP2 rfl rfl rfl rfl) ?_;refine po_s (v:=.ag (vcs 7 0 0 [] (n6 + 1) [vcs 9 6 0 [] n6 [vL 3 0 0 []],vL 3 1 0 []])) rfl rfl rfl ?_;refine zaq (es:=[vL 5 0 0 comV,vcs 7 0 0 [] (n6 + 1) [vcs 9 6 0 [] n6 [vL 3 0 0 []],vL 3 1 0 []]]) (litP2 rfl rfl rfl rfl) ?_;refine mN ?_;have hK1:=dct_kd n6 (n6 + 1);exact zae ⟨.inr rfl,[.d (.sl (n6 + 1 + 1) [vL 5 0 0 comV,vcs 7 0 0 [] (n6 + 1) [vcs 9 6 0 [] n6 [vL 3 0 0 []],vL 3 1 0 []]])],rfl,tbR_of (k:=2) (ks:=[.mk 5 0 0 comV [],.mk 7 0 0 [] [refV 0,.mk 3 1 0 [] []]]) hc5 (NR.shal (by omega) (NR.lit (es:=[]) hn hN.up.up.forget)) ⟨by omega,hK1.er,lR,fun x hx => (hK1.mem x hx).mono (by decide)⟩ (by decide)⟩
  refine zal rfl rfl (beq_eq_false_iff_ne.2 k3) ?_;refine mK ?_;exact ⟨c5,q,out,ks,hc5,⟨rfl,rfl,trivial⟩,rfl,hN,hTb.1,hTb.2.1,by omega,hTb.2.2.2⟩
 clear hN hc1 hTb;rintro tm bx n1 l1 ⟨c1,q,out,ks,hc1,ht,hbx,hN,hTb⟩;obtain ⟨tm3,rfl⟩:=zac ht;simp only at hbx hN; subst hbx
 clear ht tm2;refine mP ?_;exact zae ⟨.inr rfl,[.d (.sl q out)],rfl,tbR_of hc1 hN hTb (by decide)⟩
def NmQ (ss:List (L8)):Prop:=ss.length <= 102 /\ ∀ s ∈ ss,s.length <= 101
def QNm:Nat -> List Nat -> PV -> Nat -> List Nat -> Prop:=fun nt live x n l => KyR nt live NmQ x n l
theorem nm_app {a b:List (L8)} (h:a.length <= 100 /\ ∀ s ∈ a,s.length <= 100) (hb:b.length <= 2) (h2:∀ s ∈ b,s.length <= 101):NmQ (a ++ b) :=
 ⟨by rw [length_append]; omega,fun s hs => (mem_append.1 hs).elim (fun k => by have:=h.2 s k; omega) (h2 s)⟩
def NmR (b:L8) (nt:Nat) (live:List Nat) (x:PV) (bx:LP PC) (n:Nat) (l:List Nat):Prop:=∃ c' rest,bx = c' :: rest /\ x.lw 0 /\ lwL 0 c' /\ Cu b c' /\ QNm nt live x n l
theorem zgY {b:L8} {nt n q:Nat} {live l:List Nat} {c:List PC} {rest:LP PC} {ss:List (L8)} (hc:Cu b c) (hN:NR nt live n l [.sl q (pSr ss)]) (hq:2 <= q) (hs:NmQ ss):NmR b nt live (.d (.sl q (pSr ss))) (c :: rest) n l :=
 ⟨c,rest,rfl,(hN.lw (k:=0)).1,hc.lw,hc,q,ss,rfl,hq,hN,hs⟩
def NmJ (b:L8) (nt:Nat) (live:List Nat) (q:Nat) (ss:List (L8)) (m:Nat) (st:St):Prop :=
 ∃ (s:L8) (c:List PC),s.length <= 101 /\ m = 101 - s.length /\ Cu b c /\ has st.tm [(0,.ref 0 0),(3,.d (.sl q (pSr ss))),(4,.d (pS s))] /\ st.bx = [c] /\ NR nt live st.nt st.live [.sl q (pSr ss)]
theorem nms_drw {b:L8} (hb:b.length <= 2147483647):Drw (env T hT) b 39 [] QNm:=by
 rintro c nt live hc hn;refine zaG (R:=NmR b nt live) (zaj zfQ) (by show 1 <= 44; decide) fun B hB' => ?_
 unfold m_s_l11Names;refine mP ?_;refine mQ ?_;refine po_g rfl ((zfU (T:=T) (hT:=hT) hb).use trivial hc hn (p:=0) rfl) ?_;rintro x bx n1 l1 ⟨c1,rfl,hc1,cs1,v1,rfl,hN1,he1,hg1,hR1,hk1⟩;have hn1:=hN1.n2 hn;refine mS ?_;refine po_g rfl ((zfU (T:=T) (hT:=hT) hb).use trivial hc1 hn1 (p:=0) rfl) ?_;rintro x bx n2 l2 ⟨c2,rfl,hc2,cs2,v2,rfl,hN2,he2,hg2,hR2,hk2⟩;have hn2:=hN2.n2 hn1;refine zaq (es:=[cs1,cs2]) (litP2 rfl rfl (zbp he1) (zbp he2)) ?_;refine mS ?_;refine zaq rfl ?_;refine po_g rfl ((zbY (T:=T) (hT:=hT) hb (fun r => decide (0 <= r) && decide (r <= 100)) rfl (by show 0 < 4; decide)).use ⟨by simp only [PV.lw,PC.lw]; exact zcC (p:=fun r => decide (0 <= r) && decide (r <= 100)) rfl,trivial⟩ hc2 (by omega) (p:=0) rfl) ?_;rintro x bx n3 l3 ⟨c3,rfl,hc3,lim,rfl,hv,hN3⟩;simp only [Bool.and_eq_true,decide_eq_true_eq] at hv;have hN03:=((hN1.forget.pass hN2.forget).up.up).pass hN3
 have hn3:=hN03.n2 hn
 refine po_g rfl (train_g (T:=T) (hT:=hT) [v1,v2] (fun v hv => by
  simp only [mem_cons,not_mem_nil,or_false] at hv
  rcases hv with rfl | rfl
  ·exact ⟨hg1.wf,by have:=hg1.bulk; omega⟩
  ·exact ⟨hg2.wf,by have:=hg2.bulk; omega⟩) (by have:=hg1.nodes; have:=hg2.nodes; simp only [V.nodess]; omega) n2 (zca (zcD he1) (zcD he2)) lim hv l3 hn3) ?_
 rintro x b' n4 l4 ⟨rfl,q,ss,rfl,hq,hN4,hss⟩;refine mN ?_;have hN:=hN03.trans hN4;clear hN1 hN2 hN3 hN03 hN4 he1 he2 hg1 hg2 hR1 hR2 hk1 hk2 hv hn1 hn2 hn3;have hN:NR nt live n4 l4 [.sl q (pSr ss)]:=hN;have hn4:=hN.n2 hn;refine mM ?_;refine mS ?_;refine po_g rfl ((za6 (T:=T) (hT:=hT) hb 12).use ⟨trivial,trivial⟩ hc3 hn4 (p:=0) rfl) ?_;rintro x bx n5 l5 ⟨c5,rfl,hc5,r,rfl,r0,r1,hN5⟩;have hN:=hN.pass hN5;have hn5:=hN.n2 hn;have hqm:=fun {n l} (h:NR nt live n l [.sl q (pSr ss)]) => (h.mem q (zcE hq)).2.2
 refine zaa ?_;refine zab ?_;refine mO ?_;by_cases k0:r = 0
 ·refine zah rfl rfl (beq_iff_eq.2 k0) ?_
  refine mT ?_;refine mQ ?_;refine zaq (es:=pSr [[255]]) rfl ?_;refine zaQ (t:=q) (t':=n5) (es:=pSr ss) (ds:=pSr [[255]]) rfl rfl (.inr (mem_cons_of_mem _ (hqm hN))) (by rw [zaP,zaP,length_singleton]; omega) (za4 _) (za4 _) ?_;rw [<- zbZ];refine mN ?_;exact zae ⟨.inr rfl,[.d (.sl (n5 + 1) (pSr (ss ++ [[255]])))],rfl,zgY hc5 (NR.appS hn hN.up hq) (by omega) (nm_app hss (by decide) (by decide))⟩
 refine zal rfl rfl (beq_eq_false_iff_ne.2 k0) ?_;refine mF ?_;refine mO ?_;by_cases k1:r = 1
 ·refine zah rfl rfl (beq_iff_eq.2 k1) ?_
  refine mT ?_;refine mQ ?_;refine zaq (es:=pSr [[120],[120]]) rfl ?_;refine zaQ (t:=q) (t':=n5) (es:=pSr ss) (ds:=pSr [[120],[120]]) rfl rfl (.inr (mem_cons_of_mem _ (hqm hN))) (by rw [zaP,zaP]; simp only [length_cons,length_nil]; omega) (za4 _) (za4 _) ?_;rw [<- zbZ];refine mN ?_;exact zae ⟨.inr rfl,[.d (.sl (n5 + 1) (pSr (ss ++ [[120],[120]])))],rfl,zgY hc5 (NR.appS hn hN.up hq) (by omega) (nm_app hss (by decide) (by decide))⟩
 refine zal rfl rfl (beq_eq_false_iff_ne.2 k1) ?_;refine mF ?_;refine mO ?_;by_cases k2:r = 2
 ·refine zah rfl rfl (beq_iff_eq.2 k2) ?_
  refine mT ?_;refine mP ?_;refine zan (fun st => ∃ (s:L8) (c:List PC),s.length <= 101 /\ Cu b c /\ has st.tm [(0,.ref 0 0),(3,.d (.sl q (pSr ss))),(4,.d (pS s))] /\ st.bx = [c] /\ NR nt live st.nt st.live [.sl q (pSr ss)]) ?_ ?_
  ·refine zab ?_
   refine zas (NmJ b nt live q ss) 101 ⟨[],c5,by decide,rfl,hc5,⟨rfl,rfl,rfl,trivial⟩,rfl,hN⟩ ?_;rintro m tm bx n6 l6 ⟨s,c6,hs,rfl,hc6,ht,hbx,hN6⟩;obtain ⟨tm1,rfl⟩:=zac ht;simp only at hbx hN6; subst hbx
   clear ht;refine mM ?_;(iterate 3 refine mS ?_);refine po_g rfl ((za6 (T:=T) (hT:=hT) hb 2).use ⟨trivial,trivial⟩ hc6 (hN6.n2 hn) (p:=0) rfl) ?_;rintro x bx n7 l7 ⟨c7,rfl,hc7,r2,rfl,r20,r21,hN7⟩;have hN7:=hN6.pass hN7;refine zam (n:=100 + r2) rfl rfl rfl rfl (by omega) ?_;refine po_b rfl rfl (fun p hp => ?_);refine zaa ?_;refine zaZ (p:=((s.length:Nat):Int) < 100 + r2) hp rfl (fun him _ => ?_) (fun him _ => ?_)
   rotate_left
   ·refine zat ?_
    exact ⟨s,c7,hs,hc7,⟨rfl,rfl,rfl,trivial⟩,rfl,hN7⟩
   refine zai ?_;refine zab (zaf ?_);refine mS ?_;refine zax (lb:=[110]) rfl rfl rfl (by simp only [length_cons,length_nil]; omega) ?_;refine mN ?_;exact ⟨_,by show 101 - (s ++ [110]).length < 101 - s.length; rw [length_append,length_singleton]; omega,s ++ [110],c7,by rw [length_append,length_singleton]; omega,rfl,hc7,⟨rfl,rfl,rfl,trivial⟩,rfl,hN7⟩
  rintro tm bx n6 l6 ⟨s,c6,hs,hc6,ht,hbx,hN6⟩;obtain ⟨tm1,rfl⟩:=zac ht;simp only at hbx hN6; subst hbx
  clear ht;have hn6:=hN6.n2 hn;refine mO ?_;(iterate 2 refine mS ?_);refine zaq (es:=pSr [s]) rfl ?_;refine zaQ (t:=q) (t':=n6) (es:=pSr ss) (ds:=pSr [s]) rfl rfl (.inr (mem_cons_of_mem _ (hqm hN6))) (by rw [zaP,zaP,length_singleton]; omega) (za4 _) (za4 _) ?_;rw [<- zbZ];refine mN ?_;exact zae ⟨.inr rfl,[.d (.sl (n6 + 1) (pSr (ss ++ [s])))],rfl,zgY hc6 (NR.appS hn hN6.up hq) (by omega) (nm_app hss (by simp) (fun x hx => by rw [mem_singleton] at hx; subst hx; exact hs))⟩
 refine zal rfl rfl (beq_eq_false_iff_ne.2 k2) ?_;refine mF ?_;refine mO ?_;by_cases k3:r = 3
 ·refine zah rfl rfl (beq_iff_eq.2 k3) ?_
  refine mT ?_;refine mO ?_;refine zaq (es:=pSr [[110,97,109,101],[105,100],[108,105,115,116]]) rfl ?_;refine mN ?_;exact zae ⟨.inr rfl,[.d (.sl n5 (pSr [[110,97,109,101],[105,100],[108,105,115,116]]))],rfl,zgY hc5 (NR.litS hn hN.forget) hn5 ⟨by decide,by decide⟩⟩
 refine zal rfl rfl (beq_eq_false_iff_ne.2 k3) ?_;refine mK ?_;refine mP ?_;exact zae ⟨.inr rfl,[.d (.sl q (pSr ss))],rfl,zgY hc5 hN hq ⟨by have:=hss.1; omega,fun s hs => by have:=hss.2 s hs; omega⟩⟩
end
section
open Go.Lib (validD)
variable {T:World -> Prop} {hT:Low ngl T}
attribute [local irreducible] po mw pt
theorem ref_fn (v:V):FnV (env T hT) 92 [.ag (vC v)] (.d (pI (refOf v))):=by
 refine zaW (zaj zhI) (by show 1 <= 38; decide) fun B hB => ?_
 unfold m_s_l12Ref;refine mP ?_;refine mM ?_;(iterate 2 refine mS ?_);by_cases h9:v.kind = 9
 case neg =>
  have hF:refOf v = -1:=by unfold refOf; rw [if_neg (by omega)]
  refine zah rfl rfl (by simpa using h9) ?_;refine mS ?_;refine mZ ?_;(iterate 2 refine mS ?_);refine mZ ?_;(iterate 2 refine mS ?_);refine mZ ?_;(iterate 2 refine mS ?_);refine mZ ?_;refine mT ?_;refine mP ?_;rw [hF];exact mR
 refine zal rfl rfl (by simpa using h9) ?_;(iterate 3 refine mS ?_);by_cases h6:v.num = 6
 case neg =>
  have hF:refOf v = -1:=by unfold refOf; rw [if_neg (by omega)]
  refine zah rfl rfl (by simpa using h6) ?_;(iterate 2 refine mS ?_);refine mZ ?_;(iterate 2 refine mS ?_);refine mZ ?_;(iterate 2 refine mS ?_);refine mZ ?_;refine mT ?_;refine mP ?_;rw [hF];exact mR
 refine zal rfl rfl (by simpa using h6) ?_;(iterate 4 refine mS ?_);refine zav (n:=v.kids.length) rfl rfl (zaY _) ?_;by_cases h1:v.kids.length = 1
 case neg =>
  have hF:refOf v = -1:=by
   unfold refOf; rw [if_pos ⟨h9,h6⟩]
   split
   ·rename_i h; rw [h] at h1; exact absurd rfl h1
   ·rfl
  refine zah rfl rfl (by simp; omega) ?_;(iterate 2 refine mS ?_);refine mZ ?_;(iterate 2 refine mS ?_);refine mZ ?_;refine mT ?_;refine mP ?_;rw [hF];exact mR
 refine zal rfl rfl (by simp; omega) ?_;obtain ⟨x,hx⟩:∃ x,v.kids = [x]:=length_eq_one_iff.1 h1;have hget:(vK v.kids)[(0:Int).toNat]? = some (vC x):=by rw [hx]; rw [zcj]; rfl
 have hR:refOf v = if x.kind = 3 /\ 0 <= x.num then x.num else -1:=by unfold refOf; rw [if_pos ⟨h9,h6⟩,hx]
 (iterate 4 refine mS ?_);refine zaH (es:=vK v.kids) (e:=vC x) rfl rfl rfl ⟨by omega,hget⟩ rfl ?_;(iterate 2 refine mS ?_);by_cases h3:x.kind = 3
 case neg =>
  have hF:refOf v = -1:=by rw [hR,if_neg (by omega)]
  refine zah rfl rfl (by simpa using h3) ?_;(iterate 2 refine mS ?_);refine mZ ?_;refine mT ?_;refine mP ?_;rw [hF];exact mR
 refine zal rfl rfl (by simpa using h3) ?_;(iterate 4 refine mS ?_);refine zaH (es:=vK v.kids) (e:=vC x) rfl rfl rfl ⟨by omega,hget⟩ rfl ?_;(iterate 2 refine mS ?_);by_cases h0:x.num < 0
 ·have hF:refOf v = -1:=by rw [hR,if_neg (by omega)]
  refine zah rfl rfl (decide_eq_true h0) ?_;refine mT ?_;refine mP ?_;rw [hF];exact mR
 ·have hF:refOf v = x.num:=by rw [hR,if_pos (by omega)]
  refine zal rfl rfl (decide_eq_false h0) ?_;refine mK ?_;refine mO ?_;(iterate 2 refine mS ?_);refine zaH (es:=vK v.kids) (e:=vC x) rfl rfl rfl ⟨by omega,hget⟩ rfl ?_;refine mN ?_;rw [hF];exact mR
def AhP (T:World -> Prop) (hT:Low ngl T) (N:Nat):Prop:=∀ (v:V) (i:Int),v.nodes <= N -> v.ok = true -> FnV (env T hT) 62 [.ag (vC v),.d (pI i)] (.d (pB (v.ahead i)))
def AhI (v:V) (i:Int) (m:Nat) (s:St):Prop:=∃ j:Nat,j <= v.kids.length /\ m = v.kids.length - j /\ has s.tm [(1,.d (pI i)),(2,.ref 0 0),(6,.d (pI j))] /\ s.bx = [vC v] /\ allN j (fun j => (v.kids.getD j (.mk 0 0 0 [] [])).ahead i) = true
theorem ahead_step {N:Nat} (hS:AhP T hT N) (v:V) (i:Int) (hn:v.nodes <= N + 1) (hk:v.ok = true):FnV (env T hT) 62 [.ag (vC v),.d (pI i)] (.d (pB (v.ahead i))):=by
 have hkid:∀ (j:Nat) (h:j < v.kids.length),FnV (env T hT) 62 [.ag (vC v.kids[j]),.d (pI i)] (.d (pB (v.kids[j].ahead i))):=fun j h => hS v.kids[j] i (V.nodes_kid hn j h) (V.ok_kid hk j h)
 refine zaW (zaj zfF) (by show 2 <= 39; decide) fun B hB => ?_
 have hkl:=V.ok_len hk;unfold m_s_l12Ahead;have hE:=V.ahead_eq i v;refine mP ?_;refine zan (fun s => has s.tm [(1,.d (pI i)),(2,.ref 0 0)] /\ s.bx = [vC v] /\ ¬ (v.kind = 9 /\ v.num = 6)) ?_ ?_
 ·refine mO ?_
  refine zaE (p:=0) (cs:=vC v) rfl rfl rfl rfl ?_;refine zad (zbA v) (ref_fn v) ?_;refine mN ?_;refine mO ?_;(iterate 2 refine mS ?_);by_cases h9:v.kind = 9
  ·refine zah rfl rfl (decide_eq_true h9) ?_
   (iterate 3 refine mS ?_);by_cases h6:v.num = 6
   ·rw [if_pos ⟨h9,h6⟩] at hE
    refine zah rfl rfl (decide_eq_true h6) ?_;refine mT ?_;refine mQ ?_;by_cases h0:refOf v ≥ 0
    ·refine zah rfl rfl (decide_eq_true h0) ?_
     (iterate 3 refine mS ?_);refine po_b rfl rfl (fun b hb => ?_);refine mN ?_
     have:v.ahead i = b:=by rw [hE,decide_eq_true (show 0 <= refOf v by omega),hb]; rfl
     rw [this];exact mR
    ·refine zal rfl rfl (decide_eq_false h0) ?_
     refine mS ?_;refine mZ ?_;refine mN ?_
     have:v.ahead i = false:=by rw [hE,decide_eq_false (show ¬ 0 <= refOf v by omega)]; rfl
     rw [this];exact mR
   ·refine zal rfl rfl (decide_eq_false h6) ?_
    refine mK ?_;exact ⟨⟨rfl,rfl,trivial⟩,rfl,fun h => h6 h.2⟩
  ·refine zal rfl rfl (decide_eq_false h9) ?_
   refine mS ?_;refine mZ ?_;refine mK ?_;exact ⟨⟨rfl,rfl,trivial⟩,rfl,fun h => h9 h.1⟩
 rintro tm bx nt live ⟨ht,rfl,h96⟩;obtain ⟨tm0,rfl⟩:=zac ht;rw [if_neg h96,V.aheads_all] at hE;refine zan (fun s => allN v.kids.length (fun j => (v.kids.getD j (.mk 0 0 0 [] [])).ahead i) = true) ?_ ?_
 ·refine mP ?_
  refine zab ?_;refine zas (AhI v i) v.kids.length ⟨0,Nat.zero_le _,rfl,⟨rfl,rfl,rfl,trivial⟩,rfl,rfl⟩ ?_;rintro m tm bx nt live ⟨j,hj,rfl,ht,rfl,hall⟩;obtain ⟨tm1,rfl⟩:=zac ht;refine mM ?_;(iterate 3 refine mS ?_);refine zav (n:=v.kids.length) rfl rfl (zaY _) ?_;refine po_b rfl rfl (fun b hb => ?_);refine zaa ?_;refine zaZ (p:=(j:Int) < v.kids.length) hb rfl (fun h _ => ?_) (fun h _ => ?_)
  ·have hjl:j < v.kids.length:=by omega
   have hg:=zcZ hjl (.mk 0 0 0 [] []);refine zai ?_;refine zak (zab (zak (zaf ?_)));(iterate 3 refine mS ?_);refine zaH (es:=vK v.kids) (e:=vC v.kids[j]) rfl rfl rfl ⟨by omega,by rw [Int.toNat_natCast]; exact zbo hjl⟩ rfl ?_;(iterate 2 refine mS ?_);refine zad (dats1i (zb9 v.kids[j]) _) (hkid j hjl) ?_;refine mN ?_;refine zaU (t:=!v.kids[j].ahead i) rfl (fun hc => ?_) (fun hc => ?_)
   ·have:v.ahead i = false:=by rw [hE]; exact zhJ j hjl (by rw [hg]; simpa using hc)
    refine mP ?_;rw [this];exact mR
   ·refine zai ?_
    refine zaf ?_;refine mS ?_;refine zam (n:=((j + 1:Nat):Int)) rfl rfl rfl (by omega) (by omega) ?_;refine mN ?_;exact ⟨v.kids.length - (j + 1),by omega,j + 1,hjl,rfl,⟨rfl,rfl,rfl,trivial⟩,rfl,zcB hall (by rw [hg]; simpa using hc)⟩
  ·refine zat ?_
   have:j = v.kids.length:=by omega
   subst this;exact hall
 intro tm bx nt live hall;refine mP ?_;rw [hE,hall];exact mR
theorem ahead_fn:∀ (N:Nat),AhP T hT N
 | 0,v,i,hn,_ => by obtain ⟨k,n,e,s,kids⟩:=v; simp only [V.nodes] at hn; omega
 | N + 1,v,i,hn,hk => ahead_step (ahead_fn N) v i hn hk
theorem dats_v1 {v:V} {x:Value} {a b:PV} (ha:a = .ag (vC v)) (hb:b = .d (.v x)):PV.dats [a,b] = some [.ag (vC v),.d (.v x)]:=by subst ha; subst hb; exact dats1i (zb9 v) x
def TkI (vs:List V) (m:Nat) (st:St):Prop:=∃ i:Nat,i <= vs.length /\ m = vs.length - i /\ has st.tm [(0,.d (.sl 0 (vK vs))),(3,.d (pI i))] /\ allN i (fun i => (vs.getD i (.mk 0 0 0 [] [])).ok && (vs.getD i (.mk 0 0 0 [] [])).ahead i) = true
theorem tabB_no {vs:List V} {i:Nat} (h:i < vs.length) (hb:((vs.getD i (.mk 0 0 0 [] [])).ok && (vs.getD i (.mk 0 0 0 [] [])).ahead i) = false):tabB vs = false:=by unfold tabB; rw [zhJ i h hb,Bool.and_false]
theorem tableOk_fn (vs:List V) (hl:vs.length <= 4294967295) (hw:∀ v ∈ vs,v.wf) (hb':∀ v ∈ vs,v.bulk <= 4294967295):FnV (env T hT) 29 [.d (.sl 0 (vK vs))] (.d (pB (tabB vs))):=by
 refine zaW (zaj zgF) (by show 1 <= 28; decide) fun B hB => ?_
 unfold m_s_TableOk;refine mP ?_;refine zan (fun s => has s.tm [(0,.d (.sl 0 (vK vs)))] /\ allN vs.length (fun i => (vs.getD i (.mk 0 0 0 [] [])).ok && (vs.getD i (.mk 0 0 0 [] [])).ahead i) = true) ?_ ?_
 ·refine mP ?_
  refine zab ?_;refine zas (TkI vs) vs.length ⟨0,Nat.zero_le _,rfl,⟨rfl,rfl,trivial⟩,rfl⟩ ?_;rintro m tm bx nt live ⟨i,hi,rfl,ht,hall⟩;obtain ⟨tm0,rfl⟩:=zac ht;refine mM ?_;(iterate 2 refine mS ?_);refine zav (n:=vs.length) rfl rfl (zaY _) ?_;refine po_b rfl rfl (fun b hb => ?_);refine zaa ?_;refine zaZ (p:=(i:Int) < vs.length) hb rfl (fun h _ => ?_) (fun h _ => ?_)
  ·have hil:i < vs.length:=by omega
   have hg:=zcZ hil (.mk 0 0 0 [] []);have hno:=tabB_no hil;rw [hg] at hno;have hmem:=getElem_mem hil;have hvk:=vok_fn (T:=T) (hT:=hT) vs[i] (hw _ hmem) (hb' _ hmem);refine zai ?_;refine zak (zab (zak (zaf ?_)));(iterate 2 refine mS ?_);refine zaH (es:=vK vs) (e:=vC vs[i]) rfl rfl rfl ⟨by omega,by rw [Int.toNat_natCast]; exact zbo hil⟩ rfl ?_;refine mS ?_;refine zad (zbA vs[i]) hvk ?_;(iterate 2 refine mS ?_)
   cases hv:vs[i].ok with
   | false =>
    have hF:=hno (by rw [hv]; rfl);refine mZ ?_;refine mT ?_;refine mP ?_;rw [hF]
    exact mR
   | true =>
   have hah:=ahead_fn (T:=T) (hT:=hT) _ vs[i] i lR hv;(iterate 2 refine mS ?_);refine zaH (es:=vK vs) (e:=vC vs[i]) rfl rfl rfl ⟨by omega,by rw [Int.toNat_natCast]; exact zbo hil⟩ rfl ?_;refine po_q (v:=.ag (vC vs[i])) rfl rfl ?_;refine mS ?_;refine zaC (b:=true) (args:=[.ag (vC vs[i]),.d (pI i)]) rfl (fun _ => dats_v1 (v:=vs[i]) (x:=.int .i64 i) rfl rfl) (fun _ => hah) ?_;refine mN ?_;refine zaU (t:=!vs[i].ahead i) rfl (fun hc => ?_) (fun hc => ?_)
   ·have hF:=hno (by rw [hv]; simpa using hc)
    refine mP ?_;rw [hF];exact mR
   ·refine zai ?_
    refine zaf ?_;refine mS ?_;refine zam (n:=((i + 1:Nat):Int)) rfl rfl rfl (by omega) (by omega) ?_;refine mN ?_;exact ⟨vs.length - (i + 1),by omega,i + 1,hil,rfl,⟨rfl,rfl,trivial⟩,zcB hall (by rw [hg,hv]; simpa using hc)⟩
  ·refine zat ?_
   have:i = vs.length:=by omega
   subst this;exact ⟨⟨rfl,trivial⟩,hall⟩
 rintro tm bx nt live ⟨ht,hall⟩;obtain ⟨tm0,rfl⟩:=zac ht;refine mQ ?_;refine zav (n:=vs.length) rfl rfl (zaY _) ?_;refine po_b rfl rfl (fun b hb => ?_);refine mN ?_
 have:tabB vs = b:=by rw [hb]; unfold tabB; rw [hall,Bool.and_true]; exact decide_eq_decide.2 (by omega)
 rw [this];exact mR
end
section
open Go.Lib (validD)
variable {T:World -> Prop} {hT:Low ngl T}
attribute [local irreducible] po mw pt
def dC (ns:List (L8)) (vs:List V):List PC:=[pSs ns,.sl 0 (vK vs)]
theorem dC_er (ns:List (L8)) (vs:List V):erL (dC ns vs) = dC ns vs:=by
 show [(pSs ns).er,PC.sl 0 (erLL (vK vs))] = _;rw [zgk,vK_er]; rfl
theorem zfa (ns:List (L8)) (vs:List V):PV.dats [.ag (dC ns vs)] = some [.ag (dC ns vs)]:=zgu (dC_er ns vs)
theorem zhU (ns:List (L8)):PV.dats [.d (pSs ns)] = some [.d (pSs ns)]:=congrArg (fun x => some [PV.d x]) (zgk ns)
theorem tab_arg (vs:List V):PV.dats [.d (.sl 0 (vK vs))] = some [.d (.sl 0 (vK vs))]:=congrArg (fun x => some [PV.d (.sl 0 x)]) (vK_er vs)
theorem zfY {vs:List V} {a:PV} (ha:a = .d (.sl 0 (vK vs))):PV.dats [a] = some [.d (.sl 0 (vK vs))]:=by subst ha; exact tab_arg vs
def DSm (ns:List (L8)) (vs:List V):Prop:=ns.length <= 4294967295 /\ (∀ n ∈ ns,n.length <= 4294967295) /\ vs.length <= 4294967295 /\ (∀ v ∈ vs,v.wf) /\ ∀ v ∈ vs,v.bulk <= 4294967295
theorem zcf {ns:List (L8)} (h:nmsB ns = true) (i:Nat):(nmsT (ns.take i)).length <= 10900:=by
 obtain ⟨h1,h2⟩:=zfI h
 have:=nmsT_len (ns:=ns.take i) (m:=100) fun n hn => h2 n (mem_of_mem_take hn)
 have h3:(ns.take i).length <= 100:=by rw [length_take]; omega
 omega
theorem zdG {vs:List V} (h:tabB vs = true) (i:Nat):(msgs (vs.take i)).length <= 63130560:=by
 obtain ⟨h1,h2⟩:=zfH h
 have:=ze7 (vs:=vs.take i) fun v hv => h2 v (mem_of_mem_take hv)
 have h3:(vs.take i).length <= 60:=by rw [length_take]; omega
 omega
def PdN (ns:List (L8)) (vs:List V) (m:Nat) (s:St):Prop:=∃ i:Nat,i <= ns.length /\ m = ns.length - i /\ has s.tm [(1,.ref 0 0),(3,.d (pS (hd 4 ns.length ++ nmsT (ns.take i)))),(4,.d (pI i))] /\ s.bx = [dC ns vs]
def PdV (ns:List (L8)) (vs:List V) (m:Nat) (s:St):Prop:=∃ i:Nat,i <= vs.length /\ m = vs.length - i /\ has s.tm [(1,.ref 0 0),(3,.d (pS (hd 4 ns.length ++ nmsT ns ++ hd 4 vs.length ++ msgs (vs.take i)))),(5,.d (pI i))] /\ s.bx = [dC ns vs]
theorem zcL (ns:List (L8)) (vs:List V) (hD:DSm ns vs):FnV (env T hT) 13 [.ag (dC ns vs)] (.d (pS (dictP ns vs))):=by
 obtain ⟨d1,d2,d3,d4,d5⟩:=hD;have hnm:=namesOk_fn (T:=T) (hT:=hT) ns d1 d2;have htb:=tableOk_fn (T:=T) (hT:=hT) vs d3 d4 d5;have hhd:=fun (m n:Nat) (h:m <= 7 /\ n <= 18446744073709551615) => zbH (T:=T) (hT:=hT) m n (by omega) (by omega)
 refine zaW (zaj zgD) (by show 1 <= 67; decide) fun B hB => ?_
 unfold m_s_PutDict;refine mP ?_;refine mM ?_;(iterate 2 refine mS ?_);refine zad (zhU ns) hnm ?_;(iterate 2 refine mS ?_)
 cases hn:nmsB ns with
 | false =>
  have hF:dictP ns vs = []:=by unfold dictP; rw [hn]; rfl
  refine mZ ?_;refine mT ?_;refine mP ?_;rw [hF]
  exact mR
 | true =>
 (iterate 2 refine mS ?_);refine zaC (b:=true) (args:=[.d (.sl 0 (vK vs))]) rfl (fun _ => zfY rfl) (fun _ => htb) ?_;refine mN ?_
 cases hv:tabB vs with
 | false =>
  have hF:dictP ns vs = []:=by unfold dictP; rw [hn,hv]; rfl
  refine mwT ?_;refine mP ?_;rw [hF]
  exact mR
 | true =>
 have hF:dictP ns vs = dictT ns vs:=by unfold dictP; rw [hn,hv]; rfl
 rw [hF];obtain ⟨n1,n2⟩:=zfI hn;obtain ⟨v1,v2⟩:=zfH hv;have hd4:=za3 4 ns.length;have hd4v:=za3 4 vs.length;have ht0:=zcf hn;have hm0:=zdG hv;have htN:=zcf hn ns.length;rw [take_length] at htN;refine mwF ?_;refine zai ?_;refine mO ?_;(iterate 2 refine mS ?_);refine zav (n:=ns.length) rfl rfl (zbr ns) ?_;refine zbb (n:=(ns.length:Int)) rfl rfl (by rw [IntKind.wrap_u64]; omega) ?_;refine zad (args:=[.d (pI (4:Nat)),.d (.v (.int .u64 (ns.length:Nat)))]) rfl (hhd 4 ns.length (by omega)) ?_;refine mN ?_;refine zan (fun s => has s.tm [(1,.ref 0 0),(3,.d (pS (hd 4 ns.length ++ nmsT ns)))] /\ s.bx = [dC ns vs]) ?_ ?_
 ·refine mP ?_
  refine zab ?_;refine zas (PdN ns vs) ns.length ⟨0,Nat.zero_le _,rfl,⟨rfl,by rw [take_zero]; show _ = PV.d (pS (hd 4 ns.length ++ [])); rw [append_nil]; rfl,rfl,trivial⟩,rfl⟩ ?_;rintro m tm bx nt live ⟨i,hi,rfl,ht,rfl⟩;obtain ⟨tm0,rfl⟩:=zac ht;refine mM ?_;(iterate 3 refine mS ?_);refine zav (n:=ns.length) rfl rfl (zbr ns) ?_;refine po_b rfl rfl (fun b hb => ?_);refine zaa ?_;refine zaZ (p:=(i:Int) < ns.length) hb rfl (fun h _ => ?_) (fun h _ => ?_)
  ·have hil:i < ns.length:=by omega
   have hnl:=n2 _ (getElem_mem hil);have hh3:=za3 3 ns[i].length;have hti:=ht0 i;refine zai ?_;refine zak (zab (zaf ?_));(iterate 4 refine mS ?_);refine zaH (es:=pSr ns) (e:=[pS ns[i]]) rfl rfl rfl ⟨by omega,by rw [Int.toNat_natCast]; exact zb8 hil⟩ rfl ?_;refine mS ?_;refine po_q (v:=.d (pI ns[i].length)) rfl rfl ?_;refine zbb (n:=(ns[i].length:Int)) rfl rfl (by rw [IntKind.wrap_u64]; omega) ?_;(iterate 3 refine mS ?_);refine zaH (es:=pSr ns) (e:=[pS ns[i]]) rfl rfl rfl ⟨by omega,by rw [Int.toNat_natCast]; exact zb8 hil⟩ rfl ?_;refine mS ?_;refine zad (args:=[.d (pI (3:Nat)),.d (.v (.int .u64 (ns[i].length:Nat)))]) rfl (hhd 3 ns[i].length (by omega)) ?_;refine zax (la:=hd 4 ns.length ++ nmsT (ns.take i)) (lb:=hd 3 ns[i].length) rfl rfl rfl (by rw [length_append]; omega) ?_;refine zax (la:=hd 4 ns.length ++ nmsT (ns.take i) ++ hd 3 ns[i].length) (lb:=ns[i]) rfl rfl rfl (by simp only [length_append]; omega) ?_
   refine mN ?_;refine zaf ?_;refine mS ?_;refine zam (n:=((i + 1:Nat):Int)) rfl rfl rfl (by omega) (by omega) ?_;refine mN ?_;exact ⟨ns.length - (i + 1),by omega,i + 1,hil,rfl,⟨rfl,by rw [zgI hil,<- append_assoc,<- append_assoc]; rfl,rfl,trivial⟩,rfl⟩
  ·refine zat ?_
   have:i = ns.length:=by omega
   subst this;exact ⟨⟨rfl,by show PV.d (pS (hd 4 ns.length ++ nmsT (ns.take ns.length))) = _; rw [take_length],trivial⟩,rfl⟩
 rintro tm bx nt live ⟨ht,rfl⟩;obtain ⟨tm0,rfl⟩:=zac ht;refine mO ?_;(iterate 3 refine mS ?_);refine zav (n:=vs.length) rfl rfl (zaY vs) ?_;refine zbb (n:=(vs.length:Int)) rfl rfl (by rw [IntKind.wrap_u64]; omega) ?_;refine zad (args:=[.d (pI (4:Nat)),.d (.v (.int .u64 (vs.length:Nat)))]) rfl (hhd 4 vs.length (by omega)) ?_;refine zax (la:=hd 4 ns.length ++ nmsT ns) (lb:=hd 4 vs.length) rfl rfl rfl (by rw [length_append]; omega) ?_;refine mN ?_;refine zan (fun s => has s.tm [(3,.d (pS (dictT ns vs)))]) ?_ ?_
 ·refine mP ?_
  refine zab ?_;refine zas (PdV ns vs) vs.length ⟨0,Nat.zero_le _,rfl,⟨rfl,by rw [take_zero]; show _ = PV.d (pS (hd 4 ns.length ++ nmsT ns ++ hd 4 vs.length ++ [])); rw [append_nil]; rfl,rfl,trivial⟩,rfl⟩ ?_;rintro m tm bx nt live ⟨i,hi,rfl,ht,rfl⟩;obtain ⟨tm0,rfl⟩:=zac ht;refine mM ?_;(iterate 3 refine mS ?_);refine zav (n:=vs.length) rfl rfl (zaY vs) ?_;refine po_b rfl rfl (fun b hb => ?_);refine zaa ?_;refine zaZ (p:=(i:Int) < vs.length) hb rfl (fun h _ => ?_) (fun h _ => ?_)
  ·have hil:i < vs.length:=by omega
   have hmem:=getElem_mem hil;have hok:=v2 _ hmem;have hmi:=hm0 i;have hml:=zev hok;have hpm:=zgB (T:=T) (hT:=hT) vs[i] (d4 _ hmem) (d5 _ hmem);unfold msgTop at hpm;rw [if_pos hok] at hpm;refine zai ?_;refine zak (zab (zaf ?_));(iterate 4 refine mS ?_);refine zaH (es:=vK vs) (e:=vC vs[i]) rfl rfl rfl ⟨by omega,by rw [Int.toNat_natCast]; exact zbo hil⟩ rfl ?_;refine po_q (v:=.ag (vC vs[i])) rfl rfl ?_;refine zad (zbA vs[i]) hpm ?_;refine zax (la:=hd 4 ns.length ++ nmsT ns ++ hd 4 vs.length ++ msgs (vs.take i)) (lb:=msg vs[i]) rfl rfl rfl (by simp only [length_append]; omega) ?_;refine mN ?_;refine zaf ?_;refine mS ?_;refine zam (n:=((i + 1:Nat):Int)) rfl rfl rfl (by omega) (by omega) ?_;refine mN ?_;exact ⟨vs.length - (i + 1),by omega,i + 1,hil,rfl,⟨rfl,by rw [ze6 hil,<- append_assoc]; rfl,rfl,trivial⟩,rfl⟩
  ·refine zat ?_
   have:i = vs.length:=by omega
   subst this;exact ⟨by show PV.d (pS (hd 4 ns.length ++ nmsT ns ++ hd 4 vs.length ++ msgs (vs.take vs.length))) = _; rw [take_length]; rfl,trivial⟩
 rintro tm bx nt live ht;obtain ⟨tm0,rfl⟩:=zac ht;refine mP ?_;exact mR
theorem zeG (ns:List (L8)) (vs:List V) (hD:DSm ns vs):FnV (env T hT) 12 [.ag (dC ns vs)] (.d (pB (dictB ns vs))):=by
 have hpd:=zcL (T:=T) (hT:=hT) ns vs hD;have hin:=zet (T:=T) (hT:=hT) ((dictP ns vs).length:Int) 1 60000;rw [<- dictB_P] at hin;refine zaW (zaj zhH) (by show 1 <= 7; decide) fun B hB => ?_
 unfold m_s_DictOk;refine mP ?_;refine mO ?_;refine zaE (p:=0) (cs:=dC ns vs) rfl rfl rfl rfl ?_;refine zad (zfa ns vs) hpd ?_;refine po_q (v:=.d (pI (dictP ns vs).length)) rfl rfl ?_;refine zad (args:=[.d (pI (dictP ns vs).length),.d (pI 1),.d (pI 60000)]) rfl hin ?_;refine mN ?_;exact mR
end
section
def m_i_GetDict:M:=so [qo 2 (.zero [.slice none 0 0,.slice none 0 0]),qo 3 (.mv (cB false))] (.seq (so [qm 14 0,qo 15 (.lens 14),qo 16 (.bin .gtr false 15 (ci 60000))] (.cond 16 (so [qo 17 (.build [.slice none 0 0,.slice none 0 0] []),qS 2 2 17,qo 3 (.mv (cB false))] .ret) .skip)) (so [qo 18 (.build [.slice none 0 0,.slice none 0 0] []),qo 4 (.zero [.slice none 0 0,.slice none 0 0]),qS 2 4 18] (so [qm 19 0,⟨some 20,.build [.string ⟨[].toArray⟩,.int .i64 0,.bool false,.int .i64 0,.bool false] [(0,1,19)],none,[]⟩,qo 21 (.box 20),qm 5 21] (so [qm 23 5,qc 24 21 [23] 1,qm 22 24,qe 25 22 0,qe 26 22 1,qm 6 25,qm 7 26] (.seq (.block 0 (.loop (.seq (so [qm 27 7,qo 28 (.bin .gtr false 27 (.c (.int .u64 0))),qm 29 28,qg 30 5 29 true,⟨some 31,.nilc 30,some (29,true),[]⟩,⟨some 32,.fld 4 31,some (29,true),[]⟩,⟨some 33,.load false 1 32,some (29,true),[]⟩,⟨some 34,.not 33,some (29,true),[]⟩,qo 35 (.pick 29 34 (cB false))] (.cond 35 .skip (.exit 0))) (.seq (.block 1 (so [qm 39 5,qc 40 21 [39] 1,qm 38 40,qe 41 38 0,qe 42 38 1,qm 8 41,qm 9 42] (.ops [qF 43 0 4,ql 44 1 43,qm 45 5,qm 46 9,⟨some 47,.call 22 [45,46],none,[.f 0,43]⟩,qo 48 (.litq 1 [47]),⟨some 49,.app 1 44 48,none,[.f 0]⟩,qF 50 0 4,qS 1 50 49]))) (.ops [qm 36 7,qo 37 (.bin .sub false 36 (.c (.int .u64 1))),qm 7 37]))))) (so [qm 52 5,qc 53 21 [52] 1,qm 51 53,qe 54 51 0,qe 55 51 1,qm 10 54,qm 11 55] (.seq (.block 2 (.loop (.seq (so [qm 56 11,qo 57 (.bin .gtr false 56 (.c (.int .u64 0))),qm 58 57,qg 59 5 58 true,⟨some 60,.nilc 59,some (58,true),[]⟩,⟨some 61,.fld 4 60,some (58,true),[]⟩,⟨some 62,.load false 1 61,some (58,true),[]⟩,⟨some 63,.not 62,some (58,true),[]⟩,qo 64 (.pick 58 63 (cB false))] (.cond 64 .skip (.exit 2))) (.seq (.block 3 (so [qm 68 0,qm 69 5,qo 70 (.nilc 69),qF 71 1 70,ql 72 1 71,qc 73 23 [68,72] 1,qm 67 73,qe 74 67 0,qe 75 67 1,⟨some 12,.zero [.int .i64 0,.int .i64 0,.int .i64 0,.string ⟨[].toArray⟩,.slice none 0 0],none,[]⟩,qS 5 12 74,qm 13 75] (.seq (so [qm 76 13,qo 77 (.bin .lss false 76 (ci 0))] (.cond 77 (so [qm 78 5,qo 79 (.nilc 78),qF 80 4 79,⟨none,.store 1 80 (cB true),none,[]⟩] (.exit 2)) .skip)) (so [qF 81 1 4,ql 82 1 81,qL 83 5 12,qo 84 (.lit 5 [83]),⟨some 85,.app 5 82 84,none,[.f 1]⟩,qF 86 1 4,qS 1 86 85] (.ops [qm 87 5,qm 88 13,qo 89 (.nilc 87),qF 90 1 89,qS 1 90 88]))))) (.ops [qm 65 11,qo 66 (.bin .sub false 65 (.c (.int .u64 1))),qm 11 66]))))) (.seq (so [qm 91 5,qo 92 (.nilc 91),qF 93 4 92,ql 94 1 93,qm 95 94,⟨some 96,.load true 2 4,some (95,false),[]⟩,⟨some 97,.call 11 [96],some (95,false),[.f 1]⟩,⟨some 98,.not 97,some (95,false),[]⟩,qo 99 (.pick 95 (cB true) 98),qm 100 99,⟨some 101,.load true 2 4,some (100,false),[]⟩,⟨some 102,.call 19 [101],some (100,false),[.f 1]⟩,qg 103 0 100 false,⟨some 104,.bin .neq false 102 103,some (100,false),[]⟩,qo 105 (.pick 100 (cB true) 104)] (.cond 105 (so [qo 106 (.build [.slice none 0 0,.slice none 0 0] []),qS 2 2 106,qo 3 (.mv (cB false))] .ret) .skip)) (so [qL 107 2 4,qS 2 2 107,qo 3 (.mv (cB true))] .ret)))))))))
theorem zgZ:look Tryz.prog 9 = some (108,m_i_GetDict,[.cell true 2 2,.tm 3]):=by kernel_rfl
def m_i_DictOk:M:=so [qo 1 (.box 0),qo 2 (.mv (cB false))] (so [qF 3 0 1,ql 4 1 3,qc 5 17 [4] 1,qm 6 5,⟨some 7,.fld 1 1,some (6,true),[]⟩,⟨some 8,.load false 1 7,some (6,true),[]⟩,⟨some 9,.call 18 [8],some (6,true),[.f 1]⟩,qo 10 (.pick 6 9 (cB false)),qm 11 10,⟨some 12,.load true 2 1,some (11,true),[]⟩,⟨some 13,.call 19 [12],some (11,true),[.f 1]⟩,⟨some 14,.lens 13,some (11,true),[]⟩,⟨some 15,.bin .leq false 14 (ci 60000),some (11,true),[]⟩,qo 16 (.pick 11 15 (cB false)),qm 2 16] .ret)
theorem zhV:look Tryz.prog 11 = some (17,m_i_DictOk,[.tm 2]):=by kernel_rfl
def m_i_NamesOk:M:=so [qo 2 (.mv (cB false))] (.seq (so [qm 5 0,qo 6 (.len 5),qo 7 (.mv (ci 0))] (.block 0 (.loop (so [qo 8 (.bin .lss false 7 6)] (.seq (.cond 8 .skip (.exit 0)) (.seq (.block 1 (so [qm 9 7,qo 10 (.ix 1 5 7),ql 11 1 10,qm 3 9,qm 4 11] (so [qm 12 4,qo 13 (.lens 12),qo 14 (.bin .gtr false 13 (ci 100)),qm 15 14,qg 16 4 15 false,⟨some 17,.call 41 [16],some (15,false),[.f 1]⟩,⟨some 18,.not 17,some (15,false),[]⟩,qo 19 (.pick 15 (cB true) 18),qm 20 19,qg 21 3 20 false,⟨some 22,.bin .geq false 21 (ci 100),some (20,false),[]⟩,qo 23 (.pick 20 (cB true) 22),qm 24 23,qg 25 0 24 false,qg 26 3 24 false,⟨some 27,.slc 1 25 none (some 26),some (24,false),[]⟩,qg 28 4 24 false,⟨some 29,.call 42 [27,28],some (24,false),[.f 1]⟩,qo 30 (.pick 24 (cB true) 29)] (.cond 30 (so [qo 2 (.mv (cB false))] .ret) .skip)))) (.ops [qo 31 (.bin .add false 7 (ci 1)),qm 7 31]))))))) (so [qo 2 (.mv (cB true))] .ret))
theorem zg0:look Tryz.prog 17 = some (32,m_i_NamesOk,[.tm 2]):=by kernel_rfl
def m_i_TableOk:M:=so [qo 2 (.mv (cB false))] (.seq (so [qm 6 0,qo 7 (.len 6),qo 8 (.bin .gtr false 7 (ci 60))] (.cond 8 (so [qo 2 (.mv (cB false))] .ret) .skip)) (.seq (so [qm 9 0,qo 10 (.len 9),qo 11 (.mv (ci 0))] (.block 0 (.loop (so [qo 12 (.bin .lss false 11 10)] (.seq (.cond 12 .skip (.exit 0)) (.seq (.block 1 (so [qm 13 11,qo 14 (.ix 5 9 11),qL 15 5 14,qo 3 (.zero [.int .i64 0]),⟨some 4,.zero [.int .i64 0,.int .i64 0,.int .i64 0,.string ⟨[].toArray⟩,.slice none 0 0],none,[]⟩,qS 1 3 13,qS 5 4 15] (.seq (so [qL 16 5 4,qc 17 43 [16] 1,qo 18 (.not 17)] (.cond 18 (so [qo 2 (.mv (cB false))] .ret) .skip)) (so [qo 5 (.zero [.bool false]),⟨none,.store 1 5 (cB true),none,[]⟩] (so [qL 19 5 4,qo 20 (.mkfn 45 [5,3]),qc 21 44 [19,20] 1] (so [ql 22 1 5,qo 23 (.not 22)] (.cond 23 (so [qo 2 (.mv (cB false))] .ret) .skip))))))) (.ops [qo 24 (.bin .add false 11 (ci 1)),qm 11 24]))))))) (so [qo 2 (.mv (cB true))] .ret)))
theorem zg1:look Tryz.prog 18 = some (25,m_i_TableOk,[.tm 2]):=by kernel_rfl
def m_i_putDict:M:=so [qo 1 (.box 0),⟨some 2,.mv (.c (.string ⟨[].toArray⟩)),none,[]⟩] (so [qo 3 (.zbld 80 5)] (so [qF 8 0 1,ql 9 1 8,qo 10 (.len 9),qo 11 (.conv .u64 10),qc 12 48 [ci 4,11] 1,qc 13 47 [3,12] 1] (.seq (so [qF 14 0 1,ql 15 1 14,qo 16 (.len 15),qo 17 (.mv (ci 0))] (.block 0 (.loop (so [qo 18 (.bin .lss false 17 16)] (.seq (.cond 18 .skip (.exit 0)) (.seq (.block 1 (so [qo 19 (.ix 1 15 17),ql 20 1 19,qm 5 20] (.ops [qm 21 5,qo 22 (.lens 21),qo 23 (.conv .u64 22),qc 24 48 [ci 3,23] 1,qm 25 5,qo 26 (.bin .add false 24 25),qc 27 47 [3,26] 1]))) (.ops [qo 28 (.bin .add false 17 (ci 1)),qm 17 28]))))))) (so [qF 29 1 1,ql 30 1 29,qo 31 (.len 30),qo 32 (.conv .u64 31),qc 33 48 [ci 4,32] 1,qc 34 47 [3,33] 1] (.seq (so [qF 35 1 1,ql 36 1 35,qo 37 (.len 36),qo 38 (.mv (ci 0))] (.block 2 (.loop (so [qo 39 (.bin .lss false 38 37)] (.seq (.cond 39 .skip (.exit 2)) (.seq (.block 3 (so [qo 40 (.ix 5 36 38),qL 41 5 40,⟨some 7,.zero [.int .i64 0,.int .i64 0,.int .i64 0,.string ⟨[].toArray⟩,.slice none 0 0],none,[]⟩,qS 5 7 41] (.ops [qL 42 5 7,qc 43 49 [3,42] 1]))) (.ops [qo 44 (.bin .add false 38 (ci 1)),qm 38 44]))))))) (so [qc 45 50 [3] 1,qm 2 45] .ret))))))
theorem zg2:look Tryz.prog 19 = some (46,m_i_putDict,[.tm 2]):=by kernel_rfl
def m_i_decoder_head:M:=so [qo 2 (.mv (ci 0)),qo 3 (.mv (.c (.int .u64 0)))] (so [qo 4 (.mv (.f 52))] (.seq (so [qm 8 0,qo 9 (.nilc 8),qF 10 2 9,ql 11 1 10] (.cond 11 (.ops [qo 4 (.mv (.f 53))]) .skip)) (so [qm 13 4,qm 14 0,qo 15 (.nilc 14),qF 16 0 15,ql 17 1 16,qm 18 0,qo 19 (.nilc 18),qF 20 1 19,ql 21 1 20,⟨some 22,.callv 13 [17,21],none,[.f 0]⟩,qm 12 22,qe 23 12 0,qe 24 12 1,qe 25 12 2,qm 5 23,qm 6 24,qm 7 25] (.seq (so [qm 26 0,qo 27 (.nilc 26),qF 28 4 27,ql 29 1 28,qm 30 29,qg 31 7 30 false,⟨some 32,.bin .lss false 31 (ci 0),some (30,false),[]⟩,qo 33 (.pick 30 (cB true) 32)] (.cond 33 (so [qm 34 0,qo 35 (.nilc 34),qF 36 4 35,⟨none,.store 1 36 (cB true),none,[]⟩] (so [qo 2 (.mv (ci (-1))),qo 3 (.mv (.c (.int .u64 0)))] .ret)) .skip)) (so [qm 37 0,qm 38 7,qo 39 (.nilc 37),qF 40 1 39,qS 1 40 38] (so [qm 41 5,qm 42 6,qm 2 41,qm 3 42] .ret))))))
theorem zdH:look Tryz.prog 21 = some (43,m_i_decoder_head,[.tm 2,.tm 3]):=by kernel_rfl
def m_i_decoder_bytes:M:=so [⟨some 4,.mv (.c (.string ⟨[].toArray⟩)),none,[]⟩] (.seq (so [qm 6 0,qo 7 (.nilc 6),qF 8 4 7,ql 9 1 8,qm 10 9,qg 11 1 10 false,qg 12 0 10 false,⟨some 13,.nilc 12,some (10,false),[]⟩,⟨some 14,.fld 0 13,some (10,false),[]⟩,⟨some 15,.load false 1 14,some (10,false),[]⟩,⟨some 16,.lens 15,some (10,false),[]⟩,qg 17 0 10 false,⟨some 18,.nilc 17,some (10,false),[]⟩,⟨some 19,.fld 1 18,some (10,false),[]⟩,⟨some 20,.load false 1 19,some (10,false),[]⟩,⟨some 21,.bin .sub false 16 20,some (10,false),[]⟩,⟨some 22,.conv .u64 21,some (10,false),[]⟩,⟨some 23,.bin .gtr false 11 22,some (10,false),[]⟩,qo 24 (.pick 10 (cB true) 23)] (.cond 24 (so [qm 25 0,qo 26 (.nilc 25),qF 27 4 26,⟨none,.store 1 27 (cB true),none,[]⟩] (so [⟨some 4,.mv (.c (.string ⟨[].toArray⟩)),none,[]⟩] .ret)) .skip)) (so [qm 28 0,qo 29 (.nilc 28),qF 30 1 29,ql 31 1 30,qm 5 31] (so [qm 32 0,qo 33 (.nilc 32),qF 34 1 33,ql 35 1 34,qm 36 1,qo 37 (.conv .i64 36),qo 38 (.bin .add false 35 37),qo 39 (.nilc 32),qF 40 1 39,qS 1 40 38] (so [qm 41 0,qo 42 (.nilc 41),qF 43 0 42,ql 44 1 43,qm 45 5,qm 46 0,qo 47 (.nilc 46),qF 48 1 47,ql 49 1 48,qo 50 (.slcs 44 (some 45) (some 49)),qm 4 50] .ret))))
theorem zdp:look Tryz.prog 22 = some (51,m_i_decoder_bytes,[.tm 4]):=by kernel_rfl
def m_slices_Contains_impl_Names_string:M:=so [qo 4 (.mv (cB false))] (so [qm 5 0,qm 6 1,qc 7 74 [5,6] 1,qo 8 (.bin .geq false 7 (ci 0)),qm 4 8] .ret)
theorem zbm:look Tryz.prog 42 = some (9,m_slices_Contains_impl_Names_string,[.tm 4]):=by kernel_rfl
def m_i_walk:M:=so [qo 2 (.box 0)] (so [qm 6 1,qL 7 5 2,⟨some 8,.callv 6 [7],none,[.f 1]⟩] (so [qF 9 4 2,ql 10 1 9,qo 11 (.len 10),qo 12 (.mv (ci 0))] (.block 0 (.loop (so [qo 13 (.bin .lss false 12 11)] (.seq (.cond 13 .skip (.exit 0)) (.seq (.block 1 (so [qo 14 (.ix 5 10 12),qL 15 5 14,⟨some 5,.zero [.int .i64 0,.int .i64 0,.int .i64 0,.string ⟨[].toArray⟩,.slice none 0 0],none,[]⟩,qS 5 5 15] (.ops [qL 16 5 5,qm 17 1,qc 18 44 [16,17] 1]))) (.ops [qo 19 (.bin .add false 12 (ci 1)),qm 12 19]))))))))
theorem lk_i_walk:look Tryz.prog 44 = some (20,m_i_walk,[]):=by kernel_rfl
def m_i_TableOk_1:M:=so [qo 3 (.box 0)] (so [qF 4 0 3,ql 5 1 4,qo 6 (.bin .eql false 5 (ci 9)),qm 7 6,⟨some 8,.fld 1 3,some (7,true),[]⟩,⟨some 9,.load false 1 8,some (7,true),[]⟩,⟨some 10,.bin .eql false 9 (ci 6),some (7,true),[]⟩,qo 11 (.pick 7 10 (cB false))] (.cond 11 (.ops [ql 12 1 1,qm 13 12,⟨some 14,.load true 5 3,some (13,true),[]⟩,⟨some 15,.call 46 [14],some (13,true),[.f 0]⟩,qo 16 (.pick 13 15 (cB false)),qm 17 16,⟨some 18,.fld 4 3,some (17,true),[]⟩,⟨some 19,.load false 1 18,some (17,true),[]⟩,⟨some 20,.ix 5 19 (ci 0),some (17,true),[]⟩,⟨some 21,.fld 1 20,some (17,true),[]⟩,⟨some 22,.load false 1 21,some (17,true),[]⟩,⟨some 23,.load false 1 2,some (17,true),[]⟩,⟨some 24,.bin .lss false 22 23,some (17,true),[]⟩,qo 25 (.pick 17 24 (cB false)),qS 1 1 25]) .skip))
theorem zeU:look Tryz.prog 45 = some (26,m_i_TableOk_1,[]):=by kernel_rfl
def m_i_isRef:M:=so [qo 1 (.box 0),qo 2 (.mv (cB false))] (so [qF 3 4 1,ql 4 1 3,qo 5 (.ix 5 4 (ci 0)),qF 6 0 5,ql 7 1 6,qo 8 (.bin .eql false 7 (ci 3)),qm 9 8,⟨some 10,.fld 4 1,some (9,true),[]⟩,⟨some 11,.load false 1 10,some (9,true),[]⟩,⟨some 12,.ix 5 11 (ci 0),some (9,true),[]⟩,⟨some 13,.fld 1 12,some (9,true),[]⟩,⟨some 14,.load false 1 13,some (9,true),[]⟩,⟨some 15,.bin .geq false 14 (ci 0),some (9,true),[]⟩,qo 16 (.pick 9 15 (cB false)),qm 2 16] .ret)
theorem lk_i_isRef:look Tryz.prog 46 = some (17,m_i_isRef,[.tm 2]):=by kernel_rfl
def m_slices_Index_impl_Names_string:M:=so [qo 4 (.mv (ci 0))] (.seq (so [qm 6 0,qo 7 (.len 6),qo 8 (.mv (ci 0))] (.block 0 (.loop (so [qo 9 (.bin .lss false 8 7)] (.seq (.cond 9 .skip (.exit 0)) (.seq (.block 1 (so [qm 10 8,qm 5 10] (so [qm 11 1,qm 12 0,qm 13 5,qo 14 (.ix 1 12 13),ql 15 1 14,qo 16 (.bin .eql false 11 15)] (.cond 16 (so [qm 17 5,qm 4 17] .ret) .skip)))) (.ops [qo 18 (.bin .add false 8 (ci 1)),qm 8 18]))))))) (so [qo 4 (.mv (ci (-1)))] .ret))
theorem zbu:look Tryz.prog 74 = some (19,m_slices_Index_impl_Names_string,[.tm 4]):=by kernel_rfl
end
section
def VSmA (n:Nat):Prop:=∀ (x y:V) (cs ds:List Value) (w:World),x.nodes <= n -> Rd w x.d cs -> Rd w y.d ds -> x.bulk <= 4294967295 -> y.bulk <= 4294967295 ->
 Calls Tryz.prog 128 #[.agg cs.toArray,.agg ds.toArray] w fun e w' => e = .returned (.bool (decide (x = y))) /\ Below w.heap.size w w'
def VSmB (n:Nat):Prop:=∀ (x y:List V) (va vb:Value) (w:World),V.nodess x <= n -> Rd w (.sl 5 (V.ds x)) [va] -> Rd w (.sl 5 (V.ds y)) [vb] -> x.length + V.bulks x <= 4294967295 -> y.length + V.bulks y <= 4294967295 ->
 Calls Tryz.prog 139 #[va,vb,.func (.func 128) #[] #[]] w fun e w' => e = .returned (.bool (decide (x = y))) /\ Below w.heap.size w w'
theorem VSmB_of {n:Nat} (hA:VSmA n):VSmB n:=by
 intro la lb va vb w hn h h2 hla hlb;obtain ⟨a,c,rfl,hg⟩:=h.values;obtain ⟨a',c',rfl,hg'⟩:=h2.values;by_cases hlen:la.length = lb.length
 ·have hlt:((la.length:Int) != (lb.length:Int)) = false:=by simp [hlen]
  have HL:=Lib.hid hlen; clear hlen
  go_enter Tryz.func139,Tryz.ntmps139
  go_wp2
  go_loopw [17] (fun i wr => ∃ (k:Nat),k <= la.length /\ i = .int .i64 k /\ la.take k = lb.take k /\ Below w.heap.size w wr) (fun i _ => la.length - (intOf i).toNat)
  case atStart => exact ⟨0,Nat.zero_le _,rfl,by simp,Below.refl _ _⟩
  case round =>
   obtain ⟨k,hk,rfl,htk,hbel⟩:=hrel;have HT:=Lib.hid htk; clear htk
   by_cases hk1:k < la.length
   ·have hk2:k < lb.length:=by have:=HL.out; omega
    obtain ⟨_,_,b,o,rfl,hb,hcell⟩:=hg (by intro e; rw [e] at hk1; simp at hk1);obtain ⟨_,_,b',o',rfl,hb',hcell'⟩:=hg' (by intro e; rw [e] at hk2; simp at hk2);obtain ⟨v0,v1,v2,v3,v4,hr,c0,c1,c2,c3,c4⟩:=hcell k hk1;obtain ⟨x0,x1,x2,x3,x4,hs,d0,d1,d2,d3,d4⟩:=hcell' k hk2;obtain ⟨k1,k2,k3,s4,a6,n6,m6,hcs⟩:=V.form hr;obtain ⟨j1,j2,j3,t4,b6,p6,q6,hds⟩:=V.form hs;simp only [cons.injEq,and_true] at hcs hds;obtain ⟨rfl,rfl,rfl,rfl,rfl⟩:=hcs;obtain ⟨rfl,rfl,rfl,rfl,rfl⟩:=hds;clear hcell hcell' hg hg';obtain ⟨hbc,_⟩:=zbF hbel;have hsz:=hbel.size;have hi1:(0:Int) <= k:=by omega
    have hi2:(k:Int) < lb.length:=by omega
    have hi3:(k:Int) < la.length:=by omega
    have hz1:b < wr.heap.size:=by omega
    have hz2:b' < wr.heap.size:=by omega
    have hnk:=Nat.le_trans (V.nodes_get la k hk1) hn;have hr':=hr.below hbel;have hs':=hs.below hbel;have hA2:=(hbel.alloc hsz (.cells #[.int .i64 k1,.int .i64 k2,.int .i64 k3,.string ⟨s4.toArray⟩,.slice a6 n6 m6] 51)).alloc (by simp; omega) (.cells #[.int .i64 j1,.int .i64 j2,.int .i64 j3,.string ⟨t4.toArray⟩,.slice b6 p6 q6] 51);by_cases he:la[k] = lb[k]
    ·have hd:=Lib.hid (decide_eq_true he)
     have HE:=Lib.hid he;clear he
     go_wp2_with (go_at_call 128; refine (hA _ _ _ _ _ hnk ((hr'.alloc _).alloc _) ((hs'.alloc _).alloc _) (V.bulk_get hla k hk1) (V.bulk_get hlb k hk2)).mono ?_; rw [hd.out]; rintro e w1 ⟨rfl,hb1⟩)
     go_roundw
     case rel => exact ⟨k + 1,by omega,by go_num,zgb HT.out hk1 hk2 HE.out,zaB hA2 hb1 lR⟩
     case measure => simp [intOf] <;> omega
    ·have hd:=Lib.hid (decide_eq_false he)
     have HE:=Lib.hid (decide_eq_false (ne_of_get hk1 hk2 he));clear he
     go_wp2_with (go_at_call 128; refine (hA _ _ _ _ _ hnk ((hr'.alloc _).alloc _) ((hs'.alloc _).alloc _) (V.bulk_get hla k hk1) (V.bulk_get hlb k hk2)).mono ?_; rw [hd.out]; rintro e w1 ⟨rfl,hb1⟩)
     go_ret;exact ⟨by rw [HE.out]; rfl,zaB hA2 hb1 lR⟩
   ·obtain rfl:k = la.length:=by omega
    have he:la = lb:=by have:=HT.out; rw [take_length,HL.out,take_length] at this; exact this
    have H:=Lib.hid (decide_eq_true he);clear he;go_wp2;go_ret;exact ⟨by rw [H.out]; rfl,hbel⟩
 ·have H:=Lib.hid (decide_eq_false (show ¬ la = lb from fun e => hlen (by rw [e])))
  go_enter Tryz.func139,Tryz.ntmps139
  go_wp2;go_ret;exact ⟨by rw [H.out]; rfl,Below.refl _ _⟩
theorem VSmA_of {n:Nat} (hB:VSmB n):VSmA (n + 1):=by
 intro x y cs ds w hn h h2 hx hy;obtain ⟨k,m,q,s,kids,v1,rfl,rfl,hkids⟩:=V.lay h;obtain ⟨k',m',q',s',kids',v1',rfl,rfl,hkids'⟩:=V.lay h2;have hnk:V.nodess kids <= n:=by simp only [V.nodes] at hn; omega
 simp only [V.bulk] at hx hy;have hA:=((Below.refl w.heap.size w).alloc lR (.cells #[.int .i64 k,.int .i64 m,.int .i64 q,.string ⟨s.toArray⟩,v1] 51)).alloc (by simp) (.cells #[.int .i64 k',.int .i64 m',.int .i64 q',.string ⟨s'.toArray⟩,v1'] 51);by_cases e1:k = k' /\ m = m' /\ q = q' /\ s = s'
 ·obtain ⟨rfl,rfl,rfl,rfl⟩:=e1
  go_enter Tryz.func128,Tryz.ntmps128
  go_wp2_with fail
  refine (hB _ _ _ _ _ hnk ((hkids.below hA)) (hkids'.below hA) (by omega) (by omega)).mono ?_;by_cases e4:kids = kids'
  ·subst e4
   rw [decide_eq_true rfl];rintro e w2 ⟨rfl,hb2⟩;go_wp2;go_ret;exact ⟨by simp,zaB hA hb2 lR⟩
  ·have H:=Lib.hid (V.ne_mk (k:=k) (m:=m) (e:=q) (s:=s) (kids:=kids) (k':=k) (m':=m) (e':=q) (s':=s) (kids':=kids') (by simp [e4]))
   rw [decide_eq_false e4];rintro e w2 ⟨rfl,hb2⟩;clear e4;go_wp2;go_ret;exact ⟨by rw [H.out]; rfl,zaB hA hb2 lR⟩
 ·have H:=Lib.hid (V.ne_mk (k:=k) (m:=m) (e:=q) (s:=s) (kids:=kids) (k':=k') (m':=m') (e':=q') (s':=s') (kids':=kids') (by rintro ⟨a,b,c,d,_⟩; exact e1 ⟨a,b,c,d⟩))
  have HA:=Lib.hid hA;by_cases c1:k = k'
  ·subst c1
   by_cases c2:m = m'
   ·subst c2
    by_cases c3:q = q'
    ·subst c3
     have c4:(s == s') = false:=by simpa using fun c => e1 ⟨rfl,rfl,rfl,c⟩
     clear e1
     go_enter Tryz.func128,Tryz.ntmps128
     go_wp2_with fail
     go_ret;exact ⟨by rw [H.out]; rfl,HA.out⟩
    ·clear e1
     have c4:(q == q') = false:=by simpa using c3
     go_enter Tryz.func128,Tryz.ntmps128
     go_wp2_with fail
     go_ret;exact ⟨by rw [H.out]; rfl,HA.out⟩
   ·clear e1
    have c4:(m == m') = false:=by simpa using c2
    go_enter Tryz.func128,Tryz.ntmps128
    go_wp2_with fail
    go_ret;exact ⟨by rw [H.out]; rfl,HA.out⟩
  ·clear e1
   have c4:(k == k') = false:=by simpa using c1
   go_enter Tryz.func128,Tryz.ntmps128
   go_wp2_with fail
   go_ret;exact ⟨by rw [H.out]; rfl,HA.out⟩
theorem VSm_all:∀ n,VSmA n
 | 0 => fun x y cs ds w hn => absurd x.nodes_pos (by omega)
 | n + 1 => VSmA_of (VSmB_of (VSm_all n))
theorem same_any (x y:V) (cs ds:List Value) (w:World) (h:Rd w x.d cs) (h2:Rd w y.d ds) (hx:x.bulk <= 4294967295) (hy:y.bulk <= 4294967295) :
  Calls Tryz.prog 128 #[.agg cs.toArray,.agg ds.toArray] w fun e w' => e = .returned (.bool (decide (x = y))) /\ Below w.heap.size w w':=VSm_all x.nodes x y cs ds w lR h h2 hx hy
end
section
theorem isKey_any (x:V) (cs:List Value) (w:World) (h:Rd w x.d cs) :
  Calls Tryz.prog 127 #[.agg cs.toArray] w fun e w' => e = .returned (.bool (isKeyK x.kind)) /\ Below w.heap.size w w':=by
 obtain ⟨k,m,e,s,kids,v1,rfl,rfl,hkids⟩:=V.lay h;have HA:=Lib.hid ((Below.refl w.heap.size w).alloc lR (.cells #[.int .i64 k,.int .i64 m,.int .i64 e,.string ⟨s.toArray⟩,v1] 51));clear h hkids;show Calls _ _ _ _ fun e' w' => e' = .returned (.bool (isKeyK k)) /\ _
 by_cases h5:k = 5
 ·subst h5
  go_enter Tryz.func127,Tryz.ntmps127
  go_wp2;go_ret;exact ⟨rfl,HA.out⟩
 ·have g5:(k == 5) = false:=by simpa using h5
  have H:=Lib.hid (show isKeyK k = (k == 3) by unfold isKeyK; rw [decide_eq_false h5,Bool.false_or]; rfl)
  go_enter Tryz.func127,Tryz.ntmps127
  go_wp2;go_ret;exact ⟨by rw [H.out]; rfl,HA.out⟩
def V.kidsOk (k:Int) (kids:List V):Bool :=
 if k = 7 then true else if k = 9 then decide (kids.length = 1) else if k = 8 then pairsOkI kids else decide (kids = [])
theorem len0' (l:List V):((l.length:Int) == 0) = decide (l = []):=by
 cases l with
 | nil => rfl
 | cons a r => simp; omega
theorem zhW (x:V) (cs:List Value) (w:World) (h:Rd w x.d cs) (hbk:x.bulk <= 4294967295) :
  Calls Tryz.prog 109 #[.agg cs.toArray] w fun e w' => e = .returned (.bool (V.kidsOk x.kind x.kids)) /\ Below w.heap.size w w':=by
 obtain ⟨q,n,e,s,xs,v1,rfl,rfl,hkids⟩:=V.lay h;have hkb:xs.length + V.bulks xs <= 4294967295:=by simp only [V.bulk] at hbk; omega
 obtain ⟨a,c,rfl,hg⟩:=hkids.values;show Calls _ _ _ _ fun e' w' => e' = .returned (.bool (V.kidsOk q xs)) /\ _
 obtain ⟨ok,hok⟩:∃ ok,V.kidsOk q xs = ok:=⟨_,rfl⟩;rw [hok];have HOK:=Lib.hid hok; clear hok
 obtain ⟨W0,hW0⟩:∃ W0,W0 = w.alloc (.cells #[.int .i64 q,.int .i64 n,.int .i64 e,.string ⟨s.toArray⟩,.slice a xs.length c] 51):=⟨_,rfl⟩;have HW:=Lib.hid hW0;have hA0:Below w.heap.size w W0:=by rw [hW0]; exact (Below.refl _ _).alloc lR _
 have hz:w.heap.size < W0.heap.size:=by rw [hW0]; simp
 have KB:Hid (∀ W,Below W0.heap.size W0 W -> W.cell? ⟨w.heap.size,0,none⟩ = some (.int .i64 q) /\ W.cell? ⟨w.heap.size,4,none⟩ = some (.slice a xs.length c)):=by
  intro W hb;obtain ⟨hc,_⟩:=zbF hb;simp only [hc _ _ hz]; subst hW0; simp
 clear hW0 h hkids hbk;obtain ⟨f0,f4⟩:=KB.out _ (Below.refl _ _);by_cases q7:q = 7
 ·subst q7
  have H:=Lib.hid (show ok = true by rw [<- HOK.out]; rfl)
  go_enter Tryz.func109,Tryz.ntmps109
  go_wp2;rw [<- HW.out];go_ret;exact ⟨by rw [H.out]; rfl,hA0⟩
 by_cases q9:q = 9
 ·subst q9
  have H:=Lib.hid (show ok = decide (xs.length = 1) by rw [<- HOK.out]; rfl)
  go_enter Tryz.func109,Tryz.ntmps109
  go_wp2;rw [<- HW.out];go_ret;exact ⟨by rw [H.out]; exact zaI (by rw [Bool.eq_iff_iff]; simp; omega),hA0⟩
 by_cases q8:q = 8
 ·subst q8
  have HP:=Lib.hid (show ok = pairsOkI xs by rw [<- HOK.out]; rfl);obtain ⟨ks,hks⟩:∃ ks,odds xs = ks:=⟨_,rfl⟩;have hkl:ks.length = (xs.length + 1) / 2:=by rw [<- hks,zbQ]
  have HKG:Hid (∀ j (h1:2 * j < xs.length) (h2:j < ks.length),ks[j] = xs[2 * j]):=by
   intro j h1 h2; subst hks; exact odds_get xs j h1
  have HKS:=Lib.hid hks; clear hks
  clear q7 q9
  go_enter Tryz.func109,Tryz.ntmps109
  go_wp2;rw [<- HW.out]
  go_loopw [3] (fun i wr => ∃ (j k:Nat),k = 2 * j /\ j <= ks.length /\ i = .int .i64 k /\ uniq id (ks.take j) = true /\ Below W0.heap.size W0 wr) (fun i _ => xs.length + 1 - (intOf i).toNat)
  case atStart => exact ⟨0,0,rfl,Nat.zero_le _,rfl,by simp [uniq],Below.refl _ _⟩
  case round =>
   obtain ⟨j,k,hkj,hj,rfl,hu,hbel⟩:=hrel;have HKJ:=Lib.hid hkj;have HU:=Lib.hid hu; clear hu f0 f4
   obtain ⟨f0,f4⟩:=KB.out _ hbel;have hbw:=zaB hA0 hbel lR;by_cases hlt:k < xs.length
   ·have hjk:j < ks.length:=by omega
    have hkk:=HKG.out j (by omega) hjk;obtain ⟨_,_,b,o,rfl,hb,hcell⟩:=hg (by intro e; rw [e] at hlt; simp at hlt);have HC:=Lib.hid hcell;obtain ⟨v0,v1,v2,v3,v4,hr,d0,d1,d2,d3,d4⟩:=hcell k hlt;clear hcell;obtain ⟨k1,k2,k3,s4,a6,n6,m6,hcs⟩:=V.form hr;simp only [cons.injEq,and_true] at hcs;obtain ⟨rfl,rfl,rfl,rfl,rfl⟩:=hcs;have hbc:=(zbF hbw).1;rw [<- hbc _ _ hb] at d0 d1 d2 d3 d4;have HX:=Lib.hid (show ks[j] = xs[k] by rw [hkk]; subst hkj; rfl);have hi1:(0:Int) <= k:=by omega
    have hi3:(k:Int) < xs.length:=by omega
    have hbz:b < W0.heap.size:=by have:=hA0.size; omega
    have HD:Hid (∀ W,Below W0.heap.size W0 W -> W.cell? ⟨b,o + k * 5,none⟩ = some (.int .i64 k1) /\ W.cell? ⟨b,o + k * 5 + 1,none⟩ = some (.int .i64 k2) /\ W.cell? ⟨b,o + k * 5 + 2,none⟩ = some (.int .i64 k3) /\ W.cell? ⟨b,o + k * 5 + 3,none⟩ = some (.string ⟨s4.toArray⟩) /\ W.cell? ⟨b,o + k * 5 + 4,none⟩ = some (.slice a6 n6 m6)):=by
     intro W hW;have h1:=(zbF hW).1;have h2:=(zbF hbel).1;rw [h2 _ _ hbz] at d0 d1 d2 d3 d4;simp only [h1 _ _ hbz]; exact ⟨d0,d1,d2,d3,d4⟩
    have HK1:=Lib.hid (fun W (hW:Below W0.heap.size W0 W) => isKey_any xs[k] _ W (hr.below (zaB hA0 hW lR)));have HXR:=Lib.hid (fun W (hW:Below W0.heap.size W0 W) => (hr.below (zaB hA0 hW lR)));clear hbc hkk hkj hr
    cases hkey:isKeyK xs[k].kind with
    | true =>
     have HK:=Lib.hid hkey; clear hkey
     go_wp2_with (go_at_call 127; refine (HK1.out _ hbel).mono ?_; rw [HK.out]; rintro e w1 ⟨rfl,hb1⟩; have hbe1:=zaB hbel hb1 lR; clear d0 d1 d2 d3 d4 f0 f4; obtain ⟨f0,f4⟩:=KB.out _ hbe1)
     go_loopw [4] (fun i wr => ∃ (m r:Nat),r = 2 * m /\ m <= j /\ i = .int .i64 r /\ xs[k] ∉ ks.take m /\ Below W0.heap.size W0 wr) (fun i _ => k + 1 - (intOf i).toNat)
     case atStart => exact ⟨0,0,rfl,Nat.zero_le _,rfl,by simp,hbe1⟩
     case round =>
      obtain ⟨m,r,hrm,hm,rfl,hni,hbel2⟩:=hrel;have HRM:=Lib.hid hrm;have HNI:=Lib.hid hni; clear hni
      have hkj:=HKJ.out;have hbw2:=zaB hA0 hbel2 lR;clear f0 f4;obtain ⟨f0,f4⟩:=KB.out _ hbel2;by_cases hml:r < k
      ·have hrx:r < xs.length:=by omega
       have hmk:m < ks.length:=by omega
       have hmm:=HKG.out m (by omega) hmk;obtain ⟨u0,u1,u2,u3,u4,hr2,e0,e1,e2,e3,e4⟩:=HC.out r hrx;obtain ⟨y1,y2,y3,t4,b6,p6,r6,hcs2⟩:=V.form hr2;simp only [cons.injEq,and_true] at hcs2;obtain ⟨rfl,rfl,rfl,rfl,rfl⟩:=hcs2;have HY:=Lib.hid (show ks[m] = xs[r] by rw [hmm]; subst hrm; rfl)
       have HE:Hid (∀ W,Below W0.heap.size W0 W -> W.cell? ⟨b,o + r * 5,none⟩ = some (.int .i64 y1) /\ W.cell? ⟨b,o + r * 5 + 1,none⟩ = some (.int .i64 y2) /\ W.cell? ⟨b,o + r * 5 + 2,none⟩ = some (.int .i64 y3) /\ W.cell? ⟨b,o + r * 5 + 3,none⟩ = some (.string ⟨t4.toArray⟩) /\ W.cell? ⟨b,o + r * 5 + 4,none⟩ = some (.slice b6 p6 r6)):=by
        intro W hW;have h1:=(zbF (zaB hA0 hW lR)).1;simp only [h1 _ _ hb]; exact ⟨e0,e1,e2,e3,e4⟩
       have hj1:(0:Int) <= r:=by omega
       have hj3:(r:Int) < xs.length:=by omega
       have hj5:(r:Int) < k:=by omega
       have hm5:m < j:=by omega
       have hr5:r + 2 < k + 3:=by omega
       have HS:=Lib.hid (fun W (hW:Below W0.heap.size W0 W) => same_any xs[k] xs[r] _ _ W (HXR.out W hW) (hr2.below (zaB hA0 hW lR)) (V.bulk_get hkb k hlt) (V.bulk_get hkb r hrx));have hB:=hbel2;clear hmm hrm hkj e0 e1 e2 e3 e4 hr2 f0 f4;by_cases heq:xs[k] = xs[r]
       ·have HQ:=Lib.hid (decide_eq_true heq)
        have HF:=Lib.hid (show ok = false by
         rw [HP.out]; unfold pairsOkI; rw [HKS.out,zer hjk (by
          rw [HX.out,map_id];exact mem_take_iff_getElem.2 ⟨m,by omega,by rw [HY.out,<- heq]; rfl⟩)]; rfl)
        clear heq
        go_wp2_with fail
        go_region_held3 (fun W => (W.cell? ⟨w.heap.size,0,none⟩ = some (.int .i64 8) /\ W.cell? ⟨w.heap.size,4,none⟩ = some (.slice (some ⟨b,o,none⟩) xs.length c)) /\ (W.cell? ⟨b,o + k * 5,none⟩ = some (.int .i64 k1) /\ W.cell? ⟨b,o + k * 5 + 1,none⟩ = some (.int .i64 k2) /\ W.cell? ⟨b,o + k * 5 + 2,none⟩ = some (.int .i64 k3) /\ W.cell? ⟨b,o + k * 5 + 3,none⟩ = some (.string ⟨s4.toArray⟩) /\ W.cell? ⟨b,o + k * 5 + 4,none⟩ = some (.slice a6 n6 m6)) /\ W.cell? ⟨b,o + r * 5,none⟩ = some (.int .i64 y1) /\ W.cell? ⟨b,o + r * 5 + 1,none⟩ = some (.int .i64 y2) /\ W.cell? ⟨b,o + r * 5 + 2,none⟩ = some (.int .i64 y3) /\ W.cell? ⟨b,o + r * 5 + 3,none⟩ = some (.string ⟨t4.toArray⟩) /\ W.cell? ⟨b,o + r * 5 + 4,none⟩ = some (.slice b6 p6 r6))
         (first | exact ⟨KB.out _ hB,HD.out _ hB,HE.out _ hB⟩ | exact ⟨KB.out _ hB.drew,HD.out _ hB.drew,HE.out _ hB.drew⟩)
         (first | (go_at_call 128; with_reducible refine (HS.out _ (by first | exact hB | exact hB.drew)).mono ?_; rw [HQ.out]; rintro e w2 ⟨rfl,hb2⟩; replace hB:=zaB (by first | exact hB | exact hB.drew) hb2 lR))
        go_wp2;go_ret;exact ⟨by rw [HF.out]; rfl,zaB hA0 hB lR⟩
       ·have HQ:=Lib.hid (decide_eq_false heq)
        have HM:Hid (xs[k] ∉ ks.take (m + 1)):=by
         show _ ∉ _;rw [take_succ_eq_append_getElem hmk,mem_append,HY.out];rintro (h | h)
         ·exact HNI.out h
         ·exact heq (by simpa using h)
        clear heq
        go_wp2_with fail
        go_region_held3 (fun W => (W.cell? ⟨w.heap.size,0,none⟩ = some (.int .i64 8) /\ W.cell? ⟨w.heap.size,4,none⟩ = some (.slice (some ⟨b,o,none⟩) xs.length c)) /\ (W.cell? ⟨b,o + k * 5,none⟩ = some (.int .i64 k1) /\ W.cell? ⟨b,o + k * 5 + 1,none⟩ = some (.int .i64 k2) /\ W.cell? ⟨b,o + k * 5 + 2,none⟩ = some (.int .i64 k3) /\ W.cell? ⟨b,o + k * 5 + 3,none⟩ = some (.string ⟨s4.toArray⟩) /\ W.cell? ⟨b,o + k * 5 + 4,none⟩ = some (.slice a6 n6 m6)) /\ W.cell? ⟨b,o + r * 5,none⟩ = some (.int .i64 y1) /\ W.cell? ⟨b,o + r * 5 + 1,none⟩ = some (.int .i64 y2) /\ W.cell? ⟨b,o + r * 5 + 2,none⟩ = some (.int .i64 y3) /\ W.cell? ⟨b,o + r * 5 + 3,none⟩ = some (.string ⟨t4.toArray⟩) /\ W.cell? ⟨b,o + r * 5 + 4,none⟩ = some (.slice b6 p6 r6))
         (first | exact ⟨KB.out _ hB,HD.out _ hB,HE.out _ hB⟩ | exact ⟨KB.out _ hB.drew,HD.out _ hB.drew,HE.out _ hB.drew⟩)
         (first | (go_at_call 128; with_reducible refine (HS.out _ (by first | exact hB | exact hB.drew)).mono ?_; rw [HQ.out]; rintro e w2 ⟨rfl,hb2⟩; replace hB:=zaB (by first | exact hB | exact hB.drew) hb2 lR))
        go_wp2;go_roundw
        case rel => exact ⟨m + 1,r + 2,by have:=HRM.out; omega,by omega,by go_num,HM.out,hB⟩
        case measure => simp [intOf]; omega
      ·obtain rfl:m = j:=by omega
       have HM:Hid (uniq id (ks.take (m + 1)) = true):=zeq hjk HU.out (by rw [HX.out]; exact HK.out) (by rw [HX.out,map_id]; exact HNI.out);clear hrm hkj;go_wp2;go_roundw
       case rel => exact ⟨m + 1,k + 2,by have:=HKJ.out; omega,by omega,by go_num,HM.out,hbel2⟩
       case measure => simp [intOf]; omega
    | false =>
     have HK:=Lib.hid hkey;have HF:=Lib.hid (show ok = false by rw [HP.out]; unfold pairsOkI; rw [HKS.out,zgq hjk (by rw [HX.out]; exact hkey)]; rfl);clear hkey
     go_wp2_with (go_at_call 127; refine (HK1.out _ hbel).mono ?_; rw [HK.out]; rintro e w1 ⟨rfl,hb1⟩)
     go_ret;exact ⟨by rw [HF.out]; rfl,zaB hbw hb1 lR⟩
   ·obtain rfl:j = ks.length:=by omega
    clear hkj;have h1:=HU.out;rw [take_length] at h1;have HF:=Lib.hid (show ok = decide (xs.length % 2 = 0) by rw [HP.out]; unfold pairsOkI; rw [HKS.out,h1]; rfl);clear h1;go_wp2;go_ret;exact ⟨by rw [HF.out]; exact zaI (by rw [Bool.eq_iff_iff]; simp <;> omega),hbw⟩
 ·have H:=Lib.hid (show ok = decide (xs = []) by rw [<- HOK.out]; unfold V.kidsOk; rw [if_neg q7,if_neg q9,if_neg q8])
  have g7:(q == 7) = false:=by simpa using q7
  have g8:(q == 8) = false:=by simpa using q8
  have g9:(q == 9) = false:=by simpa using q9
  go_enter Tryz.func109,Tryz.ntmps109
  go_wp2;rw [<- HW.out];go_ret;exact ⟨by rw [H.out,<- len0']; rfl,hA0⟩
end
end Go.Proofs.YtmmcehkdnnolkaaGreatDoor
/-
  DERIVED: THE SHELF's CONTRACTS AT THIS DUMP, IN PLAIN WORDS (tools/lay-plain.mjs out of 'TryzShelf.lean', which tools/lay-shelf.mjs wrote): THE SAME DECLARATIONS UNDER THE SAME NAMES: 'import', 'namespace', 'open', 'def', 'theorem' AND NOTHING ELSE: no command of the shelf's: FOR A HAND-IN. Each laying: the table of numbers ('.._ren') and one theorem, a field a fact of the dump's own or the kernel's comparison; each contract: ONE APPLICATION.
-/
namespace Go.Proofs
open Go.Shelf
def Tryz.laysValid_ren:Go.Shelf.Ren:=⟨fun | 196 => 73 | 259 => 107 | n => n,fun | 9 => 9 | 4 => 4 | 3 => 3 | 5 => 5 | 12 => 12 | 119 => 132 | 0 => 0 | 46 => 112 | 139 => 135 | 138 => 134 | 53 => 46 | n => n,fun | 3 => 0 | 4 => 1 | n => n⟩
theorem Tryz.laysValid:Go.Proofs.Lays.n196 Tryz.prog Tryz.laysValid_ren:={
 mixed:=by kernel_rfl
 f196:=Tryz.func73.trans (congrArg some (by kernel_rfl))
 f259:=Tryz.func107.trans (congrArg some (by kernel_rfl))
 t0:=Tryz.underlying0
 a0:=Tryz.isAgg0
 z0:=Tryz.sizeOf0
 v0:=Tryz.zeroValue0
 t3:=Tryz.underlying3
 a3:=Tryz.isAgg3
 z3:=Tryz.sizeOf3
 v3:=Tryz.zeroValue3
 t4:=Tryz.underlying4
 a4:=Tryz.isAgg4
 z4:=Tryz.sizeOf4
 v4:=Tryz.zeroValue4
 t5:=Tryz.underlying5
 a5:=Tryz.isAgg5
 z5:=Tryz.sizeOf5
 v5:=Tryz.zeroValue5
 t9:=Tryz.underlying9
 a9:=Tryz.isAgg9
 z9:=Tryz.sizeOf9
 v9:=Tryz.zeroValue9
 t12:=Tryz.underlying12
 a12:=Tryz.isAgg12
 z12:=Tryz.sizeOf12
 v12:=Tryz.zeroValue12
 t46:=Tryz.underlying112
 a46:=Tryz.isAgg112
 z46:=Tryz.sizeOf112
 v46:=Tryz.zeroValue112
 t53:=Tryz.underlying46
 a53:=Tryz.isAgg46
 z53:=Tryz.sizeOf46
 v53:=Tryz.zeroValue46
 t119:=Tryz.underlying132
 a119:=Tryz.isAgg132
 z119:=Tryz.sizeOf132
 t138:=Tryz.underlying134
 a138:=Tryz.isAgg134
 z138:=Tryz.sizeOf134
 v138:=Tryz.zeroValue134
 t139:=Tryz.underlying135
 a139:=Tryz.isAgg135
 z139:=Tryz.sizeOf135
 v139:=Tryz.zeroValue135
 g3:=by kernel_rfl
 g4:=by kernel_rfl }
open Go.RowKit Go.Lib in
theorem Tryz.utf8_ValidString (s:ByteArray) (w:World) (hs:s.size <= 9223372036854775807) (hT:Lib.Utf8Tabs 0 1 w) :
  Calls Tryz.prog 73 #[.string s] w fun e w' => e = .returned (.bool (Lib.validD s.data.toList)) /\ Below w.heap.size w w':=Any.utf8_ValidString Tryz.laysValid s w hs hT
end Go.Proofs
namespace Go.Proofs.YtmmcehkdnnolkaaGreatDoor
open Go.RowKit
set_option maxHeartbeats 4000000
set_option maxRecDepth 100000
open List
section
open Go.Lib (validD)
def Tabs (w:World):Prop:=Lib.Utf8Tabs 0 1 w
theorem Tabs.below {w w':World} (h:Tabs w) (hb:Below w.heap.size w w'):Tabs w':=Utf8Tabs_below h hb
theorem Tabs.lt {w:World} (h:Tabs w):0 < w.heap.size /\ 1 < w.heap.size:=by
 have key:∀ {b o:Nat} {v:Value},w.cell? ⟨b,o,none⟩ = some v -> b < w.heap.size:=by
  intro b o v h; apply Classical.byContradiction; intro hn
  simp [World.cell?,Array.getElem?_eq_none (Nat.le_of_not_lt hn)] at h
 exact ⟨key (h.1 0 (by decide)),key (h.2 0 (by decide)).1⟩
theorem Tabs.below' {B:Nat} {w w':World} (h:Tabs w) (hb:Below B w w') (h1:0 < B) (h2:1 < B):Tabs w':=by
 refine ⟨fun c hc => ?_,fun i hi => ?_⟩
 ·rw [hb.cell (p:=⟨_,_,none⟩) h1]; exact h.1 c hc
 ·rw [hb.cell (p:=⟨_,_,none⟩) h2,hb.cell (p:=⟨_,_,none⟩) h2]; exact h.2 i hi
theorem zc3 (l:L8) (w:World) (hl:l.length <= 4294967295) (hT:Tabs w) :
  Calls Tryz.prog 41 #[.string ⟨l.toArray⟩] w fun e w' => e = .returned (.bool (validD l)) /\ Below w.heap.size w w':=by
 have HC:=Lib.hid (Tryz.utf8_ValidString ⟨l.toArray⟩ w (by simp [ByteArray.size]; omega) hT)
 go_enter Tryz.func41,Tryz.ntmps41
 go_wp2_with (go_at_call 73; refine HC.out.mono ?_; rintro e w1 ⟨rfl,hb1⟩)
 go_ret;exact ⟨rfl,hb1⟩
end
section
open Go.Lib (validD)
def V.node:V -> Bool
 | .mk k n e s _ =>
  if k = 0 \/ k = 1 \/ k = 2 \/ k = 7 \/ k = 8 then decide (n = 0) && (decide (e = 0) && decide (s = []))
  else if k = 3 then decide (e = 0) && decide (s = [])
  else if k = 4 then decOk n e && decide (s = [])
  else if k = 5 then decide (s.length <= 2000) && (validD s && (decide (n = 0) && decide (e = 0)))
  else if k = 6 then decide (s.length <= 2000) && (decide (n = 0) && decide (e = 0))
  else if k = 9 then inR n 0 1000000 && (decide (e = 0) && decide (s = []))
  else false
theorem V.selfI_node (x:V):x.selfI = (x.node && V.kidsOk x.kind x.kids):=by
 obtain ⟨k,n,e,s,kids⟩:=x;show V.selfBy pairsOkI _ = (_ && V.kidsOk k kids);unfold V.node V.kidsOk V.selfBy;by_cases h0:k = 0 \/ k = 1 \/ k = 2
 ·rcases h0 with rfl | rfl | rfl <;> simp [Bool.and_assoc]
 by_cases h3:k = 3
 ·subst h3; simp [Bool.and_assoc]
 by_cases h4:k = 4
 ·subst h4; simp [Bool.and_assoc]
 by_cases h5:k = 5
 ·subst h5
  show (decide (n = 0) && (decide (e = 0) && (validD s && (decide (s.length <= 2000) && decide (kids = []))))) = ((decide (s.length <= 2000) && (validD s && (decide (n = 0) && decide (e = 0)))) && decide (kids = []))
  cases decide (n = 0) <;> cases decide (e = 0) <;> cases validD s <;> cases decide (s.length <= 2000) <;> cases decide (kids = []) <;> rfl
 by_cases h6:k = 6
 ·subst h6
  show (decide (n = 0) && (decide (e = 0) && (decide (s.length <= 2000) && decide (kids = [])))) = ((decide (s.length <= 2000) && (decide (n = 0) && decide (e = 0))) && decide (kids = []))
  cases decide (n = 0) <;> cases decide (e = 0) <;> cases decide (s.length <= 2000) <;> cases decide (kids = []) <;> rfl
 by_cases h7:k = 7
 ·subst h7; simp
 by_cases h8:k = 8
 ·subst h8; simp [Bool.and_assoc]
 by_cases h9:k = 9
 ·subst h9; simp [Bool.and_assoc]
 ·have a0:k ≠ 0:=fun e => h0 (.inl e)
  have a1:k ≠ 1:=fun e => h0 (.inr (.inl e))
  have a2:k ≠ 2:=fun e => h0 (.inr (.inr e))
  simp [a0,a1,a2,h3,h4,h5,h6,h7,h8,h9]
theorem isNode_any (x:V) (cs:List Value) (w:World) (h:Rd w x.d cs) (hwf:x.wf) (hbk:x.bulk <= 4294967295) (hT:Tabs w) :
  Calls Tryz.prog 108 #[.agg cs.toArray] w fun e w' => e = .returned (.bool x.node) /\ Below w.heap.size w w':=by
 obtain ⟨k,n,e,s,kids,v1,rfl,rfl,hkids⟩:=V.lay h;obtain ⟨a1,c1,rfl⟩:=Rd.sl_form hkids;rw [V.ds_map,length_map] at h ⊢;have hsl:s.length <= 4294967295:=by simp only [V.bulk] at hbk; omega
 have HD:=Lib.hid (fun w1 (hb:Below w.heap.size w w1) => isDec_any _ _ w1 (h.below hb) hwf);clear h hkids hbk hwf;obtain ⟨ok,hok⟩:∃ ok,V.node (.mk k n e s kids) = ok:=⟨_,rfl⟩;rw [hok];have HOK:=Lib.hid hok; clear hok
 by_cases q0:k = 0
 ·subst q0
  go_enter Tryz.func108,Tryz.ntmps108
  go_wp2
  all_goals (go_ret; refine ⟨zaI ?_,by first | exact ((Below.refl _ _).alloc lR _).alloc (by simp) _ | exact below_drewN (((Below.refl _ _).alloc lR _).alloc (by simp) _) _⟩; rw [<- HOK.out]; simp_all [V.node,isE])
 by_cases q1:k = 1
 ·subst q1
  go_enter Tryz.func108,Tryz.ntmps108
  go_wp2
  all_goals (go_ret; refine ⟨zaI ?_,by first | exact ((Below.refl _ _).alloc lR _).alloc (by simp) _ | exact below_drewN (((Below.refl _ _).alloc lR _).alloc (by simp) _) _⟩; rw [<- HOK.out]; simp_all [V.node,isE])
 by_cases q2:k = 2
 ·subst q2
  go_enter Tryz.func108,Tryz.ntmps108
  go_wp2
  all_goals (go_ret; refine ⟨zaI ?_,by first | exact ((Below.refl _ _).alloc lR _).alloc (by simp) _ | exact below_drewN (((Below.refl _ _).alloc lR _).alloc (by simp) _) _⟩; rw [<- HOK.out]; simp_all [V.node,isE])
 by_cases q7:k = 7
 ·subst q7
  go_enter Tryz.func108,Tryz.ntmps108
  go_wp2
  all_goals (go_ret; refine ⟨zaI ?_,by first | exact ((Below.refl _ _).alloc lR _).alloc (by simp) _ | exact below_drewN (((Below.refl _ _).alloc lR _).alloc (by simp) _) _⟩; rw [<- HOK.out]; simp_all [V.node,isE])
 by_cases q8:k = 8
 ·subst q8
  go_enter Tryz.func108,Tryz.ntmps108
  go_wp2
  all_goals (go_ret; refine ⟨zaI ?_,by first | exact ((Below.refl _ _).alloc lR _).alloc (by simp) _ | exact below_drewN (((Below.refl _ _).alloc lR _).alloc (by simp) _) _⟩; rw [<- HOK.out]; simp_all [V.node,isE])
 by_cases q3:k = 3
 ·subst q3
  go_enter Tryz.func108,Tryz.ntmps108
  go_wp2
  all_goals (go_ret; refine ⟨zaI ?_,by first | exact ((Below.refl _ _).alloc lR _).alloc (by simp) _ | exact below_drewN (((Below.refl _ _).alloc lR _).alloc (by simp) _) _⟩; rw [<- HOK.out]; simp_all [V.node,isE])
 by_cases q9:k = 9
 ·subst q9
  by_cases g:0 <= n /\ n <= 1000000
  ·have H:=Lib.hid (show ok = (decide (e = 0) && decide (s = [])) by rw [<- HOK.out]; simp [V.node,zaM g])
   go_enter Tryz.func108,Tryz.ntmps108
   go_wp2
   all_goals (go_ret; refine ⟨zaI ?_,by first | exact ((Below.refl _ _).alloc lR _).alloc (by simp) _ | exact (((Below.refl _ _).alloc lR _).alloc (by simp) _).setCell (by simp) _⟩; rw [H.out]; simp_all [isE])
  ·have H:=Lib.hid (show ok = false by rw [<- HOK.out]; simp [V.node,zbk g])
   have H2:=Lib.hid (zbk g)
   go_enter Tryz.func108,Tryz.ntmps108
   go_wp2_with (go_at_call 54; refine (za2 _ _ _ _).mono ?_; rw [H2.out]; rintro e1 w1 ⟨rfl,rfl⟩)
   all_goals (go_ret; exact ⟨by rw [H.out]; rfl,((Below.refl _ _).alloc lR _).alloc (by simp) _⟩)
 by_cases q6:k = 6
 ·subst q6
  by_cases g:s.length <= 2000
  ·have H:=Lib.hid (show ok = (decide (n = 0) && decide (e = 0)) by rw [<- HOK.out]; simp [V.node,g])
   go_enter Tryz.func108,Tryz.ntmps108
   go_wp2
   all_goals (go_ret; refine ⟨zaI ?_,by first | exact ((Below.refl _ _).alloc lR _).alloc (by simp) _ | exact (((Below.refl _ _).alloc lR _).alloc (by simp) _).setCell (by simp) _⟩; rw [H.out]; simp_all [])
  ·have H:=Lib.hid (show ok = false by rw [<- HOK.out]; simp [V.node,g])
   have g':(2000:Int) < s.length:=by omega
   go_enter Tryz.func108,Tryz.ntmps108
   go_wp2
   all_goals (go_ret; exact ⟨by rw [H.out]; rfl,((Below.refl _ _).alloc lR _).alloc (by simp) _⟩)
 by_cases q5:k = 5
 ·subst q5
  by_cases g:s.length <= 2000
  ·have g':¬ (2000:Int) < s.length:=by omega
   have g2:=decide_eq_false g'
   cases hv:validD s with
   | true =>
    have HV:=Lib.hid hv;have H:=Lib.hid (show ok = (decide (n = 0) && decide (e = 0)) by rw [<- HOK.out]; simp [V.node,g,hv]);clear hv
    go_enter Tryz.func108,Tryz.ntmps108
    go_wp2_with (go_at_call 41; refine (zc3 s _ hsl (hT.below (((Below.refl _ _).alloc lR _).alloc (by simp) _))).mono ?_; rw [HV.out]; rintro e1 w1 ⟨rfl,hb1⟩; have C:=(zbF hb1).1; have F:=(zbF hb1).2; have hz1:=hb1.size; have z1:w.heap.size < w1.heap.size:=(by simp at hz1; omega); have z2:w.heap.size + 1 < w1.heap.size:=(by simp at hz1; omega); have f1:w1.cell? ⟨w.heap.size,1,none⟩ = some (.int .i64 n):=(by rw [C _ _ (by simp <;> omega)]; simp [go_sem]); have f2:w1.cell? ⟨w.heap.size,2,none⟩ = some (.int .i64 e):=(by rw [C _ _ (by simp <;> omega)]; simp [go_sem]); have f3:w1.cell? ⟨w.heap.size,3,none⟩ = some (.string ⟨s.toArray⟩):=(by rw [C _ _ (by simp <;> omega)]; simp [go_sem]); have p1:w1.cell? ⟨w.heap.size + 1,1,none⟩ = some (.int .i64 0):=(by rw [C _ _ (by simp <;> omega)]; simp [go_sem]); have p2:w1.cell? ⟨w.heap.size + 1,2,none⟩ = some (.int .i64 0):=(by rw [C _ _ (by simp <;> omega)]; simp [go_sem]); have p3:w1.cell? ⟨w.heap.size + 1,3,none⟩ = some (.string ⟨#[]⟩):=(by rw [C _ _ (by simp <;> omega)]; simp [go_sem]); have p9:w1.frozen? ⟨w.heap.size + 1,3,none⟩ = false:=(by rw [F _ _ (by simp <;> omega)]; simp [go_sem]); clear C F hz1)
    all_goals (go_ret; refine ⟨zaI ?_,by first | exact (zaB (((Below.refl _ _).alloc lR _).alloc (by simp) _) hb1 lR).setCell (by simp) _ | exact zaB (((Below.refl _ _).alloc lR _).alloc (by simp) _) hb1 lR⟩; rw [H.out]; simp_all [])
   | false =>
    have HV:=Lib.hid hv;have H:=Lib.hid (show ok = false by rw [<- HOK.out]; simp [V.node,hv]);clear hv
    go_enter Tryz.func108,Tryz.ntmps108
    go_wp2_with (go_at_call 41; refine (zc3 s _ hsl (hT.below (((Below.refl _ _).alloc lR _).alloc (by simp) _))).mono ?_; rw [HV.out]; rintro e1 w1 ⟨rfl,hb1⟩)
    go_ret;exact ⟨by rw [H.out]; rfl,zaB (((Below.refl _ _).alloc lR _).alloc (by simp) _) hb1 lR⟩
  ·have H:=Lib.hid (show ok = false by rw [<- HOK.out]; simp [V.node,g])
   have g':(2000:Int) < s.length:=by omega
   go_enter Tryz.func108,Tryz.ntmps108
   go_wp2
   all_goals (go_ret; exact ⟨by rw [H.out]; rfl,((Below.refl _ _).alloc lR _).alloc (by simp) _⟩)
 by_cases q4:k = 4
 ·subst q4
  cases hv:decOk n e with
  | true =>
   have HV:=Lib.hid (show decOk (V.num (.mk 4 n e s kids)) (V.exp (.mk 4 n e s kids)) = true from hv);have H:=Lib.hid (show ok = decide (s = []) by rw [<- HOK.out]; simp [V.node,hv]);clear hv
   go_enter Tryz.func108,Tryz.ntmps108
   go_wp2_with (go_at_call 126; refine (HD.out _ (((Below.refl _ _).alloc lR _).alloc (by simp) _)).mono ?_; rw [HV.out]; rintro e1 w1 ⟨rfl,hb1⟩; have C:=(zbF hb1).1; have F:=(zbF hb1).2; have hz1:=hb1.size; have z1:w.heap.size < w1.heap.size:=(by simp at hz1; omega); have z2:w.heap.size + 1 < w1.heap.size:=(by simp at hz1; omega); have f1:w1.cell? ⟨w.heap.size,1,none⟩ = some (.int .i64 n):=(by rw [C _ _ (by simp <;> omega)]; simp [go_sem]); have f2:w1.cell? ⟨w.heap.size,2,none⟩ = some (.int .i64 e):=(by rw [C _ _ (by simp <;> omega)]; simp [go_sem]); have f3:w1.cell? ⟨w.heap.size,3,none⟩ = some (.string ⟨s.toArray⟩):=(by rw [C _ _ (by simp <;> omega)]; simp [go_sem]); have p1:w1.cell? ⟨w.heap.size + 1,1,none⟩ = some (.int .i64 0):=(by rw [C _ _ (by simp <;> omega)]; simp [go_sem]); have p2:w1.cell? ⟨w.heap.size + 1,2,none⟩ = some (.int .i64 0):=(by rw [C _ _ (by simp <;> omega)]; simp [go_sem]); have p3:w1.cell? ⟨w.heap.size + 1,3,none⟩ = some (.string ⟨#[]⟩):=(by rw [C _ _ (by simp <;> omega)]; simp [go_sem]); have p8:w1.frozen? ⟨w.heap.size + 1,1,none⟩ = false:=(by rw [F _ _ (by simp <;> omega)]; simp [go_sem]); have p9:w1.frozen? ⟨w.heap.size + 1,2,none⟩ = false:=(by rw [F _ _ (by simp <;> omega)]; simp [go_sem]); clear C F hz1)
   have hbel:Below w.heap.size w w1:=zaB (((Below.refl _ _).alloc lR _).alloc (by simp) _) hb1 lR
   go_region
   all_goals (go_wp2; go_ret; refine ⟨zaI ?_,by first | exact ((hbel.setCell (by simp) _).setCell (by simp) _).drew | exact (hbel.setCell (by simp) _).setCell (by simp) _ | exact below_drewN ((hbel.setCell (by simp) _).setCell (by simp) _) _⟩; rw [H.out]; simp [isE])
  | false =>
   have HV:=Lib.hid (show decOk (V.num (.mk 4 n e s kids)) (V.exp (.mk 4 n e s kids)) = false from hv);have H:=Lib.hid (show ok = false by rw [<- HOK.out]; simp [V.node,hv]);clear hv
   go_enter Tryz.func108,Tryz.ntmps108
   go_wp2_with (go_at_call 126; refine (HD.out _ (((Below.refl _ _).alloc lR _).alloc (by simp) _)).mono ?_; rw [HV.out]; rintro e1 w1 ⟨rfl,hb1⟩)
   go_ret;exact ⟨by rw [H.out]; rfl,zaB (((Below.refl _ _).alloc lR _).alloc (by simp) _) hb1 lR⟩
 have H:=Lib.hid (show ok = false by rw [<- HOK.out]; simp [V.node,q0,q1,q2,q3,q4,q5,q6,q7,q8,q9])
 go_enter Tryz.func108,Tryz.ntmps108
 go_wp2
 all_goals (go_ret; exact ⟨by rw [H.out]; rfl,((Below.refl _ _).alloc lR _).alloc (by simp) _⟩)
end
section
section
variable {P:Program} {ops:Array Oper} {Q:Exit -> Act -> World -> Prop} {md:Region.Mode} {S:World -> Prop}
theorem zb0 {i F fuel:Nat} {oi:Oper} {d:Option Tmp} {v:Value} {listed listed':Array Bool} {a:Act} {w:World} (hi:ops[i]? = some oi) (hd:oi.dst = d) (hF:F = fuel + 1) (hl:listed.setIfInBounds i true = listed')
  (hs:Region.noSelect ops = true) (hf:Region.free md ops listed i = true) (hr:(Region.ready md ops listed).contains i = true)
  (hQ:∀ c a w,Q (.panic c) (a.put d v) w -> Q (.panic c) a w) (hw:Region.wanted oi (yielded ops a.tmps) = true) (hS:S w)
  (hv:∀ w,S w -> (execOp a.eval oi).run P w = .ok (.value v) w)
  (h:wpAnyH P md ops Q S fuel listed' (a.put d v) w):wpAnyH P md ops Q S F listed a w:=by
 subst hF hd hl
 exact wpAnyH_take hi hs hf hr hQ (.inl ⟨hw,hv⟩) hS h
def skipFine (md:Region.Mode) (ops:Array Oper):List (Nat × Tmp) -> Array Bool -> Array Value -> Bool
 | [],_,_ => true
 | (i,d) :: r,listed,tmps => (match ops[i]? with | some o => decide (o.dst = some d) && !Region.wanted o (yielded ops tmps) | none => false) && (Region.free md ops listed i && ((Region.ready md ops listed).contains i &&
   skipFine md ops r (listed.setIfInBounds i true) (tmps.setIfInBounds d undef)))
def skipListed:List (Nat × Tmp) -> Array Bool -> Array Bool
 | [],listed => listed
 | (i,_) :: r,listed => skipListed r (listed.setIfInBounds i true)
def skipAct:List (Nat × Tmp) -> Act -> Act
 | [],a => a
 | (_,d) :: r,a => skipAct r { a with tmps:=a.tmps.setIfInBounds d undef }
theorem takeS {w:World} (hs:Region.noSelect ops = true) (hQ:∀ c a d w,Q (.panic c) (a.put (some d) undef) w -> Q (.panic c) a w) (hS:S w):∀ (l:List (Nat × Tmp)) {F fuel:Nat} {listed listed':Array Bool} {a:Act},F = fuel + l.length -> skipListed l listed = listed' ->
  skipFine md ops l listed a.tmps = true -> wpAnyH P md ops Q S fuel listed' (skipAct l a) w -> wpAnyH P md ops Q S F listed a w
 | [],F,fuel,listed,listed',a,hF,hl,_,h => by subst hF hl; exact h
 | (i,d) :: r,F,fuel,listed,listed',a,hF,hl,hk,h => by
  subst hF hl
  simp only [skipFine,Bool.and_eq_true] at hk;obtain ⟨h1,h2,h3,h4⟩:=hk
  cases ho:ops[i]? with
  | none => rw [ho] at h1; cases h1
  | some o =>
   rw [ho] at h1;simp only [Bool.and_eq_true,decide_eq_true_eq,Bool.not_eq_true'] at h1;obtain ⟨hd,hw⟩:=h1;refine wpAnyH_take (fuel:=fuel + r.length) (v:=undef) ho hs h2 h3 (by rw [hd]; exact fun c a w => hQ c a d w) (.inr ⟨hw,rfl⟩) hS ?_;rw [hd];exact takeS hs hQ hS r rfl rfl h4 h
theorem takeC {i F fuel:Nat} {oi:Oper} {d:Option Tmp} {listed listed':Array Bool} {a:Act} {w:World} (hi:ops[i]? = some oi) (_hd:oi.dst = d) (hF:F = fuel + 1) (hl:listed.setIfInBounds i true = listed')
  (hr:Region.ready md ops listed = [i]) (hw:Region.wanted oi (yielded ops a.tmps) = true)
  (h:∀ K':Act -> World -> Prop,Shut (∀ a w,S w -> (S w -> wpAnyH P md ops Q S fuel listed' a w) -> K' a w) -> Oper.wp P oi a w K' Q):wpAnyH P md ops Q S F listed a w:=by
 subst hF hl _hd
 refine wpAnyH_ready hr (by simp) (AllReadyH.cons hi (fun K' hK => ?_) AllReadyH.nil);rw [if_pos hw]; exact h K' hK
end
end
section
def intBox (w:World) (g:Nat) (n:Int):Prop:=w.heap[g]? = some (.cells #[.int .i64 n] 3 (0,0))
theorem intBox.cell {w:World} {g:Nat} {n:Int} (h:intBox w g n):w.cell? ⟨g,0,none⟩ = some (.int .i64 n):=cell_of_one h
theorem intBox.free {w:World} {g:Nat} {n:Int} (h:intBox w g n):w.frozen? ⟨g,0,none⟩ = false:=free_of_one h
theorem intBox.lt {w:World} {g:Nat} {n:Int} (h:intBox w g n):g < w.heap.size:=lt_of_block h
theorem intBox.below {w w':World} {g:Nat} {n:Int} (h:intBox w g n) (hb:Below w.heap.size w w'):intBox w' g n:=(hb.block g h.lt).trans h
theorem intBox.keep {S:Nat -> Prop} {w w':World} {g:Nat} {n:Int} (h:intBox w g n) (hk:Keep S w w') (hs:¬ S g):intBox w' g n:=(hk.block g h.lt hs).trans h
def GlobN (N:Nat):Prop:=0 < N /\ 1 < N
theorem Tabs.keep {S:Nat -> Prop} {w w':World} {N:Nat} (h:Tabs w) (hg:GlobN N) (hk:Keep S w w') (hN:N <= w.heap.size) (hs:∀ k,k < N -> ¬ S k):Tabs w':=h.below' (hk.below hN hs) hg.1 hg.2
end
section
open Go.Lib (validD)
def vGood (deep:Nat) (L:Int) (x:V):Bool:=V.rightBy pairsOkI (12 - deep) x && decide ((x.nodes:Int) <= L)
def vGoods (deep:Nat) (L:Int) (xs:List V):Bool:=V.rightsBy pairsOkI (12 - deep) xs && decide ((V.nodess xs:Int) <= L)
def VIsA (n:Nat):Prop:=∀ (x:V) (cs:List Value) (deep N g:Nat) (L:Int) (w:World),x.nodes <= n -> RdN N w x.d cs -> N <= g -> intBox w g L -> x.wf -> x.bulk <= 4294967295 -> Tabs w -> GlobN N -> deep <= 1000000 -> 0 <= L /\ L <= 1000 ->
 Calls Tryz.prog 75 #[.agg cs.toArray,.int .i64 deep,.pointer (some ⟨g,0,none⟩)] w fun e w' => e = .returned (.bool (vGood deep L x)) /\ (∃ L':Int,intBox w' g L' /\ (vGood deep L x = true -> L' = L - x.nodes)) /\ Keep (· = g) w w'
theorem vGood_no1 {deep:Nat} {L:Int} {x:V} (h:L - 1 < 0):vGood deep L x = false:=by
 have:=x.nodes_pos; unfold vGood; rw [decide_eq_false (by omega),Bool.and_false]
theorem vGood_no2 {deep:Nat} {L:Int} {x:V} (h:(12:Int) < deep):vGood deep L x = false:=by
 obtain ⟨k,m,e,s,kids⟩:=x;unfold vGood; simp only [V.rightBy]; rw [decide_eq_false (show ¬ (0:Int) <= 12 - deep by omega)]; simp
theorem V.nodess_ge:∀ xs:List V,xs.length <= V.nodess xs
 | [] => by simp
 | x :: xs => by have:=x.nodes_pos; have:=V.nodess_ge xs; simp only [V.nodess,length_cons]; omega
theorem vGood_no3 {deep:Nat} {L:Int} {k m e:Int} {s:L8} {kids:List V} (h:L - 1 < kids.length):vGood deep L (.mk k m e s kids) = false:=by
 have:=V.nodess_ge kids; unfold vGood; rw [decide_eq_false (by simp only [V.nodes]; omega),Bool.and_false]
theorem zg3 {deep:Nat} {L:Int} {x:V} (h:x.selfI = false):vGood deep L x = false:=by
 obtain ⟨k,m,e,s,kids⟩:=x;unfold vGood; simp only [V.rightBy]; rw [show V.selfBy pairsOkI (.mk k m e s kids) = false from h]; simp
theorem vGood_yes {deep:Nat} {L:Int} {k m e:Int} {s:L8} {kids:List V} (h2:¬ (12:Int) < deep) (ho:V.selfI (.mk k m e s kids) = true) :
  vGood deep L (.mk k m e s kids) = vGoods (deep + 1) (L - 1) kids:=by
 unfold vGood vGoods; simp only [V.rightBy,V.nodes]
 rw [show V.selfBy pairsOkI (.mk k m e s kids) = true from ho,decide_eq_true (show (0:Int) <= 12 - deep by omega),show (12:Int) - deep - 1 = 12 - (deep + 1:Nat) by omega,Bool.and_true,Bool.and_true]
 congr 1; exact decide_eq_decide.2 (by omega)
def VIsC (n:Nat):Prop:=∀ (xs:List V) (va:Value) (deep N g bd bl:Nat) (L:Int) (w:World),V.nodess xs <= n -> RdN N w (.sl 5 (V.ds xs)) [va] -> N <= g -> intBox w g L -> intBox w bd deep -> bd ≠ g -> w.cell? ⟨bl,0,none⟩ = some (.pointer (some ⟨g,0,none⟩)) -> bl ≠ g ->
  V.wfs xs -> xs.length + V.bulks xs <= 4294967295 -> Tabs w -> GlobN N -> deep <= 1000 -> 0 <= L /\ L <= 1000 ->
 Calls Tryz.prog 110 #[va,.func (.func 111) #[] #[.pointer (some ⟨bd,0,none⟩),.pointer (some ⟨bl,0,none⟩)]] w fun e w' => e = .returned (.bool (!vGoods (deep + 1) L xs)) /\ (∃ L':Int,intBox w' g L' /\ (vGoods (deep + 1) L xs = true -> L' = L - V.nodess xs)) /\ Keep (· = g) w w'
theorem VIsA_of {n:Nat} (hC:VIsC n):VIsA (n + 1):=by
 intro x cs deep N g L w hn h hNg hbox hwf hbk hT hG hdeep hL;obtain ⟨k,m,e,s,kids,v2,hx,rfl,hkids⟩:=V.layS h;subst hx;have hnk:V.nodess kids <= n:=by simp only [V.nodes] at hn; omega
 obtain ⟨hL1,hL2⟩:=hL;obtain ⟨M,rfl⟩:∃ M,L = M + 1:=⟨L - 1,by omega⟩;have hglt:=hbox.lt;obtain ⟨a2,c2,rfl⟩:=Rd.sl_form (Rd.of hkids);simp only [V.ds_map,length_map] at h hkids ⊢;rw [<- V.ds_map] at hkids;have hfree:=hbox.free;have hcell:=hbox.cell;obtain ⟨W0,hW0⟩:∃ W0,W0 = ((((w.setCell ⟨g,0,none⟩ (.int .i64 M)).alloc (.cells #[.int .i64 k,.int .i64 m,.int .i64 e,.string ⟨s.toArray⟩,.slice a2 kids.length c2] 51)).alloc (.cells #[.int .i64 deep] 3)).alloc (.cells #[.pointer (some ⟨g,0,none⟩)] 106)):=⟨_,rfl⟩;have HW:=Lib.hid hW0;have hK0:Keep (· = g) w W0:=by rw [hW0]; exact (((Keep.setCell (S:=(· = g)) (p:=⟨g,0,none⟩) (Keep.refl _ _) (.inl rfl) _).alloc _).alloc _).alloc _
 have hb0:intBox W0 g M:=by
  rw [hW0]
  have:intBox (w.setCell ⟨g,0,none⟩ (.int .i64 M)) g M:=one_setCell hbox
  exact ((this.below ((Below.refl _ _).alloc lR _)).below ((Below.refl _ _).alloc lR _)).below ((Below.refl _ _).alloc lR _)
 have hbd0:intBox W0 (w.heap.size + 1) deep:=by
  rw [hW0]; unfold intBox; rw [Below.heap_alloc _ _ _ (by simp [World.setCell])]
  have:=za1 ((w.setCell ⟨g,0,none⟩ (.int .i64 M)).alloc (.cells #[.int .i64 k,.int .i64 m,.int .i64 e,.string ⟨s.toArray⟩,.slice a2 kids.length c2] 51)) (.cells #[.int .i64 deep] 3)
  simpa [World.setCell] using this
 have hng:∀ k,k < N -> ¬ k = g:=by intro k hk e; omega
 have hN:N <= w.heap.size:=by omega
 have hss:(w.setCell ⟨g,0,none⟩ (.int .i64 M)).heap.size = w.heap.size:=by simp [World.setCell]
 have hsz:W0.heap.size = w.heap.size + 3:=by rw [hW0]; simp [hss]
 have s1:g < w.heap.size + 1:=by omega
 have s2:g < w.heap.size + 1 + 1:=by omega
 have s3:g < w.heap.size + 1 + 1 + 1:=by omega
 have q1:¬ g = w.heap.size:=by omega
 have q2:¬ g = w.heap.size + 1:=by omega
 have q3:¬ g = w.heap.size + 1 + 1:=by omega
 have KB:Hid (∀ W,Below W0.heap.size W0 W -> W.cell? ⟨w.heap.size,0,none⟩ = some (.int .i64 k) /\ W.cell? ⟨w.heap.size,1,none⟩ = some (.int .i64 m) /\ W.cell? ⟨w.heap.size,2,none⟩ = some (.int .i64 e) /\ W.cell? ⟨w.heap.size,3,none⟩ = some (.string ⟨s.toArray⟩) /\ W.cell? ⟨w.heap.size,4,none⟩ = some (.slice a2 kids.length c2) /\ W.cell? ⟨w.heap.size + 1,0,none⟩ = some (.int .i64 deep) /\ W.cell? ⟨w.heap.size + 1 + 1,0,none⟩ = some (.pointer (some ⟨g,0,none⟩)) /\ W.cell? ⟨g,0,none⟩ = some (.int .i64 M)):=by
  intro W hb;obtain ⟨hc,_⟩:=zbF hb;have z1:w.heap.size < W0.heap.size:=by omega
  have z2:w.heap.size + 1 < W0.heap.size:=by omega
  have z3:w.heap.size + 1 + 1 < W0.heap.size:=by omega
  have z4:g < W0.heap.size:=by omega
  simp only [hc _ _ z1,hc _ _ z2,hc _ _ z3,hc _ _ z4,hb0.cell];subst hW0;simp [go_sem,hss]
 have hT0:=Lib.hid (hT.keep hG hK0 hN hng);have HR:=Lib.hid (show ∀ W,Below W0.heap.size W0 W -> RdN N W (V.d (.mk k m e s kids)) [.int .i64 k,.int .i64 m,.int .i64 e,.string ⟨s.toArray⟩,.slice a2 kids.length c2] from fun W hb => (h.keep hK0 hN hng).below (hb.mono (by omega)));have HRk:=Lib.hid (show ∀ W,Below W0.heap.size W0 W -> RdN N W (.sl 5 (V.ds kids)) [.slice a2 kids.length c2] from fun W hb => (RdN.keep hkids hK0 hN hng).below (hb.mono (by omega)));have HF:=Lib.hid (fun W (hb:Below W0.heap.size W0 W) => isNode_any _ _ W (HR.out W hb).rd hwf hbk (hT0.out.below hb));have HQ:=Lib.hid (fun W (hb:Below W0.heap.size W0 W) => zhW _ _ W (HR.out W hb).rd hbk);clear h hkids hT hbox hW0 hng hss q1 q2 q3;by_cases qc1:M < 0
 ·have dqc1:=decide_eq_true qc1
  have H:=Lib.hid (vGood_no1 (deep:=deep) (L:=M + 1) (x:=.mk k m e s kids) (by omega))
  go_enter Tryz.func75,Tryz.ntmps75
  go_wp2;rw [<- HW.out];have hB:=Below.refl W0.heap.size W0;obtain ⟨p0,p1,p2,p3,p4,p6,p7,p8⟩:=KB.out _ hB
  go_quiet (fail)
  go_wp2;go_ret;exact ⟨by rw [H.out]; rfl,⟨M,hb0.below (by first | exact hB | exact hB.drew | exact Go.below_drewN hB _),fun h => by rw [H.out] at h; cases h⟩,hK0.then (by first | exact hB | exact hB.drew | exact Go.below_drewN hB _)⟩
 have dqc1:=decide_eq_false qc1;by_cases qc2:(12:Int) < deep
 ·have dqc2:=decide_eq_true qc2
  have H:=Lib.hid (vGood_no2 (L:=M + 1) (x:=.mk k m e s kids) qc2)
  go_enter Tryz.func75,Tryz.ntmps75
  go_wp2;rw [<- HW.out];have hB:=Below.refl W0.heap.size W0;obtain ⟨p0,p1,p2,p3,p4,p6,p7,p8⟩:=KB.out _ hB
  go_quiet (fail)
  go_wp2;go_ret;exact ⟨by rw [H.out]; rfl,⟨M,hb0.below (by first | exact hB | exact hB.drew | exact Go.below_drewN hB _),fun h => by rw [H.out] at h; cases h⟩,hK0.then (by first | exact hB | exact hB.drew | exact Go.below_drewN hB _)⟩
 have dqc2:=decide_eq_false qc2;by_cases qc3:M < kids.length
 ·have dqc3:=decide_eq_true qc3
  have H:=Lib.hid (vGood_no3 (deep:=deep) (L:=M + 1) (k:=k) (m:=m) (e:=e) (s:=s) (kids:=kids) (by omega))
  go_enter Tryz.func75,Tryz.ntmps75
  go_wp2;rw [<- HW.out];have hB:=Below.refl W0.heap.size W0;obtain ⟨p0,p1,p2,p3,p4,p6,p7,p8⟩:=KB.out _ hB
  go_quiet (fail)
  go_wp2;go_ret;exact ⟨by rw [H.out]; rfl,⟨M,hb0.below (by first | exact hB | exact hB.drew | exact Go.below_drewN hB _),fun h => by rw [H.out] at h; cases h⟩,hK0.then (by first | exact hB | exact hB.drew | exact Go.below_drewN hB _)⟩
 have dqc3:=decide_eq_false qc3;have HSN:=Lib.hid (V.selfI_node (.mk k m e s kids))
 cases hnode:V.node (.mk k m e s kids) with
 | false =>
  have HO:=Lib.hid hnode;have H:=Lib.hid (zg3 (deep:=deep) (L:=M + 1) (x:=.mk k m e s kids) (by rw [HSN.out,hnode]; rfl));clear hnode
  go_enter Tryz.func75,Tryz.ntmps75
  go_wp2;rw [<- HW.out];have hB:=Below.refl W0.heap.size W0;refine wp_region_held_drew (S:=(fun W => W.cell? ⟨w.heap.size,0,none⟩ = some (.int .i64 k) /\ W.cell? ⟨w.heap.size,1,none⟩ = some (.int .i64 m) /\ W.cell? ⟨w.heap.size,2,none⟩ = some (.int .i64 e) /\ W.cell? ⟨w.heap.size,3,none⟩ = some (.string ⟨s.toArray⟩) /\ W.cell? ⟨w.heap.size,4,none⟩ = some (.slice a2 kids.length c2) /\ W.cell? ⟨w.heap.size + 1,0,none⟩ = some (.int .i64 deep) /\ W.cell? ⟨w.heap.size + 1 + 1,0,none⟩ = some (.pointer (some ⟨g,0,none⟩)) /\ W.cell? ⟨g,0,none⟩ = some (.int .i64 M))) (by kernel_rfl) ?_ (fun hHeld => ?_)
  ·((try dsimp only); (first | exact KB.out _ hB | exact KB.out _ hB.drew))
  refine zb0 (i:=0) (fuel:=26) (d:=some 12) (v:=?vr0) (listed':=#[true,false,false,false,false,false,false,false,false,false,false,false,false,false,false,false,false,false,false,false,false,false,false,false,false,false,false]) rfl rfl (by kernel_rfl) (by kernel_rfl) (by kernel_rfl) (by kernel_rfl) (by kernel_rfl) (fun _ _ _ h => h) (by kernel_rfl) (by assumption) ?hr0 ?rr0
  case hr0 => (intro w hSw; (try dsimp only at hSw); go_simp; all_goals with_reducible rfl)
  simp only [Act.put,setIfInBounds_toArray,set_cons_zero,set_cons_succ];refine zb0 (i:=1) (fuel:=25) (d:=some 13) (v:=?vr1) (listed':=#[true,true,false,false,false,false,false,false,false,false,false,false,false,false,false,false,false,false,false,false,false,false,false,false,false,false,false]) rfl rfl (by kernel_rfl) (by kernel_rfl) (by kernel_rfl) (by kernel_rfl) (by kernel_rfl) (fun _ _ _ h => h) (by kernel_rfl) (by assumption) ?hr1 ?rr1
  case hr1 => (intro w hSw; (try dsimp only at hSw); go_simp; all_goals with_reducible rfl)
  simp only [Act.put,setIfInBounds_toArray,set_cons_zero,set_cons_succ];refine zb0 (i:=2) (fuel:=24) (d:=some 14) (v:=?vr2) (listed':=#[true,true,true,false,false,false,false,false,false,false,false,false,false,false,false,false,false,false,false,false,false,false,false,false,false,false,false]) rfl rfl (by kernel_rfl) (by kernel_rfl) (by kernel_rfl) (by kernel_rfl) (by kernel_rfl) (fun _ _ _ h => h) (by kernel_rfl) (by assumption) ?hr2 ?rr2
  case hr2 => (intro w hSw; (try dsimp only at hSw); go_simp; all_goals with_reducible rfl)
  simp only [Act.put,setIfInBounds_toArray,set_cons_zero,set_cons_succ];refine zb0 (i:=3) (fuel:=23) (d:=some 15) (v:=?vr3) (listed':=#[true,true,true,true,false,false,false,false,false,false,false,false,false,false,false,false,false,false,false,false,false,false,false,false,false,false,false]) rfl rfl (by kernel_rfl) (by kernel_rfl) (by kernel_rfl) (by kernel_rfl) (by kernel_rfl) (fun _ _ _ h => h) (by kernel_rfl) (by assumption) ?hr3 ?rr3
  case hr3 => (intro w hSw; (try dsimp only at hSw); go_simp; all_goals with_reducible rfl)
  simp only [Act.put,setIfInBounds_toArray,set_cons_zero,set_cons_succ];refine zb0 (i:=4) (fuel:=22) (d:=some 16) (v:=?vr4) (listed':=#[true,true,true,true,true,false,false,false,false,false,false,false,false,false,false,false,false,false,false,false,false,false,false,false,false,false,false]) rfl rfl (by kernel_rfl) (by kernel_rfl) (by kernel_rfl) (by kernel_rfl) (by kernel_rfl) (fun _ _ _ h => h) (by kernel_rfl) (by assumption) ?hr4 ?rr4
  case hr4 => (intro w hSw; (try dsimp only at hSw); go_simp; all_goals with_reducible rfl)
  simp only [Act.put,setIfInBounds_toArray,set_cons_zero,set_cons_succ];refine zb0 (i:=5) (fuel:=21) (d:=some 17) (v:=?vr5) (listed':=#[true,true,true,true,true,true,false,false,false,false,false,false,false,false,false,false,false,false,false,false,false,false,false,false,false,false,false]) rfl rfl (by kernel_rfl) (by kernel_rfl) (by kernel_rfl) (by kernel_rfl) (by kernel_rfl) (fun _ _ _ h => h) (by kernel_rfl) (by assumption) ?hr5 ?rr5
  case hr5 => (intro w hSw; (try dsimp only at hSw); go_simp; all_goals with_reducible rfl)
  simp only [Act.put,setIfInBounds_toArray,set_cons_zero,set_cons_succ];refine zb0 (i:=6) (fuel:=20) (d:=some 18) (v:=?vr6) (listed':=#[true,true,true,true,true,true,true,false,false,false,false,false,false,false,false,false,false,false,false,false,false,false,false,false,false,false,false]) rfl rfl (by kernel_rfl) (by kernel_rfl) (by kernel_rfl) (by kernel_rfl) (by kernel_rfl) (fun _ _ _ h => h) (by kernel_rfl) (by assumption) ?hr6 ?rr6
  case hr6 => (intro w hSw; (try dsimp only at hSw); go_simp; all_goals with_reducible rfl)
  simp only [Act.put,setIfInBounds_toArray,set_cons_zero,set_cons_succ];refine zb0 (i:=7) (fuel:=19) (d:=some 19) (v:=?vr7) (listed':=#[true,true,true,true,true,true,true,true,false,false,false,false,false,false,false,false,false,false,false,false,false,false,false,false,false,false,false]) rfl rfl (by kernel_rfl) (by kernel_rfl) (by kernel_rfl) (by kernel_rfl) (by kernel_rfl) (fun _ _ _ h => h) (by kernel_rfl) (by assumption) ?hr7 ?rr7
  case hr7 => (intro w hSw; (try dsimp only at hSw); go_simp; all_goals with_reducible rfl)
  simp only [Act.put,setIfInBounds_toArray,set_cons_zero,set_cons_succ];refine zb0 (i:=8) (fuel:=18) (d:=some 20) (v:=?vr8) (listed':=#[true,true,true,true,true,true,true,true,true,false,false,false,false,false,false,false,false,false,false,false,false,false,false,false,false,false,false]) rfl rfl (by kernel_rfl) (by kernel_rfl) (by kernel_rfl) (by kernel_rfl) (by kernel_rfl) (fun _ _ _ h => h) (by kernel_rfl) (by assumption) ?hr8 ?rr8
  case hr8 => (intro w hSw; (try dsimp only at hSw); go_simp; all_goals with_reducible rfl)
  simp only [Act.put,setIfInBounds_toArray,set_cons_zero,set_cons_succ];refine zb0 (i:=9) (fuel:=17) (d:=some 21) (v:=?vr9) (listed':=#[true,true,true,true,true,true,true,true,true,true,false,false,false,false,false,false,false,false,false,false,false,false,false,false,false,false,false]) rfl rfl (by kernel_rfl) (by kernel_rfl) (by kernel_rfl) (by kernel_rfl) (by kernel_rfl) (fun _ _ _ h => h) (by kernel_rfl) (by assumption) ?hr9 ?rr9
  case hr9 => (intro w hSw; (try dsimp only at hSw); go_simp; all_goals with_reducible rfl)
  simp only [Act.put,setIfInBounds_toArray,set_cons_zero,set_cons_succ];refine zb0 (i:=10) (fuel:=16) (d:=some 22) (v:=?vr10) (listed':=#[true,true,true,true,true,true,true,true,true,true,true,false,false,false,false,false,false,false,false,false,false,false,false,false,false,false,false]) rfl rfl (by kernel_rfl) (by kernel_rfl) (by kernel_rfl) (by kernel_rfl) (by kernel_rfl) (fun _ _ _ h => h) (by kernel_rfl) (by assumption) ?hr10 ?rr10
  case hr10 => (intro w hSw; (try dsimp only at hSw); go_simp; all_goals with_reducible rfl)
  simp only [Act.put,setIfInBounds_toArray,set_cons_zero,set_cons_succ];refine zb0 (i:=11) (fuel:=15) (d:=some 23) (v:=?vr11) (listed':=#[true,true,true,true,true,true,true,true,true,true,true,true,false,false,false,false,false,false,false,false,false,false,false,false,false,false,false]) rfl rfl (by kernel_rfl) (by kernel_rfl) (by kernel_rfl) (by kernel_rfl) (by kernel_rfl) (fun _ _ _ h => h) (by kernel_rfl) (by assumption) ?hr11 ?rr11
  case hr11 => (intro w hSw; (try dsimp only at hSw); go_simp; all_goals with_reducible rfl)
  simp only [Act.put,setIfInBounds_toArray,set_cons_zero,set_cons_succ];refine zb0 (i:=12) (fuel:=14) (d:=some 24) (v:=?vr12) (listed':=#[true,true,true,true,true,true,true,true,true,true,true,true,true,false,false,false,false,false,false,false,false,false,false,false,false,false,false]) rfl rfl (by kernel_rfl) (by kernel_rfl) (by kernel_rfl) (by kernel_rfl) (by kernel_rfl) (fun _ _ _ h => h) (by kernel_rfl) (by assumption) ?hr12 ?rr12
  case hr12 => (intro w hSw; (try dsimp only at hSw); go_simp; all_goals with_reducible rfl)
  simp only [Act.put,setIfInBounds_toArray,set_cons_zero,set_cons_succ];refine zb0 (i:=13) (fuel:=13) (d:=some 25) (v:=?vr13) (listed':=#[true,true,true,true,true,true,true,true,true,true,true,true,true,true,false,false,false,false,false,false,false,false,false,false,false,false,false]) rfl rfl (by kernel_rfl) (by kernel_rfl) (by kernel_rfl) (by kernel_rfl) (by kernel_rfl) (fun _ _ _ h => h) (by kernel_rfl) (by assumption) ?hr13 ?rr13
  case hr13 => (intro w hSw; (try dsimp only at hSw); go_simp; all_goals with_reducible rfl)
  simp only [Act.put,setIfInBounds_toArray,set_cons_zero,set_cons_succ];refine zb0 (i:=14) (fuel:=12) (d:=some 26) (v:=?vr14) (listed':=#[true,true,true,true,true,true,true,true,true,true,true,true,true,true,true,false,false,false,false,false,false,false,false,false,false,false,false]) rfl rfl (by kernel_rfl) (by kernel_rfl) (by kernel_rfl) (by kernel_rfl) (by kernel_rfl) (fun _ _ _ h => h) (by kernel_rfl) (by assumption) ?hr14 ?rr14
  case hr14 => (intro w hSw; (try dsimp only at hSw); go_simp; all_goals with_reducible rfl)
  simp only [Act.put,setIfInBounds_toArray,set_cons_zero,set_cons_succ];refine zb0 (i:=15) (fuel:=11) (d:=some 27) (v:=?vr15) (listed':=#[true,true,true,true,true,true,true,true,true,true,true,true,true,true,true,true,false,false,false,false,false,false,false,false,false,false,false]) rfl rfl (by kernel_rfl) (by kernel_rfl) (by kernel_rfl) (by kernel_rfl) (by kernel_rfl) (fun _ _ _ h => h) (by kernel_rfl) (by assumption) ?hr15 ?rr15
  case hr15 => (intro w hSw; (try dsimp only at hSw); go_simp; all_goals with_reducible rfl)
  simp only [Act.put,setIfInBounds_toArray,set_cons_zero,set_cons_succ];refine zb0 (i:=16) (fuel:=10) (d:=some 28) (v:=?vr16) (listed':=#[true,true,true,true,true,true,true,true,true,true,true,true,true,true,true,true,true,false,false,false,false,false,false,false,false,false,false]) rfl rfl (by kernel_rfl) (by kernel_rfl) (by kernel_rfl) (by kernel_rfl) (by kernel_rfl) (fun _ _ _ h => h) (by kernel_rfl) (by assumption) ?hr16 ?rr16
  case hr16 => (intro w hSw; (try dsimp only at hSw); go_simp; all_goals with_reducible rfl)
  simp only [Act.put,setIfInBounds_toArray,set_cons_zero,set_cons_succ];refine zb0 (i:=17) (fuel:=9) (d:=some 29) (v:=?vr17) (listed':=#[true,true,true,true,true,true,true,true,true,true,true,true,true,true,true,true,true,true,false,false,false,false,false,false,false,false,false]) rfl rfl (by kernel_rfl) (by kernel_rfl) (by kernel_rfl) (by kernel_rfl) (by kernel_rfl) (fun _ _ _ h => h) (by kernel_rfl) (by assumption) ?hr17 ?rr17
  case hr17 => (intro w hSw; (try dsimp only at hSw); go_simp; all_goals with_reducible rfl)
  simp only [Act.put,setIfInBounds_toArray,set_cons_zero,set_cons_succ];refine zb0 (i:=18) (fuel:=8) (d:=some 30) (v:=?vr18) (listed':=#[true,true,true,true,true,true,true,true,true,true,true,true,true,true,true,true,true,true,true,false,false,false,false,false,false,false,false]) rfl rfl (by kernel_rfl) (by kernel_rfl) (by kernel_rfl) (by kernel_rfl) (by kernel_rfl) (fun _ _ _ h => h) (by kernel_rfl) (by assumption) ?hr18 ?rr18
  case hr18 => (intro w hSw; (try dsimp only at hSw); go_simp; all_goals with_reducible rfl)
  simp only [Act.put,setIfInBounds_toArray,set_cons_zero,set_cons_succ];refine takeC (i:=19) (fuel:=7) (d:=some 31) (listed':=#[true,true,true,true,true,true,true,true,true,true,true,true,true,true,true,true,true,true,true,true,false,false,false,false,false,false,false]) rfl rfl (by kernel_rfl) (by kernel_rfl) (by kernel_rfl) (by kernel_rfl) (fun K hK => ?cr19)
  go_simp
  ((go_at_call 108; with_reducible refine (HF.out _ (by first | exact hB | exact hB.drew)).mono ?_; rw [HO.out]; rintro e1 w1 ⟨rfl,hb1⟩; replace hB:=zaB (by first | exact hB | exact hB.drew) hb1 lR))
  go_wp2_with fail
  refine hK.out _ _ ?kr19 (fun hHeld => ?nr19)
  case kr19 => ((try dsimp only); (first | exact KB.out _ hB | exact KB.out _ hB.drew))
  clear hK K
  try simp only [skipAct,Act.put,setIfInBounds_toArray,set_cons_zero,set_cons_succ]
  refine zb0 (i:=20) (fuel:=6) (d:=some 32) (v:=?vr20) (listed':=#[true,true,true,true,true,true,true,true,true,true,true,true,true,true,true,true,true,true,true,true,true,false,false,false,false,false,false]) rfl rfl (by kernel_rfl) (by kernel_rfl) (by kernel_rfl) (by kernel_rfl) (by kernel_rfl) (fun _ _ _ h => h) (by kernel_rfl) (by assumption) ?hr20 ?rr20
  case hr20 => (intro w hSw; (try dsimp only at hSw); go_simp; all_goals with_reducible rfl)
  simp only [Act.put,setIfInBounds_toArray,set_cons_zero,set_cons_succ];refine zb0 (i:=21) (fuel:=5) (d:=some 33) (v:=?vr21) (listed':=#[true,true,true,true,true,true,true,true,true,true,true,true,true,true,true,true,true,true,true,true,true,true,false,false,false,false,false]) rfl rfl (by kernel_rfl) (by kernel_rfl) (by kernel_rfl) (by kernel_rfl) (by kernel_rfl) (fun _ _ _ h => h) (by kernel_rfl) (by assumption) ?hr21 ?rr21
  case hr21 => (intro w hSw; (try dsimp only at hSw); go_simp; all_goals with_reducible rfl)
  simp only [Act.put,setIfInBounds_toArray,set_cons_zero,set_cons_succ];refine zb0 (i:=22) (fuel:=4) (d:=some 34) (v:=?vr22) (listed':=#[true,true,true,true,true,true,true,true,true,true,true,true,true,true,true,true,true,true,true,true,true,true,true,false,false,false,false]) rfl rfl (by kernel_rfl) (by kernel_rfl) (by kernel_rfl) (by kernel_rfl) (by kernel_rfl) (fun _ _ _ h => h) (by kernel_rfl) (by assumption) ?hr22 ?rr22
  case hr22 => (intro w hSw; (try dsimp only at hSw); go_simp; all_goals with_reducible rfl)
  simp only [Act.put,setIfInBounds_toArray,set_cons_zero,set_cons_succ];refine takeS (fuel:=1) (listed':=#[true,true,true,true,true,true,true,true,true,true,true,true,true,true,true,true,true,true,true,true,true,true,true,true,true,true,false]) (by kernel_rfl) (fun _ _ _ _ h => h) (by assumption) [(23,35),(24,36),(25,37)] (by kernel_rfl) (by kernel_rfl) (by kernel_rfl) ?_;simp only [skipAct,setIfInBounds_toArray,set_cons_zero,set_cons_succ];refine zb0 (i:=26) (fuel:=0) (d:=some 38) (v:=?vr26) (listed':=#[true,true,true,true,true,true,true,true,true,true,true,true,true,true,true,true,true,true,true,true,true,true,true,true,true,true,true]) rfl rfl (by kernel_rfl) (by kernel_rfl) (by kernel_rfl) (by kernel_rfl) (by kernel_rfl) (fun _ _ _ h => h) (by kernel_rfl) (by assumption) ?hr26 ?rr26
  case hr26 => (intro w hSw; (try dsimp only at hSw); go_simp; all_goals with_reducible rfl)
  simp only [Act.put,setIfInBounds_toArray,set_cons_zero,set_cons_succ];refine wpAnyH_done (by kernel_rfl) ?_ _;go_wp2;go_ret
  exact ⟨by rw [H.out]; rfl,⟨M,hb0.below (by first | exact hB | exact hB.drew | exact Go.below_drewN hB _),fun h => by rw [H.out] at h; cases h⟩,hK0.then (by first | exact hB | exact hB.drew | exact Go.below_drewN hB _)⟩
 | true =>
  have HO:=Lib.hid hnode
  cases hkk:V.kidsOk k kids with
  | false =>
   have HKK:=Lib.hid (show V.kidsOk (V.kind (.mk k m e s kids)) (V.kids (.mk k m e s kids)) = false from hkk);have H:=Lib.hid (zg3 (deep:=deep) (L:=M + 1) (x:=.mk k m e s kids) (by rw [HSN.out,hnode]; exact hkk));clear hnode hkk
   go_enter Tryz.func75,Tryz.ntmps75
   go_wp2;rw [<- HW.out];have hB:=Below.refl W0.heap.size W0
   go_region_held3 (fun W => W.cell? ⟨w.heap.size,0,none⟩ = some (.int .i64 k) /\ W.cell? ⟨w.heap.size,1,none⟩ = some (.int .i64 m) /\ W.cell? ⟨w.heap.size,2,none⟩ = some (.int .i64 e) /\ W.cell? ⟨w.heap.size,3,none⟩ = some (.string ⟨s.toArray⟩) /\ W.cell? ⟨w.heap.size,4,none⟩ = some (.slice a2 kids.length c2) /\ W.cell? ⟨w.heap.size + 1,0,none⟩ = some (.int .i64 deep) /\ W.cell? ⟨w.heap.size + 1 + 1,0,none⟩ = some (.pointer (some ⟨g,0,none⟩)) /\ W.cell? ⟨g,0,none⟩ = some (.int .i64 M))
    (first | exact KB.out _ hB | exact KB.out _ hB.drew)
    (first | (go_at_call 108; with_reducible refine (HF.out _ (by first | exact hB | exact hB.drew)).mono ?_; rw [HO.out]; rintro e1 w1 ⟨rfl,hb1⟩; replace hB:=zaB (by first | exact hB | exact hB.drew) hb1 lR) | (go_at_call 109; with_reducible refine (HQ.out _ (by first | exact hB | exact hB.drew)).mono ?_; rw [HKK.out]; rintro e1 w1 ⟨rfl,hb1⟩; replace hB:=zaB (by first | exact hB | exact hB.drew) hb1 lR))
   go_wp2;go_ret
   exact ⟨by rw [H.out]; rfl,⟨M,hb0.below (by first | exact hB | exact hB.drew | exact Go.below_drewN hB _),fun h => by rw [H.out] at h; cases h⟩,hK0.then (by first | exact hB | exact hB.drew | exact Go.below_drewN hB _)⟩
  | true =>
   have HKK:=Lib.hid (show V.kidsOk (V.kind (.mk k m e s kids)) (V.kids (.mk k m e s kids)) = true from hkk);have H0:=vGood_yes (L:=M + 1) qc2 (show V.selfI (.mk k m e s kids) = true by rw [HSN.out,hnode]; exact hkk);rw [show M + 1 - 1 = M by omega] at H0;have H:=Lib.hid H0;clear H0 hnode hkk
   go_enter Tryz.func75,Tryz.ntmps75
   go_wp2;rw [<- HW.out];have hB:=Below.refl W0.heap.size W0
   go_region_held3 (fun W => W.cell? ⟨w.heap.size,0,none⟩ = some (.int .i64 k) /\ W.cell? ⟨w.heap.size,1,none⟩ = some (.int .i64 m) /\ W.cell? ⟨w.heap.size,2,none⟩ = some (.int .i64 e) /\ W.cell? ⟨w.heap.size,3,none⟩ = some (.string ⟨s.toArray⟩) /\ W.cell? ⟨w.heap.size,4,none⟩ = some (.slice a2 kids.length c2) /\ W.cell? ⟨w.heap.size + 1,0,none⟩ = some (.int .i64 deep) /\ W.cell? ⟨w.heap.size + 1 + 1,0,none⟩ = some (.pointer (some ⟨g,0,none⟩)) /\ W.cell? ⟨g,0,none⟩ = some (.int .i64 M))
    (first | exact KB.out _ hB | exact KB.out _ hB.drew)
    (first | (go_at_call 108; with_reducible refine (HF.out _ (by first | exact hB | exact hB.drew)).mono ?_; rw [HO.out]; rintro e1 w1 ⟨rfl,hb1⟩; replace hB:=zaB (by first | exact hB | exact hB.drew) hb1 lR) | (go_at_call 109; with_reducible refine (HQ.out _ (by first | exact hB | exact hB.drew)).mono ?_; rw [HKK.out]; rintro e1 w1 ⟨rfl,hb1⟩; replace hB:=zaB (by first | exact hB | exact hB.drew) hb1 lR))
   obtain ⟨p0,p1,p2,p3,p4,p6,p7,p8⟩:=KB.out _ hB;have hkw:V.wfs kids:=hwf.2.2.2.2.2;have hkb:kids.length + V.bulks kids <= 4294967295:=by simp only [V.bulk] at hbk; omega
   have HCC:=Lib.hid (hC kids _ deep N g (w.heap.size + 1) (w.heap.size + 1 + 1) M _ hnk (HRk.out _ hB) hNg (hb0.below hB) (hbd0.below hB) (by omega) p7 (by omega) hkw hkb (hT0.out.below hB) hG (by omega) (by omega))
   go_wp2_with (go_at_call 110; refine HCC.out.mono ?_; rintro e1 w2 ⟨rfl,⟨L',hbx,hL'⟩,hk2⟩)
   go_ret;exact ⟨by rw [H.out]; simp,⟨L',hbx,fun hh => by rw [H.out] at hh; rw [hL' hh]; simp only [V.nodes]; omega⟩,(hK0.then hB).trans hk2⟩
theorem zg4 {n:Nat} (hA:VIsA n) (x:V) (cs:List Value) (deep N g bd bl:Nat) (L:Int) (w:World) (hn:x.nodes <= n) (h:RdN N w x.d cs) (hNg:N <= g) (hbox:intBox w g L) (hbd:intBox w bd deep) (hbl:w.cell? ⟨bl,0,none⟩ = some (.pointer (some ⟨g,0,none⟩)))
  (hwf:x.wf) (hbk:x.bulk <= 4294967295) (hT:Tabs w) (hG:GlobN N) (hdeep:deep <= 1000) (hL:0 <= L /\ L <= 1000) :
  Calls Tryz.prog 111 #[.agg cs.toArray,.pointer (some ⟨bd,0,none⟩),.pointer (some ⟨bl,0,none⟩)] w fun e w' => e = .returned (.bool (!vGood (deep + 1) L x)) /\ (∃ L':Int,intBox w' g L' /\ (vGood (deep + 1) L x = true -> L' = L - x.nodes)) /\ Keep (· = g) w w':=by
 obtain ⟨k,m,e,s,a2,n2,c2,rfl⟩:=V.form h.rd;have hb1:=hbd.cell;have hz1:=hbd.lt;have hz2:bl < w.heap.size:=zhp hbl;have hN:N <= w.heap.size:=by have:=hbox.lt; omega
 have hal:Below w.heap.size w (w.alloc (.cells #[.int .i64 k,.int .i64 m,.int .i64 e,.string ⟨s.toArray⟩,.slice a2 n2 c2] 51)):=(Below.refl _ _).alloc lR _;have HCC:=Lib.hid (hA x _ (deep + 1) N g L _ hn (h.below (hal.mono hN)) hNg (hbox.below hal) hwf hbk (hT.below hal) hG (by omega) hL)
 go_enter Tryz.func111,Tryz.ntmps111
 go_wp2_with (go_at_call 75; refine HCC.out.mono ?_; rintro e w1 ⟨rfl,hL',hk1⟩)
 go_ret;exact ⟨rfl,hL',(Keep.of_below hal).trans hk1⟩
theorem zhX (deep:Nat) (L:Int) (xs:List V) (k:Nat) (hk:k < xs.length) (h:vGoods deep L (xs.take k) = true) :
  vGoods deep L (xs.take (k + 1)) = vGood deep (L - V.nodess (xs.take k)) xs[k]:=by
 have hn:∀ (ls:List V) (x:V),V.nodess (ls ++ [x]) = V.nodess ls + x.nodes:=by
  intro ls x; induction ls with
  | nil => simp [V.nodess]
  | cons a ls ih => simp only [cons_append,V.nodess,ih]; omega
 unfold vGoods at h ⊢; unfold vGood
 rw [take_succ_eq_append_getElem hk,hn,V.rightsBy_all,all_append];rw [V.rightsBy_all] at h;simp only [Bool.and_eq_true,decide_eq_true_eq] at h;rw [h.1,Bool.true_and]
 congr 1
 ·simp
 ·exact decide_eq_decide.2 (by omega)
theorem vGoods_cut (deep:Nat) (L:Int) (xs:List V) (k:Nat) (h:vGoods deep L (xs.take k) = false):vGoods deep L xs = false:=by
 have hn:∀ (ls ms:List V),V.nodess (ls ++ ms) = V.nodess ls + V.nodess ms:=by
  intro ls ms; induction ls with
  | nil => simp [V.nodess]
  | cons a ls ih => simp only [cons_append,V.nodess,ih]; omega
 cases hk:vGoods deep L xs with
 | false => rfl
 | true =>
  exfalso;rw [<- take_append_drop k xs] at hk;unfold vGoods at h hk;rw [V.rightsBy_all,all_append,hn] at hk;rw [V.rightsBy_all] at h;simp only [Bool.and_eq_true,decide_eq_true_eq] at hk;rw [hk.1.1,decide_eq_true (by omega)] at h; cases h
theorem zg5 {n:Nat} (hA:VIsA n) (xs:List V) (va:Value) (deep N g bd bl:Nat) (L:Int) (w:World) (hn:V.nodess xs <= n) (h:RdN N w (.sl 5 (V.ds xs)) [va]) (hNg:N <= g) (hbox:intBox w g L) (hbd:intBox w bd deep) (hbg:bd ≠ g) (hbl:w.cell? ⟨bl,0,none⟩ = some (.pointer (some ⟨g,0,none⟩))) (hlg:bl ≠ g)
  (hwf:V.wfs xs) (hbk:xs.length + V.bulks xs <= 4294967295) (hT:Tabs w) (hG:GlobN N) (hdeep:deep <= 1000) (hL:0 <= L /\ L <= 1000) :
  Calls Tryz.prog 129 #[va,.func (.func 111) #[] #[.pointer (some ⟨bd,0,none⟩),.pointer (some ⟨bl,0,none⟩)]] w fun e w' => (∃ r:Int,e = .returned (.int .i64 r) /\ decide (0 <= r) = !vGoods (deep + 1) L xs) /\ (∃ L':Int,intBox w' g L' /\ (vGoods (deep + 1) L xs = true -> L' = L - V.nodess xs)) /\ Keep (· = g) w w':=by
 have hN:N <= w.heap.size:=by have:=hbox.lt; omega
 have hng:∀ k,k < N -> ¬ k = g:=by intro k hk e; omega
 have hz1:=hbd.lt;have hz2:bl < w.heap.size:=zhp hbl;have hlen:xs.length <= 4294967295:=by omega
 obtain ⟨a,c,rfl,hg⟩:=RepC.values h;obtain ⟨ok,hok⟩:∃ ok,vGoods (deep + 1) L xs = ok:=⟨_,rfl⟩;rw [hok];have HOK:=Lib.hid hok; clear hok
 obtain ⟨hL1,hL2⟩:=hL
 go_enter Tryz.func129,Tryz.ntmps129
 go_wp2
 go_loopw [8] (fun i wr => ∃ (k:Nat),k <= xs.length /\ i = .int .i64 k /\ intBox wr g (L - V.nodess (xs.take k)) /\ vGoods (deep + 1) L (xs.take k) = true /\ Keep (· = g) w wr) (fun i _ => xs.length - (intOf i).toNat)
 case atStart => exact ⟨0,Nat.zero_le _,rfl,by simpa [V.nodess] using hbox,by simp [vGoods,V.rightsBy,V.nodess,hL1],Keep.refl _ _⟩
 case round =>
  obtain ⟨k,hk,rfl,hbx,hgd,hkp⟩:=hrel;have HGD:=Lib.hid hgd;have hle:(V.nodess (xs.take k):Int) <= L:=by unfold vGoods at hgd; simp only [Bool.and_eq_true,decide_eq_true_eq] at hgd; exact hgd.2
  clear hgd;by_cases hlt:k < xs.length
  ·obtain ⟨_,_,b,o,rfl,hb,hcell⟩:=hg (by intro e; rw [e] at hlt; simp at hlt)
   obtain ⟨v0,v1,v2,v3,v4,hr,d0,d1,d2,d3,d4⟩:=hcell k hlt;clear hcell hg;obtain ⟨k1,k2,k3,s4,a6,n6,m6,hcs⟩:=V.formS hr;simp only [cons.injEq,and_true] at hcs;obtain ⟨rfl,rfl,rfl,rfl,rfl⟩:=hcs;have hbN:b < w.heap.size:=by omega
   have hbg':=hng b hb;rw [<- hkp.cell hbN hbg'] at d0 d1 d2 d3 d4;have hi1:(0:Int) <= k:=by omega
   have hi3:(k:Int) < xs.length:=by omega
   have hnk:xs[k].nodes <= n:=Nat.le_trans (V.nodes_get xs k hlt) hn;have HC:=Lib.hid (zg4 hA xs[k] _ deep N g bd bl _ wr hnk (RdN.keep (N:=N) hr hkp hN hng) hNg hbx (hbd.keep hkp hbg) (by rw [hkp.cell hz2 hlg]; exact hbl) (V.wfs_get hwf k hlt) (V.bulk_get' hbk k hlt) (hT.keep hG hkp hN hng) hG hdeep (by omega));have HSN:=Lib.hid (zhX (deep + 1) L xs k hlt HGD.out)
   have hns:V.nodess (xs.take (k + 1)) = V.nodess (xs.take k) + xs[k].nodes:=by
    rw [take_succ_eq_append_getElem hlt]
    have hn:∀ (ls:List V) (x:V),V.nodess (ls ++ [x]) = V.nodess ls + x.nodes:=by
     intro ls x; induction ls with
     | nil => simp [V.nodess]
     | cons a ls ih => simp only [cons_append,V.nodess,ih]; omega
    exact hn _ _
   have HNS:=Lib.hid hns;clear hns hr hbx h hT hwf hbk hng hbox hbd hbl
   cases hgd:vGood (deep + 1) (L - V.nodess (xs.take k)) xs[k] with
   | true =>
    have HG:=Lib.hid hgd; clear hgd
    go_wp2_with (go_at_call 111; refine HC.out.mono ?_; rw [HG.out]; rintro e w1 ⟨rfl,⟨L',hbx1,hL'⟩,hk1⟩)
    go_roundw
    case rel => exact ⟨k + 1,by omega,by go_num,by rw [show L - (V.nodess (xs.take (k + 1)):Int) = L' by rw [hL' trivial,HNS.out]; omega]; exact hbx1,by rw [HSN.out,HG.out],hkp.trans hk1⟩
    case measure => simp [intOf]; omega
   | false =>
    have HG:=Lib.hid hgd; clear hgd
    have HF:=Lib.hid (show ok = false by rw [<- HOK.out]; exact vGoods_cut _ _ _ (k + 1) (by rw [HSN.out,HG.out]))
    go_wp2_with (go_at_call 111; refine HC.out.mono ?_; rw [HG.out]; rintro e w1 ⟨rfl,⟨L',hbx1,hL'⟩,hk1⟩)
    go_ret;exact ⟨⟨_,rfl,by rw [HF.out]; simp⟩,⟨L',hbx1,fun hh => by rw [HF.out] at hh; cases hh⟩,hkp.trans hk1⟩
  ·obtain rfl:k = xs.length:=by omega
   have h1:=HGD.out;rw [take_length] at h1 hbx;have HF:=Lib.hid (show ok = true by rw [<- HOK.out]; exact h1);clear h1;go_wp2;go_ret;exact ⟨⟨_,rfl,by rw [HF.out]; rfl⟩,⟨_,hbx,fun _ => rfl⟩,hkp⟩
theorem VIsC_of {n:Nat} (hA:VIsA n):VIsC n:=by
 intro xs va deep N g bd bl L w hn h hNg hbox hbd hbg hbl hlg hwf hbk hT hG hdeep hL;have HC:=Lib.hid (zg5 hA xs va deep N g bd bl L w hn h hNg hbox hbd hbg hbl hlg hwf hbk hT hG hdeep hL)
 go_enter Tryz.func110,Tryz.ntmps110
 go_wp2_with (go_at_call 129; refine HC.out.mono ?_; rintro e w1 ⟨⟨r,rfl,hr⟩,hL',hk1⟩; have HR:=Lib.hid hr; clear hr)
 go_ret;exact ⟨by rw [<- HR.out]; rfl,hL',hk1⟩
theorem VIs_all:∀ n,VIsA n
 | 0 => fun x cs deep N g L w hn => absurd x.nodes_pos (by omega)
 | n + 1 => VIsA_of (VIsC_of (VIs_all n))
theorem zg6 (x:V) (cs:List Value) (w:World) (h:Rd w x.d cs) (hwf:x.wf) (hbk:x.bulk <= 4294967295) (hT:Tabs w) :
  Calls Tryz.prog 43 #[.agg cs.toArray] w fun e w' => e = .returned (.bool x.ok) /\ Below w.heap.size w w':=by
 obtain ⟨k,m,e,s,a2,n2,c2,rfl⟩:=V.form h;obtain ⟨W0,hW0⟩:∃ W0,W0 = (w.alloc (.cells #[.int .i64 k,.int .i64 m,.int .i64 e,.string ⟨s.toArray⟩,.slice a2 n2 c2] 51)).alloc (.cells #[.int .i64 300] 3):=⟨_,rfl⟩;have HW:=Lib.hid hW0;have hA:Below w.heap.size w W0:=by rw [hW0]; exact ((Below.refl _ _).alloc lR _).alloc (by simp) _
 have hbx:intBox W0 (w.heap.size + 1) 300:=by
  rw [hW0]
  have:=za1 (w.alloc (.cells #[.int .i64 k,.int .i64 m,.int .i64 e,.string ⟨s.toArray⟩,.slice a2 n2 c2] 51)) (.cells #[.int .i64 300] 3)
  simpa [intBox] using this
 have HC:=Lib.hid (VIs_all x.nodes x _ 0 w.heap.size (w.heap.size + 1) 300 W0 lR (h.rdN.below hA) (by omega) hbx hwf hbk (hT.below hA) ⟨hT.lt.1,hT.lt.2⟩ (by decide) (by decide));have hsz:W0.heap.size = w.heap.size + 2:=by rw [hW0]; simp
 clear hW0 h hbx
 go_enter Tryz.func43,Tryz.ntmps43
 go_wp2_with (go_at_call 75; rw [<- HW.out]; refine HC.out.mono ?_; rintro e w1 ⟨rfl,_,hk1⟩)
 go_ret;refine ⟨zaI ?_,hA.trans (hk1.below (by omega) (fun k hk e => by omega))⟩;show vGood 0 300 x = _;rw [<- V.ok_impl]; unfold vGood; congr 1
 exact decide_eq_decide.2 (by omega)
end
section
variable {T:World -> Prop} {hT:Low ngl T}
theorem voki_fn (hTab:∀ w,T w -> Tabs w) (v:V) (hw:v.wf) (hb:v.bulk <= 4294967295):FnV (env T hT) 43 [.ag (vC v)] (.d (pB v.ok)):=by
 refine FnV.old rfl fun w C vs hF _ ht hlen hv => ?_
 match vs,hlen with
 | [a],_ =>
  have h0:=hv 0 _ _ rfl rfl;rw [<- V.pc_eq] at h0;obtain ⟨cs,rfl,h1⟩:=vRd hF (V.wfd v) h0;exact zg6 v cs w h1 hw hb (hTab w ht)
end
section
open Go.Lib (validD)
variable {T:World -> Prop} {hT:Low ngl T}
attribute [local irreducible] po mw pt
theorem po_slcg {E:Env} {d n:Nat} {x:X} {g:Option (Nat × Bool)} {lo hi:Option X} {c:List X} {r:List MOpr} {K:St -> Prop} {tm:Nat -> PV} {bx:LP PC} {nt:Nat} {live:List Nat} {t l h:Nat} {es rs:LP PC} (hg:gd g tm = some true) (hx:ev tm x = .d (.sl t es)) (hl:bound (ev tm) 0 lo = some l) (hh:bound (ev tm) es.length hi = some h) (hle:l <= h /\ h <= es.length) (hw:∀ e ∈ es,e.length = n) (hr:(es.drop l).take (h - l) = rs)
  (k:po E r K ⟨up d (.d (.sl 0 rs)) tm,bx,nt,live⟩):po E (⟨some d,.slc n x lo hi,g,c⟩ :: r) K ⟨tm,bx,nt,live⟩:=by
 refine po_q hg ?_ k;subst hr;simp only [qf,hx,hl,hh];rw [if_pos ⟨hle.1,hle.2,hw⟩]
theorem po_eqs {E:Env} {K:St -> Prop} {tm:Nat -> PV} {bx:LP PC} {nt d:Nat} {live:List Nat} {r:List MOpr} {g:Option (Nat × Bool)} {c:List X} {x y:X} {la lb:L8} {f:Bool} (hg:gd g tm = some true) (hx:ev tm x = .d (pS la)) (hy:ev tm y = .d (pS lb)) (h:po E r K ⟨up d (.d (pB (decide (la = lb)))) tm,bx,nt,live⟩):po E (⟨some d,.bin .eql f x y,g,c⟩ :: r) K ⟨tm,bx,nt,live⟩:=by
 refine po_q hg ?_ h;simp only [qf,hx,hy,pS];show some (PV.d (.v (.bool ((ByteArray.mk la.toArray).toList == (ByteArray.mk lb.toArray).toList)))) = _;rw [ByteArray.toList_eq,ByteArray.toList_eq];show some (PV.d (.v (.bool (la == lb)))) = _;by_cases h:la = lb
 ·subst h; simp [pB]
 ·simp [h,pB]
theorem zg7:∀ (ls:List (L8)) (i:Nat) (h:i < ls.length) (k:Nat),ixF ls ls[i] k = ((k + i:Nat):Int) ↔ ls[i] ∉ ls.take i
 | a :: r,0,h,k => by simp [ixF]
 | a :: r,i + 1,h,k => by
  have ih:=zg7 r i (by simpa using h) (k + 1);simp only [getElem_cons_succ,take_succ_cons,mem_cons,not_or];rw [ixF];by_cases he:a = r[i]'(by simpa using h)
  ·rw [if_pos he]
   constructor
   ·intro h2; omega
   ·intro h2; exact absurd he.symm h2.1
  ·rw [if_neg he,show k + (i + 1) = k + 1 + i by omega,ih]
   exact ⟨fun h2 => ⟨fun e => he e.symm,h2⟩,fun h2 => h2.2⟩
theorem ixF_memN:∀ (ls:List (L8)) (s:L8) (k:Nat),(0 <= ixF ls s k) ↔ s ∈ ls
 | [],s,k => by simp [ixF]
 | a :: r,s,k => by
  unfold ixF; split
  ·rename_i h; subst h; simp
  ·rename_i h; rw [ixF_memN r s (k + 1)]; simp [Ne.symm h]
def IxI (ns:List (L8)) (key:L8) (m:Nat) (st:St):Prop:=∃ i:Nat,i <= ns.length /\ m = ns.length - i /\ has st.tm [(0,.d (pSs ns)),(1,.d (pS key)),(7,.d (pI ns.length)),(8,.d (pI i))] /\ ixF (ns.drop i) key i = ixF ns key 0
theorem indexN_fn (ns:List (L8)) (key:L8) (hl:ns.length <= 4294967295):FnV (env T hT) 74 [.d (pSs ns),.d (pS key)] (.d (pI (ixF ns key 0))):=by
 refine zaW (zaj zbu) (by show 2 <= 19; decide) fun B hB => ?_
 unfold m_slices_Index_impl_Names_string;refine mP ?_;refine zan (fun s => ixF ns key 0 = -1) ?_ ?_
 ·refine mQ ?_
  refine zav (n:=ns.length) rfl rfl (zbr ns) ?_;refine mN ?_;refine zab ?_;refine zas (IxI ns key) ns.length ⟨0,Nat.zero_le _,rfl,⟨rfl,rfl,rfl,rfl,trivial⟩,rfl⟩ ?_;rintro m tm bx nt live ⟨i,hi,rfl,ht,hx⟩;obtain ⟨tm0,rfl⟩:=zac ht;refine mO ?_;refine po_b rfl rfl (fun b hb => ?_);refine zaa ?_;refine zak ?_;refine zaZ (p:=(i:Int) < ns.length) hb rfl (fun h _ => ?_) (fun h _ => ?_)
  ·have hil:i < ns.length:=by omega
   refine zai ?_;refine zak (zab (zak (zaf ?_)));refine mN ?_;refine mO ?_;(iterate 3 refine mS ?_);refine zaH (es:=pSr ns) (e:=[pS ns[i]]) rfl rfl rfl ⟨by omega,by rw [Int.toNat_natCast]; exact zb8 hil⟩ rfl ?_;refine mS ?_;refine po_eqs (la:=key) (lb:=ns[i]) rfl rfl rfl ?_;refine mN ?_;refine zbB (p:=key = ns[i]) rfl (fun hc => ?_) (fun hc => ?_)
   ·rw [<- hx,ixF_yes hil hc.symm]
    refine mP ?_;exact mR
   ·refine zai ?_
    refine zaf ?_;refine zam (n:=((i + 1:Nat):Int)) rfl rfl rfl (by omega) (by omega) ?_;refine mN ?_;exact ⟨ns.length - (i + 1),by omega,i + 1,hil,rfl,⟨rfl,rfl,rfl,rfl,trivial⟩,by rw [<- hx,ixF_no hil (fun e => hc e.symm)]⟩
  ·refine zat ?_
   have:i = ns.length:=by omega
   subst this;rw [ixF_end] at hx;exact hx.symm
 intro tm bx nt live hx;refine mP ?_;rw [hx];exact mR
theorem zg8 (ns:List (L8)) (key:L8) (hl:ns.length <= 4294967295):FnV (env T hT) 42 [.d (pSs ns),.d (pS key)] (.d (pB (decide (key ∈ ns)))):=by
 refine zaW (zaj zbm) (by show 2 <= 9; decide) fun B hB => ?_
 unfold m_slices_Contains_impl_Names_string;refine mP ?_;refine mO ?_;(iterate 2 refine mS ?_);refine zad (ks_arg ns key) (indexN_fn ns key hl) ?_;refine po_b rfl rfl (fun b1 hb1 => ?_);refine mN ?_
 have:decide (key ∈ ns) = b1:=by rw [hb1]; exact decide_eq_decide.2 (ixF_memN ns key 0).symm
 rw [this];exact mR
theorem toki_fn (hTab:∀ w,T w -> Tabs w) (l:L8) (hl:l.length <= 4294967295):FnV (env T hT) 41 [.d (pS l)] (.d (pB (validD l))):=by
 refine FnV.old rfl fun w C vs hF _ ht hlen hv => ?_
 match vs,hlen with
 | [x],_ =>
  have h1:=zew (hv 0 _ _ rfl rfl);subst h1;exact zc3 l w hl (hTab w ht)
def NiI (ns:List (L8)) (m:Nat) (st:St):Prop:=∃ i:Nat,i <= ns.length /\ m = ns.length - i /\ has st.tm [(0,.d (pSs ns)),(5,.d (pSs ns)),(6,.d (pI ns.length)),(7,.d (pI i))] /\ allN i (nmB ns) = true /\ i <= 100
theorem dats_S {l:L8} {a:PV} (ha:a = .d (pS l)):PV.dats [a] = some [.d (pS l)]:=by subst ha; rfl
theorem zeH (hTab:∀ w,T w -> Tabs w) (ns:List (L8)) (hl:ns.length <= 4294967295) (hbn:∀ n ∈ ns,n.length <= 4294967295):FnV (env T hT) 17 [.d (pSs ns)] (.d (pB (nmsB ns))):=by
 refine zaW (zaj zg0) (by show 1 <= 32; decide) fun B hB => ?_
 unfold m_i_NamesOk;refine mP ?_;refine zan (fun s => nmsB ns = true) ?_ ?_
 ·refine mQ ?_
  refine zav (n:=ns.length) rfl rfl (zbr ns) ?_;refine mN ?_;refine zab ?_;refine zas (NiI ns) ns.length ⟨0,Nat.zero_le _,rfl,⟨rfl,rfl,rfl,rfl,trivial⟩,rfl,Nat.zero_le _⟩ ?_;rintro m tm bx nt live ⟨i,hi,rfl,ht,hall,hi100⟩;obtain ⟨tm0,rfl⟩:=zac ht;refine mO ?_;refine po_b rfl rfl (fun b hb => ?_);refine zaa ?_;refine zak ?_;refine zaZ (p:=(i:Int) < ns.length) hb rfl (fun h _ => ?_) (fun h _ => ?_)
  ·have hil:i < ns.length:=by omega
   have hg:=zcZ hil [];have hno:=nmsB_no hil;unfold nmB at hno;rw [hg] at hno;have htk:=toki_fn (T:=T) (hT:=hT) hTab ns[i] (hbn ns[i] (getElem_mem hil));refine zai ?_;refine zak (zab (zak (zaf ?_)));refine mS ?_;refine zaH (es:=pSr ns) (e:=[pS ns[i]]) rfl rfl rfl ⟨by omega,by rw [Int.toNat_natCast]; exact zb8 hil⟩ rfl ?_;refine mN ?_;refine mQ ?_;refine po_q (v:=.d (pI ns[i].length)) rfl rfl ?_;by_cases h100:ns[i].length > 100
   ·have hF:=hno (by rw [decide_eq_false (show ¬ ns[i].length <= 100 by omega)]; simp)
    refine zah rfl rfl (decide_eq_true (by omega)) ?_;refine mS ?_;refine mZ ?_;(iterate 2 refine mS ?_);refine mZ ?_;(iterate 2 refine mS ?_);refine mZ ?_;refine mT ?_;refine mP ?_;rw [hF];exact mR
   refine zal rfl rfl (decide_eq_false (by omega)) ?_;(iterate 2 refine mS ?_);refine zaC (b:=true) (args:=[.d (pS ns[i])]) rfl (fun _ => dats_S rfl) (fun _ => htk) ?_;(iterate 3 refine mS ?_)
   cases hv:validD ns[i] with
   | false =>
    have hF:=hno (by rw [hv]; rfl);refine mZ ?_;(iterate 2 refine mS ?_);refine mZ ?_;refine mT ?_;refine mP ?_;rw [hF]
    exact mR
   | true =>
   refine mS ?_;by_cases hge:(i:Int) ≥ 100
   ·have hF:nmsB ns = false:=by unfold nmsB; rw [decide_eq_false (by omega)]; rfl
    refine zah rfl rfl (decide_eq_true (by omega)) ?_;(iterate 2 refine mS ?_);refine mZ ?_;refine mT ?_;refine mP ?_;rw [hF];exact mR
   refine zal rfl rfl (decide_eq_false (by omega)) ?_;(iterate 4 refine mS ?_);refine po_slcg (t:=0) (l:=0) (h:=i) (es:=pSr ns) (rs:=pSr (ns.take i)) rfl rfl rfl (zaD (i:=(i:Int)) rfl rfl) (by rw [zbr]; omega) (zhq ns) (by rw [drop_zero,Nat.sub_zero]; unfold pSr; rw [map_take]) ?_;refine mS ?_;refine zaC (b:=true) (args:=[.d (pSs (ns.take i)),.d (pS ns[i])]) rfl (fun _ => dats_ks rfl rfl) (fun _ => zg8 _ _ (by rw [length_take]; omega)) ?_;refine mN ?_;have hf:=zg7 ns i hil 0;rw [Nat.zero_add] at hf;refine zbB (p:=ns[i] ∈ ns.take i) rfl (fun hc => ?_) (fun hc => ?_)
   ·have hF:=hno (by rw [decide_eq_false (show ¬ ixF ns ns[i] 0 = (i:Int) from fun e => hf.1 e hc)]; simp)
    refine mP ?_;rw [hF];exact mR
   ·refine zai ?_
    refine zaf ?_;refine zam (n:=((i + 1:Nat):Int)) rfl rfl rfl (by omega) (by omega) ?_;refine mN ?_;exact ⟨ns.length - (i + 1),by omega,i + 1,hil,rfl,⟨rfl,rfl,rfl,rfl,trivial⟩,zcB hall (by unfold nmB; rw [hg,hv,decide_eq_true (show ns[i].length <= 100 by omega),decide_eq_true (show ixF ns ns[i] 0 = (i:Int) from hf.2 hc)]; rfl),by omega⟩
  ·refine zat ?_
   have:i = ns.length:=by omega
   subst this;show nmsB ns = true;unfold nmsB;rw [decide_eq_true hi100,hall]; rfl
 intro tm bx nt live hF;refine mP ?_;rw [hF];exact mR
end
section
variable {T:World -> Prop} {hT:Low ngl T}
attribute [local irreducible] po mw pt
theorem isRef_fn (v:V) (x:V) (hx:v.kids = [x]):FnV (env T hT) 46 [.ag (vC v)] (.d (pB (decide (x.kind = 3 /\ x.num ≥ 0)))):=by
 have hget:(vK v.kids)[(0:Int).toNat]? = some (vC x):=by rw [hx]; rw [zcj]; rfl
 refine zaW (zaj lk_i_isRef) (by show 1 <= 17; decide) fun B hB => ?_
 unfold m_i_isRef;refine mP ?_;refine mO ?_;(iterate 2 refine mS ?_);refine zaH (es:=vK v.kids) (e:=vC x) rfl rfl rfl ⟨by omega,hget⟩ rfl ?_;(iterate 2 refine mS ?_);by_cases h3:x.kind = 3
 ·refine zah rfl rfl (decide_eq_true h3) ?_
  (iterate 3 refine mS ?_);refine zaH (es:=vK v.kids) (e:=vC x) rfl rfl rfl ⟨by omega,hget⟩ rfl ?_;(iterate 2 refine mS ?_);refine po_b rfl rfl (fun b hb => ?_);refine mN ?_
  have:decide (x.kind = 3 /\ x.num ≥ 0) = b:=by rw [hb]; exact decide_eq_decide.2 ⟨fun h => h.2,fun h => ⟨h3,h⟩⟩
  rw [this];exact mR
 ·refine zal rfl rfl (decide_eq_false h3) ?_
  refine mS ?_;refine mZ ?_;refine mN ?_;rw [decide_eq_false (fun h => h3 h.1)];exact mR
theorem refOf_one {v x:V} (h9:v.kind = 9 /\ v.num = 6) (hx:v.kids = [x]):refOf v = if x.kind = 3 /\ 0 <= x.num then x.num else -1:=by unfold refOf; rw [if_pos h9,hx]
theorem gl_set {α:Type} {l:List α} {p q:Nat} {x y:α} (h:l[q]? = some y) (hne:p ≠ q):(l.set p x)[q]? = some y:=by rw [getElem?_set_ne hne]; exact h
theorem zbz {α:Type} {l r:List α} {p:Nat} {x:α} (h:l[p]? = some x):(l ++ r)[p]? = some x:=by
 rw [getElem?_append_left]; exact h
 rcases Nat.lt_or_ge p l.length with h' | h'
 ·exact h'
 ·rw [getElem?_eq_none h'] at h; cases h
theorem zdI {α:Type} {l:List α} {p:Nat} {x:α} (h:l[p]? = some x):p < l.length:=by
 rcases Nat.lt_or_ge p l.length with h' | h'
 ·exact h'
 ·rw [getElem?_eq_none h'] at h; cases h
theorem set_app {α:Type} {l r:List α} {p:Nat} {x y:α} (h:l[p]? = some y):(l ++ r).set p x = l.set p x ++ r:=set_append_left _ _ (zdI h)
theorem set_same {α:Type} {l:List α} {p:Nat} {x:α} (h:l[p]? = some x):l.set p x = l:=by
 refine ext_getElem? fun j => ?_
 by_cases hj:p = j
 ·subst hj; rw [getElem?_set_self (zdI h),h]
 ·rw [getElem?_set_ne hj]
def AhB (p:Nat) (a:Bool) (bx b:LP PC):Prop:=∃ rest,b = bx.set p [pB a] ++ rest
theorem ahClo_g (v:V) (hk:v.ok = true) (a:Bool) (i:Int) {bx:LP PC} {p q nt:Nat} {live:List Nat} (hp:bx[p]? = some [pB a]) (hq:bx[q]? = some [pI i]) :
  FnG (env T hT) 45 [.ag (vC v),.ref p 0,.ref q 0] bx nt live (fun _ b n l => AhB p (a && ownA i v) bx b /\ n = nt /\ l = live):=by
 refine zaG (zaj zeU) (by show 3 <= 26; decide) fun B hB => ?_
 unfold m_i_TableOk_1;refine mP ?_;have hlb:(bx ++ [vC v])[bx.length]? = some (vC v):=zbg bx (vC v);have hp':(bx ++ [vC v])[p]? = some [pB a]:=zbz hp;have hq':(bx ++ [vC v])[q]? = some [pI i]:=zbz hq;have hplt:=zdI hp;have hset:∀ c:Bool,(bx ++ [vC v]).set p [pB c] = bx.set p [pB c] ++ [vC v]:=fun c => set_app hp
 have hid:AhB p (a && true) bx (bx ++ [vC v]):=⟨[vC v],by rw [Bool.and_true]; congr 1; exact (set_same hp).symm⟩;refine mQ ?_;refine za7 (cs:=vC v) (v:=.d (pI v.kind)) rfl rfl hlb (Nat.le_of_ble_eq_true rfl) rfl ?_;by_cases h9:v.kind = 9
 case neg =>
  refine zal rfl rfl (decide_eq_false h9) ?_;refine mS ?_;refine mZ ?_;refine mK ?_;refine ⟨.inl rfl,[],rfl,?_,rfl,rfl⟩
  have:ownA i v = true:=by unfold ownA; rw [if_neg (fun h => h9 h.1)]
  rw [this]; exact hid
 refine zah rfl rfl (decide_eq_true h9) ?_;(iterate 2 refine mS ?_);refine za7 (cs:=vC v) (v:=.d (pI v.num)) rfl rfl hlb (Nat.le_of_ble_eq_true rfl) rfl ?_;by_cases h6:v.num = 6
 case neg =>
  refine zal rfl rfl (decide_eq_false h6) ?_;refine mK ?_;refine ⟨.inl rfl,[],rfl,?_,rfl,rfl⟩
  have:ownA i v = true:=by unfold ownA; rw [if_neg (fun h => h6 h.2)]
  rw [this]; exact hid
 refine zah rfl rfl (decide_eq_true h6) ?_;refine mT ?_;obtain ⟨x,hx⟩:∃ x,v.kids = [x]:=length_eq_one_iff.1 (V.ok_one hk h9);have hget:(vK v.kids)[(0:Int).toNat]? = some (vC x):=by rw [hx]; rw [zcj]; rfl
 have hR:=refOf_one ⟨h9,h6⟩ hx;have hO:ownA i v = (decide (0 <= refOf v) && decide (refOf v < i)):=by unfold ownA; rw [if_pos ⟨h9,h6⟩]
 rw [hO];refine zaf ?_;refine za7 (cs:=[pB a]) (v:=.d (pB a)) rfl rfl hp' (Nat.le_of_ble_eq_true rfl) rfl ?_;refine mS ?_
 cases a with
 | false =>
  refine mZ ?_;(iterate 2 refine mS ?_);refine mZ ?_;refine mS ?_;refine zaw (p:=p) (o':=0) (cs:=[pB false]) (z:=[pB false]) rfl rfl hp' ⟨rfl,Nat.le_of_ble_eq_true rfl⟩ rfl ?_;refine zaa ?_
  exact ⟨.inl rfl,[],rfl,⟨[vC v],hset false⟩,rfl,rfl⟩
 | true =>
 refine za7 (cs:=vC v) (v:=.ag (vC v)) rfl rfl hlb (Nat.le_of_ble_eq_true rfl) rfl ?_;refine zaC (b:=true) (args:=[.ag (vC v)]) rfl (fun _ => zbA v) (fun _ => isRef_fn v x hx) ?_;(iterate 2 refine mS ?_);by_cases hc:x.kind = 3 /\ x.num ≥ 0
 case neg =>
  rw [decide_eq_false hc];rw [if_neg (fun h => hc ⟨h.1,h.2⟩)] at hR;refine mZ ?_;refine mS ?_;refine zaw (p:=p) (o':=0) (cs:=[pB false]) (z:=[pB true]) rfl rfl hp' ⟨rfl,Nat.le_of_ble_eq_true rfl⟩ rfl ?_;refine zaa ?_;refine ⟨.inl rfl,[],rfl,⟨[vC v],?_⟩,rfl,rfl⟩;rw [hR]; exact hset false
 rw [decide_eq_true hc];rw [if_pos ⟨hc.1,hc.2⟩] at hR;refine mS ?_;refine za7 (cs:=vC v) (v:=.d (.sl 0 (vK v.kids))) rfl rfl hlb (Nat.le_of_ble_eq_true rfl) rfl ?_;refine zaH (es:=vK v.kids) (e:=vC x) rfl rfl rfl ⟨by omega,hget⟩ rfl ?_;(iterate 2 refine mS ?_);refine za7 (cs:=[pI i]) (v:=.d (pI i)) rfl rfl hq' (Nat.le_of_ble_eq_true rfl) rfl ?_;refine po_b rfl rfl (fun b hb => ?_);refine mS ?_;refine zaw (p:=p) (o':=0) (cs:=[pB b]) (z:=[pB true]) rfl rfl hp' ⟨rfl,Nat.le_of_ble_eq_true rfl⟩ rfl ?_;refine zaa ?_;refine ⟨.inl rfl,[],rfl,⟨[vC v],?_⟩,rfl,rfl⟩
 have:(true && (decide (0 <= refOf v) && decide (refOf v < i))) = b:=by rw [hR,hb,decide_eq_true (show (0:Int) <= x.num by omega)]; rfl
 rw [this]; exact hset b
end
section
variable {T:World -> Prop} {hT:Low ngl T}
attribute [local irreducible] po mw pt
theorem AhB.trans {p:Nat} {a1 a2:Bool} {bx b c:LP PC} {z:List PC} (hp:bx[p]? = some z) (h:AhB p a1 bx b) (k:AhB p a2 b c):AhB p a2 bx c:=by
 obtain ⟨r1,rfl⟩:=h;obtain ⟨r2,rfl⟩:=k;have hlt:=zdI hp;refine ⟨r1 ++ r2,?_⟩;rw [set_append_left _ _ (by rw [length_set]; exact hlt),set_set,append_assoc]
theorem AhB.push {p:Nat} {a:Bool} {bx b:LP PC} (h:AhB p a bx b) (x:List PC):AhB p a bx (b ++ [x]):=by
 obtain ⟨r,rfl⟩:=h;exact ⟨r ++ [x],by rw [append_assoc]⟩
theorem AhB.self {p:Nat} {a:Bool} {bx:LP PC} (h:bx[p]? = some [pB a]):AhB p a bx bx:=⟨[],by rw [append_nil,set_same h]⟩
theorem AhB.at {p:Nat} {a:Bool} {bx b:LP PC} {z:List PC} (h:AhB p a bx b) (hp:bx[p]? = some z):b[p]? = some [pB a]:=by
 obtain ⟨r,rfl⟩:=h;exact zbz (getElem?_set_self (zdI hp))
theorem AhB.other {p q:Nat} {a:Bool} {bx b:LP PC} {z:List PC} (h:AhB p a bx b) (hq:bx[q]? = some z) (hne:p ≠ q):b[q]? = some z:=by
 obtain ⟨r,rfl⟩:=h;exact zbz (gl_set hq hne)
theorem po_nw2 {E:Env} {K:St -> Prop} {tm:Nat -> PV} {bx:LP PC} {nt d1 d2 n1 n2:Nat} {live:List Nat} {r:List MOpr} {z1 z2:List Value} {x1 x2:X} {cs1 cs2:List PC} {c1 c2:List X}
  (hx1:pcells (ev (up d2 (.ref (bx.length + 1) 0) (up d1 (.ref bx.length 0) tm)) x1) = some cs1) (hx2:pcells (ev (up d2 (.ref (bx.length + 1) 0) (up d1 (.ref bx.length 0) tm)) x2) = some cs2) (hn1:cs1.length = n1) (hz1:z1.length = n1) (hn2:cs2.length = n2) (hz2:z2.length = n2)
  (hc1:c1.all (apartX (ev (up d2 (.ref (bx.length + 1) 0) (up d1 (.ref bx.length 0) tm))) (.t d1)) = true) (hc2:c2.all (apartX (ev (up d2 (.ref (bx.length + 1) 0) (up d1 (.ref bx.length 0) tm))) (.t d2)) = true) (ha1:ev (up d2 (.ref (bx.length + 1) 0) (up d1 (.ref bx.length 0) tm)) (.t d1) = .ref bx.length 0)
  (h:po E r K ⟨up d2 (.ref (bx.length + 1) 0) (up d1 (.ref bx.length 0) tm),bx ++ [cs1] ++ [cs2],nt,live⟩) :
  po E (⟨some d1,.zero z1,none,[]⟩ :: ⟨some d2,.zero z2,none,[]⟩ :: ⟨none,.store n1 (.t d1) x1,none,c1⟩ :: ⟨none,.store n2 (.t d2) x2,none,c2⟩ :: r) K ⟨tm,bx,nt,live⟩:=by
 refine zcz ?_;refine zcz ?_;have hl:(bx ++ [z1.map ofC]).length = bx.length + 1:=by simp
 rw [hl];have hb0:(bx ++ [z1.map ofC] ++ [z2.map ofC])[bx.length]? = some (z1.map ofC):=zbz (zbg _ _)
 have ha2:ev (up d2 (.ref (bx.length + 1) 0) (up d1 (.ref bx.length 0) tm)) (.t d2) = .ref (bx.length + 1) 0:=by
  show up d2 (.ref (bx.length + 1) 0) (up d1 (.ref bx.length 0) tm) d2 = _;rw [<- up_eq]; exact if_pos rfl
 have spl_all:∀ (z:List Value) (cs:List PC) (n:Nat),cs.length = n -> z.length = n -> spl (z.map ofC) 0 cs = cs:=fun z cs n h1 h2 => by
  unfold spl;rw [take_zero,nil_append,drop_of_length_le (by rw [length_map]; omega),append_nil]
 refine zaw ha1 hx1 hb0 ⟨hn1,by rw [length_map]; omega⟩ hc1 ?_
 have e2:(bx ++ [z1.map ofC] ++ [z2.map ofC]).set bx.length cs1 = bx ++ [cs1] ++ [z2.map ofC]:=by
  rw [set_append_left _ _ (by simp),set_append_right _ _ lR,Nat.sub_self]; rfl
 rw [spl_all z1 cs1 n1 hn1 hz1,e2]
 have hb1:(bx ++ [cs1] ++ [z2.map ofC])[bx.length + 1]? = some (z2.map ofC):=by
  have:=zbg (bx ++ [cs1]) (z2.map ofC)
  rwa [show (bx ++ [cs1]).length = bx.length + 1 by simp] at this
 refine zaw ha2 hx2 hb1 ⟨hn2,by rw [length_map]; omega⟩ hc2 ?_
 have e3:(bx ++ [cs1] ++ [z2.map ofC]).set (bx.length + 1) cs2 = bx ++ [cs1] ++ [cs2]:=by
  rw [set_append_right _ _ (by simp),show bx.length + 1 - (bx ++ [cs1]).length = 0 by simp]; rfl
 rw [spl_all z2 cs2 n2 hn2 hz2,e3];exact h
def WkP (T:World -> Prop) (hT:Low ngl T) (N:Nat):Prop:=∀ (v:V) (i:Int) (a:Bool) (bx:LP PC) (p q nt:Nat) (live:List Nat),v.nodes <= N -> v.ok = true -> bx[p]? = some [pB a] -> bx[q]? = some [pI i] -> p ≠ q ->
 FnG (env T hT) 44 [.ag (vC v),.fn 45 [.ref p 0,.ref q 0]] bx nt live (fun _ b n l => AhB p (a && v.ahW i) bx b /\ n = nt /\ l = live)
def WkI (v:V) (i:Int) (a:Bool) (bx:LP PC) (p q nt:Nat) (live:List Nat) (m:Nat) (s:St):Prop:=∃ j:Nat,j <= v.kids.length /\ m = v.kids.length - j /\ has s.tm [(1,.fn 45 [.ref p 0,.ref q 0]),(10,.d (.sl 0 (vK v.kids))),(11,.d (pI v.kids.length)),(12,.d (pI j))] /\ AhB p (a && (ownA i v && V.ahWs i (v.kids.take j))) bx s.bx /\ s.nt = nt /\ s.live = live
theorem walk_step {N:Nat} (hS:WkP T hT N) (v:V) (i:Int) (a:Bool) (bx:LP PC) (p q nt:Nat) (live:List Nat) (hn:v.nodes <= N + 1) (hk:v.ok = true) (hp:bx[p]? = some [pB a]) (hq:bx[q]? = some [pI i]) (hne:p ≠ q) :
  FnG (env T hT) 44 [.ag (vC v),.fn 45 [.ref p 0,.ref q 0]] bx nt live (fun _ b n l => AhB p (a && v.ahW i) bx b /\ n = nt /\ l = live):=by
 have hkl:=V.ok_len hk;have hplt:=zdI hp;refine zaG (zaj lk_i_walk) (by show 2 <= 20; decide) fun B hB => ?_
 unfold m_i_walk;refine mP ?_;refine mQ ?_;refine za7 (cs:=vC v) (v:=.ag (vC v)) rfl rfl (zbg bx (vC v)) (Nat.le_of_ble_eq_true rfl) rfl ?_;refine po_vg (f:=45) (cap:=[.ref p 0,.ref q 0]) rfl (by kernel_rfl) rfl (ahClo_g v hk a i (zbz hp) (zbz hq)) ?_;rintro y b1 n1 l1 ⟨hA,rfl,rfl⟩;refine zaa ?_;have hA1:AhB p (a && ownA i v) bx b1:=AhB.trans hp ((AhB.self hp).push (vC v)) hA;have hv1:b1[bx.length]? = some (vC v):=hA.other (zbg bx (vC v)) (by omega);refine mQ ?_;refine za7 (cs:=vC v) (v:=.d (.sl 0 (vK v.kids))) rfl rfl hv1 (Nat.le_of_ble_eq_true rfl) rfl ?_;refine zav (n:=v.kids.length) rfl rfl (zaY _) ?_;refine mN ?_;refine zab ?_;refine zas (WkI v i a bx p q n1 l1) v.kids.length ⟨0,Nat.zero_le _,rfl,⟨rfl,rfl,rfl,rfl,trivial⟩,by rw [take_zero]; show AhB p (a && (ownA i v && true)) bx b1; rw [Bool.and_true]; exact hA1,rfl,rfl⟩ ?_
 rintro m tm bx2 nt2 live2 ⟨j,hj,rfl,ht,hB2,hnn,hll⟩;obtain ⟨tm0,rfl⟩:=zac ht;simp only at hB2 hnn hll
 subst hnn; subst hll
 clear ht;refine mO ?_;refine po_b rfl rfl (fun b hb => ?_);refine zaa ?_;refine zak ?_;refine zaZ (p:=(j:Int) < v.kids.length) hb rfl (fun h _ => ?_) (fun h _ => ?_)
 ·have hjl:j < v.kids.length:=by omega
  refine zai ?_;refine zak (zab (zak (zaf ?_)));refine zaH (es:=vK v.kids) (e:=vC v.kids[j]) rfl rfl rfl ⟨by omega,by rw [Int.toNat_natCast]; exact zbo hjl⟩ rfl ?_;refine po_q (v:=.ag (vC v.kids[j])) rfl rfl ?_;refine zbI (cs:=vC v.kids[j]) rfl rfl rfl rfl ?_;refine zaa ?_;refine zaf ?_;refine za7 (cs:=vC v.kids[j]) (v:=.ag (vC v.kids[j])) rfl rfl (zbg bx2 (vC v.kids[j])) (Nat.le_of_ble_eq_true rfl) rfl ?_;refine mS ?_;have hB3:=hB2.push (vC v.kids[j]);refine po_g rfl (hS v.kids[j] i _ _ p q nt2 live2 (V.nodes_kid hn j hjl) (V.ok_kid hk j hjl) (hB3.at hp) (hB3.other hq hne) hne) ?_;rintro y b4 n4 l4 ⟨hB4,rfl,rfl⟩;refine zaa ?_;refine zaf ?_;refine zam (n:=((j + 1:Nat):Int)) rfl rfl rfl (by omega) (by omega) ?_;refine mN ?_;refine ⟨v.kids.length - (j + 1),by omega,j + 1,hjl,rfl,⟨rfl,rfl,rfl,rfl,trivial⟩,?_,rfl,rfl⟩
  have e:(a && (ownA i v && V.ahWs i (v.kids.take (j + 1)))) = ((a && (ownA i v && V.ahWs i (v.kids.take j))) && v.kids[j].ahW i):=by
   rw [take_succ_eq_append_getElem hjl,V.ahWs_app];simp only [V.ahWs,Bool.and_true,Bool.and_assoc]
  rw [e];exact AhB.trans hp hB3 hB4
 ·refine zat ?_
  have:j = v.kids.length:=by omega
  subst this;refine ⟨.inl rfl,[],rfl,?_,rfl,rfl⟩;rw [take_length] at hB2;rw [V.ahW_eq]; exact hB2
theorem walk_g:∀ (N:Nat),WkP T hT N
 | 0,v,i,a,bx,p,q,nt,live,hn,_,_,_,_ => by obtain ⟨k,n,e,s,kids⟩:=v; simp only [V.nodes] at hn; omega
 | N + 1,v,i,a,bx,p,q,nt,live,hn,hk,hp,hq,hne => walk_step (walk_g N) v i a bx p q nt live hn hk hp hq hne
def TiI (vs:List V) (m:Nat) (st:St):Prop:=∃ i:Nat,i <= vs.length /\ m = vs.length - i /\ has st.tm [(9,.d (.sl 0 (vK vs))),(10,.d (pI vs.length)),(11,.d (pI i))] /\ allN i (fun i => (vs.getD i (.mk 0 0 0 [] [])).ok && (vs.getD i (.mk 0 0 0 [] [])).ahead i) = true
theorem zeI (hTab:∀ w,T w -> Tabs w) (vs:List V) (hl:vs.length <= 4294967295) (hw:∀ v ∈ vs,v.wf) (hb':∀ v ∈ vs,v.bulk <= 4294967295):FnV (env T hT) 18 [.d (.sl 0 (vK vs))] (.d (pB (tabB vs))):=by
 refine zaW (zaj zg1) (by show 1 <= 25; decide) fun B hB => ?_
 unfold m_i_TableOk;refine mP ?_;refine mM ?_;refine mS ?_;refine zav (n:=vs.length) rfl rfl (zaY _) ?_;refine po_b rfl rfl (fun b60 hb60 => ?_);refine zaa ?_;refine zaZ (p:=(vs.length:Int) > 60) hb60 rfl (fun h60 _ => ?_) (fun h60 _ => ?_)
 ·have hF:tabB vs = false:=by unfold tabB; rw [decide_eq_false (by omega)]; rfl
  refine mP ?_;rw [hF];exact mR
 refine zai ?_;refine zan (fun s => tabB vs = true) ?_ ?_
 ·refine mQ ?_
  refine zav (n:=vs.length) rfl rfl (zaY _) ?_;refine mN ?_;refine zab ?_;refine zas (TiI vs) vs.length ⟨0,Nat.zero_le _,rfl,⟨rfl,rfl,rfl,trivial⟩,rfl⟩ ?_;rintro m tm bx nt live ⟨i,hi,rfl,ht,hall⟩;obtain ⟨tm0,rfl⟩:=zac ht;refine mO ?_;refine po_b rfl rfl (fun b hb => ?_);refine zaa ?_;refine zak ?_;refine zaZ (p:=(i:Int) < vs.length) hb rfl (fun h _ => ?_) (fun h _ => ?_)
  ·have hil:i < vs.length:=by omega
   have hg:=zcZ hil (.mk 0 0 0 [] []);have hno:=tabB_no hil;rw [hg] at hno;have hmem:=getElem_mem hil;have hvk:=voki_fn (T:=T) (hT:=hT) hTab vs[i] (hw _ hmem) (hb' _ hmem);refine zai ?_;refine zak (zab (zak (zaf ?_)));refine mS ?_;refine zaH (es:=vK vs) (e:=vC vs[i]) rfl rfl rfl ⟨by omega,by rw [Int.toNat_natCast]; exact zbo hil⟩ rfl ?_;refine po_q (v:=.ag (vC vs[i])) rfl rfl ?_;refine po_nw2 (cs1:=[pI i]) (cs2:=vC vs[i]) rfl rfl rfl rfl rfl rfl rfl rfl rfl ?_;refine zaa ?_
   have hb1:(bx ++ [[pI i]] ++ [vC vs[i]])[bx.length + 1]? = some (vC vs[i]):=by
    have:=zbg (bx ++ [[pI i]]) (vC vs[i])
    rwa [show (bx ++ [[pI i]]).length = bx.length + 1 by simp] at this
   have hb0:(bx ++ [[pI i]] ++ [vC vs[i]])[bx.length]? = some [pI i]:=zbz (zbg _ _);refine mM ?_;refine za7 (cs:=vC vs[i]) (v:=.ag (vC vs[i])) rfl rfl hb1 (Nat.le_of_ble_eq_true rfl) rfl ?_;refine zad (zbA vs[i]) hvk ?_;refine mN ?_
   cases hv:vs[i].ok with
   | false =>
    have hF:=hno (by rw [hv]; rfl);refine mwT ?_;refine mP ?_;rw [hF]
    exact mR
   | true =>
   refine mwF ?_;refine zai ?_;refine mO ?_;refine zbI (cs:=[pB true]) rfl rfl rfl rfl ?_;refine zaa ?_;refine mO ?_;refine za7 (cs:=vC vs[i]) (v:=.ag (vC vs[i])) rfl rfl (zbz hb1) (Nat.le_of_ble_eq_true rfl) rfl ?_;refine mS ?_;have hP:=zbg (bx ++ [[pI i]] ++ [vC vs[i]]) [pB true];refine po_g rfl (walk_g vs[i].nodes vs[i] i true (bx ++ [[pI i]] ++ [vC vs[i]] ++ [[pB true]]) (bx ++ [[pI i]] ++ [vC vs[i]]).length bx.length nt live lR hv hP (zbz hb0) (by simp)) ?_;rintro y b4 n4 l4 ⟨hB4,rfl,rfl⟩;refine zaa ?_;rw [zgH i _ vs[i] lR hv,Bool.true_and] at hB4;refine mO ?_;refine za7 (cs:=[pB (vs[i].ahead i)]) (v:=.d (pB (vs[i].ahead i))) rfl rfl (hB4.at hP) (Nat.le_of_ble_eq_true rfl) rfl ?_;refine mN ?_;refine zaU (t:=!vs[i].ahead i) rfl (fun hc => ?_) (fun hc => ?_)
   ·have hF:=hno (by rw [hv]; simpa using hc)
    refine mP ?_;rw [hF];exact mR
   ·refine zai ?_
    refine zaf ?_;refine zam (n:=((i + 1:Nat):Int)) rfl rfl rfl (by omega) (by omega) ?_;refine mN ?_;exact ⟨vs.length - (i + 1),by omega,i + 1,hil,rfl,⟨rfl,rfl,rfl,trivial⟩,zcB hall (by rw [hg,hv]; simpa using hc)⟩
  ·refine zat ?_
   have:i = vs.length:=by omega
   subst this;show tabB vs = true;unfold tabB;rw [hall,decide_eq_true (by omega)]; rfl
 intro tm bx nt live hF;refine mP ?_;rw [hF];exact mR
end
end Go.Proofs.YtmmcehkdnnolkaaGreatDoor
