/- Part 5 of a proof: RtDrw, TabsLow, FnRoot, Laid, Tabs -/
import Derived.Test.YthgeaoidcffmeaaGreatDoorRb4
import Derived.HandedShaped
import Derived.Shelf.Vars
import Derived.Lay
import Derived.LaidMore
import Derived.Stop.Joined
import Derived.Lib.LaidU8T
namespace Go.Proofs.YthgeaoidcffmeaaGreatDoor
open Go.RowKit
set_option maxHeartbeats 4000000
set_option maxRecDepth 100000
open List
section
variable {T:World -> Prop} {hT:Low ngl T}
attribute [local irreducible] po mw pt
theorem sl_tokA {q:Nat} {es:LP PC} (h:2 <= q):q ∈ toksL [PC.sl q es]:=by
 simp only [toksL,zbC h,append_nil]; exact mem_cons_self ..
def LsS (q:Nat) (rows:LP PC) (ks:List V) (k:Nat):Prop:=2 <= q /\ erLL rows = vK ks /\ ks.length <= k /\ ∀ x ∈ ks,Gd 4000 x
theorem LsS.app {q p k:Nat} {rows:LP PC} {ks:List V} {cs:List PC} {v:V} (h:LsS q rows ks k) (he:erL cs = vC v) (hg:Gd 4000 v) (hp:2 <= p):LsS p (rows ++ [cs]) (ks ++ [v]) (k + 1) :=
 ⟨hp,erk_app h.2.1 (erk_one he),by rw [length_append,length_singleton]; have:=h.2.2.1; omega,fun x hx => (mem_append.1 hx).elim (h.2.2.2 x) fun hx => by rw [mem_singleton] at hx; subst hx; exact hg⟩
def QLs:Nat -> List Nat -> PV -> Nat -> List Nat -> Prop:=fun nt live x n l => ∃ (q:Nat) (rows:LP PC) (ks:List V),x = .d (.sl q rows) /\ NR nt live n l [.sl q []] /\ LsS q rows ks 5
def LsR (b:L8) (nt:Nat) (live:List Nat) (x:PV) (bx:LP PC) (n:Nat) (l:List Nat):Prop:=∃ c' rest,bx = c' :: rest /\ x.lw 0 /\ lwL 0 c' /\ Cu b c' /\ QLs nt live x n l
def LsI (b:L8) (nt:Nat) (live:List Nat) (n:Nat) (m:Nat) (st:St):Prop :=
 ∃ (i:Nat) (c:List PC) (q:Nat) (rows:LP PC) (ks:List V),i <= n /\ m = n - i /\ Cu b c /\ has st.tm [(0,.ref 0 0),(3,.d (.sl q rows)),(4,.d (pI n)),(5,.d (pI i))] /\ st.bx = [c] /\ NR nt live st.nt st.live [.sl q []] /\ LsS q rows ks i
theorem ze6 {b:L8} (hb:b.length <= 2147483647):Drw (env T hT) b 14 [] QLs:=by
 rintro c nt live hc hn;refine za0 (R:=LsR b nt live) (zaf zfU) (by show 1 <= 20; decide) fun B hB' => ?_
 unfold m_s_l13List;refine mP ?_;refine mO ?_;refine zao (es:=[]) rfl ?_;refine mN ?_;have hN:=NR.lit (es:=[]) hn (NR.refl nt live);refine mQ ?_;refine po_g rfl ((za3 (T:=T) (hT:=hT) hb 6).use ⟨trivial,trivial⟩ hc (hN.n2 hn) (p:=0) rfl) ?_;rintro x bx n1 l1 ⟨c1,rfl,hc1,r,rfl,r0,r1,hN1⟩;obtain ⟨n,rfl⟩:∃ n:Nat,r = n:=⟨r.toNat,by omega⟩;have hn5:n <= 5:=by omega
 have hN:=hN.pass hN1;refine mN ?_;refine zay (fun st => ∃ (c:List PC) (q:Nat) (rows:LP PC) (ks:List V),Cu b c /\ has st.tm [(3,.d (.sl q rows))] /\ st.bx = [c] /\ NR nt live st.nt st.live [.sl q []] /\ LsS q rows ks 5) ?_ ?_
 ·refine mP ?_
  refine zad ?_;refine zaw (LsI b nt live n) n ⟨0,c1,nt,[],[],Nat.zero_le _,rfl,hc1,⟨rfl,rfl,rfl,rfl,trivial⟩,rfl,hN,hn,rfl,Nat.zero_le _,by simp⟩ ?_;clear hN hN1 hc1 hc;rintro m tm bx n2 l2 ⟨i,c,q,rows,ks,hi,rfl,hc,ht,hbx,hN,hL⟩;obtain ⟨tm1,rfl⟩:=zae ht;simp only at hbx hN; subst hbx
  clear ht;refine mM ?_;(iterate 2 refine mS ?_);refine po_b rfl rfl (fun p hp => ?_);refine zaa ?_;refine zbB (p:=(i:Int) < n) hp rfl (fun him _ => ?_) (fun him _ => ?_)
  rotate_left
  ·refine zaB ?_
   exact ⟨c,q,rows,ks,hc,⟨rfl,trivial⟩,rfl,hN,hL.1,hL.2.1,by have:=hL.2.2.1; omega,hL.2.2.2⟩
  have hol:=zdN hL.2.1;have hk6:=hL.2.2.1;have hn2:=hN.n2 hn;refine zak ?_;refine zal (zad (zah ?_));(iterate 2 refine mS ?_);refine po_g rfl ((any_drw (T:=T) (hT:=hT) hb).use trivial hc hn2 (p:=0) rfl) ?_;rintro x bx n3 l3 ⟨c3,rfl,hc3,cs,v,rfl,hN3,he,hg,_,_⟩;have hN:=hN.pass hN3.forget;have hn3:=hN.n2 hn;have hqm:=(hN.mem q (sl_tokA hL.1)).2.2;refine zao (es:=[cs]) (zdf rfl (zbD he)) ?_;refine za5 (t:=q) (t':=n3) (es:=rows) (ds:=[cs]) rfl rfl (.inr (mem_cons_of_mem _ hqm)) (by simp only [length_singleton]; omega) (fun e he' => by rw [mem_singleton] at he'; subst he'; exact zbD he) (erk_wid hL.2.1) ?_;refine mN ?_;refine zah ?_;refine mS ?_;refine zap (n:=((i + 1:Nat):Int)) rfl rfl rfl (by omega) (by omega) ?_;refine mN ?_;exact ⟨_,by show n - (i + 1) < n - i; omega,i + 1,c3,n3 + 1,_,_,by omega,rfl,hc3,⟨rfl,rfl,rfl,rfl,trivial⟩,rfl,NR.appE hn hN.up hL.1,hL.app he hg (by omega)⟩
 rintro tm bx n2 l2 ⟨c,q,rows,ks,hc,ht,hbx,hN,hL⟩;obtain ⟨tm1,rfl⟩:=zae ht;simp only at hbx hN; subst hbx
 refine mP ?_;exact zag ⟨.inr rfl,[.d (.sl q rows)],rfl,c,_,rfl,slw q hL.2.1,hc.lw,hc,q,rows,ks,rfl,hN,hL⟩
theorem LsS.dat {q k:Nat} {rows:LP PC} {ks:List V} (h:LsS q rows ks k):PV.dat (.d (.sl q rows)) = some (.d (.sl 0 (vK ks))):=congrArg (fun x => some (PV.d (.sl 0 x))) h.2.1
theorem LsS.lst {q k:Nat} {rows:LP PC} {ks:List V} (h:LsS q rows ks k) (hk:k <= 1000):Lst ks:=⟨by have:=h.2.2.1; omega,fun v hv => (h.2.2.2 v hv).mono (by decide)⟩
theorem drawRoot_f {b:L8} (hb:b.length <= 2147483647):Fn (env T hT) 5 [.d (.sl 0 (pcB b))] (fun x _ => ∃ ks,x.dat = some (.d (.sl 0 (vK ks))) /\ Lst ks):=by
 refine zaQ (zaf ze5) (by show 1 <= 6; decide) fun B hB => ?_
 unfold m_s_DrawRoot;refine mP ?_;refine mQ ?_;refine po_g rfl (new_l (T:=T) (hT:=hT) hb 2 []) ?_;rintro x bx n l ⟨c,rfl,rfl,hc,rfl,rfl⟩;refine po_g rfl ((ze6 (T:=T) (hT:=hT) hb).use trivial hc (Nat.le_refl 2) (p:=0) rfl) ?_;rintro x bx n l ⟨c',rfl,hc',q,rows,ks,rfl,hN,hL⟩;refine mN ?_;exact zag ⟨.inr rfl,[.d (.sl q rows)],rfl,ks,hL.dat,hL.lst (by decide)⟩
theorem zfV {b:L8} (hb:b.length <= 2147483647):Fn (env T hT) 7 [.d (.sl 0 (pcB b))] (fun x _ => ∃ (ks:List V) (i:Int),x.dat = some (.tup [.d (.sl 0 (vK ks)),.d (pI i)]) /\ Lst ks /\ -1 <= i /\ i <= 10):=by
 refine zaQ (zaf zec) (by show 1 <= 17; decide) fun B hB => ?_
 unfold m_s_DrawBranch;refine mP ?_;refine mQ ?_;refine po_g rfl (new_l (T:=T) (hT:=hT) hb 2 []) ?_;rintro x bx n l ⟨c,rfl,rfl,hc,rfl,rfl⟩;refine mN ?_;refine mQ ?_;refine po_g rfl ((ze6 (T:=T) (hT:=hT) hb).use trivial hc (Nat.le_refl 2) (p:=0) rfl) ?_;rintro x bx n l ⟨c',rfl,hc',q,rows,ks,rfl,hN,hL⟩;refine mN ?_;have hk6:=hL.2.2.1;refine mO ?_;(iterate 3 refine mS ?_);refine zat (n:=ks.length) rfl rfl (zdN hL.2.1) ?_;refine zap (n:=((ks.length + 2:Nat):Int)) rfl rfl rfl (by omega) (by omega) ?_;refine po_g rfl ((za3 (T:=T) (hT:=hT) hb ((ks.length + 2:Nat):Int)).use ⟨trivial,trivial⟩ hc' (hN.n2 (Nat.le_refl 2)) (p:=0) rfl) ?_;rintro x bx n1 l1 ⟨c1,rfl,hc1,r,rfl,r0,r1,hN1⟩;refine za2 (n:=r - 1) rfl rfl rfl (by omega) (by omega) ?_;refine mN ?_;refine zag ⟨.inr rfl,[.d (.sl q rows),.d (pI (r - 1))],rfl,ks,r - 1,?_,hL.lst (by decide),by omega,by omega⟩
 show some (PV.tup [.d (.sl 0 (erLL rows)),.d (pI (r - 1))]) = _;rw [hL.2.1]
theorem branch_lt:∀ (n:Nat) (l:List V) (i:Nat),l.length = n -> U4 (branchL sumV l i):=by
 intro n
 induction n using Nat.strongRecOn with
 | ind n ih =>
  intro l i hl s hs;by_cases h:l.length < 2
  ·rw [zbf sumV h] at hs; cases hs
  ·obtain ⟨h1,h2,_,_⟩:=zbq h
   by_cases hi:i < halfN l.length
   ·rw [zbT sumV h hi] at hs
    rcases mem_append.1 hs with hs | hs
    ·exact ih (halfN l.length) (by omega) _ _ (by rw [length_take]; omega) s hs
    ·rw [mem_singleton] at hs; subst hs; exact rlt _
   ·rw [zbU sumV h hi] at hs
    rcases mem_append.1 hs with hs | hs
    ·exact ih (l.length - halfN l.length) (by omega) _ _ (by rw [length_drop]) s hs
    ·rw [mem_singleton] at hs; subst hs; exact rlt _
theorem brOf_ok (l:List V) (i:Int) (hl:Lst l):U4 (brOf l i) /\ (brOf l i).length <= 1000:=by
 unfold brOf;split
 ·exact ⟨branch_lt _ l _ rfl,by have:=zbn l i.toNat; have:=hl.1; omega⟩
 ·exact ⟨nofun,Nat.zero_le _⟩
def CkR (x:PV):Prop:=∃ (v:V) (i n:Int) (sums:List Nat) (root:Nat),x.dat = some (.tup [.ag (vC v),.d (pI i),.d (pI n),.d (.sl 0 (aR (uV sums))),.d (pU root)]) /\ Gd 1048576 v /\ U4 sums /\ sums.length <= 1000
def CkI (b:L8) (sums:List Nat) (st:St):Prop:=∃ (c e:List PC) (v:V) (i n:Int) (root:Nat),Cu b c /\ has st.tm [(2,.ref 0 0),(7,.ref 1 0),(9,.d (pI i)),(10,.d (.sl 0 (aR (uV sums)))),(11,.d (pU root)),(12,.d (pI n)),(13,.ref 2 0)] /\ st.bx = [zV,c,e] /\ erL e = vC v /\ Gd 4000 v
theorem zgz {b:L8} (hb:b.length <= 2147483647):Fn (env T hT) 10 [.d (.sl 0 (pcB b))] (fun x _ => CkR x):=by
 refine zaQ (zaf zcl) (by show 1 <= 63; decide) fun B hB => ?_
 unfold m_s_DrawCheckBranch;refine mP ?_;refine mQ ?_;refine po_g rfl (new_l (T:=T) (hT:=hT) hb 2 []) ?_;rintro x bx n l ⟨c,rfl,rfl,hc,rfl,rfl⟩;refine mN ?_;refine mQ ?_;refine po_g rfl ((ze6 (T:=T) (hT:=hT) hb).use trivial hc (Nat.le_refl 2) (p:=1) rfl) ?_;rintro x bx n l ⟨c1,rfl,hc1,q,rows,ks,rfl,hN,hL⟩;refine mS ?_;refine po_g rfl ((zeQ (T:=T) (hT:=hT) hb false 1 (by decide)).use ⟨trivial,trivial,trivial⟩ hc1 (hN.n2 (Nat.le_refl 2)) (p:=1) rfl) ?_;rintro x bx n1 l1 ⟨c2,rfl,hc2,cs,v,rfl,hN1,he,hg,_,_⟩;have hN:=hN.pass hN1.forget;have hg:Gd 4000 v:=hg.mono (by decide);have hqm:=(hN.mem q (sl_tokA hL.1)).2.2;have hol:=zdN hL.2.1;have hk6:=hL.2.2.1;refine zao (es:=[cs]) (zdf rfl (zbD he)) ?_;refine za5 (t:=q) (t':=n1) (es:=rows) (ds:=[cs]) rfl rfl (.inr (mem_cons_of_mem _ hqm)) (by simp only [length_singleton]; omega) (fun e he' => by rw [mem_singleton] at he'; subst he'; exact zbD he) (erk_wid hL.2.1) ?_
 refine mN ?_;have hn1:=hN.n2 (Nat.le_refl 2);have hN:=NR.appE (Nat.le_refl 2) hN.up hL.1;have hL:=hL.app he hg (p:=n1 + 1) (by omega);have hpos:0 < (ks ++ [v]).length:=by simp
 generalize rows ++ [cs] = rows at hL;generalize ks ++ [v] = ks at hL hpos;clear he hg hN1 hol hk6 hqm;have hk6:=hL.2.2.1;have hlst:=hL.lst (by decide);have hol:=zdN hL.2.1;have hdr:PV.dats [.d (.sl (n1 + 1) rows)] = some [.d (.sl 0 (vK ks))]:=congrArg (fun x => some [PV.d (.sl 0 x)]) hL.2.1;refine mO ?_;(iterate 2 refine mS ?_);refine zat (n:=ks.length) rfl rfl hol ?_;refine po_g rfl ((za3 (T:=T) (hT:=hT) hb (ks.length:Int)).use ⟨trivial,trivial⟩ hc2 (hN.n2 (Nat.le_refl 2)) (p:=1) rfl) ?_;rintro x bx n2 l2 ⟨c3,rfl,hc3,r,rfl,r0,r1,hN2⟩;obtain ⟨i,rfl⟩:∃ i:Nat,r = i:=⟨r.toNat,by omega⟩;have hi:i < ks.length:=by omega
 refine mN ?_;have hdri:PV.dats [.d (.sl (n1 + 1) rows),.d (pI i)] = some [.d (.sl 0 (vK ks)),.d (pI i)]:=congrArg (fun x => some [PV.d (.sl 0 x),.d (pI i)]) hL.2.1;refine mO ?_;(iterate 2 refine mS ?_);refine zab hdri (zez (T:=T) (hT:=hT) ks i hlst (by omega)).v ?_;refine mS ?_;refine zab hdr (zdr (T:=T) (hT:=hT) ks hlst) ?_;refine mS ?_;refine zat (n:=ks.length) rfl rfl hol ?_;refine mN ?_;obtain ⟨hu4,hul⟩:=brOf_ok ks i hlst;generalize brOf ks i = sums at hu4 hul;obtain ⟨e,hge,hee⟩:=erk_get hL.2.1 hi;have hgi:=hL.2.2.2 _ (getElem_mem hi);obtain ⟨te,re,hse,hre⟩:=vform hee;subst hse;refine mO ?_;(iterate 2 refine mS ?_);refine zaV (es:=rows) (e:=vcs ks[i].kind ks[i].num ks[i].exp ks[i].text te re) rfl rfl rfl ⟨by omega,by rw [Int.toNat_natCast]; exact hge⟩ rfl ?_;refine mS ?_;refine zdH (cs:=vcs ks[i].kind ks[i].num ks[i].exp ks[i].text te re) rfl rfl rfl rfl ?_
 refine mN ?_;refine zay (CkI b sums) ?_ ?_
 ·refine mQ ?_
  refine po_g rfl ((za3 (T:=T) (hT:=hT) hb 6).use ⟨trivial,trivial⟩ hc3 (by have:=(hN.pass hN2).n2 (Nat.le_refl 2); omega) (p:=1) rfl) ?_;rintro x bx n3 l3 ⟨c4,rfl,hc4,z,rfl,z0,z1,hN3⟩;have hn3:=((hN.pass hN2).pass hN3).n2 (Nat.le_refl 2);refine zaa ?_;refine zad ?_;refine mO ?_;by_cases k0:z = 0
  ·refine zai rfl rfl (beq_iff_eq.2 k0) ?_
   refine mT ?_;refine zah ?_;refine mS ?_;refine po_g rfl ((zeQ (T:=T) (hT:=hT) hb false 1 (by decide)).use ⟨trivial,trivial,trivial⟩ hc4 hn3 (p:=1) rfl) ?_;rintro x bx n5 l5 ⟨c5,rfl,hc5,cs5,v5,rfl,hN5,he5,hg5,_,_⟩;refine zaT (p:=2) (cs:=cs5) rfl rfl rfl (zbD he5) rfl rfl ?_;refine mN ?_;exact ⟨c5,cs5,v5,_,_,_,hc5,⟨rfl,rfl,rfl,rfl,rfl,rfl,rfl,trivial⟩,rfl,he5,hg5.mono (by decide)⟩
  refine zan rfl rfl (beq_eq_false_iff_ne.2 k0) ?_;refine mF ?_;refine mO ?_;by_cases k1:z = 1
  ·refine zai rfl rfl (beq_iff_eq.2 k1) ?_
   refine mT ?_;refine zah ?_;(iterate 2 refine mS ?_);refine zao (es:=[[pI (-1)],[pI 0],[pI 1],[pI ks.length]]) rfl ?_;refine po_g rfl ((zbz (T:=T) (hT:=hT) hb (fun _ => true) (es:=[[pI (-1)],[pI 0],[pI 1],[pI ks.length]]) rfl (by show 0 < 4; decide)).use ⟨by simp only [PV.lw,PC.lw]; exact zcb (p:=fun _ => true) rfl,trivial⟩ hc4 (by omega) (p:=1) rfl) ?_;rintro x bx n5 l5 ⟨c5,rfl,hc5,i5,rfl,_,hN5⟩;refine mN ?_;exact ⟨c5,_,_,i5,_,_,hc5,⟨rfl,rfl,rfl,rfl,rfl,rfl,rfl,trivial⟩,rfl,hee,hgi⟩
  refine zan rfl rfl (beq_eq_false_iff_ne.2 k1) ?_;refine mF ?_;refine mO ?_;by_cases k2:z = 2
  ·refine zai rfl rfl (beq_iff_eq.2 k2) ?_
   refine mT ?_;refine zah ?_;refine mS ?_;refine zao (es:=[[pI 0],[pI 1],[pI 2],[pI 1000],[pI 1001],[pI (-9223372036854775808)]]) rfl ?_;refine po_g rfl ((zbz (T:=T) (hT:=hT) hb (fun _ => true) (es:=[[pI 0],[pI 1],[pI 2],[pI 1000],[pI 1001],[pI (-9223372036854775808)]]) rfl (by show 0 < 6; decide)).use ⟨by simp only [PV.lw,PC.lw]; exact zcb (p:=fun _ => true) rfl,trivial⟩ hc4 (by omega) (p:=1) rfl) ?_;rintro x bx n5 l5 ⟨c5,rfl,hc5,i5,rfl,_,hN5⟩;refine mN ?_;exact ⟨c5,_,_,_,i5,_,hc5,⟨rfl,rfl,rfl,rfl,rfl,rfl,rfl,trivial⟩,rfl,hee,hgi⟩
  refine zan rfl rfl (beq_eq_false_iff_ne.2 k2) ?_;refine mF ?_;refine mO ?_;by_cases k3:z = 3
  ·refine zai rfl rfl (beq_iff_eq.2 k3) ?_
   refine mT ?_;refine zah ?_;refine mS ?_
   refine po_q (v:=.d (pU ((rootL sumV ks + 1) % 4294967296))) rfl (by
    show some (PV.d (.v (.int .u32 (IntKind.u32.wrap ((rootL sumV ks:Nat) + 1:Int))))) = _
    have:IntKind.u32.wrap ((rootL sumV ks:Nat) + 1:Int) = (((rootL sumV ks + 1) % 4294967296:Nat):Int):=by
     simp [IntKind.wrap,IntKind.bits,IntKind.signed]
    rw [this]; rfl) ?_
   refine mN ?_;exact ⟨c4,_,_,_,_,_,hc4,⟨rfl,rfl,rfl,rfl,rfl,rfl,rfl,trivial⟩,rfl,hee,hgi⟩
  refine zan rfl rfl (beq_eq_false_iff_ne.2 k3) ?_;refine mK ?_;exact ⟨c4,_,_,_,_,_,hc4,⟨rfl,rfl,rfl,rfl,rfl,rfl,rfl,trivial⟩,rfl,hee,hgi⟩
 rintro tm bx n4 l4 ⟨c4,e,v4,i4,n5,root,hc4,ht,hbx,he4,hg4⟩;obtain ⟨tm1,rfl⟩:=zae ht;simp only at hbx; subst hbx
 clear ht;obtain ⟨t4,r4,hse,hr4⟩:=vform he4;subst hse;refine mO ?_;refine za1 (p:=2) (cs:=vcs v4.kind v4.num v4.exp v4.text t4 r4) rfl rfl rfl rfl ?_;(iterate 4 refine mS ?_);refine zaT (p:=0) (cs:=vcs v4.kind v4.num v4.exp v4.text t4 r4) rfl rfl rfl rfl rfl rfl ?_;refine mN ?_;refine zag ⟨.inr rfl,[.ag (vcs v4.kind v4.num v4.exp v4.text t4 r4),.d (pI i4),.d (pI n5),.d (.sl 0 (aR (uV sums))),.d (pU root)],rfl,v4,i4,n5,sums,root,?_,hg4.mono (by decide),hu4,hul⟩;show some (PV.tup [.ag (erL _),.d (pI i4),.d (pI n5),.d (.sl 0 (erLL (aR (uV sums)))),.d (pU root)]) = _;rw [he4,zgw]
end
section
theorem Tabs.low:Low ngl Tabs:=by
 intro w w' h hs hk;have h1:0 < ngl:=of_decide_eq_true (by unfold ngl; kernel_rfl);have h2:1 < ngl:=of_decide_eq_true (by unfold ngl; kernel_rfl);refine ⟨fun c hc => ?_,fun i hi => ?_⟩
 ·rw [World.cell?_of_block (a:=⟨_,_,none⟩) (hk _ h1)]; exact h.1 c hc
 ·rw [World.cell?_of_block (a:=⟨_,_,none⟩) (hk _ h2),World.cell?_of_block (a:=⟨_,_,none⟩) (hk _ h2)]; exact h.2 i hi
end
section
attribute [local irreducible] mw pt
section
variable {E:Env} {K:St -> Prop} {tm:Nat -> PV} {bx:LP PC} {nt d:Nat} {live:List Nat} {r:List MOpr} {g:Option (Nat × Bool)} {c:List X}
theorem po_litg {n:Nat} {xs:List X} {es:LP PC} (hg:gd g tm = some true) (hq:litP (ev tm) n xs = some es) (h:po E r K ⟨up d (.d (.sl nt es)) tm,bx,nt + 1,nt :: live⟩):po E (⟨some d,.lit n xs,g,[]⟩ :: r) K ⟨tm,bx,nt,live⟩:=by
 rw [<- zbb] at h;exact ⟨true,hg,.inl ⟨rfl,.inr ⟨_,_,by simp only [lf,hq,Option.map_some],rfl,h⟩⟩⟩
theorem zgA {n t t':Nat} {x y:X} {es ds:LP PC} (hg:gd g tm = some true) (hx:ev tm x = .d (.sl t es)) (hy:ev tm y = .d (.sl t' ds)) (ht:t = 1 \/ t ∈ live) (hl:es.length + ds.length <= 4294967296) (hd:∀ e ∈ ds,e.length = n) (he:∀ e ∈ es,e.length = n)
  (h:po E r K ⟨up d (.d (.sl nt (es ++ ds))) tm,bx,nt + 1,nt :: live.filter (· != t)⟩):po E (⟨some d,.app n x y,g,c⟩ :: r) K ⟨tm,bx,nt,live⟩:=by
 rw [<- zbb] at h;exact ⟨true,hg,.inl ⟨rfl,.inl ⟨_,_,by simp only [lf,hx,hy]; rw [if_pos ⟨ht,hl,hd,he⟩],h⟩⟩⟩
theorem po_litqg {n:Nat} {xs:List X} {es:LP PC} (hg:gd g tm = some true) (hq:litP (ev tm) n xs = some es) (h:po E r K ⟨up d (.d (.sl 0 es)) tm,bx,nt,live⟩):po E (⟨some d,.litq n xs,g,c⟩ :: r) K ⟨tm,bx,nt,live⟩ :=
 po_q hg (by show (litP (ev tm) n xs).map _ = _; rw [hq]; rfl) h
end
attribute [local irreducible] po
def xr (s:Nat):Nat:=(BitVec.ofInt 32 (s:Int) ^^^ BitVec.ofInt 32 1).toNat
theorem xr_lt (s:Nat):xr s < 4294967296:=(BitVec.ofInt 32 (s:Int) ^^^ BitVec.ofInt 32 1).isLt
theorem xr_ne (s:Nat) (h:s < 4294967296):s ≠ xr s:=by
 intro e
 have h1:BitVec.ofInt 32 (s:Int) = BitVec.ofInt 32 (s:Int) ^^^ BitVec.ofInt 32 1:=by
  apply BitVec.eq_of_toNat_eq
  show _ = xr s;rw [<- e,BitVec.toNat_ofInt]; omega
 generalize BitVec.ofInt 32 (s:Int) = X at h1;have h2:X ^^^ X = X ^^^ (X ^^^ BitVec.ofInt 32 1):=congrArg (X ^^^ ·) h1;rw [<- BitVec.xor_assoc,BitVec.xor_self,BitVec.zero_xor] at h2;exact absurd h2 (by decide)
theorem chk_yes (ks:List V) (k:Nat) (hk:k < ks.length) (hl:Lst ks):chkB ks[k] k ks.length (branchL sumV ks k) (rootL sumV ks) = true:=by
 have h1:=hl.1;unfold chkB chkT;rw [decide_eq_true (by omega),decide_eq_true (by omega),Int.toNat_natCast,Int.toNat_natCast,decide_eq_true (zbw sumV ks.length ks k rfl).symm,decide_eq_true (zex sumV ks.length ks k rfl hk)]; rfl
theorem chk_long (ks:List V) (k:Nat) (v:V) (root:Nat):chkB v k ks.length (branchL sumV ks k ++ [1]) root = false:=by
 have hT:chkT (sumV v) (turnsL k ks.length) (branchL sumV ks k ++ [1]) root = false:=by
  have hne:¬ (turnsL k ks.length).length = (branchL sumV ks k ++ [1]).length:=by rw [length_append,zbw sumV ks.length ks k rfl,length_singleton]; omega
  unfold chkT;rw [decide_eq_false hne]; rfl
 unfold chkB;rw [Int.toNat_natCast,Int.toNat_natCast,hT]; simp
theorem chk_flip (ks:List V) (k:Nat) (hk:k < ks.length) {s s':Nat} {r:List Nat} (hb:branchL sumV ks k = s :: r) (hs:s < 4294967296) (hs':s' < 4294967296) (hne:s ≠ s'):chkB ks[k] k ks.length (s' :: r) (rootL sumV ks) = false:=by
 have h1:=zex sumV ks.length ks k rfl hk;have h2:=zbw sumV ks.length ks k rfl;rw [hb] at h1 h2
 have hT:chkT (sumV ks[k]) (turnsL k ks.length) (s' :: r) (rootL sumV ks) = false:=by
  generalize turnsL k ks.length = ts at h1 h2
  match ts,h2 with
  | [],h2 => simp at h2
  | t :: ts,h2 =>
   have:=zgv (x:=sumV ks[k]) (t:=t) (ts:=ts) (ss:=r) hs hs' hne
   rw [h1] at this;have hne:¬ climbL (sumV ks[k]) ((t :: ts).zip (s' :: r)) = rootL sumV ks:=fun h => this h.symm
   unfold chkT;rw [decide_eq_false hne,Bool.and_false]
 unfold chkB;rw [Int.toNat_natCast,Int.toNat_natCast,hT]; simp
def RlI (S:List Nat) (l:List V) (i:Int) (m:Nat) (st:St):Prop:=∃ j:Nat,j <= S.length /\ m = S.length - j /\ has st.tm [(5,.d (.sl 0 (vK l))),(6,.d (pI i)),(7,.d (.sl 0 (aR (uV S)))),(8,.d (.sl 0 (aR (uV S)))),(14,.d (pI j))]
theorem ze7 (v:V) (i n:Int) (t:Nat) (S:List Nat) (root:Nat):PV.dats [.ag (vC v),.d (pI i),.d (pI n),.d (.sl t (aR (uV S))),.d (pU root)] = some [.ag (vC v),.d (pI i),.d (pI n),.d (.sl 0 (aR (uV S))),.d (pU root)]:=by
 show some [PV.ag (erL (vC v)),.d (pI i),.d (pI n),.d (.sl 0 (erLL (aR (uV S)))),.d (pU root)] = _;rw [zcM,zgw]
theorem fnRoot_fn (b:L8) (_hl:b.length <= maxLen):FnV (env Tabs Tabs.low) 3 [.d (.sl 0 (pcB b))] (.d (pB true)):=by
 have hca:PV.dats [PV.d (.sl 0 (pcB b))] = some [.d (.sl 0 (pcB b))]:=by
  show some [PV.d (.sl 0 (erLL (pcB b)))] = _;rw [pcB_er]
 have hTab:∀ w,Tabs w -> Tabs w:=fun _ h => h
 refine zaQ (zaf zgy) (by show 1 <= 145; decide) fun B hB => ?_
 unfold m_l_FnRoot;refine mP ?_;refine mM ?_;refine mS ?_;refine zab hca (big_fn0 b) ?_;refine zaa ?_;refine zel (p:=(b.length:Int) > 1048576) rfl (fun h => ?_) (fun h => ?_)
 ·refine mP ?_
  exact zag ⟨.inr rfl,[.d (pB true)],rfl,rfl⟩
 have hb:b.length <= 2147483647:=by omega
 refine zak ?_;refine mQ ?_;refine ze4 hca (drawRoot_f (T:=Tabs) (hT:=Tabs.low) hb) ?_;rintro x lv ⟨ks0,hx,hL0⟩;refine ⟨_,hx,?_⟩;refine mN ?_;refine mQ ?_;refine zab (zbV ks0) (zds (T:=Tabs) (hT:=Tabs.low) hTab ks0 hL0) ?_;refine mN ?_;refine mQ ?_;refine ze4 hca (zfV (T:=Tabs) (hT:=Tabs.low) hb) ?_;rintro x lv ⟨ks,i,hx,hL,hi0,hi1⟩;refine ⟨_,hx,?_⟩;refine po_s (v:=.tup [.d (.sl 0 (vK ks)),.d (pI i)]) rfl rfl rfl ?_;refine po_s (v:=.d (.sl 0 (vK ks))) rfl rfl rfl ?_;refine po_s (v:=.d (pI i)) rfl rfl rfl ?_;refine mN ?_;refine mO ?_;(iterate 2 refine mS ?_);refine zab (zc4 ks i) (branchI_fn (T:=Tabs) (hT:=Tabs.low) hTab ks i hL (by omega)).v ?_;refine mN ?_;refine mO ?_;(iterate 2 refine mS ?_);refine zab (zc4 ks i) (zez (T:=Tabs) (hT:=Tabs.low) ks i hL (by omega)).v ?_;refine mN ?_;obtain ⟨hu4,hul⟩:=brOf_ok ks i hL
 generalize hS:brOf ks i = S at hu4 hul;refine mQ ?_;refine ze4 hca (zgz (T:=Tabs) (hT:=Tabs.low) hb) ?_;rintro x lv ⟨v,ci,cn,cs,cr,hx,hgv,hcs,hcl⟩;refine ⟨_,hx,?_⟩;refine po_s (v:=.tup [.ag (vC v),.d (pI ci),.d (pI cn),.d (.sl 0 (aR (uV cs))),.d (pU cr)]) rfl rfl rfl ?_;refine po_s (v:=.ag (vC v)) rfl rfl rfl ?_;refine po_s (v:=.d (pI ci)) rfl rfl rfl ?_;refine po_s (v:=.d (pI cn)) rfl rfl rfl ?_;refine po_s (v:=.d (.sl 0 (aR (uV cs)))) rfl rfl rfl ?_;refine po_s (v:=.d (pU cr)) rfl rfl rfl ?_;refine zdH (cs:=vC v) rfl rfl rfl rfl ?_;refine mN ?_;have hck:=ze7 v ci cn 0 cs cr;refine zay (fun st => has st.tm [(5,.d (.sl 0 (vK ks))),(6,.d (pI i)),(7,.d (.sl 0 (aR (uV S)))),(8,.d (.sl 0 (aR (uV S))))]) ?_ ?_
 ·refine mO ?_
  (iterate 2 refine mS ?_);refine zab (zbV ks0) (zdr (T:=Tabs) (hT:=Tabs.low) ks0 hL0) ?_;refine zan rfl rfl (bne_self_eq_false _) ?_;(iterate 2 refine mS ?_);refine zat (n:=S.length) rfl rfl (by rw [zaO,zaY]) ?_;refine mS ?_;refine zat (n:=S.length) rfl rfl (by rw [zaO,zaY]) ?_;refine zan rfl rfl (bne_self_eq_false _) ?_;(iterate 2 refine mS ?_);refine za1 (p:=0) (cs:=vC v) rfl rfl rfl rfl ?_;(iterate 4 refine mS ?_);refine za1 (p:=0) (cs:=vC v) rfl rfl rfl rfl ?_;(iterate 4 refine mS ?_);refine za4 (b:=true) rfl (fun _ => hck) (fun _ => ze3 (T:=Tabs) (hT:=Tabs.low) hTab v hgv ci cn cs cr hcs (by omega)) ?_;refine za4 (b:=true) rfl (fun _ => hck) (fun _ => chkS_fn (T:=Tabs) (hT:=Tabs.low) v hgv ci cn cs cr hcs (by omega)) ?_;refine zan rfl rfl (by simp) ?_;refine mK ?_;exact ⟨rfl,rfl,rfl,rfl,trivial⟩
 rintro tm bx nt live ht;obtain ⟨tm0,rfl⟩:=zae ht;clear ht hck;refine zay (fun st => has st.tm [(5,.d (.sl 0 (vK ks))),(6,.d (pI i)),(7,.d (.sl 0 (aR (uV S))))]) ?_ ?_
 ·refine mP ?_
  refine zad ?_;refine zaw (RlI S ks i) S.length ⟨0,Nat.zero_le _,rfl,rfl,rfl,rfl,rfl,rfl,trivial⟩ ?_;rintro m tm bx nt live ⟨j,hj,rfl,ht⟩;obtain ⟨tm1,rfl⟩:=zae ht;clear ht;refine mM ?_;(iterate 2 refine mS ?_);refine zat (n:=S.length) rfl rfl (by rw [zaO,zaY]) ?_;refine po_b rfl rfl (fun q hq => ?_);refine zaa ?_;refine zbB (p:=(j:Int) < S.length) hq rfl (fun him _ => ?_) (fun him _ => ?_)
  rotate_left
  ·refine zaB ?_
   exact ⟨rfl,rfl,rfl,trivial⟩
  have hjs:j < S.length:=by omega
  refine zak ?_;refine zal (zad ?_);refine mO ?_;(iterate 2 refine mS ?_);refine zaV (es:=aR (uV S)) (e:=[pU S[j]]) rfl rfl rfl ⟨by omega,by rw [Int.toNat_natCast]; exact uR_get hjs⟩ rfl ?_;(iterate 3 refine mS ?_);refine zaV (es:=aR (uV S)) (e:=[pU S[j]]) rfl rfl rfl ⟨by omega,by rw [Int.toNat_natCast]; exact uR_get hjs⟩ rfl ?_;refine mS ?_;refine zan rfl rfl (bne_self_eq_false _) ?_;refine mK ?_;refine zah ?_;refine mS ?_;refine zap (n:=((j + 1:Nat):Int)) rfl rfl rfl (by omega) (by omega) ?_;refine mN ?_;exact ⟨_,by show S.length - (j + 1) < S.length - j; omega,j + 1,by omega,rfl,rfl,rfl,rfl,rfl,rfl,trivial⟩
 rintro tm bx nt live ht;obtain ⟨tm1,rfl⟩:=zae ht;clear ht tm0;have hl1:=hL.1;refine mM ?_;refine mS ?_;by_cases hneg:i < 0
 ·refine zai rfl rfl (decide_eq_true hneg) ?_
  refine mS ?_;refine mZ ?_;refine mT ?_;have hSn:S = []:=by rw [<- hS]; unfold brOf; rw [if_neg (by omega)]
  refine mQ ?_;refine zat (n:=0) rfl rfl (by rw [zaO,zaY,hSn]; rfl) ?_;refine zai rfl rfl rfl ?_;refine mN ?_;exact zag ⟨.inr rfl,[.d (pB true)],rfl,rfl⟩
 refine zan rfl rfl (decide_eq_false hneg) ?_;(iterate 3 refine mS ?_);refine zat (n:=ks.length) rfl rfl (zau _) ?_;by_cases hbig:i ≥ (ks.length:Int)
 ·refine zai rfl rfl (decide_eq_true hbig) ?_
  refine mT ?_;have hSn:S = []:=by rw [<- hS]; unfold brOf; rw [if_neg (by omega)]
  refine mQ ?_;refine zat (n:=0) rfl rfl (by rw [zaO,zaY,hSn]; rfl) ?_;refine zai rfl rfl rfl ?_;refine mN ?_;exact zag ⟨.inr rfl,[.d (pB true)],rfl,rfl⟩
 refine zan rfl rfl (decide_eq_false hbig) ?_;refine mK ?_;obtain ⟨k,rfl⟩:∃ k:Nat,i = k:=⟨i.toNat,by omega⟩;have hk:k < ks.length:=by omega
 have hSk:S = branchL sumV ks k:=by rw [<- hS]; unfold brOf; rw [if_pos (by omega),Int.toNat_natCast]
 have hgk:=hL.2 _ (getElem_mem hk);have hyes:=chk_yes ks k hk hL;have hlong:=chk_long ks k ks[k] (rootL sumV ks);rw [<- hSk] at hyes hlong;have hix:(vK ks)[((k:Nat):Int).toNat]? = some (vC ks[k]):=by rw [Int.toNat_natCast]; exact zbg hk
 have hroot:=zds (T:=Tabs) (hT:=Tabs.low) hTab ks hL;refine zay (fun st => has st.tm [(5,.d (.sl 0 (vK ks))),(6,.d (pI k)),(7,.d (.sl 0 (aR (uV S))))]) ?_ ?_
 ·refine mO ?_
  (iterate 2 refine mS ?_);refine zaV (es:=vK ks) (e:=vC ks[k]) rfl rfl rfl ⟨by omega,hix⟩ rfl ?_;(iterate 3 refine mS ?_);refine zat (n:=ks.length) rfl rfl (zau _) ?_;(iterate 2 refine mS ?_);refine zab (zbV ks) hroot ?_;refine zab (ze7 _ _ _ 0 _ _) (ze3 (T:=Tabs) (hT:=Tabs.low) hTab ks[k] hgk k ks.length S (rootL sumV ks) hu4 (by omega)) ?_;rw [hyes];(iterate 4 refine mS ?_);refine zaV (es:=vK ks) (e:=vC ks[k]) rfl rfl rfl ⟨by omega,hix⟩ rfl ?_;(iterate 3 refine mS ?_);refine zat (n:=ks.length) rfl rfl (zau _) ?_;refine mS ?_;refine po_litqg (es:=aR (uV [1])) rfl rfl ?_;refine mS ?_;refine po_litg (es:=aR (uV [])) rfl rfl ?_;refine zgA (t:=nt) (t':=0) (es:=aR (uV [])) (ds:=aR (uV S)) rfl rfl rfl (.inr (mem_cons_self ..)) (by rw [zaO,zaO,zaY,zaY,length_nil]; omega) (za6 _) (za6 _) ?_;rw [<- zcS,<- zeb,nil_append]
  refine zgA (t:=nt + 1) (t':=0) (es:=aR (uV S)) (ds:=aR (uV [1])) rfl rfl rfl (.inr (mem_cons_self ..)) (by rw [zaO,zaO,zaY,zaY,length_singleton]; omega) (za6 _) (za6 _) ?_;rw [<- zcS,<- zeb];refine za4 (b:=true) rfl (fun _ => zbV ks) (fun _ => hroot) ?_
  refine za4 (b:=true) rfl (fun _ => ze7 _ _ _ _ _ _) (fun _ => ze3 (T:=Tabs) (hT:=Tabs.low) hTab ks[k] hgk k ks.length (S ++ [1]) (rootL sumV ks) (fun s hs => by
   rcases mem_append.1 hs with hs | hs
   ·exact hu4 s hs
   ·rw [mem_singleton] at hs; subst hs; decide) (by rw [length_append,length_singleton]; omega)) ?_
  rw [hlong];refine mK ?_;exact ⟨rfl,rfl,rfl,trivial⟩
 rintro tm bx nt live ht;obtain ⟨tm2,rfl⟩:=zae ht;clear ht tm1;refine mQ ?_;refine zat (n:=S.length) rfl rfl (by rw [zaO,zaY]) ?_
 cases S with
 | nil =>
  refine zai rfl rfl rfl ?_;refine mS ?_;refine mZ ?_;refine mN ?_
  exact zag ⟨.inr rfl,[.d (pB true)],rfl,rfl⟩
 | cons s r =>
 have hs4:=hu4 s (mem_cons_self ..);have hflip:=chk_flip ks k hk hSk.symm hs4 (xr_lt s) (xr_ne s hs4);have hdr:(aR (uV (s :: r))).drop 1 = aR (uV r):=rfl;have hll:(aR (uV (s :: r))).length = r.length + 1:=by rw [zaO,zaY]; rfl
 rw [length_cons] at hul;refine zan rfl rfl (beq_eq_false_iff_ne.2 (by simp only [length_cons]; omega)) ?_;(iterate 3 refine mS ?_);refine zaV (es:=vK ks) (e:=vC ks[k]) rfl rfl rfl ⟨by omega,hix⟩ rfl ?_;(iterate 3 refine mS ?_);refine zat (n:=ks.length) rfl rfl (zau _) ?_;refine mS ?_;refine zaV (es:=aR (uV (s :: r))) (e:=[pU s]) rfl rfl rfl ⟨by decide,rfl⟩ rfl ?_;refine mS ?_
 refine po_q (v:=.d (pU (xr s))) rfl (by
  show some (PV.d (.v (.int .u32 (IntKind.u32.wrap ((xr s:Nat):Int))))) = _;have hx:=xr_lt s
  have:IntKind.u32.wrap ((xr s:Nat):Int) = (xr s:Nat):=by simp [IntKind.wrap,IntKind.bits,IntKind.signed]; omega
  rw [this]; rfl) ?_
 refine mS ?_;refine zbi (es:=aR (uV (s :: r))) (l:=1) (h:=(aR (uV (s :: r))).length) (rs:=aR (uV r)) rfl rfl rfl rfl ⟨by omega,lR⟩ (za6 _) (by rw [<- length_drop,take_length,hdr]) ?_;refine mS ?_;refine po_litg (es:=aR (uV [xr s])) rfl (zdf rfl rfl) ?_;refine zgA (t:=nt) (t':=0) (es:=aR (uV [xr s])) (ds:=aR (uV r)) rfl rfl rfl (.inr (mem_cons_self ..)) (by rw [zaO,zaO,zaY,zaY,length_singleton]; omega) (za6 _) (za6 _) ?_;rw [<- zcS,<- zeb,singleton_append];refine za4 (b:=true) rfl (fun _ => zbV ks) (fun _ => hroot) ?_
 refine za4 (b:=true) rfl (fun _ => ze7 _ _ _ _ _ _) (fun _ => ze3 (T:=Tabs) (hT:=Tabs.low) hTab ks[k] hgk k ks.length (xr s :: r) (rootL sumV ks) (fun z hz => by
  rcases mem_cons.1 hz with rfl | hz
  ·exact xr_lt s
  ·exact hu4 z (mem_cons_of_mem _ hz)) (by rw [length_cons]; omega)) ?_
 rw [hflip];refine mN ?_;exact zag ⟨.inr rfl,[.d (pB true)],rfl,rfl⟩
theorem fnRootW (b:L8) (v:Value) (w:World) (hn:ngl <= w.heap.size) (hT:Tabs w) (h:Rd w (dBy b) [v] /\ b.length <= maxLen):Calls Tryz.prog 3 #[v] w fun e w' => e = .returned (.bool true) /\ Below w.heap.size w w' :=
 fnLaw (fnRoot_fn b h.2) hn hT h.1
end
section
theorem laid_of {H:Type} {enc:TypeId × Value -> H} {C:Checked} {os:Os} {f:FuncId} {fn:Func} {s:ChangeSpec} {conds:List PathCond} {fresh handsOn again apart:Bool} (L:List (String × DataW Unit))
  (own:ownKnob C.prog.godebug = none) (started:os.Started) (noInit:C.prog.inits.idxOf? f = none) (hfn:C.prog.funcs[f]? = some fn)
  (wit:∃ (w:World) (tape:Tape) (i:Input),w.os = os /\ (w.forCall tape i).Shaped C.prog /\ i.vars = [] /\ Input.okWide C.prog (w.forCall tape i) .any w.heap.size f i /\
   ((s.pre enc C.prog fn conds apart (w.forCall tape i).memory i.args /\ laidMetH C.prog L (w.forCall tape i).memory) /\ sizedMet enc C.prog fn (OpenSpec.ofChange s) apart (w.forCall tape i).memory i.args) /\ ({}:Assume).holds C.prog (lone (Frame.enter C.prog f i.args .normal) [] (w.forCall tape i)))
  (walk:∀ (W:World) (base:Nat) (args:Array Value) (ds gs:List (DataW H)) (before:List MemPlace),W.ShapedOpen C.prog -> laidMetH C.prog L W ->
   (∀ (j:Nat) t v,fn.params[j]? = some t -> args[j]? = some v -> Value.okWide C.prog W .any base t v) ->
   DataW.Whole enc C.prog fn.params.toList s.vars apart W args.toList ds gs before ->
   conds.all (PathCond.test C.prog ⟨fn.params.toList,ds,s.plain.varTypes C.prog,gs⟩) = true ->
   Calls C.prog f args W fun e W' => ∃ v,e = .returned v /\ s.post enc C.prog fn apart fresh handsOn again W args v W') :
  ReturnsInHanded {} C os f .any (fun w args => (s.pre enc C.prog fn conds apart w args /\ laidMetH C.prog L w) /\ sizedMet enc C.prog fn (OpenSpec.ofChange s) apart w args) (s.post enc C.prog fn apart fresh handsOn again):=by
 refine returnsInHanded_of_calls own started noInit wit fun w tape i _ shaped _ ok pre _ => ?_
 rcases ok with ⟨_,_,_,fn2,h2,_,_,_,_,vals⟩
 cases Option.some.inj (h2.symm.trans hfn)
 rcases pre with ⟨⟨⟨ds,gs,before,whole,cond⟩,met⟩,_⟩
 have met2:laidMetH C.prog L (w.forCall tape i):=laidMetH.of_heap (by rfl) met;refine (walk _ w.heap.size i.args ds gs before shaped met2 vals (DataW.Whole.of_heap (by rfl) whole) cond).mono ?_;rintro e w2 ⟨v,rfl,hp⟩;exact ChangeSpec.post_blind hp
end
section
open Go.RowKit Go.Lib Go.Shelf
theorem first_data:Go.Pinned.utf8First = firstData:=by kernel_rfl
theorem zgB:(Rows.laid_unicode_utf8_acceptRanges:DataW Unit) = acceptData:=by kernel_rfl
theorem tabs_of {w : World} (h3 : VarReads Tryz.prog w "unicode/utf8.first" Go.Pinned.utf8First) (h4 : VarReads Tryz.prog w "unicode/utf8.acceptRanges" Rows.laid_unicode_utf8_acceptRanges) : Tabs w := by
 rw [first_data] at h3; rw [zgB] at h4
 exact utf8Tabs_of_readsT (U8Types.of196 Tryz.laysValid) ⟨by kernel_rfl,by kernel_rfl,by kernel_rfl,by kernel_rfl,by kernel_rfl,by kernel_rfl,by kernel_rfl⟩ h3 h4
end
end Go.Proofs.YthgeaoidcffmeaaGreatDoor
