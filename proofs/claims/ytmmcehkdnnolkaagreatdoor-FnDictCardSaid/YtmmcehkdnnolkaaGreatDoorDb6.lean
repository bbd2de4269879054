/- Part 6 of a proof: PvF6, PvF7, DSame, SameD, ReadHead3, PvI5, PvH4M, PvH4, PvH5, PvH6, PvGotU, PvH7, PvH8, PvI6, PvI7, TabsLow, FnDict, Laid, Tabs -/
import Derived.Test.YtmmcehkdnnolkaaGreatDoorDb5
import Derived.HandedShaped
import Derived.Shelf.Vars
import Derived.Lay
import Derived.LaidMore
import Derived.Stop.Joined
import Derived.Lib.LaidU8T
namespace Go.Proofs.YtmmcehkdnnolkaaGreatDoor
open Go.RowKit
set_option maxHeartbeats 4000000
set_option maxRecDepth 100000
open List
section
open Go.Lib (validD)
variable {T:World -> Prop} {hT:Low ngl T}
attribute [local irreducible] po mw pt
def GmT (s:L8) (i n nt:Nat) (live:List Nat) (x:PV) (nt':Nat) (live':List Nat):Prop :=
 ∃ (t:Nat) (rows:LP PC) (vs:List V) (next:Int),x = .tup [.d (.sl t rows),.d (pI next)] /\ 2 <= t /\ erLL rows = vK vs /\ OwnL nt' live' ([] ++ .sl t rows :: []) /\ (∀ u ∈ toksL ([] ++ .sl t rows :: []),nt <= u) /\ (∀ t ∈ live,2 <= t -> t < nt -> t ∈ live') /\ nt <= nt' /\ vs.length <= n /\ (∀ v ∈ vs,v.wf /\ v.ok = true) /\
 (next = -1 \/ ∃ j:Nat,next = j /\ j <= s.length) /\ (∀ us:List V,us.length = n -> (∀ u ∈ us,u.wf /\ u.ok = true) -> At s i (msgs us) -> vs = us /\ next = ((i + (msgs us).length:Nat):Int))
def TbI (s:L8) (i n nt:Nat) (live:List Nat) (m:Nat) (st:St):Prop:=∃ (k j t:Nat) (rows:LP PC) (vs:List V),k <= n /\ m = n - k /\ has st.tm [(0,.d (pS s)),(1,.d (pI j)),(2,.d (pI n)),(8,.d (.sl t rows)),(9,.d (pI k))] /\
 2 <= t /\ erLL rows = vK vs /\ OwnL st.nt st.live ([] ++ .sl t rows :: []) /\ (∀ u ∈ toksL ([] ++ .sl t rows :: []),nt <= u) /\ nt <= st.nt /\ (∀ t ∈ live,2 <= t -> t < nt -> t ∈ st.live) /\
 vs.length = k /\ j <= s.length /\ (∀ v ∈ vs,v.wf /\ v.ok = true) /\ (∀ us:List V,us.length = n -> (∀ u ∈ us,u.wf /\ u.ok = true) -> At s i (msgs us) -> us.take k = vs /\ j = i + (msgs vs).length)
theorem lw_row {nt' t:Nat} {live:List Nat} {rows:LP PC} (h:OwnL nt' live ([] ++ .sl t rows :: [])) (n:Int):PV.lw 0 (.tup [.d (.sl t rows),.d (pI n)]):=⟨(zaX (n:=0) h.own).1,trivial,trivial⟩
theorem table_g {s:L8} (hs:s.length <= 2147483647) (i n nt:Nat) (live:List Nat) (hi:i <= s.length) (hn:n <= 1000) (hnt:2 <= nt) :
  FnG (env T hT) 26 [.d (pS s),.d (pI i),.d (pI n)] [] nt live (fun x _ n' l => x.lw 0 /\ GmT s i n nt live x n' l):=by
 refine zaG (zaj zfE) (by show 3 <= 34; decide) fun B hB => ?_
 unfold m_s_l14Table;refine mP ?_;refine mO ?_;refine zaq (es:=[]) rfl ?_;refine mN ?_;refine zan (fun st => ∃ m,TbI s i n nt live m st /\ m = 0) ?_ ?_
 ·refine mP ?_
  refine zab ?_;refine zas (TbI s i n nt live) n ⟨0,i,nt,[],[],Nat.zero_le _,rfl,⟨rfl,rfl,rfl,rfl,rfl,trivial⟩,hnt,rfl,(zf6 hnt live).1,(zf6 hnt live).2,Nat.le_succ _,fun t ht _ _ => mem_cons_of_mem _ ht,rfl,hi,(fun m hm => by cases hm),fun us _ _ _ => ⟨by simp,by simp [msgs]⟩⟩ ?_;rintro m tm bx n1 l1 ⟨k,j,t,rows,vs,hk,rfl,ht,ht2,hrows,hown,hge,hn1,hlv,hvl,hj,hvb,hcp⟩;obtain ⟨tm0,rfl⟩:=zac ht;simp only at hown hn1 hlv;clear ht;refine mM ?_;(iterate 2 refine mS ?_);refine po_b rfl rfl (fun b hb => ?_);refine zaa ?_;refine zaZ (p:=(k:Int) < n) hb rfl (fun h _ => ?_) (fun h _ => ?_)
  ·have hkn:k < n:=by omega
   have hg:=getMsg_g (T:=T) (hT:=hT) hs (j:Int) n1 l1 (by omega)
   have hstep:∀ us:List V,us.length = n -> (∀ u ∈ us,u.wf /\ u.ok = true) -> At s i (msgs us) -> ∃ hku:k < us.length,us.take k = vs /\ j = i + (msgs vs).length /\ At s j (msg us[k]):=by
    intro us h1 h2 h3;obtain ⟨e1,e2⟩:=hcp us h1 h2 h3;have hku:k < us.length:=by omega
    have hA:=zf7 h3 k hku;rw [e1,<- e2] at hA;exact ⟨hku,e1,e2,hA⟩
   refine zai ?_;refine zak (zab (zak (zaf ?_)));(iterate 2 refine mS ?_);refine po_g rfl (FnG.lift0 (bx:=bx) hg ⟨trivial,trivial,trivial⟩) ?_;rintro x b2 n2 l2 ⟨rfl,cs,next,rfl,hc5,hnew,hctk,hlv2,hn2,hres⟩;(iterate 3 refine mS ?_);refine zbI (cs:=cs) rfl hc5 rfl rfl ?_;refine mL ?_;refine mM ?_;refine mS ?_;refine po_b rfl rfl (fun b3 hb3 => ?_);refine zaa ?_;have hown2:OwnL n2 l2 ([] ++ .sl t rows :: []):=hown.mono2 hn2 hlv2;refine zaZ (p:=next < 0) hb3 rfl (fun h3 _ => ?_) (fun h3 _ => ?_)
   ·rcases hres with ⟨hnx,_,hno⟩ | ⟨k',v,_,_,_,_,hnx,_⟩
    case inr => omega
    refine mP ?_;refine zae ⟨.inr rfl,[.d (.sl t rows),.d (pI (-1))],rfl,lw_row hown2 _,t,rows,vs,-1,rfl,ht2,hrows,hown2,hge,(fun t ht h22 hlt => hlv2 t (hlv t ht h22 hlt) h22 (Nat.lt_of_lt_of_le hlt hn1)),Nat.le_trans hn1 hn2,by omega,hvb,.inl rfl,fun us k1 k2 k3 => ?_⟩;obtain ⟨hku,e1,e2,hA⟩:=hstep us k1 k2 k3;have hu:=k2 _ (getElem_mem hku);exact absurd hA (by have:=hno us[k] hu.1 hu.2 (by omega); rwa [Int.toNat_natCast] at this)
   ·rcases hres with ⟨hnx,_,_⟩ | ⟨j',v,hjj,hvw,hvo,hAt,hnx,hle,he,huniq⟩
    ·omega
    obtain rfl:j' = j:=by omega
    refine zai ?_;refine mQ ?_;refine zaE (p:=b2.length) (cs:=cs) rfl rfl (zbg b2 cs) hc5 ?_
    refine zaq (es:=[cs]) (by
     show (if cs.length = 5 then some [cs] else none) = some [cs];rw [if_pos hc5]) ?_
    have hrl:rows.length = vs.length:=by rw [zd4 hrows,zaY]
    refine zaQ (t:=t) (t':=n2) (es:=rows) (ds:=[cs]) rfl rfl (.inr (mem_cons_of_mem _ (hown2.mem t (by show t ∈ PC.toks (.sl t rows) ++ []; rw [zaF ht2]; simp)).1)) (by simp only [length_singleton]; omega) (fun e he => by simp only [mem_singleton] at he; subst he; exact hc5) (fun e he => zfr hrows (zgl vs) e he) ?_;refine mN ?_;refine zaf ?_;refine mN ?_;refine zaf ?_;refine mS ?_;refine zam (n:=((k + 1:Nat):Int)) rfl rfl rfl (by omega) (by omega) ?_;refine mN ?_;obtain ⟨o1,o2⟩:=zf5 (n2:=n2) (l2:=l2) hown (.inr ht2) hge hn1 hn2 (by omega) hnew hctk hlv2;refine ⟨n - (k + 1),by omega,k + 1,j' + (msg v).length,n2 + 1,rows ++ [cs],vs ++ [v],hkn,rfl,⟨rfl,by rw [<- hnx]; rfl,rfl,rfl,rfl,trivial⟩,by omega,?_,o1,o2,Nat.le_succ_of_le (Nat.le_succ_of_le (Nat.le_trans hn1 hn2)),zeO (tk_ge (.inr ht2) hge) hn1 hlv hlv2,by simp [hvl],hle,?_,fun us k1 k2 k3 => ?_⟩
    ·rw [zbT,hrows,zcj,zcj,map_append]; simp only [erLL,he]; rfl
    ·intro u hu
     rcases mem_append.1 hu with hu | hu
     ·exact hvb u hu
     ·simp only [mem_singleton] at hu; subst hu; exact ⟨hvw,hvo⟩
    ·obtain ⟨hku,e1,e2,hA⟩:=hstep us k1 k2 k3
     have hu:=k2 _ (getElem_mem hku);have huv:=huniq us[k] hu.1 hu.2 hA;refine ⟨by rw [take_succ_eq_append_getElem hku,e1,huv],?_⟩;rw [zcA,length_append];simp only [msgs,append_nil];omega
  ·refine zat ?_
   exact ⟨0,⟨k,j,t,rows,vs,hk,by omega,⟨rfl,rfl,rfl,rfl,rfl,trivial⟩,ht2,hrows,hown,hge,hn1,hlv,hvl,hj,hvb,hcp⟩,rfl⟩
 rintro tm bx n1 l1 ⟨m,⟨k,j,t,rows,vs,hk,hmk,ht,ht2,hrows,hown,hge,hn1,hlv,hvl,hj,hvb,hcp⟩,hm0⟩;obtain ⟨tm0,rfl⟩:=zac ht;simp only at hown hn1 hlv;have hkn:k = n:=by omega
 subst hkn;refine mP ?_;refine zae ⟨.inr rfl,[.d (.sl t rows),.d (pI j)],rfl,lw_row hown _,t,rows,vs,_,rfl,ht2,hrows,hown,hge,hlv,hn1,by omega,hvb,.inr ⟨j,rfl,hj⟩,fun us k1 k2 k3 => ?_⟩;obtain ⟨e1,e2⟩:=hcp us k1 k2 k3;rw [take_of_length_le (by omega)] at e1;subst e1;exact ⟨rfl,by rw [e2]⟩
end
section
open Go.Lib (validD)
variable {T:World -> Prop} {hT:Low ngl T}
attribute [local irreducible] po mw pt
def Good (s:L8) (ns:List (L8)) (vs:List V):Prop:=dictB ns vs = true /\ dictT ns vs = s /\ ∀ v ∈ vs,v.wf
theorem Good.at {s:L8} {ns:List (L8)} {vs:List V} (h:Good s ns vs):At s 0 (hd 4 ns.length) /\ At s (hd 4 ns.length).length (nmsT ns) /\ At s ((hd 4 ns.length).length + (nmsT ns).length) (hd 4 vs.length) /\ At s ((hd 4 ns.length).length + (nmsT ns).length + (hd 4 vs.length).length) (msgs vs) /\
  ns.length <= 100 /\ (∀ n ∈ ns,n.length <= 100) /\ vs.length <= 60 /\ (∀ v ∈ vs,v.wf /\ v.ok = true) /\ s.length <= 60000:=by
 obtain ⟨h1,rfl,h3⟩:=h;unfold dictB at h1;simp only [Bool.and_eq_true,decide_eq_true_eq] at h1;obtain ⟨⟨n,v⟩,hl⟩:=h1;obtain ⟨n1,n2⟩:=zfI n;obtain ⟨v1,v2⟩:=zfH v;have hA:At (dictT ns vs) 0 (hd 4 ns.length ++ nmsT ns ++ hd 4 vs.length ++ msgs vs):=⟨[],by simp [dictT]⟩;have a1:=hA.app.1.app.1.app;have a2:=hA.app.1.app.2;have a3:=hA.app.2;simp only [length_append,Nat.zero_add] at a1 a2 a3;exact ⟨a1.1,a1.2,a2,a3,n1,n2,v1,fun x hx => ⟨h3 x hx,v2 x hx⟩,hl⟩
def DictR (s:L8) (nt:Nat) (live:List Nat) (x:PV) (nt':Nat) (live':List Nat):Prop :=
 ∃ (cs:List PC) (ok:Bool),x = .tup [.ag cs,.d (pB ok)] /\ cs.length = 2 /\ NewL nt nt' cs /\ (∀ t ∈ toksL cs,t ∈ live') /\ (∀ t ∈ live,2 <= t -> t < nt -> t ∈ live') /\ nt <= nt' /\
 ∃ (ns:List (L8)) (vs:List V),erL cs = dC ns vs /\ (ok = true -> Good s ns vs) /\ (ok = false -> ns = [] /\ vs = []) /\ ∀ (ns':List (L8)) (vs':List V),Good s ns' vs' -> ok = true /\ ns' = ns /\ vs' = vs
def d0:List PC:=[.sl 1 [],.sl 1 []]
theorem d0_new (a b:Nat):NewL a b d0:=⟨rfl,nodup_nil,fun t ht => by cases ht⟩
theorem zcM {s:L8} {nt nt':Nat} {live live':List Nat} (h:∀ (ns':List (L8)) (vs':List V),¬ Good s ns' vs') (hl:∀ t ∈ live,2 <= t -> t < nt -> t ∈ live') (hn:nt <= nt'):PV.lw 0 (.tup [.ag d0,.d (pB false)]) /\ DictR s nt live (.tup [.ag d0,.d (pB false)]) nt' live' :=
 ⟨⟨zaX (n:=0) (c:=d0) rfl,trivial,trivial⟩,d0,false,rfl,rfl,d0_new _ _,(fun t ht => by cases ht),hl,hn,[],[],rfl,(fun h => by cases h),fun _ => ⟨rfl,rfl⟩,fun ns' vs' h' => absurd h' (h ns' vs')⟩
theorem getDict_g {s:L8} (hs:s.length <= 2147483647) (nt:Nat) (live:List Nat) (hnt:2 <= nt) :
  FnG (env T hT) 10 [.d (pS s)] [] nt live (fun x _ n' l => x.lw 0 /\ DictR s nt live x n' l):=by
 have hcn:=fun i max (hm:max <= 1000) (hi:i <= s.length) => cnt_fn (T:=T) (hT:=hT) s i max hm hi hs
 refine zaG (zaj zgC) (by show 1 <= 63; decide) fun B hB => ?_
 unfold m_s_GetDict;refine mP ?_;refine mQ ?_;refine zad (args:=[.d (pS s),.d (pI (0:Nat)),.d (pI (100:Nat))]) rfl (hcn 0 100 (by decide) (Nat.zero_le _)) ?_;refine mN ?_;refine mM ?_;refine mS ?_
 cases hr:cntOf s 0 100 with
 | none =>
  refine zah rfl rfl rfl ?_;refine mT ?_;refine mQ ?_;refine zar (p:=0) (cs:=d0) rfl rfl rfl rfl rfl rfl ?_;refine mN ?_;refine zae ⟨.inr rfl,[.ag d0,.d (pB false)],rfl,zcM (fun ns' vs' h => ?_) (fun t ht _ _ => ht) lR⟩;obtain ⟨g1,g2,g3,g4,g5,g6,g7,g8⟩:=h.at;rw [cnt_at (Nat.zero_le _) g5 (by decide) g1] at hr
  cases hr
 | some r =>
 obtain ⟨k1,x1⟩:=r;obtain ⟨q1,q2,q3⟩:=cnt_some hr
 have hc1:∀ ns' vs',Good s ns' vs' -> k1 = ns'.length /\ x1 = (hd 4 ns'.length).length:=fun ns' vs' h => by
  obtain ⟨g1,g2,g3,g4,g5,g6,g7,g8⟩:=h.at
  have:=cnt_at (Nat.zero_le _) g5 (by decide) g1
  rw [hr] at this;simp only [sI,Prod.mk.injEq] at this;omega
 refine zal rfl rfl (decide_eq_false (show ¬ ((x1:Nat):Int) < 0 by omega)) ?_;refine mK ?_;refine mO ?_;(iterate 3 refine mS ?_);refine po_g rfl (FnG.lift0 (names_g (T:=T) (hT:=hT) hs x1 k1 nt live q3 (by omega) hnt) (args:=[.d (pS s),.d (pI x1),.d (pI k1)]) ⟨trivial,trivial,trivial,trivial⟩) ?_;rintro x _ n1 l1 ⟨rfl,t1,ns,next,rfl,ht1,hN1,htl1,hlv1,hn1,hnl,hnb,hnx,hcomp⟩
 have hc2:∀ ns' vs',Good s ns' vs' -> ns' = ns /\ next = (((hd 4 ns'.length).length + (nmsT ns').length:Nat):Int):=fun ns' vs' h => by
  obtain ⟨e1,e2⟩:=hc1 ns' vs' h;obtain ⟨g1,g2,g3,g4,g5,g6,g7,g8⟩:=h.at;obtain ⟨e3,e4⟩:=hcomp ns' (by omega) (fun u hu => Nat.le_trans (g6 u hu) (by decide)) (by rw [e2]; exact g2);exact ⟨e3.symm,by rw [e4,e2]⟩
 refine mN ?_;refine mM ?_;refine mS ?_;refine po_b rfl rfl (fun b hb => ?_);refine zaa ?_;refine zaZ (p:=next < 0) hb rfl (fun h3 _ => ?_) (fun h3 _ => ?_)
 ·refine mQ ?_
  refine zar (p:=0) (cs:=d0) rfl rfl rfl rfl rfl rfl ?_;refine mN ?_;exact zae ⟨.inr rfl,[.ag d0,.d (pB false)],rfl,zcM (fun ns' vs' h => by have:=(hc2 ns' vs' h).2; omega) hlv1 hn1⟩
 obtain ⟨j,rfl,hj⟩:=hnx.resolve_left (by omega);refine zai ?_;refine mO ?_;(iterate 2 refine mS ?_);refine zad (args:=[.d (pS s),.d (pI j),.d (pI (60:Nat))]) rfl (hcn j 60 (by decide) hj) ?_;refine mN ?_;refine mM ?_;refine mS ?_
 cases hr2:cntOf s j 60 with
 | none =>
  refine zah rfl rfl rfl ?_;refine mT ?_;refine mQ ?_;refine zar (p:=0) (cs:=d0) rfl rfl rfl rfl rfl rfl ?_;refine mN ?_;refine zae ⟨.inr rfl,[.ag d0,.d (pB false)],rfl,zcM (fun ns' vs' h => ?_) hlv1 hn1⟩;obtain ⟨e1,e2⟩:=hc2 ns' vs' h;obtain ⟨g1,g2,g3,g4,g5,g6,g7,g8⟩:=h.at;rw [show (hd 4 ns'.length).length + (nmsT ns').length = j by omega] at g3;rw [cnt_at hj g7 (by decide) g3] at hr2
  cases hr2
 | some r =>
 obtain ⟨k2,x2⟩:=r;obtain ⟨p1,p2,p3⟩:=cnt_some hr2
 have hc3:∀ ns' vs',Good s ns' vs' -> ns' = ns /\ k2 = vs'.length /\ At s x2 (msgs vs'):=fun ns' vs' h => by
  obtain ⟨e1,e2⟩:=hc2 ns' vs' h;obtain ⟨g1,g2,g3,g4,g5,g6,g7,g8⟩:=h.at;rw [show (hd 4 ns'.length).length + (nmsT ns').length = j by omega] at g3 g4
  have:=cnt_at hj g7 (by decide) g3
  rw [hr2] at this;simp only [sI,Prod.mk.injEq] at this;exact ⟨e1,this.1,by rw [this.2]; exact g4⟩
 refine zal rfl rfl (decide_eq_false (show ¬ ((x2:Nat):Int) < 0 by omega)) ?_;refine mK ?_;refine mO ?_;(iterate 3 refine mS ?_);refine po_g rfl (FnG.lift0 (table_g (T:=T) (hT:=hT) hs x2 k2 n1 l1 p3 (by omega) (by omega)) (args:=[.d (pS s),.d (pI x2),.d (pI k2)]) ⟨trivial,trivial,trivial,trivial⟩) ?_;rintro x _ n2 l2 ⟨rfl,t2,rows,vs,next2,rfl,ht2,hrows,hown2,hge2,hlv2,hn2,hvl,hvb,hnx2,hcomp2⟩
 have hc4:∀ ns' vs',Good s ns' vs' -> ns' = ns /\ vs' = vs /\ 0 <= next2:=fun ns' vs' h => by
  obtain ⟨e1,e2,e3⟩:=hc3 ns' vs' h;obtain ⟨g1,g2,g3,g4,g5,g6,g7,g8,_⟩:=h.at;obtain ⟨e4,e5⟩:=hcomp2 vs' e2.symm g8 e3;exact ⟨e1,e4.symm,by omega⟩
 refine mN ?_;refine mO ?_;(iterate 2 refine mS ?_);refine mS ?_;have hlen2:[PC.sl t1 (pSr ns),.sl t2 rows].length = 2:=rfl;refine zbI (cs:=[.sl t1 (pSr ns),.sl t2 rows]) rfl hlen2 rfl rfl ?_;refine zaa ?_
 have her:erL [PC.sl t1 (pSr ns),.sl t2 rows] = dC ns vs:=by
  show [PC.sl 0 (erLL (pSr ns)),.sl 0 (erLL rows)] = _;rw [pSr_er,hrows]; rfl
 have hDS:DSm ns vs:=⟨by omega,fun n hn => Nat.le_trans (hnb n hn) (by omega),by omega,fun v hv => (hvb v hv).1,fun v hv => Nat.le_trans (V.ok_bulk (hvb v hv).2) (by decide)⟩;have hok:=zeG (T:=T) (hT:=hT) ns vs hDS;have hpd:=zcL (T:=T) (hT:=hT) ns vs hDS;refine zak ?_
 obtain ⟨f,hf⟩:∃ f:Bool,f = true ↔ ¬ (0 <= next2 /\ Good s ns vs):=by
  by_cases h:0 <= next2 /\ Good s ns vs
  ·exact ⟨false,by simp only [h]; decide⟩
  ·exact ⟨true,by simp only [h,not_false_iff]⟩
 refine zan (fun st => has st.tm [(2,.ref 0 0),(10,.ref 1 0),(60,.d (pB f))] /\ st.bx = [d0,[PC.sl t1 (pSr ns),.sl t2 rows]] /\ st.nt = n2 /\ st.live = l2) ?_ ?_
 ·refine zaf ?_
  refine mS ?_;by_cases h4:next2 < 0
  ·have hft:f = true:=hf.2 (by omega)
   subst hft;refine zah rfl rfl (decide_eq_true h4) ?_;refine mS ?_;refine mZ ?_;(iterate 2 refine mS ?_);refine mZ ?_;refine mN ?_;exact ⟨⟨rfl,rfl,rfl,trivial⟩,rfl,rfl,rfl⟩
  refine zal rfl rfl (decide_eq_false h4) ?_;refine mS ?_;refine zaE (p:=1) (cs:=[.sl t1 (pSr ns),.sl t2 rows]) rfl rfl rfl hlen2 ?_;refine zaC (b:=true) (args:=[.ag (dC ns vs)]) rfl (fun _ => zgu her) (fun _ => hok) ?_;(iterate 3 refine mS ?_)
  cases hdb:dictB ns vs with
  | false =>
   have hft:f = true:=hf.2 (fun h => by have:=h.2.1; rw [hdb] at this; cases this);subst hft;refine mZ ?_;refine mN ?_
   exact ⟨⟨rfl,rfl,rfl,trivial⟩,rfl,rfl,rfl⟩
  | true =>
  refine zaE (p:=1) (cs:=[.sl t1 (pSr ns),.sl t2 rows]) rfl rfl rfl hlen2 ?_;refine zaC (b:=true) (args:=[.ag (dC ns vs)]) rfl (fun _ => zgu her) (fun _ => hpd) ?_;refine mS ?_;refine po_ne (la:=dictP ns vs) (lb:=s) rfl rfl rfl ?_;refine mN ?_
  have hp:dictP ns vs = dictT ns vs:=by
   unfold dictP; unfold dictB at hdb
   rw [if_pos (by simp only [Bool.and_eq_true] at hdb ⊢; exact hdb.1)]
  have:decide (dictP ns vs ≠ s) = f:=by
   rw [Bool.eq_iff_iff,decide_eq_true_iff,hf,hp]
   constructor
   ·intro h1 h2; exact h1 h2.2.2.1
   ·intro h1 h2; exact h1 ⟨by omega,hdb,h2,fun v hv => (hvb v hv).1⟩
  exact ⟨⟨rfl,rfl,by rw [<- this]; rfl,trivial⟩,rfl,rfl,rfl⟩
 rintro tm bx n3 l3 ⟨ht,hbx,hnn,hll⟩;obtain ⟨tm0,rfl⟩:=zac ht;simp only at hbx hnn hll
 subst hbx; subst hnn; subst hll
 clear ht;refine zaU (t:=f) rfl (fun hc => ?_) (fun hc => ?_)
 ·refine mQ ?_
  refine zar (p:=0) (cs:=d0) rfl rfl rfl rfl rfl rfl ?_;refine mN ?_;refine zae ⟨.inr rfl,[.ag d0,.d (pB false)],rfl,zcM (fun ns' vs' h => ?_) (fun t ht h22 hlt => hlv2 t (hlv1 t ht h22 hlt) h22 (by omega)) (Nat.le_trans hn1 hn2)⟩;obtain ⟨e1,e2,e3⟩:=hc4 ns' vs' h
  subst e1; subst e2
  exact hf.1 hc ⟨e3,h⟩
 ·have hgood:0 <= next2 /\ Good s ns vs:=Classical.byContradiction fun h => by rw [hf.2 h] at hc; cases hc
  refine zai ?_;refine mO ?_;refine zaE (p:=1) (cs:=[.sl t1 (pSr ns),.sl t2 rows]) rfl rfl rfl hlen2 ?_;refine zar (p:=0) (cs:=[.sl t1 (pSr ns),.sl t2 rows]) rfl rfl rfl hlen2 rfl rfl ?_;refine mN ?_;have hk1:toksL [PC.sl t1 (pSr ns),.sl t2 rows] = toksL [PC.sl t1 (pSr ns)] ++ toksL [PC.sl t2 rows]:=by simp only [toksL,append_nil]
  have hown:NewL nt n3 [PC.sl t1 (pSr ns),.sl t2 rows]:=by
   refine ⟨?_,?_,fun t ht => ?_⟩
   ·have a:=hN1.own; have b:=hown2.own
    simp only [nil_append,ownedL,Bool.and_true] at a b;simp only [ownedL,a,b,Bool.and_true]
   ·rw [hk1,nodup_append]
    refine ⟨hN1.nd,hown2.nd,fun a ha b hb e => ?_⟩
    have:=(hN1.mem a ha).2; have:=hge2 b hb; omega
   ·rw [hk1,mem_append] at ht
    rcases ht with ht | ht
    ·have:=hN1.mem t ht; omega
    ·have:=hge2 t ht; have:=(hown2.mem t ht).2; omega
  refine zae ⟨.inr rfl,[.ag [.sl t1 (pSr ns),.sl t2 rows],.d (pB true)],zbn rfl rfl hlen2 rfl,⟨zaX hown.own,trivial,trivial⟩,_,true,rfl,rfl,hown,fun t ht => ?_,(fun t ht h22 hlt => hlv2 t (hlv1 t ht h22 hlt) h22 (by omega)),Nat.le_trans hn1 hn2,ns,vs,her,fun _ => hgood.2,(fun h => by cases h),fun ns' vs' h => ?_⟩
  ·rw [hk1,mem_append] at ht
   rcases ht with ht | ht
   ·have:t = t1:=by
     have h0:t ∈ PC.toks (.sl t1 (pSr ns)) ++ []:=ht;rw [zaF ht1,pSr_tok] at h0;simpa using h0
    subst this;exact hlv2 t htl1 ht1 (hN1.mem t ht).2
   ·exact (hown2.mem t ht).1
  ·obtain ⟨e1,e2,e3⟩:=hc4 ns' vs' h
   exact ⟨rfl,e1,e2⟩
end
section
theorem dict_same {s:L8} {ok0 ok1:Bool} {ns0 ns1:List (L8)} {vs0 vs1:List V} (a0:ok0 = true -> Good s ns0 vs0) (b0:ok0 = false -> ns0 = [] /\ vs0 = []) (c0:∀ ns' vs',Good s ns' vs' -> ok0 = true /\ ns' = ns0 /\ vs' = vs0)
  (a1:ok1 = true -> Good s ns1 vs1) (b1:ok1 = false -> ns1 = [] /\ vs1 = []) (c1:∀ ns' vs',Good s ns' vs' -> ok1 = true /\ ns' = ns1 /\ vs' = vs1):ok1 = ok0 /\ ns1 = ns0 /\ vs1 = vs0:=by
 cases ok0 with
 | true =>
  obtain ⟨e1,e2,e3⟩:=c1 _ _ (a0 rfl)
  exact ⟨e1,e2.symm,e3.symm⟩
 | false =>
  cases ok1 with
  | true => have:=(c0 _ _ (a1 rfl)).1; cases this
  | false =>
   obtain ⟨rfl,rfl⟩:=b0 rfl;obtain ⟨rfl,rfl⟩:=b1 rfl;exact ⟨rfl,rfl,rfl⟩
end
section
variable {T:World -> Prop} {hT:Low ngl T}
attribute [local irreducible] po mw pt
def SaNI (ns:List (L8)) (m:Nat) (st:St):Prop:=∃ i:Nat,i <= ns.length /\ m = ns.length - i /\ has st.tm [(0,.d (pSs ns)),(1,.d (pSs ns)),(5,.d (pI i))]
theorem sameN_fn (ns:List (L8)) (hl:ns.length <= 4294967295):FnV (env T hT) 32 [.d (pSs ns),.d (pSs ns)] (.d (pB true)):=by
 refine zaW (zaj zeY) (by show 2 <= 26; decide) fun B hB => ?_
 unfold m_l_sameTexts;refine mP ?_;refine mM ?_;refine mS ?_;refine zav (n:=ns.length) rfl rfl (zbr ns) ?_;refine mS ?_;refine zav (n:=ns.length) rfl rfl (zbr ns) ?_;refine zal rfl rfl (by simp) ?_;refine mK ?_;refine zan (fun s => True) ?_ ?_
 ·refine mP ?_
  refine zab ?_;refine zas (SaNI ns) ns.length ⟨0,Nat.zero_le _,rfl,⟨rfl,rfl,rfl,trivial⟩⟩ ?_;rintro m tm bx nt live ⟨i,hi,rfl,ht⟩;obtain ⟨tm0,rfl⟩:=zac ht;refine mM ?_;(iterate 2 refine mS ?_);refine zav (n:=ns.length) rfl rfl (zbr ns) ?_;refine po_b rfl rfl (fun b hb => ?_);refine zaa ?_;refine zaZ (p:=(i:Int) < ns.length) hb rfl (fun h _ => ?_) (fun h _ => ?_)
  ·have hil:i < ns.length:=by omega
   refine zai ?_;refine zak (zab (zak (zaf ?_)));(iterate 2 refine mS ?_);refine zaH (es:=pSr ns) (e:=[pS ns[i]]) rfl rfl rfl ⟨by omega,by rw [Int.toNat_natCast]; exact zb8 hil⟩ rfl ?_;(iterate 3 refine mS ?_);refine zaH (es:=pSr ns) (e:=[pS ns[i]]) rfl rfl rfl ⟨by omega,by rw [Int.toNat_natCast]; exact zb8 hil⟩ rfl ?_;refine mS ?_;refine po_ne (la:=ns[i]) (lb:=ns[i]) rfl rfl rfl ?_;refine mN ?_;refine zbB (p:=ns[i] ≠ ns[i]) rfl (fun hc => absurd rfl hc) (fun hc => ?_);refine zai ?_;refine zaf ?_;refine mS ?_;refine zam (n:=((i + 1:Nat):Int)) rfl rfl rfl (by omega) (by omega) ?_;refine mN ?_;exact ⟨ns.length - (i + 1),by omega,i + 1,hil,rfl,⟨rfl,rfl,rfl,trivial⟩⟩
  ·refine zat ?_
   trivial
 intro tm bx nt live _;refine mP ?_;exact mR
def SaTI (vs:List V) (m:Nat) (st:St):Prop:=∃ i:Nat,i <= vs.length /\ m = vs.length - i /\ has st.tm [(0,.d (.sl 0 (vK vs))),(1,.d (.sl 0 (vK vs))),(5,.d (pI i))]
theorem sameA_fn (vs:List V) (hl:vs.length <= 4294967295) (hb0:∀ v ∈ vs,v.bulk <= 4294967295):FnV (env T hT) 33 [.d (.sl 0 (vK vs)),.d (.sl 0 (vK vs))] (.d (pB true)):=by
 refine zaW (zaj zhg) (by show 2 <= 27; decide) fun B hB => ?_
 unfold m_l_sameAll;refine mP ?_;refine mM ?_;refine mS ?_;refine zav (n:=vs.length) rfl rfl (zaY vs) ?_;refine mS ?_;refine zav (n:=vs.length) rfl rfl (zaY vs) ?_;refine zal rfl rfl (by simp) ?_;refine mK ?_;refine zan (fun s => True) ?_ ?_
 ·refine mP ?_
  refine zab ?_;refine zas (SaTI vs) vs.length ⟨0,Nat.zero_le _,rfl,⟨rfl,rfl,rfl,trivial⟩⟩ ?_;rintro m tm bx nt live ⟨i,hi,rfl,ht⟩;obtain ⟨tm0,rfl⟩:=zac ht;refine mM ?_;(iterate 2 refine mS ?_);refine zav (n:=vs.length) rfl rfl (zaY vs) ?_;refine po_b rfl rfl (fun b hb => ?_);refine zaa ?_;refine zaZ (p:=(i:Int) < vs.length) hb rfl (fun h _ => ?_) (fun h _ => ?_)
  ·have hil:i < vs.length:=by omega
   have hv:=hb0 vs[i] (getElem_mem hil);have he:=lsame_fn (T:=T) (hT:=hT) vs[i] vs[i] hv;rw [decide_eq_true rfl] at he;refine zai ?_;refine zak (zab (zak (zaf ?_)));(iterate 2 refine mS ?_);refine zaH (es:=vK vs) (e:=vC vs[i]) rfl rfl rfl ⟨by omega,by rw [Int.toNat_natCast]; exact zbo hil⟩ rfl ?_;refine po_q (v:=.ag (vC vs[i])) rfl rfl ?_;(iterate 2 refine mS ?_);refine zaH (es:=vK vs) (e:=vC vs[i]) rfl rfl rfl ⟨by omega,by rw [Int.toNat_natCast]; exact zbo hil⟩ rfl ?_;refine po_q (v:=.ag (vC vs[i])) rfl rfl ?_;refine zad (zhx (zb9 _) (zb9 _)) he ?_;refine mK ?_;refine zaf ?_;refine mS ?_;refine zam (n:=((i + 1:Nat):Int)) rfl rfl rfl (by omega) (by omega) ?_;refine mN ?_;exact ⟨vs.length - (i + 1),by omega,i + 1,hil,rfl,⟨rfl,rfl,rfl,trivial⟩⟩
  ·refine zat ?_
   trivial
 intro tm bx nt live _;refine mP ?_;exact mR
theorem sameD_fn (ns:List (L8)) (vs:List V) (hl:ns.length <= 4294967295) (hl2:vs.length <= 4294967295) (hb:∀ v ∈ vs,v.bulk <= 4294967295):FnV (env T hT) 14 [.ag (dC ns vs),.ag (dC ns vs)] (.d (pB true)):=by
 refine zaW (zaj zf2) (by show 2 <= 17; decide) fun B hB => ?_
 unfold m_l_sameDict;refine mP ?_;refine mO ?_;(iterate 4 refine mS ?_);refine zad (args:=[.d (pSs ns),.d (pSs ns)]) (by show some [PV.d (pSs ns).er,PV.d (pSs ns).er] = _; rw [zgk]) (sameN_fn (T:=T) (hT:=hT) ns hl) ?_;(iterate 5 refine mS ?_);refine zaC (b:=true) (args:=[.d (.sl 0 (vK vs)),.d (.sl 0 (vK vs))]) rfl (fun _ => by show some [PV.d (.sl 0 (erLL (vK vs))),PV.d (.sl 0 (erLL (vK vs)))] = _; rw [vK_er]) (fun _ => sameA_fn (T:=T) (hT:=hT) vs hl2 hb) ?_;refine mN ?_;exact mR
end
section
theorem u64_back {v:Nat} (h:v < 18446744073709551616):IntKind.u64.wrap (wrap64 (v:Nat)) = (v:Nat):=by
 have:IntKind.u64.wrap (wrap64 (v:Nat)) = wrap64 (v:Nat) % 18446744073709551616:=by simp [IntKind.wrap,IntKind.bits,IntKind.signed]
 rw [this]; unfold wrap64; omega
theorem zeQ (l:L8) (i:Int) (w:World) (hi:i64ok i) (hl:l.length <= 9223372036854775000) :
  Calls Tryz.prog 53 #[.string ⟨l.toArray⟩,.int .i64 i] w fun e w' => e = .returned (.tuple #[.int .i64 (hM (anyAt l i)),.int .u64 (hN (anyAt l i)),.int .i64 (hX (anyAt l i))]) /\ Below w.heap.size w w':=by
 by_cases h0:0 <= i /\ i <= (l.length:Int) - 1
 ·have hin:inR i 0 ((l.length:Int) - 1) = true:=zaM h0
  obtain ⟨j,rfl⟩:=Int.eq_ofNat_of_zero_le h0.1;have hj:j < l.length:=by omega
  have HR:=Lib.hid (show anyAt l (j:Nat) = anyHd l j by unfold anyAt; rw [if_neg (by omega)]; rfl);rw [HR.out];clear h0;have hb:=l[j].toNat_lt;have p1:(0:Int) <= j:=by omega
  have p2:(j:Int) < l.length:=by omega
  by_cases h24:l[j].toNat % 32 < 24
  ·have H:=Lib.hid (anyHd_lt hj h24)
   rw [H.out];generalize hq:l[j].toNat = q at *;have ha:=u8_and31 (x:=(q:Int)) (by omega) (by omega)
   go_enter Tryz.func53,Tryz.ntmps53
   go_wp2_with (go_at_call 54; refine (za2 _ _ _ _).mono ?_; rintro e w' ⟨rfl,rfl⟩)
   go_quiet (fail)
   go_wp2
   go_ret3
   exact ⟨by simp [hM,hN,hX],Go.below_drewN (Below.refl _ _) _⟩
  ·by_cases h27:27 < l[j].toNat % 32
   ·have H:=Lib.hid (anyHd_gt hj h27)
    rw [H.out];generalize hq:l[j].toNat = q at *;have ha:=u8_and31 (x:=(q:Int)) (by omega) (by omega)
    go_enter Tryz.func53,Tryz.ntmps53
    go_wp2_with (go_at_call 54; refine (za2 _ _ _ _).mono ?_; rintro e w' ⟨rfl,rfl⟩)
    go_quiet (fail)
    go_wp2
    go_ret3
    exact ⟨by simp [hM,hN,hX],Go.below_drewN (Below.refl _ _) _⟩
   ·obtain ⟨k,hk,hk3⟩:∃ k,l[j].toNat % 32 = 24 + k /\ k <= 3:=⟨l[j].toNat % 32 - 24,by omega,by omega⟩
    have hp:2 ^ k <= 8 /\ 1 <= 2 ^ k:=by
     have:k = 0 \/ k = 1 \/ k = 2 \/ k = 3:=by omega
     rcases this with rfl | rfl | rfl | rfl <;> decide
    obtain ⟨m,hm⟩:∃ m,m = 2 ^ k:=⟨_,rfl⟩
    have hw1:wrap64 (2 ^ k) = (m:Int):=by
     rw [hm]
     have:k = 0 \/ k = 1 \/ k = 2 \/ k = 3:=by omega
     rcases this with rfl | rfl | rfl | rfl <;> (unfold wrap64; decide)
    have hk2:l[j].toNat % 32 - 24 = k:=by omega
    rw [<- hm] at hp;obtain ⟨hp1,hp2⟩:=hp;by_cases hs:j + 1 + m <= l.length
    ·have H:=Lib.hid (zfe hj hk hk3 (by rw [<- hm]; exact hs))
     rw [H.out,<- hm];have HM:=Lib.hid hm;clear hm;generalize hq:l[j].toNat = q at *;have ha:=u8_and31 (x:=(q:Int)) (by omega) (by omega)
     go_enter Tryz.func53,Tryz.ntmps53
     go_wp2_with (go_at_call 54; refine (za2 _ _ _ _).mono ?_; rintro e w' ⟨rfl,rfl⟩)
     go_quiet (fail)
     have HW:=Lib.hid hw1;have HK2:=Lib.hid hk2;clear hw1 hk2
     go_wp2_with fail
     simp only [HK2.out,HW.out];rw [show ((j:Int) + 1) = ((j + 1:Nat):Int) from by omega];refine (zc5 l (j + 1) m _ ⟨hp2,hp1⟩ (by omega) hl).mono ?_;rw [if_pos hs];rintro e w2 ⟨rfl,hb2⟩;have hv64:valBE ((l.drop (j + 1)).take m) < 18446744073709551616:=Nat.lt_of_lt_of_le (zdh _) (Nat.le_trans (Nat.pow_le_pow_right (by decide) (show _ <= 8 by rw [length_take]; omega)) (by decide));have HV:=Lib.hid hv64;clear hv64;go_wp2
     go_ret3
     refine ⟨?_,zaB (Go.below_drewN (Below.refl _ _) _) hb2 lR⟩;simp [hM,hN,hX];exact u64_back HV.out
    ·have H:=Lib.hid (zeN hj hk hk3 (by rw [<- hm]; omega))
     rw [H.out];have HM:=Lib.hid hm;clear hm;generalize hq:l[j].toNat = q at *;have ha:=u8_and31 (x:=(q:Int)) (by omega) (by omega)
     go_enter Tryz.func53,Tryz.ntmps53
     go_wp2_with (go_at_call 54; refine (za2 _ _ _ _).mono ?_; rintro e w' ⟨rfl,rfl⟩)
     go_quiet (fail)
     have HW:=Lib.hid hw1;have HK2:=Lib.hid hk2;clear hw1 hk2
     go_wp2_with fail
     simp only [HK2.out,HW.out];rw [show ((j:Int) + 1) = ((j + 1:Nat):Int) from by omega];refine (zc5 l (j + 1) m _ ⟨hp2,hp1⟩ (by omega) hl).mono ?_;rw [if_neg hs];rintro e w2 ⟨rfl,hb2⟩;go_wp2
     go_ret3
     exact ⟨by simp [hM,hN,hX],zaB (Go.below_drewN (Below.refl _ _) _) hb2 lR⟩
 ·have hin:inR i 0 ((l.length:Int) - 1) = false:=zbk h0
  have H:=Lib.hid (show anyAt l i = none by
   unfold anyAt; split
   ·rfl
   ·unfold anyHd; rw [getElem?_eq_none (by omega)])
  rw [H.out]
  go_enter Tryz.func53,Tryz.ntmps53
  go_wp2_with (go_at_call 54; refine (za2 _ _ _ _).mono ?_; rintro e w' ⟨rfl,rfl⟩)
  go_ret3
  exact ⟨rfl,Below.refl _ _⟩
theorem zdu (a b x:Nat):((a:Int) != (x:Int) - (b:Int)) = !decide (b + a = x):=by
 rw [Bool.eq_iff_iff]; simp; omega
theorem zhk (l:L8) (i:Int) (w:World) (hi:i64ok i) (hl:l.length <= 9223372036854775000) :
  Calls Tryz.prog 52 #[.string ⟨l.toArray⟩,.int .i64 i] w fun e w' => e = .returned (.tuple #[.int .i64 (hM (getAt l i)),.int .u64 (hN (getAt l i)),.int .i64 (hX (getAt l i))]) /\ Below w.heap.size w w':=by
 have hg:=zhi l i
 cases ha:anyAt l i with
 | none =>
  rw [ha] at hg;have HG:=Lib.hid hg;rw [HG.out]
  go_enter Tryz.func52,Tryz.ntmps52
  go_wp2_with (go_at_call 53; refine (zeQ l i _ hi hl).mono ?_; rw [ha]; simp only [hM,hN,hX]; rintro e w1 ⟨rfl,hb1⟩)
  go_ret3
  exact ⟨rfl,hb1⟩
 | some r =>
  obtain ⟨m,n,x⟩:=r;rw [ha] at hg;simp only at hg;have hi0:¬ i < 0:=by intro h; unfold anyAt at ha; rw [if_pos h] at ha; cases ha
  have haa:anyHd l i.toNat = some (m,n,x):=by unfold anyAt at ha; rw [if_neg hi0] at ha; exact ha
  obtain ⟨h1,h2,h3,h4,h5,_,h7⟩:=zdC haa;obtain ⟨j,rfl⟩:=Int.eq_ofNat_of_zero_le (show 0 <= i by omega);simp only [Int.toNat_natCast] at *;have p1:(0:Int) <= x:=by omega
  have p2:(j:Int) <= x:=by omega
  have p3:(x:Int) <= l.length:=by omega
  have HA:=Lib.hid ha;have HG:=Lib.hid hg;have hhl:=(za3 m n).1;clear ha haa hi0 hg h7;have pd:decide ((x:Int) < 0) = false:=by simp
  have q1:(0:Int) <= m /\ (m:Int) <= 7:=by omega
  have q2:(0:Int) <= n /\ (n:Int) <= 18446744073709551615:=by omega
  go_enter Tryz.func52,Tryz.ntmps52
  go_wp2_with (first | (go_at_call 53; refine (zeQ l j _ hi hl).mono ?_; rw [HA.out]; simp only [hM,hN,hX]; rintro e w1 ⟨rfl,hb1⟩) | (go_at_call 48; refine (zdR _ _ _ q1 q2).mono ?_; rintro e w2 ⟨rfl,hb2⟩))
  ·have hne:(((hd m n).length:Int) != (x:Int) - (j:Int)) = true:=by assumption
   have hne':¬ (j + (hd m n).length = x):=by rw [zdu] at hne; simpa using hne
   have hg:=HG.out;rw [if_neg hne'] at hg
   go_ret3
   exact ⟨by rw [hg]; rfl,zaB hb1 hb2 lR⟩
  ·have hne:(((hd m n).length:Int) != (x:Int) - (j:Int)) = false:=by assumption
   have hne':j + (hd m n).length = x:=by rw [zdu] at hne; simpa using hne
   have hg:=HG.out;rw [if_pos hne'] at hg
   go_ret3
   exact ⟨by rw [hg]; rfl,zaB hb1 hb2 lR⟩
end
section
variable {T:World -> Prop} {hT:Low ngl T}
attribute [local irreducible] po mw pt
theorem gheadI_fn (s:L8) (i:Int) (hi:i64ok i) (hs:s.length <= 2147483647):FnV (env T hT) 52 [.d (pS s),.d (pI i)] (hdV (getAt s i)):=by
 refine FnV.oldT3 rfl rfl rfl fun w C vs hF _ _ hlen hv => ?_
 match vs,hlen with
 | [x,y],_ =>
  have h1:=zew (hv 0 _ _ rfl rfl); have h2:=zbV (hv 1 _ _ rfl rfl)
  subst h1; subst h2
  exact zhk s i w hi (by omega)
def deC (s:L8) (p:Nat) (bad:Bool):List PC:=[pS s,pI p,pB false,pI 0,pB bad]
theorem zdX (s:L8) (p:Nat) (b:Bool):lwL 0 (deC s p b):=⟨trivial,trivial,trivial,trivial,trivial,trivial⟩
def HeadR (s:L8) (p:Nat) (bad:Bool) (nt:Nat) (live:List Nat) (x:PV) (c':List PC) (n:Nat) (l:List Nat):Prop:=n = nt /\ l = live /\
 (((bad = true \/ getHd s p = none) /\ c' = deC s p true /\ x = .tup [.d (pI (-1)),.d (.v (.int .u64 0))]) \/
  ∃ m n y:Nat,bad = false /\ getHd s p = some (m,n,y) /\ c' = deC s y false /\ x = .tup [.d (pI m),.d (.v (.int .u64 (n:Nat)))])
theorem zf8 (s:L8) (p:Nat) (bad:Bool) (hp:p <= s.length) (hs:s.length <= 2147483647) (nt:Nat) (live:List Nat) :
  FnG (env T hT) 21 [.ref 0 0] [deC s p bad] nt live (fun x b n l => ∃ c' rest,b = c' :: rest /\ x.lw 0 /\ lwL 0 c' /\ HeadR s p bad nt live x c' n l):=by
 have hg:=gheadI_fn (T:=T) (hT:=hT) s p (by unfold i64ok; omega) hs;rw [zeP] at hg;refine zaG (zaj zdH) (by show 1 <= 43; decide) fun B hB => ?_
 unfold m_i_decoder_head;refine mP ?_;refine mP ?_;refine mM ?_;refine mK ?_;refine mO ?_;(iterate 9 refine mS ?_);refine po_v (f:=52) (cap:=[]) (args:=[.d (pS s),.d (pI p)]) rfl (by kernel_rfl) rfl hg ?_;refine mN ?_;refine zak ?_
 have hbad:(bad = true \/ getHd s p = none) -> ∃ c' rest,([deC s p bad].set 0 (spl (deC s p bad) 4 [pB true])) = c' :: rest /\ PV.lw 0 (.tup [.d (pI (-1)),.d (.v (.int .u64 0))]) /\ lwL 0 c' /\ HeadR s p bad nt live (.tup [.d (pI (-1)),.d (.v (.int .u64 0))]) c' nt live:=fun h =>
  ⟨deC s p true,[],rfl,⟨trivial,trivial,trivial⟩,zdX _ _ _,rfl,rfl,.inl ⟨h,rfl,rfl⟩⟩
 cases bad with
 | true =>
  refine mO ?_;(iterate 5 refine mS ?_);refine mZ ?_;refine mT ?_;refine mO ?_;(iterate 3 refine mS ?_);refine zaw (p:=0) (o':=4) (cs:=[pB true]) (z:=deC s p true) rfl rfl rfl ⟨rfl,Nat.le_of_ble_eq_true rfl⟩ rfl ?_;refine zaa ?_;refine mP ?_
  exact zae ⟨.inr rfl,[.d (pI (-1)),.d (.v (.int .u64 0))],rfl,hbad (.inl rfl)⟩
 | false =>
 cases hr:getHd s p with
 | none =>
  refine mO ?_;(iterate 6 refine mS ?_);refine zah rfl rfl rfl ?_;refine mT ?_;refine mO ?_;(iterate 3 refine mS ?_);refine zaw (p:=0) (o':=4) (cs:=[pB true]) (z:=deC s p false) rfl rfl rfl ⟨rfl,Nat.le_of_ble_eq_true rfl⟩ rfl ?_;refine zaa ?_;refine mP ?_
  exact zae ⟨.inr rfl,[.d (pI (-1)),.d (.v (.int .u64 0))],rfl,hbad (.inr hr)⟩
 | some r =>
  obtain ⟨m,n,y⟩:=r;obtain ⟨g1,g2,g3,g4,g5,g6⟩:=zce hr;refine mO ?_;(iterate 6 refine mS ?_);refine zal rfl rfl (decide_eq_false (show ¬ ((y:Nat):Int) < 0 by omega)) ?_;refine mK ?_;refine mO ?_;(iterate 4 refine mS ?_);refine zaw (p:=0) (o':=1) (cs:=[pI ((y:Nat):Int)]) (z:=deC s p false) rfl rfl rfl ⟨rfl,Nat.le_of_ble_eq_true rfl⟩ rfl ?_;refine zaa ?_;refine mP ?_;exact zae ⟨.inr rfl,[.d (pI m),.d (.v (.int .u64 (n:Nat)))],rfl,deC s y false,[],rfl,⟨trivial,trivial,trivial⟩,zdX _ _ _,rfl,rfl,.inr ⟨m,n,y,rfl,hr,rfl,rfl⟩⟩
def BytesR (s:L8) (p k:Nat) (bad:Bool) (nt:Nat) (live:List Nat) (x:PV) (c':List PC) (n:Nat) (l:List Nat):Prop:=n = nt /\ l = live /\
 ((bad = false /\ p + k <= s.length /\ c' = deC s (p + k) false /\ x = .d (pS ((s.drop p).take k))) \/ ((bad = true \/ ¬ p + k <= s.length) /\ c' = deC s p true /\ x = .d (pS [])))
theorem deBytes_g (s:L8) (p k:Nat) (bad:Bool) (hk:k < 18446744073709551616) (hp:p <= s.length) (hs:s.length <= 2147483647) (nt:Nat) (live:List Nat) :
  FnG (env T hT) 22 [.ref 0 0,.d (.v (.int .u64 (k:Nat)))] [deC s p bad] nt live (fun x b n l => ∃ c' rest,b = c' :: rest /\ x.lw 0 /\ lwL 0 c' /\ BytesR s p k bad nt live x c' n l):=by
 refine zaG (zaj zdp) (by show 2 <= 51; decide) fun B hB => ?_
 unfold m_i_decoder_bytes;refine mP ?_;refine zak ?_;refine zan (fun st => has st.tm [(0,.ref 0 0),(1,.d (.v (.int .u64 (k:Nat)))),(24,.d (pB (bad || !decide (p + k <= s.length))))] /\ st.bx = [deC s p bad] /\ st.nt = nt /\ st.live = live) ?_ ?_
 ·refine zaf ?_
  (iterate 5 refine mS ?_)
  cases bad with
  | true =>
   refine mZ ?_;refine mN ?_
   exact ⟨⟨rfl,rfl,rfl,trivial⟩,rfl,rfl,rfl⟩
  | false =>
   (iterate 5 refine mS ?_);refine po_q (v:=.d (pI s.length)) rfl rfl ?_;(iterate 4 refine mS ?_);refine zaK (n:=(s.length:Int) - p) rfl rfl rfl rfl (by omega) ?_;refine zbb (n:=(s.length:Int) - p) rfl rfl (by rw [IntKind.wrap_u64]; omega) ?_;refine po_b rfl rfl (fun b hb => ?_);refine mN ?_
   have:(!decide (p + k <= s.length)) = b:=by
    rw [hb];by_cases h:p + k <= s.length
    ·rw [decide_eq_true h,decide_eq_false (by omega)]; rfl
    ·rw [decide_eq_false h,decide_eq_true (by omega)]; rfl
   exact ⟨⟨rfl,rfl,by rw [Bool.false_or,this]; rfl,trivial⟩,rfl,rfl,rfl⟩
 rintro tm bx n1 l1 ⟨ht,rfl,rfl,rfl⟩;obtain ⟨tm0,rfl⟩:=zac ht;refine zaU (t:=bad || !decide (p + k <= s.length)) rfl (fun hc => ?_) (fun hc => ?_)
 ·simp only [Bool.or_eq_true,Bool.not_eq_true',decide_eq_false_iff_not] at hc
  refine mO ?_;(iterate 3 refine mS ?_);refine zaw (p:=0) (o':=4) (cs:=[pB true]) (z:=deC s p bad) rfl rfl rfl ⟨rfl,Nat.le_of_ble_eq_true rfl⟩ rfl ?_;refine zaa ?_;refine mP ?_;exact zae ⟨.inr rfl,[.d (pS [])],rfl,deC s p true,[],rfl,trivial,zdX _ _ _,rfl,rfl,.inr ⟨hc,rfl,rfl⟩⟩
 ·simp only [Bool.or_eq_false_iff,Bool.not_eq_false',decide_eq_true_eq] at hc
  obtain ⟨rfl,hle⟩:=hc;refine zai ?_;refine mP ?_;refine mO ?_;(iterate 5 refine mS ?_);refine zbb (n:=(k:Int)) rfl rfl (by show IntKind.wrap .i64 ((k:Nat):Int) = _; rw [IntKind.wrap_i64]; omega) ?_;refine zam (n:=((p + k:Nat):Int)) rfl rfl rfl (by omega) (by omega) ?_;(iterate 2 refine mS ?_);refine zaw (p:=0) (o':=1) (cs:=[pI ((p + k:Nat):Int)]) (z:=deC s p false) rfl rfl rfl ⟨rfl,Nat.le_of_ble_eq_true rfl⟩ rfl ?_;refine zaa ?_;refine mO ?_;(iterate 9 refine mS ?_);refine zbU (a:=p) (b:=p + k) (rs:=(s.drop p).take k) rfl rfl (zaD rfl rfl) (zaD rfl rfl) (by omega) (by rw [show p + k - p = k by omega]) ?_;refine mN ?_;exact zae ⟨.inr rfl,[.d (pS ((s.drop p).take k))],rfl,deC s (p + k) false,[],rfl,trivial,zdX _ _ _,rfl,rfl,.inl ⟨rfl,hle,rfl,rfl⟩⟩
end
section
def m_i_GetMsg:M:=so [⟨some 4,.zero [.int .i64 0,.int .i64 0,.int .i64 0,.string ⟨[].toArray⟩,.slice none 0 0],none,[]⟩,qo 5 (.mv (ci 0))] (.seq (so [qm 8 1,qm 9 0,qo 10 (.lens 9),qc 11 54 [8,ci 0,10] 1,qo 12 (.not 11)] (.cond 12 (so [⟨some 13,.build [.int .i64 0,.int .i64 0,.int .i64 0,.string ⟨[].toArray⟩,.slice none 0 0] [],none,[]⟩,qS 5 4 13,qo 5 (.mv (ci (-1)))] .ret) .skip)) (so [qm 14 0,qm 15 1,⟨some 16,.build [.string ⟨[].toArray⟩,.int .i64 0,.int .i64 0,.bool false] [(0,1,14),(1,1,15)],none,[]⟩,qo 17 (.box 16),qm 6 17] (so [qm 18 6,qc 19 55 [18,ci 0] 1,⟨some 7,.zero [.int .i64 0,.int .i64 0,.int .i64 0,.string ⟨[].toArray⟩,.slice none 0 0],none,[]⟩,qS 5 7 19] (.seq (so [qm 20 6,qo 21 (.nilc 20),qF 22 3 21,ql 23 1 22,qm 24 23,⟨some 25,.load true 5 7,some (24,false),[]⟩,qg 27 0 24 false,qg 28 1 24 false,qg 29 6 24 false,⟨some 30,.nilc 29,some (24,false),[]⟩,⟨some 31,.fld 1 30,some (24,false),[]⟩,⟨some 32,.load false 1 31,some (24,false),[]⟩,⟨some 33,.slcs 27 (some 28) (some 32),some (24,false),[]⟩,⟨some 26,.call 56 [25],some (24,false),[.f 0,31]⟩,⟨some 34,.bin .neq false 26 33,some (24,false),[]⟩,qo 35 (.pick 24 (cB true) 34)] (.cond 35 (so [⟨some 36,.build [.int .i64 0,.int .i64 0,.int .i64 0,.string ⟨[].toArray⟩,.slice none 0 0] [],none,[]⟩,qS 5 4 36,qo 5 (.mv (ci (-1)))] .ret) .skip)) (so [qL 37 5 7,qm 38 6,qo 39 (.nilc 38),qF 40 1 39,ql 41 1 40,⟨none,.store 5 4 37,none,[40]⟩,qm 5 41] .ret)))))
theorem zic:look Tryz.prog 23 = some (42,m_i_GetMsg,[.cell true 5 4,.tm 5]):=by kernel_rfl
def m_i_unpacker_value:M:=so [⟨some 4,.zero [.int .i64 0,.int .i64 0,.int .i64 0,.string ⟨[].toArray⟩,.slice none 0 0],none,[]⟩] (so [qm 7 0,qo 8 (.nilc 7),qF 9 2 8,ql 10 1 9,qo 11 (.bin .add false 10 (ci 1)),qo 12 (.nilc 7),qF 13 2 12,qS 1 13 11] (so [qm 14 0,qc 15 82 [14,ci 1] 1,qm 5 15] (.seq (so [qm 16 0,qo 17 (.nilc 16),qF 18 3 17,ql 19 1 18,qm 20 19,qg 21 0 20 false,⟨some 22,.nilc 21,some (20,false),[]⟩,⟨some 23,.fld 2 22,some (20,false),[]⟩,⟨some 24,.load false 1 23,some (20,false),[]⟩,⟨some 25,.bin .gtr false 24 (ci 300),some (20,false),[]⟩,qo 26 (.pick 20 (cB true) 25),qm 27 26,qg 28 1 27 false,⟨some 29,.bin .gtr false 28 (ci 12),some (27,false),[]⟩,qo 30 (.pick 27 (cB true) 29)] (.cond 30 (so [qm 31 0,qo 32 (.nilc 31),qF 33 3 32,⟨none,.store 1 33 (cB true),none,[]⟩] (so [⟨some 34,.build [.int .i64 0,.int .i64 0,.int .i64 0,.string ⟨[].toArray⟩,.slice none 0 0] [],none,[]⟩,qS 5 4 34] .ret)) .skip)) (.seq (.block 0 (so [qm 36 5,qo 37 (.bin .lss false 36 (ci 128)),qm 35 37] (.cond 35 (so [qm 38 5,⟨some 39,.build [.int .i64 0,.int .i64 0,.int .i64 0,.string ⟨[].toArray⟩,.slice none 0 0] [(0,1,ci 3),(1,1,38)],none,[]⟩,qS 5 4 39] .ret) (so [qm 41 5,qo 42 (.bin .lss false 41 (ci 144)),qm 40 42] (.cond 40 (so [qm 43 0,qm 44 5,qo 45 (.bin .sub false 44 (ci 128)),qo 46 (.bin .mul false (ci 2) 45),qm 47 1,qo 48 (.bin .add false 47 (ci 1)),qc 49 83 [43,46,48] 1,⟨some 50,.build [.int .i64 0,.int .i64 0,.int .i64 0,.string ⟨[].toArray⟩,.slice none 0 0] [(0,1,ci 8),(4,1,49)],none,[]⟩,qS 5 4 50] .ret) (so [qm 52 5,qo 53 (.bin .lss false 52 (ci 160)),qm 51 53] (.cond 51 (so [qm 54 0,qm 55 5,qo 56 (.bin .sub false 55 (ci 144)),qm 57 1,qo 58 (.bin .add false 57 (ci 1)),qc 59 83 [54,56,58] 1,⟨some 60,.build [.int .i64 0,.int .i64 0,.int .i64 0,.string ⟨[].toArray⟩,.slice none 0 0] [(0,1,ci 7),(4,1,59)],none,[]⟩,qS 5 4 60] .ret) (so [qm 62 5,qo 63 (.bin .lss false 62 (ci 192)),qm 61 63] (.cond 61 (so [qm 64 0,qm 65 5,qo 66 (.bin .sub false 65 (ci 160)),qc 67 84 [64,66] 1,⟨some 68,.build [.int .i64 0,.int .i64 0,.int .i64 0,.string ⟨[].toArray⟩,.slice none 0 0] [(0,1,ci 5),(3,1,67)],none,[]⟩,qS 5 4 68] .ret) (so [qm 70 5,qo 71 (.bin .geq false 70 (ci 224)),qm 69 71] (.cond 69 (so [qm 72 5,qo 73 (.bin .sub false 72 (ci 256)),⟨some 74,.build [.int .i64 0,.int .i64 0,.int .i64 0,.string ⟨[].toArray⟩,.slice none 0 0] [(0,1,ci 3),(1,1,73)],none,[]⟩,qS 5 4 74] .ret) (so [qm 76 5,qc 77 54 [76,ci 204,ci 207] 1,qm 75 77] (.cond 75 (so [qm 78 0,qm 79 5,qo 80 (.bin .sub false 79 (ci 204)),qo 81 (.bin .shl false (ci 1) 80),qc 82 82 [78,81] 1,⟨some 83,.build [.int .i64 0,.int .i64 0,.int .i64 0,.string ⟨[].toArray⟩,.slice none 0 0] [(0,1,ci 3),(1,1,82)],none,[]⟩,qS 5 4 83] .ret) (so [qm 85 5,qc 86 54 [85,ci 208,ci 211] 1,qm 84 86] (.cond 84 (so [qm 87 5,qo 88 (.bin .sub false 87 (ci 208)),qo 89 (.bin .shl false (ci 1) 88),qm 6 89] (so [qm 90 0,qm 91 6,qc 92 82 [90,91] 1,qm 93 6,qc 94 85 [92,93] 1,⟨some 95,.build [.int .i64 0,.int .i64 0,.int .i64 0,.string ⟨[].toArray⟩,.slice none 0 0] [(0,1,ci 3),(1,1,94)],none,[]⟩,qS 5 4 95] .ret)) .skip))))))))))))))) (.seq (so [qm 96 5] (.block 1 (so [qo 98 (.bin .eql false 96 (ci 192)),qm 97 98] (.cond 97 (so [⟨some 99,.build [.int .i64 0,.int .i64 0,.int .i64 0,.string ⟨[].toArray⟩,.slice none 0 0] [(0,1,ci 0)],none,[]⟩,qS 5 4 99] .ret) (so [qo 101 (.bin .eql false 96 (ci 194)),qm 100 101] (.cond 100 (so [⟨some 102,.build [.int .i64 0,.int .i64 0,.int .i64 0,.string ⟨[].toArray⟩,.slice none 0 0] [(0,1,ci 1)],none,[]⟩,qS 5 4 102] .ret) (so [qo 104 (.bin .eql false 96 (ci 195)),qm 103 104] (.cond 103 (so [⟨some 105,.build [.int .i64 0,.int .i64 0,.int .i64 0,.string ⟨[].toArray⟩,.slice none 0 0] [(0,1,ci 2)],none,[]⟩,qS 5 4 105] .ret) (.seq (so [qo 107 (.bin .eql false 96 (ci 196)),qm 106 107] (.cond 106 .skip (.ops [qo 108 (.bin .eql false 96 (ci 197)),qm 106 108]))) (.cond 106 (so [qm 109 0,qm 110 0,qm 111 5,qo 112 (.bin .sub false 111 (ci 195)),qc 113 82 [110,112] 1,qc 114 84 [109,113] 1,⟨some 115,.build [.int .i64 0,.int .i64 0,.int .i64 0,.string ⟨[].toArray⟩,.slice none 0 0] [(0,1,ci 6),(3,1,114)],none,[]⟩,qS 5 4 115] .ret) (so [qo 117 (.bin .eql false 96 (ci 199)),qm 116 117] (.cond 116 (so [qm 118 0,qm 119 1,qc 120 86 [118,119] 1,qS 5 4 120] .ret) (.seq (so [qo 122 (.bin .eql false 96 (ci 217)),qm 121 122] (.cond 121 .skip (.ops [qo 123 (.bin .eql false 96 (ci 218)),qm 121 123]))) (.cond 121 (so [qm 124 0,qm 125 0,qm 126 5,qo 127 (.bin .sub false 126 (ci 216)),qc 128 82 [125,127] 1,qc 129 84 [124,128] 1,⟨some 130,.build [.int .i64 0,.int .i64 0,.int .i64 0,.string ⟨[].toArray⟩,.slice none 0 0] [(0,1,ci 5),(3,1,129)],none,[]⟩,qS 5 4 130] .ret) (so [qo 132 (.bin .eql false 96 (ci 220)),qm 131 132] (.cond 131 (so [qm 133 0,qm 134 0,qc 135 82 [134,ci 2] 1,qm 136 1,qo 137 (.bin .add false 136 (ci 1)),qc 138 83 [133,135,137] 1,⟨some 139,.build [.int .i64 0,.int .i64 0,.int .i64 0,.string ⟨[].toArray⟩,.slice none 0 0] [(0,1,ci 7),(4,1,138)],none,[]⟩,qS 5 4 139] .ret) (so [qo 141 (.bin .eql false 96 (ci 222)),qm 140 141] (.cond 140 (so [qm 142 0,qm 143 0,qc 144 82 [143,ci 2] 1,qo 145 (.bin .mul false (ci 2) 144),qm 146 1,qo 147 (.bin .add false 146 (ci 1)),qc 148 83 [142,145,147] 1,⟨some 149,.build [.int .i64 0,.int .i64 0,.int .i64 0,.string ⟨[].toArray⟩,.slice none 0 0] [(0,1,ci 8),(4,1,148)],none,[]⟩,qS 5 4 149] .ret) .skip)))))))))))))))))) (so [qm 150 0,qo 151 (.nilc 150),qF 152 3 151,⟨none,.store 1 152 (cB true),none,[]⟩] (so [⟨some 153,.build [.int .i64 0,.int .i64 0,.int .i64 0,.string ⟨[].toArray⟩,.slice none 0 0] [],none,[]⟩,qS 5 4 153] .ret)))))))
theorem zc6:look Tryz.prog 55 = some (154,m_i_unpacker_value,[.cell true 5 4]):=by kernel_rfl
def m_i_unpacker_wide:M:=so [qo 4 (.mv (ci 0))] (so [qm 8 0,qo 9 (.nilc 8),qF 10 0 9,ql 11 1 10,qm 12 0,qo 13 (.nilc 12),qF 14 1 13,ql 15 1 14,qm 16 1,qc 17 81 [11,15,16] 0,qm 7 17,qe 18 7 0,qe 19 7 1,qm 5 18,qm 6 19] (.seq (so [qm 20 0,qo 21 (.nilc 20),qF 22 3 21,ql 23 1 22,qm 24 23,qg 25 6 24 false,⟨some 26,.not 25,some (24,false),[]⟩,qo 27 (.pick 24 (cB true) 26)] (.cond 27 (so [qm 28 0,qo 29 (.nilc 28),qF 30 3 29,⟨none,.store 1 30 (cB true),none,[]⟩] (so [qo 4 (.mv (ci 0))] .ret)) .skip)) (so [qm 31 0,qo 32 (.nilc 31),qF 33 1 32,ql 34 1 33,qm 35 1,qo 36 (.bin .add false 34 35),qo 37 (.nilc 31),qF 38 1 37,qS 1 38 36] (so [qm 39 5,qm 4 39] .ret))))
theorem zdv:look Tryz.prog 82 = some (40,m_i_unpacker_wide,[.tm 4]):=by kernel_rfl
def m_i_unpacker_many:M:=so [qo 6 (.mv (.c (.slice none 0 0)))] (so [qo 8 (.lit 5 []),qm 7 8] (.seq (.block 0 (.loop (.seq (so [qm 9 1,qo 10 (.bin .gtr false 9 (ci 0)),qm 11 10,qg 12 0 11 true,⟨some 13,.nilc 12,some (11,true),[]⟩,⟨some 14,.fld 3 13,some (11,true),[]⟩,⟨some 15,.load false 1 14,some (11,true),[]⟩,⟨some 16,.not 15,some (11,true),[]⟩,qo 17 (.pick 11 16 (cB false))] (.cond 17 .skip (.exit 0))) (.seq (.block 1 (.ops [qm 20 7,qm 21 0,qm 22 2,qc 23 55 [21,22] 1,qo 24 (.lit 5 [23]),⟨some 25,.app 5 20 24,none,[.f 1]⟩,qm 7 25])) (.ops [qm 18 1,qo 19 (.bin .sub false 18 (ci 1)),qm 1 19]))))) (so [qm 26 7,qm 6 26] .ret)))
theorem zdw:look Tryz.prog 83 = some (27,m_i_unpacker_many,[.tm 6]):=by kernel_rfl
def m_i_unpacker_text:M:=so [⟨some 4,.mv (.c (.string ⟨[].toArray⟩)),none,[]⟩] (.seq (so [qm 5 0,qo 6 (.nilc 5),qF 7 3 6,ql 8 1 7,qm 9 8,qg 10 1 9 false,qg 11 0 9 false,⟨some 12,.nilc 11,some (9,false),[]⟩,⟨some 13,.fld 0 12,some (9,false),[]⟩,⟨some 14,.load false 1 13,some (9,false),[]⟩,⟨some 15,.lens 14,some (9,false),[]⟩,qg 16 0 9 false,⟨some 17,.nilc 16,some (9,false),[]⟩,⟨some 18,.fld 1 17,some (9,false),[]⟩,⟨some 19,.load false 1 18,some (9,false),[]⟩,⟨some 20,.bin .sub false 15 19,some (9,false),[]⟩,⟨some 21,.bin .gtr false 10 20,some (9,false),[]⟩,qo 22 (.pick 9 (cB true) 21)] (.cond 22 (so [qm 23 0,qo 24 (.nilc 23),qF 25 3 24,⟨none,.store 1 25 (cB true),none,[]⟩] (so [⟨some 4,.mv (.c (.string ⟨[].toArray⟩)),none,[]⟩] .ret)) .skip)) (so [qm 26 0,qo 27 (.nilc 26),qF 28 1 27,ql 29 1 28,qm 30 1,qo 31 (.bin .add false 29 30),qo 32 (.nilc 26),qF 33 1 32,qS 1 33 31] (so [qm 34 0,qo 35 (.nilc 34),qF 36 0 35,ql 37 1 36,qm 38 0,qo 39 (.nilc 38),qF 40 1 39,ql 41 1 40,qm 42 1,qo 43 (.bin .sub false 41 42),qm 44 0,qo 45 (.nilc 44),qF 46 1 45,ql 47 1 46,qo 48 (.slcs 37 (some 43) (some 47)),qm 4 48] .ret)))
theorem zdx:look Tryz.prog 84 = some (49,m_i_unpacker_text,[.tm 4]):=by kernel_rfl
def m_i_unpacker_extended:M:=so [⟨some 4,.zero [.int .i64 0,.int .i64 0,.int .i64 0,.string ⟨[].toArray⟩,.slice none 0 0],none,[]⟩] (.seq (so [qm 9 0,qc 10 82 [9,ci 1] 1,qm 11 0,qc 12 82 [11,ci 1] 1,qm 5 10,qm 6 12] (.block 0 (so [qm 14 5,qo 15 (.bin .eql false 14 (ci 9)),qm 16 15,qg 17 6 16 true,⟨some 18,.bin .eql false 17 (ci 4),some (16,true),[]⟩,qo 19 (.pick 16 18 (cB false)),qm 13 19] (.cond 13 (so [qm 20 0,qc 21 82 [20,ci 1] 1,qc 22 85 [21,ci 1] 1,qm 7 22] (so [qm 23 7,qm 24 0,qc 25 82 [24,ci 8] 1,⟨some 26,.build [.int .i64 0,.int .i64 0,.int .i64 0,.string ⟨[].toArray⟩,.slice none 0 0] [(0,1,ci 4),(2,1,23),(1,1,25)],none,[]⟩,qS 5 4 26] .ret)) (so [qm 28 5,qo 29 (.bin .eql false 28 (ci 4)),qm 30 29,qg 31 6 30 true,⟨some 32,.bin .eql false 31 (ci 6),some (30,true),[]⟩,qo 33 (.pick 30 32 (cB false)),qm 27 33] (.cond 27 (so [qm 34 0,qc 35 82 [34,ci 4] 1,qm 8 35] (so [qm 36 8,qm 37 0,qm 38 1,qo 39 (.bin .add false 38 (ci 1)),qc 40 55 [37,39] 1,qo 41 (.lit 5 [40]),⟨some 42,.build [.int .i64 0,.int .i64 0,.int .i64 0,.string ⟨[].toArray⟩,.slice none 0 0] [(0,1,ci 9),(1,1,36),(4,1,41)],none,[]⟩,qS 5 4 42] .ret)) .skip)))))) (so [qm 43 0,qo 44 (.nilc 43),qF 45 3 44,⟨none,.store 1 45 (cB true),none,[]⟩] (so [⟨some 46,.build [.int .i64 0,.int .i64 0,.int .i64 0,.string ⟨[].toArray⟩,.slice none 0 0] [],none,[]⟩,qS 5 4 46] .ret)))
theorem zct:look Tryz.prog 86 = some (47,m_i_unpacker_extended,[.cell true 5 4]):=by kernel_rfl
end
section
variable {T:World -> Prop} {hT:Low ngl T}
attribute [local irreducible] po mw pt
theorem FnV.oldT {E:Env} {f:Nat} {args:List PV} {a b:Value} (ha:a.oneCell' = true) (hb1:b.oneCell' = true) (h:∀ (w:World) (C:Cx) (vs:List Value),(∀ b o,C.F b o -> b < w.heap.size) -> E.NG <= w.heap.size -> E.T w -> vs.length = args.length -> (∀ (j:Nat) (x:PV) (y:Value),args[j]? = some x -> vs[j]? = some y -> RpV C w x y) ->
  Calls E.P f vs.toArray w fun e w' => e = .returned (.tuple #[a,b]) /\ Below w.heap.size w w'):FnV E f args (.tup [.d (.v a),.d (.v b)]):=by
 intro C w vs hI hnt hold hl hv;refine (h w C vs hI.fin hI.ng hI.t hl hv).mono ?_;rintro e w' ⟨rfl,hb⟩;have hF:Fix C w w':=.of (fun b o hF => World.cell?_of_block (a:=⟨b,o,none⟩) (hb.block b (hI.fin b o hF))) hb.block
 refine ⟨_,.tup [.d (.v a),.d (.v b)],[],fun _ => False,C,rfl,rfl,⟨hI.nb,fun p cs hp => by simp at hp,fun p hp => by simp at hp,fun p hp => by simp at hp,fun p q hp => by simp at hp,fun t ht => ht.elim,fun t s b ht => ht.elim,fun b o h => Nat.lt_of_lt_of_le (hI.fin b o h) hb.size,Nat.le_trans hI.ng hb.size,E.low w w' hI.t hb.size (fun k hk => hb.block k (Nat.lt_of_lt_of_le hk hI.ng))⟩,
  ⟨hb.os,hb.tape,hb.output,hb.size,fun _ _ h => h,hF,fun k hk _ _ => hb.block k hk,⟨lR,fun _ _ => rfl⟩,fun _ _ h => .inl h,fun t b ht => ht.elim,(fun p hp hp2 => by simp at hp2),⟨lR,fun _ _ => ⟨rfl,rfl,rfl,rfl⟩⟩⟩,.tup _ [a,b] rfl ?_⟩
 intro j x y hx hy
 match j with
 | 0 => simp at hx hy; subst hx; subst hy; exact .d _ _ (.v a ha)
 | 1 => simp at hx hy; subst hx; subst hy; exact .d _ _ (.v b hb1)
 | j + 2 => simp at hx
theorem getwI_fn (s:L8) (i k:Nat) (hk:1 <= k /\ k <= 8) (hi:i <= s.length) (hl:s.length <= 4611686018427387904):FnV (env T hT) 81 [.d (pS s),.d (pI i),.d (pI k)] (.tup [.d (pI (gwz s i k)),.d (pB (decide (i + k <= s.length)))]):=by
 have key:FnV (env T hT) 81 [.d (pS s),.d (pI i),.d (pI k)] (.tup [.d (.v (.int .i64 (gwz s i k))),.d (.v (.bool (decide (i + k <= s.length))))]):=by
  refine FnV.oldT rfl rfl fun w C vs hF _ _ hlen hv => ?_
  match vs,hlen with
  | [x,y,z],_ =>
   have h1:=pS_inv (hv 0 _ _ rfl rfl); have h2:=zbV (hv 1 _ _ rfl rfl); have h3:=zbV (hv 2 _ _ rfl rfl)
   subst h1; subst h2; subst h3
   refine (zc5 s i k w hk hi (by omega)).mono ?_;rintro e w' ⟨rfl,hb⟩;refine ⟨?_,hb⟩;unfold gwz gwN;by_cases h:i + k <= s.length
   ·rw [if_pos h,if_pos h,decide_eq_true h]
   ·rw [if_neg h,if_neg h,decide_eq_false h]
 exact key
def uC (s:L8) (at_ cnt:Nat) (bad:Bool):List PC:=[pS s,pI at_,pI cnt,pB bad]
theorem zbd (s:L8) (a c:Nat) (b:Bool):lwL 0 (uC s a c b):=⟨trivial,trivial,trivial,trivial,trivial⟩
def WideR (s:L8) (a k cnt:Nat) (bad:Bool) (nt:Nat) (live:List Nat) (x:PV) (c':List PC) (n:Nat) (l:List Nat):Prop:=n = nt /\ l = live /\ ((bad = false /\ a + k <= s.length /\ c' = uC s (a + k) cnt false /\ x = .d (pI (gwN s a k))) \/ ((bad = true \/ ¬ a + k <= s.length) /\ c' = uC s a cnt true /\ x = .d (pI 0)))
theorem zbv (s:L8) (a k cnt:Nat) (bad:Bool) (hk:1 <= k /\ k <= 8) (ha:a <= s.length) (hs:s.length <= 2147483647) (nt:Nat) (live:List Nat) :
  FnG (env T hT) 82 [.ref 0 0,.d (pI k)] [uC s a cnt bad] nt live (fun x b n l => ∃ c' rest,b = c' :: rest /\ x.lw 0 /\ lwL 0 c' /\ WideR s a k cnt bad nt live x c' n l):=by
 refine zaG (zaj zdv) (by show 2 <= 40; decide) fun B hB => ?_
 unfold m_i_unpacker_wide;refine mP ?_;refine mO ?_;(iterate 9 refine mS ?_);refine zad (args:=[.d (pS s),.d (pI a),.d (pI k)]) rfl (getwI_fn s a k hk ha (by omega)) ?_;refine mN ?_;refine zak ?_;refine zan (fun st => has st.tm [(0,.ref 0 0),(1,.d (pI k)),(5,.d (pI (gwz s a k))),(27,.d (pB (bad || !decide (a + k <= s.length))))] /\ st.bx = [uC s a cnt bad] /\ st.nt = nt /\ st.live = live) ?_ ?_
 ·refine zaf ?_
  (iterate 5 refine mS ?_)
  cases bad with
  | true =>
   refine mZ ?_;refine mN ?_
   exact ⟨⟨rfl,rfl,rfl,rfl,trivial⟩,rfl,rfl,rfl⟩
  | false =>
   refine mN ?_;exact ⟨⟨rfl,rfl,rfl,rfl,trivial⟩,rfl,rfl,rfl⟩
 rintro tm bx n1 l1 ⟨ht,rfl,rfl,rfl⟩;obtain ⟨tm0,rfl⟩:=zac ht;refine zaU (t:=bad || !decide (a + k <= s.length)) rfl (fun hc => ?_) (fun hc => ?_)
 ·refine mO ?_
  (iterate 3 refine mS ?_);refine zaw (p:=0) (o':=3) (cs:=[pB true]) (z:=uC s a cnt bad) rfl rfl rfl ⟨rfl,Nat.le_of_ble_eq_true rfl⟩ rfl ?_;refine zaa ?_;refine mP ?_;refine zae ⟨.inr rfl,[.d (pI 0)],rfl,uC s a cnt true,_,rfl,trivial,zbd _ _ _ _,rfl,rfl,.inr ⟨?_,rfl,rfl⟩⟩;simp only [Bool.or_eq_true,Bool.not_eq_true',decide_eq_false_iff_not] at hc;exact hc
 ·simp only [Bool.or_eq_false_iff,Bool.not_eq_false',decide_eq_true_eq] at hc
  obtain ⟨rfl,hle⟩:=hc;refine zai ?_;refine mO ?_;(iterate 5 refine mS ?_);refine zam (n:=((a + k:Nat):Int)) rfl rfl rfl (by omega) (by omega) ?_;(iterate 2 refine mS ?_);refine zaw (p:=0) (o':=1) (cs:=[pI ((a + k:Nat):Int)]) (z:=uC s a cnt false) rfl rfl rfl ⟨rfl,Nat.le_of_ble_eq_true rfl⟩ rfl ?_;refine zaa ?_;refine mP ?_;exact zae ⟨.inr rfl,[.d (pI (gwz s a k))],rfl,uC s (a + k) cnt false,_,rfl,trivial,zbd _ _ _ _,rfl,rfl,.inl ⟨rfl,hle,rfl,by rw [zdW hle]; rfl⟩⟩
def TextR (s:L8) (a k cnt:Nat) (bad:Bool) (nt:Nat) (live:List Nat) (x:PV) (c':List PC) (n:Nat) (l:List Nat):Prop:=n = nt /\ l = live /\ ((bad = false /\ a + k <= s.length /\ c' = uC s (a + k) cnt false /\ x = .d (pS ((s.drop a).take k))) \/ ((bad = true \/ ¬ a + k <= s.length) /\ c' = uC s a cnt true /\ x = .d (pS [])))
theorem zid (s:L8) (a k cnt:Nat) (bad:Bool) (hk:k <= 65536) (ha:a <= s.length) (hs:s.length <= 2147483647) (nt:Nat) (live:List Nat) :
  FnG (env T hT) 84 [.ref 0 0,.d (pI k)] [uC s a cnt bad] nt live (fun x b n l => ∃ c' rest,b = c' :: rest /\ x.lw 0 /\ lwL 0 c' /\ TextR s a k cnt bad nt live x c' n l):=by
 refine zaG (zaj zdx) (by show 2 <= 49; decide) fun B hB => ?_
 unfold m_i_unpacker_text;refine mP ?_;refine zak ?_;refine zan (fun st => has st.tm [(0,.ref 0 0),(1,.d (pI k)),(22,.d (pB (bad || !decide (a + k <= s.length))))] /\ st.bx = [uC s a cnt bad] /\ st.nt = nt /\ st.live = live) ?_ ?_
 ·refine zaf ?_
  (iterate 5 refine mS ?_)
  cases bad with
  | true =>
   refine mZ ?_;refine mN ?_
   exact ⟨⟨rfl,rfl,rfl,trivial⟩,rfl,rfl,rfl⟩
  | false =>
   (iterate 5 refine mS ?_);refine po_q (v:=.d (pI s.length)) rfl rfl ?_;(iterate 4 refine mS ?_);refine zaK (n:=(s.length:Int) - a) rfl rfl rfl rfl (by omega) ?_;refine po_b rfl rfl (fun b hb => ?_);refine mN ?_
   have:(!decide (a + k <= s.length)) = b:=by
    rw [hb];by_cases h:a + k <= s.length
    ·rw [decide_eq_true h,decide_eq_false (by omega)]; rfl
    ·rw [decide_eq_false h,decide_eq_true (by omega)]; rfl
   exact ⟨⟨rfl,rfl,by rw [Bool.false_or,this]; rfl,trivial⟩,rfl,rfl,rfl⟩
 rintro tm bx n1 l1 ⟨ht,rfl,rfl,rfl⟩;obtain ⟨tm0,rfl⟩:=zac ht;refine zaU (t:=bad || !decide (a + k <= s.length)) rfl (fun hc => ?_) (fun hc => ?_)
 ·refine mO ?_
  (iterate 3 refine mS ?_);refine zaw (p:=0) (o':=3) (cs:=[pB true]) (z:=uC s a cnt bad) rfl rfl rfl ⟨rfl,Nat.le_of_ble_eq_true rfl⟩ rfl ?_;refine zaa ?_;refine mP ?_;refine zae ⟨.inr rfl,[.d (pS [])],rfl,uC s a cnt true,_,rfl,trivial,zbd _ _ _ _,rfl,rfl,.inr ⟨?_,rfl,rfl⟩⟩;simp only [Bool.or_eq_true,Bool.not_eq_true',decide_eq_false_iff_not] at hc;exact hc
 ·simp only [Bool.or_eq_false_iff,Bool.not_eq_false',decide_eq_true_eq] at hc
  obtain ⟨rfl,hle⟩:=hc;refine zai ?_;refine mO ?_;(iterate 5 refine mS ?_);refine zam (n:=((a + k:Nat):Int)) rfl rfl rfl (by omega) (by omega) ?_;(iterate 2 refine mS ?_);refine zaw (p:=0) (o':=1) (cs:=[pI ((a + k:Nat):Int)]) (z:=uC s a cnt false) rfl rfl rfl ⟨rfl,Nat.le_of_ble_eq_true rfl⟩ rfl ?_;refine zaa ?_;refine mO ?_;(iterate 9 refine mS ?_);refine zaK (n:=(a:Int)) rfl rfl rfl (by omega) (by omega) ?_;(iterate 4 refine mS ?_);refine zbU (a:=a) (b:=a + k) (rs:=(s.drop a).take k) rfl rfl (zaD rfl rfl) (zaD rfl rfl) (by omega) (by rw [Nat.add_sub_cancel_left]) ?_;refine mN ?_;exact zae ⟨.inr rfl,[.d (pS ((s.drop a).take k))],rfl,uC s (a + k) cnt false,_,rfl,trivial,zbd _ _ _ _,rfl,rfl,.inl ⟨rfl,hle,rfl,rfl⟩⟩
def GotU (s:L8) (d:Int) (a cnt:Nat) (bad:Bool) (nt:Nat) (live:List Nat) (x:PV) (a' cnt':Nat) (bad':Bool) (nt':Nat) (live':List Nat):Prop :=
 ∃ cs:List PC,x = .ag cs /\ cs.length = 5 /\ NewL nt nt' cs /\ (∀ t ∈ toksL cs,t ∈ live') /\ (∀ t ∈ live,2 <= t -> t < nt -> t ∈ live') /\ nt <= nt' /\ (a <= a' /\ a' <= s.length /\ cnt' <= 301) /\ (bad = true -> bad' = true) /\
 (bad' = false -> cnt' <= 300 /\ ∃ u:V,erL cs = vC u /\ u.wf /\ a < a' /\ u.bulk + 1 <= 2 * (a' - a)) /\
 (bad = false -> ∀ v:V,v.wf -> v.rightBy pairsOk (12 - d) = true -> cnt + v.nodes <= 300 -> At s a (msg v) -> bad' = false /\ a' = a + (msg v).length /\ erL cs = vC v /\ cnt' = cnt + v.nodes)
def ValU (T:World -> Prop) (hT:Low ngl T) (s:L8) (d:Int):Prop:=∀ (a cnt:Nat) (bad:Bool) (nt:Nat) (live:List Nat),a <= s.length -> cnt <= 300 -> 2 <= nt ->
 FnG (env T hT) 55 [.ref 0 0,.d (pI d)] [uC s a cnt bad] nt live (fun x b n l => ∃ c' rest,b = c' :: rest /\ x.lw 0 /\ lwL 0 c' /\ ∃ a' cnt' bad',c' = uC s a' cnt' bad' /\ GotU s d a cnt bad nt live x a' cnt' bad' n l)
def GotM (s:L8) (d many:Int) (a cnt:Nat) (bad:Bool) (nt:Nat) (live:List Nat) (x:PV) (a' cnt':Nat) (bad':Bool) (nt':Nat) (live':List Nat):Prop :=
 ∃ (tk:Nat) (rows:LP PC),x = .d (.sl tk rows) /\ NewL nt nt' [.sl tk rows] /\ (∀ t ∈ toksL [.sl tk rows],t ∈ live') /\ (∀ t ∈ live,2 <= t -> t < nt -> t ∈ live') /\ nt <= nt' /\ (a <= a' /\ a' <= s.length /\ cnt' <= 301) /\ (bad = true -> bad' = true) /\
 (bad' = false -> cnt' <= 300 /\ ∃ vs:List V,erLL rows = vK vs /\ V.wfs vs /\ (vs.length:Int) = many /\ V.bulks vs + vs.length <= 2 * (a' - a)) /\
 (bad = false -> ∀ us:List V,V.wfs us -> V.rightsBy pairsOk (12 - d) us = true -> cnt + V.nodess us <= 300 -> (us.length:Int) = many -> At s a (msgs us) -> bad' = false /\ a' = a + (msgs us).length /\ erLL rows = vK us /\ cnt' = cnt + V.nodess us)
def MnP (s:L8) (d many:Int) (a cnt:Nat) (bad:Bool) (k:Nat) (rows:LP PC) (a1 cnt1:Nat) (bad1:Bool):Prop :=
 rows.length = k /\ (∀ e ∈ rows,e.length = 5) /\ (a <= a1 /\ a1 <= s.length /\ cnt1 <= 301) /\ (bad = true -> bad1 = true) /\
 (bad1 = false -> cnt1 <= 300 /\ ∃ vs:List V,erLL rows = vK vs /\ V.wfs vs /\ V.bulks vs + vs.length <= 2 * (a1 - a)) /\
 (bad = false -> ∀ us:List V,V.wfs us -> V.rightsBy pairsOk (12 - d) us = true -> cnt + V.nodess us <= 300 -> (us.length:Int) = many -> At s a (msgs us) -> bad1 = false /\ erLL rows = vK (us.take k) /\ a1 = a + (msgs (us.take k)).length /\ cnt1 = cnt + V.nodess (us.take k))
def MnI (s:L8) (d many:Int) (a cnt:Nat) (bad:Bool) (nt:Nat) (live:List Nat) (m:Nat) (st:St):Prop:=∃ (k tk:Nat) (rows:LP PC) (a1 cnt1:Nat) (bad1:Bool),(k:Int) <= many /\ (m:Int) = many - k /\
 has st.tm [(0,.ref 0 0),(1,.d (pI (many - k))),(2,.d (pI d)),(7,.d (.sl tk rows))] /\ st.bx = [uC s a1 cnt1 bad1] /\ 2 <= tk /\ OwnL st.nt st.live ([] ++ .sl tk rows :: []) /\ (∀ t ∈ toksL [.sl tk rows],nt <= t) /\ nt <= st.nt /\ (∀ t ∈ live,2 <= t -> t < nt -> t ∈ st.live) /\ MnP s d many a cnt bad k rows a1 cnt1 bad1
theorem many_g {s:L8} (_hs:s.length <= 2147483647) {d:Int} (hV:ValU T hT s d) (many:Int) (hm:0 <= many /\ many <= 131072) (a cnt:Nat) (bad:Bool) (nt:Nat) (live:List Nat) (ha:a <= s.length) (hcnt:cnt <= 300) (hnt:2 <= nt) :
  FnG (env T hT) 83 [.ref 0 0,.d (pI many),.d (pI d)] [uC s a cnt bad] nt live (fun x b n l => ∃ c' rest,b = c' :: rest /\ x.lw 0 /\ lwL 0 c' /\ ∃ a' cnt' bad',c' = uC s a' cnt' bad' /\ GotM s d many a cnt bad nt live x a' cnt' bad' n l):=by
 refine zaG (zaj zdw) (by show 3 <= 27; decide) fun B hB => ?_
 unfold m_i_unpacker_many;refine mP ?_;refine mO ?_;refine zaq (es:=[]) rfl ?_;refine mN ?_;refine zan (fun st => ∃ (tk:Nat) (rows:LP PC) (a1 cnt1:Nat) (bad1:Bool),has st.tm [(0,.ref 0 0),(7,.d (.sl tk rows))] /\ st.bx = [uC s a1 cnt1 bad1] /\ GotM s d many a cnt bad nt live (.d (.sl tk rows)) a1 cnt1 bad1 st.nt st.live) ?_ ?_
 ·refine zab ?_
  refine zas (MnI s d many a cnt bad nt live) many.toNat ⟨0,nt,[],a,cnt,bad,hm.1,by omega,⟨rfl,by rw [show many - ((0:Nat):Int) = many by omega]; rfl,rfl,rfl,trivial⟩,rfl,hnt,⟨by simp [ownedL,PC.owned,ownedLL],by simp [toksL,zaF hnt,toksLL],fun t ht => by
    have:t = nt:=by simpa [toksL,zaF hnt,toksLL] using ht
    subst this; exact ⟨mem_cons_self ..,Nat.lt_succ_self _⟩⟩,(fun t ht => by
    have:t = nt:=by simpa [toksL,zaF hnt,toksLL] using ht
    omega),Nat.le_succ _,fun t ht _ _ => mem_cons_of_mem _ ht,rfl,(fun e he => by cases he),⟨lR,ha,by omega⟩,fun h => h,fun _ => ⟨hcnt,[],rfl,trivial,by simp [V.bulks]⟩,fun hb us _ _ _ _ _ => ⟨hb,by simp [erLL,vK],by simp [msgs],by simp [V.nodess]⟩⟩ ?_
  rintro m tm bx n1 l1 ⟨k,tk,rows,a1,cnt1,bad1,hk,hmk,ht,hbx,htk2,hown,hge,hn1,hlv,hrl,hrw,⟨haa,has1,hc1⟩,hbb,hgood,hcp⟩;obtain ⟨tm0,rfl⟩:=zac ht;simp only at hbx hown hn1 hlv; subst hbx
  clear ht
  have hdone:∀ (hx:bad1 = true \/ (k:Int) = many),∃ (tk':Nat) (rows':LP PC) (a1' cnt1':Nat) (bad1':Bool),tk' = tk /\ rows' = rows /\ a1' = a1 /\ cnt1' = cnt1 /\ bad1' = bad1 /\ GotM s d many a cnt bad nt live (.d (.sl tk rows)) a1 cnt1 bad1 n1 l1:=fun hx =>
   ⟨tk,rows,a1,cnt1,bad1,rfl,rfl,rfl,rfl,rfl,tk,rows,rfl,⟨hown.own,hown.nd,fun t ht => ⟨hge t ht,(hown.mem t ht).2⟩⟩,fun t ht => (hown.mem t ht).1,hlv,hn1,⟨haa,has1,hc1⟩,hbb,(fun hb => by
    obtain ⟨q1,vs,q2,q3,q4⟩:=hgood hb
    have:vs.length = rows.length:=by have:=zd4 q2; rw [zaY] at this; omega
    exact ⟨q1,vs,q2,q3,by rcases hx with hx | hx; (rw [hb] at hx; cases hx); omega,q4⟩),fun hb us h1 h2 h3 h4 h5 => by
    obtain ⟨e1,e2,e3,e4⟩:=hcp hb us h1 h2 h3 h4 h5
    have hkm:(k:Int) = many:=by
     rcases hx with hx | hx
     ·rw [hx] at e1; cases e1
     ·exact hx
    have:us.take k = us:=take_of_length_le (by omega)
    rw [this] at e2 e3 e4;exact ⟨e1,e3,e2,e4⟩⟩
  refine zak ?_;refine zan (fun st => has st.tm [(0,.ref 0 0),(1,.d (pI (many - k))),(2,.d (pI d)),(7,.d (.sl tk rows)),(17,.d (pB (decide ((k:Int) < many) && !bad1)))] /\ st.bx = [uC s a1 cnt1 bad1] /\ st.nt = n1 /\ st.live = l1) ?_ ?_
  ·refine zaf ?_
   refine mS ?_;by_cases hlt:(k:Int) < many
   ·refine zah rfl rfl (decide_eq_true (show many - (k:Int) > 0 by omega)) ?_
    refine mN ?_;exact ⟨⟨rfl,rfl,rfl,rfl,by rw [decide_eq_true hlt]; rfl,trivial⟩,rfl,rfl,rfl⟩
   ·refine zal rfl rfl (decide_eq_false (show ¬ many - (k:Int) > 0 by omega)) ?_
    refine mS ?_;refine mZ ?_;refine mN ?_;exact ⟨⟨rfl,rfl,rfl,rfl,by rw [decide_eq_false hlt]; rfl,trivial⟩,rfl,rfl,rfl⟩
  rintro tm bx n1' l1' ⟨ht,hb',hn',hl'⟩;simp only at hb' hn' hl'; subst hb'; subst n1'; subst l1'
  obtain ⟨tm1,rfl⟩:=zac ht;clear ht;refine zaU (t:=decide ((k:Int) < many) && !bad1) rfl (fun hc => ?_) (fun hc => ?_)
  ·simp only [Bool.and_eq_true,decide_eq_true_eq,Bool.not_eq_true'] at hc
   obtain ⟨hlt,rfl⟩:=hc;clear hdone;obtain ⟨hc300,vs,hvr,hvw,hvb⟩:=hgood rfl;clear hgood;have hb0:bad = false:=by cases bad with | false => rfl | true => cases hbb rfl
   refine zai ?_;refine zak (zab (zaf ?_));(iterate 3 refine mS ?_);refine po_g rfl (FnG.lift1 (p:=0) (hV a1 cnt1 false n1 l1 has1 hc300 (by omega)) (args:=[.d (pI d)]) ⟨trivial,trivial⟩ (zbd _ _ _ _) rfl) ?_;rintro x _ n2 l2 ⟨c',rfl,a2,cnt2,bad2,rfl,cs,rfl,hc5,hnew,hctk,hlv2,hn2,⟨ha2,ha2s,hc2⟩,_,hg2,hcomp⟩
   refine zaq (es:=[cs]) (by
    show (if cs.length = 5 then some [cs] else none) = some [cs];rw [if_pos hc5]) ?_
   have hmem:tk ∈ l2:=by
    have h1:=(hown.mem tk (by simp [toksL,zaF htk2]));exact hlv2 tk h1.1 htk2 h1.2
   refine zaQ (t:=tk) (t':=n2) (es:=rows) (ds:=[cs]) rfl rfl (.inr (mem_cons_of_mem _ hmem)) (by simp only [length_singleton]; omega) (fun e he => by simp only [mem_singleton] at he; subst he; exact hc5) hrw ?_;refine mN ?_;refine zaf ?_;refine mS ?_;refine zaK (n:=many - ((k + 1:Nat):Int)) rfl rfl rfl (by omega) (by omega) ?_;refine mN ?_;have h0:OwnL n1 (l1.filter (fun t => decide (t < n1))) ([] ++ .sl tk rows :: []):=⟨hown.own,hown.nd,fun t ht => ⟨mem_filter.2 ⟨(hown.mem t ht).1,decide_eq_true (hown.mem t ht).2⟩,(hown.mem t ht).2⟩⟩
   have hpush:OwnL (n2 + 2) ((n2 + 1) :: (n2 :: l2).filter (· != tk)) ([] ++ .sl (n2 + 1) (rows ++ [cs]) :: []):=by
    have:=h0.pushA (nt':=n2 + 1) (e:=cs) (.inr htk2) (by omega) hnew.own hnew.nd (fun t ht => by have:=hnew.mem t ht; omega) (by omega)
    refine this.mono2 (by omega) fun t ht h22 hlt => ?_
    rcases mem_cons.1 ht with rfl | ht
    ·exact mem_cons_self ..
    ·obtain ⟨m1,m2⟩:=mem_filter.1 ht
     refine mem_cons_of_mem _ (mem_filter.2 ⟨?_,m2⟩)
     rcases mem_append.1 m1 with m1 | m1
     ·exact mem_cons_of_mem _ (hctk t m1)
     ·obtain ⟨m3,m4⟩:=mem_filter.1 m1
      exact mem_cons_of_mem _ (hlv2 t m3 h22 (of_decide_eq_true m4))
   have htkn:nt <= tk:=hge tk (by simp [toksL,zaF htk2]);refine ⟨m - 1,by omega,k + 1,n2 + 1,rows ++ [cs],a2,cnt2,bad2,by omega,by omega,⟨rfl,rfl,rfl,rfl,trivial⟩,rfl,by omega,hpush,?_,(show nt <= n2 + 2 by omega),?_,by simp [hrl],?_,⟨by omega,ha2s,hc2⟩,(fun h => by rw [hb0] at h; cases h),?_,?_⟩
   ·intro t ht
    have ht:t ∈ PC.toks (.sl (n2 + 1) (rows ++ [cs])):=by simpa [toksL] using ht
    rw [zaF (by omega),zba] at ht
    rcases mem_cons.1 ht with rfl | ht
    ·omega
    ·rcases mem_append.1 ht with ht | ht
     ·exact hge t (by simp [toksL,zaF htk2,ht])
     ·have ht:t ∈ toksL cs:=by simpa [toksLL] using ht
      have:=hnew.mem t ht; omega
   ·intro t ht h22 hlt
    refine mem_cons_of_mem _ (mem_filter.2 ⟨mem_cons_of_mem _ (hlv2 t (hlv t ht h22 hlt) h22 (by omega)),?_⟩);simp only [bne_iff_ne,ne_eq]; omega
   ·intro e he
    rcases mem_append.1 he with he | he
    ·exact hrw e he
    ·simp only [mem_singleton] at he; subst he; exact hc5
   ·intro hb2
    obtain ⟨r1,u,r2,r3,r4,r5⟩:=hg2 hb2;refine ⟨r1,vs ++ [u],?_,V.wfs_app hvw ⟨r3,trivial⟩,?_⟩
    ·rw [zbT,hvr,zcj,zcj,map_append]; simp only [erLL,r2]; rfl
    ·rw [V.bulks_app,length_append]; simp only [V.bulks,length_singleton]; omega
   ·intro _ us h3 h4 h5 h6 h8
    obtain ⟨_,e1,e2,e3⟩:=hcp hb0 us h3 h4 h5 h6 h8;have hku:k < us.length:=by omega
    have hA:=zia h8 k hku;rw [<- e2] at hA;have hnd:=nodess_take us k hku;have h4':=h4;rw [V.rightsBy_all,all_eq_true] at h4';obtain ⟨q1,q2,q3,q4⟩:=hcomp rfl us[k] (V.wfs_get h3 k hku) (h4' _ (getElem_mem hku)) (by omega) hA;refine ⟨q1,?_,?_,?_⟩
    ·rw [zbT,e1,take_succ_eq_append_getElem hku,zcj,zcj,map_append]; simp only [erLL,q3]; rfl
    ·rw [take_succ_eq_append_getElem hku,zde,length_append]; omega
    ·rw [take_succ_eq_append_getElem hku,V.nodess_app]; simp only [V.nodess]; omega
  ·refine zat ?_
   obtain ⟨_,_,_,_,_,rfl,rfl,rfl,rfl,rfl,hG⟩:=hdone (by
    simp only [Bool.and_eq_false_iff,decide_eq_false_iff_not,Bool.not_eq_false'] at hc
    rcases hc with hc | hc
    ·exact .inr (by omega)
    ·exact .inl hc)
   exact ⟨_,_,_,_,_,⟨rfl,rfl,trivial⟩,rfl,hG⟩
 rintro tm bx n1 l1 ⟨tk,rows,a1,cnt1,bad1,ht,rfl,hG⟩;obtain ⟨tm0,rfl⟩:=zac ht;refine mP ?_
 have hlw:PV.lw 0 (.d (.sl tk rows)):=by
  obtain ⟨tk',rows',e,hN,_⟩:=hG;simp only [PV.d.injEq] at e;rw [<- e] at hN;exact (zaX hN.own).1
 exact zae ⟨.inr rfl,[.d (.sl tk rows)],rfl,_,_,rfl,hlw,zbd _ _ _ _,a1,cnt1,bad1,rfl,hG⟩
def GotXU (s:L8) (d:Int) (p cnt:Nat) (bad:Bool) (nt:Nat) (live:List Nat) (x:PV) (a' cnt':Nat) (bad':Bool) (nt':Nat) (live':List Nat):Prop :=
 ∃ cs:List PC,x = .ag cs /\ cs.length = 5 /\ NewL nt nt' cs /\ (∀ t ∈ toksL cs,t ∈ live') /\ (∀ t ∈ live,2 <= t -> t < nt -> t ∈ live') /\ nt <= nt' /\ (p <= a' /\ a' <= s.length /\ cnt' <= 301) /\ (bad = true -> bad' = true) /\
 (bad' = false -> cnt' <= 300 /\ ∃ u:V,erL cs = vC u /\ u.wf /\ u.bulk <= 1 + 2 * (a' - p)) /\
 (bad = false -> ∀ (v:V) (t0:L8),v.wf -> v.rightBy pairsOk (12 - d) = true -> cnt + v.nodes <= 301 -> MsgTop v 199 t0 -> At s p t0 -> bad' = false /\ a' = p + t0.length /\ erL cs = vC v /\ cnt' + 1 = cnt + v.nodes)
theorem zdJ {s:L8} {d:Int} {p cnt a':Nat} {bad:Bool} {nt nt':Nat} {live live':List Nat} (hn:nt <= nt') (hlv:∀ t ∈ live,2 <= t -> t < nt -> t ∈ live') (ha:p <= a' /\ a' <= s.length) (hc:cnt <= 301) (h:bad = false -> ∀ (v:V) (t0:L8),v.wf -> v.rightBy pairsOk (12 - d) = true -> MsgTop v 199 t0 -> ¬ At s p t0) (k n e:Int) (t:L8) :
  GotXU s d p cnt bad nt live (.ag (fV k n e t)) a' cnt true nt' live' :=
 ⟨_,rfl,rfl,zbe _ _ _ _ _ _,(fun t ht => by rw [zbK] at ht; cases ht),hlv,hn,⟨ha.1,ha.2,hc⟩,fun _ => rfl,(fun hb => by cases hb),fun hb v t0 a b c d e => absurd e (h hb v t0 a b d)⟩
theorem row_new {a b:Nat} {cs:List PC} (h:NewL a b cs) (hab:a <= b) (h2:2 <= b) (x0 x1 x2 x3:Value):NewL a (b + 1) [.v x0,.v x1,.v x2,.v x3,.sl b [cs]]:=by
 refine ⟨?_,?_,?_⟩
 ·have:=h.own
  simp [ownedL,PC.owned,ownedLL,this]; omega
 ·simp only [toksL,PC.toks,nil_append,if_pos h2,toksLL,append_nil]
  refine nodup_cons.2 ⟨fun hb => by have:=h.mem b hb; omega,h.nd⟩
 ·intro t ht
  simp only [toksL,PC.toks,nil_append,if_pos h2,toksLL,append_nil] at ht
  rcases mem_cons.1 ht with rfl | ht
  ·omega
  ·have:=h.mem t ht; omega
theorem extU_g {s:L8} (hs:s.length <= 2147483647) {d:Int} (hd:0 <= d /\ d <= 12) (hV:ValU T hT s (d + 1)) (p cnt:Nat) (bad:Bool) (nt:Nat) (live:List Nat) (hp:p <= s.length) (hcnt:cnt <= 300) (hnt:2 <= nt) :
  FnG (env T hT) 86 [.ref 0 0,.d (pI d)] [uC s p cnt bad] nt live (fun x b n l => ∃ c' rest,b = c' :: rest /\ x.lw 0 /\ lwL 0 c' /\ ∃ a' cnt' bad',c' = uC s a' cnt' bad' /\ GotXU s d p cnt bad nt live x a' cnt' bad' n l):=by
 refine zaG (zaj zct) (by show 2 <= 47; decide) fun B hB => ?_
 unfold m_i_unpacker_extended;have live0:∀ t ∈ live,2 <= t -> t < nt -> t ∈ live:=fun t ht _ _ => ht
 refine mP ?_;refine zak ?_
 refine zan (fun st => ∃ (L K:Int) (a1:Nat) (b1:Bool),has st.tm [(0,.ref 0 0),(1,.d (pI d)),(4,.ref 1 0),(5,.d (pI L)),(6,.d (pI K))] /\ st.bx = [uC s a1 cnt b1,fV 0 0 0 []] /\ st.nt = nt /\ st.live = live /\ p <= a1 /\ a1 <= s.length /\
  ((b1 = false /\ bad = false /\ a1 = p + 2 /\ L = gwN s p 1 /\ K = gwN s (p + 1) 1) \/ (b1 = true /\ (bad = true \/ ¬ p + 2 <= s.length) /\ K = 0))) ?_ ?_
 ·refine zaf ?_
  refine mS ?_;refine po_g rfl (FnG.lift1 (p:=0) (zbv s p 1 cnt bad (by decide) hp hs nt live) (args:=[.d (pI ((1:Nat):Int))]) ⟨trivial,trivial⟩ (zbd _ _ _ _) rfl) ?_;rintro x _ _ _ ⟨c',rfl,rfl,rfl,⟨hb0,hle,rfl,rfl⟩ | ⟨hbad,rfl,rfl⟩⟩
  ·refine mS ?_
   refine po_g rfl (FnG.lift1 (p:=0) (zbv s (p + 1) 1 cnt false (by decide) (by omega) hs _ _) (args:=[.d (pI ((1:Nat):Int))]) ⟨trivial,trivial⟩ (zbd _ _ _ _) rfl) ?_;rintro x _ _ _ ⟨c',rfl,rfl,rfl,⟨_,hle2,rfl,rfl⟩ | ⟨hbad,rfl,rfl⟩⟩
   ·refine mN ?_
    exact ⟨_,_,p + 2,false,⟨rfl,rfl,rfl,rfl,rfl,trivial⟩,rfl,rfl,rfl,by omega,by omega,.inl ⟨rfl,hb0,rfl,rfl,rfl⟩⟩
   ·refine mN ?_
    exact ⟨_,_,p + 1,true,⟨rfl,rfl,rfl,rfl,rfl,trivial⟩,rfl,rfl,rfl,by omega,by omega,.inr ⟨rfl,.inr (by rcases hbad with h | h; (cases h); omega),rfl⟩⟩
  ·refine mS ?_
   refine po_g rfl (FnG.lift1 (p:=0) (zbv s p 1 cnt true (by decide) hp hs _ _) (args:=[.d (pI ((1:Nat):Int))]) ⟨trivial,trivial⟩ (zbd _ _ _ _) rfl) ?_;rintro x _ _ _ ⟨c',rfl,rfl,rfl,⟨hx,_⟩ | ⟨_,rfl,rfl⟩⟩
   ·cases hx
   ·refine mN ?_
    exact ⟨_,_,p,true,⟨rfl,rfl,rfl,rfl,rfl,trivial⟩,rfl,rfl,rfl,lR,hp,.inr ⟨rfl,hbad.imp id fun h => by omega,rfl⟩⟩
 rintro tm bx n1 l1 ⟨L,K,a1,b1,ht,hbx,hn,hl,hpa,has1,hcase⟩;obtain ⟨tm0,rfl⟩:=zac ht;simp only at hbx hn hl; subst hbx; subst n1; subst l1
 clear ht
 have hnone:b1 = true -> bad = false -> ∀ (v:V) (t0:L8),v.wf -> v.rightBy pairsOk (12 - d) = true -> MsgTop v 199 t0 -> ¬ At s p t0:=by
  intro hb1 hbf v t0 h1 h2 h4 h5
  rcases hcase with ⟨h,_⟩ | ⟨_,h,_⟩
  ·rw [hb1] at h; cases h
  ·rcases h with h | h
   ·rw [hbf] at h; cases h
   ·rcases zcs h4 with ⟨n,e,he,hn,rfl,rfl⟩ | ⟨m,kid,hm,rfl,rfl⟩
    ·have:=(zcq hp h5 he (by unfold i64ok; omega)).1; omega
    ·have:=(zcr hp h5 hm).1; omega
 refine zab ?_;refine zan (fun st => has st.tm [(0,.ref 0 0),(1,.d (pI d)),(4,.ref 1 0),(5,.d (pI L)),(6,.d (pI K)),(13,.d (pB (decide (L = 9 /\ K = 4))))] /\ st.bx = [uC s a1 cnt b1,fV 0 0 0 []] /\ st.nt = nt /\ st.live = live) ?_ ?_
 ·refine zaf ?_
  refine mS ?_;by_cases c1:L = 9
  ·refine zah rfl rfl (decide_eq_true c1) ?_
   (iterate 2 refine mS ?_);refine po_b rfl rfl (fun b2 hb2 => ?_);refine mN ?_
   have:decide (L = 9 /\ K = 4) = b2:=by rw [hb2]; exact decide_eq_decide.2 ⟨fun h => h.2,fun h => ⟨c1,h⟩⟩
   exact ⟨⟨rfl,rfl,rfl,rfl,rfl,by rw [this]; rfl,trivial⟩,rfl,rfl,rfl⟩
  ·refine zal rfl rfl (decide_eq_false c1) ?_
   refine mS ?_;refine mZ ?_;refine mN ?_;exact ⟨⟨rfl,rfl,rfl,rfl,rfl,by rw [decide_eq_false (fun h => c1 h.1)]; rfl,trivial⟩,rfl,rfl,rfl⟩
 rintro tm bx n1 l1 ⟨ht,hbx,hn,hl⟩;obtain ⟨tm1,rfl⟩:=zac ht;simp only at hbx hn hl; subst hbx; subst n1; subst l1
 clear ht;refine zbB (p:=L = 9 /\ K = 4) rfl (fun hc => ?_) (fun hc => ?_)
 ·obtain ⟨rfl,hbf,rfl,hL,hK⟩ | ⟨_,_,hK0⟩:=hcase
  case inr => omega
  refine mQ ?_;refine po_g rfl (FnG.lift1 (p:=0) (zbv s (p + 2) 1 cnt false (by decide) has1 hs nt live) (args:=[.d (pI ((1:Nat):Int))]) ⟨trivial,trivial⟩ (zbd _ _ _ _) rfl) ?_;rintro x _ _ _ ⟨c',rfl,rfl,rfl,⟨_,hle,rfl,rfl⟩ | ⟨hbad,rfl,rfl⟩⟩
  ·have hsg:i64ok (sgw (gwN s (p + 2) 1) 1):=by
    have:=zbC s (p + 2) 1 (by decide)
    unfold sgw i64ok;rw [if_pos (by decide),show ((256 ^ 1:Nat):Int) = 256 from rfl,show ((256 ^ 1 / 2:Nat):Int) = 128 from rfl]
    split <;> omega
   refine zad (args:=[.d (pI (gwN s (p + 2) 1)),.d (pI ((1:Nat):Int))]) rfl (zfZ (gwN s (p + 2) 1) 1 (by decide) (zdS _ _ _)) ?_;refine mN ?_;refine mO ?_;(iterate 2 refine mS ?_);refine po_g rfl (FnG.lift1 (p:=0) (zbv s (p + 2 + 1) 8 cnt false (by decide) (by omega) hs _ _) (args:=[.d (pI ((8:Nat):Int))]) ⟨trivial,trivial⟩ (zbd _ _ _ _) rfl) ?_;rintro x _ _ _ ⟨c',rfl,rfl,rfl,⟨_,hle2,rfl,rfl⟩ | ⟨hbad,rfl,rfl⟩⟩
   ·refine mS ?_
    refine zar (p:=1) (cs:=fV 4 (gwN s (p + 2 + 1) 8) (sgw (gwN s (p + 2) 1) 1) []) rfl rfl rfl rfl rfl rfl ?_;refine zaa ?_;refine zae ⟨.inr rfl,[.ag (fV 4 (gwN s (p + 2 + 1) 8) (sgw (gwN s (p + 2) 1) 1) [])],rfl,_,_,rfl,zaX (c:=fV 4 (gwN s (p + 2 + 1) 8) (sgw (gwN s (p + 2) 1) 1) []) rfl,zbd _ _ _ _,p + 2 + 1 + 8,cnt,false,rfl,_,rfl,rfl,zbe _ _ _ _ _ _,(fun t ht => by rw [zbK] at ht; cases ht),live0,lR,⟨by omega,hle2,by omega⟩,(fun h => by rw [hbf] at h; cases h),(fun _ => ⟨hcnt,.mk 4 (gwN s (p + 2 + 1) 8) (sgw (gwN s (p + 2) 1) 1) [] [],rfl,⟨by unfold i64ok; omega,zdS _ _ _,hsg,by unfold strok; simp,by simp,trivial⟩,by simp [V.bulk,V.bulks]⟩),fun _ v t0 h1 h2 h3 h4 h5 => ?_⟩
    rcases zcs h4 with ⟨n,e,he,hn,rfl,rfl⟩ | ⟨m,kid,hm,rfl,rfl⟩
    ·obtain ⟨q1,q2,q3,q4,q5⟩:=zcq hp h5 he (by unfold i64ok; omega)
     refine ⟨rfl,?_,?_,?_⟩
     ·simp [zag]
     ·rw [q4,q5]; rfl
     ·simp [V.nodes,V.nodess]
    ·have:=(zcr hp h5 hm).2.1; omega
   ·refine mS ?_
    refine zar (p:=1) (cs:=fV 4 0 (sgw (gwN s (p + 2) 1) 1) []) rfl rfl rfl rfl rfl rfl ?_;refine zaa ?_;refine zae ⟨.inr rfl,[.ag (fV 4 0 (sgw (gwN s (p + 2) 1) 1) [])],rfl,_,_,rfl,zaX (c:=fV 4 0 (sgw (gwN s (p + 2) 1) 1) []) rfl,zbd _ _ _ _,p + 2 + 1,cnt,true,rfl,zdJ lR live0 ⟨by omega,by omega⟩ (by omega) (fun _ v t0 h1 h2 h4 h5 => ?_) _ _ _ _⟩;have hbad:¬ p + 2 + 1 + 8 <= s.length:=hbad.resolve_left (fun h => by cases h)
    rcases zcs h4 with ⟨n,e,he,hn,rfl,rfl⟩ | ⟨m,kid,hm,rfl,rfl⟩
    ·have:=(zcq hp h5 he (by unfold i64ok; omega)).1; omega
    ·have:=(zcr hp h5 hm).2.1; omega
  ·have hbad:¬ p + 2 + 1 <= s.length:=hbad.resolve_left (fun h => by cases h)
   refine zad (args:=[.d (pI 0),.d (pI ((1:Nat):Int))]) rfl (zfZ 0 1 (by decide) (by unfold i64ok; omega)) ?_;refine mN ?_;refine mO ?_;(iterate 2 refine mS ?_);refine po_g rfl (FnG.lift1 (p:=0) (zbv s (p + 2) 8 cnt true (by decide) has1 hs _ _) (args:=[.d (pI ((8:Nat):Int))]) ⟨trivial,trivial⟩ (zbd _ _ _ _) rfl) ?_;rintro x _ _ _ ⟨c',rfl,rfl,rfl,⟨hx,_⟩ | ⟨_,rfl,rfl⟩⟩
   ·cases hx
   ·refine mS ?_
    refine zar (p:=1) (cs:=fV 4 0 (sgw 0 1) []) rfl rfl rfl rfl rfl rfl ?_;refine zaa ?_;refine zae ⟨.inr rfl,[.ag (fV 4 0 (sgw 0 1) [])],rfl,_,_,rfl,zaX (c:=fV 4 0 (sgw 0 1) []) rfl,zbd _ _ _ _,p + 2,cnt,true,rfl,zdJ lR live0 ⟨by omega,by omega⟩ (by omega) (fun _ v t0 h1 h2 h4 h5 => ?_) _ _ _ _⟩
    rcases zcs h4 with ⟨n,e,he,hn,rfl,rfl⟩ | ⟨m,kid,hm,rfl,rfl⟩
    ·have:=(zcq hp h5 he (by unfold i64ok; omega)).1; omega
    ·have:=(zcr hp h5 hm).2.1; omega
 refine zan (fun st => has st.tm [(0,.ref 0 0),(1,.d (pI d)),(4,.ref 1 0),(27,.d (pB (decide (L = 4 /\ K = 6))))] /\ st.bx = [uC s a1 cnt b1,fV 0 0 0 []] /\ st.nt = nt /\ st.live = live) ?_ ?_
 ·refine zaf ?_
  refine mS ?_;by_cases c1:L = 4
  ·refine zah rfl rfl (decide_eq_true c1) ?_
   (iterate 2 refine mS ?_);refine po_b rfl rfl (fun b2 hb2 => ?_);refine mN ?_
   have:decide (L = 4 /\ K = 6) = b2:=by rw [hb2]; exact decide_eq_decide.2 ⟨fun h => h.2,fun h => ⟨c1,h⟩⟩
   exact ⟨⟨rfl,rfl,rfl,by rw [this]; rfl,trivial⟩,rfl,rfl,rfl⟩
  ·refine zal rfl rfl (decide_eq_false c1) ?_
   refine mS ?_;refine mZ ?_;refine mN ?_;exact ⟨⟨rfl,rfl,rfl,by rw [decide_eq_false (show ¬ (L = 4 /\ K = 6) from fun h => c1 h.1)]; rfl,trivial⟩,rfl,rfl,rfl⟩
 rintro tm bx n1 l1 ⟨ht,hbx,hn,hl⟩;obtain ⟨tm2,rfl⟩:=zac ht;simp only at hbx hn hl; subst hbx; subst n1; subst l1
 clear ht;refine zbB (p:=L = 4 /\ K = 6) rfl (fun hc6 => ?_) (fun hc6 => ?_)
 ·obtain ⟨rfl,hbf,rfl,hL,hK⟩ | ⟨_,_,hK0⟩:=hcase
  case inr => omega
  refine mQ ?_;refine po_g rfl (FnG.lift1 (p:=0) (zbv s (p + 2) 4 cnt false (by decide) has1 hs nt live) (args:=[.d (pI ((4:Nat):Int))]) ⟨trivial,trivial⟩ (zbd _ _ _ _) rfl) ?_
  have main:∀ (r:Int) (a2:Nat) (b2:Bool) (x:PV) (c':List PC),WideR s (p + 2) 4 cnt false nt live x c' nt live -> ∃ (r:Int) (a2:Nat) (b2:Bool),x = .d (pI r) /\ c' = uC s a2 cnt b2 /\ i64ok r /\ p + 2 <= a2 /\ a2 <= s.length /\ ((b2 = false /\ a2 = p + 6 /\ r = gwN s (p + 2) 4) \/ (b2 = true /\ ¬ p + 6 <= s.length)):=by
   rintro _ _ _ x c' ⟨_,_,⟨_,hle,rfl,rfl⟩ | ⟨hbad,rfl,rfl⟩⟩
   ·exact ⟨_,_,_,rfl,rfl,zdS _ _ _,by omega,hle,.inl ⟨rfl,rfl,rfl⟩⟩
   ·exact ⟨_,_,_,rfl,rfl,by unfold i64ok; omega,lR,has1,.inr ⟨rfl,hbad.resolve_left (fun h => by cases h)⟩⟩
  rintro x _ n2 l2 ⟨c',rfl,hW⟩;obtain ⟨rfl,rfl,hW2⟩:=id hW;obtain ⟨r,a2,b2,rfl,rfl,hr,ha2,ha2s,hcs⟩:=main 0 0 false x c' hW;clear main hW hW2;refine mN ?_;refine mO ?_;(iterate 3 refine mS ?_);refine zam (n:=d + 1) rfl rfl rfl rfl (by omega) ?_;refine po_g rfl (FnG.lift1 (p:=0) (hV a2 cnt b2 _ _ ha2s hcnt hnt) (args:=[.d (pI (d + 1))]) ⟨trivial,trivial⟩ (zbd _ _ _ _) rfl) ?_;rintro x _ n3 l3 ⟨c',rfl,a3,cnt3,b3,rfl,cs,rfl,hc5,hnew,hctk,hlv3,hn3,⟨ha3,ha3s,hc3⟩,hb23,hg3,hcomp⟩
  refine zaq (es:=[cs]) (by
   show (if cs.length = 5 then some [cs] else none) = some [cs];rw [if_pos hc5]) ?_
  refine mS ?_;refine zar (p:=1) (cs:=[pI 9,pI r,pI 0,pS [],.sl n3 [cs]]) rfl rfl rfl rfl rfl rfl ?_;refine zaa ?_;have hN:=row_new hnew hn3 (by omega) (.int .i64 9) (.int .i64 r) (.int .i64 0) (.string ⟨#[]⟩);refine zae ⟨.inr rfl,[.ag [pI 9,pI r,pI 0,pS [],.sl n3 [cs]]],rfl,_,_,rfl,zaX (c:=[pI 9,pI r,pI 0,pS [],.sl n3 [cs]]) hN.own,zbd _ _ _ _,a3,cnt3,b3,rfl,_,rfl,rfl,hN,?_,fun t ht h22 hlt => mem_cons_of_mem _ (hlv3 t ht h22 hlt),Nat.le_succ_of_le hn3,⟨by omega,ha3s,hc3⟩,(fun h => by rw [hbf] at h; cases h),(fun hb3 => ?_),fun _ v t0 h1 h2 h3 h4 h5 => ?_⟩
  ·intro t ht
   have h22:2 <= n3:=by omega
   simp only [toksL,PC.toks,pI,pS,nil_append,if_pos h22,toksLL,append_nil] at ht
   rcases mem_cons.1 ht with rfl | ht
   ·exact mem_cons_self ..
   ·exact mem_cons_of_mem _ (hctk t ht)
  ·obtain ⟨r1,u,r2,r3,r4,r5⟩:=hg3 hb3
   refine ⟨r1,.mk 9 r 0 [] [u],?_,⟨by unfold i64ok; omega,hr,by unfold i64ok; omega,by unfold strok; simp,by simp,r3,trivial⟩,by simp only [V.bulk,V.bulks,length_nil,length_cons]; omega⟩
   have:vK [u] = [vC u]:=by rw [zcj]; rfl
   simp only [erL,PC.er,erLL,r2,vC,V.kids,this]; rfl
  ·rcases zcs h4 with ⟨n,e,he,hn,rfl,rfl⟩ | ⟨m,kid,hm,rfl,rfl⟩
   ·have:=(zcq hp h5 he (by unfold i64ok; omega)).2.1; omega
   ·obtain ⟨q1,q2,q3,q4,q5⟩:=zcr hp h5 hm
    obtain ⟨rfl,rfl,rfl⟩ | ⟨_,hx⟩:=hcs
    case inr => exact absurd q1 hx
    have h2':=h2;simp only [V.rightBy,V.rightsBy,Bool.and_eq_true] at h2';obtain ⟨s1,s2,s3,s4⟩:=hcomp rfl kid h1.2.2.2.2.2.1 (by rw [show 12 - (d + 1) = 12 - d - 1 by omega]; exact h2'.1.1) (by simp only [V.nodes,V.nodess] at h3; omega) q5;refine ⟨s1,?_,?_,?_⟩
    ·rw [s2]; simp [zag]; omega
    ·rw [q4]
     have:vK [kid] = [vC kid]:=by rw [zcj]; rfl
     simp only [erL,PC.er,erLL,s3,vC,V.kids,this]; rfl
    ·simp only [V.nodes,V.nodess]; omega
 ·refine zai ?_
  refine mO ?_;(iterate 3 refine mS ?_);refine zaw (p:=0) (o':=3) (cs:=[pB true]) (z:=uC s a1 cnt b1) rfl rfl rfl ⟨rfl,Nat.le_of_ble_eq_true rfl⟩ rfl ?_;refine zaa ?_;refine mQ ?_;refine zar (p:=1) (cs:=fV 0 0 0 []) rfl rfl rfl rfl rfl rfl ?_;refine zaa ?_;refine zae ⟨.inr rfl,[.ag (fV 0 0 0 [])],rfl,uC s a1 cnt true,_,rfl,zaX (c:=fV 0 0 0 []) rfl,zbd _ _ _ _,a1,cnt,true,rfl,zdJ lR live0 ⟨hpa,has1⟩ (by omega) (fun hbf v t0 h1 h2 h4 h5 => ?_) _ _ _ _⟩
  rcases hcase with ⟨_,_,_,hL,hK⟩ | ⟨hb1,_,_⟩
  ·rcases zcs h4 with ⟨n,e,he,hn,rfl,rfl⟩ | ⟨m,kid,hm,rfl,rfl⟩
   ·have:=zcq hp h5 he (by unfold i64ok; omega); exact hc ⟨hL.trans this.2.1,hK.trans this.2.2.1⟩
   ·have:=zcr hp h5 hm; exact hc6 ⟨hL.trans this.2.1,hK.trans this.2.2.1⟩
  ·exact hnone hb1 hbf v t0 h1 h2 h4 h5
end
section
theorem gw_one {s:L8} {a:Nat} (h:a < s.length):gwN s a 1 = ((s[a]).toNat:Nat):=by
 refine zgG (t:=s.drop (a + 1)) ⟨[],?_⟩;rw [append_nil]; exact drop_eq_getElem_cons h
theorem zeR {s:L8} {d left:Int} {a bb cnt a' cnt' nt nt':Nat} {live live':List Nat} {cs:List PC} (HC:HdC s d left a bb) (hleft:left = 300 - cnt) (h5:cs.length = 5) (hN:NewL nt nt' cs) (hct:∀ t ∈ toksL cs,t ∈ live') (hn:nt <= nt') (hlv:∀ t ∈ live,2 <= t -> t < nt -> t ∈ live') (ha:a <= a' /\ a' <= s.length /\ cnt' <= 301)
  (hc:∀ (v:V) (t0:L8),v.wf -> MsgTop v bb t0 -> ¬ At s (a + 1) t0):GotU s d a cnt false nt live (.ag cs) a' cnt' true nt' live' :=
 ⟨cs,rfl,h5,hN,hct,hlv,hn,ha,fun _ => rfl,(fun hb => by cases hb),fun _ v h1 h2 h3 h4 => by
  obtain ⟨t0,q1,q2,_⟩:=HC v h1 h2 (by omega) h4;exact absurd q2 (hc v t0 h1 q1)⟩
theorem zb3 {s:L8} {d left:Int} {a bb cnt a' nt nt':Nat} {live live':List Nat} {cs:List PC} {u:V} (HC:HdC s d left a bb) (hleft:left = 300 - cnt) (he:erL cs = vC u) (h5:cs.length = 5) (ho:ownedL cs = true) (ht:toksL cs = []) (hk:u.nodes = 1) (hw:u.wf) (ha:a < a' /\ a' <= s.length) (hb:u.bulk + 1 <= 2 * (a' - a)) (hl:cnt + 1 <= 300) (hn:nt <= nt') (hlv:∀ t ∈ live,2 <= t -> t < nt -> t ∈ live')
  (hc:∀ (v:V) (t0:L8),v.wf -> MsgTop v bb t0 -> At s (a + 1) t0 -> v = u /\ a' = a + 1 + t0.length):GotU s d a cnt false nt live (.ag cs) a' (cnt + 1) false nt' live' :=
 ⟨cs,rfl,h5,⟨ho,by rw [ht]; exact nodup_nil,fun t h => by rw [ht] at h; cases h⟩,(fun t h => by rw [ht] at h; cases h),hlv,hn,by omega,fun h => h,fun _ => ⟨hl,u,he,hw,ha.1,hb⟩,fun _ v h1 h2 h3 h4 => by
  obtain ⟨t0,q1,q2,q3⟩:=HC v h1 h2 (by omega) h4;obtain ⟨rfl,q4⟩:=hc v t0 h1 q1 q2;exact ⟨rfl,by omega,he,by rw [hk]⟩⟩
theorem zdy {s:L8} {d left kind many:Int} {a bb cnt a2 a3 c a' cnt' nt nt':Nat} {b0 bad':Bool} {live live':List Nat} {x:PV} (hs:s.length <= 2147483647) (HC:HdC s d left a bb) (hleft:left = 300 - cnt) (hkind:i64ok kind) (h3:a3 <= a2 /\ a + 1 <= a3) (hG:GotM s (d + 1) many a3 (cnt + 1) b0 nt live x a' cnt' bad' nt' live')
  (h2:b0 = false -> a3 = a2 /\ a2 = a + 1 + c)
  (hc:∀ (v:V) (t0:L8),v.wf -> MsgTop v bb t0 -> At s (a + 1) t0 -> b0 = false /\ ∃ us,v = .mk kind 0 0 [] us /\ (us.length:Int) = many /\ At s a2 (msgs us) /\ t0.length = c + (msgs us).length):∃ tk rows,x = .d (.sl tk rows) /\ GotU s d a cnt false nt live (.ag [pI kind,pI 0,pI 0,pS [],.sl tk rows]) a' cnt' bad' nt' live':=by
 obtain ⟨tk,rows,rfl,hN,hct,hlv,hn,⟨ha1,ha2,hc1⟩,hbb,hg,hcomp⟩:=hG;have htok:toksL [pI kind,pI 0,pI 0,pS [],.sl tk rows] = toksL [.sl tk rows]:=rfl;refine ⟨tk,rows,rfl,_,rfl,rfl,⟨hN.own,by rw [htok]; exact hN.nd,fun t ht => hN.mem t (by rw [<- htok]; exact ht)⟩,fun t ht => hct t (by rw [<- htok]; exact ht),hlv,hn,⟨by omega,ha2,hc1⟩,(fun h => by cases h),fun hb => ?_,fun _ v h1 h2' h3' h4 => ?_⟩
 ·obtain ⟨q1,vs,q2,q3,q4,q5⟩:=hg hb
  have hb0:b0 = false:=by cases b0 with | false => rfl | true => rw [hbb rfl] at hb; cases hb
  obtain ⟨e1,e2⟩:=h2 hb0;refine ⟨q1,.mk kind 0 0 [] vs,by simp only [erL,PC.er,q2]; rfl,⟨hkind,by unfold i64ok; omega,by unfold i64ok; omega,by unfold strok; simp,by omega,q3⟩,by omega,by simp only [V.bulk,length_nil]; omega⟩
 ·obtain ⟨t0,q1,q2,q3⟩:=HC v h1 h2' (by omega) h4
  obtain ⟨hb0,us,rfl,e2,e3,e4⟩:=hc v t0 h1 q1 q2;obtain ⟨e5,e6⟩:=h2 hb0;simp only [V.rightBy,Bool.and_eq_true] at h2';obtain ⟨r1,r2,r3,r4⟩:=hcomp hb0 us h1.2.2.2.2.2 (by rw [show 12 - (d + 1) = 12 - d - 1 by omega]; exact h2'.1) (by simp only [V.nodes] at h3'; omega) e2 (by rw [e5]; exact e3);exact ⟨r1,by omega,by simp only [erL,PC.er,r3]; rfl,by rw [r4]; simp only [V.nodes]; omega⟩
theorem zeS {s:L8} {d left kind:Int} {a bb cnt a2 a3 c k nt:Nat} {b0:Bool} {live:List Nat} {x:PV} {c':List PC} {n:Nat} {l:List Nat} (hs:s.length <= 2147483647) (HC:HdC s d left a bb) (hleft:left = 300 - cnt) (hl:cnt + 1 <= 300) (hkind:i64ok kind) (h3:a3 <= a2 /\ a + 1 <= a3 /\ a3 <= s.length) (hT:TextR s a3 k (cnt + 1) b0 nt live x c' n l)
  (h2:b0 = false -> a3 = a2 /\ a2 = a + 1 + c)
  (hc:∀ (v:V) (t0:L8),v.wf -> MsgTop v bb t0 -> At s (a + 1) t0 -> b0 = false /\ ∃ tx,v = .mk kind 0 0 tx [] /\ tx.length = k /\ At s a2 tx /\ t0.length = c + tx.length):n = nt /\ l = live /\ ∃ tx a' bad',x = .d (pS tx) /\ c' = uC s a' (cnt + 1) bad' /\ GotU s d a cnt false nt live (.ag (fV kind 0 0 tx)) a' (cnt + 1) bad' nt live:=by
 obtain ⟨rfl,rfl,⟨hb0,hle,rfl,rfl⟩ | ⟨hbad,rfl,rfl⟩⟩:=hT
 ·obtain ⟨e1,e2⟩:=h2 hb0
  have hlen:((s.drop a3).take k).length = k:=by rw [length_take,length_drop]; omega
  refine ⟨rfl,rfl,_,_,_,rfl,rfl,zb3 HC hleft (fV_er kind 0 0 _) rfl rfl (zbK _ _ _ _) (by simp [V.nodes,V.nodess]) ⟨hkind,by unfold i64ok; omega,by unfold i64ok; omega,by unfold strok; omega,by simp,trivial⟩ (by omega) (by simp only [V.bulk,V.bulks,length_nil]; omega) hl lR (fun t ht _ _ => ht) fun v t0 h1 h4 h5 => ?_⟩;obtain ⟨_,tx,rfl,e3,e4,e5⟩:=hc v t0 h1 h4 h5
  have:=e4.take
  rw [e3,<- e1] at this;exact ⟨by rw [this],by omega⟩
 ·refine ⟨rfl,rfl,_,_,_,rfl,rfl,zeR HC hleft rfl (zbe _ _ _ _ _ _) (fun t ht => by rw [zbK] at ht; cases ht) lR (fun t ht _ _ => ht) ⟨by omega,h3.2.2,by omega⟩ fun v t0 h1 h4 h5 => ?_⟩
  obtain ⟨hb0,tx,rfl,e3,e4,e5⟩:=hc v t0 h1 h4 h5;obtain ⟨e1,e2⟩:=h2 hb0
  have:=e4.len (by omega)
  rcases hbad with hbad | hbad
  ·rw [hb0] at hbad; cases hbad
  ·omega
theorem gotU_int {s:L8} {d left:Int} {a bb cnt k nt:Nat} {live:List Nat} {x:PV} {c':List PC} {n:Nat} {l:List Nat} (f:Int -> Int) (hf:∀ z,i64ok z -> i64ok (f z)) (HC:HdC s d left a bb) (hleft:left = 300 - cnt) (hl:cnt + 1 <= 300) (ha:a + 1 <= s.length) (hW:WideR s (a + 1) k (cnt + 1) false nt live x c' n l) (hk1:1 <= k)
  (hc:∀ (v:V) (t0:L8),v.wf -> MsgTop v bb t0 -> At s (a + 1) t0 -> t0.length = k /\ v = .mk 3 (f (gwN s (a + 1) k)) 0 [] []):n = nt /\ l = live /\ ∃ z a' bad',x = .d (pI z) /\ i64ok z /\ c' = uC s a' (cnt + 1) bad' /\ GotU s d a cnt false nt live (.ag (fV 3 (f z) 0 [])) a' (cnt + 1) bad' nt live:=by
 obtain ⟨rfl,rfl,⟨_,hle,rfl,rfl⟩ | ⟨hbad,rfl,rfl⟩⟩:=hW
 ·refine ⟨rfl,rfl,_,_,_,rfl,zdS _ _ _,rfl,zb3 HC hleft (fV_er 3 _ 0 _) rfl rfl (zbK _ _ _ _) (by simp [V.nodes,V.nodess]) ⟨by unfold i64ok; omega,hf _ (zdS _ _ _),by unfold i64ok; omega,by unfold strok; simp,by simp,trivial⟩ (by omega) (by simp only [V.bulk,V.bulks,length_nil]; omega) hl lR (fun t ht _ _ => ht) fun v t0 h1 h4 h5 => ?_⟩
  obtain ⟨e1,e2⟩:=hc v t0 h1 h4 h5;exact ⟨e2,by omega⟩
 ·refine ⟨rfl,rfl,0,_,_,rfl,by unfold i64ok; omega,rfl,zeR HC hleft rfl (zbe _ _ _ _ _ _) (fun t ht => by rw [zbK] at ht; cases ht) lR (fun t ht _ _ => ht) ⟨by omega,ha,by omega⟩ fun v t0 h1 h4 h5 => ?_⟩
  have e1:=(hc v t0 h1 h4 h5).1
  have:=h5.len ha
  rcases hbad with hbad | hbad
  ·cases hbad
  ·omega
theorem gotU_ext {s:L8} {d left:Int} {a cnt a' cnt' nt nt':Nat} {bad':Bool} {live live':List Nat} {x:PV} (HC:HdC s d left a 199) (hleft:left = 300 - cnt) (hG:GotXU s d (a + 1) (cnt + 1) false nt live x a' cnt' bad' nt' live'):GotU s d a cnt false nt live x a' cnt' bad' nt' live':=by
 obtain ⟨cs,rfl,h5,hN,hct,hlv,hn,⟨ha1,ha2,hc1⟩,hbb,hg,hcomp⟩:=hG;refine ⟨cs,rfl,h5,hN,hct,hlv,hn,⟨by omega,ha2,hc1⟩,hbb,fun hb => ?_,fun _ v h1 h2 h3 h4 => ?_⟩
 ·obtain ⟨q1,u,q2,q3,q4⟩:=hg hb
  exact ⟨q1,u,q2,q3,by omega,by omega⟩
 ·obtain ⟨t0,q1,q2,q3⟩:=HC v h1 h2 (by omega) h4
  obtain ⟨r1,r2,r3,r4⟩:=hcomp rfl v t0 h1 h2 (by omega) q1 q2;exact ⟨r1,by omega,r3,by omega⟩
end
section
variable {T:World -> Prop} {hT:Low ngl T}
attribute [local irreducible] po mw pt
def ValR (s:L8) (d:Int) (a cnt:Nat) (bad:Bool) (nt:Nat) (live:List Nat) (x:PV) (b:LP PC) (n:Nat) (l:List Nat):Prop:=∃ c' rest,b = c' :: rest /\ x.lw 0 /\ lwL 0 c' /\ ∃ a' cnt' bad',c' = uC s a' cnt' bad' /\ GotU s d a cnt bad nt live x a' cnt' bad' n l
theorem zbi {s:L8} {d:Int} {a cnt a' cnt' nt n:Nat} {bad bad':Bool} {live l:List Nat} {cs:List PC} {rest:LP PC} (h:GotU s d a cnt bad nt live (.ag cs) a' cnt' bad' n l):ValR s d a cnt bad nt live (.ag cs) (uC s a' cnt' bad' :: rest) n l:=by
 refine ⟨_,_,rfl,?_,zbd _ _ _ _,a',cnt',bad',rfl,h⟩;obtain ⟨cs',e,_,hN,_⟩:=h;simp only [PV.ag.injEq] at e;subst e;exact zaX hN.own
theorem ress_1 {tm:Nat -> PV} {bx:LP PC} {nt:Nat} {live:List Nat} {n t p:Nat} {cs:List PC} (ht:tm t = .ref p 0) (hb:bx[p]? = some cs) (hn:cs.length = n):ressM ⟨tm,bx,nt,live⟩ [.cell true n t] = some [.ag cs]:=zck ht hb hn
theorem shl4:∀ j:Nat,j < 4 -> IntKind.wrap .i64 (1 * 2 ^ (min (j:Int).toNat 64)) = ((2 ^ j:Nat):Int)
 | 0,_ => by decide
 | 1,_ => by decide
 | 2,_ => by decide
 | 3,_ => by decide
 | j + 4,h => by omega
theorem wide_hc {s:L8} {a bb j:Nat} (hb:bb = 204 + j) (hj:j < 4):∀ (v:V) (t0:L8),v.wf -> MsgTop v bb t0 -> At s (a + 1) t0 -> t0.length = 2 ^ j /\ v = .mk 3 (id (gwN s (a + 1) (2 ^ j))) 0 [] []:=by
 intro v t0 hw hM hA
 cases hM with
 | uint j' hj' n h =>
  obtain rfl:j' = j:=by omega
  exact ⟨by rw [zag],by rw [id,hA.gw_id h.1 h.2]⟩
 | _ => exfalso; omega
theorem sign_hc {s:L8} {a bb j:Nat} (hb:bb = 208 + j) (hj:j < 4):∀ (v:V) (t0:L8),v.wf -> MsgTop v bb t0 -> At s (a + 1) t0 -> t0.length = 2 ^ j /\ v = .mk 3 (sgw (gwN s (a + 1) (2 ^ j)) (2 ^ j)) 0 [] []:=by
 intro v t0 hw hM hA
 cases hM with
 | sint j' hj' n h =>
  obtain rfl:j' = j:=by omega
  refine ⟨by rw [zag],?_⟩
  have h2:2 ^ j' = 1 \/ 2 ^ j' = 2 \/ 2 ^ j' = 4 \/ 2 ^ j' = 8:=by
   have:j' = 0 \/ j' = 1 \/ j' = 2 \/ j' = 3:=by omega
   rcases this with rfl | rfl | rfl | rfl <;> decide
  rw [hA.gw,zd7 n (2 ^ j') h2 ⟨h.2,by have:=Nat.pow_pos (n:=8 * 2 ^ j' - 1) (show 0 < 2 by decide); omega⟩]
 | _ => exfalso; omega
theorem sgw_i64 (z:Int) (j:Nat) (hz:i64ok z):i64ok (sgw z (2 ^ j)):=by
 unfold sgw;split
 ·rename_i h
  have hp:=zdq (k:=2 ^ j) h.2;have h1:=Int.emod_nonneg z (show ((256 ^ 2 ^ j:Nat):Int) ≠ 0 by omega);have h2:=Int.emod_lt_of_pos z (show (0:Int) < ((256 ^ 2 ^ j:Nat):Int) by omega);unfold i64ok
  split <;> omega
 ·exact hz
theorem val_g {s:L8} (hs:s.length <= 2147483647) {d:Int} (hd:0 <= d /\ d <= 13) (hV:d <= 12 -> ValU T hT s (d + 1)):ValU T hT s d:=by
 intro a cnt bad nt live ha hcnt hnt;refine zaG (R:=ValR s d a cnt bad nt live) (zaj zc6) (by show 2 <= 154; decide) fun B hB => ?_
 unfold m_i_unpacker_value;have live0:∀ t ∈ live,2 <= t -> t < nt -> t ∈ live:=fun t ht _ _ => ht
 refine mP ?_;refine mO ?_;(iterate 4 refine mS ?_);refine zam (n:=((cnt + 1:Nat):Int)) rfl rfl rfl (by omega) (by omega) ?_;(iterate 2 refine mS ?_);refine zaw (p:=0) (o':=2) (cs:=[pI ((cnt + 1:Nat):Int)]) (z:=uC s a cnt bad) rfl rfl rfl ⟨rfl,Nat.le_of_ble_eq_true rfl⟩ rfl ?_;refine zaa ?_
 refine zan (fun st => ∃ (c:Int) (a1:Nat) (b1:Bool),has st.tm [(0,.ref 0 0),(1,.d (pI d)),(4,.ref 1 0),(5,.d (pI c))] /\ st.bx = [uC s a1 (cnt + 1) b1,fV 0 0 0 []] /\ st.nt = nt /\ st.live = live /\
  ((b1 = false /\ bad = false /\ a + 1 <= s.length /\ a1 = a + 1 /\ c = gwN s a 1) \/ (b1 = true /\ a1 = a /\ (bad = true \/ ¬ a + 1 <= s.length)))) ?_ ?_
 ·refine zaf ?_
  refine mS ?_;refine po_g rfl (FnG.lift1 (p:=0) (zbv s a 1 (cnt + 1) bad (by decide) ha hs nt live) (args:=[.d (pI ((1:Nat):Int))]) ⟨trivial,trivial⟩ (zbd _ _ _ _) rfl) ?_;rintro x _ _ _ ⟨c',rfl,rfl,rfl,⟨hb0,hle,rfl,rfl⟩ | ⟨hbad,rfl,rfl⟩⟩
  ·refine mN ?_
   exact ⟨_,a + 1,false,⟨rfl,rfl,rfl,rfl,trivial⟩,rfl,rfl,rfl,.inl ⟨rfl,hb0,hle,rfl,rfl⟩⟩
  ·refine mN ?_
   exact ⟨_,a,true,⟨rfl,rfl,rfl,rfl,trivial⟩,rfl,rfl,rfl,.inr ⟨rfl,rfl,hbad⟩⟩
 rintro tm bx n1 l1 ⟨c,a1,b1,ht,hbx,hn,hl,hcase⟩;obtain ⟨tm0,rfl⟩:=zac ht;simp only at hbx hn hl; subst hbx; subst n1; subst l1
 clear ht;refine zak ?_;refine zan (fun st => has st.tm [(0,.ref 0 0),(1,.d (pI d)),(4,.ref 1 0),(5,.d (pI c)),(30,.d (pB (b1 || (decide (cnt + 1 > 300) || decide (d > 12)))))] /\ st.bx = [uC s a1 (cnt + 1) b1,fV 0 0 0 []] /\ st.nt = nt /\ st.live = live) ?_ ?_
 ·refine zaf ?_
  (iterate 5 refine mS ?_)
  cases b1 with
  | true =>
   refine mZ ?_;(iterate 2 refine mS ?_);refine mZ ?_;refine mN ?_
   exact ⟨⟨rfl,rfl,rfl,rfl,rfl,trivial⟩,rfl,rfl,rfl⟩
  | false =>
   (iterate 4 refine mS ?_);by_cases c1:cnt + 1 > 300
   ·refine zah rfl rfl (decide_eq_true (show ((cnt + 1:Nat):Int) > 300 by omega)) ?_
    (iterate 2 refine mS ?_);refine mZ ?_;refine mN ?_;exact ⟨⟨rfl,rfl,rfl,rfl,by rw [decide_eq_true c1]; rfl,trivial⟩,rfl,rfl,rfl⟩
   ·refine zal rfl rfl (decide_eq_false (show ¬ ((cnt + 1:Nat):Int) > 300 by omega)) ?_
    (iterate 3 refine mS ?_);refine po_b rfl rfl (fun b2 hb2 => ?_);refine mN ?_;exact ⟨⟨rfl,rfl,rfl,rfl,by rw [decide_eq_false c1,hb2]; rfl,trivial⟩,rfl,rfl,rfl⟩
 rintro tm bx n1 l1 ⟨ht,hbx,hn,hl⟩;obtain ⟨tm1,rfl⟩:=zac ht;simp only at hbx hn hl; subst hbx; subst n1; subst l1
 clear ht;refine zaU (t:=b1 || (decide (cnt + 1 > 300) || decide (d > 12))) rfl (fun hc => ?_) (fun hc => ?_)
 ·refine mO ?_
  (iterate 3 refine mS ?_);refine zaw (p:=0) (o':=3) (cs:=[pB true]) (z:=uC s a1 (cnt + 1) b1) rfl rfl rfl ⟨rfl,Nat.le_of_ble_eq_true rfl⟩ rfl ?_;refine zaa ?_;refine mQ ?_;refine zar (p:=1) (cs:=fV 0 0 0 []) rfl rfl rfl rfl rfl rfl ?_;refine zaa ?_;refine zae ⟨.inr rfl,[.ag (fV 0 0 0 [])],rfl,zbi (a':=a1) (cnt':=cnt + 1) (bad':=true) ⟨_,rfl,rfl,zbe _ _ _ _ _ _,(fun t ht => by rw [zbK] at ht; cases ht),live0,lR,⟨by omega,by omega,by omega⟩,fun _ => rfl,(fun hb => by cases hb),fun hb v h1 h2 h3 h4 => ?_⟩⟩;exfalso;have hnp:=v.nodes_pos
  have h2':0 <= 12 - d:=by
   obtain ⟨k,n,e,x,kids⟩:=v;simp only [V.rightBy,Bool.and_eq_true,decide_eq_true_eq] at h2;exact h2.2.1
  obtain ⟨b,t0,_,_,he⟩:=zeu h2 (by
   obtain ⟨k,n,e,x,kids⟩:=v
   have:=V.kids_nodes kids
   simp only [V.nodes] at h3;show kids.length <= 300
   omega) (by obtain ⟨k,n,e,x,kids⟩:=v; exact h1.2.1)
  rw [he] at h4;have hlt:=h4.lt
  have hb1:b1 = false:=by
   rcases hcase with ⟨h,_⟩ | ⟨_,_,h | h⟩
   ·exact h
   ·rw [hb] at h; cases h
   ·omega
  rw [hb1,decide_eq_false (by omega),decide_eq_false (by omega)] at hc
  cases hc
 simp only [Bool.or_eq_false_iff,decide_eq_false_iff_not] at hc;obtain ⟨rfl,hc300,hd12⟩:=hc;obtain ⟨_,rfl,hal,rfl,hcc⟩ | ⟨hx,_⟩:=hcase
 case inr => cases hx
 have hil:a < s.length:=by omega
 have hl1:cnt + 1 <= 300:=by omega
 have hV:=hV (by omega);obtain ⟨left,hleft⟩:∃ left:Int,left = 300 - cnt:=⟨_,rfl⟩;have HC:=hdC (d:=d) (left:=left) (by omega) hil;have hbt:=(s[a]).toNat_lt;rw [gw_one hil] at hcc;subst c;generalize s[a].toNat = bb at HC hbt;refine zai ?_;refine zcl (fun st => has st.tm [(0,.ref 0 0),(1,.d (pI d)),(4,.ref 1 0),(5,.d (pI bb))] /\ st.bx = [uC s (a + 1) (cnt + 1) false,fV 0 0 0 []] /\ st.nt = nt /\ st.live = live) ⟨⟨rfl,rfl,rfl,rfl,trivial⟩,rfl,rfl,rfl⟩ (fun tm bx n2 l2 hh => ?_);obtain ⟨ht,hbx,hn,hlv⟩:=hh;obtain ⟨tm1,rfl⟩:=zac ht;simp only at hbx hn hlv; subst hbx; subst n2; subst l2
 clear ht;have hu:=zbd s (a + 1) (cnt + 1) false;refine zak (zab ?_);refine mQ ?_;by_cases k:(bb:Int) < 128
 ·refine zah rfl rfl (decide_eq_true k) ?_
  refine mT ?_;refine mQ ?_;refine mS ?_;refine zar (p:=1) (cs:=fV 3 bb 0 []) rfl rfl rfl rfl rfl rfl ?_;refine zaa ?_;refine zae ⟨.inr rfl,[.ag (fV 3 bb 0 [])],rfl,zbi (zb3 HC hleft (u:=.mk 3 bb 0 [] []) rfl rfl rfl rfl (by simp [V.nodes,V.nodess]) ⟨by unfold i64ok; omega,by unfold i64ok; omega,by unfold i64ok; omega,by unfold strok; simp,by simp,trivial⟩ (by omega) (by simp only [V.bulk,V.bulks,length_nil]; omega) hl1 lR live0 fun v t0 h1 hM hA => ?_)⟩
  cases hM <;> first | (exfalso; omega) | exact ⟨rfl,rfl⟩
 refine zal rfl rfl (decide_eq_false k) ?_;refine mF ?_;refine mQ ?_;by_cases k:(bb:Int) < 144
 ·refine zah rfl rfl (decide_eq_true k) ?_
  refine mT ?_;refine mQ ?_;refine mS ?_;refine zaK (n:=(bb:Int) - 128) rfl rfl rfl rfl (by omega) ?_;refine zcc (n:=2 * ((bb:Int) - 128)) rfl rfl rfl rfl (by omega) ?_;refine mS ?_;refine zam (n:=d + 1) rfl rfl rfl rfl (by omega) ?_;refine po_g rfl (FnG.lift1 (p:=0) (many_g hs hV (2 * ((bb:Int) - 128)) (by omega) (a + 1) (cnt + 1) false nt live (by omega) (by omega) hnt) (args:=[.d (pI (2 * ((bb:Int) - 128))),.d (pI (d + 1))]) ⟨trivial,trivial,trivial⟩ (zbd _ _ _ _) rfl) ?_;rintro x _ n3 l3 ⟨c',rfl,a',cnt',bad',rfl,hGM⟩
  obtain ⟨tk,rows,rfl,hGU⟩:=zdy (bb:=bb) (kind:=8) (many:=2 * ((bb:Int) - 128)) (a2:=a + 1) (a3:=a + 1) (c:=0) (b0:=false) hs HC hleft (by unfold i64ok; omega) (by omega) hGM (fun _ => ⟨rfl,rfl⟩) (fun v t0 h1 hM hA => by
   cases hM with
   | map n h kids hl => exact ⟨rfl,kids,rfl,by omega,hA,by simp⟩
   | _ => exfalso; omega)
  refine mS ?_;refine zar (p:=1) (cs:=[pI 8,pI 0,pI 0,pS [],.sl tk rows]) rfl rfl rfl rfl rfl rfl ?_;refine zaa ?_;exact zae ⟨.inr rfl,[.ag [pI 8,pI 0,pI 0,pS [],.sl tk rows]],rfl,zbi hGU⟩
 refine zal rfl rfl (decide_eq_false k) ?_;refine mF ?_;refine mQ ?_;by_cases k:(bb:Int) < 160
 ·refine zah rfl rfl (decide_eq_true k) ?_
  refine mT ?_;refine mQ ?_;refine mS ?_;refine zaK (n:=(bb:Int) - 144) rfl rfl rfl rfl (by omega) ?_;refine mS ?_;refine zam (n:=d + 1) rfl rfl rfl rfl (by omega) ?_;refine po_g rfl (FnG.lift1 (p:=0) (many_g hs hV ((bb:Int) - 144) (by omega) (a + 1) (cnt + 1) false nt live (by omega) (by omega) hnt) (args:=[.d (pI ((bb:Int) - 144)),.d (pI (d + 1))]) ⟨trivial,trivial,trivial⟩ (zbd _ _ _ _) rfl) ?_;rintro x _ n3 l3 ⟨c',rfl,a',cnt',bad',rfl,hGM⟩
  obtain ⟨tk,rows,rfl,hGU⟩:=zdy (bb:=bb) (kind:=7) (many:=(bb:Int) - 144) (a2:=a + 1) (a3:=a + 1) (c:=0) (b0:=false) hs HC hleft (by unfold i64ok; omega) (by omega) hGM (fun _ => ⟨rfl,rfl⟩) (fun v t0 h1 hM hA => by
   cases hM with
   | list kids h => exact ⟨rfl,kids,rfl,by omega,hA,by simp⟩
   | _ => exfalso; omega)
  refine mS ?_;refine zar (p:=1) (cs:=[pI 7,pI 0,pI 0,pS [],.sl tk rows]) rfl rfl rfl rfl rfl rfl ?_;refine zaa ?_;exact zae ⟨.inr rfl,[.ag [pI 7,pI 0,pI 0,pS [],.sl tk rows]],rfl,zbi hGU⟩
 refine zal rfl rfl (decide_eq_false k) ?_;refine mF ?_;refine mQ ?_;by_cases k:(bb:Int) < 192
 ·refine zah rfl rfl (decide_eq_true k) ?_
  refine mT ?_;refine mQ ?_;refine mS ?_;refine zaK (n:=((bb - 160:Nat):Int)) rfl rfl rfl (by omega) (by omega) ?_;refine po_g rfl (FnG.lift1 (p:=0) (zid s (a + 1) (bb - 160) (cnt + 1) false (by omega) (by omega) hs nt live) (args:=[.d (pI ((bb - 160:Nat):Int))]) ⟨trivial,trivial⟩ (zbd _ _ _ _) rfl) ?_;rintro x _ n3 l3 ⟨c',rfl,hTX⟩
  obtain ⟨rfl,rfl,tx,a',bad',rfl,rfl,hGU⟩:=zeS (bb:=bb) (kind:=5) (k:=bb - 160) (a2:=a + 1) (a3:=a + 1) (c:=0) (b0:=false) hs HC hleft hl1 (by unfold i64ok; omega) (by omega) hTX (fun _ => ⟨rfl,rfl⟩) (fun v t0 h1 hM hA => by
   cases hM with
   | text tx h => exact ⟨rfl,t0,rfl,by omega,hA,by simp⟩
   | _ => exfalso; omega)
  refine mS ?_;refine zar (p:=1) (cs:=fV 5 0 0 tx) rfl rfl rfl rfl rfl rfl ?_;refine zaa ?_;exact zae ⟨.inr rfl,[.ag (fV 5 0 0 tx)],rfl,zbi hGU⟩
 refine zal rfl rfl (decide_eq_false k) ?_;refine mF ?_;refine mQ ?_;by_cases k:(bb:Int) ≥ 224
 ·refine zah rfl rfl (decide_eq_true k) ?_
  refine mT ?_;refine mQ ?_;refine zaK (n:=(bb:Int) - 256) rfl rfl rfl rfl (by omega) ?_;refine mS ?_;refine zar (p:=1) (cs:=fV 3 ((bb:Int) - 256) 0 []) rfl rfl rfl rfl rfl rfl ?_;refine zaa ?_;refine zae ⟨.inr rfl,[.ag (fV 3 ((bb:Int) - 256) 0 [])],rfl,zbi (zb3 HC hleft (u:=.mk 3 ((bb:Int) - 256) 0 [] []) rfl rfl rfl rfl (by simp [V.nodes,V.nodess]) ⟨by unfold i64ok; omega,by unfold i64ok; omega,by unfold i64ok; omega,by unfold strok; simp,by simp,trivial⟩ (by omega) (by simp only [V.bulk,V.bulks,length_nil]; omega) hl1 lR live0 fun v t0 h1 hM hA => ?_)⟩
  cases hM <;> first | (exfalso; omega) | exact ⟨rfl,rfl⟩
 refine zal rfl rfl (decide_eq_false k) ?_;refine mF ?_;refine mQ ?_;refine zad rfl (zcG bb 204 207) ?_;by_cases k6:(204:Int) <= bb /\ (bb:Int) <= 207
 ·rw [decide_eq_true k6]
  refine mT ?_;refine mO ?_;obtain ⟨j,rfl⟩:∃ j,bb = 204 + j:=⟨bb - 204,by omega⟩;have hj:j < 4:=by omega
  have hp2:1 <= 2 ^ j /\ 2 ^ j <= 8:=by
   have:j = 0 \/ j = 1 \/ j = 2 \/ j = 3:=by omega
   rcases this with rfl | rfl | rfl | rfl <;> decide
  (iterate 2 refine mS ?_);refine zaK (n:=(j:Int)) rfl rfl rfl (by omega) (by omega) ?_;refine zhc (n:=((2 ^ j:Nat):Int)) rfl rfl rfl (by omega) (shl4 j hj) ?_;refine po_g rfl (FnG.lift1 (p:=0) (zbv s (a + 1) (2 ^ j) (cnt + 1) false hp2 hal hs nt live) (args:=[.d (pI ((2 ^ j:Nat):Int))]) ⟨trivial,trivial⟩ (zbd _ _ _ _) rfl) ?_;rintro x _ n3 l3 ⟨c',rfl,hW⟩;obtain ⟨rfl,rfl,z,a',bad',rfl,_,rfl,hGU⟩:=gotU_int id (fun _ h => h) HC hleft hl1 hal hW hp2.1 (wide_hc rfl hj);refine mS ?_;refine zar (p:=1) (cs:=fV 3 z 0 []) rfl rfl rfl rfl rfl rfl ?_;refine zaa ?_;exact zae ⟨.inr rfl,[.ag (fV 3 z 0 [])],rfl,zbi hGU⟩
 rw [decide_eq_false k6];refine mF ?_;refine mQ ?_;refine zad rfl (zcG bb 208 211) ?_;by_cases k7:(208:Int) <= bb /\ (bb:Int) <= 211
 ·rw [decide_eq_true k7]
  refine mT ?_;refine mO ?_;obtain ⟨j,rfl⟩:∃ j,bb = 208 + j:=⟨bb - 208,by omega⟩;have hj:j < 4:=by omega
  have hp2:1 <= 2 ^ j /\ 2 ^ j <= 8:=by
   have:j = 0 \/ j = 1 \/ j = 2 \/ j = 3:=by omega
   rcases this with rfl | rfl | rfl | rfl <;> decide
  refine mS ?_;refine zaK (n:=(j:Int)) rfl rfl rfl (by omega) (by omega) ?_;refine zhc (n:=((2 ^ j:Nat):Int)) rfl rfl rfl (by omega) (shl4 j hj) ?_;refine mN ?_;refine mO ?_;(iterate 2 refine mS ?_);refine po_g rfl (FnG.lift1 (p:=0) (zbv s (a + 1) (2 ^ j) (cnt + 1) false hp2 hal hs nt live) (args:=[.d (pI ((2 ^ j:Nat):Int))]) ⟨trivial,trivial⟩ (zbd _ _ _ _) rfl) ?_;rintro x _ n3 l3 ⟨c',rfl,hW⟩;obtain ⟨rfl,rfl,z,a',bad',rfl,hz,rfl,hGU⟩:=gotU_int (fun z => sgw z (2 ^ j)) (fun z h => sgw_i64 z j h) HC hleft hl1 hal hW hp2.1 (sign_hc rfl hj);refine mS ?_;refine zad (args:=[.d (pI z),.d (pI ((2 ^ j:Nat):Int))]) rfl (zfZ z (2 ^ j) hp2 hz) ?_;refine mS ?_;refine zar (p:=1) (cs:=fV 3 (sgw z (2 ^ j)) 0 []) rfl rfl rfl rfl rfl rfl ?_;refine zaa ?_;exact zae ⟨.inr rfl,[.ag (fV 3 (sgw z (2 ^ j)) 0 [])],rfl,zbi hGU⟩
 rw [decide_eq_false k7];refine mK ?_;refine zcl (fun st => has st.tm [(0,.ref 0 0),(1,.d (pI d)),(4,.ref 1 0),(5,.d (pI bb))] /\ st.bx = [uC s (a + 1) (cnt + 1) false,fV 0 0 0 []] /\ st.nt = nt /\ st.live = live) ⟨⟨rfl,rfl,rfl,rfl,trivial⟩,rfl,rfl,rfl⟩ (fun tm bx n2 l2 hh => ?_);obtain ⟨ht,hbx,hn,hlv⟩:=hh;obtain ⟨tm2,rfl⟩:=zac ht;simp only at hbx hn hlv; subst hbx; subst n2; subst l2
 clear ht;refine mM ?_;refine mN ?_;refine zab (zak (zaf ?_));by_cases q192:(bb:Int) = 192
 ·refine zah rfl rfl (decide_eq_true q192) ?_
  refine mT ?_;refine mQ ?_;refine zar (p:=1) (cs:=fV 0 0 0 []) rfl rfl rfl rfl rfl rfl ?_;refine zaa ?_;refine zae ⟨.inr rfl,[.ag (fV 0 0 0 [])],rfl,zbi (zb3 HC hleft (u:=.mk 0 0 0 [] []) rfl rfl rfl rfl (by simp [V.nodes,V.nodess]) ⟨by unfold i64ok; omega,by unfold i64ok; omega,by unfold i64ok; omega,by unfold strok; simp,by simp,trivial⟩ (by omega) (by simp only [V.bulk,V.bulks,length_nil]; omega) hl1 lR live0 fun v t0 h1 hM hA => ?_)⟩
  cases hM <;> first | (exfalso; omega) | exact ⟨rfl,rfl⟩
 refine zal rfl rfl (decide_eq_false q192) ?_;refine mF ?_;refine mO ?_;by_cases q194:(bb:Int) = 194
 ·refine zah rfl rfl (decide_eq_true q194) ?_
  refine mT ?_;refine mQ ?_;refine zar (p:=1) (cs:=fV 1 0 0 []) rfl rfl rfl rfl rfl rfl ?_;refine zaa ?_;refine zae ⟨.inr rfl,[.ag (fV 1 0 0 [])],rfl,zbi (zb3 HC hleft (u:=.mk 1 0 0 [] []) rfl rfl rfl rfl (by simp [V.nodes,V.nodess]) ⟨by unfold i64ok; omega,by unfold i64ok; omega,by unfold i64ok; omega,by unfold strok; simp,by simp,trivial⟩ (by omega) (by simp only [V.bulk,V.bulks,length_nil]; omega) hl1 lR live0 fun v t0 h1 hM hA => ?_)⟩
  cases hM <;> first | (exfalso; omega) | exact ⟨rfl,rfl⟩
 refine zal rfl rfl (decide_eq_false q194) ?_;refine mF ?_;refine mO ?_;by_cases q195:(bb:Int) = 195
 ·refine zah rfl rfl (decide_eq_true q195) ?_
  refine mT ?_;refine mQ ?_;refine zar (p:=1) (cs:=fV 2 0 0 []) rfl rfl rfl rfl rfl rfl ?_;refine zaa ?_;refine zae ⟨.inr rfl,[.ag (fV 2 0 0 [])],rfl,zbi (zb3 HC hleft (u:=.mk 2 0 0 [] []) rfl rfl rfl rfl (by simp [V.nodes,V.nodess]) ⟨by unfold i64ok; omega,by unfold i64ok; omega,by unfold i64ok; omega,by unfold strok; simp,by simp,trivial⟩ (by omega) (by simp only [V.bulk,V.bulks,length_nil]; omega) hl1 lR live0 fun v t0 h1 hM hA => ?_)⟩
  cases hM <;> first | (exfalso; omega) | exact ⟨rfl,rfl⟩
 refine zal rfl rfl (decide_eq_false q195) ?_;refine mF ?_;refine zan (fun st => has st.tm [(0,.ref 0 0),(1,.d (pI d)),(4,.ref 1 0),(5,.d (pI bb)),(96,.d (pI bb)),(106,.d (pB (decide ((bb:Int) = 196 \/ (bb:Int) = 197))))] /\ st.bx = [uC s (a + 1) (cnt + 1) false,fV 0 0 0 []] /\ st.nt = nt /\ st.live = live) ?_ ?_
 ·refine mO ?_
  by_cases q:(bb:Int) = 196
  ·refine zah rfl rfl (decide_eq_true q) ?_
   refine mT ?_;refine zai ?_;exact ⟨⟨rfl,rfl,rfl,rfl,rfl,by rw [decide_eq_true (show (bb:Int) = 196 \/ (bb:Int) = 197 from .inl q)]; rfl,trivial⟩,rfl,rfl,rfl⟩
  ·refine zal rfl rfl (decide_eq_false q) ?_
   refine mF ?_;refine zaf ?_;refine po_b rfl rfl (fun b2 hb2 => ?_);refine mN ?_
   have:decide ((bb:Int) = 196 \/ (bb:Int) = 197) = b2:=by rw [hb2]; exact decide_eq_decide.2 ⟨fun h => h.resolve_left q,.inr⟩
   exact ⟨⟨rfl,rfl,rfl,rfl,rfl,by rw [this]; rfl,trivial⟩,rfl,rfl,rfl⟩
 rintro tm bx n2 l2 ⟨ht,hbx,hn,hlv⟩;obtain ⟨tm3,rfl⟩:=zac ht;simp only at hbx hn hlv; subst hbx; subst n2; subst l2
 clear ht;refine zbB (p:=(bb:Int) = 196 \/ (bb:Int) = 197) rfl (fun q196 => ?_) (fun q196 => ?_)
 ·refine mQ ?_
  refine mS ?_;refine mS ?_;obtain ⟨j,hj,hj2⟩:∃ j:Nat,(bb:Int) - 195 = j /\ (j = 1 \/ j = 2):=⟨bb - 195,by omega,by omega⟩;refine zaK (n:=(j:Int)) rfl rfl rfl hj (by omega) ?_;refine po_g rfl (FnG.lift1 (p:=0) (zbv s (a + 1) j (cnt + 1) false (by omega) hal hs nt live) (args:=[.d (pI (j:Int))]) ⟨trivial,trivial⟩ (zbd _ _ _ _) rfl) ?_;rintro x _ n3 l3 ⟨c',rfl,rfl,rfl,hW⟩
  obtain ⟨m,a3,b0,rfl,rfl,hm,ha3,hb0⟩:∃ (m a3:Nat) (b0:Bool),x = .d (pI (m:Int)) /\ c' = uC s a3 (cnt + 1) b0 /\ m <= 65536 /\ (a + 1 <= a3 /\ a3 <= a + 1 + j /\ a3 <= s.length) /\ ((b0 = false /\ a3 = a + 1 + j /\ (m:Int) = gwN s (a + 1) j) \/ (b0 = true /\ ¬ a + 1 + j <= s.length)):=by
   rcases hW with ⟨_,hle,rfl,rfl⟩ | ⟨hbad,rfl,rfl⟩
   ·have:=zbC s (a + 1) j (by omega)
    have h256:(256:Int) ^ j <= 65536:=by rcases hj2 with rfl | rfl <;> decide
    exact ⟨(gwN s (a + 1) j).toNat,_,_,by rw [Int.toNat_of_nonneg this.1],rfl,by omega,by omega,.inl ⟨rfl,rfl,by omega⟩⟩
   ·exact ⟨0,_,_,rfl,rfl,by omega,by omega,.inr ⟨rfl,hbad.resolve_left (fun h => by cases h)⟩⟩
  have two:∀ {n:Nat} {l t0:L8},n < 256 ^ j -> t0 = be j n ++ l -> At s (a + 1) t0 -> b0 = false /\ n = m /\ At s (a + 1 + j) l /\ t0.length = j + l.length:=by
   rintro n l t0 hl rfl hA;have h1:=hA.app.1;have h2:=hA.app.2;have h3:=h1.len (by omega);rw [zag] at h2 h3;have h256:256 ^ j <= 65536:=by rcases hj2 with rfl | rfl <;> decide
   have h4:=h1.gw_id hl (by omega)
   rcases hb0 with ⟨e1,e2,e3⟩ | ⟨_,e2⟩
   ·exact ⟨e1,by omega,h2,by rw [length_append,zag]⟩
   ·exact absurd h3 e2
  refine po_g rfl (FnG.lift1 (p:=0) (zid s (a3) (m) (cnt + 1) b0 (by omega) (by omega) hs n3 l3) (args:=[.d (pI ((m:Nat):Int))]) ⟨trivial,trivial⟩ (zbd _ _ _ _) rfl) ?_;rintro x _ n3 l3 ⟨c',rfl,hTX⟩
  obtain ⟨rfl,rfl,tx,a',bad',rfl,rfl,hGU⟩:=zeS (bb:=bb) (kind:=6) (k:=m) (a2:=a + 1 + j) (a3:=a3) (c:=j) (b0:=b0) hs HC hleft hl1 (by unfold i64ok; omega) (by omega) hTX (fun h => ⟨(by rcases hb0 with ⟨_,e2,_⟩ | ⟨e1,_⟩; exact e2; rw [h] at e1; cases e1),rfl⟩) (fun v t0 h1 hM hA => by
   have hbb:bb = 195 + j:=by omega
   rcases hj2 with rfl | rfl
   ·cases hM with
    | bytes1 tx h =>
     obtain ⟨e1,e2,e3,e4⟩:=two (n:=tx.length) (l:=tx) (by have:(256:Nat) ^ 1 = 256:=rfl; omega) rfl hA
     exact ⟨e1,tx,rfl,e2,e3,e4⟩
    | _ => exfalso; omega
   ·cases hM with
    | bytes2 tx h =>
     obtain ⟨e1,e2,e3,e4⟩:=two (n:=tx.length) (l:=tx) (by have:(256:Nat) ^ 2 = 65536:=rfl; omega) rfl hA
     exact ⟨e1,tx,rfl,e2,e3,e4⟩
    | _ => exfalso; omega)
  refine mS ?_;refine zar (p:=1) (cs:=fV 6 0 0 tx) rfl rfl rfl rfl rfl rfl ?_;refine zaa ?_;exact zae ⟨.inr rfl,[.ag (fV 6 0 0 tx)],rfl,zbi hGU⟩
 refine mO ?_;by_cases q199:(bb:Int) = 199
 ·refine zah rfl rfl (decide_eq_true q199) ?_
  refine mT ?_;refine mQ ?_;refine mS ?_
  obtain rfl:bb = 199:=by omega
  refine po_g rfl (FnG.lift1 (p:=0) (extU_g hs (by omega) hV (a + 1) (cnt + 1) false nt live hal (by omega) hnt) (args:=[.d (pI d)]) ⟨trivial,trivial⟩ (zbd _ _ _ _) rfl) ?_;rintro x _ n3 l3 ⟨c',rfl,a',cnt',bad',rfl,hGX⟩;have hGU:=gotU_ext HC hleft hGX;obtain ⟨cs,rfl,hc5,_⟩:=hGX;refine zar (p:=1) (cs:=cs) rfl rfl rfl hc5 rfl rfl ?_;refine zaa ?_;exact zae ⟨.inr rfl,[.ag cs],ress_1 rfl rfl hc5,zbi hGU⟩
 refine zal rfl rfl (decide_eq_false q199) ?_;refine mF ?_;refine zan (fun st => has st.tm [(0,.ref 0 0),(1,.d (pI d)),(4,.ref 1 0),(5,.d (pI bb)),(96,.d (pI bb)),(121,.d (pB (decide ((bb:Int) = 217 \/ (bb:Int) = 218))))] /\ st.bx = [uC s (a + 1) (cnt + 1) false,fV 0 0 0 []] /\ st.nt = nt /\ st.live = live) ?_ ?_
 ·refine mO ?_
  by_cases q:(bb:Int) = 217
  ·refine zah rfl rfl (decide_eq_true q) ?_
   refine mT ?_;refine zai ?_;exact ⟨⟨rfl,rfl,rfl,rfl,rfl,by rw [decide_eq_true (show (bb:Int) = 217 \/ (bb:Int) = 218 from .inl q)]; rfl,trivial⟩,rfl,rfl,rfl⟩
  ·refine zal rfl rfl (decide_eq_false q) ?_
   refine mF ?_;refine zaf ?_;refine po_b rfl rfl (fun b2 hb2 => ?_);refine mN ?_
   have:decide ((bb:Int) = 217 \/ (bb:Int) = 218) = b2:=by rw [hb2]; exact decide_eq_decide.2 ⟨fun h => h.resolve_left q,.inr⟩
   exact ⟨⟨rfl,rfl,rfl,rfl,rfl,by rw [this]; rfl,trivial⟩,rfl,rfl,rfl⟩
 rintro tm bx n2 l2 ⟨ht,hbx,hn,hlv⟩;obtain ⟨tm3,rfl⟩:=zac ht;simp only at hbx hn hlv; subst hbx; subst n2; subst l2
 clear ht;refine zbB (p:=(bb:Int) = 217 \/ (bb:Int) = 218) rfl (fun q217 => ?_) (fun q217 => ?_)
 ·refine mQ ?_
  refine mS ?_;refine mS ?_;obtain ⟨j,hj,hj2⟩:∃ j:Nat,(bb:Int) - 216 = j /\ (j = 1 \/ j = 2):=⟨bb - 216,by omega,by omega⟩;refine zaK (n:=(j:Int)) rfl rfl rfl hj (by omega) ?_;refine po_g rfl (FnG.lift1 (p:=0) (zbv s (a + 1) j (cnt + 1) false (by omega) hal hs nt live) (args:=[.d (pI (j:Int))]) ⟨trivial,trivial⟩ (zbd _ _ _ _) rfl) ?_;rintro x _ n3 l3 ⟨c',rfl,rfl,rfl,hW⟩
  obtain ⟨m,a3,b0,rfl,rfl,hm,ha3,hb0⟩:∃ (m a3:Nat) (b0:Bool),x = .d (pI (m:Int)) /\ c' = uC s a3 (cnt + 1) b0 /\ m <= 65536 /\ (a + 1 <= a3 /\ a3 <= a + 1 + j /\ a3 <= s.length) /\ ((b0 = false /\ a3 = a + 1 + j /\ (m:Int) = gwN s (a + 1) j) \/ (b0 = true /\ ¬ a + 1 + j <= s.length)):=by
   rcases hW with ⟨_,hle,rfl,rfl⟩ | ⟨hbad,rfl,rfl⟩
   ·have:=zbC s (a + 1) j (by omega)
    have h256:(256:Int) ^ j <= 65536:=by rcases hj2 with rfl | rfl <;> decide
    exact ⟨(gwN s (a + 1) j).toNat,_,_,by rw [Int.toNat_of_nonneg this.1],rfl,by omega,by omega,.inl ⟨rfl,rfl,by omega⟩⟩
   ·exact ⟨0,_,_,rfl,rfl,by omega,by omega,.inr ⟨rfl,hbad.resolve_left (fun h => by cases h)⟩⟩
  have two:∀ {n:Nat} {l t0:L8},n < 256 ^ j -> t0 = be j n ++ l -> At s (a + 1) t0 -> b0 = false /\ n = m /\ At s (a + 1 + j) l /\ t0.length = j + l.length:=by
   rintro n l t0 hl rfl hA;have h1:=hA.app.1;have h2:=hA.app.2;have h3:=h1.len (by omega);rw [zag] at h2 h3;have h256:256 ^ j <= 65536:=by rcases hj2 with rfl | rfl <;> decide
   have h4:=h1.gw_id hl (by omega)
   rcases hb0 with ⟨e1,e2,e3⟩ | ⟨_,e2⟩
   ·exact ⟨e1,by omega,h2,by rw [length_append,zag]⟩
   ·exact absurd h3 e2
  refine po_g rfl (FnG.lift1 (p:=0) (zid s (a3) (m) (cnt + 1) b0 (by omega) (by omega) hs n3 l3) (args:=[.d (pI ((m:Nat):Int))]) ⟨trivial,trivial⟩ (zbd _ _ _ _) rfl) ?_;rintro x _ n3 l3 ⟨c',rfl,hTX⟩
  obtain ⟨rfl,rfl,tx,a',bad',rfl,rfl,hGU⟩:=zeS (bb:=bb) (kind:=5) (k:=m) (a2:=a + 1 + j) (a3:=a3) (c:=j) (b0:=b0) hs HC hleft hl1 (by unfold i64ok; omega) (by omega) hTX (fun h => ⟨(by rcases hb0 with ⟨_,e2,_⟩ | ⟨e1,_⟩; exact e2; rw [h] at e1; cases e1),rfl⟩) (fun v t0 h1 hM hA => by
   have hbb:bb = 216 + j:=by omega
   rcases hj2 with rfl | rfl
   ·cases hM with
    | text1 tx h =>
     obtain ⟨e1,e2,e3,e4⟩:=two (n:=tx.length) (l:=tx) (by have:(256:Nat) ^ 1 = 256:=rfl; omega) rfl hA
     exact ⟨e1,tx,rfl,e2,e3,e4⟩
    | _ => exfalso; omega
   ·cases hM with
    | text2 tx h =>
     obtain ⟨e1,e2,e3,e4⟩:=two (n:=tx.length) (l:=tx) (by have:(256:Nat) ^ 2 = 65536:=rfl; omega) rfl hA
     exact ⟨e1,tx,rfl,e2,e3,e4⟩
    | _ => exfalso; omega)
  refine mS ?_;refine zar (p:=1) (cs:=fV 5 0 0 tx) rfl rfl rfl rfl rfl rfl ?_;refine zaa ?_;exact zae ⟨.inr rfl,[.ag (fV 5 0 0 tx)],rfl,zbi hGU⟩
 refine mO ?_;by_cases q220:(bb:Int) = 220
 ·refine zah rfl rfl (decide_eq_true q220) ?_
  refine mT ?_;refine mQ ?_;refine mS ?_;refine po_g rfl (FnG.lift1 (p:=0) (zbv s (a + 1) 2 (cnt + 1) false (by omega) hal hs nt live) (args:=[.d (pI ((2:Nat):Int))]) ⟨trivial,trivial⟩ (zbd _ _ _ _) rfl) ?_;rintro x _ n3 l3 ⟨c',rfl,rfl,rfl,hW⟩
  obtain ⟨m,a3,b0,rfl,rfl,hm,ha3,hb0⟩:∃ (m a3:Nat) (b0:Bool),x = .d (pI (m:Int)) /\ c' = uC s a3 (cnt + 1) b0 /\ m <= 65536 /\ (a + 1 <= a3 /\ a3 <= a + 1 + 2 /\ a3 <= s.length) /\ ((b0 = false /\ a3 = a + 1 + 2 /\ (m:Int) = gwN s (a + 1) 2) \/ (b0 = true /\ ¬ a + 1 + 2 <= s.length)):=by
   rcases hW with ⟨_,hle,rfl,rfl⟩ | ⟨hbad,rfl,rfl⟩
   ·have:=zbC s (a + 1) 2 (by omega)
    have h256:(256:Int) ^ 2 = 65536:=rfl;exact ⟨(gwN s (a + 1) 2).toNat,_,_,by rw [Int.toNat_of_nonneg this.1],rfl,by omega,by omega,.inl ⟨rfl,rfl,by omega⟩⟩
   ·exact ⟨0,_,_,rfl,rfl,by omega,by omega,.inr ⟨rfl,hbad.resolve_left (fun h => by cases h)⟩⟩
  have two:∀ {n:Nat} {l t0:L8},n < 65536 -> t0 = be 2 n ++ l -> At s (a + 1) t0 -> b0 = false /\ n = m /\ At s (a + 1 + 2) l /\ t0.length = 2 + l.length:=by
   rintro n l t0 hl rfl hA;have h1:=hA.app.1;have h2:=hA.app.2;have h3:=h1.len (by omega);rw [zag] at h2 h3;have h4:=h1.gw_id (by have:(256:Nat) ^ 2 = 65536:=rfl; omega) (by omega)
   rcases hb0 with ⟨e1,e2,e3⟩ | ⟨_,e2⟩
   ·exact ⟨e1,by omega,h2,by rw [length_append,zag]⟩
   ·exact absurd h3 e2
  refine mS ?_;refine zam (n:=d + 1) rfl rfl rfl rfl (by omega) ?_;refine po_g rfl (FnG.lift1 (p:=0) (many_g hs hV ((m:Int)) (by omega) (a3) (cnt + 1) b0 n3 l3 (by omega) (by omega) hnt) (args:=[.d (pI ((m:Int))),.d (pI (d + 1))]) ⟨trivial,trivial,trivial⟩ (zbd _ _ _ _) rfl) ?_;rintro x _ n4 l4 ⟨c',rfl,a',cnt',bad',rfl,hGM⟩
  obtain ⟨tk,rows,rfl,hGU⟩:=zdy (bb:=bb) (kind:=7) (many:=(m:Int)) (a2:=a + 1 + 2) (a3:=a3) (c:=2) (b0:=b0) hs HC hleft (by unfold i64ok; omega) (by omega) hGM (fun h => ⟨(by rcases hb0 with ⟨_,e2,_⟩ | ⟨e1,_⟩; exact e2; rw [h] at e1; cases e1),rfl⟩) (fun v t0 h1 hM hA => by
   cases hM with
   | list2 ks h =>
    obtain ⟨e1,e2,e3,e4⟩:=two (n:=ks.length) (l:=msgs ks) (by omega) rfl hA
    exact ⟨e1,ks,rfl,by omega,e3,e4⟩
   | _ => exfalso; omega)
  refine mS ?_;refine zar (p:=1) (cs:=[pI 7,pI 0,pI 0,pS [],.sl tk rows]) rfl rfl rfl rfl rfl rfl ?_;refine zaa ?_;exact zae ⟨.inr rfl,[.ag [pI 7,pI 0,pI 0,pS [],.sl tk rows]],rfl,zbi hGU⟩
 refine zal rfl rfl (decide_eq_false q220) ?_;refine mF ?_;refine mO ?_;by_cases q222:(bb:Int) = 222
 ·refine zah rfl rfl (decide_eq_true q222) ?_
  refine mT ?_;refine mQ ?_;refine mS ?_;refine po_g rfl (FnG.lift1 (p:=0) (zbv s (a + 1) 2 (cnt + 1) false (by omega) hal hs nt live) (args:=[.d (pI ((2:Nat):Int))]) ⟨trivial,trivial⟩ (zbd _ _ _ _) rfl) ?_;rintro x _ n3 l3 ⟨c',rfl,rfl,rfl,hW⟩
  obtain ⟨m,a3,b0,rfl,rfl,hm,ha3,hb0⟩:∃ (m a3:Nat) (b0:Bool),x = .d (pI (m:Int)) /\ c' = uC s a3 (cnt + 1) b0 /\ m <= 65536 /\ (a + 1 <= a3 /\ a3 <= a + 1 + 2 /\ a3 <= s.length) /\ ((b0 = false /\ a3 = a + 1 + 2 /\ (m:Int) = gwN s (a + 1) 2) \/ (b0 = true /\ ¬ a + 1 + 2 <= s.length)):=by
   rcases hW with ⟨_,hle,rfl,rfl⟩ | ⟨hbad,rfl,rfl⟩
   ·have:=zbC s (a + 1) 2 (by omega)
    have h256:(256:Int) ^ 2 = 65536:=rfl;exact ⟨(gwN s (a + 1) 2).toNat,_,_,by rw [Int.toNat_of_nonneg this.1],rfl,by omega,by omega,.inl ⟨rfl,rfl,by omega⟩⟩
   ·exact ⟨0,_,_,rfl,rfl,by omega,by omega,.inr ⟨rfl,hbad.resolve_left (fun h => by cases h)⟩⟩
  have two:∀ {n:Nat} {l t0:L8},n < 65536 -> t0 = be 2 n ++ l -> At s (a + 1) t0 -> b0 = false /\ n = m /\ At s (a + 1 + 2) l /\ t0.length = 2 + l.length:=by
   rintro n l t0 hl rfl hA;have h1:=hA.app.1;have h2:=hA.app.2;have h3:=h1.len (by omega);rw [zag] at h2 h3;have h4:=h1.gw_id (by have:(256:Nat) ^ 2 = 65536:=rfl; omega) (by omega)
   rcases hb0 with ⟨e1,e2,e3⟩ | ⟨_,e2⟩
   ·exact ⟨e1,by omega,h2,by rw [length_append,zag]⟩
   ·exact absurd h3 e2
  refine zcc (n:=2 * (m:Int)) rfl rfl rfl rfl (by omega) ?_;refine mS ?_;refine zam (n:=d + 1) rfl rfl rfl rfl (by omega) ?_;refine po_g rfl (FnG.lift1 (p:=0) (many_g hs hV (2 * (m:Int)) (by omega) (a3) (cnt + 1) b0 n3 l3 (by omega) (by omega) hnt) (args:=[.d (pI (2 * (m:Int))),.d (pI (d + 1))]) ⟨trivial,trivial,trivial⟩ (zbd _ _ _ _) rfl) ?_;rintro x _ n4 l4 ⟨c',rfl,a',cnt',bad',rfl,hGM⟩
  obtain ⟨tk,rows,rfl,hGU⟩:=zdy (bb:=bb) (kind:=8) (many:=2 * (m:Int)) (a2:=a + 1 + 2) (a3:=a3) (c:=2) (b0:=b0) hs HC hleft (by unfold i64ok; omega) (by omega) hGM (fun h => ⟨(by rcases hb0 with ⟨_,e2,_⟩ | ⟨e1,_⟩; exact e2; rw [h] at e1; cases e1),rfl⟩) (fun v t0 h1 hM hA => by
   cases hM with
   | map2 n h ks hl =>
    obtain ⟨e1,e2,e3,e4⟩:=two (n:=n) (l:=msgs ks) (by omega) rfl hA
    exact ⟨e1,ks,rfl,by omega,e3,e4⟩
   | _ => exfalso; omega)
  refine mS ?_;refine zar (p:=1) (cs:=[pI 8,pI 0,pI 0,pS [],.sl tk rows]) rfl rfl rfl rfl rfl rfl ?_;refine zaa ?_;exact zae ⟨.inr rfl,[.ag [pI 8,pI 0,pI 0,pS [],.sl tk rows]],rfl,zbi hGU⟩
 refine zal rfl rfl (decide_eq_false q222) ?_;refine mK ?_;refine mO ?_;(iterate 3 refine mS ?_);refine zaw (p:=0) (o':=3) (cs:=[pB true]) (z:=uC s (a + 1) (cnt + 1) false) rfl rfl rfl ⟨rfl,Nat.le_of_ble_eq_true rfl⟩ rfl ?_;refine zaa ?_;refine mQ ?_;refine zar (p:=1) (cs:=fV 0 0 0 []) rfl rfl rfl rfl rfl rfl ?_;refine zaa ?_;refine zae ⟨.inr rfl,[.ag (fV 0 0 0 [])],rfl,zbi (a':=a + 1) (cnt':=cnt + 1) (bad':=true) (zeR HC hleft rfl (zbe _ _ _ _ _ _) (fun t ht => by rw [zbK] at ht; cases ht) lR live0 ⟨by omega,hal,by omega⟩ fun v t0 h1 hM hA => ?_)⟩
 cases hM <;> (exfalso; omega)
theorem valU_all {s:L8} (hs:s.length <= 2147483647):∀ n:Nat,n <= 13 -> ValU T hT s ((13 - n:Nat):Int)
 | 0,_ => val_g hs (by omega) fun h => by omega
 | n + 1,h => by
  refine val_g hs (by omega) fun _ => ?_
  rw [show ((13 - (n + 1):Nat):Int) + 1 = ((13 - n:Nat):Int) by omega];exact valU_all hs n (by omega)
theorem getMsgI_g (hTab:∀ w,T w -> Tabs w) {s:L8} (hs:s.length <= 2147483647) (i:Int) (nt:Nat) (live:List Nat) (hnt:2 <= nt) :
  FnG (env T hT) 23 [.d (pS s),.d (pI i)] [] nt live (fun x _ n l => x.lw 0 /\ GmR s i nt live x n l):=by
 have hput:=fun v hw hb => putMsgI_fn (T:=T) (hT:=hT) hTab v hw hb
 refine zaG (zaj zic) (by show 2 <= 42; decide) fun B hB => ?_
 unfold m_i_GetMsg;refine mP ?_;refine mM ?_;(iterate 2 refine mS ?_);refine po_q (v:=.d (pI s.length)) rfl rfl ?_;refine zad rfl (zcG i 0 s.length) ?_
 have hfl:∀ (n2:Nat) (l2:List Nat),nt <= n2 -> (∀ t ∈ live,2 <= t -> t < nt -> t ∈ l2) -> (∀ v:V,v.wf -> v.ok = true -> 0 <= i -> ¬ At s i.toNat (msg v)) -> GmR s i nt live (.tup [.ag (fV 0 0 0 []),.d (pI (-1))]) n2 l2:=fun n2 l2 h1 h2 h3 =>
  ⟨_,_,rfl,rfl,zbe _ _ _ _ _ _,(fun t ht => by rw [zbK] at ht; cases ht),h2,h1,.inl ⟨rfl,rfl,h3⟩⟩
 by_cases hc:0 <= i /\ i <= s.length
 case neg =>
  rw [decide_eq_false hc];refine mT ?_;refine mQ ?_;refine zar (p:=0) (cs:=fV 0 0 0 []) rfl rfl rfl rfl rfl rfl ?_;refine mN ?_;refine zae ⟨.inr rfl,[.ag (fV 0 0 0 []),.d (pI (-1))],rfl,zbE (zbe _ _ _ _ 0 0) _,hfl _ _ lR (fun t ht _ _ => ht) fun v h1 h2 h3 h4 => ?_⟩
  have:=zib h1 h2
  obtain ⟨r,hr⟩:=h4;rw [drop_of_length_le (by omega)] at hr
  have:=congrArg length hr
  simp only [length_nil,length_append] at this; omega
 case pos =>
 rw [decide_eq_true hc];refine mF ?_;obtain ⟨k,rfl⟩:=Int.eq_ofNat_of_zero_le hc.1;have hk:k <= s.length:=by omega
 refine zai ?_;refine mP ?_;refine mQ ?_;refine po_g rfl (FnG.lift1 (p:=1) (by have:=valU_all (T:=T) (hT:=hT) hs 13 (by omega) k 0 false nt live hk (by omega) hnt; exact this) (args:=[.d (pI 0)]) ⟨trivial,trivial⟩ (zbd s k 0 false) rfl) ?_;rintro x _ n2 l2 ⟨c',rfl,a',cnt',bad',rfl,cs,rfl,hc5,hnew,hctk,hlv,hn2,⟨ha1,ha2,_⟩,_,hres,hcomp⟩
 have hcomp:∀ v:V,v.wf -> v.ok = true -> At s k (msg v) -> bad' = false /\ a' = k + (msg v).length /\ erL cs = vC v:=fun v h1 h2 h3 => by
  obtain ⟨q1,q2,q3,_⟩:=hcomp rfl v h1 (zeM h2) (by have:=ok_nodes h2; omega) h3;exact ⟨q1,q2,q3⟩
 refine zbI (cs:=cs) rfl hc5 rfl rfl ?_;refine zaa ?_;refine zak ?_
 obtain ⟨f,hf⟩:∃ f:Bool,f = true ↔ ¬ ∃ v:V,v.wf /\ v.ok = true /\ At s k (msg v):=by
  by_cases h:∃ v:V,v.wf /\ v.ok = true /\ At s k (msg v)
  ·exact ⟨false,by simp only [h,not_true]; decide⟩
  ·exact ⟨true,by simp only [h,not_false_iff]⟩
 refine zan (fun st => has st.tm [(4,.ref 0 0),(6,.ref 1 0),(7,.ref 2 0),(35,.d (pB f))] /\ st.bx = [fV 0 0 0 [],uC s a' cnt' bad',cs] /\ st.nt = n2 /\ st.live = l2) ?_ ?_
 ·refine zaf ?_
  (iterate 5 refine mS ?_)
  cases bad' with
  | true =>
   refine mZ ?_;refine mN ?_
   have:f = true:=hf.2 (by
    rintro ⟨v,h1,h2,h3⟩
    have:=(hcomp v h1 h2 h3).1
    cases this)
   exact ⟨⟨rfl,rfl,rfl,by rw [this]; rfl,trivial⟩,rfl,rfl,rfl⟩
  | false =>
   obtain ⟨_,u,he,huw,hka,hub⟩:=hres rfl;clear hres;refine zaE (p:=2) (cs:=cs) rfl rfl rfl hc5 ?_;(iterate 6 refine mS ?_);refine zbU (a:=k) (b:=a') (rs:=(s.drop k).take (a' - k)) rfl rfl (zaD rfl rfl) (zaD rfl rfl) (by omega) rfl ?_;refine zaC (b:=true) (args:=[.ag (vC u)]) rfl (fun _ => zgu he) (fun _ => hput u huw (by omega)) ?_;refine po_ne (la:=msgTop u) (lb:=(s.drop k).take (a' - k)) rfl rfl rfl ?_;refine mN ?_;refine ⟨⟨rfl,rfl,rfl,?_,trivial⟩,rfl,rfl,rfl⟩
   have hiff:(msgTop u ≠ (s.drop k).take (a' - k)) ↔ ¬ ∃ v:V,v.wf /\ v.ok = true /\ At s k (msg v):=by
    constructor
    ·rintro hne ⟨v,h1,h2,h3⟩
     obtain ⟨_,q1,q2⟩:=hcomp v h1 h2 h3;have huv:u = v:=zfc (he.symm.trans q2);subst huv
     apply hne
     unfold msgTop;rw [if_pos h2,show a' - k = (msg u).length by omega,h3.take]
    ·intro hno heq
     apply hno
     by_cases hok:u.ok = true
     ·refine ⟨u,huw,hok,?_⟩
      unfold msgTop at heq;rw [if_pos hok] at heq;exact zfd heq
     ·exfalso
      unfold msgTop at heq;rw [if_neg hok] at heq
      have:=congrArg length heq
      rw [length_take,length_drop,length_nil] at this;omega
   have:decide (msgTop u ≠ (s.drop k).take (a' - k)) = f:=by rw [Bool.eq_iff_iff,decide_eq_true_iff,hiff,hf]
   rw [<- this]; rfl
 rintro tm bx n3 l3 ⟨ht,rfl,hn3,hl3⟩;obtain ⟨tm1,rfl⟩:=zac ht;simp only at hn3 hl3; subst n3; subst l3
 clear ht;refine zaU (t:=f) rfl (fun hno => ?_) (fun hyes => ?_)
 ·have hno:=hf.1 hno
  refine mQ ?_;refine zar (p:=0) (cs:=fV 0 0 0 []) rfl rfl rfl rfl rfl rfl ?_;refine mN ?_;exact zae ⟨.inr rfl,[.ag (fV 0 0 0 []),.d (pI (-1))],rfl,zbE (zbe _ _ _ _ 0 0) _,hfl _ _ hn2 hlv fun v h1 h2 h3 h4 => hno ⟨v,h1,h2,h4⟩⟩
 ·obtain ⟨v,h1,h2,h3⟩:∃ v:V,v.wf /\ v.ok = true /\ At s k (msg v):=Classical.byContradiction fun h => by rw [hf.2 h] at hyes; cases hyes
  obtain ⟨q0,q1,q2⟩:=hcomp v h1 h2 h3;refine zai ?_;refine mO ?_;refine zaE (p:=2) (cs:=cs) rfl rfl rfl hc5 ?_;(iterate 4 refine mS ?_);refine zar (p:=0) (cs:=cs) rfl rfl rfl hc5 rfl rfl ?_;refine mN ?_;refine zae ⟨.inr rfl,[.ag cs,.d (pI a')],zbn rfl rfl hc5 rfl,zbE hnew _,cs,a',rfl,hc5,hnew,hctk,hlv,hn2,.inr ⟨k,v,rfl,h1,h2,h3,by rw [q1],h3.len (by omega),q2,fun v' r1 r2 r3 => zfc ((hcomp v' r1 r2 r3).2.2.symm.trans q2)⟩⟩
theorem zdK {s:L8} {p nt n:Nat} {bad:Bool} {live l:List Nat} {x:PV} {c':List PC} (hp:p <= s.length) (h:HeadR s p bad nt live x c' n l):n = nt /\ l = live /\ ∃ (mm:Int) (n1 p1:Nat) (bad1:Bool),c' = deC s p1 bad1 /\ x = .tup [.d (pI mm),.d (.v (.int .u64 (n1:Nat)))] /\ n1 < 18446744073709551616 /\ p <= p1 /\ p1 <= s.length /\
  ((bad1 = true /\ (bad = true \/ getHd s p = none) /\ p1 = p) \/ (bad1 = false /\ bad = false /\ p < p1 /\ ∃ m,getHd s p = some (m,n1,p1))):=by
 obtain ⟨rfl,rfl,⟨h1,h2,h3⟩ | ⟨m,k,y,h1,h2,h3,h4⟩⟩:=h
 ·exact ⟨rfl,rfl,-1,0,p,true,h2,h3,by decide,lR,hp,.inl ⟨rfl,h1,rfl⟩⟩
 ·obtain ⟨g1,g2,g3,g4,g5,g6⟩:=zce h2
  exact ⟨rfl,rfl,m,k,y,false,h3,h4,g5,by omega,g3,.inr ⟨rfl,h1,g2,m,h2⟩⟩
theorem zie {s:L8} {p k nt n:Nat} {bad:Bool} {live l:List Nat} {x:PV} {c':List PC} (hp:p <= s.length) (h:BytesR s p k bad nt live x c' n l):n = nt /\ l = live /\ ∃ (p1:Nat) (bad1:Bool) (name:L8),c' = deC s p1 bad1 /\ x = .d (pS name) /\ name.length <= s.length /\ p <= p1 /\ p1 <= s.length /\
  ((bad1 = true /\ (bad = true \/ ¬ p + k <= s.length) /\ p1 = p) \/ (bad1 = false /\ bad = false /\ p1 = p + k /\ p + k <= s.length /\ name = (s.drop p).take k)):=by
 obtain ⟨rfl,rfl,⟨h1,h2,h3,h4⟩ | ⟨h1,h2,h3⟩⟩:=h
 ·exact ⟨rfl,rfl,p + k,false,_,h3,h4,by rw [length_take,length_drop]; omega,by omega,h2,.inr ⟨rfl,h1,rfl,h2,rfl⟩⟩
 ·exact ⟨rfl,rfl,p,true,[],h2,h3,Nat.zero_le _,lR,hp,.inl ⟨rfl,h1,rfl⟩⟩
def NmP (s:L8) (nt:Nat) (live:List Nat) (nt1:Nat) (l1:List Nat) (n p tk:Nat) (bad:Bool) (ns:List (L8)):Prop :=
 (tk = 1 /\ pSr ns = [] \/ 2 <= tk) /\ OwnL nt1 l1 ([] ++ .sl tk (pSr ns) :: [.sl 1 []]) /\ (∀ t ∈ toksL ([] ++ .sl tk (pSr ns) :: [.sl 1 []]),nt <= t) /\ nt <= nt1 /\ (∀ t ∈ live,2 <= t -> t < nt -> t ∈ l1) /\
 p <= s.length /\ ns.length <= p + (if bad then 1 else 0) /\ (∀ x ∈ ns,x.length <= s.length) /\ n < 18446744073709551616 /\
 ∀ (ns':List (L8)) (vs':List V),Good s ns' vs' -> bad = false /\ ns = ns'.take ns.length /\ n + ns.length = ns'.length /\ p = (hd 4 ns'.length).length + (nmsT ns).length
def GnI (s:L8) (nt:Nat) (live:List Nat) (m:Nat) (st:St):Prop:=∃ (n p tk:Nat) (bad:Bool) (ns:List (L8)),has st.tm [(0,.d (pS s)),(2,.ref 0 0),(4,.ref 1 0),(5,.ref 2 0),(7,.d (.v (.int .u64 (n:Nat))))] /\
 st.bx = [d0,[.sl tk (pSr ns),.sl 1 []],deC s p bad] /\ NmP s nt live st.nt st.live n p tk bad ns /\ m = (if bad then 0 else s.length + 1 - p)
theorem nmP_start {s:L8} {nt:Nat} {live:List Nat} {n1 p1:Nat} {bad1:Bool} (hn:n1 < 18446744073709551616) (hp1:p1 <= s.length) (h:(bad1 = true /\ (false = true \/ getHd s 0 = none) /\ p1 = 0) \/ (bad1 = false /\ false = false /\ 0 < p1 /\ ∃ m,getHd s 0 = some (m,n1,p1))) :
  NmP s nt live nt live n1 p1 1 bad1 []:=by
 refine ⟨.inl ⟨rfl,rfl⟩,⟨rfl,nodup_nil,fun t ht => by cases ht⟩,(fun t ht => by cases ht),lR,fun t ht _ _ => ht,hp1,Nat.zero_le _,(fun x hx => by cases hx),hn,fun ns' vs' hg => ?_⟩;obtain ⟨g1,g2,g3,g4,g5,g6,g7,g8⟩:=hg.at;have hh:=zdj (by decide) (by omega) (Nat.zero_le _) g1
 rcases h with ⟨_,h2,_⟩ | ⟨h1,_,_,m,h2⟩
 ·rcases h2 with h2 | h2
  ·cases h2
  ·rw [hh] at h2; cases h2
 ·rw [hh] at h2
  simp only [sI,Prod.mk.injEq] at h2;refine ⟨h1,by simp,?_,?_⟩
  ·simp only [length_nil]; omega
  ·simp only [nmsT,length_nil]; omega
theorem nmP_step {s:L8} {nt nt1 n p tk n1 p1 p2:Nat} {live l1:List Nat} {bad1 bad2:Bool} {ns:List (L8)} {name:L8} (hP:NmP s nt live nt1 l1 n p tk false ns) (hn0:0 < n) (h22:2 <= nt1)
  (hH:(bad1 = true /\ (false = true \/ getHd s p = none) /\ p1 = p) \/ (bad1 = false /\ false = false /\ p < p1 /\ ∃ m,getHd s p = some (m,n1,p1)))
  (hp12:p1 <= p2) (hp2:p2 <= s.length) (hnl:name.length <= s.length) (hB:(bad2 = true /\ (bad1 = true \/ ¬ p1 + n1 <= s.length) /\ p2 = p1) \/ (bad2 = false /\ bad1 = false /\ p2 = p1 + n1 /\ p1 + n1 <= s.length /\ name = (s.drop p1).take n1)) :
  NmP s nt live (nt1 + 1) (nt1 :: l1.filter (· != tk)) (n - 1) p2 nt1 bad2 (ns ++ [name]) /\ (if bad2 then 0 else s.length + 1 - p2) < s.length + 1 - p:=by
 obtain ⟨htk,hown,hge,hnt,hlv,hp,hlen,hnb,hn,hcp⟩:=hP;have hpp:p <= p1:=by rcases hH with ⟨_,_,rfl⟩ | ⟨_,_,h,_⟩ <;> omega
 have hpush:pSr (ns ++ [name]) = pSr ns ++ [[pS name]]:=by unfold pSr; rw [map_append]; rfl
 have hown2:OwnL (nt1 + 1) (nt1 :: l1.filter (· != tk)) ([] ++ .sl nt1 (pSr ns ++ [[pS name]]) :: [.sl 1 []]) /\ (∀ t ∈ toksL ([] ++ .sl nt1 (pSr ns ++ [[pS name]]) :: [.sl 1 []]),nt <= t):=by
  have e:toksL ([] ++ .sl nt1 (pSr ns ++ [[pS name]]) :: [.sl 1 []]) = [nt1]:=by
   show PC.toks (.sl nt1 (pSr ns ++ [[pS name]])) ++ [] = _;rw [zaF h22,<- hpush,pSr_tok]; rfl
  refine ⟨⟨?_,by rw [e]; simp,fun t ht => ?_⟩,fun t ht => ?_⟩
  ·show (PC.owned (.sl nt1 (pSr ns ++ [[pS name]])) && true) = true
   rw [zbl h22,<- hpush,pSr_own]; rfl
  ·rw [e] at ht; simp at ht; subst ht; exact ⟨mem_cons_self ..,Nat.lt_succ_self _⟩
  ·rw [e] at ht; simp at ht; omega
 refine ⟨⟨.inr h22,?_,?_,by omega,?_,hp2,?_,?_,by omega,fun ns' vs' hg => ?_⟩,?_⟩
 ·rw [hpush]; exact hown2.1
 ·rw [hpush]; exact hown2.2
 ·intro t ht h2 hlt
  refine mem_cons_of_mem _ (mem_filter.2 ⟨hlv t ht h2 hlt,?_⟩)
  have:=tk_ge htk hge
  simp only [bne_iff_ne,ne_eq]; omega
 ·rw [length_append,length_singleton]
  rcases hB with ⟨rfl,_,rfl⟩ | ⟨rfl,h1,rfl,_,_⟩
  ·simp at hlen ⊢; omega
  ·rcases hH with ⟨h3,_,_⟩ | ⟨_,_,h3,_⟩
   ·rw [h1] at h3; cases h3
   ·simp at hlen ⊢; omega
 ·intro x hx
  rcases mem_append.1 hx with hx | hx
  ·exact hnb x hx
  ·simp only [mem_singleton] at hx; subst hx; exact hnl
 ·obtain ⟨_,e1,e2,e3⟩:=hcp ns' vs' hg
  obtain ⟨g1,g2,g3,g4,g5,g6,g7,g8⟩:=hg.at;have hku:ns.length < ns'.length:=by omega
  have hA:=nms_at g2 ns.length hku;rw [<- e1,<- e3] at hA;have hul:=g6 _ (getElem_mem hku);have hh:=zdj (by decide) (by omega) hp hA.app.1;have hA2:=hA.app.2;have hAl:=hA2.len (by have:=hA.app.1.len hp; exact this)
  rcases hH with ⟨_,h2,_⟩ | ⟨hb1,_,_,m,h2⟩
  ·rcases h2 with h2 | h2
   ·cases h2
   ·rw [hh] at h2; cases h2
  rw [hh] at h2;simp only [sI,Prod.mk.injEq] at h2;obtain ⟨_,h3,h4⟩:=h2
  rcases hB with ⟨_,h5,_⟩ | ⟨hb2,_,h5,h6,h7⟩
  ·rcases h5 with h5 | h5
   ·rw [hb1] at h5; cases h5
   ·omega
  have hT:=hA2.take;rw [h4,h3] at hT;refine ⟨hb2,?_,?_,?_⟩
  ·rw [length_append,length_singleton,take_succ_eq_append_getElem hku,<- e1,h7,hT]
  ·rw [length_append,length_singleton]; omega
  ·rw [zdi,length_append,h7,hT]
   simp only [nmsT,length_append,length_nil]; omega
 ·rcases hB with ⟨rfl,_,rfl⟩ | ⟨rfl,h1,rfl,_,_⟩
  ·simp; omega
  ·rcases hH with ⟨h3,_,_⟩ | ⟨_,_,h3,_⟩
   ·rw [h1] at h3; cases h3
   ·simp; omega
def TbP (s:L8) (nt:Nat) (live:List Nat) (nt1:Nat) (l1:List Nat) (n p tk t2:Nat) (bad:Bool) (ns:List (L8)) (rows:LP PC) (vs:List V):Prop :=
 (t2 = 1 /\ rows = [] \/ 2 <= t2) /\ OwnL nt1 l1 ([.sl tk (pSr ns)] ++ .sl t2 rows :: []) /\ (∀ t ∈ toksL ([.sl tk (pSr ns)] ++ .sl t2 rows :: []),nt <= t) /\ nt <= nt1 /\ (∀ t ∈ live,2 <= t -> t < nt -> t ∈ l1) /\
 p <= s.length /\ ns.length <= s.length + 1 /\ (∀ x ∈ ns,x.length <= s.length) /\ n < 18446744073709551616 /\ erLL rows = vK vs /\ vs.length <= p /\ (∀ v ∈ vs,v.wf /\ v.ok = true) /\
 ∀ (ns':List (L8)) (vs':List V),Good s ns' vs' -> bad = false /\ ns = ns' /\ vs = vs'.take vs.length /\ n + vs.length = vs'.length /\ p = (hd 4 ns'.length).length + (nmsT ns').length + (hd 4 vs'.length).length + (msgs vs).length
def GtI (s:L8) (nt:Nat) (live:List Nat) (m:Nat) (st:St):Prop:=∃ (n p tk t2:Nat) (bad:Bool) (ns:List (L8)) (rows:LP PC) (vs:List V) (rest:LP PC),has st.tm [(0,.d (pS s)),(2,.ref 0 0),(4,.ref 1 0),(5,.ref 2 0),(11,.d (.v (.int .u64 (n:Nat))))] /\
 st.bx = d0 :: [.sl tk (pSr ns),.sl t2 rows] :: deC s p bad :: rest /\ TbP s nt live st.nt st.live n p tk t2 bad ns rows vs /\ m = (if bad then 0 else s.length + 1 - p)
theorem tbP_start {s:L8} {nt nt1 n p tk n1 p1:Nat} {live l1:List Nat} {bad bad1:Bool} {ns:List (L8)} (hP:NmP s nt live nt1 l1 n p tk bad ns) (hend:n = 0 \/ bad = true) (hn1:n1 < 18446744073709551616) (hp1:p1 <= s.length)
  (hH:(bad1 = true /\ (bad = true \/ getHd s p = none) /\ p1 = p) \/ (bad1 = false /\ bad = false /\ p < p1 /\ ∃ m,getHd s p = some (m,n1,p1))) :
  TbP s nt live nt1 l1 n1 p1 tk 1 bad1 ns [] []:=by
 obtain ⟨htk,hown,hge,hnt,hlv,hp,hlen,hnb,hn,hcp⟩:=hP;refine ⟨.inl ⟨rfl,rfl⟩,hown,hge,hnt,hlv,hp1,?_,hnb,hn1,rfl,Nat.zero_le _,(fun v hv => by cases hv),fun ns' vs' hg => ?_⟩
 ·cases bad <;> simp at hlen <;> omega
 ·obtain ⟨e0,e1,e2,e3⟩:=hcp ns' vs' hg
  obtain ⟨g1,g2,g3,g4,g5,g6,g7,g8⟩:=hg.at;have hn0:n = 0:=hend.resolve_right (by rw [e0]; decide);have hns:ns = ns':=by rw [e1]; exact take_of_length_le (by omega)
  rw [hns] at e3;rw [<- e3] at g3;have hh:=zdj (by decide) (by omega) hp g3
  rcases hH with ⟨_,h2,_⟩ | ⟨hb1,_,_,m,h2⟩
  ·rcases h2 with h2 | h2
   ·rw [e0] at h2; cases h2
   ·rw [hh] at h2; cases h2
  rw [hh] at h2;simp only [sI,Prod.mk.injEq] at h2;obtain ⟨_,h3,h4⟩:=h2;exact ⟨hb1,hns,by simp,by simp only [length_nil]; omega,by simp only [msgs,length_nil]; omega⟩
theorem tbP_step {s:L8} {nt n1 n2 n p tk t2:Nat} {live l1 l2:List Nat} {ns:List (L8)} {rows:LP PC} {vs:List V} {cs:List PC} {v:V} (hP:TbP s nt live n1 l1 n p tk t2 false ns rows vs) (hn0:0 < n) (h22:2 <= n2) (hn2:n1 <= n2)
  (hnew:NewL n1 n2 cs) (hctk:∀ t ∈ toksL cs,t ∈ l2) (hlv2:∀ t ∈ l1,2 <= t -> t < n1 -> t ∈ l2) (hvw:v.wf) (hvo:v.ok = true) (hle:p + (msg v).length <= s.length) (he:erL cs = vC v) (huniq:∀ v':V,v'.wf -> v'.ok = true -> At s p (msg v') -> v' = v) :
  TbP s nt live (n2 + 2) ((n2 + 1) :: (n2 :: l2).filter (· != t2)) (n - 1) (p + (msg v).length) tk (n2 + 1) false ns (rows ++ [cs]) (vs ++ [v]) /\ s.length + 1 - (p + (msg v).length) < s.length + 1 - p:=by
 obtain ⟨ht2,hown,hge,hnt,hlv,hp,hlen,hnb,hn,hrows,hvl,hvb,hcp⟩:=hP;obtain ⟨o1,o2⟩:=zf5 (n2:=n2) (l2:=l2) hown ht2 hge hnt hn2 h22 hnew hctk hlv2;have hml:=zib hvw hvo;refine ⟨⟨.inr (by omega),o1,o2,by omega,zeO (tk_ge ht2 hge) hnt hlv hlv2,hle,hlen,hnb,by omega,?_,by rw [length_append,length_singleton]; omega,?_,fun ns' vs' hg => ?_⟩,by omega⟩
 ·rw [zbT,hrows,zcj,zcj,map_append]; simp only [erLL,he]; rfl
 ·intro u hu
  rcases mem_append.1 hu with hu | hu
  ·exact hvb u hu
  ·simp only [mem_singleton] at hu; subst hu; exact ⟨hvw,hvo⟩
 ·obtain ⟨_,e1,e2,e3,e4⟩:=hcp ns' vs' hg
  obtain ⟨g1,g2,g3,g4,g5,g6,g7,g8,_⟩:=hg.at;have hku:vs.length < vs'.length:=by omega
  have hA:=zf7 g4 vs.length hku;rw [<- e2,<- e4] at hA;have hu:=g8 _ (getElem_mem hku);have huv:=huniq _ hu.1 hu.2 hA;refine ⟨rfl,e1,?_,?_,?_⟩
  ·rw [length_append,length_singleton,take_succ_eq_append_getElem hku,<- e2,huv]
  ·rw [length_append,length_singleton]; omega
  ·rw [zcA,length_append]; simp only [msgs,append_nil]; omega
theorem tbP_bad {s:L8} {nt n1 n2 n p tk t2:Nat} {live l1 l2:List Nat} {ns:List (L8)} {rows:LP PC} {vs:List V} (hP:TbP s nt live n1 l1 n p tk t2 false ns rows vs) (hn0:0 < n) (hn2:n1 <= n2) (hlv2:∀ t ∈ l1,2 <= t -> t < n1 -> t ∈ l2)
  (hno:∀ v:V,v.wf -> v.ok = true -> ¬ At s p (msg v)):TbP s nt live n2 l2 n p tk t2 true ns rows vs:=by
 obtain ⟨ht2,hown,hge,hnt,hlv,hp,hlen,hnb,hn,hrows,hvl,hvb,hcp⟩:=hP;refine ⟨ht2,hown.mono2 hn2 hlv2,hge,by omega,fun t ht h2 hlt => hlv2 t (hlv t ht h2 hlt) h2 (by omega),hp,hlen,hnb,hn,hrows,hvl,hvb,fun ns' vs' hg => ?_⟩;obtain ⟨_,e1,e2,e3,e4⟩:=hcp ns' vs' hg;obtain ⟨g1,g2,g3,g4,g5,g6,g7,g8,_⟩:=hg.at;have hku:vs.length < vs'.length:=by omega
 have hA:=zf7 g4 vs.length hku;rw [<- e2,<- e4] at hA;have hu:=g8 _ (getElem_mem hku);exact absurd hA (hno _ hu.1 hu.2)
theorem dec1 {n:Nat} (h:0 < n) (hn:n < 18446744073709551616):IntKind.wrap .u64 ((n:Int) - 1) = ((n - 1:Nat):Int):=by rw [IntKind.wrap_u64]; omega
theorem zfh (hTab:∀ w,T w -> Tabs w) {s:L8} (hs:s.length <= 2147483647) (nt:Nat) (live:List Nat) (hnt:2 <= nt) :
  FnG (env T hT) 9 [.d (pS s)] [] nt live (fun x _ n' l => x.lw 0 /\ DictR s nt live x n' l):=by
 refine zaG (zaj zgZ) (by show 1 <= 108; decide) fun B hB => ?_
 unfold m_i_GetDict;refine mP ?_;refine mM ?_;refine mS ?_;refine po_q (v:=.d (pI s.length)) rfl rfl ?_;refine po_b rfl rfl (fun b60 hb60 => ?_);refine zaa ?_;refine zaZ (p:=(s.length:Int) > 60000) hb60 rfl (fun h60 _ => ?_) (fun h60 _ => ?_)
 ·refine mQ ?_
  refine zar (p:=0) (cs:=d0) rfl rfl rfl rfl rfl rfl ?_;refine mN ?_;refine zae ⟨.inr rfl,[.ag d0,.d (pB false)],rfl,zcM (fun ns' vs' h => ?_) (fun t ht _ _ => ht) lR⟩;obtain ⟨g1,g2,g3,g4,g5,g6,g7,g8,g9⟩:=h.at;omega
 refine zai ?_;refine mQ ?_;refine zbI (cs:=d0) rfl rfl rfl rfl ?_;refine zaa ?_;refine mO ?_;(iterate 2 refine mS ?_);refine zbf (cs:=deC s 0 false) rfl ?_;refine mN ?_;refine mQ ?_;refine po_g rfl (FnG.lift1 (p:=2) (zf8 s 0 false (Nat.zero_le _) hs nt live) trivial (zdX _ _ _) rfl) ?_;rintro x _ n1 l1 ⟨c',rfl,hR⟩;obtain ⟨rfl,rfl,mm,k1,p1,bad1,rfl,rfl,hk1,_,hp1,hH⟩:=zdK (Nat.zero_le _) hR;refine mN ?_;have hstart:=nmP_start (s:=s) (nt:=n1) (live:=l1) hk1 hp1 (hH.imp id fun h => ⟨h.1,h.2.1,h.2.2.1,h.2.2.2⟩);refine zan (fun st => ∃ (n p tk:Nat) (bad:Bool) (ns:List (L8)),has st.tm [(0,.d (pS s)),(2,.ref 0 0),(4,.ref 1 0),(5,.ref 2 0)] /\ st.bx = [d0,[.sl tk (pSr ns),.sl 1 []],deC s p bad] /\ NmP s n1 l1 st.nt st.live n p tk bad ns /\ (n = 0 \/ bad = true)) ?_ ?_
 ·refine zab ?_
  refine zas (GnI s n1 l1) _ ⟨k1,p1,1,bad1,[],⟨rfl,rfl,rfl,rfl,rfl,trivial⟩,rfl,hstart,rfl⟩ ?_;rintro m tm bx nt2 live2 ⟨n,p,tk,bad,ns,ht,hbx,hP,rfl⟩;obtain ⟨tm0,rfl⟩:=zac ht;simp only at hbx hP; subst hbx
  clear ht;have hn64:=hP.2.2.2.2.2.2.2.2.1;have hpl:=hP.2.2.2.2.2.1;have hlen:=hP.2.2.2.2.2.2.1;have hnt2:=hP.2.2.2.1;refine mM ?_;refine mS ?_;by_cases hn0:0 < n
  case neg =>
   refine zal rfl rfl (decide_eq_false (show ¬ ((n:Nat):Int) > 0 by omega)) ?_;refine mS ?_;refine mZ ?_;refine mF ?_;refine zat ?_;exact ⟨n,p,tk,bad,ns,⟨rfl,rfl,rfl,rfl,trivial⟩,rfl,hP,.inl (by omega)⟩
  refine zah rfl rfl (decide_eq_true (show ((n:Nat):Int) > 0 by omega)) ?_
  cases bad with
  | true =>
   refine mF ?_;refine zat ?_
   exact ⟨n,p,tk,true,ns,⟨rfl,rfl,rfl,rfl,trivial⟩,rfl,hP,.inr rfl⟩
  | false =>
  refine mT ?_;refine zai ?_;refine zak (zab (zak (zaf ?_)));refine mS ?_;refine po_g rfl (FnG.lift1 (p:=2) (zf8 s p false hpl hs nt2 live2) trivial (zdX _ _ _) rfl) ?_;rintro x _ n3 l3 ⟨c',rfl,hR3⟩;obtain ⟨rfl,rfl,mm3,k3,p3,bad3,rfl,rfl,hk3,hpp3,hp3,hH3⟩:=zdK hpl hR3;refine mN ?_;refine zaf ?_;(iterate 4 refine mS ?_);refine zfq rfl (FnG.lift1 (p:=2) (deBytes_g s p3 k3 bad3 hk3 hp3 hs n3 l3) ⟨trivial,trivial⟩ (zdX _ _ _) rfl) ?_ ?_
  ·rintro x b n4 l4 ⟨c',rfl,_⟩ y hy
   rw [mem_singleton] at hy; subst hy
   rfl
  rintro x _ n4 l4 ⟨c',rfl,hB4⟩;obtain ⟨rfl,rfl,p4,bad4,name,rfl,rfl,hnl,hpp4,hp4,hB⟩:=zie hp3 hB4;refine mS ?_;refine zaQ (t:=tk) (t':=0) (es:=pSr ns) (ds:=[[pS name]]) rfl rfl (hP.1.imp (fun h => h.1) fun h => (hP.2.1.mem tk (by show tk ∈ PC.toks (.sl tk (pSr ns)) ++ _; rw [zaF h]; simp)).1) (by simp only [length_singleton,zbr]; simp at hlen; omega) (fun e he => by simp only [mem_singleton] at he; subst he; rfl) (zhq ns) ?_;refine mS ?_;refine zaw (p:=1) (o':=0) (cs:=[.sl n4 (pSr ns ++ [[pS name]])]) (z:=[.sl tk (pSr ns),.sl 1 []]) rfl rfl rfl ⟨rfl,Nat.le_of_ble_eq_true rfl⟩ rfl ?_;refine zaa ?_;refine zaf ?_;refine mS ?_;refine po_q (v:=.d (.v (.int .u64 ((n - 1:Nat):Int)))) rfl (by show some (PV.d (.v (.int .u64 (IntKind.wrap .u64 ((n:Int) - 1))))) = _; rw [dec1 hn0 hn64]) ?_;refine mN ?_;obtain ⟨q1,q2⟩:=nmP_step hP hn0 (by omega) hH3 hpp4 hp4 hnl hB
  have hpush:pSr (ns ++ [name]) = pSr ns ++ [[pS name]]:=by unfold pSr; rw [map_append]; rfl
  exact ⟨_,q2,n - 1,p4,n4,bad4,ns ++ [name],⟨rfl,rfl,rfl,rfl,rfl,trivial⟩,by rw [hpush]; rfl,q1,rfl⟩
 rintro tm bx n2 l2 ⟨n,p,tk,bad,ns,ht,hbx,hP,hend⟩;obtain ⟨tm0,rfl⟩:=zac ht;simp only at hbx hP; subst hbx
 clear ht;have hpl:=hP.2.2.2.2.2.1;refine mQ ?_;refine po_g rfl (FnG.lift1 (p:=2) (zf8 s p bad hpl hs n2 l2) trivial (zdX _ _ _) rfl) ?_;rintro x _ n3 l3 ⟨c',rfl,hR3⟩;obtain ⟨rfl,rfl,mm3,k3,p3,bad3,rfl,rfl,hk3,hpp3,hp3,hH3⟩:=zdK hpl hR3;refine mN ?_;have hT0:=tbP_start hP hend hk3 hp3 hH3;refine zan (fun st => ∃ (n p tk t2:Nat) (bad:Bool) (ns:List (L8)) (rows:LP PC) (vs:List V) (rest:LP PC),has st.tm [(0,.d (pS s)),(2,.ref 0 0),(4,.ref 1 0),(5,.ref 2 0)] /\ st.bx = d0 :: [.sl tk (pSr ns),.sl t2 rows] :: deC s p bad :: rest /\ TbP s n1 l1 st.nt st.live n p tk t2 bad ns rows vs /\ (n = 0 \/ bad = true)) ?_ ?_
 ·refine zab ?_
  refine zas (GtI s n1 l1) _ ⟨k3,p3,tk,1,bad3,ns,[],[],[],⟨rfl,rfl,rfl,rfl,rfl,trivial⟩,rfl,hT0,rfl⟩ ?_;clear hT0 hH3 hP hend hH hstart;rintro m tm bx nt2 live2 ⟨n,p,tk,t2,bad,ns,rows,vs,rest,ht,hbx,hP,rfl⟩;obtain ⟨tm0,rfl⟩:=zac ht;simp only at hbx hP; subst hbx
  clear ht;obtain ⟨ht2,hown,hge,hntl,hlv,hpl,hnsl,hnb,hn64,hrows,hvl,hvb,hcp⟩:=id hP;refine mM ?_;refine mS ?_;by_cases hn0:0 < n
  case neg =>
   refine zal rfl rfl (decide_eq_false (show ¬ ((n:Nat):Int) > 0 by omega)) ?_;refine mS ?_;refine mZ ?_;refine mF ?_;refine zat ?_;exact ⟨n,p,tk,t2,bad,ns,rows,vs,rest,⟨rfl,rfl,rfl,rfl,trivial⟩,rfl,hP,.inl (by omega)⟩
  refine zah rfl rfl (decide_eq_true (show ((n:Nat):Int) > 0 by omega)) ?_
  cases bad with
  | true =>
   refine mF ?_;refine zat ?_
   exact ⟨n,p,tk,t2,true,ns,rows,vs,rest,⟨rfl,rfl,rfl,rfl,trivial⟩,rfl,hP,.inr rfl⟩
  | false =>
  refine mT ?_;refine zai ?_;refine zak (zab (zak (zaf ?_)));(iterate 5 refine mS ?_);have hg:=getMsgI_g (T:=T) (hT:=hT) hTab hs (p:Int) nt2 live2 (by omega);refine po_g rfl (FnG.lift0 (bx:=d0 :: [.sl tk (pSr ns),.sl t2 rows] :: deC s p false :: rest) hg ⟨trivial,trivial,trivial⟩) ?_;rintro x b2 n5 l5 ⟨rfl,cs,next,rfl,hc5,hnew,hctk,hlv2,hn5,hres⟩;(iterate 3 refine mS ?_);refine zbI (cs:=cs) rfl hc5 rfl rfl ?_;refine mL ?_;refine mM ?_;refine mS ?_;refine po_b rfl rfl (fun b3 hb3 => ?_);refine zaa ?_;refine zaZ (p:=next < 0) hb3 rfl (fun h3 _ => ?_) (fun h3 _ => ?_)
  ·rcases hres with ⟨hnx,_,hno⟩ | ⟨k',v,_,_,_,_,hnx,_⟩
   case inr => omega
   refine mO ?_;(iterate 3 refine mS ?_);refine zaw (p:=2) (o':=4) (cs:=[pB true]) (z:=deC s p false) rfl rfl rfl ⟨rfl,Nat.le_of_ble_eq_true rfl⟩ rfl ?_;refine zaa ?_;refine zat ?_;exact ⟨n,p,tk,t2,true,ns,rows,vs,rest ++ [cs],⟨rfl,rfl,rfl,rfl,trivial⟩,rfl,tbP_bad hP hn0 hn5 hlv2 (fun v k1 k2 => by have:=hno v k1 k2 (by omega); rwa [Int.toNat_natCast] at this),.inr rfl⟩
  ·rcases hres with ⟨hnx,_,_⟩ | ⟨j',v,hjj,hvw,hvo,hAt,hnx,hle,he,huniq⟩
   ·omega
   obtain rfl:j' = p:=by omega
   refine zai ?_;refine mO ?_;(iterate 2 refine mS ?_);refine zaE (p:=(d0 :: [PC.sl tk (pSr ns),.sl t2 rows] :: deC s j' false :: rest).length) (cs:=cs) rfl rfl (zbg _ cs) hc5 ?_
   refine zaq (es:=[cs]) (by
    show (if cs.length = 5 then some [cs] else none) = some [cs];rw [if_pos hc5]) ?_
   have hrl:rows.length = vs.length:=by rw [zd4 hrows,zaY]
   have hown2:OwnL n5 l5 ([.sl tk (pSr ns)] ++ .sl t2 rows :: []):=hown.mono2 hn5 hlv2;refine zaQ (t:=t2) (t':=n5) (es:=rows) (ds:=[cs]) rfl rfl (hown2.app ht2 [n5]) (by simp only [length_singleton]; omega) (fun e he => by simp only [mem_singleton] at he; subst he; exact hc5) (fun e he => zfr hrows (zgl vs) e he) ?_;refine mS ?_;refine zaw (p:=1) (o':=1) (cs:=[.sl (n5 + 1) (rows ++ [cs])]) (z:=[.sl tk (pSr ns),.sl t2 rows]) rfl rfl rfl ⟨rfl,Nat.le_of_ble_eq_true rfl⟩ rfl ?_;refine zaa ?_;refine zaf ?_;(iterate 4 refine mS ?_);refine zaw (p:=2) (o':=1) (cs:=[pI next]) (z:=deC s j' false) rfl rfl rfl ⟨rfl,Nat.le_of_ble_eq_true rfl⟩ rfl ?_;refine zaa ?_;refine zaf ?_;refine mS ?_;refine po_q (v:=.d (.v (.int .u64 ((n - 1:Nat):Int)))) rfl (by show some (PV.d (.v (.int .u64 (IntKind.wrap .u64 ((n:Int) - 1))))) = _; rw [dec1 hn0 hn64]) ?_;refine mN ?_
   obtain ⟨q1,q2⟩:=tbP_step hP hn0 (by omega) hn5 hnew hctk hlv2 hvw hvo hle he huniq;exact ⟨s.length + 1 - (j' + (msg v).length),q2,n - 1,j' + (msg v).length,tk,n5 + 1,false,ns,rows ++ [cs],vs ++ [v],rest ++ [cs],⟨rfl,rfl,rfl,rfl,rfl,trivial⟩,by rw [hnx]; rfl,q1,rfl⟩
 clear hT0 hH3 hP hend hH hstart;rintro tm bx n2 l2 ⟨n,p,tk,t2,bad,ns,rows,vs,rest,ht,hbx,hP,hend⟩;obtain ⟨tm0,rfl⟩:=zac ht;simp only at hbx hP; subst hbx
 clear ht;obtain ⟨ht2,hown,hge,hntl,hlv,hpl,hnsl,hnb,hn64,hrows,hvl,hvb,hcp⟩:=id hP
 have her:erL [PC.sl tk (pSr ns),.sl t2 rows] = dC ns vs:=by
  show [PC.sl 0 (erLL (pSr ns)),.sl 0 (erLL rows)] = _;rw [pSr_er,hrows]; rfl
 have hlen2:[PC.sl tk (pSr ns),.sl t2 rows].length = 2:=rfl
 have hcp2:∀ ns' vs',Good s ns' vs' -> bad = false /\ ns' = ns /\ vs' = vs:=fun ns' vs' h => by
  obtain ⟨e0,e1,e2,e3,e4⟩:=hcp ns' vs' h;have hn0:n = 0:=hend.resolve_right (by rw [e0]; decide);exact ⟨e0,e1.symm,by rw [e2,take_of_length_le (by omega)]⟩
 have hDS:DSm ns vs:=⟨by omega,fun n hn => Nat.le_trans (hnb n hn) (by omega),by omega,fun v hv => (hvb v hv).1,fun v hv => Nat.le_trans (V.ok_bulk (hvb v hv).2) (by decide)⟩;have hok:=zfb (T:=T) (hT:=hT) hTab ns vs hDS;refine zak ?_
 obtain ⟨f,hf⟩:∃ f:Bool,f = true ↔ ¬ (bad = false /\ Good s ns vs):=by
  by_cases h:bad = false /\ Good s ns vs
  ·exact ⟨false,by simp only [h]; decide⟩
  ·exact ⟨true,by simp only [h,not_false_iff]⟩
 refine zan (fun st => has st.tm [(2,.ref 0 0),(4,.ref 1 0),(105,.d (pB f))] /\ st.bx = d0 :: [PC.sl tk (pSr ns),.sl t2 rows] :: deC s p bad :: rest /\ st.nt = n2 /\ st.live = l2) ?_ ?_
 ·refine zaf ?_
  (iterate 5 refine mS ?_)
  cases bad with
  | true =>
   have hft:f = true:=hf.2 (fun h => by cases h.1);subst hft;refine mZ ?_;(iterate 2 refine mS ?_);refine mZ ?_;refine mN ?_
   exact ⟨⟨rfl,rfl,rfl,trivial⟩,rfl,rfl,rfl⟩
  | false =>
  refine zaE (p:=1) (cs:=[.sl tk (pSr ns),.sl t2 rows]) rfl rfl rfl hlen2 ?_;refine zaC (b:=true) (args:=[.ag (dC ns vs)]) rfl (fun _ => zgu her) (fun _ => hok) ?_;(iterate 3 refine mS ?_)
  cases hdb:dictB ns vs with
  | false =>
   have hft:f = true:=hf.2 (fun h => by have:=h.2.1; rw [hdb] at this; cases this);subst hft;refine mZ ?_;refine mN ?_
   exact ⟨⟨rfl,rfl,rfl,trivial⟩,rfl,rfl,rfl⟩
  | true =>
  have hdb2:=hdb;unfold dictB at hdb2;simp only [Bool.and_eq_true] at hdb2;have hpd:=zc4 (T:=T) (hT:=hT) ns vs hdb2.1.1 hdb2.1.2 (fun v hv => (hvb v hv).1);refine zaE (p:=1) (cs:=[.sl tk (pSr ns),.sl t2 rows]) rfl rfl rfl hlen2 ?_;refine zaC (b:=true) (args:=[.ag (dC ns vs)]) rfl (fun _ => zgu her) (fun _ => hpd) ?_;refine mS ?_;refine po_ne (la:=dictT ns vs) (lb:=s) rfl rfl rfl ?_;refine mN ?_
  have:decide (dictT ns vs ≠ s) = f:=by
   rw [Bool.eq_iff_iff,decide_eq_true_iff,hf]
   constructor
   ·intro h1 h2; exact h1 h2.2.2.1
   ·intro h1 h2; exact h1 ⟨rfl,hdb,h2,fun v hv => (hvb v hv).1⟩
  exact ⟨⟨rfl,rfl,by rw [<- this]; rfl,trivial⟩,rfl,rfl,rfl⟩
 rintro tm bx n3 l3 ⟨ht,hbx,hnn,hll⟩;obtain ⟨tm0,rfl⟩:=zac ht;simp only at hbx hnn hll
 subst hbx; subst hnn; subst hll
 clear ht;refine zaU (t:=f) rfl (fun hc => ?_) (fun hc => ?_)
 ·refine mQ ?_
  refine zar (p:=0) (cs:=d0) rfl rfl rfl rfl rfl rfl ?_;refine mN ?_;refine zae ⟨.inr rfl,[.ag d0,.d (pB false)],rfl,zcM (fun ns' vs' h => ?_) hlv hntl⟩;obtain ⟨e1,e2,e3⟩:=hcp2 ns' vs' h
  subst e2; subst e3
  exact hf.1 hc ⟨e1,h⟩
 ·have hgood:bad = false /\ Good s ns vs:=Classical.byContradiction fun h => by rw [hf.2 h] at hc; cases hc
  refine zai ?_;refine mO ?_;refine zaE (p:=1) (cs:=[.sl tk (pSr ns),.sl t2 rows]) rfl rfl rfl hlen2 ?_;refine zar (p:=0) (cs:=[.sl tk (pSr ns),.sl t2 rows]) rfl rfl rfl hlen2 rfl rfl ?_;refine mN ?_;have hN:=ownNew hown hge;exact zae ⟨.inr rfl,[.ag [.sl tk (pSr ns),.sl t2 rows],.d (pB true)],zbn rfl rfl hlen2 rfl,⟨zaX hN.own,trivial,trivial⟩,_,true,rfl,rfl,hN,(fun t ht => (hown.mem t ht).1),hlv,hntl,ns,vs,her,fun _ => hgood.2,(fun h => by cases h),fun ns' vs' h => ⟨rfl,(hcp2 ns' vs' h).2.1,(hcp2 ns' vs' h).2.2⟩⟩
end
section
theorem Tabs.low:Low ngl Tabs:=by
 intro w w' h hs hk;have h1:0 < ngl:=of_decide_eq_true (by unfold ngl; kernel_rfl);have h2:1 < ngl:=of_decide_eq_true (by unfold ngl; kernel_rfl);refine ⟨fun c hc => ?_,fun i hi => ?_⟩
 ·rw [World.cell?_of_block (a:=⟨_,_,none⟩) (hk _ h1)]; exact h.1 c hc
 ·rw [World.cell?_of_block (a:=⟨_,_,none⟩) (hk _ h2),World.cell?_of_block (a:=⟨_,_,none⟩) (hk _ h2)]; exact h.2 i hi
end
section
attribute [local irreducible] po mw pt
section
variable {T:World -> Prop} {hT:Low ngl T}
theorem zeT (hTab:∀ w,T w -> Tabs w) (ns:List (L8)) (vs:List V) (hD:DSm ns vs):FnV (env T hT) 7 [.ag (dC ns vs)] (.d (pS (dictP ns vs))):=by
 obtain ⟨d1,d2,d3,d4,d5⟩:=hD;have hnm:=zeH (T:=T) (hT:=hT) hTab ns d1 d2;have htb:=zeI (T:=T) (hT:=hT) hTab vs d3 d4 d5;refine zaW (zaj zhe) (by show 1 <= 15; decide) fun B hB => ?_
 unfold m_i_PutDict;refine mP ?_;refine mM ?_;(iterate 2 refine mS ?_);refine zad (zhU ns) hnm ?_;(iterate 2 refine mS ?_);unfold dictP
 cases hn:nmsB ns with
 | false =>
  refine mZ ?_;refine mT ?_;refine mP ?_
  exact mR
 | true =>
 (iterate 2 refine mS ?_);refine zaC (b:=true) (args:=[.d (.sl 0 (vK vs))]) rfl (fun _ => zfY rfl) (fun _ => htb) ?_;(iterate 2 refine mS ?_)
 cases hv:tabB vs with
 | false =>
  refine mT ?_;refine mP ?_
  exact mR
 | true =>
 refine mK ?_;refine mO ?_;refine za7 (p:=0) (cs:=dC ns vs) (v:=.ag (dC ns vs)) rfl rfl rfl (Nat.le_of_ble_eq_true rfl) rfl ?_;refine zad (args:=[.ag (dC ns vs)]) (dats_d rfl (dC_er ns vs)) (zc4 ns vs hn hv d4) ?_;refine mN ?_;exact mR
end
theorem dict_sm {s:L8} {ok:Bool} {ns:List (L8)} {vs:List V} (a:ok = true -> Good s ns vs) (b:ok = false -> ns = [] /\ vs = []):DSm ns vs:=by
 cases ok with
 | true =>
  obtain ⟨g1,g2,g3,g4,g5,g6,g7,g8,_⟩:=(a rfl).at
  exact ⟨by omega,fun n hn => by have:=g6 n hn; omega,by omega,fun v hv => (g8 v hv).1,fun v hv => by have:=V.ok_bulk (g8 v hv).2; omega⟩
 | false =>
  obtain ⟨rfl,rfl⟩:=b rfl;exact ⟨Nat.zero_le _,(fun v hv => by cases hv),Nat.zero_le _,(fun v hv => by cases hv),(fun v hv => by cases hv)⟩
theorem good_P {s:L8} {ns:List (L8)} {vs:List V} (h:Good s ns vs):dictP ns vs = s:=by
 have h1:=h.1;unfold dictB at h1;unfold dictP;rw [Bool.and_eq_true] at h1;rw [h1.1]; exact h.2.1
theorem fnDict_fn (b:L8) (_hl:b.length <= maxLen):FnV (env Tabs Tabs.low) 3 [.d (.sl 0 (pcB b))] (.d (pB true)):=by
 have hca:PV.dats [PV.d (.sl 0 (pcB b))] = some [.d (.sl 0 (pcB b))]:=by
  show some [PV.d (.sl 0 (erLL (pcB b)))] = _;rw [pcB_er]
 refine zaW (zaj zh9) (by show 1 <= 78; decide) fun B hB => ?_
 unfold m_l_FnDict;refine mP ?_;refine mM ?_;refine mS ?_;refine zad hca (big_fn0 b) ?_;refine zaa ?_;refine zbB (p:=(b.length:Int) > 1048576) rfl (fun h => ?_) (fun h => ?_)
 ·refine mP ?_
  exact zae ⟨.inr rfl,[.d (pB true)],rfl,rfl⟩
 have hb:b.length <= 2147483647:=by omega
 refine zai ?_;refine mQ ?_;refine zf3 hca (drawDO_f (T:=Tabs) (hT:=Tabs.low) hb) ?_;rintro x lv ⟨ns0,vs0,hx,hQ0⟩;refine ⟨_,hx,?_⟩;refine zbI (cs:=dC ns0 vs0) rfl rfl rfl rfl ?_;refine mN ?_;refine mQ ?_;refine zf3 hca (drawPD_f (T:=Tabs) (hT:=Tabs.low) hb) ?_;rintro x lv ⟨ns1,vs1,hx,hQ1⟩;refine ⟨_,hx,?_⟩;refine zbI (cs:=dC ns1 vs1) rfl rfl rfl rfl ?_;refine mN ?_;have hP1:=zeT (T:=Tabs) (hT:=Tabs.low) (fun _ h => h) ns1 vs1 hQ1.sm;refine mO ?_;refine zaE (p:=1) (cs:=dC ns1 vs1) rfl rfl rfl rfl ?_;refine zad (zfa ns1 vs1) hP1 ?_;refine mN ?_;refine mQ ?_;refine zf3 hca (drawGD_f (T:=Tabs) (hT:=Tabs.low) hb) ?_;rintro x lv ⟨u,hx,hu⟩;refine ⟨_,hx,?_⟩;have hu:u.length <= 2147483647:=by omega
 refine mN ?_;refine mQ ?_;refine po_g rfl (FnG.lift0 (bx:=[dC ns0 vs0,dC ns1 vs1]) (zfh (T:=Tabs) (hT:=Tabs.low) (fun _ h => h) hu 2 [] (Nat.le_refl 2)) ⟨trivial,trivial⟩) ?_;rintro x _ n1 l1 ⟨rfl,cs0,ok0,rfl,hc0,hN0,htk0,hlv0,hn1,ns2,vs2,he0,a0,b0',c0⟩;(iterate 3 refine mS ?_);refine zbI (cs:=cs0) rfl hc0 rfl rfl ?_;refine mL ?_;refine mQ ?_;refine po_g rfl (FnG.lift0 (bx:=[dC ns0 vs0,dC ns1 vs1,cs0]) (getDict_g (T:=Tabs) (hT:=Tabs.low) hu n1 l1 hn1) ⟨trivial,trivial⟩) ?_;rintro x _ n2 l2 ⟨rfl,cs1,ok1,rfl,hc1,hN1,htk1,hlv1,hn2,ns3,vs3,he1,a1,b1',c1⟩;(iterate 3 refine mS ?_);refine zbI (cs:=cs1) rfl hc1 rfl rfl ?_;refine mL ?_;obtain ⟨rfl,rfl,rfl⟩:=dict_same a0 b0' c0 a1 b1' c1;have hS:=dict_sm a0 b0';clear hN0 htk0 hlv0 hN1 htk1 hlv1 c0 c1;refine zan (fun st => has st.tm [(4,.ref 1 0),(5,.d (pS (dictP ns1 vs1)))] /\ st.bx = [dC ns0 vs0,dC ns1 vs1,cs0,cs1] /\ st.nt = n2) ?_ ?_
 ·refine zan (fun st => has st.tm [(4,.ref 1 0),(5,.d (pS (dictP ns1 vs1))),(63,.d (pB false))] /\ st.bx = [dC ns0 vs0,dC ns1 vs1,cs0,cs1] /\ st.nt = n2) ?_ ?_
  ·refine zaf ?_
   refine zaE (p:=0) (cs:=dC ns0 vs0) rfl rfl rfl rfl ?_;refine zaE (p:=0) (cs:=dC ns0 vs0) rfl rfl rfl rfl ?_;refine zad (zfa ns0 vs0) (zfb (T:=Tabs) (hT:=Tabs.low) (fun _ h => h) ns0 vs0 hQ0.sm) ?_;refine zad (zfa ns0 vs0) (zeG (T:=Tabs) (hT:=Tabs.low) ns0 vs0 hQ0.sm) ?_;refine zal rfl rfl (by simp) ?_;(iterate 2 refine mS ?_);refine zaE (p:=1) (cs:=dC ns1 vs1) rfl rfl rfl rfl ?_;refine zaC (b:=true) rfl (fun _ => zfa ns1 vs1) (fun _ => zcL (T:=Tabs) (hT:=Tabs.low) ns1 vs1 hQ1.sm) ?_;refine po_neS (la:=dictP ns1 vs1) (lb:=dictP ns1 vs1) rfl rfl rfl (decide_eq_false (fun h => h rfl)) ?_;(iterate 2 refine mS ?_);refine zaE (p:=2) (cs:=cs0) rfl rfl rfl hc0 ?_;refine zaE (p:=3) (cs:=cs1) rfl rfl rfl hc1 ?_;refine zaC (b:=true) rfl (fun _ => zhx he0 he1) (fun _ => sameD_fn (T:=Tabs) (hT:=Tabs.low) _ _ hS.1 hS.2.2.1 hS.2.2.2.2) ?_
   (iterate 5 refine mS ?_);refine zal rfl rfl (by simp) ?_;(iterate 3 refine mS ?_)
   cases ok1 with
   | false =>
    refine mS ?_;refine mZ ?_;refine mN ?_
    exact ⟨⟨rfl,rfl,rfl,trivial⟩,rfl,rfl⟩
   | true =>
    have hg:=good_P (a0 rfl);refine mS ?_;refine zaE (p:=2) (cs:=cs0) rfl rfl rfl hc0 ?_;refine mS ?_;refine zaC (b:=true) rfl (fun _ => dats_d rfl he0) (fun _ => zeT (T:=Tabs) (hT:=Tabs.low) (fun _ h => h) _ _ hS) ?_;refine po_neS (lb:=u) rfl rfl rfl (decide_eq_false (fun h => h hg)) ?_;refine mN ?_;exact ⟨⟨rfl,rfl,rfl,trivial⟩,rfl,rfl⟩
  rintro tm bx n l ⟨ht,hbx,hnn⟩;obtain ⟨tm0,rfl⟩:=zac ht;simp only at hbx hnn; subst hbx; subst hnn
  clear ht;refine mwF ?_;refine zai ?_;exact ⟨⟨rfl,rfl,trivial⟩,rfl,rfl⟩
 rintro tm bx n l ⟨ht,hbx,hnn⟩;obtain ⟨tm0,rfl⟩:=zac ht;simp only at hbx hnn; subst hbx; subst hnn
 clear ht;refine mM ?_;refine zaE (p:=1) (cs:=dC ns1 vs1) rfl rfl rfl rfl ?_;refine zad (zfa ns1 vs1) (zeG (T:=Tabs) (hT:=Tabs.low) ns1 vs1 hQ1.sm) ?_
 cases hk:dictB ns1 vs1 with
 | false =>
  refine mT ?_;refine mP ?_
  exact zae ⟨.inr rfl,[.d (pB true)],rfl,rfl⟩
 | true =>
 refine mK ?_
 have hPT:dictP ns1 vs1 = dictT ns1 vs1:=by
  have h1:=hk;unfold dictB at h1;unfold dictP;rw [Bool.and_eq_true] at h1;rw [h1.1]; rfl
 have hGd:Good (dictP ns1 vs1) ns1 vs1:=⟨hk,hPT.symm,fun v hv => (hQ1.2.2 v hv).wf⟩;have hlen:=zhh ns1 vs1;refine mQ ?_;refine po_g rfl (FnG.lift0 (bx:=[dC ns0 vs0,dC ns1 vs1,cs0,cs1]) (zfh (T:=Tabs) (hT:=Tabs.low) (fun _ h => h) (s:=dictP ns1 vs1) (by omega) n l (by omega)) ⟨trivial,trivial⟩) ?_;rintro x _ n3 l3 ⟨rfl,cs2,ok2,rfl,hc2,hN2,htk2,hlv2,hn3,ns4,vs4,he2,a2,b2',c2⟩;obtain ⟨rfl,rfl,rfl⟩:=c2 _ _ hGd;(iterate 3 refine mS ?_);refine zbI (cs:=cs2) rfl hc2 rfl rfl ?_;refine mL ?_;refine mO ?_;(iterate 2 refine mS ?_);refine zaE (p:=4) (cs:=cs2) rfl rfl rfl hc2 ?_;refine zaE (p:=1) (cs:=dC ns1 vs1) rfl rfl rfl rfl ?_;refine zaC (b:=true) rfl (fun _ => zhx he2 (dC_er ns1 vs1)) (fun _ => sameD_fn (T:=Tabs) (hT:=Tabs.low) ns1 vs1 hQ1.sm.1 hQ1.sm.2.2.1 hQ1.sm.2.2.2.2) ?_;refine mN ?_;exact zae ⟨.inr rfl,[.d (pB true)],rfl,rfl⟩
theorem fnDictW (b:L8) (v:Value) (w:World) (hn:ngl <= w.heap.size) (hT:Tabs w) (h:Rd w (dBy b) [v] /\ b.length <= maxLen):Calls Tryz.prog 3 #[v] w fun e w' => e = .returned (.bool true) /\ Below w.heap.size w w' :=
 fnLaw (fnDict_fn b h.2) hn hT h.1
end
section
theorem laid_of {H:Type} {enc:TypeId × Value -> H} {C:Checked} {os:Os} {f:FuncId} {fn:Func} {s:ChangeSpec} {conds:List PathCond} {fresh handsOn again apart:Bool} (L:List (String × DataW Unit))
  (own:ownKnob C.prog.godebug = none) (started:os.Started) (noInit:C.prog.inits.idxOf? f = none) (hfn:C.prog.funcs[f]? = some fn)
  (wit:∃ (w:World) (tape:Tape) (i:Input),w.os = os /\ (w.forCall tape i).Shaped C.prog /\ i.vars = [] /\ Input.okWide C.prog (w.forCall tape i) .any w.heap.size f i /\
   ((s.pre enc C.prog fn conds apart (w.forCall tape i).memory i.args /\ laidMetH C.prog L (w.forCall tape i).memory) /\ sizedMet enc C.prog fn (OpenSpec.ofChange s) apart (w.forCall tape i).memory i.args) /\ ({}:Assume).holds C.prog (lone (Frame.enter C.prog f i.args .normal) [] (w.forCall tape i)))
  (walk:∀ (W:World) (base:Nat) (args:Array Value) (ds gs:List (DataW H)) (before:List MemPlace),W.ShapedOpen C.prog -> laidMetH C.prog L W ->
   (∀ (j:Nat) t v,fn.params[j]? = some t -> args[j]? = some v -> Value.okWide C.prog W .any base t v) ->
   DataW.Whole enc C.prog fn.params.toList s.vars apart W args.toList ds gs before ->
   conds.all (PathCond.test C.prog ⟨fn.params.toList,ds,s.plain.varTypes C.prog,gs⟩) = true ->
   Calls C.prog f args W fun e W' => ∃ v,e = .returned v /\ s.post enc C.prog fn apart fresh handsOn again W args v W') :
  ReturnsInHanded {} C os f .any (fun w args => (s.pre enc C.prog fn conds apart w args /\ laidMetH C.prog L w) /\ sizedMet enc C.prog fn (OpenSpec.ofChange s) apart w args) (s.post enc C.prog fn apart fresh handsOn again):=by
 refine returnsInHanded_of_calls own started noInit wit fun w tape i _ shaped _ ok pre _ => ?_
 rcases ok with ⟨_,_,_,fn2,h2,_,_,_,_,vals⟩
 cases Option.some.inj (h2.symm.trans hfn)
 rcases pre with ⟨⟨⟨ds,gs,before,whole,cond⟩,met⟩,_⟩
 have met2:laidMetH C.prog L (w.forCall tape i):=laidMetH.of_heap (by rfl) met;refine (walk _ w.heap.size i.args ds gs before shaped met2 vals (DataW.Whole.of_heap (by rfl) whole) cond).mono ?_;rintro e w2 ⟨v,rfl,hp⟩;exact ChangeSpec.post_blind hp
end
section
open Go.RowKit Go.Lib Go.Shelf
theorem first_data:Go.Pinned.utf8First = firstData:=by kernel_rfl
theorem zif:(Rows.laid_unicode_utf8_acceptRanges:DataW Unit) = acceptData:=by kernel_rfl
theorem tabs_of {w : World} (h3 : VarReads Tryz.prog w "unicode/utf8.first" Go.Pinned.utf8First) (h4 : VarReads Tryz.prog w "unicode/utf8.acceptRanges" Rows.laid_unicode_utf8_acceptRanges) : Tabs w := by
 rw [first_data] at h3; rw [zif] at h4
 exact utf8Tabs_of_readsT (U8Types.of196 Tryz.laysValid) ⟨by kernel_rfl,by kernel_rfl,by kernel_rfl,by kernel_rfl,by kernel_rfl,by kernel_rfl,by kernel_rfl⟩ h3 h4
end
end Go.Proofs.YtmmcehkdnnolkaaGreatDoor
