/- Part 3 of a proof: Drw4, Drw5, Drw6, Drw7, Drw8, AtR, BoxV, RwN, VOwn0, OwnSl, Sub, ValueOwn, NrE, VEq0, TagDef, PlainDef, VOk, Vfm, DecDef, RdDec, KidD, PathDef, PutD, CpyM, L8M, CpyB, Cpy, Shelf, Dec, WthI, DecT, PvG1M, InS, St1M, RdS, L8K, L8N, Read, Text, TextS -/
import Derived.Test.YtdnjinhlhohfiaaGreatDoorQb2
import Derived.Deep.AppendLies
import Derived.Lib.ItoaLen
import Derived.Shelf.Unicode.ValidAny
import Derived.Shelf.Strconv.Itoa3
import Derived.Shelf.Strconv.ErrVar
import Derived.Shelf.Strconv.ErrVarAll
import Derived.Lib.AppendIntMem
import Derived.ProofKit
import Derived.Deep.RegionHeld3
namespace Go.Proofs.YtdnjinhlhohfiaaGreatDoor
open Go.RowKit
set_option maxHeartbeats 4000000
set_option maxRecDepth 100000
open List
section
variable {T:World -> Prop} {hT:Low ngl T}
attribute [local irreducible] po mw pt
theorem zfc:∀ l:L8,byteL (pcB l) = some l
 | [] => rfl
 | x :: l => by
  have:=zfc l
  simp only [pcB,map_cons] at this ⊢;simp only [byteL,this,Option.map_some,Int.toNat_natCast,UInt8.ofNat_toNat]
theorem zdK (a b:L8):pcB (a ++ b) = pcB a ++ pcB b:=by simp [pcB]
theorem NR.byte {nt n t:Nat} {live l:List Nat} {out:L8} (h2:2 <= nt) (ht:2 <= t) (h:NR nt live n l [.sl t (pcB out)]) (x:UInt8):NR nt live (n + 1 + 1) ((n + 1) :: (n :: l).filter (· != t)) [.sl (n + 1) (pcB (out ++ [x]))]:=by
 have:=NR.app (a:=[]) (b:=[]) (ds:=[[.v (.int .u8 x.toNat)]]) h2 (.inr ht) (h.up.plain (ds:=[] ++ .sl t (pcB out) :: [] ++ [[PC.v (.int .u8 x.toNat)]].flatten) (by
  have:=h.own
  simp only [nil_append,cons_append,flatten_cons,List.flatten_nil,ownedL,Bool.and_true,PC.owned] at this ⊢;exact this) (by simp [toksL,PC.toks]))
 rw [zdK]; exact this
theorem zbQ {E:Env} {d n:Nat} {x:X} {g:Option (Nat × Bool)} {lo hi:Option X} {c:List X} {r:List MOpr} {K:St -> Prop} {tm:Nat -> PV} {bx:LP PC} {nt:Nat} {live:List Nat} {t l h:Nat} {es rs:LP PC} (hg:gd g tm = some true) (hx:ev tm x = .d (.sl t es)) (hl:bound (ev tm) 0 lo = some l) (hh:bound (ev tm) es.length hi = some h) (hle:l <= h /\ h <= es.length) (hw:∀ e ∈ es,e.length = n) (hr:(es.drop l).take (h - l) = rs)
  (k:po E r K ⟨up d (.d (.sl 0 rs)) tm,bx,nt,live⟩):po E (⟨some d,.slc n x lo hi,g,c⟩ :: r) K ⟨tm,bx,nt,live⟩:=by
 refine po_q hg ?_ k;subst hr;simp only [qf,hx,hl,hh];rw [if_pos ⟨hle.1,hle.2,hw⟩]
theorem NR.mem1 {nt n t:Nat} {live l:List Nat} {es:LP PC} (ht:2 <= t) (h:NR nt live n l [.sl t es]):t ∈ l:=(h.mem t (by rw [toksL,zcC ht]; simp)).2.2
theorem lex1 {a a' n n' K:Nat} (h:a' < a) (hn:n' <= K):a' * (K + 1) + n' < a * (K + 1) + n:=by
 have:=Nat.mul_le_mul_right (K + 1) (show a' + 1 <= a from h)
 rw [Nat.add_mul] at this; omega
theorem lex2 {D D' L i i':Nat} (h:D' < D) (hi:L - i' <= L):D' * (L + 1) + (L - i') < D * (L + 1) + (L - i):=by
 have:=Nat.mul_le_mul_right (L + 1) (show D' + 1 <= D from h)
 rw [Nat.add_mul] at this; omega
def DtxS (b:L8) (N nt:Nat) (live:List Nat) (i:Nat) (h:Int) (out:L8) (t:Nat) (st:St):Prop :=
 has st.tm [(0,.ref 0 0),(1,.d (pI N)),(5,.d (.sl t (pcB out)))] /\ st.bx = [cuC b i h] /\ NR nt live st.nt st.live [.sl t (pcB out)] /\ 2 <= t /\ i <= b.length /\ i64ok h /\ out.length <= N + 20
def DtxI (b:L8) (N K nt:Nat) (live:List Nat) (m:Nat) (st:St):Prop :=
 ∃ (i:Nat) (h:Int) (out:L8) (t n:Nat),DtxS b N nt live i h out t st /\ n <= K /\ (i = b.length -> Prg n h) /\ m = ((N - out.length) * (b.length + 1) + (b.length - i)) * (K + 1) + n
theorem text_drw {b:L8} (hb:b.length <= 2147483647) (N:Nat) (hN:N <= 200):Drw (env T hT) b 70 [.d (pI N)] (QT fun s => s.length = N):=by
 rintro c nt live ⟨i0,h0,hi0,hh0,rfl⟩ hn;obtain ⟨K,hK⟩:∃ K,∀ h,i64ok h -> ∃ n,n <= K /\ Prg n h:=⟨_,fun h hh => prg_all hh⟩;have hBy:=fun (i:Nat) (hi:i <= b.length) h nt live => byte_g (T:=T) (hT:=hT) hb hi h nt live
 have hBl:=fun (i:Nat) (hi:i <= b.length) h m (hm:1 <= m /\ m <= 256) nt live => below_g (T:=T) (hT:=hT) hb hi h hm nt live
 refine zaR (R:=fun x bx n l => ∃ c' rest,bx = c' :: rest /\ x.lw 0 /\ lwL 0 c' /\ Cu b c' /\ QT (fun s => s.length = N) nt live x n l) (zad zfa) (by show 2 <= 88; decide) fun B hB' => ?_
 unfold m_s_l01Text;refine mP ?_;refine mO ?_;refine zaC (es:=[]) rfl ?_;refine mN ?_;refine zav (fun st => ∃ (i:Nat) (h:Int) (out:L8) (t:Nat),DtxS b N nt live i h out t st /\ N <= out.length) ?_ ?_
 ·refine zai ?_
  obtain ⟨n0,hn0,hp0⟩:=hK h0 hh0;refine zaJ (DtxI b N K nt live) _ ⟨i0,h0,[],nt,n0,⟨⟨rfl,rfl,rfl,trivial⟩,rfl,NR.lit (es:=[]) hn (NR.refl nt live),hn,hi0,hh0,Nat.zero_le _⟩,hn0,fun _ => hp0,rfl⟩ ?_;rintro m tm bx n1 l1 ⟨i,h,out,t,n,⟨ht,hbx,hNR,ht2,hi,hh,hol⟩,hnK,hpr,rfl⟩
  have fin:∀ (i':Nat) (h':Int) (out':L8) (t':Nat) (st':St),DtxS b N nt live i' h' out' t' st' -> out.length < N -> (out.length < out'.length \/ (out'.length = out.length /\ (i < b.length -> i < i') /\ (i = b.length -> i' = i /\ ∃ n',n' < n /\ Prg n' h'))) -> ∃ m',m' < ((N - out.length) * (b.length + 1) + (b.length - i)) * (K + 1) + n /\ DtxI b N K nt live m' st':=by
   intro i' h' out' t' st' hS hlt hp
   rcases hp with hp | ⟨he,hp1,hp2⟩
   ·obtain ⟨n',hn',hp'⟩:=hK h' hS.2.2.2.2.2.1
    exact ⟨_,lex1 (lex2 (by omega) (by omega)) hn',i',h',out',t',n',hS,hn',fun _ => hp',rfl⟩
   ·by_cases hil:i < b.length
    ·obtain ⟨n',hn',hp'⟩:=hK h' hS.2.2.2.2.2.1
     have:=hp1 hil
     refine ⟨_,lex1 ?_ hn',i',h',out',t',n',hS,hn',fun _ => hp',rfl⟩;rw [he]
     have:=hS.2.2.2.2.1
     omega
    ·obtain ⟨e1,n',hn',hp'⟩:=hp2 (by omega)
     refine ⟨_,?_,i',h',out',t',n',hS,by omega,fun _ => hp',rfl⟩;rw [he,e1]; omega
  have stuck:∀ r:Int,(i = b.length -> r = (lcX (lcM h)).tmod 5) -> r < 3 -> i = b.length -> ∃ n',n' < n /\ Prg n' (lcM h) /\ Prg n' (lcM (lcM h)) /\ Prg n' (lcM (lcM (lcM h))):=by
   intro r hr hr3 he;have hp:=hpr he;have hr:=hr he
   cases n with
   | zero => exact absurd (show 3 <= (lcX (lcM h)).tmod 5 from hp) (by omega)
   | succ n =>
    rcases hp with hp | hp
    ·exact absurd (show 3 <= (lcX (lcM h)).tmod 5 from hp) (by omega)
    ·exact ⟨n,Nat.lt_succ_self _,hp⟩
  obtain ⟨tm0,rfl⟩:=zah ht;simp only at hbx hNR; subst hbx
  clear ht hpr;refine mM ?_;refine mS ?_;refine zaA (n:=out.length) rfl rfl (zbd out) ?_;refine mS ?_;refine po_b rfl rfl (fun q hq => ?_);refine zae ?_;refine zb9 (p:=(out.length:Int) < N) hq rfl (fun hlt _ => ?_) (fun hlt _ => ?_)
  rotate_left
  ·refine zaL ?_
   exact ⟨i,h,out,t,⟨⟨rfl,rfl,rfl,trivial⟩,rfl,hNR,ht2,hi,hh,hol⟩,by omega⟩
  have hlt:out.length < N:=by omega
  clear hq;refine zau ?_;refine zai ?_;refine mQ ?_;refine po_g rfl (hBl i hi h 5 (by decide) n1 l1) ?_;rintro x bx n2 l2 ⟨r,i1,rfl,rfl,r0,r5,hi1,e1,e2,rfl,rfl⟩;refine zae ?_;refine zai ?_;refine mO ?_;by_cases k0:r = 0
  ·refine zaf rfl rfl (beq_iff_eq.2 k0) ?_
   refine mT ?_;refine zaj ?_;(iterate 2 refine mS ?_);refine po_g rfl (hBy i1 hi1 (lcM h) n2 l2) ?_;rintro x bx n3 l3 ⟨v,i2,rfl,rfl,v0,v1,hi2,_,_,rfl,rfl⟩;refine zf9 (n:=((UInt8.ofNat v.toNat).toNat:Int)) rfl rfl (by rw [IntKind.wrap_u8]; simp; omega) ?_;refine zaC (es:=[[.v (.int .u8 ((UInt8.ofNat v.toNat).toNat:Int))]]) rfl ?_;refine za3 (t:=t) (es:=pcB out) (ds:=[[.v (.int .u8 ((UInt8.ofNat v.toNat).toNat:Int))]]) rfl rfl (.inr (mem_cons_of_mem _ (hNR.mem1 ht2))) (by rw [zbd]; simp only [length_singleton]; omega) (fun e he => by simp only [mem_singleton] at he; subst he; rfl) (zdr out) ?_;refine mN ?_;exact fin i2 (lcM (lcM h)) (out ++ [UInt8.ofNat v.toNat]) _ _ ⟨⟨rfl,rfl,by rw [zdK]; rfl,trivial⟩,rfl,hNR.byte hn ht2 _,by have:=hNR.n2 hn; omega,hi2,zdJ _,by rw [length_append,length_singleton]; omega⟩ hlt (.inl (by rw [length_append,length_singleton]; omega))
  refine zal rfl rfl (beq_eq_false_iff_ne.2 k0) ?_;refine mF ?_;refine mO ?_;by_cases k1:r = 1
  ·refine zaf rfl rfl (beq_iff_eq.2 k1) ?_
   refine mT ?_;refine mQ ?_;refine po_g rfl (hBl i1 hi1 (lcM h) 9 (by decide) n2 l2) ?_;rintro x bx n3 l3 ⟨k,i2,rfl,rfl,kk0,kk1,hi2,f1,f2,rfl,rfl⟩;obtain ⟨k,rfl⟩:∃ k':Nat,k = k':=⟨k.toNat,by omega⟩;refine mN ?_;refine mQ ?_;refine po_g rfl (hBl i2 hi2 (lcM (lcM h)) 4 (by decide) n3 l3) ?_;rintro x bx n4 l4 ⟨v,i3,rfl,rfl,v0,v1,hi3,g1,g2,rfl,rfl⟩;refine zay (n:=97 + v) rfl rfl rfl rfl (by omega) ?_;refine zf9 (n:=((UInt8.ofNat (97 + v).toNat).toNat:Int)) rfl rfl (by rw [IntKind.wrap_u8]; simp; omega) ?_;refine mN ?_;refine mP ?_;refine zai ?_;refine zaJ (fun m st => ∃ (j:Nat) (out':L8) (t':Nat),j <= k /\ m = k - j /\ out'.length = out.length + j /\ has st.tm [(0,.ref 0 0),(1,.d (pI N)),(5,.d (.sl t' (pcB out'))),(6,.d (pI k)),(7,.d (.v (.int .u8 ((UInt8.ofNat (97 + v).toNat).toNat:Int)))),(8,.d (pI j))] /\ st.bx = [cuC b i3 (lcM (lcM (lcM h)))] /\ NR nt live st.nt st.live [.sl t' (pcB out')] /\ 2 <= t') k ⟨0,out,t,Nat.zero_le _,rfl,rfl,⟨rfl,rfl,rfl,rfl,rfl,rfl,trivial⟩,rfl,hNR,ht2⟩ ?_
   rintro m tm bx n5 l5 ⟨j,out',t',hj,rfl,hlen,ht,hbx,hNR',ht2'⟩;obtain ⟨tm1,rfl⟩:=zah ht;simp only at hbx hNR'; subst hbx
   clear ht;refine mM ?_;(iterate 2 refine mS ?_);refine po_b rfl rfl (fun q hq => ?_);refine zae ?_;refine zb9 (p:=(j:Int) < k) hq rfl (fun hjk _ => ?_) (fun hjk _ => ?_)
   ·refine zau ?_
    refine zaD (zai (zaj ?_));(iterate 2 refine mS ?_);refine zaC (es:=[[.v (.int .u8 ((UInt8.ofNat (97 + v).toNat).toNat:Int))]]) rfl ?_;refine za3 (t:=t') (es:=pcB out') (ds:=[[.v (.int .u8 ((UInt8.ofNat (97 + v).toNat).toNat:Int))]]) rfl rfl (.inr (mem_cons_of_mem _ (hNR'.mem1 ht2'))) (by rw [zbd]; simp only [length_singleton]; omega) (fun e he => by simp only [mem_singleton] at he; subst he; rfl) (zdr out') ?_;refine mN ?_;refine zaj ?_;refine mS ?_;refine zay (n:=((j + 1:Nat):Int)) rfl rfl rfl (by omega) (by omega) ?_;refine mN ?_;exact ⟨_,by show k - (j + 1) < k - j; omega,j + 1,out' ++ [UInt8.ofNat (97 + v).toNat],_,by omega,rfl,by rw [length_append,length_singleton]; omega,⟨rfl,rfl,by rw [zdK]; rfl,rfl,rfl,rfl,trivial⟩,rfl,hNR'.byte hn ht2' _,by have:=hNR'.n2 hn; omega⟩
   ·refine zaL ?_
    refine fin i3 (lcM (lcM (lcM h))) out' t' _ ⟨⟨rfl,rfl,rfl,trivial⟩,rfl,hNR',ht2',hi3,zdJ _,by omega⟩ hlt ?_;by_cases hk:k = 0
    ·right
     refine ⟨by omega,fun hil => ?_,fun hil => ?_⟩
     ·have:=e1 hil
      by_cases c1:i1 < b.length
      ·have:=f1 c1
       by_cases c2:i2 < b.length
       ·have:=g1 c2; omega
       ·have:=(g2 (by omega)).1; omega
      ·have:=(f2 (by omega)).1
       have:=(g2 (by omega)).1; omega
     ·have q1:=(e2 hil).1
      have q2:=(f2 (by omega)).1;have q3:=(g2 (by omega)).1;obtain ⟨n',hn',_,_,hp⟩:=stuck r (fun h => (e2 h).2) (by omega) hil;exact ⟨by omega,n',hn',hp⟩
    ·left; omega
  refine zal rfl rfl (beq_eq_false_iff_ne.2 k1) ?_;refine mF ?_;refine mO ?_;by_cases k2:r = 2
  ·refine zaf rfl rfl (beq_iff_eq.2 k2) ?_
   refine mT ?_;refine mQ ?_;refine zaA (n:=out.length) rfl rfl (zbd out) ?_;by_cases hz:out.length = 0
   ·refine zal rfl rfl (decide_eq_false (by omega)) ?_
    refine zae ?_;refine mwF ?_;refine zau ?_;refine fin i1 (lcM h) out t _ ⟨⟨rfl,rfl,rfl,trivial⟩,rfl,hNR,ht2,hi1,zdJ _,hol⟩ hlt (.inr ⟨rfl,fun hil => by have:=e1 hil; omega,fun hil => ?_⟩);obtain ⟨n',hn',hp,_,_⟩:=stuck r (fun h => (e2 h).2) (by omega) hil;exact ⟨(e2 hil).1,n',hn',hp⟩
   refine zaf rfl rfl (decide_eq_true (by omega)) ?_;refine zae ?_;refine mwT ?_;refine mO ?_;(iterate 2 refine mS ?_);refine zaA (n:=out.length) rfl rfl (zbd out) ?_;refine po_g rfl (hBl i1 hi1 (lcM h) (out.length:Int) (by omega) n2 l2) ?_;rintro x bx n3 l3 ⟨f,i2,rfl,rfl,ff0,ff1,hi2,f1,f2,rfl,rfl⟩;obtain ⟨f,rfl⟩:∃ k':Nat,f = k':=⟨f.toNat,by omega⟩;refine mN ?_;refine mQ ?_;refine po_g rfl (hBl i2 hi2 (lcM (lcM h)) 20 (by decide) n3 l3) ?_;rintro x bx n4 l4 ⟨k,i3,rfl,rfl,v0,v1,hi3,g1,g2,rfl,rfl⟩;obtain ⟨k,rfl⟩:∃ k':Nat,k = k':=⟨k.toNat,by omega⟩;refine mN ?_;refine mP ?_;refine zai ?_;refine zaJ (fun m st => ∃ (j:Nat) (out':L8) (t':Nat),j <= k /\ m = k - j /\ out'.length = out.length + j /\ has st.tm [(0,.ref 0 0),(1,.d (pI N)),(5,.d (.sl t' (pcB out'))),(9,.d (pI f)),(10,.d (pI k)),(11,.d (pI j))] /\ st.bx = [cuC b i3 (lcM (lcM (lcM h)))] /\ NR nt live st.nt st.live [.sl t' (pcB out')] /\ 2 <= t') k ⟨0,out,t,Nat.zero_le _,rfl,rfl,⟨rfl,rfl,rfl,rfl,rfl,rfl,trivial⟩,rfl,hNR,ht2⟩ ?_
   rintro m tm bx n5 l5 ⟨j,out',t',hj,rfl,hlen,ht,hbx,hNR',ht2'⟩;obtain ⟨tm1,rfl⟩:=zah ht;simp only at hbx hNR'; subst hbx
   clear ht;refine zaD (zav (fun st => has st.tm [(0,.ref 0 0),(1,.d (pI N)),(5,.d (.sl t' (pcB out'))),(9,.d (pI f)),(10,.d (pI k)),(11,.d (pI j)),(72,.d (pB (decide (j < k))))] /\ st.bx = [cuC b i3 (lcM (lcM (lcM h)))] /\ st.nt = n5 /\ st.live = l5) ?_ ?_)
   ·refine zaj ?_
    (iterate 2 refine mS ?_);by_cases c1:j < k
    ·refine zaf rfl rfl (decide_eq_true (by omega)) ?_
     (iterate 3 refine mS ?_);refine zay (n:=((f + j:Nat):Int)) rfl rfl rfl (by omega) (by omega) ?_;refine mS ?_;refine zaA (n:=out'.length) rfl rfl (zbd out') ?_;refine zaf rfl rfl (decide_eq_true (by omega)) ?_;refine mN ?_;exact ⟨⟨rfl,rfl,rfl,rfl,rfl,rfl,by rw [decide_eq_true c1]; rfl,trivial⟩,rfl,rfl,rfl⟩
    ·refine zal rfl rfl (decide_eq_false (by omega)) ?_
     refine mS ?_;refine mZ ?_;refine mN ?_;exact ⟨⟨rfl,rfl,rfl,rfl,rfl,rfl,by rw [decide_eq_false c1]; rfl,trivial⟩,rfl,rfl,rfl⟩
   rintro tm bx n6 l6 ⟨ht,hbx,hn6,hl6⟩;obtain ⟨tm2,rfl⟩:=zah ht;simp only at hbx hn6 hl6; subst hbx; subst hn6; subst hl6
   clear ht tm1;refine ze5 (p:=j < k) rfl (fun hjk => ?_) (fun hjk => ?_)
   ·have hfj:f + j < out'.length:=by omega
    have hg:out'[f + j]? = some out'[f + j]:=getElem?_eq_getElem hfj;generalize out'[f + j] = y at hg;refine zau ?_;refine zaD (zai (zaj ?_));(iterate 4 refine mS ?_);refine zay (n:=((f + j:Nat):Int)) rfl rfl rfl (by omega) (by omega) ?_;refine za4 (es:=pcB out') (e:=[.v (.int .u8 y.toNat)]) rfl rfl rfl ⟨by omega,by rw [Int.toNat_natCast]; exact zgc hg⟩ rfl ?_;refine mS ?_;refine zaC (es:=[[.v (.int .u8 y.toNat)]]) rfl ?_;refine za3 (t:=t') (es:=pcB out') (ds:=[[.v (.int .u8 y.toNat)]]) rfl rfl (.inr (mem_cons_of_mem _ (hNR'.mem1 ht2'))) (by rw [zbd]; simp only [length_singleton]; omega) (fun e he => by simp only [mem_singleton] at he; subst he; rfl) (zdr out') ?_;refine mN ?_;refine zaj ?_;refine mS ?_;refine zay (n:=((j + 1:Nat):Int)) rfl rfl rfl (by omega) (by omega) ?_;refine mN ?_;exact ⟨_,by show k - (j + 1) < k - j; omega,j + 1,out' ++ [y],_,by omega,rfl,by rw [length_append,length_singleton]; omega,⟨rfl,rfl,by rw [zdK]; rfl,rfl,rfl,rfl,trivial⟩,rfl,hNR'.byte hn ht2' _,by have:=hNR'.n2 hn; omega⟩
   ·refine zaL ?_
    refine fin i3 (lcM (lcM (lcM h))) out' t' _ ⟨⟨rfl,rfl,rfl,trivial⟩,rfl,hNR',ht2',hi3,zdJ _,by omega⟩ hlt ?_;by_cases hk:k = 0
    ·right
     refine ⟨by omega,fun hil => ?_,fun hil => ?_⟩
     ·have:=e1 hil
      by_cases c1:i1 < b.length
      ·have:=f1 c1
       by_cases c2:i2 < b.length
       ·have:=g1 c2; omega
       ·have:=(g2 (by omega)).1; omega
      ·have:=(f2 (by omega)).1
       have:=(g2 (by omega)).1; omega
     ·have q1:=(e2 hil).1
      have q2:=(f2 (by omega)).1;have q3:=(g2 (by omega)).1;obtain ⟨n',hn',_,_,hp⟩:=stuck r (fun h => (e2 h).2) (by omega) hil;exact ⟨by omega,n',hn',hp⟩
    ·left; omega
  refine zal rfl rfl (beq_eq_false_iff_ne.2 k2) ?_;refine mF ?_;refine zaj ?_;(iterate 2 refine mS ?_);refine po_g rfl (hBl i1 hi1 (lcM h) 26 (by decide) n2 l2) ?_;rintro x bx n3 l3 ⟨v,i2,rfl,rfl,v0,v1,hi2,_,_,rfl,rfl⟩;refine zay (n:=97 + v) rfl rfl rfl rfl (by omega) ?_;refine zf9 (n:=((UInt8.ofNat (97 + v).toNat).toNat:Int)) rfl rfl (by rw [IntKind.wrap_u8]; simp; omega) ?_;refine zaC (es:=[[.v (.int .u8 ((UInt8.ofNat (97 + v).toNat).toNat:Int))]]) rfl ?_;refine za3 (t:=t) (es:=pcB out) (ds:=[[.v (.int .u8 ((UInt8.ofNat (97 + v).toNat).toNat:Int))]]) rfl rfl (.inr (mem_cons_of_mem _ (hNR.mem1 ht2))) (by rw [zbd]; simp only [length_singleton]; omega) (fun e he => by simp only [mem_singleton] at he; subst he; rfl) (zdr out) ?_;refine mN ?_;exact fin i2 (lcM (lcM h)) (out ++ [UInt8.ofNat (97 + v).toNat]) _ _ ⟨⟨rfl,rfl,by rw [zdK]; rfl,trivial⟩,rfl,hNR.byte hn ht2 _,by have:=hNR.n2 hn; omega,hi2,zdJ _,by rw [length_append,length_singleton]; omega⟩ hlt (.inl (by rw [length_append,length_singleton]; omega))
 rintro tm bx n1 l1 ⟨i,h,out,t,⟨ht,hbx,hNR,ht2,hi,hh,hol⟩,hlen⟩;obtain ⟨tm0,rfl⟩:=zah ht;simp only at hbx hNR; subst hbx
 clear ht;refine mO ?_;(iterate 2 refine mS ?_);refine zbQ (es:=pcB out) (l:=0) (h:=N) (rs:=pcB (out.take N)) rfl rfl rfl (za9 rfl rfl) ⟨Nat.zero_le _,by rw [zbd]; exact hlen⟩ (zdr out) (by simp [pcB,map_take]) ?_;refine po_q (v:=.d (pS (out.take N))) rfl ?_ ?_
 ·show (byteL (pcB (out.take N))).map _ = _
  rw [zfc]; rfl
 refine mN ?_;exact zab ⟨.inr rfl,[.d (pS (out.take N))],rfl,cuC b i h,[],rfl,trivial,cuC_lw ..,⟨i,h,hi,hh,rfl⟩,out.take N,rfl,by show (out.take N).length = N; rw [length_take]; omega,hNR.forget⟩
def DvR (b:L8) (K B nt:Nat) (live:List Nat) (x:PV) (bx:LP PC) (n:Nat) (l:List Nat):Prop:=∃ c' rest,bx = c' :: rest /\ x.lw 0 /\ lwL 0 c' /\ Cu b c' /\ QV K B nt live x n l
theorem zbl {b:L8} {K B nt n:Nat} {live l:List Nat} {c:List PC} {rest:LP PC} {cs:List PC} {v:V} (hc:Cu b c) (hN:NR nt live n l cs) (he:erL cs = vC v) (hg:Gd B v) (hR:RowT cs) (hk:v.kids.length <= K):DvR b K B nt live (.ag cs) (c :: rest) n l :=
 ⟨c,rest,rfl,hN.lw,hc.lw,hc,cs,v,rfl,hN,he,hg,hR,hk⟩
theorem rowT1 {a b c d:PC}:RowT [a,b,c,d,.sl 1 []]:=⟨a,b,c,d,1,[],rfl,.inl ⟨rfl,rfl⟩⟩
theorem zbs {k n e:Int} {s:L8} {B:Nat} (hk:i64ok k) (hn:i64ok n) (he:i64ok e) (hs:s.length <= B) (hB:B <= 1048576):Gd B (.mk k n e s []) :=
 ⟨⟨hk,hn,he,by unfold strok; omega,by simp,trivial⟩,⟨fun _ => Nat.zero_le _,trivial⟩,by simp only [V.bulk,V.bulks,length_nil]; omega⟩
theorem zb4 {nt n:Nat} {live l:List Nat} {k m e:Int} {s:L8} (h:NR nt live n l []):NR nt live n l [pI k,pI m,pI e,pS s,.sl 1 []]:=h.plain rfl rfl
theorem zbR {k m e:Int} {s:L8}:erL [pI k,pI m,pI e,pS s,.sl 1 []] = vC (.mk k m e s []):=rfl
theorem str_fn (s:L8):FnV (env T hT) 46 [.d (pS s)] (.ag (vC (.mk 5 0 0 s []))):=by
 refine za1 (zad zdH) (by show 1 <= 5; decide) fun B hB => ?_
 unfold m_s_l02Str;refine mP ?_;refine mO ?_;(iterate 2 refine mS ?_);refine zag (p:=0) (cs:=[pI 5,pI 0,pI 0,pS s,.sl 1 []]) rfl rfl rfl rfl rfl rfl ?_;refine mN ?_;exact zab ⟨.inr rfl,[.ag [pI 5,pI 0,pI 0,pS s,.sl 1 []]],rfl,rfl⟩
theorem intD_fn (n:Int):FnV (env T hT) 47 [.d (pI n)] (.ag (vC (.mk 3 n 0 [] []))):=by
 refine za1 (zad zdI) (by show 1 <= 5; decide) fun B hB => ?_
 unfold m_s_l02Int;refine mP ?_;refine mO ?_;(iterate 2 refine mS ?_);refine zag (p:=0) (cs:=[pI 3,pI n,pI 0,pS [],.sl 1 []]) rfl rfl rfl rfl rfl rfl ?_;refine mN ?_;exact zab ⟨.inr rfl,[.ag [pI 3,pI n,pI 0,pS [],.sl 1 []]],rfl,rfl⟩
def vL (k n e:Int) (s:L8):List PC:=[pI k,pI n,pI e,pS s,.sl 1 []]
theorem lstr_g (s:L8) {bx:LP PC} {nt:Nat} {live:List Nat}:FnG (env T hT) 46 [.d (pS s)] bx nt live (fun x b n l => b = bx /\ x = .ag (vL 5 0 0 s) /\ n = nt /\ l = live):=by
 refine FnG.lift0 (args:=[.d (pS s)]) (R:=fun x n l => x = .ag (vL 5 0 0 s) /\ n = nt /\ l = live) ?_ ⟨trivial,trivial⟩;refine zaR (zad zdH) (by show 1 <= 5; decide) fun B hB => ?_
 unfold m_s_l02Str;refine mP ?_;refine mO ?_;(iterate 2 refine mS ?_);refine zag (p:=0) (cs:=vL 5 0 0 s) rfl rfl rfl rfl rfl rfl ?_;refine mN ?_;exact zab ⟨.inr rfl,[.ag (vL 5 0 0 s)],rfl,⟨trivial,trivial,trivial,trivial,trivial,trivial⟩,rfl,rfl,rfl⟩
theorem int_g (m:Int) {bx:LP PC} {nt:Nat} {live:List Nat}:FnG (env T hT) 47 [.d (pI m)] bx nt live (fun x b n l => b = bx /\ x = .ag (vL 3 m 0 []) /\ n = nt /\ l = live):=by
 refine FnG.lift0 (args:=[.d (pI m)]) (R:=fun x n l => x = .ag (vL 3 m 0 []) /\ n = nt /\ l = live) ?_ ⟨trivial,trivial⟩;refine zaR (zad zdI) (by show 1 <= 5; decide) fun B hB => ?_
 unfold m_s_l02Int;refine mP ?_;refine mO ?_;(iterate 2 refine mS ?_);refine zag (p:=0) (cs:=vL 3 m 0 []) rfl rfl rfl rfl rfl rfl ?_;refine mN ?_;exact zab ⟨.inr rfl,[.ag (vL 3 m 0 [])],rfl,⟨trivial,trivial,trivial,trivial,trivial,trivial⟩,rfl,rfl,rfl⟩
def i64B (n:Int):Bool:=decide (-9223372036854775808 <= n) && decide (n <= 9223372036854775807)
theorem zeA {n:Int} (h:i64B n = true):i64ok n:=by
 unfold i64B at h;simp only [Bool.and_eq_true,decide_eq_true_eq] at h;exact ⟨h.1,h.2⟩
theorem zak {n:Int} (h:-1000 <= n /\ n <= 2000000):i64ok n:=by unfold i64ok; omega
theorem zeB {b:L8} (hb:b.length <= 2147483647) (pl:Bool):Drw (env T hT) b 45 [.d (pB pl)] (QV 0 20):=by
 rintro c nt live hc hn;refine zaR (R:=DvR b 0 20 nt live) (zad ze8) (by show 2 <= 48; decide) fun B hB' => ?_
 have hBl:=fun m => zba (T:=T) (hT:=hT) hb m
 unfold m_s_l02Leaf;refine mP ?_;refine zav (fun st => ∃ c1,Cu b c1 /\ has st.tm [(0,.ref 0 0),(4,.ref 1 0)] /\ st.bx = [c1,[pI 0,pI 0,pI 0,pS [],.sl 1 []]] /\ NR nt live st.nt st.live []) ?_ ?_
 ·refine mQ ?_
  refine po_g rfl ((hBl 9).use ⟨trivial,trivial⟩ hc hn (p:=0) rfl) ?_;rintro x bx n1 l1 ⟨c1,rfl,hc1,r,rfl,r0,r1,hN1⟩;have hn1:=hN1.n2 hn;refine zae ?_;refine zai ?_;refine mO ?_;by_cases k0:r = 0
  ·refine zaf rfl rfl (beq_iff_eq.2 k0) ?_
   refine mT ?_;refine mQ ?_;refine po_g rfl ((hBl 3).use ⟨trivial,trivial⟩ hc1 hn1 (p:=0) rfl) ?_;rintro x bx n2 l2 ⟨c2,rfl,hc2,v,rfl,v0,v1,hN2⟩;refine mS ?_;refine zag (p:=1) (cs:=[pI v,pI 0,pI 0,pS [],.sl 1 []]) rfl rfl rfl rfl rfl rfl ?_;refine mN ?_;exact zab ⟨.inr rfl,[.ag [pI v,pI 0,pI 0,pS [],.sl 1 []]],rfl,zbl hc2 (zb4 (hN1.pass hN2)) zbR (zbs (zak (by omega)) (zak (by omega)) (zak (by omega)) (Nat.zero_le _) (by decide)) rowT1 (Nat.zero_le _)⟩
  refine zal rfl rfl (beq_eq_false_iff_ne.2 k0) ?_;refine mF ?_;refine mO ?_;by_cases k1:r = 1
  ·refine zaf rfl rfl (beq_iff_eq.2 k1) ?_
   refine mT ?_;refine mQ ?_;refine zaC rfl ?_;refine po_g rfl ((zbP (T:=T) (hT:=hT) hb i64B rfl (by show 0 < 5; decide)).use ⟨by simp only [PV.lw,PC.lw]; exact zcT (p:=i64B) rfl,trivial⟩ hc1 (by omega) (p:=0) rfl) ?_;rintro x bx n2 l2 ⟨c2,rfl,hc2,v,rfl,hv,hN2⟩;have hN12:=hN1.up.pass hN2;refine mS ?_;refine zaC rfl ?_;refine po_g rfl ((zbP (T:=T) (hT:=hT) hb i64B rfl (by show 0 < 5; decide)).use ⟨by simp only [PV.lw,PC.lw]; exact zcT (p:=i64B) rfl,trivial⟩ hc2 (by have:=hN12.n2 hn; omega) (p:=0) rfl) ?_;rintro x bx n3 l3 ⟨c3,rfl,hc3,e,rfl,he,hN3⟩;refine mS ?_;refine zag (p:=1) (cs:=[pI 4,pI v,pI e,pS [],.sl 1 []]) rfl rfl rfl rfl rfl rfl ?_;refine mN ?_;exact zab ⟨.inr rfl,[.ag [pI 4,pI v,pI e,pS [],.sl 1 []]],rfl,zbl hc3 (zb4 (hN12.up.pass hN3)) zbR (zbs (zak (by omega)) (zeA hv) (zeA he) (Nat.zero_le _) (by decide)) rowT1 (Nat.zero_le _)⟩
  refine zal rfl rfl (beq_eq_false_iff_ne.2 k1) ?_;refine mF ?_;refine mO ?_;by_cases k2:r = 2
  ·refine zaf rfl rfl (beq_iff_eq.2 k2) ?_
   refine mT ?_;refine mP ?_
   cases pl with
   | true =>
    refine mwF ?_;refine zau ?_
    exact ⟨c1,hc1,⟨rfl,rfl,trivial⟩,rfl,hN1⟩
   | false =>
   refine mwT ?_;refine mO ?_;(iterate 2 refine mS ?_);refine po_g rfl ((hBl 8).use ⟨trivial,trivial⟩ hc1 hn1 (p:=0) rfl) ?_;rintro x bx n2 l2 ⟨c2,rfl,hc2,v,rfl,v0,v1,hN2⟩;obtain ⟨v,rfl⟩:∃ k':Nat,v = k':=⟨v.toNat,by omega⟩;have hN12:=hN1.pass hN2;refine po_g rfl ((text_drw (T:=T) (hT:=hT) hb v (by omega)).use ⟨trivial,trivial⟩ hc2 (hN12.n2 hn) (p:=0) rfl) ?_;rintro x bx n3 l3 ⟨c3,rfl,hc3,s,rfl,hs,hN3⟩;refine mS ?_;refine zag (p:=1) (cs:=[pI 6,pI 0,pI 0,pS s,.sl 1 []]) rfl rfl rfl rfl rfl rfl ?_;refine mN ?_;exact zab ⟨.inr rfl,[.ag [pI 6,pI 0,pI 0,pS s,.sl 1 []]],rfl,zbl hc3 (zb4 (hN12.pass hN3)) zbR (zbs (zak (by omega)) (zak (by omega)) (zak (by omega)) (by omega) (by decide)) rowT1 (Nat.zero_le _)⟩
  refine zal rfl rfl (beq_eq_false_iff_ne.2 k2) ?_;refine mF ?_;refine zav (fun st => has st.tm [(0,.ref 0 0),(4,.ref 1 0),(6,.d (pI r)),(30,.d (pB (decide (r = 3 \/ r = 4))))] /\ st.bx = [c1,[pI 0,pI 0,pI 0,pS [],.sl 1 []]] /\ st.nt = n1 /\ st.live = l1) ?_ ?_
  ·refine mO ?_
   by_cases k3:r = 3
   ·refine zaf rfl rfl (beq_iff_eq.2 k3) ?_
    refine mT ?_;refine zau ?_;exact ⟨⟨rfl,rfl,rfl,by rw [decide_eq_true (.inl k3)]; rfl,trivial⟩,rfl,rfl,rfl⟩
   ·refine zal rfl rfl (beq_eq_false_iff_ne.2 k3) ?_
    refine mF ?_;refine zaj ?_;by_cases k4:r = 4
    ·refine zaf rfl rfl (beq_iff_eq.2 k4) ?_
     refine mN ?_;exact ⟨⟨rfl,rfl,rfl,by rw [decide_eq_true (.inr k4)]; rfl,trivial⟩,rfl,rfl,rfl⟩
    ·refine zal rfl rfl (beq_eq_false_iff_ne.2 k4) ?_
     refine mN ?_;exact ⟨⟨rfl,rfl,rfl,by rw [decide_eq_false (by omega)]; rfl,trivial⟩,rfl,rfl,rfl⟩
  rintro tm bx n2 l2 ⟨ht,hbx,hn2,hl2⟩;obtain ⟨tm0,rfl⟩:=zah ht;simp only at hbx hn2 hl2; subst hbx; subst hn2; subst hl2
  clear ht;refine ze5 (p:=r = 3 \/ r = 4) rfl (fun k => ?_) (fun k => ?_)
  ·refine mQ ?_
   refine zaC rfl ?_;refine po_g rfl ((zb3 (T:=T) (hT:=hT) hb (fun s => decide (s.length <= 20)) rfl (by show 0 < 5; decide)).use ⟨by simp only [PV.lw,PC.lw]; exact zcp (p:=fun s => decide (s.length <= 20)) rfl,trivial⟩ hc1 (by omega) (p:=0) rfl) ?_;rintro x bx n3 l3 ⟨c3,rfl,hc3,s,rfl,hs,hN3⟩;refine po_g rfl (lstr_g (T:=T) (hT:=hT) s) ?_;rintro x b' n4 l4 ⟨hb4,rfl,hn4,hl4⟩
   subst hb4; subst hn4; subst hl4
   refine zag (p:=1) (cs:=vL 5 0 0 s) rfl rfl rfl rfl rfl rfl ?_;refine mN ?_;exact zab ⟨.inr rfl,[.ag (vL 5 0 0 s)],rfl,zbl hc3 (zb4 (hN1.up.pass hN3)) zbR (zbs (zak (by omega)) (zak (by omega)) (zak (by omega)) (of_decide_eq_true hs) (by decide)) rowT1 (Nat.zero_le _)⟩
  ·refine mO ?_
   by_cases k5:r = 5
   ·refine zaf rfl rfl (beq_iff_eq.2 k5) ?_
    refine mT ?_;refine mQ ?_;refine po_g rfl ((some_drw (T:=T) (hT:=hT) hb).use trivial hc1 hn1 (p:=0) rfl) ?_;rintro x bx n3 l3 ⟨c3,rfl,hc3,s,rfl,hs,hN3⟩;refine po_g rfl (lstr_g (T:=T) (hT:=hT) s) ?_;rintro x b' n4 l4 ⟨hb4,rfl,hn4,hl4⟩
    subst hb4; subst hn4; subst hl4
    refine zag (p:=1) (cs:=vL 5 0 0 s) rfl rfl rfl rfl rfl rfl ?_;refine mN ?_;exact zab ⟨.inr rfl,[.ag (vL 5 0 0 s)],rfl,zbl hc3 (zb4 (hN1.pass hN3)) zbR (zbs (zak (by omega)) (zak (by omega)) (zak (by omega)) (by omega) (by decide)) rowT1 (Nat.zero_le _)⟩
   ·refine zal rfl rfl (beq_eq_false_iff_ne.2 k5) ?_
    refine mK ?_;exact ⟨c1,hc1,⟨rfl,rfl,trivial⟩,rfl,hN1⟩
 rintro tm bx n1 l1 ⟨c1,hc1,ht,hbx,hN1⟩;obtain ⟨tm0,rfl⟩:=zah ht;simp only at hbx hN1; subst hbx
 clear ht;refine mO ?_;(iterate 2 refine mS ?_);refine po_g rfl ((hBl 1000).use ⟨trivial,trivial⟩ hc1 (hN1.n2 hn) (p:=0) rfl) ?_;rintro x bx n2 l2 ⟨c2,rfl,hc2,v,rfl,v0,v1,hN2⟩;have hN12:=hN1.pass hN2;have hv:i64B v = true:=by unfold i64B; rw [decide_eq_true (by omega),decide_eq_true (by omega)]; rfl
 have hal:allI i64B [[pI 0],[pI 1],[pI 23],[pI 24],[pI 255],[pI 256],[pI 65535],[pI 65536],[pI 4294967295],[pI 4294967296],[pI (-1)],[pI (-24)],[pI (-25)],[pI (-256)],[pI (-257)],[pI 9223372036854775807],[pI (-9223372036854775808)],[pI v]] = true:=by
  show (true && (true && (true && (true && (true && (true && (true && (true && (true && (true && (true && (true && (true && (true && (true && (true && (true && (i64B v && true)))))))))))))))))) = true;rw [hv]; rfl
 refine zaC (es:=[[pI 0],[pI 1],[pI 23],[pI 24],[pI 255],[pI 256],[pI 65535],[pI 65536],[pI 4294967295],[pI 4294967296],[pI (-1)],[pI (-24)],[pI (-25)],[pI (-256)],[pI (-257)],[pI 9223372036854775807],[pI (-9223372036854775808)],[pI v]]) rfl ?_;refine po_g rfl ((zbP (T:=T) (hT:=hT) hb i64B hal (by show 0 < 18; decide)).use ⟨by simp only [PV.lw,PC.lw]; exact zcT hal,trivial⟩ hc2 (by have:=hN12.n2 hn; omega) (p:=0) rfl) ?_;rintro x bx n3 l3 ⟨c3,rfl,hc3,q,rfl,hq,hN3⟩;refine po_g rfl (int_g (T:=T) (hT:=hT) q) ?_;rintro x b' n4 l4 ⟨hb4,rfl,hn4,hl4⟩
 subst hb4; subst hn4; subst hl4
 refine zag (p:=1) (cs:=vL 3 q 0 []) rfl rfl rfl rfl rfl rfl ?_;refine mN ?_;exact zab ⟨.inr rfl,[.ag (vL 3 q 0 [])],rfl,zbl hc3 (zb4 (hN12.up.pass hN3)) zbR (zbs (zak (by omega)) (zeA hq) (zak (by omega)) (Nat.zero_le _) (by decide)) rowT1 (Nat.zero_le _)⟩
def mkB:Nat -> Nat
 | 0 => 20
 | d + 1 => 40 + 3 * mkB d
structure Kd (B:Nat) (rows:LP PC) (ks:List V):Prop where
 er:erLL rows = vK ks
 wf:V.wfs ks
 few:V.fews ks
 bulk:V.bulks ks <= B
theorem Kd.nil:Kd 0 [] []:=⟨rfl,trivial,trivial,lR⟩
theorem Kd.len {B:Nat} {rows:LP PC} {ks:List V} (h:Kd B rows ks):rows.length = ks.length:=by
 have:=congrArg length h.er
 rw [zar,length_map,zao] at this; exact this
theorem Kd.wid {B:Nat} {rows:LP PC} {ks:List V} (h:Kd B rows ks):∀ e ∈ rows,e.length = 5:=fun e he => by
 have h1:erL e ∈ vK ks:=by rw [<- h.er,zar]; exact mem_map_of_mem he
 have:=za7 ks _ h1
 rw [zaW,length_map] at this; exact this
theorem bulks_app:∀ a b:List V,V.bulks (a ++ b) = V.bulks a + V.bulks b
 | [],b => by simp [V.bulks]
 | x :: a,b => by simp only [cons_append,V.bulks,bulks_app a b]; omega
theorem Kd.app {B B':Nat} {rows ds:LP PC} {ks ls:List V} (h:Kd B rows ks) (k:Kd B' ds ls):Kd (B + B') (rows ++ ds) (ks ++ ls):=by
 refine ⟨?_,?_,?_,?_⟩
 ·rw [zar,map_append,<- zar,<- zar,h.er,k.er]; simp [vK]
 ·rw [V.wfs_all] at *
  have h1:=V.wfs_all.1 h.wf; have h2:=V.wfs_all.1 k.wf
  intro v hv; exact (mem_append.1 hv).elim (h1 v) (h2 v)
 ·have h1:=V.fews_all.1 h.few; have h2:=V.fews_all.1 k.few
  rw [V.fews_all];intro v hv; exact (mem_append.1 hv).elim (h1 v) (h2 v)
 ·rw [bulks_app]; have:=h.bulk; have:=k.bulk; omega
theorem Kd.one {B:Nat} {cs:List PC} {v:V} (he:erL cs = vC v) (hg:Gd B v):Kd B [cs] [v]:=by
 refine ⟨?_,⟨hg.wf,trivial⟩,⟨hg.few,trivial⟩,by simp only [V.bulks]; have:=hg.bulk; omega⟩;show [erL cs] = [v.d.pc];rw [he,V.pc_eq]
theorem Kd.mono {B B':Nat} {rows:LP PC} {ks:List V} (h:Kd B rows ks) (k:B <= B'):Kd B' rows ks:=⟨h.er,h.wf,h.few,Nat.le_trans h.bulk k⟩
theorem Kd.gd {B B':Nat} {rows:LP PC} {ks:List V} (h:Kd B rows ks) {k n e:Int} {s:L8} (hk:i64ok k) (hn:i64ok n) (he:i64ok e) (h8:k = 8 -> ks.length <= 8) (hl:ks.length <= 4294967295) (hs:s.length <= 4294967295) (hb:s.length + ks.length + B <= B'):Gd B' (.mk k n e s ks) :=
 ⟨⟨hk,hn,he,by unfold strok; omega,by omega,h.wf⟩,⟨h8,h.few⟩,by simp only [V.bulk]; have:=h.bulk; omega⟩
theorem zed {B:Nat} {t:Nat} {rows:LP PC} {ks:List V} (h:Kd B rows ks) (k n e:Int) (s:L8):erL [pI k,pI n,pI e,pS s,.sl t rows] = vC (.mk k n e s ks):=by
 show [pI k,pI n,pI e,pS s,.sl 0 (erLL rows)] = _;rw [h.er]; rfl
theorem zaU {cs:List PC} {v:V} (h:erL cs = vC v):cs.length = 5:=by
 have:=congrArg length h
 rw [zaW,length_map] at this; exact this
theorem keep_t {tm:Nat -> PV} {c c':List PC} {r:LP PC} {k p o:Nat} (h:ev tm (.t k) = .ref (p + 1) o):keepX (ev tm) (c :: r) ((c :: r).set 0 c') (.t k):=by
 unfold keepX; rw [h]; rfl
def zV:List PC:=[pI 0,pI 0,pI 0,pS [],.sl 1 []]
def vRow (k t:Nat) (rows:LP PC):List PC:=[pI k,pI 0,pI 0,pS [],.sl t rows]
theorem NR.row0 {nt n:Nat} {live l:List Nat} {k:Nat} (h:NR nt live n l []):NR nt live n l (vRow k 1 []):=h.plain rfl rfl
theorem NR.kids {nt n n2 t k:Nat} {live l l2:List Nat} {rows ds:LP PC} (h2:2 <= nt) (ht:t = 1 /\ rows = [] \/ 2 <= t) (h:NR nt live n l (vRow k t rows)) (hd:NR n l n2 l2 ds.flatten):NR nt live (n2 + 1) (n2 :: l2.filter (· != t)) (vRow k n2 (rows ++ ds)):=by
 have:=NR.app (a:=[pI k,pI 0,pI 0,pS []]) (b:=[]) (rows:=rows) (ds:=ds) h2 ht (h.trans hd)
 exact this
theorem NR.rowt {nt n t k:Nat} {live l:List Nat} {rows:LP PC} (ht:t = 1 /\ rows = [] \/ 2 <= t) (h:NR nt live n l (vRow k t rows)):t = 1 \/ t ∈ l:=by
 rcases ht with ⟨h1,_⟩ | h2
 ·exact .inl h1
 ·exact .inr (h.mem t (by unfold vRow; simp [toksL,PC.toks,pI,pS,h2])).2.2
theorem NR.rowt2 {nt n n2 t k:Nat} {live l l2:List Nat} {rows:LP PC} {cs:List PC} (ht:t = 1 /\ rows = [] \/ 2 <= t) (h:NR nt live n l (vRow k t rows)) (h2:NR n l n2 l2 cs):t = 1 \/ t ∈ l2:=by
 rcases ht with ⟨h1,_⟩ | h3
 ·exact .inl h1
 ·obtain ⟨a,b,c⟩:=h.mem t (by unfold vRow; simp [toksL,PC.toks,pI,pS,h3])
  exact .inr (h2.keep t c h3 b)
theorem litP1 {e:X -> PV} {x:X} {a:List PC} {n:Nat} (hx:pcells (e x) = some a) (ha:a.length = n):litP e n [x] = some [a]:=by simp only [litP,hx,ha,if_true]
theorem litP2 {e:X -> PV} {x y:X} {a b:List PC} {n:Nat} (hx:pcells (e x) = some a) (hy:pcells (e y) = some b) (ha:a.length = n) (hb:b.length = n):litP e n [x,y] = some [a,b]:=by simp only [litP,hx,hy,ha,hb,if_true]
section
variable {E:Env} {K:St -> Prop} {tm:Nat -> PV} {bx:LP PC} {nt d:Nat} {live:List Nat} {r:List MOpr} {c:List X}
theorem zcq {n:Nat} {xs:List X} {es:LP PC} (hq:litP (ev tm) n xs = some es) (h:po E r K ⟨up d (.d (.sl 0 es)) tm,bx,nt,live⟩):po E (⟨some d,.litq n xs,none,c⟩ :: r) K ⟨tm,bx,nt,live⟩ :=
 po_q rfl (by show (litP (ev tm) n xs).map _ = _; rw [hq]; rfl) h
end
def MkM (b:L8) (d:Nat) (pl:Bool) (m nt:Nat) (live:List Nat) (k:Nat) (st:St):Prop :=
 ∃ (i t:Nat) (rows:LP PC) (ks:List V) (c:List PC) (rest:LP PC),i <= m /\ k = m - i /\ Cu b c /\ has st.tm [(0,.ref 0 0),(1,.d (pI ((d + 1:Nat):Int))),(2,.d (pB pl)),(6,.ref 1 0),(7,.ref 2 0),(8,.d (pI m)),(9,.d (pI i))] /\
  st.bx = c :: zV :: vRow 8 t rows :: rest /\ NR nt live st.nt st.live (vRow 8 t rows) /\ (t = 1 /\ rows = [] \/ 2 <= t) /\ ks.length = 2 * i /\ Kd (i * (10 + mkB d)) rows ks
def MkL (b:L8) (d:Nat) (pl:Bool) (m nt:Nat) (live:List Nat) (k:Nat) (st:St):Prop :=
 ∃ (i t:Nat) (rows:LP PC) (ks:List V) (c:List PC) (rest:LP PC),i <= m /\ k = m - i /\ Cu b c /\ has st.tm [(0,.ref 0 0),(1,.d (pI ((d + 1:Nat):Int))),(2,.d (pB pl)),(6,.ref 1 0),(7,.ref 2 0),(8,.d (pI m)),(11,.d (pI i))] /\
  st.bx = c :: zV :: vRow 7 t rows :: rest /\ NR nt live st.nt st.live (vRow 7 t rows) /\ (t = 1 /\ rows = [] \/ 2 <= t) /\ ks.length = i /\ Kd (i * mkB d) rows ks
theorem leafC (v:V) (h:v.kids = []):ownedL (vC v) = true /\ toksL (vC v) = []:=by
 obtain ⟨k,n,e,s,kids⟩:=v;have h:kids = []:=h
 subst h; exact ⟨rfl,rfl⟩
theorem make_drw {b:L8} (hb:b.length <= 2147483647) (pl:Bool):∀ (d:Nat),d <= 3 -> Drw (env T hT) b 39 [.d (pI d),.d (pB pl)] (QV 6 (mkB d)):=by
 intro d
 induction d with
 | zero =>
  intro _ c nt live hc hn;refine zaR (R:=DvR b 6 (mkB 0) nt live) (zad zc5) (by show 3 <= 90; decide) fun B hB' => ?_
  unfold m_s_l02Make;refine mP ?_;refine mM ?_;refine mS ?_;refine zaf rfl rfl (decide_eq_true (by omega)) ?_;(iterate 1 refine mS ?_);refine mZ ?_;refine mT ?_;refine mO ?_;(iterate 2 refine mS ?_);refine po_g rfl ((zeB (T:=T) (hT:=hT) hb pl).use ⟨trivial,trivial⟩ hc hn (p:=0) rfl) ?_;rintro x bx n l ⟨c1,rfl,hc1,cs,v,rfl,hN,he,hg,hRT,hkl⟩;refine zag (p:=1) (cs:=cs) rfl rfl rfl (zaU he) rfl rfl ?_;refine mN ?_
  exact zab ⟨.inr rfl,[.ag cs],zcD rfl rfl (zaU he),zbl hc1 hN he hg hRT (by omega)⟩
 | succ d ih =>
  intro hd c nt live hc hn;have ih:=ih (by omega);refine zaR (R:=DvR b 6 (mkB (d + 1)) nt live) (zad zc5) (by show 3 <= 90; decide) fun B hB' => ?_
  have hBl:=fun m => zba (T:=T) (hT:=hT) hb m
  unfold m_s_l02Make;refine mP ?_;refine zav (fun st => ∃ c1,Cu b c1 /\ has st.tm [(0,.ref 0 0),(1,.d (pI ((d + 1:Nat):Int))),(2,.d (pB pl)),(6,.ref 1 0)] /\ st.bx = [c1,zV] /\ NR nt live st.nt st.live []) ?_ ?_
  ·refine mQ ?_
   refine zal rfl rfl (decide_eq_false (by omega)) ?_;(iterate 2 refine mS ?_);refine po_gt rfl rfl ((zcG (T:=T) (hT:=hT) hb 3).use ⟨trivial,trivial⟩ hc hn (p:=0) rfl) ?_;rintro x bx n1 l1 ⟨c1,rfl,hc1,q,rfl,hN1⟩;refine mN ?_
   cases q with
   | false =>
    refine mwF ?_;refine zau ?_
    exact ⟨c1,hc1,⟨rfl,rfl,rfl,rfl,trivial⟩,rfl,hN1⟩
   | true =>
   refine mwT ?_;refine mO ?_;(iterate 2 refine mS ?_);refine po_g rfl ((zeB (T:=T) (hT:=hT) hb pl).use ⟨trivial,trivial⟩ hc1 (hN1.n2 hn) (p:=0) rfl) ?_;rintro x bx n l ⟨c2,rfl,hc2,cs,v,rfl,hN,he,hg,hRT,hkl⟩;refine zag (p:=1) (cs:=cs) rfl rfl rfl (zaU he) rfl rfl ?_;refine mN ?_;exact zab ⟨.inr rfl,[.ag cs],zcD rfl rfl (zaU he),zbl hc2 (hN1.trans hN) he (hg.mono (by show 20 <= 40 + 3 * mkB d; omega)) hRT (by omega)⟩
  rintro tm bx n1 l1 ⟨c1,hc1,ht,hbx,hN1⟩;obtain ⟨tm0,rfl⟩:=zah ht;simp only at hbx hN1; subst hbx
  clear ht;have hn1:=hN1.n2 hn;refine mO ?_;refine po_s (v:=.ag (vRow 7 1 [])) rfl rfl rfl ?_;refine zbb (cs:=vRow 7 1 []) rfl rfl rfl rfl ?_;refine mN ?_;refine mQ ?_;refine po_g rfl ((hBl 4).use ⟨trivial,trivial⟩ hc1 hn1 (p:=0) rfl) ?_;rintro x bx n2 l2 ⟨c2,rfl,hc2,m,rfl,m0,m1,hN2⟩;obtain ⟨m,rfl⟩:∃ k':Nat,m = k':=⟨m.toNat,by omega⟩;have hm:m <= 3:=by omega
  have hN12:=hN1.pass hN2;have hn2:=hN12.n2 hn;refine mN ?_;refine zav (fun st => ∃ c1,Cu b c1 /\ has st.tm [(0,.ref 0 0),(1,.d (pI ((d + 1:Nat):Int))),(2,.d (pB pl)),(6,.ref 1 0),(7,.ref 2 0),(8,.d (pI m))] /\ st.bx = [c1,zV,vRow 7 1 []] /\ NR nt live st.nt st.live []) ?_ ?_
  ·refine mQ ?_
   refine po_g rfl ((hBl 5).use ⟨trivial,trivial⟩ hc2 hn2 (p:=0) rfl) ?_;rintro x bx n3 l3 ⟨c3,rfl,hc3,r,rfl,r0,r1,hN3⟩;have hN13:=hN12.pass hN3;have hn3:=hN13.n2 hn;refine zae ?_;refine zai ?_;refine mO ?_;by_cases k0:r = 0
   ·refine zaf rfl rfl (beq_iff_eq.2 k0) ?_
    refine mT ?_;refine mP ?_
    cases pl with
    | true =>
     refine mwF ?_;refine zau ?_
     exact ⟨c3,hc3,⟨rfl,rfl,rfl,rfl,rfl,rfl,trivial⟩,rfl,hN13⟩
    | false =>
    refine mwT ?_;refine mQ ?_;refine zaC rfl ?_;refine po_g rfl ((zbP (T:=T) (hT:=hT) hb (fun r => decide (0 <= r) && decide (r <= 1000000)) rfl (by show 0 < 5; decide)).use ⟨by simp only [PV.lw,PC.lw]; exact zcT (p:=fun r => decide (0 <= r) && decide (r <= 1000000)) rfl,trivial⟩ hc3 (by omega) (p:=0) rfl) ?_;rintro x bx n4 l4 ⟨c4,rfl,hc4,v,rfl,hv,hN4⟩;simp only [Bool.and_eq_true,decide_eq_true_eq] at hv;have hN14:=hN13.up.pass hN4;have hn4:=hN14.n2 hn;(iterate 2 refine mS ?_);refine zbu (n:=(d:Int)) rfl rfl rfl (by omega) (by omega) ?_;refine mS ?_;refine po_g rfl (ih.use ⟨trivial,trivial,trivial⟩ hc4 hn4 (p:=0) rfl) ?_;rintro x bx n5 l5 ⟨c5,rfl,hc5,cs,w,rfl,hN5,he,hg,hRT,hkl⟩;have hcl:=zaU he;refine zaC (es:=[cs]) (by show (if cs.length = 5 then some [cs] else none) = some [cs]; rw [if_pos hcl]) ?_;refine po_s (v:=.ag [pI 9,pI v,pI 0,pS [],.sl n5 [cs]]) rfl rfl rfl ?_
    refine zag (p:=1) (cs:=[pI 9,pI v,pI 0,pS [],.sl n5 [cs]]) rfl rfl rfl rfl rfl rfl ?_;refine mN ?_;have hNl:=NR.lit (es:=[cs]) hn (by simpa using (hN14.trans hN5));exact zab ⟨.inr rfl,[.ag [pI 9,pI v,pI 0,pS [],.sl n5 [cs]]],rfl,zbl hc5 (hNl.plain (by simpa [ownedL,PC.owned,pI,pS] using hNl.own) (by simp [toksL,PC.toks,pI,pS])) (zed (Kd.one he hg) 9 v 0 []) ((Kd.one he hg).gd (zak (by omega)) (zak (by omega)) (zak (by omega)) (fun h => by cases h) (by simp) (by simp) (by show 0 + 1 + mkB d <= 40 + 3 * mkB d; omega)) ⟨_,_,_,_,n5,[cs],rfl,.inr (by have:=hN5.n2 hn4; omega)⟩ (by show 1 <= 6; decide)⟩
   refine zal rfl rfl (beq_eq_false_iff_ne.2 k0) ?_;refine mF ?_;refine zav (fun st => has st.tm [(0,.ref 0 0),(1,.d (pI ((d + 1:Nat):Int))),(2,.d (pB pl)),(6,.ref 1 0),(7,.ref 2 0),(8,.d (pI m)),(40,.d (pB (decide (r = 1 \/ r = 2))))] /\ st.bx = [c3,zV,vRow 7 1 []] /\ st.nt = n3 /\ st.live = l3) ?_ ?_
   ·refine mO ?_
    by_cases k3:r = 1
    ·refine zaf rfl rfl (beq_iff_eq.2 k3) ?_
     refine mT ?_;refine zau ?_;exact ⟨⟨rfl,rfl,rfl,rfl,rfl,rfl,by rw [decide_eq_true (.inl k3)]; rfl,trivial⟩,rfl,rfl,rfl⟩
    ·refine zal rfl rfl (beq_eq_false_iff_ne.2 k3) ?_
     refine mF ?_;refine zaj ?_;by_cases k4:r = 2
     ·refine zaf rfl rfl (beq_iff_eq.2 k4) ?_
      refine mN ?_;exact ⟨⟨rfl,rfl,rfl,rfl,rfl,rfl,by rw [decide_eq_true (.inr k4)]; rfl,trivial⟩,rfl,rfl,rfl⟩
     ·refine zal rfl rfl (beq_eq_false_iff_ne.2 k4) ?_
      refine mN ?_;exact ⟨⟨rfl,rfl,rfl,rfl,rfl,rfl,by rw [decide_eq_false (by omega)]; rfl,trivial⟩,rfl,rfl,rfl⟩
   rintro tm bx n4 l4 ⟨ht,hbx,hn4,hl4⟩;obtain ⟨tm1,rfl⟩:=zah ht;simp only at hbx hn4 hl4; subst hbx; subst hn4; subst hl4
   clear ht tm0;refine ze5 (p:=r = 1 \/ r = 2) rfl (fun k => ?_) (fun k => ?_)
   rotate_left
   ·refine zau ?_
    exact ⟨c3,hc3,⟨rfl,rfl,rfl,rfl,rfl,rfl,trivial⟩,rfl,hN13⟩
   refine mQ ?_;refine zas (p:=2) (o':=0) (cs:=[pI 8]) (z:=vRow 7 1 []) rfl rfl rfl ⟨rfl,by show 0 + 1 <= 5; decide⟩ rfl ?_;refine zae ?_;refine zav (fun st => ∃ (t:Nat) (rows:LP PC) (ks:List V) (c:List PC) (rest:LP PC),Cu b c /\ has st.tm [(6,.ref 1 0),(7,.ref 2 0)] /\ st.bx = c :: zV :: vRow 8 t rows :: rest /\ NR nt live st.nt st.live (vRow 8 t rows) /\ (t = 1 /\ rows = [] \/ 2 <= t) /\ ks.length <= 6 /\ Kd (3 * (10 + mkB d)) rows ks) ?_ ?_
   ·refine mP ?_
    refine zai ?_;refine zaJ (MkM b d pl m nt live) m ⟨0,1,[],[],c3,[],Nat.zero_le _,rfl,hc3,⟨rfl,rfl,rfl,rfl,rfl,rfl,rfl,trivial⟩,rfl,hN13.row0,.inl ⟨rfl,rfl⟩,rfl,by rw [Nat.zero_mul]; exact Kd.nil⟩ ?_;rintro k' tm bx n4 l4 ⟨i,t,rows,ks,c4,rest,hi,rfl,hc4,ht,hbx,hN4,ht2,hks,hKd⟩;obtain ⟨tm0,rfl⟩:=zah ht;simp only at hbx hN4; subst hbx
    clear ht;have hn4:=hN4.n2 hn;refine mM ?_;(iterate 2 refine mS ?_);refine po_b rfl rfl (fun q hq => ?_);refine zae ?_;refine zb9 (p:=(i:Int) < m) hq rfl (fun him _ => ?_) (fun him _ => ?_)
    rotate_left
    ·refine zaL ?_
     have hmul:i * (10 + mkB d) <= 3 * (10 + mkB d):=Nat.mul_le_mul_right _ (by omega);exact ⟨t,rows,ks,c4,rest,hc4,⟨rfl,rfl,trivial⟩,rfl,hN4,ht2,by omega,hKd.mono hmul⟩
    refine zau ?_;refine zaD (zai ?_);refine mO ?_;refine zaC rfl ?_;refine mS ?_;have hi3:i < [[pS [110,97,109,101]],[pS [105,100]],[pS [108,105,115,116]],[pS [99,111,109,109,111,110,32,107,101,121]]].length:=by show i < 4; omega
    obtain ⟨s,hs,hsl⟩:=zgg (p:=fun s => decide (s.length <= 10)) rfl hi3;have hsl:=of_decide_eq_true hsl;refine za4 (es:=[[pS [110,97,109,101]],[pS [105,100]],[pS [108,105,115,116]],[pS [99,111,109,109,111,110,32,107,101,121]]]) (e:=[pS s]) rfl rfl rfl ⟨by omega,by rw [Int.toNat_natCast,getElem?_eq_getElem hi3,hs]⟩ rfl ?_;refine mS ?_;refine zac rfl (str_fn (T:=T) (hT:=hT) s) ?_;refine zbb (cs:=vC (.mk 5 0 0 s [])) rfl rfl rfl rfl ?_;refine mN ?_;refine zav (fun st => ∃ (c:List PC) (kv:V),Cu b c /\ (Gd 10 kv /\ kv.kids = []) /\ NR nt live st.nt st.live (vRow 8 t rows) /\ has st.tm [(0,.ref 0 0),(1,.d (pI ((d + 1:Nat):Int))),(2,.d (pB pl)),(6,.ref 1 0),(7,.ref 2 0),(8,.d (pI m)),(9,.d (pI i)),(10,.ref (rest.length + 3) 0)] /\ st.bx = c :: zV :: vRow 8 t rows :: (rest ++ [vC kv])) ?_ ?_
    ·refine zav (fun st => ∃ (c:List PC) (q:Bool),Cu b c /\ NR nt live st.nt st.live (vRow 8 t rows) /\ has st.tm [(0,.ref 0 0),(1,.d (pI ((d + 1:Nat):Int))),(2,.d (pB pl)),(6,.ref 1 0),(7,.ref 2 0),(8,.d (pI m)),(9,.d (pI i)),(10,.ref (rest.length + 3) 0),(59,.d (pB q))] /\ st.bx = c :: zV :: vRow 8 t rows :: (rest ++ [vC (.mk 5 0 0 s [])])) ?_ ?_
     ·refine zaj ?_
      refine mS ?_;refine po_g rfl ((zcG (T:=T) (hT:=hT) hb 8).use ⟨trivial,trivial⟩ hc4 (by omega) (p:=0) rfl) ?_;rintro x bx n5 l5 ⟨c5,rfl,hc5,q,rfl,hN5⟩;have hN45:=(hN4.up.trans hN5);rw [append_nil] at hN45;refine mS ?_
      cases q with
      | true =>
       (iterate 2 refine mS ?_);refine mN ?_
       exact ⟨c5,!pl,hc5,hN45,⟨rfl,rfl,rfl,rfl,rfl,rfl,rfl,rfl,rfl,trivial⟩,rfl⟩
      | false =>
       refine mZ ?_;refine mN ?_;exact ⟨c5,false,hc5,hN45,⟨rfl,rfl,rfl,rfl,rfl,rfl,rfl,rfl,rfl,trivial⟩,rfl⟩
     rintro tm bx n5 l5 ⟨c5,q,hc5,hN5,ht,hbx⟩;obtain ⟨tm1,rfl⟩:=zah ht;simp only at hbx hN5; subst hbx
     clear ht
     cases q with
     | false =>
      refine mwF ?_;refine zau ?_
      exact ⟨c5,.mk 5 0 0 s [],hc5,⟨zbs (zak (by omega)) (zak (by omega)) (zak (by omega)) hsl (by decide),rfl⟩,hN5,⟨rfl,rfl,rfl,rfl,rfl,rfl,rfl,rfl,trivial⟩,rfl⟩
     | true =>
      refine mwT ?_;refine zaj ?_;refine mS ?_;refine zac rfl (intD_fn (T:=T) (hT:=hT) (i:Int)) ?_;refine zag (p:=rest.length + 3) (cs:=vC (.mk 3 i 0 [] [])) (z:=vC (.mk 5 0 0 s [])) rfl rfl (za0 rest _) rfl rfl rfl ?_;refine mN ?_;refine ⟨c5,.mk 3 i 0 [] [],hc5,⟨zbs (zak (by omega)) (zak (by omega)) (zak (by omega)) (Nat.zero_le _) (by decide),rfl⟩,hN5,⟨rfl,rfl,rfl,rfl,rfl,rfl,rfl,rfl,trivial⟩,?_⟩;show c5 :: zV :: vRow 8 t rows :: ((rest ++ [vC (.mk 5 0 0 s [])]).set rest.length _) = _;rw [set_append_right _ _ lR,Nat.sub_self]; rfl
    rintro tm bx n5 l5 ⟨c5,kv,hc5,⟨hkv,hkk⟩,hN5,ht,hbx⟩;obtain ⟨tm1,rfl⟩:=zah ht;simp only at hbx hN5; subst hbx
    clear ht tm0;have hn5:=hN5.n2 hn;refine zaj ?_;refine mS ?_;refine zaZ (cs:=vRow 8 t rows) (v:=.d (.sl t rows)) rfl rfl rfl (by show 4 + 1 <= 5; decide) rfl ?_;refine zaa (p:=rest.length + 3) (cs:=vC kv) rfl rfl (za0 rest _) rfl ?_;(iterate 2 refine mS ?_);refine zbu (n:=(d:Int)) rfl rfl rfl (by omega) (by omega) ?_;refine mS ?_;refine po_gk rfl (ih.use ⟨trivial,trivial,trivial⟩ hc5 hn5 (p:=0) rfl) ?_ ?_
    ·rintro x bx n l ⟨c',rfl,_⟩ y hy
     simp only [mem_cons,not_mem_nil,or_false] at hy
     rcases hy with rfl | rfl
     ·exact keep_t (p:=1) (o:=4) rfl
     ·exact keep_t (p:=rest.length + 2) (o:=0) rfl
    rintro x bx n6 l6 ⟨c6,rfl,hc6,cs,w,rfl,hN6,he,hg,hRT,hkl⟩;have hcl:=zaU he;refine zcq (litP2 (a:=vC kv) (b:=cs) rfl rfl rfl hcl) ?_;refine za3 (t:=t) (t':=0) (es:=rows) (ds:=[vC kv,cs]) rfl rfl (NR.rowt2 ht2 hN5 hN6) (by rw [hKd.len]; simp only [length_cons,length_nil]; omega) (fun e he => by simp only [mem_cons,not_mem_nil,or_false] at he; rcases he with rfl | rfl; rfl; exact hcl) hKd.wid ?_;refine mS ?_;refine zas (p:=2) (o':=4) (cs:=[.sl n6 (rows ++ [vC kv,cs])]) (z:=vRow 8 t rows) rfl rfl rfl ⟨rfl,by show 4 + 1 <= 5; decide⟩ rfl ?_;refine zae ?_;refine zaj ?_;refine mS ?_;refine zay (n:=((i + 1:Nat):Int)) rfl rfl rfl (by omega) (by omega) ?_;refine mN ?_
    have hds:NR n5 l5 n6 l6 [vC kv,cs].flatten:=by
     obtain ⟨o1,o2⟩:=leafC kv hkk;exact hN6.plain (by show ownedL (vC kv ++ (cs ++ [])) = true; rw [zaS,o1,append_nil,hN6.own]; rfl) (by show toksL (vC kv ++ (cs ++ [])) = _; rw [zaF,o2,append_nil]; rfl)
    exact ⟨_,by show m - (i + 1) < m - i; omega,i + 1,n6,rows ++ [vC kv,cs],ks ++ [kv,w],c6,rest ++ [vC kv],by omega,rfl,hc6,⟨rfl,rfl,rfl,rfl,rfl,rfl,rfl,trivial⟩,rfl,NR.kids hn ht2 hN5 hds,.inr (by have:=hN6.n2 hn5; omega),by rw [length_append]; simp only [length_cons,length_nil]; omega,by rw [Nat.succ_mul]; exact hKd.app ((Kd.one (zap kv) hkv).app (Kd.one he hg))⟩
   rintro tm bx n4 l4 ⟨t,rows,ks,c4,rest,hc4,ht,hbx,hN4,ht2,hks,hKd⟩;obtain ⟨tm1,rfl⟩:=zah ht;simp only at hbx hN4; subst hbx
   clear ht;refine mO ?_;refine zaa (p:=2) (cs:=vRow 8 t rows) rfl rfl rfl rfl ?_;refine zag (p:=1) (cs:=vRow 8 t rows) rfl rfl rfl rfl rfl rfl ?_;refine mN ?_;exact zab ⟨.inr rfl,[.ag (vRow 8 t rows)],rfl,zbl hc4 hN4 (zed hKd 8 0 0 []) (hKd.gd (zak (by omega)) (zak (by omega)) (zak (by omega)) (fun _ => by omega) (by omega) (by simp) (by show 0 + ks.length + 3 * (10 + mkB d) <= 40 + 3 * mkB d; omega)) ⟨_,_,_,_,t,rows,rfl,ht2⟩ (by show ks.length <= 6; omega)⟩
  rintro tm bx n3 l3 ⟨c3,hc3,ht,hbx,hN3⟩;obtain ⟨tm1,rfl⟩:=zah ht;simp only at hbx hN3; subst hbx
  clear ht;refine zav (fun st => ∃ (t:Nat) (rows:LP PC) (ks:List V) (c:List PC) (rest:LP PC),Cu b c /\ has st.tm [(6,.ref 1 0),(7,.ref 2 0)] /\ st.bx = c :: zV :: vRow 7 t rows :: rest /\ NR nt live st.nt st.live (vRow 7 t rows) /\ (t = 1 /\ rows = [] \/ 2 <= t) /\ ks.length <= 3 /\ Kd (3 * mkB d) rows ks) ?_ ?_
  ·refine mP ?_
   refine zai ?_;refine zaJ (MkL b d pl m nt live) m ⟨0,1,[],[],c3,[],Nat.zero_le _,rfl,hc3,⟨rfl,rfl,rfl,rfl,rfl,rfl,rfl,trivial⟩,rfl,hN3.row0,.inl ⟨rfl,rfl⟩,rfl,by rw [Nat.zero_mul]; exact Kd.nil⟩ ?_;rintro k' tm bx n4 l4 ⟨i,t,rows,ks,c4,rest,hi,rfl,hc4,ht,hbx,hN4,ht2,hks,hKd⟩;obtain ⟨tm2,rfl⟩:=zah ht;simp only at hbx hN4; subst hbx
   clear ht;have hn4:=hN4.n2 hn;refine mM ?_;(iterate 2 refine mS ?_);refine po_b rfl rfl (fun q hq => ?_);refine zae ?_;refine zb9 (p:=(i:Int) < m) hq rfl (fun him _ => ?_) (fun him _ => ?_)
   rotate_left
   ·refine zaL ?_
    have hmul:i * mkB d <= 3 * mkB d:=Nat.mul_le_mul_right _ (by omega);exact ⟨t,rows,ks,c4,rest,hc4,⟨rfl,rfl,trivial⟩,rfl,hN4,ht2,by omega,hKd.mono hmul⟩
   refine zau ?_;refine zaD (zai (zaj ?_));refine mS ?_;refine zaZ (cs:=vRow 7 t rows) (v:=.d (.sl t rows)) rfl rfl rfl (by show 4 + 1 <= 5; decide) rfl ?_;(iterate 2 refine mS ?_);refine zbu (n:=(d:Int)) rfl rfl rfl (by omega) (by omega) ?_;refine mS ?_;refine po_gk rfl (ih.use ⟨trivial,trivial,trivial⟩ hc4 hn4 (p:=0) rfl) ?_ ?_
   ·rintro x bx n l ⟨c',rfl,_⟩ y hy
    simp only [mem_cons,not_mem_nil,or_false] at hy;subst hy;exact keep_t (p:=1) (o:=4) rfl
   rintro x bx n6 l6 ⟨c6,rfl,hc6,cs,w,rfl,hN6,he,hg,hRT,hkl⟩;have hcl:=zaU he;refine zcq (litP1 (a:=cs) rfl hcl) ?_;refine za3 (t:=t) (t':=0) (es:=rows) (ds:=[cs]) rfl rfl (NR.rowt2 ht2 hN4 hN6) (by rw [hKd.len]; simp only [length_cons,length_nil]; omega) (fun e he => by simp only [mem_singleton] at he; subst he; exact hcl) hKd.wid ?_;refine mS ?_;refine zas (p:=2) (o':=4) (cs:=[.sl n6 (rows ++ [cs])]) (z:=vRow 7 t rows) rfl rfl rfl ⟨rfl,by show 4 + 1 <= 5; decide⟩ rfl ?_;refine zae ?_;refine zaj ?_;refine mS ?_;refine zay (n:=((i + 1:Nat):Int)) rfl rfl rfl (by omega) (by omega) ?_;refine mN ?_;have hds:NR n4 l4 n6 l6 [cs].flatten:=by simpa using hN6
   exact ⟨_,by show m - (i + 1) < m - i; omega,i + 1,n6,rows ++ [cs],ks ++ [w],c6,rest,by omega,rfl,hc6,⟨rfl,rfl,rfl,rfl,rfl,rfl,rfl,trivial⟩,rfl,NR.kids hn ht2 hN4 hds,.inr (by have:=hN6.n2 hn4; omega),by rw [length_append,length_singleton]; omega,by rw [Nat.succ_mul]; exact hKd.app (Kd.one he hg)⟩
  rintro tm bx n4 l4 ⟨t,rows,ks,c4,rest,hc4,ht,hbx,hN4,ht2,hks,hKd⟩;obtain ⟨tm2,rfl⟩:=zah ht;simp only at hbx hN4; subst hbx
  clear ht;refine mO ?_;refine zaa (p:=2) (cs:=vRow 7 t rows) rfl rfl rfl rfl ?_;refine zag (p:=1) (cs:=vRow 7 t rows) rfl rfl rfl rfl rfl rfl ?_;refine mN ?_;exact zab ⟨.inr rfl,[.ag (vRow 7 t rows)],rfl,zbl hc4 hN4 (zed hKd 7 0 0 []) (hKd.gd (zak (by omega)) (zak (by omega)) (zak (by omega)) (fun h => by cases h) (by omega) (by simp) (by show 0 + ks.length + 3 * mkB d <= 40 + 3 * mkB d; omega)) ⟨_,_,_,_,t,rows,rfl,ht2⟩ (by show ks.length <= 6; omega)⟩
theorem er_v {c:PC} {x:Value} (h:c.er = .v x):c = .v x:=by
 cases c <;> simp [PC.er] at h
 rw [h]
theorem qv_form {cs:List PC} {v:V} (he:erL cs = vC v) (hR:RowT cs):∃ (t:Nat) (rows:LP PC),cs = [pI v.kind,pI v.num,pI v.exp,pS v.text,.sl t rows] /\ (t = 1 /\ rows = [] \/ 2 <= t) /\ erLL rows = vK v.kids:=by
 obtain ⟨a,b,c,d,t,rows,rfl,ht⟩:=hR;simp only [erL,vC,cons.injEq,and_true,PC.er,PC.sl.injEq,true_and] at he;obtain ⟨h1,h2,h3,h4,h5⟩:=he;refine ⟨t,rows,?_,ht,h5⟩;rw [er_v h1,er_v h2,er_v h3,er_v h4]; rfl
def vcs (k n e:Int) (s:L8) (t:Nat) (rows:LP PC):List PC:=[pI k,pI n,pI e,pS s,.sl t rows]
def AnP (b:L8) (B nt:Nat) (live:List Nat) (st:St):Prop :=
 ∃ (c:List PC) (k n e:Int) (s:L8) (t:Nat) (rows:LP PC) (ks:List V) (rest:LP PC),Cu b c /\ has st.tm [(0,.ref 0 0),(2,.ref 1 0),(3,.ref 2 0)] /\ st.bx = c :: zV :: vcs k n e s t rows :: rest /\
  NR nt live st.nt st.live (vcs k n e s t rows) /\ (t = 1 /\ rows = [] \/ 2 <= t) /\ erLL rows = vK ks /\ Gd B (.mk k n e s ks) /\ ks.length <= 302
theorem Gd.kd {B:Nat} {k n e:Int} {s:L8} {ks:List V} (h:Gd B (.mk k n e s ks)) {rows:LP PC} (he:erLL rows = vK ks):Kd (V.bulks ks) rows ks:=⟨he,h.wf.2.2.2.2.2,h.few.2,lR⟩
theorem NR.recell {nt n t:Nat} {live l:List Nat} {k m e k' m' e':Int} {s s':L8} {rows:LP PC} (h:NR nt live n l (vcs k m e s t rows)):NR nt live n l (vcs k' m' e' s' t rows):=h.plain h.own rfl
theorem NR.row7 {nt n t:Nat} {live l:List Nat} {k m e:Int} {s:L8} {rows:LP PC} (h:NR nt live n l (vcs k m e s t rows)) (q:Nat):NR nt live n l (vRow q t rows):=h.plain h.own rfl
theorem NR.vcs {nt n t q:Nat} {live l:List Nat} {k m e:Int} {s:L8} {rows:LP PC} (h:NR nt live n l (vRow q t rows)):NR nt live n l (vcs k m e s t rows):=h.plain h.own rfl
theorem bulk_len {k n e:Int} {s:L8} {ks:List V} {B:Nat} (h:Gd B (.mk k n e s ks)):ks.length <= B /\ s.length + ks.length + V.bulks ks <= B:=by
 have:=h.bulk
 simp only [V.bulk] at this; omega
theorem any_drw {b:L8} (hb:b.length <= 2147483647):Drw (env T hT) b 22 [] (QV 302 4000):=by
 rintro c nt live hc hn;refine zaR (R:=DvR b 302 4000 nt live) (zad zge) (by show 1 <= 74; decide) fun B hB' => ?_
 have hBl:=fun m => zba (T:=T) (hT:=hT) hb m
 unfold m_s_l02Any;refine mP ?_;refine mO ?_;(iterate 2 refine mS ?_);refine po_g rfl ((zcG (T:=T) (hT:=hT) hb 3).use ⟨trivial,trivial⟩ hc hn (p:=0) rfl) ?_;rintro x bx n1 l1 ⟨c1,rfl,hc1,q,rfl,hN1⟩;refine po_g rfl ((make_drw (T:=T) (hT:=hT) hb q 3 lR).use ⟨trivial,trivial,trivial⟩ hc1 (hN1.n2 hn) (p:=0) rfl) ?_;rintro x bx n2 l2 ⟨c2,rfl,hc2,cs,v,rfl,hN2,he,hg,hR,hk6⟩;have hN12:NR nt live n2 l2 cs:=by simpa using hN1.trans hN2
 obtain ⟨t,rows,hcs,ht2,hrows⟩:=qv_form he hR;obtain ⟨k,n,e,s,ks⟩:=v;simp only [V.kind,V.num,V.exp,V.text,V.kids] at hcs hrows hk6;subst hcs;have hg:Gd 1500 (.mk k n e s ks):=hg.mono (by decide);clear he hR hN1 hN2;refine zbb (cs:=vcs k n e s t rows) rfl rfl rfl rfl ?_;refine mN ?_;have hbl:=bulk_len hg;have hwf:=hg.wf;refine zav (fun st => AnP b 4000 nt live st) ?_ ?_
 ·have keep:∀ (c3:List PC) (hc3:Cu b c3) (st:St),has st.tm [(0,.ref 0 0),(2,.ref 1 0),(3,.ref 2 0)] -> st.bx = c3 :: zV :: vcs k n e s t rows :: [] -> NR nt live st.nt st.live (vcs k n e s t rows) -> AnP b 4000 nt live st:=fun c3 hc3 st h1 h2 h3 => ⟨c3,k,n,e,s,t,rows,ks,[],hc3,h1,h2,h3,ht2,hrows,hg.mono (by decide),by omega⟩
  refine mQ ?_;refine po_g rfl ((hBl 24).use ⟨trivial,trivial⟩ hc2 (hN12.n2 hn) (p:=0) rfl) ?_;rintro x bx n3 l3 ⟨c3,rfl,hc3,r,rfl,r0,r1,hN3⟩;have hN13:=hN12.pass hN3;have hn3:=hN13.n2 hn;refine zae ?_;refine zai ?_;refine mO ?_;by_cases k0:r = 0
  ·refine zaf rfl rfl (beq_iff_eq.2 k0) ?_
   refine mT ?_;refine zaj ?_;refine mS ?_;refine po_g rfl ((hBl 12).use ⟨trivial,trivial⟩ hc3 hn3 (p:=0) rfl) ?_;rintro x bx n4 l4 ⟨c4,rfl,hc4,v,rfl,v0,v1,hN4⟩;refine zbu (n:=v - 1) rfl rfl rfl rfl (by omega) ?_;refine mS ?_;refine zas (p:=2) (o':=0) (cs:=[pI (v - 1)]) (z:=vcs k n e s t rows) rfl rfl rfl ⟨rfl,by show 0 + 1 <= 5; decide⟩ rfl ?_;refine zae ?_;refine ⟨c4,v - 1,n,e,s,t,rows,ks,[],hc4,⟨rfl,rfl,rfl,trivial⟩,rfl,(hN13.pass hN4).recell,ht2,hrows,⟨⟨zak (by omega),hwf.2⟩,⟨fun _ => by omega,hg.few.2⟩,by simp only [V.bulk]; omega⟩,by omega⟩
  refine zal rfl rfl (beq_eq_false_iff_ne.2 k0) ?_;refine mF ?_;refine mO ?_;by_cases k1:r = 1
  ·refine zaf rfl rfl (beq_iff_eq.2 k1) ?_
   refine mT ?_;refine zaj ?_;refine mS ?_;refine zaC rfl ?_;refine po_g rfl ((zbP (T:=T) (hT:=hT) hb i64B rfl (by show 0 < 4; decide)).use ⟨by simp only [PV.lw,PC.lw]; exact zcT (p:=i64B) rfl,trivial⟩ hc3 (by omega) (p:=0) rfl) ?_;rintro x bx n4 l4 ⟨c4,rfl,hc4,v,rfl,hv,hN4⟩;refine mS ?_;refine zas (p:=2) (o':=1) (cs:=[pI v]) (z:=vcs k n e s t rows) rfl rfl rfl ⟨rfl,by show 1 + 1 <= 5; decide⟩ rfl ?_;refine zae ?_;refine ⟨c4,k,v,e,s,t,rows,ks,[],hc4,⟨rfl,rfl,rfl,trivial⟩,rfl,(hN13.up.pass hN4).recell,ht2,hrows,⟨⟨hwf.1,zeA hv,hwf.2.2⟩,hg.few,by simp only [V.bulk]; omega⟩,by omega⟩
  refine zal rfl rfl (beq_eq_false_iff_ne.2 k1) ?_;refine mF ?_;refine mO ?_;by_cases k2:r = 2
  ·refine zaf rfl rfl (beq_iff_eq.2 k2) ?_
   refine mT ?_;refine zaj ?_;refine mS ?_;refine zaZ (cs:=vcs k n e s t rows) (v:=.d (.sl t rows)) rfl rfl rfl (by show 4 + 1 <= 5; decide) rfl ?_;refine mS ?_;refine po_gk rfl ((zeB (T:=T) (hT:=hT) hb false).use ⟨trivial,trivial⟩ hc3 hn3 (p:=0) rfl) ?_ ?_
   ·rintro x bx n l ⟨c',rfl,_⟩ y hy
    simp only [mem_cons,not_mem_nil,or_false] at hy;subst hy;exact keep_t (p:=1) (o:=4) rfl
   rintro x bx n4 l4 ⟨c4,rfl,hc4,cs,w,rfl,hN4,he,hgw,_,_⟩;have hcl:=zaU he;refine zcq (litP1 (a:=cs) rfl hcl) ?_;have hK:=(hg.kd hrows).app (Kd.one he hgw);refine za3 (t:=t) (t':=0) (es:=rows) (ds:=[cs]) rfl rfl (NR.rowt2 ht2 (hN13.row7 7) hN4) (by rw [(hg.kd hrows).len]; simp only [length_cons,length_nil]; omega) (fun e he => by simp only [mem_singleton] at he; subst he; exact hcl) (hg.kd hrows).wid ?_;refine mS ?_;refine zas (p:=2) (o':=4) (cs:=[.sl n4 (rows ++ [cs])]) (z:=vcs k n e s t rows) rfl rfl rfl ⟨rfl,by show 4 + 1 <= 5; decide⟩ rfl ?_;refine zae ?_;have hds:NR n3 l3 n4 l4 [cs].flatten:=by simpa using hN4
   exact ⟨c4,k,n,e,s,n4,rows ++ [cs],ks ++ [w],[],hc4,⟨rfl,rfl,rfl,trivial⟩,rfl,(NR.kids hn ht2 (hN13.row7 7) hds).vcs,.inr (by have:=hN4.n2 hn3; omega),hK.er,hK.gd hwf.1 hwf.2.1 hwf.2.2.1 (fun h8 => by rw [length_append,length_singleton]; omega) (by rw [length_append,length_singleton]; omega) (by omega) (by rw [length_append,length_singleton]; omega),by rw [length_append,length_singleton]; omega⟩
  refine zal rfl rfl (beq_eq_false_iff_ne.2 k2) ?_;refine mF ?_;refine mO ?_;by_cases k3:r = 3
  ·refine zaf rfl rfl (beq_iff_eq.2 k3) ?_
   refine mT ?_;refine mO ?_;refine po_g rfl (lstr_g (T:=T) (hT:=hT) [97]) ?_;rintro x b' n4 l4 ⟨hb4,rfl,hn4,hl4⟩
   subst hb4; subst hn4; subst hl4
   refine po_g rfl (int_g (T:=T) (hT:=hT) 1) ?_;rintro x b' n4 l4 ⟨hb4,rfl,hn4,hl4⟩
   subst hb4; subst hn4; subst hl4
   refine po_g rfl (lstr_g (T:=T) (hT:=hT) [97]) ?_;rintro x b' n4 l4 ⟨hb4,rfl,hn4,hl4⟩
   subst hb4; subst hn4; subst hl4
   refine po_g rfl (int_g (T:=T) (hT:=hT) 2) ?_;rintro x b' n4 l4 ⟨hb4,rfl,hn4,hl4⟩
   subst hb4; subst hn4; subst hl4
   refine zaC (es:=[vL 5 0 0 [97],vL 3 1 0 [],vL 5 0 0 [97],vL 3 2 0 []]) rfl ?_;refine po_s (v:=.ag (vcs 8 0 0 [] n4 [vL 5 0 0 [97],vL 3 1 0 [],vL 5 0 0 [97],vL 3 2 0 []])) rfl rfl rfl ?_;refine zag (p:=1) (cs:=vcs 8 0 0 [] n4 [vL 5 0 0 [97],vL 3 1 0 [],vL 5 0 0 [97],vL 3 2 0 []]) rfl rfl rfl rfl rfl rfl ?_;refine mN ?_;have hNl:=NR.lit (es:=[vL 5 0 0 [97],vL 3 1 0 [],vL 5 0 0 [97],vL 3 2 0 []]) hn (hN13.forget.plain rfl rfl)
   have hK:Kd 10 [vL 5 0 0 [97],vL 3 1 0 [],vL 5 0 0 [97],vL 3 2 0 []] [.mk 5 0 0 [97] [],.mk 3 1 0 [] [],.mk 5 0 0 [97] [],.mk 3 2 0 [] []]:=by
    have one:∀ (a m:Int) (z:L8),i64ok a -> i64ok m -> z.length <= 1 -> Kd 1 [vL a m 0 z] [.mk a m 0 z []]:=fun a m z ha hm hz => Kd.one zbR (zbs ha hm (zak (by omega)) hz (by decide))
    exact ((one 5 0 [97] (zak (by omega)) (zak (by omega)) lR).app ((one 3 1 [] (zak (by omega)) (zak (by omega)) (Nat.zero_le _)).app ((one 5 0 [97] (zak (by omega)) (zak (by omega)) lR).app (one 3 2 [] (zak (by omega)) (zak (by omega)) (Nat.zero_le _))))).mono (by decide)
   exact zab ⟨.inr rfl,[.ag (vcs 8 0 0 [] n4 [vL 5 0 0 [97],vL 3 1 0 [],vL 5 0 0 [97],vL 3 2 0 []])],rfl,zbl hc3 (hNl.plain (by simpa [ownedL,vcs,PC.owned,pI,pS] using hNl.own) rfl) (zed hK 8 0 0 []) (hK.gd (zak (by omega)) (zak (by omega)) (zak (by omega)) (fun _ => by decide) (by decide) (by decide) (by decide)) ⟨_,_,_,_,n4,_,rfl,.inr hn3⟩ (by show 4 <= 302; decide)⟩
  refine zal rfl rfl (beq_eq_false_iff_ne.2 k3) ?_;refine mF ?_;refine mO ?_;by_cases k4:r = 4
  ·refine zaf rfl rfl (beq_iff_eq.2 k4) ?_
   refine mT ?_;refine mQ ?_;refine po_g rfl ((hBl 3).use ⟨trivial,trivial⟩ hc3 hn3 (p:=0) rfl) ?_;rintro x bx n4 l4 ⟨c4,rfl,hc4,v,rfl,v0,v1,hN4⟩;obtain ⟨v,rfl⟩:∃ k':Nat,v = k':=⟨v.toNat,by omega⟩;refine zay (n:=((11 + v:Nat):Int)) rfl rfl rfl (by omega) (by omega) ?_;refine mN ?_;refine mP ?_;refine zai ?_;refine zaJ (fun m st => ∃ (i t:Nat) (k n e:Int) (s:L8) (rows:LP PC) (ks:List V),i <= 11 + v /\ m = 11 + v - i /\ has st.tm [(0,.ref 0 0),(2,.ref 1 0),(3,.ref 2 0),(4,.d (pI ((11 + v:Nat):Int))),(5,.d (pI i))] /\ st.bx = c4 :: zV :: vcs k n e s t rows :: [] /\ NR nt live st.nt st.live (vcs k n e s t rows) /\ (t = 1 /\ rows = [] \/ 2 <= t) /\ erLL rows = vK ks /\ Gd (1500 + i) (.mk k n e s ks) /\ ks.length <= 302) (11 + v) ⟨0,t,k,n,e,s,rows,ks,Nat.zero_le _,rfl,⟨rfl,rfl,rfl,rfl,rfl,trivial⟩,rfl,hN13.pass hN4,ht2,hrows,hg,by omega⟩ ?_
   rintro m tm bx n5 l5 ⟨i,t,k,n,e,s,rows,ks,hi,rfl,ht,hbx,hN5,ht2,hrows,hg,hk302⟩;obtain ⟨tm1,rfl⟩:=zah ht;simp only at hbx hN5; subst hbx
   clear ht;refine mM ?_;(iterate 2 refine mS ?_);refine po_b rfl rfl (fun q hq => ?_);refine zae ?_;refine zb9 (p:=(i:Int) < ((11 + v:Nat):Int)) hq rfl (fun him _ => ?_) (fun him _ => ?_)
   rotate_left
   ·refine zaL ?_
    exact ⟨c4,k,n,e,s,t,rows,ks,[],hc4,⟨rfl,rfl,rfl,trivial⟩,rfl,hN5,ht2,hrows,hg.mono (by omega),hk302⟩
   refine zau ?_;refine zaD (zai (zaj ?_));refine zaa (p:=2) (cs:=vcs k n e s t rows) rfl rfl rfl rfl ?_;refine zaC (es:=[vcs k n e s t rows]) rfl ?_;refine po_s (v:=.ag (vcs 7 0 0 [] n5 [vcs k n e s t rows])) rfl rfl rfl ?_;refine zag (p:=2) (cs:=vcs 7 0 0 [] n5 [vcs k n e s t rows]) rfl rfl rfl rfl rfl rfl ?_;refine zae ?_;refine zaj ?_;refine mS ?_;refine zay (n:=((i + 1:Nat):Int)) rfl rfl rfl (by omega) (by omega) ?_;refine mN ?_;have hNl:=NR.lit (es:=[vcs k n e s t rows]) hn (by simpa using hN5);have hK:Kd (1500 + i) [vcs k n e s t rows] [.mk k n e s ks]:=Kd.one (zed (hg.kd hrows) k n e s) hg;exact ⟨_,by show 11 + v - (i + 1) < 11 + v - i; omega,i + 1,n5,7,0,0,[],[vcs k n e s t rows],[.mk k n e s ks],by omega,rfl,⟨rfl,rfl,rfl,rfl,rfl,trivial⟩,rfl,hNl.plain (by simpa [ownedL,vcs,PC.owned,pI,pS] using hNl.own) rfl,.inr (by have:=hN5.n2 hn; omega),hK.er,hK.gd (zak (by omega)) (zak (by omega)) (zak (by omega)) (fun h => by cases h) (by simp) (by simp) (by simp only [length_nil,length_singleton]; omega),by simp⟩
  refine zal rfl rfl (beq_eq_false_iff_ne.2 k4) ?_;refine mF ?_;refine mO ?_;by_cases k5:r = 5
  ·refine zaf rfl rfl (beq_iff_eq.2 k5) ?_
   refine mT ?_;refine mQ ?_;refine po_g rfl ((hBl 3).use ⟨trivial,trivial⟩ hc3 hn3 (p:=0) rfl) ?_;rintro x bx n4 l4 ⟨c4,rfl,hc4,v,rfl,v0,v1,hN4⟩;obtain ⟨v,rfl⟩:∃ k':Nat,v = k':=⟨v.toNat,by omega⟩;refine zay (n:=((298 + v:Nat):Int)) rfl rfl rfl (by omega) (by omega) ?_;refine mN ?_;refine mO ?_;refine po_s (v:=.ag (vRow 7 1 [])) rfl rfl rfl ?_;refine zag (p:=2) (cs:=vRow 7 1 []) rfl rfl rfl rfl rfl rfl ?_;refine zae ?_;refine mP ?_;refine zai ?_;refine zaJ (fun m st => ∃ (i t:Nat) (rows:LP PC) (ks:List V),i <= 298 + v /\ m = 298 + v - i /\ has st.tm [(0,.ref 0 0),(2,.ref 1 0),(3,.ref 2 0),(6,.d (pI ((298 + v:Nat):Int))),(7,.d (pI i))] /\ st.bx = c4 :: zV :: vRow 7 t rows :: [] /\ NR nt live st.nt st.live (vRow 7 t rows) /\ (t = 1 /\ rows = [] \/ 2 <= t) /\ Kd 0 rows ks /\ ks.length = i) (298 + v) ⟨0,1,[],[],Nat.zero_le _,rfl,⟨rfl,rfl,rfl,rfl,rfl,trivial⟩,rfl,(hN13.pass hN4).forget.row0,.inl ⟨rfl,rfl⟩,Kd.nil,rfl⟩ ?_
   rintro m tm bx n5 l5 ⟨i,t,rows,ks,hi,rfl,ht,hbx,hN5,ht2,hK,hkl⟩;obtain ⟨tm1,rfl⟩:=zah ht;simp only at hbx hN5; subst hbx
   clear ht;refine mM ?_;(iterate 2 refine mS ?_);refine po_b rfl rfl (fun q hq => ?_);refine zae ?_;refine zb9 (p:=(i:Int) < ((298 + v:Nat):Int)) hq rfl (fun him _ => ?_) (fun him _ => ?_)
   rotate_left
   ·refine zaL ?_
    exact ⟨c4,7,0,0,[],t,rows,ks,[],hc4,⟨rfl,rfl,rfl,trivial⟩,rfl,hN5,ht2,hK.er,hK.gd (zak (by omega)) (zak (by omega)) (zak (by omega)) (fun h => by cases h) (by omega) (by simp) (by simp only [length_nil]; omega),by omega⟩
   refine zau ?_;refine zaD (zai (zaj ?_));refine mS ?_;refine zaZ (cs:=vRow 7 t rows) (v:=.d (.sl t rows)) rfl rfl rfl (by show 4 + 1 <= 5; decide) rfl ?_;refine po_s (v:=.ag (vL 0 0 0 [])) rfl rfl rfl ?_;refine zaC (es:=[vL 0 0 0 []]) rfl ?_;refine za3 (t:=t) (t':=n5) (es:=rows) (ds:=[vL 0 0 0 []]) rfl rfl ((NR.rowt ht2 hN5).imp id fun h => mem_cons_of_mem _ h) (by rw [hK.len]; simp only [length_cons,length_nil]; omega) (fun e he => by simp only [mem_singleton] at he; subst he; rfl) hK.wid ?_;refine mS ?_;refine zas (p:=2) (o':=4) (cs:=[.sl (n5 + 1) (rows ++ [vL 0 0 0 []])]) (z:=vRow 7 t rows) rfl rfl rfl ⟨rfl,by show 4 + 1 <= 5; decide⟩ rfl ?_;refine zae ?_;refine zaj ?_;refine mS ?_;refine zay (n:=((i + 1:Nat):Int)) rfl rfl rfl (by omega) (by omega) ?_;refine mN ?_;exact ⟨_,by show 298 + v - (i + 1) < 298 + v - i; omega,i + 1,n5 + 1,rows ++ [vL 0 0 0 []],ks ++ [.mk 0 0 0 [] []],by omega,rfl,⟨rfl,rfl,rfl,rfl,rfl,trivial⟩,rfl,NR.kids hn ht2 hN5 (ds:=[vL 0 0 0 []]) ((NR.refl n5 l5).up.plain rfl rfl),.inr (by have:=hN5.n2 hn; omega),(hK.app (Kd.one (cs:=vL 0 0 0 []) (v:=.mk 0 0 0 [] []) zbR (zbs (B:=0) (k:=0) (n:=0) (e:=0) (s:=[]) (zak (by omega)) (zak (by omega)) (zak (by omega)) (Nat.le_refl 0) (by decide)))).mono lR,by rw [length_append,length_singleton]; omega⟩
  refine zal rfl rfl (beq_eq_false_iff_ne.2 k5) ?_;refine mK ?_;exact keep c3 hc3 _ ⟨rfl,rfl,rfl,trivial⟩ rfl hN13
 rintro tm bx n3 l3 ⟨c3,k,n,e,s,t,rows,ks,rest,hc3,ht,hbx,hN3,ht2,hrows,hg,hk⟩;obtain ⟨tm1,rfl⟩:=zah ht;simp only at hbx hN3; subst hbx
 clear ht;refine mO ?_;refine zaa (p:=2) (cs:=vcs k n e s t rows) rfl rfl rfl rfl ?_;refine zag (p:=1) (cs:=vcs k n e s t rows) rfl rfl rfl rfl rfl rfl ?_;refine mN ?_;exact zab ⟨.inr rfl,[.ag (vcs k n e s t rows)],rfl,zbl hc3 hN3 (zed (hg.kd hrows) k n e s) hg ⟨_,_,_,_,t,rows,rfl,ht2⟩ hk⟩
end
section
def aR (L:List Value):LP PC:=L.map fun v => [.v v]
theorem zfd (L:List Value):(aR L).length = L.length:=by simp [aR]
theorem aR_wid (L:List Value):∀ e ∈ aR L,e.length = 1:=fun e he => by
 obtain ⟨v,_,rfl⟩:=mem_map.1 he; rfl
theorem aR_get {L:List Value} {i:Nat} (h:i < L.length):(aR L)[i]? = some [.v L[i]]:=by simp [aR,getElem?_eq_getElem h]
end
section
end
section
theorem zcH {n:Nat}:∀ (rows:LP PC) (i:Nat),(∀ e ∈ rows,e.length = n) -> rows.flatten.take (n * i) = (rows.take i).flatten
 | [],i,_ => by simp
 | e :: rows,0,_ => by simp
 | e :: rows,i + 1,h => by
  have he:=h e (by simp);rw [flatten_cons,take_append,he,take_of_length_le (by rw [he,Nat.mul_succ]; omega),show n * (i + 1) - n = n * i by rw [Nat.mul_succ]; omega,zcH rows i (fun x hx => h x (by simp [hx]))];rfl
theorem zbS {n:Nat}:∀ (rows:LP PC) (i:Nat),(∀ e ∈ rows,e.length = n) -> rows.flatten.drop (n * i) = (rows.drop i).flatten
 | [],i,_ => by simp
 | e :: rows,0,_ => by simp
 | e :: rows,i + 1,h => by
  have he:=h e (by simp);rw [flatten_cons,drop_append,he,drop_of_length_le (by rw [he,Nat.mul_succ]; omega),show n * (i + 1) - n = n * i by rw [Nat.mul_succ]; omega,zbS rows i (fun x hx => h x (by simp [hx]))];rfl
theorem flat_get {n:Nat} {rows:LP PC} (h:∀ e ∈ rows,e.length = n) {i j:Nat} {e:List PC} (hi:rows[i]? = some e) (hj:j < n):rows.flatten[n * i + j]? = e[j]?:=by
 have he:e.length = n:=h e (mem_of_getElem? hi);have hlt:i < rows.length:=(List.getElem?_eq_some_iff.1 hi).1;have h1:rows.flatten[n * i + j]? = (rows.flatten.drop (n * i))[j]?:=by rw [getElem?_drop]
 rw [h1,zbS rows i h,drop_eq_getElem_cons hlt,flatten_cons]
 have:rows[i] = e:=by rw [getElem?_eq_getElem hlt] at hi; exact Option.some.inj hi
 rw [this,getElem?_append_left (by omega)]
def RwL (n lo:Nat) (live:List Nat) (c:PC) (bx:LP PC) (rows:LP PC):Prop:=RwAt n lo live c bx rows.flatten /\ ∀ e ∈ rows,e.length = n
theorem RwL.len {n lo p len cap:Nat} {live:List Nat} {bx rows:LP PC} (hpos:0 < n) (h:RwL n lo live (.row p len cap) bx rows):∃ z,bx[p]? = some z /\ lo <= p /\ z.length = n * cap /\ len <= cap /\ rows.flatten = z.take (n * len) /\ rows.length = len:=by
 rcases h.1.2 with ⟨t,e,_⟩ | ⟨p',len',cap',z,e,h2,h3,h4,h5,h6⟩
 ·cases e
 ·simp only [PC.row.injEq] at e
  obtain ⟨rfl,rfl,rfl⟩:=e;refine ⟨z,h3,h2,h4,h5,h6,?_⟩;have h7:=congrArg length h6;rw [zaK h.2,length_take,h4,Nat.min_eq_left (Nat.mul_le_mul_left _ h5)] at h7;exact Nat.eq_of_mul_eq_mul_left hpos h7
theorem RwL.set {n lo p len cap i:Nat} {live:List Nat} {z e:List PC} {bx rows:LP PC} (hpos:0 < n) (hR:RwL n lo live (.row p len cap) bx rows) (hi:i < rows.length) (he:e.length = n) (hz:bx[p]? = some z) :
  RwL n lo live (.row p len cap) (bx.set p (spl z (n * i) e)) (rows.set i e):=by
 obtain ⟨z',h1,h2,h4,h5,h6,h7⟩:=hR.len hpos;rw [hz] at h1;simp only [sI] at h1; subst h1
 have hplt:p < bx.length:=by
  rcases Nat.lt_or_ge p bx.length with h' | h'
  ·exact h'
  ·rw [getElem?_eq_none h'] at hz; cases hz
 have hle:n * len <= n * cap:=Nat.mul_le_mul_left _ h5;have hin:n * i + n <= n * len:=by rw [<- Nat.mul_succ]; exact Nat.mul_le_mul_left _ (by omega)
 refine ⟨⟨by rw [length_set]; exact hR.1.1,.inr ⟨p,len,cap,_,rfl,h2,getElem?_set_self hplt,by rw [zf3 (by rw [he]; omega)]; exact h4,h5,?_⟩⟩,fun x hx => ?_⟩
 ·rw [set_eq_take_append_cons_drop,if_pos hi,flatten_append,flatten_cons,<- zcH rows i hR.2,<- zbS rows (i + 1) hR.2,h6]
  unfold spl;have l1:(z.take (n * i)).length = n * i:=by rw [length_take]; omega
  rw [append_assoc,take_append,l1,take_append,he,take_take,take_take,drop_take,Nat.min_eq_left (show n * i <= n * len by omega)];rw [Nat.min_eq_right (show n * i <= n * len by omega),take_of_length_le (l:=e) (by omega),show n * (i + 1) = n * i + n by rw [Nat.mul_succ],show n * len - n * i - n = n * len - (n * i + n) by omega]
 ·rcases mem_or_eq_of_mem_set hx with hx | rfl
  ·exact hR.2 x hx
  ·exact he
def RowG (bx:LP PC) (cs:List PC) (v:V):Prop :=
 erL cs = vC v \/ ∃ p len cap z rows,cs = [pI v.kind,pI v.num,pI v.exp,pS v.text,.row p len cap] /\ bx[p]? = some z /\ z.take (5 * len) = rows.flatten /\ (∀ e ∈ rows,e.length = 5) /\ rows.length = len /\ erLL rows = vK v.kids
theorem zfe {E:Env} {C C':Cx} {w w':World} {bx:LP PC} {l:List Nat} {cs:List PC} {v:V} {vs:List Value} (hI:Inv E.NG E.T C [] (fun _ => False) w) (_hold:∀ t,¬ C.old t) (hJ:Inv E.NG E.T C' bx (· ∈ l) w') (hE:Ext C w C' bx.length (· ∈ l) w') (hG:RowG bx cs v) (hv:RpL C' w' cs vs) :
  ∃ C2,Inv E.NG E.T C2 [] (fun _ => False) w' /\ Ext C w C2 0 (fun _ => False) w' /\ RpL C2 w' (vC v) vs:=by
 have hnb0:C.nb = 0:=hI.nb
 have mk:∀ F2:Nat -> Nat -> Prop,(∀ b o,C'.F b o -> F2 b o) -> (∀ b o,F2 b o -> C'.F b o \/ ∃ p,p < bx.length /\ b = C'.bx p) -> ∃ C2:Cx,C2 = { C' with nb:=0,F:=F2 } /\ Inv E.NG E.T C2 [] (fun _ => False) w' /\ Ext C w C2 0 (fun _ => False) w':=by
  intro F2 h1 h2;refine ⟨_,rfl,?_,?_⟩
  ·exact ⟨rfl,fun q cs hq => by simp at hq,fun q hq => by simp at hq,fun q hq => by simp at hq,fun q r hq => by simp at hq,fun t ht => ht.elim,fun t s b ht => ht.elim,
    fun b o h => (h2 b o h).elim (hJ.fin b o) (fun ⟨p,hp,hb⟩ => by subst hb; obtain ⟨us,e,hh,_⟩:=hJ.box p _ (getElem?_eq_getElem hp); exact zaq hh),hJ.ng,hJ.t⟩
  ·refine ⟨hE.os,hE.tape,hE.output,hE.size,fun b o h => h1 b o (hE.F b o h),hE.fix,hE.block,⟨by rw [hnb0]; exact lR,fun q hq => by rw [hnb0] at hq; omega⟩,fun b o h => ?_,fun t b ht => ht.elim,(fun q hq hq2 => by simp at hq2),hE.tk⟩
   rcases h2 b o h with h | ⟨p,hp,rfl⟩
   ·exact hE.newF b o h
   ·exact .inr (.inl (hE.newB p (by rw [hnb0]; exact Nat.zero_le _) hp))
 rcases hG with he | ⟨p,len,cap,z,rows,rfl,hz,hzt,hw,hrl,her⟩
 ·obtain ⟨C2,e2,i2,x2⟩:=mk C'.F (fun _ _ h => h) (fun _ _ h => .inl h)
  refine ⟨C2,i2,x2,?_⟩;rw [<- he];exact hv.toEr (fun b o h => by rw [e2]; exact h)
 have hp:p < bx.length:=by
  rcases Nat.lt_or_ge p bx.length with h | h
  ·exact h
  ·rw [getElem?_eq_none h] at hz; cases hz
 obtain ⟨us,e0,hh,hlen,hus⟩:=hJ.box p z hz
 have hzl:5 * len <= z.length:=by
  have:=congrArg length hzt
  rw [length_take,zaK hw,hrl] at this; omega
 have hcell:∀ i j,i < len -> j < 5 -> us[5 * i + j]? = some (us.getD (5 * i + j) undef):=fun i j hi hj => by
  have:5 * i + j < us.length:=by rw [hlen]; omega
  rw [getD_eq_getElem?_getD,getElem?_eq_getElem this]; rfl
 have hzc:∀ i j e y,rows[i]? = some e -> e[j]? = some y -> j < 5 -> z[5 * i + j]? = some y:=fun i j e y hi hy hj => by
  have hil:i < len:=by rw [<- hrl]; exact (List.getElem?_eq_some_iff.1 hi).1
  have h1:=flat_get hw hi hj;rw [<- hzt,getElem?_take,if_pos (by omega),hy] at h1;exact h1
 obtain ⟨C2,e2,i2,x2⟩:=mk (fun b o => C'.F b o \/ (b = C'.bx p /\ o < 5 * len)) (fun _ _ h => .inl h) (fun b o h => h.imp id fun h => ⟨p,hp,h.1⟩);refine ⟨C2,i2,x2,?_⟩;obtain ⟨hvl,hvc⟩:=hv;refine ⟨hvl,fun j c y hc hy => ?_⟩
 have hkl:len = v.kids.length:=by
  have:=congrArg length her
  rw [zar,length_map,zao] at this; omega
 match j with
 | 0 =>
  have h:=hvc 0 _ y rfl hy;simp only [vC,getElem?_cons_zero,sI] at hc; subst hc
  cases h with | v _ h => exact .v _ h
 | 1 =>
  have h:=hvc 1 _ y rfl hy;simp only [vC,getElem?_cons_succ,getElem?_cons_zero,sI] at hc; subst hc
  cases h with | v _ h => exact .v _ h
 | 2 =>
  have h:=hvc 2 _ y rfl hy;simp only [vC,getElem?_cons_succ,getElem?_cons_zero,sI] at hc; subst hc
  cases h with | v _ h => exact .v _ h
 | 3 =>
  have h:=hvc 3 _ y rfl hy;simp only [vC,getElem?_cons_succ,getElem?_cons_zero,sI] at hc; subst hc
  cases h with | v _ h => exact .v _ h
 | 4 =>
  have h:=hvc 4 _ y rfl hy;simp only [vC,getElem?_cons_succ,getElem?_cons_zero,sI] at hc; subst hc
  cases h with
  | row _ _ _ hpn hlc hcm =>
  have hra:RowAt C2 w' (C'.bx p) 0 5 (vK v.kids) (fun i j => us.getD (5 * i + j) undef):=by
   refine ⟨by decide,za7 _,fun i j hi hj => ?_,fun i j hi hj => ?_⟩
   ·rw [zao] at hi
    have h5:=hcell i j (by omega) hj
    have:0 + (5 * i + j) = 5 * i + j:=by omega
    rw [this];simp only [World.cell?,hh,getElem?_toArray,h5];rfl
   ·rw [zao] at hi
    rw [e2]; exact .inr ⟨rfl,by omega⟩
  have:=RpC.rd (C:=C2) (w:=w') (vK v.kids) (C'.bx p) 0 5 cap (fun i j => us.getD (5 * i + j) undef) (by rw [zao]; omega) hcm hra (fun i j e y he hy => by
   have hil:i < v.kids.length:=by have:=(List.getElem?_eq_some_iff.1 he).1; rw [zao] at this; exact this
   have hel:e.length = 5:=za7 _ e (mem_of_getElem? he);have hj:j < 5:=by have:=(List.getElem?_eq_some_iff.1 hy).1; omega
   rw [<- her,zar,getElem?_map] at he;obtain ⟨r,hr,rfl⟩:=Option.map_eq_some_iff.1 he;rw [zaW,getElem?_map] at hy;obtain ⟨q,hq,rfl⟩:=Option.map_eq_some_iff.1 hy;have h1:=hus (5 * i + j) q _ (hzc i j r q hr hq hj) (hcell i j (by omega) hj);exact h1.toEr (fun b o h => by rw [e2]; exact .inl h))
  rw [zao,<- hkl] at this
  exact this
 | j + 5 => simp [vC] at hc
theorem FnG.rowA {E:Env} {f:Nat} {args:List PV} {v:V} {ok:Bool} (h:FnG E f args [] 2 [] (fun x bx _ _ => ∃ cs,x = .tup [.ag cs,.d (pB ok)] /\ RowG bx cs v)):FnV E f args (.tup [.ag (vC v),.d (pB ok)]):=by
 intro C w vs hI hnt hold hl hv;have hI':Inv E.NG E.T C [] (· ∈ ([]:List Nat)) w:=⟨hI.nb,hI.box,hI.boxF,hI.boxG,hI.inj,(fun t ht => by cases ht),(fun t s b ht => by cases ht),hI.fin,hI.ng,hI.t⟩;have hold':C.old = (· ∈ ([]:List Nat)):=by funext t; exact propext ⟨fun h => (hold t h).elim,fun h => by cases h⟩
 refine (h C w vs hI' hnt hold' (Nat.le_refl 2) hl hv).mono ?_;rintro e w' ⟨u,x,bx,n,l,C',rfl,⟨cs,rfl,hR⟩,hJ,hn,hE,hx⟩
 match u,hx with
 | _,.tup _ [u0,u1] _ hx =>
  have h0:=hx 0 _ _ rfl rfl;have h1:=hx 1 _ _ rfl rfl
  cases h0 with
  | ag _ us h0 =>
  cases h1 with
  | d _ _ h1 =>
  cases h1 with
  | v _ hob =>
  obtain ⟨C2,i2,x2,r2⟩:=zfe hI hold hJ hE hR h0;refine ⟨_,.tup [.ag (vC v),.d (pB ok)],[],fun _ => False,C2,rfl,congrArg (fun r => some (PV.tup [.ag r,.d (pB ok)])) (zap v),i2,x2,.tup _ [_,_] rfl fun j x y hx hy => ?_⟩
  match j with
  | 0 =>
   simp only [getElem?_cons_zero,sI] at hx hy
   subst hx; subst hy
   exact .ag _ _ r2
  | 1 =>
   simp only [getElem?_cons_succ,getElem?_cons_zero,sI] at hx hy
   subst hx; subst hy
   exact .d _ _ (.v _ hob)
  | j + 2 => simp at hx
theorem FnG.rowA1 {E:Env} {f:Nat} {args:List PV} {v:V} (h:FnG E f args [] 2 [] (fun x bx _ _ => ∃ cs,x = .ag cs /\ RowG bx cs v)):FnV E f args (.ag (vC v)):=by
 intro C w vs hI hnt hold hl hv;have hI':Inv E.NG E.T C [] (· ∈ ([]:List Nat)) w:=⟨hI.nb,hI.box,hI.boxF,hI.boxG,hI.inj,(fun t ht => by cases ht),(fun t s b ht => by cases ht),hI.fin,hI.ng,hI.t⟩;have hold':C.old = (· ∈ ([]:List Nat)):=by funext t; exact propext ⟨fun h => (hold t h).elim,fun h => by cases h⟩
 refine (h C w vs hI' hnt hold' (Nat.le_refl 2) hl hv).mono ?_;rintro e w' ⟨u,x,bx,n,l,C',rfl,⟨cs,rfl,hR⟩,hJ,hn,hE,hx⟩
 cases hx with
 | ag _ us h0 =>
 obtain ⟨C2,i2,x2,r2⟩:=zfe hI hold hJ hE hR h0;exact ⟨_,.ag (vC v),[],fun _ => False,C2,rfl,congrArg (fun r => some (PV.ag r)) (zap v),i2,x2,.ag _ _ r2⟩
theorem RowG.of {n:Nat} {live:List Nat} {c:PC} {bx rows:LP PC} {v:V} (hR:RwL 5 n live c bx rows) (h:erLL rows = vK v.kids):RowG bx [pI v.kind,pI v.num,pI v.exp,pS v.text,c] v:=by
 rcases hR.1.2 with ⟨t,rfl,_,h0⟩ | ⟨p,len,cap,z,rfl,h2,h3,h4,h5,h6⟩
 ·have hr:rows = []:=by
   match rows,h0,hR.2 with
   | [],_,_ => rfl
   | e :: rs,h0,hw =>
    have:=hw e (by simp)
    simp only [flatten_cons,List.append_eq_nil_iff] at h0;rw [h0.1] at this; simp at this
  subst hr;refine .inl ?_;show [pI v.kind,pI v.num,pI v.exp,pS v.text,.sl 0 []] = _;have hk:vK v.kids = []:=h.symm;unfold vC; rw [hk]
 ·obtain ⟨_,_,_,_,_,_,h7⟩:=hR.len (by decide)
  exact .inr ⟨p,len,cap,z,rows,rfl,h3,h6.symm,hR.2,h7,h⟩
end
section
theorem V.own {B:Nat} {w:World} {k m e:Int} {s:L8} {kids:List V} {v1:Value} (h:Own B w (.sl 5 (V.ds kids)) [v1]) :
  Own B w (V.d (.mk k m e s kids)) [.int .i64 k,.int .i64 m,.int .i64 e,.string ⟨s.toArray⟩,v1]:=by
 obtain ⟨fp,h1,h2,h3⟩:=h;refine ⟨fp,h1,h2,?_⟩;simp only [V.d,TreeC,TreeCs,dI,dS]
 exact ⟨[],fp,[_],_,by simp,rfl,rfl,⟨rfl,rfl⟩,[],fp,[_],_,by simp,rfl,rfl,⟨rfl,rfl⟩,[],fp,[_],_,by simp,rfl,rfl,⟨rfl,rfl⟩,
  [],fp,[_],_,by simp,rfl,rfl,⟨rfl,rfl⟩,fp,[],[_],[],by simp,rfl,rfl,by simpa only [TreeC] using h3,rfl,rfl⟩
end
section
def OwnSl (B:Nat) (w:World) (e:TypeId) (n:Nat) (v:Value) (ds:List D):Prop :=
 ∃ xs fp,w.ownsRow B e n v ds.length xs /\ (∀ d ∈ ds,D.width d = n) /\ TreeCs w ds fp xs /\ fp.Nodup /\ (∀ b ∈ fp,B <= b) /\ (∀ g,v.ownBlock = some g -> g ∉ fp)
theorem OwnSl.made {B:Nat} {w:World} {e:TypeId} {n:Nat} {cs:Array Value} {cap:Nat} (hB:B <= w.heap.size) (hm:cap <= maxLen) (hs:cs.size = cap * n):OwnSl B (w.alloc (.cells cs e)) e n (.slice (some ⟨w.heap.size,0,none⟩) 0 cap) [] :=
 ⟨[],[],World.ownsRow_made w cs cap hB hm hs,by simp,by simp [TreeCs],by simp,by simp,by simp⟩
theorem OwnSl.form {B:Nat} {w:World} {e:TypeId} {n:Nat} {v:Value} {ds:List D} (h:OwnSl B w e n v ds):∃ a c,v = .slice a ds.length c:=by
 obtain ⟨xs,fp,hr,_⟩:=h
 rcases hr.2 with ⟨rfl,h2⟩ | ⟨g,cap,cur,rfl,_⟩
 ·rw [h2]; exact ⟨none,0,rfl⟩
 ·exact ⟨_,_,rfl⟩
theorem OwnSl.below {B:Nat} {w w':World} {e:TypeId} {n:Nat} {v:Value} {ds:List D} (h:OwnSl B w e n v ds) (hb:Below w.heap.size w w'):OwnSl B w' e n v ds:=by
 obtain ⟨xs,fp,⟨h1,h2⟩,hw,ht,k1,k2,k3⟩:=h;refine ⟨xs,fp,⟨h1,?_⟩,hw,ht.frame fun b hx => hb.block b (ht.lt b hx),k1,k2,k3⟩
 rcases h2 with h2 | ⟨g,cap,cur,hv,hg,hh,r⟩
 ·exact .inl h2
 ·exact .inr ⟨g,cap,cur,hv,hg,by rw [hb.block g (zaq hh)]; exact hh,r⟩
theorem OwnSl.alloc {B:Nat} {w:World} {e:TypeId} {n:Nat} {v:Value} {ds:List D} (h:OwnSl B w e n v ds) (o:Obj):OwnSl B (w.alloc o) e n v ds:=h.below ((Below.refl _ _).alloc lR o)
theorem OwnSl.setCell {B:Nat} {w:World} {e:TypeId} {n:Nat} {v:Value} {ds:List D} (h:OwnSl B w e n v ds) {p:Addr} (hp:p.block < B) (u:Value):OwnSl B (w.setCell p u) e n v ds:=by
 obtain ⟨xs,fp,hr,hw,ht,k1,k2,k3⟩:=h;exact ⟨xs,fp,ownsRow_setCell_below hr hp u,hw,ht.frame fun b hx => Below.heap_setCell _ _ _ _ (by have:=k2 b hx; omega),k1,k2,k3⟩
theorem OwnSl.own {B:Nat} {w:World} {e:TypeId} {n:Nat} {v:Value} {ds:List D} (h:OwnSl B w e n v ds) (hn:0 < n):Own B w (.sl n ds) [v]:=by
 obtain ⟨xs,fp,⟨h1,h2⟩,hw,ht,k1,k2,k3⟩:=h;by_cases hne:ds = []
 ·subst hne
  rcases h2 with ⟨rfl,_⟩ | ⟨g,cap,cur,rfl,_⟩
  ·exact ⟨[],by simp,by simp,by simp [TreeC]⟩
  ·exact ⟨[],by simp,by simp,by simp [TreeC]⟩
 ·rcases h2 with ⟨_,h2⟩ | ⟨g,cap,cur,rfl,hg,hh,hc1,hc2,hsz,htk⟩
  ·exact absurd (length_eq_zero_iff.1 h2) hne
  ·refine ⟨g :: fp,?_,?_,?_⟩
   ·rw [nodup_cons]; exact ⟨k3 g rfl,k1⟩
   ·intro b hb; rcases mem_cons.1 hb with rfl | hb
    ·exact hg
    ·exact k2 b hb
   ·simp only [TreeC]
    refine ⟨_,cap,rfl,.inr ⟨g,fp,cur,e,rfl,rfl,hh,hn,⟨hc1,hsz⟩,hc2,hw,?_⟩⟩;rw [Nat.mul_comm,htk]; exact ht
theorem zbT {w:World} {news:List Value} {e:TypeId}:∀ j u,news[j]? = some u -> (w.alloc (.cells news.toArray e)).cell? ((⟨w.heap.size,0,none⟩:Addr).add j) = some u:=by
 intro j u hj;rw [zaz,zam (zaB w _)]; simpa using hj
theorem OwnSl.grow {B:Nat} {w0 w1 w':World} {e:TypeId} {n:Nat} {v:Value} {ds ds':List D} {news xs:List Value} {fp f2:List Nat} {g cap:Nat} (hB:B <= w0.heap.size) (hr0:w0.ownsRow B e n v ds.length xs) (hw:∀ d ∈ ds,D.width d = n) (ht:TreeCs w0 ds fp xs) (k1:fp.Nodup) (k2:∀ b ∈ fp,B <= b) (k3:∀ g,v.ownBlock = some g -> g ∉ fp)
  (hb:Below w0.heap.size w0 w1) (n2:f2.Nodup) (b2:∀ b ∈ f2,w0.heap.size <= b) (t2:TreeCs w1 ds' f2 news) (hw':∀ d ∈ ds',D.width d = n)
  (hrow:w'.ownsRow B e n (.slice (some ⟨g,0,none⟩) (ds.length + ds'.length) cap) (ds.length + ds'.length) (xs ++ news)) (hgr:(w1.alloc (.cells news.toArray e)).grownBy w' v.ownBlock) (hg:v.ownBlock = some g \/ g = (w1.alloc (.cells news.toArray e)).heap.size) :
  OwnSl B w' e n (.slice (some ⟨g,0,none⟩) (ds.length + ds'.length) cap) (ds ++ ds') /\ Below B w0 w':=by
 have hal:Below w1.heap.size w1 (w1.alloc (.cells news.toArray e)):=(Below.refl _ _).alloc lR _;have hb2:=zan hb hal lR;have hbl:∀ k,v.ownBlock = some k -> B <= k /\ k < w0.heap.size:=hr0.lt;have hsz:=hb.size;have hsz2:(w1.alloc (.cells news.toArray e)).heap.size = w1.heap.size + 1:=by simp
 have hfr:∀ b,b < (w1.alloc (.cells news.toArray e)).heap.size -> v.ownBlock ≠ some b -> w'.heap[b]? = (w1.alloc (.cells news.toArray e)).heap[b]?:=fun b h1 h2 => hgr.block b h1 (fun h => h2 h.symm)
 refine ⟨⟨xs ++ news,fp ++ f2,by rw [length_append]; exact hrow,?_,TreeCs.append (ht.frame fun b hx => ?_) (t2.frame fun b hx => ?_),?_,?_,?_⟩,?_⟩
 ·intro d hd; rcases mem_append.1 hd with h | h
  ·exact hw d h
  ·exact hw' d h
 ·have:=ht.lt b hx
  rw [hfr b (by omega) (fun h => k3 b h hx),hb2.block b this]
 ·have:=t2.lt b hx
  rw [hfr b (by omega) (fun h => by have:=(hbl b h).2; have:=b2 b hx; omega),hal.block b this]
 ·rw [nodup_append]
  refine ⟨k1,n2,fun a ha b hb' => ?_⟩
  have:=ht.lt a ha; have:=b2 b hb'; omega
 ·intro b hx; rcases mem_append.1 hx with h | h
  ·exact k2 b h
  ·exact Nat.le_trans hB (b2 b h)
 ·intro g' hg'
  obtain rfl:g = g':=by simpa [Value.ownBlock] using hg'
  intro hm
  rcases mem_append.1 hm with h | h
  ·rcases hg with hg | hg
   ·exact k3 g hg h
   ·have:=ht.lt g h; omega
  ·rcases hg with hg | hg
   ·have:=(hbl g hg).2; have:=b2 g h; omega
   ·have:=t2.lt g h; omega
 ·exact (hb2.mono hB).grown hgr (by omega) (fun k hk => (hbl k hk).1)
theorem wp_appD {P:Program} {ops:Array Oper} {rest:List Oper} {o:Oper} {a:Act} {Q:Exit -> Act -> World -> Prop} {t e:TypeId} {n bytes:Nat} {s x:Operand} {v:Value} {ds ds':List D} {news:List Value} {w0 w1:World}
  (T:ElemTy P t e n bytes) (hgd:o.guard = none) (ho:o.op = .call { callee:=.builtin .append,args:=#[s,x],argTypes:=#[t,t] })
  (B:Nat) (hown:OwnSl B w0 e n v ds) (hb:Below w0.heap.size w0 w1) (hB:B <= w0.heap.size) (k:Owns w0.heap.size w1 ds' news) (hw':∀ d ∈ ds',D.width d = n) (hne:0 < ds'.length) (h1:∀ u ∈ news,u.oneCell' = true)
  (hs:a.eval s = v) (c:Nat) (hx:a.eval x = .slice (some ⟨w1.heap.size,0,none⟩) ds'.length c) (h63:ds.length + ds'.length <= 4294967296) (hby:bytes <= 32768)
  (h:∀ g cap w',OwnSl B w' e n (.slice (some ⟨g,0,none⟩) (ds.length + ds'.length) cap) (ds ++ ds') -> Below B w0 w' -> wpList P ops Q rest (a.put o.dst (.slice (some ⟨g,0,none⟩) (ds.length + ds'.length) cap)) w'):wpList P ops Q (o :: rest) a (w1.alloc (.cells news.toArray e)):=by
 obtain ⟨xs,fp,hr,hw,ht,k1,k2,k3⟩:=hown;obtain ⟨f2,n2,b2,t2⟩:=k;obtain ⟨i,z,g1,g2,g3,g4,g5⟩:=T.info
 have hwd:∀ ds:List D,(∀ d ∈ ds,D.width d = n) -> D.widths ds = ds.length * n:=by
  intro ds h; induction ds with
  | nil => simp [D.widths]
  | cons x r ih => simp only [D.widths,h x (by simp),ih (fun d hd => h d (by simp [hd])),length_cons,Nat.succ_mul]; omega
 have hr':(w1.alloc (.cells news.toArray e)).ownsRow B e n v ds.length xs:=by
  have hb2:=zan hb ((Below.refl w1.heap.size w1).alloc lR (.cells news.toArray e)) lR;refine ⟨hr.1,?_⟩
  rcases hr.2 with h2 | ⟨g,cap,cur,hv,hg,hh,r⟩
  ·exact .inl h2
  ·exact .inr ⟨g,cap,cur,hv,hg,by rw [hb2.block g (zaq hh)]; exact hh,r⟩
 have hsz:=hb.size
 refine wpList_append_lies _ hgd s x t ho B e i z n bytes T.under g1 g2 g3 g4 g5 T.pos v ds.length xs hs hr' ⟨w1.heap.size,0,none⟩ ds'.length c news hx (by rw [t2.len,hwd ds' hw']) zbT h1 hne (by unfold maxLen; omega)
  (Nat.le_trans (Nat.mul_le_mul h63 hby) (by decide)) (by simp; omega) _ rfl ?_
 intro g cap w' q1 q2 q3 _;obtain ⟨r1,r2⟩:=OwnSl.grow hB hr hw ht k1 k2 k3 hb n2 b2 t2 hw' q1 q2 q3;exact h g cap w' r1 r2
end
section
theorem run_mk0 {P:Program} {t e:TypeId} {size bytes:Nat} (T:ElemTy P t e size bytes) (n:Nat) (hn:n <= 4294967296) (hb:bytes <= 32768) :
  ∃ cs:Array Value,cs.size = n * size /\ ∀ w:World,(Instr.makeSlice t (.int .i64 0) (.int .i64 (n:Nat))).run P w = .ok (.slice (some ⟨w.heap.size,0,none⟩) 0 n) (w.alloc (.cells cs e)):=by
 obtain ⟨i,z,h1,h2,h3,h4,h5⟩:=T.info;refine ⟨madeCells z.cells (n * i.size),?_,fun w => ?_⟩
 ·rw [size_madeCells,h3]
 ·have:=run_make (P:=P) w t e i z T.under h1 h2 .i64 .i64 0 (n:Nat) (by omega) (by omega) (by
   rw [h4]; have:=Nat.mul_le_mul hb hn; have h:((bytes * n:Nat):Int) <= ((32768 * 4294967296:Nat):Int):=by exact_mod_cast this
   rw [Int.natCast_mul] at h; exact Int.le_trans h (by decide)) (by omega)
  simpa using this
theorem V.cells_one {w:World} {x:V} {cs:List Value} (h:Rd w x.d cs):∀ u ∈ cs,u.oneCell' = true:=by
 obtain ⟨k,n,e,s,a,l,c,rfl⟩:=V.form h;intro u hu; simp at hu; rcases hu with rfl | rfl | rfl | rfl | rfl <;> rfl
theorem V.bulk_getB {ls:List V} {m:Nat} (h:ls.length + V.bulks ls <= m) (k:Nat) (hk:k < ls.length):ls[k].bulk <= m:=by
 have h1:=V.bulks_snoc ls k hk; have h2:=V.bulks_take ls (k + 1); omega
theorem V.ds_take (xs:List V) (j:Nat) (h:j < xs.length):V.ds (xs.take (j + 1)) = V.ds (xs.take j) ++ [xs[j].d]:=by
 rw [V.ds_map,V.ds_map,zew V.d xs j h]
theorem V.ds_length (xs:List V):(V.ds xs).length = xs.length:=by rw [V.ds_map,length_map]
end
section
theorem tyVi:ElemTy Tryz.prog 24 26 5 64:=ElemTy.mk' (z:=.agg #[.int .i64 0,.int .i64 0,.int .i64 0,.string ⟨#[]⟩,.slice none 0 0]) Tryz.underlying24 (by kernel_rfl) rfl (by decide)
def CpA (n:Nat):Prop:=∀ (x:V) (cs:List Value) (w:World),x.nodes <= n -> Rd w x.d cs -> x.bulk <= 4294967295 ->
 Calls Tryz.prog 34 #[.agg cs.toArray] w fun e w' => ∃ cs',e = .returned (.agg cs'.toArray) /\ Below w.heap.size w w' /\ Own w.heap.size w' x.d cs'
def CpB (n:Nat):Prop:=∀ (xs:List V) (v:Value) (w:World),V.nodess xs <= n -> Rd w (.sl 5 (V.ds xs)) [v] -> xs.length + V.bulks xs <= 4294967295 ->
 Calls Tryz.prog 62 #[v] w fun e w' => ∃ v',e = .returned v' /\ Below w.heap.size w w' /\ Own w.heap.size w' (.sl 5 (V.ds xs)) [v']
theorem CpB_of {n:Nat} (hA:CpA n):CpB n:=by
 intro xs v w hn h hbk;obtain ⟨a,c,rfl,hg⟩:=h.values;have hl:xs.length <= 4294967295:=by omega
 go_enter Tryz.func62,Tryz.ntmps62
 go_wp2
 go_loopw [3,4] (fun o i wr => ∃ (j:Nat),j <= xs.length /\ i = .int .i64 j /\ OwnSl w.heap.size wr 26 5 o (V.ds (xs.take j)) /\ Below w.heap.size w wr) (fun _ i _ => xs.length - (intOf i).toNat)
 case atStart => exact ⟨0,Nat.zero_le _,rfl,OwnSl.made (cap:=0) lR (by decide) rfl,(Below.refl _ _).alloc lR _⟩
 case round =>
  obtain ⟨j,hj,rfl,hown,hbel⟩:=hrel;obtain ⟨av,cv,rfl⟩:=hown.form;have hdl:(V.ds (xs.take j)).length = j:=by rw [V.ds_length,length_take]; omega
  rw [hdl] at hown ⊢;by_cases hlt:j < xs.length
  ·obtain ⟨_,_,b,o,rfl,hb,hcell⟩:=hg (by intro e; rw [e] at hlt; simp at hlt)
   obtain ⟨v0,v1,v2,v3,v4,hr,d0,d1,d2,d3,d4⟩:=hcell j hlt;clear hcell hg;obtain ⟨k1,k2,k3,s4,a5,n5,m5,hcs⟩:=V.form hr;simp only [cons.injEq,and_true] at hcs;obtain ⟨rfl,rfl,rfl,rfl,rfl⟩:=hcs;have hbc:=(za5 hbel).1;rw [<- hbc _ _ hb] at d0 d1 d2 d3 d4;have i1:(0:Int) <= j:=by omega
   have i2:(j:Int) < xs.length:=by omega
   have hn1:=V.nodes_get xs j hlt;have hb1:=V.bulk_getB hbk j hlt;have HC:=Lib.hid (hA xs[j] _ wr (Nat.le_trans hn1 hn) (hr.below hbel) hb1);have HS:=Lib.hid (V.ds_take xs j hlt);have hsz:=hbel.size;clear hbc hr hn1 hb1
   go_wp2_with (first | (go_at_call 34; refine HC.out.mono ?_; rintro e1 w1 ⟨cs',rfl,hb1,hox⟩; obtain ⟨x0,x1,x2,x3,xa,xl,xc,rfl⟩:=V.form hox.rd) | (at_builtin; refine wp_appD tyVi rfl rfl w.heap.size hown hb1 hsz (Owns.of1 hox) (by intro d hd; simp at hd; subst hd; exact V.width _) (by simp) (V.cells_one hox.rd) rfl 1 rfl (by rw [hdl]; simp; omega) (by decide) ?_))
   intro g cap w2 hown2 hbel2
   try rw [hdl] at hown2
   go_wp2;go_roundw
   case rel => exact ⟨j + 1,by omega,by go_num,by rw [HS.out]; simpa using hown2,hbel.trans hbel2⟩
   case measure => simp [intOf]; omega
  ·obtain rfl:j = xs.length:=by omega
   rw [take_length] at hown;go_wp2;go_ret;exact ⟨_,rfl,hbel,hown.own (by decide)⟩
theorem CpA_of {n:Nat} (hB:CpB n):CpA (n + 1):=by
 intro x cs w hn h hlen;obtain ⟨k,m,e,s,kids,v1,rfl,rfl,hkids⟩:=V.lay h;have hnk:V.nodess kids <= n:=by simp only [V.nodes] at hn; omega
 simp only [V.bulk] at hlen;obtain ⟨va,vc,rfl⟩:=Rd.sl_form hkids;rw [V.ds_length] at hkids ⊢;have hA:=(Below.refl w.heap.size w).alloc lR (.cells #[.int .i64 k,.int .i64 m,.int .i64 e,.string ⟨s.toArray⟩,.slice va kids.length vc] 26);clear h;have hkb:kids.length + V.bulks kids <= 4294967295:=by omega
 go_enter Tryz.func34,Tryz.ntmps34
 go_wp2_with (go_at_call 62; refine (hB _ _ _ hnk (((hkids.alloc _).alloc _).alloc _) hkb).mono ?_; rintro e1 w2 ⟨x2,rfl,hb2,hown2⟩; obtain ⟨a2,m2,n2,rfl⟩:=Rd.sl_any hown2.rd; obtain ⟨hc2,hf2⟩:=za5 hb2; have hz2:=hb2.size; simp at hz2; have g4:w.heap.size < w2.heap.size:=(by omega); have g5:w.heap.size + 1 < w2.heap.size:=(by omega); have g6:w.heap.size + 1 + 1 < w2.heap.size:=(by omega))
 refine bodyPost_ret (v:=.agg #[.int .i64 k,.int .i64 m,.int .i64 e,.string ⟨s.toArray⟩,.slice a2 m2 n2]) ?_ rfl ⟨[.int .i64 k,.int .i64 m,.int .i64 e,.string ⟨s.toArray⟩,.slice a2 m2 n2],rfl,?_,?_⟩
 ·simp [results,Tryz.results34,go_sem,hc2]
 ·iterate 6 (refine Below.setCell ?_ (by simp; try omega) _)
  exact zan ((hA.alloc (by simp; try omega) _).alloc (by simp; try omega) _) hb2 lR
 ·refine Own.mono (B:=w.heap.size + 1 + 1 + 1) ?_ (by omega)
  iterate 6 (refine Own.setCell ?_ (by simp; try omega) _)
  exact V.own (hown2.mono (by simp; try omega))
theorem Cp_all:∀ n,CpA n /\ CpB n
 | 0 => by
  have h0:CpA 0:=fun sh cs w hn => absurd (V.nodes_pos sh) (by omega)
  exact ⟨h0,CpB_of h0⟩
 | n + 1 => by
  have h1:=CpA_of (Cp_all n).2;exact ⟨h1,CpB_of h1⟩
theorem zgh (x:V) (cs:List Value) (w:World) (h:Rd w x.d cs) (hs:x.bulk <= 4294967295) :
  Calls Tryz.prog 34 #[.agg cs.toArray] w fun e w' => ∃ cs',e = .returned (.agg cs'.toArray) /\ Below w.heap.size w w' /\ Own w.heap.size w' x.d cs' :=
 (Cp_all x.nodes).1 x cs w lR h hs
def OwA (n:Nat):Prop:=∀ (x:V) (cs:List Value) (w:World),x.nodes <= n -> Rd w x.d cs -> x.bulk <= 4294967295 ->
 Calls Tryz.prog 28 #[.agg cs.toArray] w fun e w' => ∃ cs',e = .returned (.agg cs'.toArray) /\ Below w.heap.size w w' /\ Own w.heap.size w' x.d cs'
theorem OwA_of {n:Nat} (hA:OwA n):OwA (n + 1):=by
 intro x cs w hn h hlen;obtain ⟨k,m,e,s,kids,v1,rfl,rfl,hkids⟩:=V.lay h;have hnk:V.nodess kids <= n:=by simp only [V.nodes] at hn; omega
 simp only [V.bulk] at hlen;have hkb:kids.length + V.bulks kids <= 4294967295:=by omega
 obtain ⟨a,c,rfl,hg⟩:=hkids.values;by_cases hne:kids = []
 ·subst hne
  clear h hkids hg hlen hkb hnk;simp only [length_nil]
  go_enter Tryz.func28,Tryz.ntmps28
  go_wp2;refine bodyPost_ret (v:=.agg #[.int .i64 k,.int .i64 m,.int .i64 e,.string ⟨s.toArray⟩,.slice none 0 0]) ?_ rfl ⟨[.int .i64 k,.int .i64 m,.int .i64 e,.string ⟨s.toArray⟩,.slice none 0 0],rfl,?_,?_⟩
  ·simp [results,Tryz.results28,go_sem]
  ·exact ((Below.refl _ _).alloc lR _).alloc (by simp) _
  ·exact V.own ⟨[],by simp,by simp,by simp [TreeC,V.ds]⟩
 ·have hpos:0 < kids.length:=length_pos_iff.2 hne
  obtain ⟨_,_,b,o,rfl,hb,hcell⟩:=hg hne;obtain ⟨mcs,hmcs,hmk⟩:=run_mk0 tyVi kids.length (by omega) (by decide);have HMC:=Lib.hid hmcs;obtain ⟨B,hBd⟩:∃ B,B = w.heap.size + 2:=⟨_,rfl⟩;obtain ⟨W1,hW1⟩:∃ W1,W1 = (((w.alloc (.cells #[.int .i64 k,.int .i64 m,.int .i64 e,.string ⟨s.toArray⟩,.slice (some ⟨b,o,none⟩) kids.length c] 26)).alloc (.cells #[.int .i64 0,.int .i64 0,.int .i64 0,.string ⟨#[]⟩,.slice none 0 0] 26)).alloc (.cells mcs 26)):=⟨_,rfl⟩;have HW:=Lib.hid hW1;have hAw:Below w.heap.size w W1:=by rw [hW1]; exact (((Below.refl _ _).alloc lR _).alloc (by simp) _).alloc (by simp <;> omega) _
  have hsz1:W1.heap.size = B + 1:=by rw [hW1,hBd]; simp
  have hst:OwnSl B W1 26 5 (.slice (some ⟨w.heap.size + 1 + 1,0,none⟩) 0 kids.length) (V.ds (kids.take 0)):=by
   rw [hW1]
   have:=OwnSl.made (B:=B) (w:=(w.alloc (.cells #[.int .i64 k,.int .i64 m,.int .i64 e,.string ⟨s.toArray⟩,.slice (some ⟨b,o,none⟩) kids.length c] 26)).alloc (.cells #[.int .i64 0,.int .i64 0,.int .i64 0,.string ⟨#[]⟩,.slice none 0 0] 26)) (e:=26) (n:=5) (cs:=mcs) (cap:=kids.length) (by rw [hBd]; simp) (by unfold maxLen; omega) HMC.out
   simpa [V.ds] using this
  have HST:=Lib.hid hst
  have KB:Hid (∀ W,Below B W1 W -> (W.cell? ⟨w.heap.size,0,none⟩ = some (.int .i64 k) /\ W.cell? ⟨w.heap.size,1,none⟩ = some (.int .i64 m) /\ W.cell? ⟨w.heap.size,2,none⟩ = some (.int .i64 e) /\ W.cell? ⟨w.heap.size,3,none⟩ = some (.string ⟨s.toArray⟩) /\ W.cell? ⟨w.heap.size,4,none⟩ = some (.slice (some ⟨b,o,none⟩) kids.length c)) /\
    (∀ i,W.frozen? ⟨w.heap.size,i,none⟩ = false) /\ (∀ i,W.frozen? ⟨w.heap.size + 1,i,none⟩ = false) /\ (W.cell? ⟨w.heap.size + 1,0,none⟩ = some (.int .i64 0) /\ W.cell? ⟨w.heap.size + 1,1,none⟩ = some (.int .i64 0) /\ W.cell? ⟨w.heap.size + 1,2,none⟩ = some (.int .i64 0) /\ W.cell? ⟨w.heap.size + 1,3,none⟩ = some (.string ⟨#[]⟩) /\ W.cell? ⟨w.heap.size + 1,4,none⟩ = some (.slice none 0 0))):=by
   intro W hb';have g1:w.heap.size < B:=by omega
   have g2:w.heap.size + 1 < B:=by omega
   have hc:∀ b o,b < B -> W.cell? ⟨b,o,none⟩ = W1.cell? ⟨b,o,none⟩:=fun b o h => hb'.cell (p:=⟨b,o,none⟩) h
   have hf:∀ b o,b < B -> W.frozen? ⟨b,o,none⟩ = W1.frozen? ⟨b,o,none⟩:=fun b o h => hb'.frozen (p:=⟨b,o,none⟩) h
   simp only [hc _ _ g1,hc _ _ g2,hf _ _ g1,hf _ _ g2]
   subst hW1; simp [go_sem]
  have hk0:((kids.length:Int) == 0) = false:=by simp; omega
  have hB0:w.heap.size + 1 < B:=by omega
  have hB2:B <= w.heap.size + 2:=by omega
  clear hW1 hmcs h hst hg hpos hne hBd;have HCELL:=Lib.hid hcell;clear hcell
  go_enter Tryz.func28,Tryz.ntmps28
  go_wp2_with fail
  rw [<- HW.out]
  go_loopw [3,19] (fun v i wr => ∃ j:Nat,j <= kids.length /\ i = .int .i64 j /\ OwnSl B wr 26 5 v (V.ds (kids.take j)) /\ Below B W1 wr) (fun _ i _ => kids.length - (intOf i).toNat)
  case atStart => exact ⟨0,Nat.zero_le _,rfl,HST.out,Below.refl _ _⟩
  case round =>
   obtain ⟨j,hj,rfl,hown,hbel⟩:=hrel;obtain ⟨av,cv,rfl⟩:=hown.form;have hdl:(V.ds (kids.take j)).length = j:=by rw [V.ds_length,length_take]; omega
   rw [hdl] at hown ⊢;obtain ⟨⟨p0,p1,p2,p3,p4⟩,f1,f2,⟨q0,q1,q2,q3,q4⟩⟩:=KB.out _ hbel;have hsz:=hbel.size;by_cases hlt:j < kids.length
   ·obtain ⟨v0,v1,v2,v3,v4,hr,d0,d1,d2,d3,d4⟩:=HCELL.out j hlt
    obtain ⟨k1,k2,k3,s4,a5,n5,m5,hcs⟩:=V.form hr;simp only [cons.injEq,and_true] at hcs;obtain ⟨rfl,rfl,rfl,rfl,rfl⟩:=hcs;have hbw:Below w.heap.size w wr:=hAw.trans (hbel.mono (by omega));have hbc:=(za5 hbw).1;rw [<- hbc _ _ hb] at d0 d1 d2 d3 d4;have i1:(0:Int) <= j:=by omega
    have i2:(j:Int) < kids.length:=by omega
    have hn1:=V.nodes_get kids j hlt;have hb1:=V.bulk_getB hkb j hlt;have hal:Below wr.heap.size wr (wr.alloc (.cells #[.int .i64 k1,.int .i64 k2,.int .i64 k3,.string ⟨s4.toArray⟩,.slice a5 n5 m5] 26)):=(Below.refl _ _).alloc lR _;have HC:=Lib.hid (hA kids[j] _ _ (Nat.le_trans hn1 hnk) ((hr.below hbw).below hal) hb1);have HS:=Lib.hid (V.ds_take kids j hlt);clear hbc hr hn1 hb1 p0 p1 p2 p3 p4 f1 f2 q0 q1 q2 q3 q4
    go_wp2_with (first | (go_at_call 28; refine HC.out.mono ?_; rintro e1 w1 ⟨cs',rfl,hb1,hox⟩; obtain ⟨x0,x1,x2,x3,xa,xl,xc,rfl⟩:=V.form hox.rd) | (at_builtin; refine wp_appD tyVi rfl rfl B hown (zan hal hb1 lR) (by omega) (Owns.of1 (hox.mono hal.size)) (by intro d hd; simp at hd; subst hd; exact V.width _) (by simp) (V.cells_one hox.rd) rfl 1 rfl (by rw [hdl]; simp; omega) (by decide) ?_))
    intro g cap w2 hown2 hbel2
    try rw [hdl] at hown2
    go_wp2;go_roundw
    case rel => exact ⟨j + 1,by omega,by go_num,by rw [HS.out]; simpa using hown2,hbel.trans hbel2⟩
    case measure => simp [intOf]; omega
   ·obtain rfl:j = kids.length:=by omega
    rw [take_length] at hown;have fz1:=f1 4;have hz1:w.heap.size + 1 < wr.heap.size:=by omega
    have hz0:w.heap.size < wr.heap.size:=by omega
    go_wp2;refine bodyPost_ret (v:=.agg #[.int .i64 k,.int .i64 m,.int .i64 e,.string ⟨s.toArray⟩,.slice av kids.length cv]) ?_ rfl ⟨[.int .i64 k,.int .i64 m,.int .i64 e,.string ⟨s.toArray⟩,.slice av kids.length cv],rfl,?_,?_⟩
    ·simp [results,Tryz.results28,go_sem,q0,q1,q2,q3,q4]
    ·iterate 6 (refine Below.setCell ?_ (by simp <;> omega) _)
     exact hAw.trans (hbel.mono (by omega))
    ·refine Own.mono (B:=B) ?_ (by omega)
     iterate 6 (refine Own.setCell ?_ (by simp <;> omega) _)
     exact V.own (hown.own (by decide))
theorem Ow_all:∀ n,OwA n
 | 0 => fun x cs w hn => absurd (V.nodes_pos x) (by omega)
 | n + 1 => OwA_of (Ow_all n)
theorem own_any (x:V) (cs:List Value) (w:World) (h:Rd w x.d cs) (hs:x.bulk <= 4294967295) :
  Calls Tryz.prog 28 #[.agg cs.toArray] w fun e w' => ∃ cs',e = .returned (.agg cs'.toArray) /\ Below w.heap.size w w' /\ Own w.heap.size w' x.d cs' :=
 Ow_all x.nodes x cs w lR h hs
end
section
end
section
theorem V.bulk_get {ls:List V} {m:Nat} (h:ls.length + V.bulks ls <= m) (k:Nat) (hk:k < ls.length):ls[k].bulk <= m:=by
 have h1:=V.bulks_snoc ls k hk; have h2:=V.bulks_take ls (k + 1); omega
theorem V.ne_mk {k m e k' m' e':Int} {s s':L8} {kids kids':List V} (h:¬ (k = k' /\ m = m' /\ e = e' /\ s = s' /\ kids = kids')) :
  decide (V.mk k m e s kids = V.mk k' m' e' s' kids') = false:=decide_eq_false (by simpa using h)
end
section
theorem V.nodes_eq0 (v:V):v.nodes = 1 + V.nodess v.kids:=by obtain ⟨k,n,e,s,ks⟩:=v; rfl
end
end Go.Proofs.YtdnjinhlhohfiaaGreatDoor
/- What JSON holds of a value. No program in sight. -/
namespace Go.Proofs.YtdnjinhlhohfiaaGreatDoor
open Go.RowKit
end Go.Proofs.YtdnjinhlhohfiaaGreatDoor
/- What JSON holds of a right value: sizes and steps. No program in sight. -/
namespace Go.Proofs.YtdnjinhlhohfiaaGreatDoor
open Go.RowKit
open Go.Lib (validD)
end Go.Proofs.YtdnjinhlhohfiaaGreatDoor
/- What JSON holds of any value. No program in sight. -/
namespace Go.Proofs.YtdnjinhlhohfiaaGreatDoor
open Go.RowKit
end Go.Proofs.YtdnjinhlhohfiaaGreatDoor
/- How big what JSON holds of a value is. No program in sight. -/
namespace Go.Proofs.YtdnjinhlhohfiaaGreatDoor
open Go.RowKit
end Go.Proofs.YtdnjinhlhohfiaaGreatDoor
namespace Go.Proofs.YtdnjinhlhohfiaaGreatDoor
open Go.RowKit
set_option maxHeartbeats 4000000
set_option maxRecDepth 100000
open List
section
theorem V.wf_kid {v:V} (h:v.wf) (i:Nat) (hi:i < v.kids.length):v.kids[i].wf:=by
 obtain ⟨k,n,e,s,kids⟩:=v;exact V.wfs_get h.2.2.2.2.2 i hi
theorem V.nodes_kid {v:V} {n:Nat} (h:v.nodes <= n + 1) (i:Nat) (hi:i < v.kids.length):v.kids[i].nodes <= n:=by
 obtain ⟨k,m,e,s,kids⟩:=v;have hi':i < kids.length:=hi
 have:=V.nodes_get kids i hi'
 simp only [V.nodes] at h;show kids[i].nodes <= n; omega
end
section
theorem er_sl {c:PC} {x:LP PC} (h:c.er = .sl 0 x):∃ t rows,c = .sl t rows /\ erLL rows = x:=by
 cases c <;> simp [PC.er] at h
 exact ⟨_,_,rfl,h⟩
theorem vform {cs:List PC} {v:V} (he:erL cs = vC v):∃ (t:Nat) (rows:LP PC),cs = vcs v.kind v.num v.exp v.text t rows /\ erLL rows = vK v.kids:=by
 have hl:=zaU he
 match cs,hl with
 | [a,b,c,d,e],_ =>
  simp only [erL,vC,cons.injEq,and_true] at he;obtain ⟨h1,h2,h3,h4,h5⟩:=he;obtain ⟨t,rows,rfl,h6⟩:=er_sl h5;refine ⟨t,rows,?_,h6⟩;rw [er_v h1,er_v h2,er_v h3,er_v h4]; rfl
theorem zeC {rows:LP PC} {ks:List V} (h:erLL rows = vK ks):rows.length = ks.length:=by
 have:=congrArg length h
 rw [zar,length_map,zao] at this; exact this
theorem erk_wid {rows:LP PC} {ks:List V} (h:erLL rows = vK ks):∀ e ∈ rows,e.length = 5:=fun e he => by
 have h1:erL e ∈ vK ks:=by rw [<- h,zar]; exact mem_map_of_mem he
 have:=za7 ks _ h1
 rw [zaW,length_map] at this; exact this
theorem erk_get {rows:LP PC} {ks:List V} (h:erLL rows = vK ks) {i:Nat} (hi:i < ks.length):∃ e,rows[i]? = some e /\ erL e = vC ks[i]:=by
 have hr:i < rows.length:=by rw [zeC h]; exact hi
 refine ⟨rows[i],getElem?_eq_getElem hr,?_⟩;have h1:=zbe hi;rw [<- h,zar,getElem?_map,getElem?_eq_getElem hr] at h1;exact Option.some.inj h1
theorem erk_app {a b:LP PC} {ks ls:List V} (h:erLL a = vK ks) (k:erLL b = vK ls):erLL (a ++ b) = vK (ks ++ ls):=by
 rw [zar,map_append,<- zar,<- zar,h,k]; simp [vK]
theorem erk_one {cs:List PC} {v:V} (he:erL cs = vC v):erLL [cs] = vK [v]:=by
 show [erL cs] = [v.d.pc];rw [he,V.pc_eq]
theorem vlw_aux:∀ (N:Nat) (v:V),v.nodes <= N -> ∀ (cs:List PC),erL cs = vC v -> lwL 0 cs:=by
 intro N
 induction N with
 | zero => intro v hv; have:=v.nodes_pos; omega
 | succ N ih =>
  intro v hv cs he;obtain ⟨t,rows,rfl,hr⟩:=vform he
  have:∀ (ls:List V) (rs:LP PC),(∀ x ∈ ls,x.nodes <= N) -> erLL rs = vK ls -> lwLL 0 rs:=by
   intro ls
   induction ls with
   | nil => intro rs _ h; match rs,h with | [],_ => simp only [lwLL]
   | cons x ls ih2 =>
    intro rs hx h
    match rs,h with
    | r :: rs,h =>
     simp only [erLL,vK,map_cons,cons.injEq] at h;simp only [lwLL];exact ⟨ih x (hx x (by simp)) r (by rw [h.1,V.pc_eq]),ih2 rs (fun y hy => hx y (by simp [hy])) h.2⟩
  have h2:=this v.kids rows (fun x hx => by
   obtain ⟨i,hi,rfl⟩:=List.getElem_of_mem hx;exact V.nodes_kid hv i hi) hr
  simp only [vcs,lwL,PC.lw,pI,pS,and_true,true_and];exact h2
theorem vlw {v:V} {cs:List PC} (h:erL cs = vC v):lwL 0 cs:=vlw_aux v.nodes v lR cs h
theorem sl_tok {t:Nat} {rows:LP PC} (h:2 <= t):t ∈ toksL [.sl t rows]:=by simp [toksL,PC.toks,h]
end
section
def decOn (u:Nat) (l:L8):L8:=if u = 0 then l else Lib.decDigits u ++ l
theorem decOn_step {u:Nat} (h:u ≠ 0) (l:L8):decOn (u / 10) (UInt8.ofNat (48 + u % 10) :: l) = decOn u l:=by
 unfold decOn;rw [if_neg h];by_cases h1:u < 10
 ·rw [if_pos (by omega),Lib.decDigits_one h1,Nat.mod_eq_of_lt h1]; rfl
 ·rw [if_neg (by omega)]
  conv => rhs; rw [Lib.decDigits,dif_neg h1]
  simp
def digs:L8:=[48,49,50,51,52,53,54,55,56,57]
theorem digs_piece:∀ d:Fin 10,(digs.drop d.val).take 1 = [UInt8.ofNat (48 + d.val)]:=by decide
theorem digs_at {d:Nat} (h:d < 10):(([48,49,50,51,52,53,54,55,56,57]:L8).drop d).take 1 = [UInt8.ofNat (48 + d)]:=digs_piece ⟨d,h⟩
theorem tdivAbs (m:Int):(Int.tdiv m 10).natAbs = m.natAbs / 10:=by rw [Int.natAbs_tdiv]; rfl
theorem tmodAbs (m:Int):(Int.tmod m 10).natAbs = m.natAbs % 10:=by rw [Int.natAbs_tmod]; rfl
theorem zdL {u:Nat} (h:u <= 9223372036854775808):(Lib.decDigits u).length <= 20:=by rw [Lib.decDigits_length]; exact Lib.nDigits_le20 u (by omega)
end
section
open Go.RowKit Go.Lib
theorem zb5 {u:Nat} (h:u < 10):decDigits u = [UInt8.ofNat (48 + u)]:=decDigits_one h
theorem zcI {u:Nat} (h:¬ u < 10):decDigits u = decDigits (u / 10) ++ [UInt8.ofNat (48 + u % 10)]:=by
 conv => lhs; rw [decDigits,dif_neg h]
 try rfl
theorem zdM {d:Nat} (h:d < 10):(UInt8.ofNat (48 + d)).toNat = 48 + d:=by
 rw [UInt8.toNat_ofNat']; omega
theorem zeD {P:Nat -> Prop} (h0:∀ u,u < 10 -> P u) (h1:∀ u,¬ u < 10 -> P (u / 10) -> P u) (u:Nat):P u:=by
 induction u using Nat.strongRecOn with
 | ind u ih =>
  by_cases h:u < 10
  ·exact h0 u h
  ·exact h1 u h (ih (u / 10) (by omega))
theorem zeE (u:Nat):decDigits u ≠ []:=by
 by_cases h:u < 10
 ·rw [zb5 h]; simp
 ·rw [zcI h]; simp
theorem zdd (u:Nat):∀ c ∈ decDigits u,48 <= c.toNat /\ c.toNat <= 57:=by
 refine zeD (P:=fun u => ∀ c ∈ decDigits u,48 <= c.toNat /\ c.toNat <= 57) (fun u h c hc => ?_) (fun u h ih c hc => ?_) u
 ·rw [zb5 h,mem_singleton] at hc; subst hc; rw [zdM h]; omega
 ·rw [zcI h,mem_append,mem_singleton] at hc
  rcases hc with hc | rfl
  ·exact ih c hc
  ·rw [zdM (by omega)]; omega
def dvL (l:L8):Nat:=l.foldl (fun a c => a * 10 + (c.toNat - 48)) 0
theorem dvL_snoc (l:L8) (c:UInt8):dvL (l ++ [c]) = dvL l * 10 + (c.toNat - 48):=by simp [dvL]
theorem dvL_dec (u:Nat):dvL (decDigits u) = u:=by
 refine zeD (P:=fun u => dvL (decDigits u) = u) (fun u h => ?_) (fun u h ih => ?_) u
 ·rw [zb5 h]; simp only [dvL,foldl_cons,foldl_nil]; rw [zdM h]; omega
 ·rw [zcI h,dvL_snoc,ih,zdM (by omega)]; omega
theorem zff:∀ (l r:L8) (a m:Nat),parseUint10 a l = .ok m -> parseUint10 a (l ++ r) = parseUint10 m r
 | [],r,a,m,h => by simp only [parseUint10] at h; injection h with h; subst h; rfl
 | c :: l,r,a,m,h => by
  simp only [parseUint10] at h;simp only [cons_append,parseUint10]
  split at h
  ·rename_i h1
   rw [if_pos h1]
   split at h
   ·cases h
   ·rename_i h2
    rw [if_neg h2]
    split at h
    ·cases h
    ·rename_i h3
     rw [if_neg h3];exact zff l r _ m h
  ·cases h
theorem zfg {a d:Nat} (hd:d < 10) (h:a * 10 + d < 18446744073709551616):parseUint10 a [UInt8.ofNat (48 + d)] = .ok (a * 10 + d):=by
 simp only [parseUint10,zdM hd];rw [if_pos (by omega),if_neg (by omega),if_neg (by omega)]
 congr 1; omega
theorem parse_dec (u:Nat):u < 18446744073709551616 -> parseUint10 0 (decDigits u) = .ok u:=by
 refine zeD (P:=fun u => u < 18446744073709551616 -> parseUint10 0 (decDigits u) = .ok u) (fun u h hu => ?_) (fun u h ih hu => ?_) u
 ·rw [zb5 h,zfg h (by omega),Nat.zero_mul,Nat.zero_add]
 ·rw [zcI h,zff _ _ _ _ (ih (by omega)),zfg (by omega) (by omega)]
  congr 1; omega
theorem mag_dec {u:Nat} (h:u < 18446744073709551616):parseMag (decDigits u) = .ok u:=by
 unfold parseMag; rw [if_neg (zeE u)]; exact parse_dec u h
theorem atoi_itoa {n:Int} (h:i64ok n):atoiAll (itoa n) = .ok n:=by
 obtain ⟨h1,h2⟩:=h;by_cases hn:n < 0
 ·obtain ⟨u,rfl⟩:∃ u:Nat,n = -(u:Int):=⟨n.natAbs,by omega⟩
  rw [itoa_neg u (by omega),atoiAll_minus,mag_dec (by omega)];simp only [signed];rw [if_neg (by omega)]
 ·obtain ⟨u,rfl⟩:∃ u:Nat,n = (u:Int):=⟨n.toNat,by omega⟩
  rw [itoa_nonneg];have hd:=zdd u;have hm:=mag_dec (u:=u) (by omega)
  cases hl:decDigits u with
  | nil => exact absurd hl (zeE u)
  | cons c r =>
   have:=hd c (by rw [hl]; simp)
   rw [hl] at hm;rw [atoiAll_plain c r (by omega) (by omega),hm];simp only [signless];rw [if_neg (by omega)]
def rdD (s:L8):Option Int:=match atoiAll s with
 | .ok v => if itoa v = s then some v else none
 | _ => none
theorem rdD_itoa {n:Int} (h:i64ok n):rdD (itoa n) = some n:=by unfold rdD; rw [atoi_itoa h]; simp
theorem rdD_some {s:L8} {n:Int} (h:rdD s = some n):i64ok n /\ itoa n = s:=by
 unfold rdD at h
 split at h
 ·rename_i v hv
  split at h
  ·simp only [sI] at h; subst h
   exact ⟨atoiAll_bounds hv,‹_›⟩
  ·cases h
 ·cases h
def rdN (s:L8):Int:=match rdD s with | some n => n | none => 0
def rdB (s:L8):Bool:=(rdD s).isSome
theorem rd_yes {n:Int} {s:L8} (h:i64ok n) (hs:itoa n = s):rdN s = n /\ rdB s = true:=by subst hs; simp [rdN,rdB,rdD_itoa h]
theorem rd_no {s:L8} (h:∀ n,i64ok n -> itoa n ≠ s):rdN s = 0 /\ rdB s = false:=by
 cases hr:rdD s with
 | none => simp [rdN,rdB,hr]
 | some n => obtain ⟨h1,h2⟩:=rdD_some hr; exact absurd h2 (h n h1)
def unsgn (s:L8):L8:=if s.head? = some 45 then s.drop 1 else s
theorem zee (n:Int):unsgn (itoa n) = decDigits n.natAbs:=by
 by_cases hn:n < 0
 ·obtain ⟨u,rfl⟩:∃ u:Nat,n = -(u:Int):=⟨n.natAbs,by omega⟩
  rw [itoa_neg u (by omega)]; simp [unsgn]
 ·obtain ⟨u,rfl⟩:∃ u:Nat,n = (u:Int):=⟨n.toNat,by omega⟩
  rw [itoa_nonneg];unfold unsgn;rw [if_neg]
  ·simp
  ·intro h
   have hd:=zdd u
   cases hl:decDigits u with
   | nil => exact absurd hl (zeE u)
   | cons c r =>
    rw [hl] at h; simp at h; subst h
    have:=hd 45 (by rw [hl]; simp)
    revert this; decide
theorem zdN:∀ (k u:Nat),u < 10 ^ (k + 1) -> nDigits u <= k + 1
 | 0,u,h => by rw [nDigits_small (by simpa using h)]; exact lR
 | k + 1,u,h => by
  by_cases h1:u < 10
  ·rw [nDigits_small h1]; omega
  ·rw [nDigits_big h1]
   have:=zdN k (u / 10) (by rw [Nat.pow_succ] at h; omega)
   omega
theorem rd_loop {s:L8} {n:Int} (hn:i64ok n) (hs:itoa n = s):(if unsgn s = s then IntKind.wrap .i64 (dvL (unsgn s)) else IntKind.wrap .i64 (0 - IntKind.wrap .i64 (dvL (unsgn s)))) = n:=by
 subst hs;obtain ⟨h1,h2⟩:=hn;rw [zee,dvL_dec];simp only [IntKind.wrap_i64];by_cases hn:n < 0
 ·obtain ⟨u,rfl⟩:∃ u:Nat,n = -(u:Int):=⟨n.natAbs,by omega⟩
  rw [if_neg]
  ·simp only [Int.natAbs_neg,Int.natAbs_natCast]; omega
  ·rw [itoa_neg u (by omega)]
   intro h
   have:=congrArg length h
   simp at this
 ·obtain ⟨u,rfl⟩:∃ u:Nat,n = (u:Int):=⟨n.toNat,by omega⟩
  rw [if_pos]
  ·simp only [Int.natAbs_natCast]; omega
  ·rw [itoa_nonneg]; simp
theorem unsgn_dec {s:L8} {n:Int} (hn:i64ok n) (hs:itoa n = s):unsgn s ≠ [] /\ (unsgn s).length <= 19 /\ ∀ c ∈ unsgn s,48 <= c.toNat /\ c.toNat <= 57:=by
 subst hs;rw [zee];refine ⟨zeE _,?_,zdd _⟩;rw [decDigits_length];obtain ⟨h1,h2⟩:=hn
 have:n.natAbs < 10000000000000000000:=by omega
 exact zdN 18 _ (by simpa using this)
end
section
def findK (key:L8):List V -> Nat -> Int
 | a :: _ :: r,i => if a.kind = 5 /\ a.text = key then i else findK key r (i + 2)
 | _,_ => -1
def findV (v:V) (key:L8):Int:=if v.kind = 8 then findK key v.kids 0 else -1
theorem zfh {key:L8} {l:List V} (h:l.length < 2) (i:Nat):findK key l i = -1:=by
 match l,h with
 | [],_ => rfl
 | [_],_ => rfl
theorem zde {key:L8} {l:List V} {j:Nat} (h:j + 1 < l.length) (i:Nat):findK key (l.drop j) i = if l[j].kind = 5 /\ l[j].text = key then (i:Int) else findK key (l.drop (j + 2)) (i + 2):=by
 rw [drop_eq_getElem_cons (show j < l.length by omega),drop_eq_getElem_cons (show j + 1 < l.length by omega),findK]
def ixI (s:L8):Int:=if rdB s = true /\ 0 <= rdN s /\ rdN s <= 999999 then rdN s else -1
def kidI (v:V) (s:L8):Int :=
 if v.kind = 7 then (if ixI s < v.kids.length then ixI s else -1)
 else if v.kind = 8 then (if 0 <= findV v s then findV v s + 1 else -1)
 else if v.kind = 9 then (if s = [116,97,103] /\ 0 < v.kids.length then 0 else -1) else -1
theorem findK_le (key:L8):∀ (l:List V) (i:Nat),-1 <= findK key l i /\ (findK key l i:Int) <= i + l.length
 | [],i => by simp only [findK]; omega
 | [_],i => by simp only [findK]; omega
 | a :: b :: r,i => by
  have ih:=findK_le key r (i + 2);simp only [findK];split
  ·simp only [length_cons]; omega
  ·simp only [length_cons]; omega
theorem findV_le (v:V) (key:L8):-1 <= findV v key /\ findV v key <= v.kids.length:=by
 unfold findV;split
 ·have:=findK_le key v.kids 0; omega
 ·omega
theorem findK_lt (key:L8):∀ (l:List V) (i:Nat),0 <= findK key l i -> findK key l i + 1 < i + l.length
 | [],i,h => by simp only [findK] at h; omega
 | [_],i,h => by simp only [findK] at h; omega
 | a :: b :: r,i,h => by
  simp only [findK] at h ⊢
  split at h
  ·rename_i hh
   rw [if_pos hh]; simp only [length_cons]; omega
  ·rename_i hh
   rw [if_neg hh]
   have:=findK_lt key r (i + 2) h
   simp only [length_cons]; omega
theorem zaP {v:V} {s:L8} (h:0 <= kidI v s):kidI v s < v.kids.length:=by
 unfold kidI at h ⊢;split
 ·rename_i h7
  rw [if_pos h7] at h;split
  ·assumption
  ·rename_i hh; rw [if_neg hh] at h; omega
 ·rename_i h7
  rw [if_neg h7] at h;split
  ·rename_i h8
   rw [if_pos h8] at h;split
   ·rename_i hf
    unfold findV at hf ⊢;rw [if_pos h8] at hf ⊢
    have:=findK_lt s v.kids 0 hf
    omega
   ·rename_i hh; rw [if_neg hh] at h; omega
  ·rename_i h8
   rw [if_neg h8] at h;split
   ·rename_i h9
    rw [if_pos h9] at h;split
    ·rename_i hh; omega
    ·rename_i hh; rw [if_neg hh] at h; omega
   ·rename_i h9; rw [if_neg h9] at h; omega
def atI:V -> List (L8) -> Option V
 | v,[] => some v
 | v,s :: r => if h:0 <= kidI v s then atI (v.kids[(kidI v s).toNat]'(by have:=zaP h; omega)) r else none
end
section
open Go.Lib (validD)
def esc1 (b:UInt8):L8:=if b = 126 then [126,48] else if b = 47 then [126,49] else [b]
def esc (s:L8):L8:=s.flatMap esc1
def pathL (st:List (L8)):L8:=st.flatMap fun s => 47 :: esc s
def stepOk (s:L8):Bool:=validD s && decide (s.length <= 2000)
def stepsOk (st:List (L8)):Bool:=decide (st.length <= 12) && st.all stepOk
def putPath (st:List (L8)):L8:=if st.length <= 12 /\ st.all stepOk = true then pathL st else []
theorem zgi (b:UInt8):(esc1 b).length <= 2:=by
 unfold esc1;split
 ·simp
 ·split <;> simp
theorem zcU:∀ s:L8,(esc s).length <= 2 * s.length
 | [] => by simp [esc]
 | b :: s => by have:=zcU s; have:=zgi b; simp only [esc,flatMap_cons,length_append,length_cons] at *; omega
theorem zbU:∀ st:List (L8),st.all stepOk = true -> (pathL st).length <= 4001 * st.length
 | [],_ => by simp [pathL]
 | s :: st,h => by
  simp only [all_cons,Bool.and_eq_true] at h;have h1:=zbU st h.2;have h2:=zcU s;have h3:s.length <= 2000:=by have:=h.1; unfold stepOk at this; simp only [Bool.and_eq_true,decide_eq_true_eq] at this; exact this.2
  simp only [pathL,flatMap_cons,length_append,length_cons] at *; omega
theorem pathL_take (st:List (L8)) (j:Nat) (h:j < st.length):pathL (st.take (j + 1)) = pathL (st.take j) ++ (47 :: esc st[j]):=by
 unfold pathL; rw [take_succ_eq_append_getElem h,List.flatMap_append,List.flatMap_singleton]
theorem esc_take (s:L8) (j:Nat) (h:j < s.length):esc (s.take (j + 1)) = esc (s.take j) ++ esc1 s[j]:=by
 unfold esc; rw [take_succ_eq_append_getElem h,List.flatMap_append,List.flatMap_singleton]
theorem zef {st:List (L8)} {j:Nat} (h:j < st.length) (hn:stepOk st[j] = false):putPath st = []:=by
 unfold putPath; rw [if_neg]; rintro ⟨_,h2⟩
 rw [all_eq_true] at h2; rw [h2 _ (getElem_mem h)] at hn; cases hn
theorem zfi {st:List (L8)} (h:¬ st.length <= 12):putPath st = []:=by
 unfold putPath; rw [if_neg]; exact fun h2 => h h2.1
theorem zfj (b:UInt8):(b = 126 /\ esc1 b = [126,48]) \/ (b ≠ 126 /\ b = 47 /\ esc1 b = [126,49]) \/ (b ≠ 126 /\ b ≠ 47 /\ esc1 b = [b]):=by
 by_cases h1:b = 126
 ·exact .inl ⟨h1,by rw [h1]; rfl⟩
 ·by_cases h2:b = 47
  ·exact .inr (.inl ⟨h1,h2,by rw [h2]; rfl⟩)
  ·exact .inr (.inr ⟨h1,h2,by unfold esc1; rw [if_neg h1,if_neg h2]⟩)
end
section
def V.withK (v:V) (ks:List V):V:=.mk v.kind v.num v.exp v.text ks
def newS (v:V) (s:L8) (x:V) (ahead:Bool):V × Bool :=
 if v.kind = 8 /\ findK s v.kids 0 < 0 then (v.withK (v.kids ++ [.mk 5 0 0 s [],x]),true)
 else if v.kind = 7 /\ (ixI s = v.kids.length \/ ahead = true /\ 0 <= ixI s /\ ixI s <= v.kids.length - 1) then (v.withK (v.kids.take (ixI s).toNat ++ x :: v.kids.drop (ixI s).toNat),true)
 else (v,false)
def putS:V -> List (L8) -> V -> Bool -> V × Bool
 | _,[],x,_ => (x,true)
 | v,s :: r,x,ahead =>
  if h:0 <= kidI v s /\ ¬ (r = [] /\ ahead = true /\ v.kind = 7) then
   (v.withK (v.kids.set (kidI v s).toNat (putS (v.kids[(kidI v s).toNat]'(by have:=zaP h.1; omega)) r x ahead).1),(putS (v.kids[(kidI v s).toNat]'(by have:=zaP h.1; omega)) r x ahead).2)
  else if r = [] then newS v s x ahead else (v,false)
def lessS:V -> List (L8) -> V × Bool
 | v,[] => (v,false)
 | v,s :: r =>
  if h:0 <= kidI v s then
   if r = [] then (v.withK (v.kids.take (if v.kind = 8 then (kidI v s).toNat - 1 else (kidI v s).toNat) ++ v.kids.drop ((kidI v s).toNat + 1)),decide (v.kind ≠ 9))
   else (v.withK (v.kids.set (kidI v s).toNat (lessS (v.kids[(kidI v s).toNat]'(by have:=zaP h; omega)) r).1),(lessS (v.kids[(kidI v s).toNat]'(by have:=zaP h; omega)) r).2)
  else (v,false)
def madeS (v out:V) (ok:Bool):V × Bool:=if ok = true /\ v.ok = true /\ out.ok = true then (out,true) else (v,false)
def putW (v:V) (st:List (L8)) (x:V) (ahead:Bool):V × Bool:=madeS v (putS v st x ahead).1 ((putS v st x ahead).2 && x.ok)
def remW (v:V) (st:List (L8)):V × Bool:=madeS v (lessS v st).1 (lessS v st).2
/-! ### sizes -/
theorem V.withK_kids (v:V) (ks:List V):(v.withK ks).kids = ks:=rfl
theorem V.bulk_eq (v:V):v.bulk = v.text.length + (v.kids.length + V.bulks v.kids):=by cases v; rfl
theorem V.withK_bulk (v:V) (ks:List V):(v.withK ks).bulk = v.text.length + (ks.length + V.bulks ks):=rfl
theorem V.bulks_app (a b:List V):V.bulks (a ++ b) = V.bulks a + V.bulks b:=by
 induction a with
 | nil => simp [V.bulks]
 | cons x a ih => simp only [cons_append,V.bulks,ih]; omega
theorem V.bulks_td (l:List V) (i:Nat):V.bulks (l.take i) + V.bulks (l.drop i) = V.bulks l:=by rw [<- V.bulks_app,take_append_drop]
theorem V.bulks_set {l:List V} {i:Nat} (h:i < l.length) (x:V):V.bulks (l.set i x) + l[i].bulk = V.bulks l + x.bulk:=by
 have h1:=V.bulks_td l i;rw [drop_eq_getElem_cons h,V.bulks] at h1;rw [set_eq_take_append_cons_drop,if_pos h,V.bulks_app,V.bulks]; omega
theorem V.wfs_app (a b:List V):V.wfs (a ++ b) ↔ V.wfs a /\ V.wfs b:=by
 induction a with
 | nil => simp [V.wfs]
 | cons x a ih => simp only [cons_append,V.wfs,ih,and_assoc]
theorem V.wfs_td {l:List V} (h:V.wfs l) (i:Nat):V.wfs (l.take i) /\ V.wfs (l.drop i):=by rw [<- take_append_drop i l] at h; exact (V.wfs_app _ _).1 h
theorem V.wf_k {v:V} (h:v.wf):V.wfs v.kids:=by cases v; exact h.2.2.2.2.2
theorem V.wf_withK {v:V} {ks:List V} (h:v.wf) (hk:V.wfs ks) (hl:ks.length <= 9223372036854775807):(v.withK ks).wf:=by
 cases v
 exact ⟨h.1,h.2.1,h.2.2.1,h.2.2.2.1,hl,hk⟩
def Bw (n:Nat) (v:V):Prop:=v.wf /\ v.bulk <= n
theorem newS_bw {v x:V} {s:L8} {ahead:Bool} {n m:Nat} (hv:Bw n v) (hx:Bw m x) (hs:n + m + s.length + 2 <= 4294967295):Bw (n + m + s.length + 2) (newS v s x ahead).1:=by
 have hk:=V.wf_k hv.1;have hb:=hv.2;have hxb:=hx.2;rw [V.bulk_eq] at hb;unfold newS;split
 ·refine ⟨V.wf_withK hv.1 ((V.wfs_app _ _).2 ⟨hk,⟨?_,hx.1,trivial⟩⟩) (by rw [length_append]; simp only [length_cons,length_nil]; omega),?_⟩
  ·simp only [V.wf,V.wfs,i64ok,strok]; refine ⟨by omega,by omega,by omega,by omega,by simp,trivial⟩
  ·rw [V.withK_bulk,V.bulks_app,length_append]
   simp only [V.bulks,V.bulk,length_cons,length_nil]; omega
 ·split
  ·have h1:=V.wfs_td hk (ixI s).toNat
   have h2:=V.bulks_td v.kids (ixI s).toNat;have h3:(v.kids.take (ixI s).toNat ++ x :: v.kids.drop (ixI s).toNat).length = v.kids.length + 1:=by simp; omega
   refine ⟨V.wf_withK hv.1 ((V.wfs_app _ _).2 ⟨h1.1,⟨hx.1,h1.2⟩⟩) (by omega),?_⟩;rw [V.withK_bulk,h3,V.bulks_app,V.bulks]; omega
  ·exact ⟨hv.1,by have:=hv.2; show v.bulk <= _; omega⟩
theorem zfk {v:V} {n:Nat} (h:Bw n v) {i:Nat} (hi:i < v.kids.length):Bw n v.kids[i]:=by
 have hb:=h.2;rw [V.bulk_eq] at hb;exact ⟨V.wf_kid h.1 i hi,V.bulk_get (by omega) i hi⟩
theorem zbV:∀ (st:List (L8)) (v x:V) (ahead:Bool) (S:Nat),(∀ s ∈ st,s.length <= S) -> (putS v st x ahead).1.bulk <= v.bulk + x.bulk + S + 2
 | [],v,x,ahead,S,_ => by rw [putS]; simp only; omega
 | s :: r,v,x,ahead,S,h => by
  have hs:=h s (by simp);rw [putS];split
  ·rename_i hh
   have hlt:=zaP hh.1;have ih:=zbV r (v.kids[(kidI v s).toNat]'(by omega)) x ahead S (fun z hz => h z (by simp [hz]));have h1:=V.bulks_set (show (kidI v s).toNat < v.kids.length by omega) (putS (v.kids[(kidI v s).toNat]'(by omega)) r x ahead).1;simp only [V.withK_bulk,length_set];rw [V.bulk_eq v]; omega
  ·split
   ·unfold newS
    split
    ·simp only [V.withK_bulk,V.bulks_app,length_append,V.bulks,V.bulk,length_cons,length_nil]
     rw [V.bulk_eq v]; omega
    ·split
     ·have h2:=V.bulks_td v.kids (ixI s).toNat
      have h3:(v.kids.take (ixI s).toNat ++ x :: v.kids.drop (ixI s).toNat).length = v.kids.length + 1:=by simp; omega
      simp only [V.withK_bulk,V.bulks_app,V.bulks,h3];rw [V.bulk_eq v]; omega
     ·simp only; omega
   ·simp only; omega
theorem zdO:∀ (st:List (L8)) (v x:V) (ahead:Bool) (S:Nat),v.wf -> x.wf -> (∀ s ∈ st,s.length <= S) -> v.bulk + x.bulk + S + 2 <= 4294967295 -> (putS v st x ahead).1.wf
 | [],v,x,ahead,S,_,hx,_,_ => by rw [putS]; exact hx
 | s :: r,v,x,ahead,S,hv,hx,h,hb => by
  have hs:=h s (by simp);have hvb:=hb;rw [V.bulk_eq v] at hvb;rw [putS];split
  ·rename_i hh
   have hlt:=zaP hh.1;have hi:(kidI v s).toNat < v.kids.length:=by omega
   have hkb:=(zfk ⟨hv,lR⟩ hi).2;have ih:=zdO r v.kids[(kidI v s).toNat] x ahead S (V.wf_kid hv _ hi) hx (fun z hz => h z (by simp [hz])) (by omega);have hw:=V.wfs_td (V.wf_k hv) (kidI v s).toNat;refine V.wf_withK hv ?_ (by rw [length_set]; omega);rw [set_eq_take_append_cons_drop,if_pos hi];exact (V.wfs_app _ _).2 ⟨hw.1,ih,(V.wfs_td (V.wf_k hv) ((kidI v s).toNat + 1)).2⟩
  ·split
   ·exact (newS_bw (n:=v.bulk) (m:=x.bulk) ⟨hv,lR⟩ ⟨hx,lR⟩ (by omega)).1
   ·exact hv
theorem zdf:∀ (st:List (L8)) (v:V),v.wf -> v.bulk <= 4294967295 -> (lessS v st).1.wf /\ (lessS v st).1.bulk <= v.bulk
 | [],v,hv,_ => by rw [lessS]; exact ⟨hv,lR⟩
 | s :: r,v,hv,hb => by
  have hvb:=hb;rw [V.bulk_eq v] at hvb;rw [lessS];split
  ·rename_i hh
   have hlt:=zaP hh;have hi:(kidI v s).toNat < v.kids.length:=by omega
   split
   ·obtain ⟨f,hf,hfl⟩:∃ f,(if v.kind = 8 then (kidI v s).toNat - 1 else (kidI v s).toNat) = f /\ f <= (kidI v s).toNat:=⟨_,rfl,by split <;> omega⟩
    rw [hf];have h1:=V.bulks_td v.kids f;have h2:=V.bulks_td v.kids ((kidI v s).toNat + 1)
    have h3:V.bulks (v.kids.take f) <= V.bulks (v.kids.take ((kidI v s).toNat + 1)):=by
     have:=V.bulks_td (v.kids.take ((kidI v s).toNat + 1)) f
     rw [take_take,Nat.min_eq_left (by omega)] at this; omega
    have h4:(v.kids.take f ++ v.kids.drop ((kidI v s).toNat + 1)).length <= v.kids.length:=by simp; omega
    refine ⟨V.wf_withK hv ((V.wfs_app _ _).2 ⟨(V.wfs_td (V.wf_k hv) f).1,(V.wfs_td (V.wf_k hv) _).2⟩) (by omega),?_⟩;simp only [V.withK_bulk,V.bulks_app];rw [V.bulk_eq v]; omega
   ·have hkb:=(zfk ⟨hv,lR⟩ hi).2
    obtain ⟨i1,i2⟩:=zdf r v.kids[(kidI v s).toNat] (V.wf_kid hv _ hi) (by omega);have h1:=V.bulks_set hi (lessS v.kids[(kidI v s).toNat] r).1;have hw:=V.wfs_td (V.wf_k hv) (kidI v s).toNat;refine ⟨V.wf_withK hv ?_ (by rw [length_set]; omega),?_⟩
    ·rw [set_eq_take_append_cons_drop,if_pos hi]
     exact (V.wfs_app _ _).2 ⟨hw.1,i1,(V.wfs_td (V.wf_k hv) ((kidI v s).toNat + 1)).2⟩
    ·simp only [V.withK_bulk,length_set]
     rw [V.bulk_eq v]; omega
  ·exact ⟨hv,lR⟩
end
section
def m_s_l02Copy:M:=so [qo 1 (.box 0),⟨some 2,.zero [.int .i64 0,.int .i64 0,.int .i64 0,.string ⟨[].toArray⟩,.slice none 0 0],none,[]⟩] (so [qL 4 5 1,⟨some 3,.zero [.int .i64 0,.int .i64 0,.int .i64 0,.string ⟨[].toArray⟩,.slice none 0 0],none,[]⟩,qS 5 3 4] (so [qF 5 4 1,ql 6 1 5,qc 7 62 [6] 1,qF 8 4 3,qS 1 8 7] (so [qL 9 5 3,qS 5 2 9] .ret)))
theorem zc6:look Tryz.prog 34 = some (10,m_s_l02Copy,[.cell true 5 2]):=by kernel_rfl
def m_s_l02CopyAll:M:=so [qo 2 (.mv (.c (.slice none 0 0)))] (so [qo 5 (.lit 5 []),qm 3 5] (.seq (so [qo 4 (.mv (ci 0))] (.block 0 (.loop (.seq (so [qm 6 4,qm 7 0,qo 8 (.len 7),qo 9 (.bin .lss false 6 8)] (.cond 9 .skip (.exit 0))) (.seq (.block 1 (.ops [qm 12 3,qm 13 0,qm 14 4,qo 15 (.ix 5 13 14),qL 16 5 15,qc 17 34 [16] 1,qo 18 (.lit 5 [17]),⟨some 19,.app 5 12 18,none,[.f 1]⟩,qm 3 19])) (.ops [qm 10 4,qo 11 (.bin .add false 10 (ci 1)),qm 4 11])))))) (so [qm 20 3,qm 2 20] .ret)))
theorem zbW:look Tryz.prog 62 = some (21,m_s_l02CopyAll,[.tm 2]):=by kernel_rfl
end
section
def m_s_Put:M:=so [qo 3 (.box 0),qo 5 (.box 2),⟨some 6,.zero [.int .i64 0,.int .i64 0,.int .i64 0,.string ⟨[].toArray⟩,.slice none 0 0],none,[]⟩,qo 7 (.mv (cB false))] (so [qL 11 5 3,qm 12 1,qL 13 5 5,qc 14 24 [11,12,13,cB false] 1,qm 10 14,qe 15 10 0,qe 16 10 1,⟨some 8,.zero [.int .i64 0,.int .i64 0,.int .i64 0,.string ⟨[].toArray⟩,.slice none 0 0],none,[]⟩,qS 5 8 15,qm 9 16] (so [qL 17 5 3,qL 18 5 8,qm 19 9,qm 20 19,⟨some 21,.load true 5 5,some (20,true),[]⟩,⟨some 22,.call 26 [21],some (20,true),[.f 0,3,8]⟩,qo 23 (.pick 20 22 (cB false)),qc 24 25 [17,18,23] 0,qe 25 24 0,qe 26 24 1,qS 5 6 25,qm 7 26] .ret))
theorem lk_s_Put:look Tryz.prog 7 = some (27,m_s_Put,[.cell true 5 6,.tm 7]):=by kernel_rfl
def m_s_Insert:M:=so [qo 3 (.box 0),qo 5 (.box 2),⟨some 6,.zero [.int .i64 0,.int .i64 0,.int .i64 0,.string ⟨[].toArray⟩,.slice none 0 0],none,[]⟩,qo 7 (.mv (cB false))] (so [qL 11 5 3,qm 12 1,qL 13 5 5,qc 14 24 [11,12,13,cB true] 1,qm 10 14,qe 15 10 0,qe 16 10 1,⟨some 8,.zero [.int .i64 0,.int .i64 0,.int .i64 0,.string ⟨[].toArray⟩,.slice none 0 0],none,[]⟩,qS 5 8 15,qm 9 16] (so [qL 17 5 3,qL 18 5 8,qm 19 9,qm 20 19,⟨some 21,.load true 5 5,some (20,true),[]⟩,⟨some 22,.call 26 [21],some (20,true),[.f 0,3,8]⟩,qo 23 (.pick 20 22 (cB false)),qc 24 25 [17,18,23] 0,qe 25 24 0,qe 26 24 1,qS 5 6 25,qm 7 26] .ret))
theorem zgj:look Tryz.prog 9 = some (27,m_s_Insert,[.cell true 5 6,.tm 7]):=by kernel_rfl
def m_s_Remove:M:=so [qo 2 (.box 0),⟨some 4,.zero [.int .i64 0,.int .i64 0,.int .i64 0,.string ⟨[].toArray⟩,.slice none 0 0],none,[]⟩,qo 5 (.mv (cB false))] (so [qL 9 5 2,qm 10 1,qc 11 31 [9,10] 1,qm 8 11,qe 12 8 0,qe 13 8 1,⟨some 6,.zero [.int .i64 0,.int .i64 0,.int .i64 0,.string ⟨[].toArray⟩,.slice none 0 0],none,[]⟩,qS 5 6 12,qm 7 13] (so [qL 14 5 2,qL 15 5 6,qm 16 7,qc 17 25 [14,15,16] 1,qe 18 17 0,qe 19 17 1,qS 5 4 18,qm 5 19] .ret))
theorem zgk:look Tryz.prog 12 = some (20,m_s_Remove,[.cell true 5 4,.tm 5]):=by kernel_rfl
def m_s_At:M:=so [qo 2 (.box 0),⟨some 4,.zero [.int .i64 0,.int .i64 0,.int .i64 0,.string ⟨[].toArray⟩,.slice none 0 0],none,[]⟩,qo 5 (.mv (cB false))] (.seq (so [qo 6 (.mv (ci 0))] (.block 0 (.loop (.seq (so [qm 8 6,qm 9 1,qo 10 (.len 9),qo 11 (.bin .lss false 8 10)] (.cond 11 .skip (.exit 0))) (.seq (.block 1 (so [qL 14 5 2,qm 15 1,qm 16 6,qo 17 (.ix 1 15 16),ql 18 1 17,qc 19 33 [14,18] 0,qm 7 19] (.seq (so [qm 20 7,qo 21 (.bin .lss false 20 (ci 0))] (.cond 21 (so [⟨some 22,.build [.int .i64 0,.int .i64 0,.int .i64 0,.string ⟨[].toArray⟩,.slice none 0 0] [],none,[]⟩,qS 5 4 22,qo 5 (.mv (cB false))] .ret) .skip)) (.ops [qF 23 4 2,ql 24 1 23,qm 25 7,qo 26 (.ix 5 24 25),qL 27 5 26,qS 5 2 27])))) (.ops [qm 12 6,qo 13 (.bin .add false 12 (ci 1)),qm 6 13])))))) (so [qL 28 5 2,qc 29 34 [28] 1,qS 5 4 29,qo 5 (.mv (cB true))] .ret))
theorem lk_s_At:look Tryz.prog 15 = some (30,m_s_At,[.cell true 5 4,.tm 5]):=by kernel_rfl
def m_s_l08Put:M:=so [qo 4 (.box 0),qo 6 (.box 2),⟨some 8,.zero [.int .i64 0,.int .i64 0,.int .i64 0,.string ⟨[].toArray⟩,.slice none 0 0],none,[]⟩,qo 9 (.mv (cB false))] (.seq (so [qm 13 1,qo 14 (.len 13),qo 15 (.bin .eql false 14 (ci 0))] (.cond 15 (so [qL 16 5 6,qc 17 34 [16] 1,qS 5 8 17,qo 9 (.mv (cB true))] .ret) .skip)) (so [qL 18 5 4,qm 19 1,qo 20 (.ix 1 19 (ci 0)),ql 21 1 20,qc 22 33 [18,21] 0,qm 10 22] (.seq (so [qm 23 10,qo 24 (.bin .lss false 23 (ci 0)),qm 25 24,qg 26 1 25 false,⟨some 27,.len 26,some (25,false),[]⟩,⟨some 28,.bin .eql false 27 (ci 1),some (25,false),[]⟩,qg 29 28 25 false,qg 30 3 29 true,⟨some 31,.pick 29 30 (cB false),some (25,false),[]⟩,qg 32 31 25 false,⟨some 33,.fld 0 4,some (32,true),[]⟩,⟨some 34,.load false 1 33,some (32,true),[]⟩,⟨some 35,.bin .eql false 34 (ci 7),some (32,true),[]⟩,⟨some 36,.pick 32 35 (cB false),some (25,false),[]⟩,qo 37 (.pick 25 (cB true) 36)] (.cond 37 (.seq (so [qm 38 1,qo 39 (.len 38),qo 40 (.bin .gtr false 39 (ci 1))] (.cond 40 (so [qL 41 5 4,qS 5 8 41,qo 9 (.mv (cB false))] .ret) .skip)) (so [qL 42 5 4,qm 43 1,qo 44 (.ix 1 43 (ci 0)),ql 45 1 44,qL 46 5 6,qm 48 3,⟨some 47,.call 34 [46],none,[.f 0,4,44]⟩,qc 49 50 [42,45,47,48] 0,qe 50 49 0,qe 51 49 1,qS 5 8 50,qm 9 51] .ret)) .skip)) (.seq (.tree (.node [qF 53 4 4,ql 54 1 53,qm 55 10,qo 56 (.ix 5 54 55),qL 57 5 56,qm 58 1,qo 59 (.slc 1 58 (some (ci 1)) none),qL 60 5 6,qm 61 3] (.alt (qc 62 24 [57,59,60,61] 0) (.node [qm 52 62,qe 63 52 0,qe 64 52 1] (.alt ⟨some 11,.zero [.int .i64 0,.int .i64 0,.int .i64 0,.string ⟨[].toArray⟩,.slice none 0 0],none,[]⟩ (.node [] (.alt (qS 5 11 63) (.node [qm 12 64] .leaf) .leaf)) .leaf)) (.alt ⟨some 11,.zero [.int .i64 0,.int .i64 0,.int .i64 0,.string ⟨[].toArray⟩,.slice none 0 0],none,[]⟩ (.node [] (.alt (qc 62 24 [57,59,60,61] 0) (.node [qm 52 62,qe 63 52 0,qe 64 52 1] (.alt (qS 5 11 63) (.node [qm 12 64] .leaf) .leaf)) .leaf)) .leaf)))) (so [qL 65 5 4,qm 66 10,qL 67 5 11,qc 68 51 [65,66,67] 1,qm 69 12,qS 5 8 68,qm 9 69] .ret)))))
theorem zdP:look Tryz.prog 24 = some (70,m_s_l08Put,[.cell true 5 8,.tm 9]):=by kernel_rfl
def m_s_l08Made:M:=so [qo 3 (.box 0),qo 4 (.box 1),⟨some 6,.zero [.int .i64 0,.int .i64 0,.int .i64 0,.string ⟨[].toArray⟩,.slice none 0 0],none,[]⟩,qo 7 (.mv (cB false))] (.seq (so [qm 8 2,qo 9 (.not 8),qm 10 9,⟨some 11,.load true 5 3,some (10,false),[]⟩,⟨some 12,.call 26 [11],some (10,false),[.f 1]⟩,⟨some 13,.not 12,some (10,false),[]⟩,qo 14 (.pick 10 (cB true) 13),qm 15 14,⟨some 16,.load true 5 4,some (15,false),[]⟩,⟨some 17,.call 26 [16],some (15,false),[.f 1]⟩,⟨some 18,.not 17,some (15,false),[]⟩,qo 19 (.pick 15 (cB true) 18)] (.cond 19 (so [qL 20 5 3,qc 21 34 [20] 1,qS 5 6 21,qo 7 (.mv (cB false))] .ret) .skip)) (so [qL 22 5 4,qS 5 6 22,qo 7 (.mv (cB true))] .ret))
theorem zfl:look Tryz.prog 25 = some (23,m_s_l08Made,[.cell true 5 6,.tm 7]):=by kernel_rfl
def m_s_l08Less:M:=so [qo 2 (.box 0),⟨some 4,.zero [.int .i64 0,.int .i64 0,.int .i64 0,.string ⟨[].toArray⟩,.slice none 0 0],none,[]⟩,qo 5 (.mv (cB false))] (.seq (so [qm 11 1,qo 12 (.len 11),qo 13 (.bin .eql false 12 (ci 0))] (.cond 13 (so [qL 14 5 2,qS 5 4 14,qo 5 (.mv (cB false))] .ret) .skip)) (so [qL 15 5 2,qm 16 1,qo 17 (.ix 1 16 (ci 0)),ql 18 1 17,qc 19 33 [15,18] 0,qm 6 19] (.seq (so [qm 20 6,qo 21 (.bin .lss false 20 (ci 0))] (.cond 21 (so [qL 22 5 2,qS 5 4 22,qo 5 (.mv (cB false))] .ret) .skip)) (.seq (so [qm 23 1,qo 24 (.len 23),qo 25 (.bin .gtr false 24 (ci 1))] (.cond 25 (.seq (.tree (.node [qF 27 4 2,ql 28 1 27,qm 29 6,qo 30 (.ix 5 28 29),qL 31 5 30,qm 32 1,qo 33 (.slc 1 32 (some (ci 1)) none)] (.alt (qc 34 31 [31,33] 0) (.node [qm 26 34,qe 35 26 0,qe 36 26 1] (.alt ⟨some 7,.zero [.int .i64 0,.int .i64 0,.int .i64 0,.string ⟨[].toArray⟩,.slice none 0 0],none,[]⟩ (.node [] (.alt (qS 5 7 35) (.node [qm 8 36] .leaf) .leaf)) .leaf)) (.alt ⟨some 7,.zero [.int .i64 0,.int .i64 0,.int .i64 0,.string ⟨[].toArray⟩,.slice none 0 0],none,[]⟩ (.node [] (.alt (qc 34 31 [31,33] 0) (.node [qm 26 34,qe 35 26 0,qe 36 26 1] (.alt (qS 5 7 35) (.node [qm 8 36] .leaf) .leaf)) .leaf)) .leaf)))) (so [qL 37 5 2,qm 38 6,qL 39 5 7,qc 40 51 [37,38,39] 1,qm 41 8,qS 5 4 40,qm 5 41] .ret)) .skip)) (so [qL 42 5 2,qc 43 34 [42] 1,⟨some 9,.zero [.int .i64 0,.int .i64 0,.int .i64 0,.string ⟨[].toArray⟩,.slice none 0 0],none,[]⟩,qS 5 9 43] (so [qm 44 6,qm 10 44] (.seq (so [qF 45 0 2,ql 46 1 45,qo 47 (.bin .eql false 46 (ci 8))] (.cond 47 (.ops [qm 48 6,qo 49 (.bin .sub false 48 (ci 1)),qm 10 49]) .skip)) (so [qF 51 4 9,ql 52 1 51,qm 53 10,qo 54 (.slc 5 52 none (some 53)),qF 56 4 9,ql 57 1 56,qm 58 6,qo 59 (.bin .add false 58 (ci 1)),qo 60 (.slc 5 57 (some 59) none),qo 50 (.lit 5 []),qo 55 (.app 5 50 54),⟨some 61,.app 5 55 60,none,[.f 0]⟩,qF 62 4 9,qS 1 62 61] (so [qL 63 5 9,qF 64 0 2,ql 65 1 64,qo 66 (.bin .neq false 65 (ci 9)),⟨none,.store 5 4 63,none,[64]⟩,qm 5 66] .ret)))))))))
theorem zc7:look Tryz.prog 31 = some (67,m_s_l08Less,[.cell true 5 4,.tm 5]):=by kernel_rfl
def m_s_l08Kid:M:=so [qo 2 (.box 0),qo 4 (.mv (ci 0))] (.seq (so [qF 7 0 2,ql 8 1 7] (.block 0 (so [qo 10 (.bin .eql false 8 (ci 7)),qm 9 10] (.cond 9 (so [qm 11 1,qc 12 60 [11] 1,qm 5 12] (so [qm 13 5,qF 14 4 2,ql 15 1 14,qo 16 (.len 15),qo 17 (.bin .lss false 13 16)] (.cond 17 (so [qm 18 5,qm 4 18] .ret) .skip))) (so [qo 20 (.bin .eql false 8 (ci 8)),qm 19 20] (.cond 19 (so [qF 21 4 2,ql 22 1 21,qm 23 1,qc 24 61 [22,23] 1,qm 6 24] (so [qm 25 6,qo 26 (.bin .geq false 25 (ci 0))] (.cond 26 (so [qm 27 6,qo 28 (.bin .add false 27 (ci 1)),qm 4 28] .ret) .skip))) (so [qo 30 (.bin .eql false 8 (ci 9)),qm 29 30] (.cond 29 (so [qm 31 1,⟨some 32,.bin .eql false 31 (.c (.string ⟨[116,97,103].toArray⟩)),none,[]⟩,qm 33 32,⟨some 34,.fld 4 2,some (33,true),[]⟩,⟨some 35,.load false 1 34,some (33,true),[]⟩,⟨some 36,.len 35,some (33,true),[]⟩,⟨some 37,.bin .gtr false 36 (ci 0),some (33,true),[]⟩,qo 38 (.pick 33 37 (cB false))] (.cond 38 (so [qo 4 (.mv (ci 0))] .ret) .skip)) .skip)))))))) (so [qo 4 (.mv (ci (-1)))] .ret))
theorem zgl:look Tryz.prog 33 = some (39,m_s_l08Kid,[.tm 4]):=by kernel_rfl
def m_s_l08New:M:=so [qo 4 (.box 0),qo 6 (.box 2),⟨some 8,.zero [.int .i64 0,.int .i64 0,.int .i64 0,.string ⟨[].toArray⟩,.slice none 0 0],none,[]⟩,qo 9 (.mv (cB false))] (so [qL 12 5 4,qc 13 34 [12] 1,⟨some 10,.zero [.int .i64 0,.int .i64 0,.int .i64 0,.string ⟨[].toArray⟩,.slice none 0 0],none,[]⟩,qS 5 10 13] (so [qm 14 1,qc 15 60 [14] 1,qm 11 15] (.seq (.block 0 (so [qF 17 0 4,ql 18 1 17,qo 19 (.bin .eql false 18 (ci 8)),qm 20 19,⟨some 21,.fld 4 4,some (20,true),[]⟩,⟨some 22,.load false 1 21,some (20,true),[]⟩,qg 23 1 20 true,⟨some 24,.call 61 [22,23],some (20,true),[.f 1]⟩,⟨some 25,.bin .lss false 24 (ci 0),some (20,true),[]⟩,qo 26 (.pick 20 25 (cB false)),qm 16 26] (.cond 16 (so [qF 27 4 10,ql 28 1 27,qm 29 1,qL 31 5 6,⟨some 30,.call 46 [29],none,[.f 0,27,6]⟩,qo 32 (.litq 5 [30,31]),⟨some 33,.app 5 28 32,none,[.f 0]⟩,qF 34 4 10,qS 1 34 33] (so [qL 35 5 10,qS 5 8 35,qo 9 (.mv (cB true))] .ret)) (so [qF 37 0 4,ql 38 1 37,qo 39 (.bin .eql false 38 (ci 7)),qm 40 39,qg 41 11 40 true,⟨some 42,.fld 4 4,some (40,true),[]⟩,⟨some 43,.load false 1 42,some (40,true),[]⟩,⟨some 44,.len 43,some (40,true),[]⟩,⟨some 45,.bin .eql false 41 44,some (40,true),[]⟩,qg 46 45 40 true,qg 47 3 46 false,qg 48 47 46 false,qg 49 11 48 true,⟨some 50,.fld 4 4,some (48,true),[]⟩,⟨some 51,.load false 1 50,some (48,true),[]⟩,⟨some 52,.len 51,some (48,true),[]⟩,⟨some 53,.bin .sub false 52 (ci 1),some (48,true),[]⟩,⟨some 54,.call 74 [49,ci 0,53],some (48,true),[.f 1]⟩,⟨some 55,.pick 48 54 (cB false),some (46,false),[]⟩,⟨some 56,.pick 46 (cB true) 55,some (40,true),[]⟩,qo 57 (.pick 40 56 (cB false)),qm 36 57] (.cond 36 (so [qF 59 4 10,ql 60 1 59,qm 61 11,qo 62 (.slc 5 60 none (some 61)),qL 64 5 6,qo 65 (.litq 5 [64]),qF 67 4 10,ql 68 1 67,qm 69 11,qo 70 (.slc 5 68 (some 69) none),qo 58 (.lit 5 []),qo 63 (.app 5 58 62),qo 66 (.app 5 63 65),⟨some 71,.app 5 66 70,none,[.f 0]⟩,qF 72 4 10,qS 1 72 71] (so [qL 73 5 10,qS 5 8 73,qo 9 (.mv (cB true))] .ret)) .skip))))) (so [qL 74 5 10,qS 5 8 74,qo 9 (.mv (cB false))] .ret))))
theorem zgm:look Tryz.prog 50 = some (75,m_s_l08New,[.cell true 5 8,.tm 9]):=by kernel_rfl
def m_s_l08With:M:=so [qo 3 (.box 0),qo 5 (.box 2),⟨some 6,.zero [.int .i64 0,.int .i64 0,.int .i64 0,.string ⟨[].toArray⟩,.slice none 0 0],none,[]⟩] (so [qL 8 5 3,qc 9 34 [8] 1,⟨some 7,.zero [.int .i64 0,.int .i64 0,.int .i64 0,.string ⟨[].toArray⟩,.slice none 0 0],none,[]⟩,qS 5 7 9] (so [qF 10 4 7,ql 11 1 10,qm 12 1,qL 13 5 5,qo 14 (.ix 5 11 12),qS 5 14 13] (so [qL 15 5 7,qS 5 6 15] .ret)))
theorem zfm:look Tryz.prog 51 = some (16,m_s_l08With,[.cell true 5 6]):=by kernel_rfl
def m_s_l08Number:M:=so [qo 2 (.mv (ci 0))] (so [qm 6 0,qc 7 79 [6] 1,qm 5 7,qe 8 5 0,qe 9 5 1,qm 3 8,qm 4 9] (.seq (so [qm 10 4,qo 11 (.not 10),qm 12 11,qg 13 3 12 false,⟨some 14,.call 74 [13,ci 0,ci 999999],some (12,false),[.f 1]⟩,⟨some 15,.not 14,some (12,false),[]⟩,qo 16 (.pick 12 (cB true) 15)] (.cond 16 (so [qo 2 (.mv (ci (-1)))] .ret) .skip)) (so [qm 17 3,qm 2 17] .ret)))
theorem zd6:look Tryz.prog 60 = some (18,m_s_l08Number,[.tm 2]):=by kernel_rfl
def m_s_l02Key:M:=so [qo 4 (.mv (ci 0))] (.seq (so [qo 5 (.mv (ci 0))] (.block 0 (.loop (.seq (so [qm 6 5,qo 7 (.bin .add false 6 (ci 1)),qm 8 0,qo 9 (.len 8),qo 10 (.bin .lss false 7 9)] (.cond 10 .skip (.exit 0))) (.seq (.block 1 (so [qm 13 0,qm 14 5,qo 15 (.ix 5 13 14),qF 16 0 15,ql 17 1 16,qo 18 (.bin .eql false 17 (ci 5)),qm 19 18,qg 20 0 19 true,qg 21 5 19 true,⟨some 22,.ix 5 20 21,some (19,true),[]⟩,⟨some 23,.fld 3 22,some (19,true),[]⟩,⟨some 24,.load false 1 23,some (19,true),[]⟩,qg 25 1 19 true,⟨some 26,.bin .eql false 24 25,some (19,true),[]⟩,qo 27 (.pick 19 26 (cB false))] (.cond 27 (so [qm 28 5,qm 4 28] .ret) .skip))) (.ops [qm 11 5,qo 12 (.bin .add false 11 (ci 2)),qm 5 12])))))) (so [qo 4 (.mv (ci (-1)))] .ret))
theorem zgn:look Tryz.prog 61 = some (29,m_s_l02Key,[.tm 4]):=by kernel_rfl
end
section
variable {T:World -> Prop} {hT:Low ngl T}
attribute [local irreducible] po mw pt
theorem zbD (v:V) (_hw:v.wf) (hb:v.bulk <= 4294967295):FnV (env T hT) 34 [.ag (vC v)] (.ag (vC v)):=by
 have h:FnO (env T hT) 34 [.ag (vC v)] (.ag v.d.pc):=by
  refine FnO.old (V.wfd v) fun w C vs hF _ _ hlen hv => ?_
  match vs,hlen with
  | [y],_ =>
   have h0:=hv 0 _ _ rfl rfl;rw [<- v.pc_eq] at h0;obtain ⟨cs,rfl,hr⟩:=vRd hF (V.wfd v) h0;exact zgh v cs w hr (by omega)
 have h:=h.v;rw [v.pc_eq] at h;exact h
theorem zbX (a b:List V):vK (a ++ b) = vK a ++ vK b:=by simp [vK]
theorem zdQ (v:V):vK [v] = [vC v]:=by show [v.d.pc] = _; rw [V.pc_eq]
def CbI (ks:List V) (m:Nat) (s:St):Prop :=
 ∃ (i:Nat) (c:PC),i <= ks.length /\ m = ks.length - i /\ has s.tm [(0,.d (.sl 0 (vK ks))),(3,.d c),(4,.d (pI i))] /\ RwL 5 0 s.live c s.bx (vK (ks.take i))
theorem cpyAllB_g (ks:List V) (hw:V.wfs ks) (hb:ks.length + V.bulks ks <= 4294967295) (nt:Nat) (live:List Nat):FnG (env T hT) 62 [.d (.sl 0 (vK ks))] [] nt live (fun x bx _ l => ∃ c,x = .d c /\ RwL 5 0 l c bx (vK ks)):=by
 refine zaR (zad zbW) (by show 1 <= 21; decide) fun B hB => ?_
 unfold m_s_l02CopyAll;refine mP ?_;refine mO ?_;refine zaC (es:=[]) rfl ?_;refine mN ?_;refine zav (fun s => ∃ c,has s.tm [(3,.d c)] /\ RwL 5 0 s.live c s.bx (vK ks)) ?_ ?_
 ·refine mP ?_
  refine zai ?_;refine zaJ (CbI ks) ks.length ⟨0,.sl nt [],Nat.zero_le _,rfl,⟨rfl,rfl,rfl,trivial⟩,⟨Nat.zero_le _,.inl ⟨nt,rfl,.inr (mem_cons_self ..),rfl⟩⟩,fun e he => by cases he⟩ ?_;rintro m tm bx n1 l1 ⟨i,c,hi,rfl,ht,hR⟩;obtain ⟨tm1,rfl⟩:=zah ht;simp only at hR;clear ht;refine mM ?_;(iterate 2 refine mS ?_);refine zaA (n:=ks.length) rfl rfl (zao _) ?_;refine po_b rfl rfl (fun p hp => ?_);refine zae ?_;refine zb9 (p:=(i:Int) < ks.length) hp rfl (fun him _ => ?_) (fun him _ => ?_)
  rotate_left
  ·refine zaL ?_
   obtain rfl:i = ks.length:=by omega
   rw [take_length] at hR;exact ⟨c,⟨rfl,trivial⟩,hR⟩
  have hil:i < ks.length:=by omega
  have hwi:ks[i].wf:=by
   have:=V.wfs_td hw i
   rw [drop_eq_getElem_cons hil] at this;exact this.2.1
  refine zau ?_;refine zaD (zai (zaj ?_));(iterate 3 refine mS ?_);refine za4 (es:=vK ks) (e:=vC ks[i]) rfl rfl rfl ⟨by omega,by rw [Int.toNat_natCast]; exact zbe hil⟩ rfl ?_;refine mS ?_;refine zac (zaI _) (zbD (T:=T) (hT:=hT) ks[i] hwi (V.bulk_get hb i hil)) ?_;refine zaC (es:=vK [ks[i]]) (by rw [zdQ]; rfl) ?_;refine zdF (m:=i) (ds:=vK [ks[i]]) (RwAt.mono hR.1 fun t ht => mem_cons_of_mem _ ht) (by simp [vK]) (by rw [zaK hR.2,zao,length_take,Nat.min_eq_left hi]) (by decide) (by rw [zao]; simp only [length_singleton]; omega) (za7 _) rfl rfl ?_;intro c' bx' hR' _;refine mN ?_;refine zaj ?_;refine mS ?_;refine zay (n:=((i + 1:Nat):Int)) rfl rfl rfl (by omega) (by omega) ?_;refine mN ?_;refine ⟨ks.length - (i + 1),by omega,i + 1,c',hil,rfl,⟨rfl,rfl,rfl,trivial⟩,?_⟩
  ·rw [take_succ_eq_append_getElem hil,zbX]
   exact ⟨by rw [flatten_append]; exact hR',fun e he => (mem_append.1 he).elim (za7 _ e) (za7 _ e)⟩
 rintro tm bx n1 l1 ⟨c,ht,hR⟩;obtain ⟨tm1,rfl⟩:=zah ht;refine mP ?_;exact zab ⟨.inr rfl,[.d c],rfl,c,rfl,hR⟩
theorem lwL_app {k:Nat}:∀ {a b:List PC},lwL k a -> lwL k b -> lwL k (a ++ b)
 | [],_,_,h => h
 | _ :: _,_,h,h2 => ⟨h.1,lwL_app h.2 h2⟩
theorem RwL.cong {n lo:Nat} {live:List Nat} {c:PC} {bx bx' rows:LP PC} (h:RwL n lo live c bx rows) (h1:bx.length <= bx'.length) (hb:∀ q,lo <= q -> q < bx.length -> bx'[q]? = bx[q]?):RwL n lo live c bx' rows:=⟨h.1.cong h1 hb,h.2⟩
theorem RwL.low {n lo lo':Nat} {live:List Nat} {c:PC} {bx rows:LP PC} (h:RwL n lo live c bx rows) (hl:lo' <= lo):RwL n lo' live c bx rows :=
 ⟨⟨by have:=h.1.1; omega,h.1.2.imp id fun ⟨p,len,cap,z,a,b,r⟩ => ⟨p,len,cap,z,a,by omega,r⟩⟩,h.2⟩
theorem RwL.app {n lo:Nat} {live:List Nat} {c:PC} {bx rows:LP PC} (h:RwL n lo live c bx rows) (q:List PC):RwL n lo live c (bx ++ [q]) rows:=h.cong (by simp) fun i _ hi => getElem?_append_left hi
theorem RwL.shB {n lo k:Nat} {live:List Nat} {c:PC} {b bx rows:LP PC} (h:RwL n lo live c b rows) (hl:lwLL 0 rows) (hk:bx.length = k):RwL n (lo + k) live (c.shB k) (bx ++ b.map (·.map (PC.shB k))) rows :=
 ⟨h.1.shB (by
  clear h
  induction rows with
  | nil => trivial
  | cons e r ih =>
   rw [flatten_cons];exact lwL_app hl.1 (ih hl.2)) hk,h.2⟩
theorem vK_lw (ks:List V):lwLL 0 (vK ks):=(vlw (v:=.mk 0 0 0 [] ks) (zap _)).2.2.2.2.1
theorem vag_shB (k:Nat) (v:V) (c:PC):PV.shB k (.ag [pI v.kind,pI v.num,pI v.exp,pS v.text,c]) = .ag [pI v.kind,pI v.num,pI v.exp,pS v.text,c.shB k]:=by
 simp only [PV.shB,map_cons,map_nil];rw [zdD (c:=pI v.kind) trivial,zdD (c:=pI v.num) trivial,zdD (c:=pI v.exp) trivial,zdD (c:=pS v.text) trivial]
theorem cpyB_g (v:V) (hw:v.wf) (hb:v.bulk <= 4294967295) (nt:Nat) (live:List Nat):FnG (env T hT) 34 [.ag (vC v)] [] nt live (fun x bx _ l => ∃ c,x = .ag [pI v.kind,pI v.num,pI v.exp,pS v.text,c] /\ RwL 5 0 l c bx (vK v.kids)):=by
 have hb2:=hb;rw [V.bulk_eq] at hb2;refine zaR (zad zc6) (by show 1 <= 10; decide) fun B hB => ?_
 unfold m_s_l02Copy;refine mO ?_;refine zax (cs:=vC v) rfl ?_;refine mN ?_;refine mO ?_;refine zaa (p:=0) (cs:=vC v) rfl rfl rfl rfl ?_;refine zbb (cs:=vC v) rfl rfl rfl rfl ?_;refine mN ?_;refine mO ?_;(iterate 2 refine mS ?_);refine po_g rfl (FnG.liftR (cpyAllB_g (T:=T) (hT:=hT) v.kids (V.wf_k hw) (by omega) nt live) ⟨vK_lw _,trivial⟩) ?_;rintro x b n l ⟨x0,b0,rfl,rfl,c0,rfl,hR⟩;have hR2:=hR.shB (bx:=[vC v,[pI 0,pI 0,pI 0,pS [],.sl 1 []],vC v]) (k:=3) (vK_lw _) rfl;show po _ _ _ ⟨up 7 (.d (c0.shB 3)) _,[vC v,[pI 0,pI 0,pI 0,pS [],.sl 1 []],vC v] ++ b0.map (·.map (PC.shB 3)),_,_⟩;generalize c0.shB 3 = c at hR2;obtain ⟨rest,hrest⟩:∃ rest,b0.map (·.map (PC.shB 3)) = rest:=⟨_,rfl⟩;rw [hrest] at hR2 ⊢;refine mS ?_;refine zas (p:=2) (o':=4) (cs:=[c]) (z:=vC v) rfl rfl rfl ⟨rfl,Nat.le_of_ble_eq_true rfl⟩ rfl ?_;refine zae ?_;refine mO ?_;refine zaZ (p:=2) (o:=0) (cs:=[pI v.kind,pI v.num,pI v.exp,pS v.text,c]) rfl rfl rfl (Nat.le_of_ble_eq_true rfl) rfl ?_
 refine zag (p:=1) (cs:=[pI v.kind,pI v.num,pI v.exp,pS v.text,c]) rfl rfl rfl rfl rfl rfl ?_;refine zae ?_;refine zab ⟨.inr rfl,[.ag [pI v.kind,pI v.num,pI v.exp,pS v.text,c]],rfl,c,rfl,?_⟩;have hR3:=(hR2.cong (bx':=(([vC v,[pI 0,pI 0,pI 0,pS [],.sl 1 []],vC v] ++ rest).set 2 (spl (vC v) 4 [c])).set 1 [pI v.kind,pI v.num,pI v.exp,pS v.text,c]) (by simp) (fun q hq _ => by rw [getElem?_set_ne (by omega),getElem?_set_ne (by omega)])).low (Nat.zero_le _);exact hR3
theorem vK_set (ks:List V) (i:Nat) (x:V):(vK ks).set i (vC x) = vK (ks.set i x):=by
 unfold vK;rw [<- V.pc_eq,map_set]
theorem withS_fn (v x:V) (i:Nat) (hi:i < v.kids.length) (hw:v.wf) (hb:v.bulk <= 4294967295):FnV (env T hT) 51 [.ag (vC v),.d (pI i),.ag (vC x)] (.ag (vC (v.withK (v.kids.set i x)))):=by
 refine FnG.rowA1 (zaR (zad zfm) (by show 3 <= 16; decide) fun B hB => ?_);unfold m_s_l08With;refine mO ?_;refine zax (cs:=vC v) rfl ?_;refine zax (cs:=vC x) rfl ?_;refine mN ?_;refine mO ?_;refine zaa (p:=0) (cs:=vC v) rfl rfl rfl rfl ?_;refine po_g rfl (FnG.liftR (cpyB_g (T:=T) (hT:=hT) v hw hb 2 []) ⟨vlw (zap _),trivial⟩) ?_;rintro y b n l ⟨x0,b0,rfl,rfl,c0,rfl,hR⟩;have hR2:=hR.shB (bx:=[vC v,vC x,[pI 0,pI 0,pI 0,pS [],.sl 1 []]]) (k:=3) (vK_lw _) rfl;rw [vag_shB];show po _ _ _ ⟨up 9 (.ag [pI v.kind,pI v.num,pI v.exp,pS v.text,c0.shB 3]) _,[vC v,vC x,[pI 0,pI 0,pI 0,pS [],.sl 1 []]] ++ b0.map (·.map (PC.shB 3)),_,_⟩;generalize c0.shB 3 = c at hR2;obtain ⟨rest,hrest⟩:∃ rest,b0.map (·.map (PC.shB 3)) = rest:=⟨_,rfl⟩;rw [hrest] at hR2 ⊢;show po _ _ _ ⟨_,vC v :: vC x :: [pI 0,pI 0,pI 0,pS [],.sl 1 []] :: rest,_,_⟩;have hR3:RwL 5 3 l c (vC v :: vC x :: [pI 0,pI 0,pI 0,pS [],.sl 1 []] :: rest) (vK v.kids):=hR2
 clear hR2 hrest;refine zbb (cs:=[pI v.kind,pI v.num,pI v.exp,pS v.text,c]) rfl rfl rfl rfl ?_;refine zae ?_;obtain ⟨bx,hbx⟩:∃ bx,bx = vC v :: vC x :: [pI 0,pI 0,pI 0,pS [],.sl 1 []] :: rest:=⟨_,rfl⟩;rw [<- hbx] at hR3 ⊢;have hx1:(bx ++ [[pI v.kind,pI v.num,pI v.exp,pS v.text,c]])[1]? = some (vC x):=by rw [hbx]; rfl
 have h3:3 <= bx.length:=by rw [hbx]; simp
 refine mQ ?_;refine zaZ (o:=4) (cs:=[pI v.kind,pI v.num,pI v.exp,pS v.text,c]) (v:=.d c) rfl rfl (za0 _ _) (Nat.le_of_ble_eq_true rfl) rfl ?_;refine mS ?_;refine zaa (p:=1) (cs:=vC x) rfl rfl hx1 rfl ?_;have hRa:=hR3.app [pI v.kind,pI v.num,pI v.exp,pS v.text,c];refine zdE (i:=i) hRa.1 (by decide) rfl (by rw [zaK hRa.2,zao]; omega) rfl rfl rfl ?_;intro p len cap z e1 hp hz hzl hlc hfl hil hfit;subst e1;obtain ⟨z0,hz0,_⟩:=hR3.len (by decide)
 have hpl:p < bx.length:=by
  rcases Nat.lt_or_ge p bx.length with h | h
  ·exact h
  ·rw [getElem?_eq_none h] at hz0; cases hz0
 refine zas (p:=p) (o':=5 * i) (cs:=vC x) (z:=z) rfl rfl hz ⟨rfl,hfit⟩ rfl ?_;refine zae ?_;have hRs:=hRa.set (by decide) (by rw [zao]; exact hi) (show (vC x).length = 5 from rfl) hz;rw [vK_set] at hRs
 have hlast:((bx ++ [[pI v.kind,pI v.num,pI v.exp,pS v.text,.row p len cap]]).set p (spl z (5 * i) (vC x)))[bx.length]? = some [pI v.kind,pI v.num,pI v.exp,pS v.text,.row p len cap]:=by
  rw [getElem?_set_ne (by omega)]; exact za0 _ _
 have h2:((bx ++ [[pI v.kind,pI v.num,pI v.exp,pS v.text,.row p len cap]]).set p (spl z (5 * i) (vC x)))[2]? = some [pI 0,pI 0,pI 0,pS [],.sl 1 []]:=by
  rw [getElem?_set_ne (by omega),hbx]; rfl
 refine mO ?_;refine zaZ (p:=bx.length) (o:=0) (cs:=[pI v.kind,pI v.num,pI v.exp,pS v.text,.row p len cap]) (v:=.ag [pI v.kind,pI v.num,pI v.exp,pS v.text,.row p len cap]) rfl rfl hlast (Nat.le_of_ble_eq_true rfl) rfl ?_;refine zag (p:=2) (cs:=[pI v.kind,pI v.num,pI v.exp,pS v.text,.row p len cap]) (z:=[pI 0,pI 0,pI 0,pS [],.sl 1 []]) rfl rfl h2 rfl rfl rfl ?_;refine zae ?_;have hR4:=hRs.cong (bx':=((bx ++ [[pI v.kind,pI v.num,pI v.exp,pS v.text,.row p len cap]]).set p (spl z (5 * i) (vC x))).set 2 [pI v.kind,pI v.num,pI v.exp,pS v.text,.row p len cap]) (by simp) (fun q hq _ => getElem?_set_ne (by omega));refine zab ⟨.inr rfl,[.ag [pI v.kind,pI v.num,pI v.exp,pS v.text,.row p len cap]],zcD rfl (getElem?_set_self (by rw [length_set,length_append]; simp; omega)) rfl,_,rfl,?_⟩;exact RowG.of (v:=v.withK (v.kids.set i x)) hR4 (zc9 _)
end
section
variable {T:World -> Prop} {hT:Low ngl T}
attribute [local irreducible] po mw pt
def CyR (nt:Nat) (live:List Nat) (v:V) (x:PV) (n:Nat) (l:List Nat):Prop:=∃ cs,x = .ag cs /\ NR nt live n l cs /\ erL cs = vC v /\ RowT cs
def CyP (T:World -> Prop) (hT:Low ngl T) (N:Nat):Prop:=∀ (v:V) (cs:List PC) (nt:Nat) (live:List Nat),v.nodes <= N -> v.nodes <= 4294967295 -> erL cs = vC v -> 2 <= nt -> FnG (env T hT) 34 [.ag cs] [] nt live (fun x _ n l => x.lw 0 /\ CyR nt live v x n l)
def CaR (nt:Nat) (live:List Nat) (ks:List V) (x:PV) (n:Nat) (l:List Nat):Prop:=∃ (q:Nat) (out:LP PC),x = .d (.sl q out) /\ 2 <= q /\ NR nt live n l [.sl q out] /\ erLL out = vK ks
def CaI (nt:Nat) (live:List Nat) (t:Nat) (rows:LP PC) (ks:List V) (m:Nat) (st:St):Prop :=
 ∃ (i q:Nat) (out:LP PC),i <= ks.length /\ m = ks.length - i /\ has st.tm [(0,.d (.sl t rows)),(3,.d (.sl q out)),(4,.d (pI i))] /\ NR nt live st.nt st.live [.sl q out] /\ 2 <= q /\ erLL out = vK (ks.take i)
theorem zgo {N:Nat} (ih:CyP T hT N) (ks:List V) (hk:∀ x ∈ ks,x.nodes <= N) (hb:V.nodess ks <= 4294967295) {rows:LP PC} (t:Nat) (he:erLL rows = vK ks) (nt:Nat) (live:List Nat) (hn:2 <= nt) :
  FnG (env T hT) 62 [.d (.sl t rows)] [] nt live (fun x _ n l => x.lw 0 /\ CaR nt live ks x n l):=by
 have hkn:=V.kids_nodes ks;have hrl:=zeC he;refine zaR (zad zbW) (by show 1 <= 21; decide) fun B hB => ?_
 unfold m_s_l02CopyAll;refine mP ?_;refine mO ?_;refine zaC (es:=[]) rfl ?_;refine mN ?_;refine zav (fun st => ∃ (q:Nat) (out:LP PC),has st.tm [(3,.d (.sl q out))] /\ NR nt live st.nt st.live [.sl q out] /\ 2 <= q /\ erLL out = vK ks) ?_ ?_
 ·refine mP ?_
  refine zai ?_;refine zaJ (CaI nt live t rows ks) ks.length ⟨0,nt,[],Nat.zero_le _,rfl,⟨rfl,rfl,rfl,trivial⟩,NR.lit (es:=[]) hn (NR.refl nt live),hn,rfl⟩ ?_;rintro m tm bx n1 l1 ⟨i,q,out,hi,rfl,ht,hN,hq,ho⟩;obtain ⟨tm1,rfl⟩:=zah ht;simp only at hN;clear ht;have hol:=zeC ho;rw [length_take] at hol;refine mM ?_;(iterate 2 refine mS ?_);refine zaA (n:=ks.length) rfl rfl hrl ?_;refine po_b rfl rfl (fun b hb => ?_);refine zae ?_;refine zb9 (p:=(i:Int) < ks.length) hb rfl (fun him _ => ?_) (fun him _ => ?_)
  rotate_left
  ·refine zaL ?_
   have:i = ks.length:=by omega
   subst this;rw [take_length] at ho;exact ⟨q,out,⟨rfl,trivial⟩,hN,hq,ho⟩
  have hia:i < ks.length:=by omega
  obtain ⟨e,hge,hee⟩:=erk_get he hia;have hlwe:=vlw hee;have hcall:=fun nt live h2 => ih ks[i] e nt live (hk _ (getElem_mem hia)) (by have:=V.nodes_get ks i hia; omega) hee h2
  obtain ⟨te,re,hse,hre⟩:=vform hee;rw [hse] at hge hlwe hcall;have hn1:=hN.n2 hn;refine zau ?_;refine zaD (zai (zaj ?_));(iterate 3 refine mS ?_);refine za4 (es:=rows) (e:=vcs ks[i].kind ks[i].num ks[i].exp ks[i].text te re) rfl rfl rfl ⟨by omega,by rw [Int.toNat_natCast]; exact hge⟩ rfl ?_;refine mS ?_;refine po_g rfl (FnG.lift0 (hcall n1 l1 hn1) ⟨hlwe,trivial⟩) ?_;rintro x b' n2 l2 ⟨rfl,cs',rfl,hN2,he2,hR2⟩;have hqm:=hN.mem q (sl_tok hq);have hle2:=hN2.le;refine zaC (es:=[cs']) (litP1 (a:=cs') rfl (zaU he2)) ?_;refine za3 (t:=q) (t':=n2) (es:=out) (ds:=[cs']) rfl rfl (.inr (mem_cons_of_mem _ (hN2.keep q hqm.2.2 hq hqm.2.1))) (by simp only [length_cons,length_nil]; omega) (fun e he => by simp only [mem_singleton] at he; subst he; exact zaU he2) (erk_wid ho) ?_;refine mN ?_;refine zaj ?_;refine mS ?_;refine zay (n:=((i + 1:Nat):Int)) rfl rfl rfl (by omega) (by omega) ?_
  refine mN ?_;have hNa:=NR.app (a:=[]) (b:=[]) (rows:=out) (ds:=[cs']) hn (.inr hq) (by simpa using hN.trans hN2.up);exact ⟨_,by show ks.length - (i + 1) < ks.length - i; omega,i + 1,n2 + 1,out ++ [cs'],by omega,rfl,⟨rfl,rfl,rfl,trivial⟩,hNa,by omega,by rw [take_succ_eq_append_getElem hia]; exact erk_app ho (erk_one he2)⟩
 rintro tm bx n1 l1 ⟨q,out,ht,hN,hq,ho⟩;obtain ⟨tm1,rfl⟩:=zah ht;simp only at hN;refine mP ?_;exact zab ⟨.inr rfl,[.d (.sl q out)],rfl,(hN.lw (k:=0)).1,q,out,rfl,hq,hN,ho⟩
theorem cpy_step {N:Nat} (ih:CyP T hT N):CyP T hT (N + 1):=by
 intro v cs nt live hv hb he hn;have hnk:=V.nodes_eq0 v;obtain ⟨t,rows,rfl,hr⟩:=vform he
 have hall:=zgo ih v.kids (fun x hx => by
  obtain ⟨i,hi,rfl⟩:=List.getElem_of_mem hx;exact V.nodes_kid hv i hi) (by omega) t hr nt live hn
 have hlw:=vlw he
 have hlr:lwVs 0 [PV.d (.sl t rows)]:=by
  have h2:=hlw;simp only [vcs,lwL,PC.lw,pI,pS,and_true,true_and] at h2;exact ⟨h2,trivial⟩
 refine zaR (zad zc6) (by show 1 <= 10; decide) fun B hB => ?_
 unfold m_s_l02Copy;refine mO ?_;refine zax (cs:=vcs v.kind v.num v.exp v.text t rows) rfl ?_;refine mN ?_;refine mO ?_;refine zaa (p:=0) (cs:=vcs v.kind v.num v.exp v.text t rows) rfl rfl rfl rfl ?_;refine zbb (cs:=vcs v.kind v.num v.exp v.text t rows) rfl rfl rfl rfl ?_;refine mN ?_;refine mO ?_;(iterate 2 refine mS ?_);refine po_g rfl (FnG.lift0 hall hlr) ?_;rintro x b' n2 l2 ⟨rfl,q,out,rfl,hq,hN,ho⟩;refine mS ?_;refine zas (p:=2) (o':=4) (cs:=[.sl q out]) (z:=vcs v.kind v.num v.exp v.text t rows) rfl rfl rfl ⟨rfl,by show 4 + 1 <= 5; decide⟩ rfl ?_;refine zae ?_;refine mO ?_;refine zaa (p:=2) (cs:=vcs v.kind v.num v.exp v.text q out) rfl rfl rfl rfl ?_;refine zag (p:=1) (cs:=vcs v.kind v.num v.exp v.text q out) rfl rfl rfl rfl rfl rfl ?_;refine mN ?_;have hNv:NR nt live n2 l2 (vcs v.kind v.num v.exp v.text q out):=hN.plain (by simpa [ownedL,vcs,PC.owned,pI,pS] using hN.own) rfl
 refine zab ⟨.inr rfl,[.ag (vcs v.kind v.num v.exp v.text q out)],rfl,hNv.lw,_,rfl,hNv,?_,⟨_,_,_,_,q,out,rfl,.inr hq⟩⟩;obtain ⟨k,n,e,s,ks⟩:=v;show [pI k,pI n,pI e,pS s,.sl 0 (erLL out)] = _;rw [ho]; rfl
theorem cpy_all:∀ N,CyP T hT N:=by
 intro N
 induction N with
 | zero => intro v cs nt live hv; have:=v.nodes_pos; omega
 | succ N ih => exact cpy_step ih
theorem cpy_g (v:V) {cs:List PC} (hb:v.nodes <= 4294967295) (he:erL cs = vC v) {bx:LP PC} {nt:Nat} (live:List Nat) (hn:2 <= nt):FnG (env T hT) 34 [.ag cs] bx nt live (fun x b n l => b = bx /\ CyR nt live v x n l) :=
 FnG.lift0 (cpy_all v.nodes v cs nt live lR hb he hn) ⟨vlw he,trivial⟩
end
end Go.Proofs.YtdnjinhlhohfiaaGreatDoor
/-
  DERIVED: THE SHELF's CONTRACTS AT THIS DUMP, IN PLAIN WORDS (tools/lay-plain.mjs out of 'TryzShelf.lean', which tools/lay-shelf.mjs wrote): THE SAME DECLARATIONS UNDER THE SAME NAMES: 'import', 'namespace', 'open', 'def', 'theorem' AND NOTHING ELSE: no command of the shelf's: FOR A HAND-IN. Each laying: the table of numbers ('.._ren') and one theorem, a field a fact of the dump's own or the kernel's comparison; each contract: ONE APPLICATION.
-/
namespace Go.Proofs
open Go.Shelf
def Tryz.lays172_ren:Go.Shelf.Ren:=⟨fun | 172 => 97 | 244 => 101 | 245 => 102 | 247 => 106 | 279 => 107 | 280 => 108 | 281 => 109 | 282 => 110 | 287 => 112 | 316 => 113 | 171 => 98 | 205 => 114 | 321 => 119 | 322 => 120 | 243 => 103 | 246 => 111 | 283 => 115 | 284 => 116 | 285 => 117 | 286 => 118 | 129 => 122 | 317 => 121 | 318 => 123 | 319 => 124 | 320 => 125 | 337 => 126 | 338 => 127 | n => n,fun | 9 => 9 | 3 => 3 | 75 => 103 | 76 => 104 | 4 => 4 | 5 => 5 | 167 => 112 | 37 => 22 | 0 => 0 | 85 => 113 | 2 => 2 | 168 => 115 | 53 => 106 | 175 => 119 | 46 => 89 | 210 => 123 | 127 => 131 | 145 => 134 | 143 => 132 | 21 => 21 | 171 => 125 | 173 => 128 | 212 => 137 | 51 => 138 | 20 => 20 | 213 => 139 | 232 => 143 | 233 => 144 | 80 => 145 | n => n,fun | 15 => 2 | 16 => 3 | 17 => 4 | 18 => 5 | 19 => 6 | n => n⟩
def Tryz.laysM246_ren:Go.Shelf.Ren:=⟨fun | 246 => 111 | 283 => 115 | 284 => 116 | 285 => 117 | 286 => 118 | 129 => 122 | 317 => 121 | 318 => 123 | 319 => 124 | 320 => 125 | 337 => 126 | 338 => 127 | n => n,fun | 2 => 2 | 3 => 3 | 9 => 9 | 4 => 4 | 171 => 125 | 0 => 0 | 53 => 106 | 37 => 22 | 5 => 5 | 173 => 128 | 212 => 137 | 51 => 138 | 20 => 20 | 213 => 139 | 46 => 89 | 232 => 143 | 233 => 144 | n => n,fun | 17 => 4 | 18 => 5 | 19 => 6 | n => n⟩
def Tryz.laysM243_ren:Go.Shelf.Ren:=⟨fun | 243 => 103 | 246 => 111 | 283 => 115 | 284 => 116 | 285 => 117 | 286 => 118 | 129 => 122 | 317 => 121 | 318 => 123 | 319 => 124 | 320 => 125 | 337 => 126 | 338 => 127 | n => n,fun | 3 => 3 | 9 => 9 | 2 => 2 | 4 => 4 | 171 => 125 | 0 => 0 | 53 => 106 | 37 => 22 | 5 => 5 | 173 => 128 | 212 => 137 | 51 => 138 | 20 => 20 | 213 => 139 | 46 => 89 | 232 => 143 | 233 => 144 | n => n,fun | 17 => 4 | 18 => 5 | 19 => 6 | n => n⟩
def Tryz.laysM171_ren:Go.Shelf.Ren:=⟨fun | 171 => 98 | 243 => 103 | 246 => 111 | 283 => 115 | 284 => 116 | 285 => 117 | 286 => 118 | 129 => 122 | 317 => 121 | 318 => 123 | 319 => 124 | 320 => 125 | 337 => 126 | 338 => 127 | n => n,fun | 3 => 3 | 9 => 9 | 2 => 2 | 4 => 4 | 171 => 125 | 0 => 0 | 53 => 106 | 37 => 22 | 5 => 5 | 173 => 128 | 212 => 137 | 51 => 138 | 20 => 20 | 213 => 139 | 46 => 89 | 232 => 143 | 233 => 144 | n => n,fun | 17 => 4 | 18 => 5 | 19 => 6 | n => n⟩
theorem Tryz.laysM171:Go.Proofs.LaysM.n171 Tryz.prog Tryz.laysM171_ren:={
 mixed:=by kernel_rfl
 f129:=Tryz.func122.trans (congrArg some (by kernel_rfl))
 f171:=Tryz.func98.trans (congrArg some (by kernel_rfl))
 f243:=Tryz.func103.trans (congrArg some (by kernel_rfl))
 f246:=Tryz.func111.trans (congrArg some (by kernel_rfl))
 f283:=Tryz.func115.trans (congrArg some (by kernel_rfl))
 f284:=Tryz.func116.trans (congrArg some (by kernel_rfl))
 f285:=Tryz.func117.trans (congrArg some (by kernel_rfl))
 f286:=Tryz.func118.trans (congrArg some (by kernel_rfl))
 f317:=Tryz.func121.trans (congrArg some (by kernel_rfl))
 f318:=Tryz.func123.trans (congrArg some (by kernel_rfl))
 f319:=Tryz.func124.trans (congrArg some (by kernel_rfl))
 f320:=Tryz.func125.trans (congrArg some (by kernel_rfl))
 f337:=Tryz.func126.trans (congrArg some (by kernel_rfl))
 f338:=Tryz.func127.trans (congrArg some (by kernel_rfl))
 t0:=Tryz.underlying0
 a0:=Tryz.isAgg0
 z0:=Tryz.sizeOf0
 v0:=Tryz.zeroValue0
 t2:=Tryz.underlying2
 a2:=Tryz.isAgg2
 z2:=Tryz.sizeOf2
 v2:=Tryz.zeroValue2
 t3:=Tryz.underlying3
 a3:=Tryz.isAgg3
 z3:=Tryz.sizeOf3
 v3:=Tryz.zeroValue3
 t4:=Tryz.underlying4
 a4:=Tryz.isAgg4
 z4:=Tryz.sizeOf4
 v4:=Tryz.zeroValue4
 t5:=Tryz.underlying5
 a5:=Tryz.isAgg5
 z5:=Tryz.sizeOf5
 v5:=Tryz.zeroValue5
 t9:=Tryz.underlying9
 a9:=Tryz.isAgg9
 z9:=Tryz.sizeOf9
 v9:=Tryz.zeroValue9
 t20:=Tryz.underlying20
 a20:=Tryz.isAgg20
 z20:=Tryz.sizeOf20
 v20:=Tryz.zeroValue20
 t37:=Tryz.underlying22
 a37:=Tryz.isAgg22
 z37:=Tryz.sizeOf22
 v37:=Tryz.zeroValue22
 t46:=Tryz.underlying89
 a46:=Tryz.isAgg89
 z46:=Tryz.sizeOf89
 v46:=Tryz.zeroValue89
 t51:=Tryz.underlying138
 a51:=Tryz.isAgg138
 z51:=Tryz.sizeOf138
 v51:=Tryz.zeroValue138
 t53:=Tryz.underlying106
 a53:=Tryz.isAgg106
 z53:=Tryz.sizeOf106
 v53:=Tryz.zeroValue106
 t171:=Tryz.underlying125
 a171:=Tryz.isAgg125
 z171:=Tryz.sizeOf125
 v171:=Tryz.zeroValue125
 t173:=Tryz.underlying128
 a173:=Tryz.isAgg128
 z173:=Tryz.sizeOf128
 v173:=Tryz.zeroValue128
 t212:=Tryz.underlying137
 a212:=Tryz.isAgg137
 z212:=Tryz.sizeOf137
 v212:=Tryz.zeroValue137
 t213:=Tryz.underlying139
 a213:=Tryz.isAgg139
 z213:=Tryz.sizeOf139
 t232:=Tryz.underlying143
 a232:=Tryz.isAgg143
 z232:=Tryz.sizeOf143
 v232:=Tryz.zeroValue143
 t233:=Tryz.underlying144
 a233:=Tryz.isAgg144
 z233:=Tryz.sizeOf144
 v233:=Tryz.zeroValue144
 g17:=by kernel_rfl
 g18:=by kernel_rfl
 g19:=by kernel_rfl
 i0:=by kernel_rfl
 i2:=by kernel_rfl
 i3:=by kernel_rfl
 i4:=by kernel_rfl
 i5:=by kernel_rfl
 i9:=by kernel_rfl
 i20:=by kernel_rfl
 i37:=by kernel_rfl
 i46:=by kernel_rfl
 i51:=by kernel_rfl
 i53:=by kernel_rfl
 i171:=by kernel_rfl
 i173:=by kernel_rfl
 i212:=by kernel_rfl
 i232:=by kernel_rfl
 i233:=by kernel_rfl
 m17:=by kernel_rfl
 m18:=by kernel_rfl
 m19:=by kernel_rfl }
open Go.RowKit Go.Sort Go.Lib in
theorem Tryz.strconv_Itoa (n : Int) (h0 : -9223372036854775808 ≤ n) (h1 : n ≤ 9223372036854775807) (w : World) (htab : Lib.TabIs Tryz.prog w "internal/strconv.uint64pow10" .u64 Lib.pow10Tab) :
  Calls Tryz.prog 98 #[.int .i64 n] w fun e w' => e = .returned (.string ⟨(Lib.itoa n).toArray⟩) /\ ∃ k os,w' = grow (w.drewN k) os:=Any.strconv_Itoa Tryz.laysM171 n h0 h1 w htab
def Tryz.laysC172_ren:Go.Shelf.Ren:=⟨fun | 172 => 97 | 244 => 101 | 245 => 102 | 247 => 106 | 279 => 107 | 280 => 108 | 281 => 109 | 282 => 110 | 287 => 112 | 316 => 113 | 171 => 98 | 205 => 114 | 321 => 119 | 322 => 120 | 243 => 103 | 246 => 111 | 283 => 115 | 284 => 116 | 285 => 117 | 286 => 118 | 129 => 122 | 317 => 121 | 318 => 123 | 319 => 124 | 320 => 125 | 337 => 126 | 338 => 127 | n => n,fun | 9 => 9 | 3 => 3 | 75 => 103 | 76 => 104 | 4 => 4 | 5 => 5 | 167 => 112 | 37 => 22 | 0 => 0 | 85 => 113 | 2 => 2 | 168 => 115 | 53 => 106 | 175 => 119 | 46 => 89 | 210 => 123 | 127 => 131 | 145 => 134 | 143 => 132 | 21 => 21 | 171 => 125 | 173 => 128 | 212 => 137 | 51 => 138 | 20 => 20 | 213 => 139 | 232 => 143 | 233 => 144 | 80 => 145 | n => n,fun | 15 => 2 | 16 => 3 | 17 => 4 | 18 => 5 | 19 => 6 | n => n⟩
theorem Tryz.laysC172:Go.Proofs.LaysC.n172 Tryz.prog Tryz.laysC172_ren:={
 mixed:=by kernel_rfl
 f129:=Tryz.func122.trans (congrArg some (by kernel_rfl))
 f171:=Tryz.func98.trans (congrArg some (by kernel_rfl))
 f172:=Tryz.func97.trans (congrArg some (by kernel_rfl))
 f205:=Tryz.func114.trans (congrArg some (by kernel_rfl))
 f243:=Tryz.func103.trans (congrArg some (by kernel_rfl))
 f244:=Tryz.func101.trans (congrArg some (by kernel_rfl))
 f245:=Tryz.func102.trans (congrArg some (by kernel_rfl))
 f246:=Tryz.func111.trans (congrArg some (by kernel_rfl))
 f247:=Tryz.func106.trans (congrArg some (by kernel_rfl))
 f279:=Tryz.func107.trans (congrArg some (by kernel_rfl))
 f280:=Tryz.func108.trans (congrArg some (by kernel_rfl))
 f281:=Tryz.func109.trans (congrArg some (by kernel_rfl))
 f282:=Tryz.func110.trans (congrArg some (by kernel_rfl))
 f283:=Tryz.func115.trans (congrArg some (by kernel_rfl))
 f284:=Tryz.func116.trans (congrArg some (by kernel_rfl))
 f285:=Tryz.func117.trans (congrArg some (by kernel_rfl))
 f286:=Tryz.func118.trans (congrArg some (by kernel_rfl))
 f287:=Tryz.func112.trans (congrArg some (by kernel_rfl))
 f316:=Tryz.func113.trans (congrArg some (by kernel_rfl))
 f317:=Tryz.func121.trans (congrArg some (by kernel_rfl))
 f318:=Tryz.func123.trans (congrArg some (by kernel_rfl))
 f319:=Tryz.func124.trans (congrArg some (by kernel_rfl))
 f320:=Tryz.func125.trans (congrArg some (by kernel_rfl))
 f321:=Tryz.func119.trans (congrArg some (by kernel_rfl))
 f322:=Tryz.func120.trans (congrArg some (by kernel_rfl))
 f337:=Tryz.func126.trans (congrArg some (by kernel_rfl))
 f338:=Tryz.func127.trans (congrArg some (by kernel_rfl))
 t0:=Tryz.underlying0
 a0:=Tryz.isAgg0
 z0:=Tryz.sizeOf0
 v0:=Tryz.zeroValue0
 t2:=Tryz.underlying2
 a2:=Tryz.isAgg2
 z2:=Tryz.sizeOf2
 v2:=Tryz.zeroValue2
 t3:=Tryz.underlying3
 a3:=Tryz.isAgg3
 z3:=Tryz.sizeOf3
 v3:=Tryz.zeroValue3
 t4:=Tryz.underlying4
 a4:=Tryz.isAgg4
 z4:=Tryz.sizeOf4
 v4:=Tryz.zeroValue4
 t5:=Tryz.underlying5
 a5:=Tryz.isAgg5
 z5:=Tryz.sizeOf5
 v5:=Tryz.zeroValue5
 t9:=Tryz.underlying9
 a9:=Tryz.isAgg9
 z9:=Tryz.sizeOf9
 v9:=Tryz.zeroValue9
 t20:=Tryz.underlying20
 a20:=Tryz.isAgg20
 z20:=Tryz.sizeOf20
 v20:=Tryz.zeroValue20
 t21:=Tryz.underlying21
 a21:=Tryz.isAgg21
 z21:=Tryz.sizeOf21
 v21:=Tryz.zeroValue21
 t37:=Tryz.underlying22
 a37:=Tryz.isAgg22
 z37:=Tryz.sizeOf22
 v37:=Tryz.zeroValue22
 t46:=Tryz.underlying89
 a46:=Tryz.isAgg89
 z46:=Tryz.sizeOf89
 v46:=Tryz.zeroValue89
 t51:=Tryz.underlying138
 a51:=Tryz.isAgg138
 z51:=Tryz.sizeOf138
 v51:=Tryz.zeroValue138
 t53:=Tryz.underlying106
 a53:=Tryz.isAgg106
 z53:=Tryz.sizeOf106
 v53:=Tryz.zeroValue106
 t75:=Tryz.underlying103
 a75:=Tryz.isAgg103
 z75:=Tryz.sizeOf103
 v75:=Tryz.zeroValue103
 t76:=Tryz.underlying104
 a76:=Tryz.isAgg104
 z76:=Tryz.sizeOf104
 v76:=Tryz.zeroValue104
 t85:=Tryz.underlying113
 a85:=Tryz.isAgg113
 z85:=Tryz.sizeOf113
 v85:=Tryz.zeroValue113
 t127:=Tryz.underlying131
 a127:=Tryz.isAgg131
 z127:=Tryz.sizeOf131
 v127:=Tryz.zeroValue131
 t143:=Tryz.underlying132
 a143:=Tryz.isAgg132
 z143:=Tryz.sizeOf132
 v143:=Tryz.zeroValue132
 t145:=Tryz.underlying134
 a145:=Tryz.isAgg134
 z145:=Tryz.sizeOf134
 v145:=Tryz.zeroValue134
 t167:=Tryz.underlying112
 a167:=Tryz.isAgg112
 z167:=Tryz.sizeOf112
 v167:=Tryz.zeroValue112
 t168:=Tryz.underlying115
 a168:=Tryz.isAgg115
 z168:=Tryz.sizeOf115
 v168:=Tryz.zeroValue115
 t171:=Tryz.underlying125
 a171:=Tryz.isAgg125
 z171:=Tryz.sizeOf125
 v171:=Tryz.zeroValue125
 t173:=Tryz.underlying128
 a173:=Tryz.isAgg128
 z173:=Tryz.sizeOf128
 v173:=Tryz.zeroValue128
 t175:=Tryz.underlying119
 a175:=Tryz.isAgg119
 z175:=Tryz.sizeOf119
 v175:=Tryz.zeroValue119
 t210:=Tryz.underlying123
 a210:=Tryz.isAgg123
 z210:=Tryz.sizeOf123
 v210:=Tryz.zeroValue123
 t212:=Tryz.underlying137
 a212:=Tryz.isAgg137
 z212:=Tryz.sizeOf137
 v212:=Tryz.zeroValue137
 t213:=Tryz.underlying139
 a213:=Tryz.isAgg139
 z213:=Tryz.sizeOf139
 t232:=Tryz.underlying143
 a232:=Tryz.isAgg143
 z232:=Tryz.sizeOf143
 v232:=Tryz.zeroValue143
 t233:=Tryz.underlying144
 a233:=Tryz.isAgg144
 z233:=Tryz.sizeOf144
 v233:=Tryz.zeroValue144
 g15:=by kernel_rfl
 g16:=by kernel_rfl
 g17:=by kernel_rfl
 g18:=by kernel_rfl
 g19:=by kernel_rfl
 t80:=Tryz.underlying145
 a80:=Tryz.isAgg145
 z80:=Tryz.sizeOf145
 v80:=Tryz.zeroValue145
 i0:=by kernel_rfl
 i2:=by kernel_rfl
 i3:=by kernel_rfl
 i4:=by kernel_rfl
 i5:=by kernel_rfl
 i9:=by kernel_rfl
 i20:=by kernel_rfl
 i21:=by kernel_rfl
 i37:=by kernel_rfl
 i46:=by kernel_rfl
 i51:=by kernel_rfl
 i53:=by kernel_rfl
 i75:=by kernel_rfl
 i76:=by kernel_rfl
 i80:=by kernel_rfl
 i85:=by kernel_rfl
 i127:=by kernel_rfl
 i143:=by kernel_rfl
 i145:=by kernel_rfl
 i167:=by kernel_rfl
 i168:=by kernel_rfl
 i171:=by kernel_rfl
 i173:=by kernel_rfl
 i175:=by kernel_rfl
 i210:=by kernel_rfl
 i212:=by kernel_rfl
 i232:=by kernel_rfl
 i233:=by kernel_rfl
 m15:=by kernel_rfl
 m16:=by kernel_rfl
 m17:=by kernel_rfl
 m18:=by kernel_rfl
 m19:=by kernel_rfl
 c0:=by kernel_rfl
 c2:=by kernel_rfl
 c3:=by kernel_rfl
 c4:=by kernel_rfl
 c5:=by kernel_rfl
 c9:=by kernel_rfl
 c20:=by kernel_rfl
 c21:=by kernel_rfl
 c37:=by kernel_rfl
 c46:=by kernel_rfl
 c51:=by kernel_rfl
 c53:=by kernel_rfl
 c75:=by kernel_rfl
 c76:=by kernel_rfl
 c80:=by kernel_rfl
 c85:=by kernel_rfl
 c127:=by kernel_rfl
 c143:=by kernel_rfl
 c145:=by kernel_rfl
 c167:=by kernel_rfl
 c168:=by kernel_rfl
 c171:=by kernel_rfl
 c173:=by kernel_rfl
 c175:=by kernel_rfl
 c210:=by kernel_rfl
 c212:=by kernel_rfl
 c213:=by kernel_rfl
 c232:=by kernel_rfl
 c233:=by kernel_rfl }
open Go.RowKit in
theorem Tryz.strconv_Atoi_ok (s:ByteArray) (hmax:s.size <= 9223372036854775806) (v:Int) (h:Lib.atoiAll s.data.toList = .ok v) (w:World) :
  Calls Tryz.prog 97 #[.string s] w fun e w' => e = .returned (.tuple #[.int .i64 v,.nilIface]) /\ (w' = w \/ ∃ t,w' = Lib.bytesWorld w 5 t):=Any.strconv_Atoi_ok Tryz.laysC172 s hmax v h w
open Go.RowKit in
theorem Tryz.strconv_Atoi_syntax (s:ByteArray) (hlim:s.size <= 281474976710656) (h:Lib.atoiAll s.data.toList =  Lib.NumEnd.syntax) (ev:Value) (w:World) (hv:w.cell? ⟨2,0,none⟩ = some ev) (hev:ev = .nilIface \/ ∃ te pe,ev = .iface te pe) :
  Calls Tryz.prog 97 #[.string s] w fun e w' => ∃ N,e = .returned (.tuple #[.int .i64 (0),.iface 115 (.pointer (some ⟨N,0,none⟩))]) /\ w.heap.size <= N /\ w'.heap[N]? = some (.cells #[.string ⟨#[65,116,111,105]⟩,.string s,ev] 123 (0,0)) /\ Below w.heap.size w w':=Any.strconv_Atoi_syntax Tryz.laysC172 s hlim h ev w hv hev
open Go.RowKit in
theorem Tryz.strconv_Atoi_range (s:ByteArray) (hlim:s.size <= 281474976710656) (h:Lib.atoiAll s.data.toList = .range) (ev:Value) (w:World) (hv:w.cell? ⟨3,0,none⟩ = some ev) (hev:ev = .nilIface \/ ∃ te pe,ev = .iface te pe) :
  Calls Tryz.prog 97 #[.string s] w fun e w' => ∃ N,e = .returned (.tuple #[.int .i64 (Lib.atoiSat s.data.toList),.iface 115 (.pointer (some ⟨N,0,none⟩))]) /\ w.heap.size <= N /\ w'.heap[N]? = some (.cells #[.string ⟨#[65,116,111,105]⟩,.string s,ev] 123 (0,0)) /\ Below w.heap.size w w':=Any.strconv_Atoi_range Tryz.laysC172 s hlim h ev w hv hev
def Tryz.laysValid_ren:Go.Shelf.Ren:=⟨fun | 196 => 77 | 259 => 92 | n => n,fun | 9 => 9 | 4 => 4 | 3 => 3 | 5 => 5 | 12 => 12 | 119 => 95 | 0 => 0 | 46 => 89 | 139 => 98 | 138 => 97 | 53 => 106 | n => n,fun | 3 => 0 | 4 => 1 | n => n⟩
theorem Tryz.laysValid:Go.Proofs.Lays.n196 Tryz.prog Tryz.laysValid_ren:={
 mixed:=by kernel_rfl
 f196:=Tryz.func77.trans (congrArg some (by kernel_rfl))
 f259:=Tryz.func92.trans (congrArg some (by kernel_rfl))
 t0:=Tryz.underlying0
 a0:=Tryz.isAgg0
 z0:=Tryz.sizeOf0
 v0:=Tryz.zeroValue0
 t3:=Tryz.underlying3
 a3:=Tryz.isAgg3
 z3:=Tryz.sizeOf3
 v3:=Tryz.zeroValue3
 t4:=Tryz.underlying4
 a4:=Tryz.isAgg4
 z4:=Tryz.sizeOf4
 v4:=Tryz.zeroValue4
 t5:=Tryz.underlying5
 a5:=Tryz.isAgg5
 z5:=Tryz.sizeOf5
 v5:=Tryz.zeroValue5
 t9:=Tryz.underlying9
 a9:=Tryz.isAgg9
 z9:=Tryz.sizeOf9
 v9:=Tryz.zeroValue9
 t12:=Tryz.underlying12
 a12:=Tryz.isAgg12
 z12:=Tryz.sizeOf12
 v12:=Tryz.zeroValue12
 t46:=Tryz.underlying89
 a46:=Tryz.isAgg89
 z46:=Tryz.sizeOf89
 v46:=Tryz.zeroValue89
 t53:=Tryz.underlying106
 a53:=Tryz.isAgg106
 z53:=Tryz.sizeOf106
 v53:=Tryz.zeroValue106
 t119:=Tryz.underlying95
 a119:=Tryz.isAgg95
 z119:=Tryz.sizeOf95
 t138:=Tryz.underlying97
 a138:=Tryz.isAgg97
 z138:=Tryz.sizeOf97
 v138:=Tryz.zeroValue97
 t139:=Tryz.underlying98
 a139:=Tryz.isAgg98
 z139:=Tryz.sizeOf98
 v139:=Tryz.zeroValue98
 g3:=by kernel_rfl
 g4:=by kernel_rfl }
open Go.RowKit Go.Lib in
theorem Tryz.utf8_ValidString (s:ByteArray) (w:World) (hs:s.size <= 9223372036854775807) (hT:Lib.Utf8Tabs 0 1 w) :
  Calls Tryz.prog 77 #[.string s] w fun e w' => e = .returned (.bool (Lib.validD s.data.toList)) /\ Below w.heap.size w w':=Any.utf8_ValidString Tryz.laysValid s w hs hT
end Go.Proofs
namespace Go.Proofs.YtdnjinhlhohfiaaGreatDoor
open Go.RowKit
set_option maxHeartbeats 4000000
set_option maxRecDepth 100000
open List
section
theorem zfn (n:Int) (w:World) (hn:i64ok n) :
  Calls Tryz.prog 85 #[.int .i64 n] w fun e w' => e = .returned (.string ⟨(Lib.itoa n).toArray⟩) /\ Below w.heap.size w w':=by
 obtain ⟨h1,h2⟩:=hn;by_cases h0:n = 0
 ·subst h0
  have HZ:=Lib.hid (show Lib.itoa 0 = [48] by rw [show (0:Int) = ((0:Nat):Int) from rfl,Lib.itoa_nonneg,Lib.decDigits_one (by decide)]; rfl)
  go_enter Tryz.func85,Tryz.ntmps85
  go_wp2;go_ret;exact ⟨zcg HZ.out.symm,Below.refl _ _⟩
 have g0:(n == 0) = false:=by simpa using h0
 obtain ⟨res,hres⟩:∃ res,Lib.decDigits n.natAbs = res:=⟨_,rfl⟩;have hrl:res.length <= 20:=by rw [<- hres]; exact zdL (by omega)
 go_enter Tryz.func85,Tryz.ntmps85
 go_wp2
 go_loopw [3,4,5] (fun o m d wr => ∃ (l:L8) (q:Int),o = .string ⟨l.toArray⟩ /\ m = .int .i64 q /\ -9223372036854775808 <= q /\ q <= 9223372036854775807 /\ decOn q.natAbs l = res /\ (0 <= n -> 0 <= q) /\ (n <= 0 -> q <= 0) /\ wr = w) (fun _ m _ _ => (intOf m).natAbs)
 case atStart => exact ⟨[],n,rfl,rfl,h1,h2,by unfold decOn; rw [if_neg (by omega),hres]; simp,fun h => h,fun h => h,rfl⟩
 case round =>
  obtain ⟨l,q,rfl,rfl,hq1,hq2,hd,hs1,hs2,rfl⟩:=hrel;have HD:=Lib.hid hd;by_cases hq:q = 0
  ·subst hq
   have hl:l = res:=by rw [<- hd]; rfl
   subst hl;clear hd;by_cases hneg:n < 0
   ·have HR:=Lib.hid (show Lib.itoa n = 45 :: l by unfold Lib.itoa; rw [if_pos hneg]; exact congrArg _ hres)
    go_wp2;go_ret;exact ⟨by rw [HR.out]; rfl,Below.refl _ _⟩
   ·have HR:=Lib.hid (show Lib.itoa n = l by unfold Lib.itoa; rw [if_neg hneg,show n.toNat = n.natAbs by omega]; exact hres)
    go_wp2;go_ret;exact ⟨by rw [HR.out]; rfl,Below.refl _ _⟩
  ·have gq:(q != 0) = true:=by simpa using hq
   have hu:q.natAbs ≠ 0:=by omega
   have ll:l.length <= 20:=by
    have:=congrArg length hd; unfold decOn at this; rw [if_neg hu,length_append] at this; omega
   have st:=decOn_step hu l;rw [hd] at st;clear hd;have ta:=tdivAbs q;have tm:=tmodAbs q;have hb1:-9223372036854775808 <= Int.tdiv q 10:=by omega
   have hb2:Int.tdiv q 10 <= 9223372036854775807:=by omega
   obtain ⟨r,hr⟩:∃ r,Int.tmod q 10 = r:=⟨_,rfl⟩;obtain ⟨t,ht⟩:∃ t,Int.tdiv q 10 = t:=⟨_,rfl⟩;have hz1:0 <= q -> 0 <= t:=fun h => by rw [<- ht]; exact Int.tdiv_nonneg h (by decide)
   have hz2:q <= 0 -> t <= 0:=fun h => by rw [<- ht]; (have hh:=Int.tdiv_nonneg (a:=-q) (b:=10) (by omega) (by decide); rw [Int.neg_tdiv] at hh; omega)
   rw [hr] at tm;rw [ht] at ta hb1 hb2;have hd10:r.natAbs < 10:=by omega
   have P:=digs_at hd10;rw [<- ta,<- tm] at st;have HST:=Lib.hid st;have hmeas:t.natAbs < q.natAbs:=by omega
   clear st tm ta;by_cases hr0:r < 0
   ·obtain ⟨d,rfl⟩:∃ d:Nat,r = -(d:Int):=⟨r.natAbs,by omega⟩
    have e1:(-(d:Int)).natAbs = d:=by omega
    rw [e1] at P hd10 HST;have i1:(0:Int) <= d:=by omega
    have i2:(d:Int) + 1 <= 10:=by omega
    go_wp2;go_roundw
    case rel => exact ⟨_,t,rfl,rfl,hb1,hb2,by simpa using HST.out,fun h => hz1 (hs1 h),fun h => hz2 (hs2 h),by first | rfl | trivial⟩
    case measure => simp only [intOf]; exact hmeas
   ·obtain ⟨d,rfl⟩:∃ d:Nat,r = (d:Int):=⟨r.natAbs,by omega⟩
    have e1:((d:Int)).natAbs = d:=by omega
    rw [e1] at P hd10 HST;have i1:(0:Int) <= d:=by omega
    have i2:(d:Int) + 1 <= 10:=by omega
    go_wp2;go_roundw
    case rel => exact ⟨_,t,rfl,rfl,hb1,hb2,by simpa using HST.out,fun h => hz1 (hs1 h),fun h => hz2 (hs2 h),by first | rfl | trivial⟩
    case measure => simp only [intOf]; exact hmeas
def TenTab (w : World) : Prop := Lib.TabIs Tryz.prog w "internal/strconv.uint64pow10" .u64 Lib.pow10Tab
theorem tenG : Tryz.prog.globalNamed "internal/strconv.uint64pow10" = some 4 := by kernel_rfl
theorem TenTab.lt {w:World} (h:TenTab w):4 < w.heap.size:=zcP (Lib.TabIs.cell h tenG 0 (by decide))
theorem TenTab.below' {B:Nat} {w w':World} (h:TenTab w) (hb:Below B w w') (hB:4 < B):TenTab w':=var?_below hb tenG hB h
theorem TenTab.below {w w':World} (h:TenTab w) (hb:Below w.heap.size w w'):TenTab w':=h.below' hb h.lt
end
section
variable {T:World -> Prop} {hT:Low ngl T}
theorem zeF {C:Cx} {W:World} {n:Int} {y:Value} (h:RpV C W (.d (pI n)) y):y = .int .i64 n:=by
 cases h with
 | d _ _ h => cases h; rfl
theorem within_fn (n a b:Int):FnV (env T hT) 81 [.d (pI n),.d (pI a),.d (pI b)] (.d (pB (decide (a <= n /\ n <= b)))):=by
 refine FnV.old rfl fun w C vs hF _ _ hlen hv => ?_
 match vs,hlen with
 | [x,y,z],_ =>
  have h1:=zeF (hv 0 _ _ rfl rfl); have h2:=zeF (hv 1 _ _ rfl rfl); have h3:=zeF (hv 2 _ _ rfl rfl)
  subst h1; subst h2; subst h3
  refine (zb1 n a b w).mono ?_;rintro e w' ⟨rfl,rfl⟩;refine ⟨?_,Below.refl _ _⟩;by_cases h:a <= n /\ n <= b
  ·rw [zaG h,decide_eq_true h]
  ·rw [za6 h,decide_eq_false h]
theorem decT_fn (n:Int) (hn:i64ok n):FnV (env T hT) 85 [.d (pI n)] (.d (pS (Lib.itoa n))):=by
 refine FnV.old rfl fun w C vs hF _ _ hlen hv => ?_
 match vs,hlen with
 | [x],_ =>
  have h1:=zeF (hv 0 _ _ rfl rfl);subst h1;exact zfn n w hn
end
section
def m_s_l01In:M:=so [qo 6 (.mv (cB false))] (so [qm 7 0,qm 8 1,qo 9 (.bin .geq false 7 8),qm 10 9,qg 11 0 10 true,qg 12 2 10 true,⟨some 13,.bin .leq false 11 12,some (10,true),[]⟩,qo 14 (.pick 10 13 (cB false)),qm 6 14] .ret)
theorem lk_s_l01In:look Tryz.prog 74 = some (15,m_s_l01In,[.tm 6]):=by kernel_rfl
end
section
variable {T:World -> Prop} {hT:Low ngl T}
theorem in_fn (x a b:Int):FnV (env T hT) 74 [.d (pI x),.d (pI a),.d (pI b)] (.d (pB (decide (a <= x /\ x <= b)))):=by
 refine za1 (zad lk_s_l01In) (by show 3 <= 15; decide) fun B hB => ?_
 unfold m_s_l01In;refine mO ?_;refine po_q rfl rfl ?_;refine zae ?_;refine mO ?_
 iterate 2 (refine po_q rfl rfl ?_)
 refine po_b rfl rfl (fun b1 hb1 => ?_);refine po_q rfl rfl ?_
 cases b1
 ·refine mZ ?_
  iterate 2 (refine po_q rfl rfl ?_)
  refine zae ?_;refine zab ⟨.inr rfl,_,rfl,?_⟩;have h1:¬ x ≥ a:=of_decide_eq_false hb1.symm;rw [decide_eq_false (by omega)]; rfl
 ·iterate 2 (refine po_q rfl rfl ?_)
  refine po_b rfl rfl (fun b2 hb2 => ?_)
  iterate 2 (refine po_q rfl rfl ?_)
  refine zae ?_;refine zab ⟨.inr rfl,_,rfl,?_⟩;have h1:x ≥ a:=of_decide_eq_true hb1.symm;have e:decide (a <= x /\ x <= b) = b2:=by rw [hb2]; exact decide_eq_decide.2 ⟨fun h => h.2,fun h => ⟨h1,h⟩⟩
  rw [e]; rfl
end
section
def m_s_ReadDec:M:=so [qo 2 (.mv (ci 0)),qo 3 (.mv (cB false))] (so [qm 7 0,qm 4 7] (.seq (so [qm 8 4,qo 9 (.lens 8),qo 10 (.bin .gtr false 9 (ci 0)),qm 11 10,qg 12 4 11 true,⟨some 13,.ixs 12 (ci 0),some (11,true),[]⟩,⟨some 14,.bin .eql false 13 (.c (.int .u8 45)),some (11,true),[]⟩,qo 15 (.pick 11 14 (cB false))] (.cond 15 (.ops [qm 16 4,qo 17 (.slcs 16 (some (ci 1)) none),qm 4 17]) .skip)) (so [qo 5 (.mv (ci 0))] (.seq (so [qo 6 (.mv (ci 0))] (.block 0 (.loop (.seq (so [qm 18 6,qm 19 4,qo 20 (.lens 19),qo 21 (.bin .lss false 18 20)] (.cond 21 .skip (.exit 0))) (.seq (.block 1 (.seq (so [qm 24 4,qm 25 6,qo 26 (.ixs 24 25),qo 27 (.conv .i64 26),qc 28 74 [27,ci 48,ci 57] 1,qo 29 (.not 28),qm 30 29,qg 31 4 30 false,⟨some 32,.lens 31,some (30,false),[]⟩,⟨some 33,.bin .gtr false 32 (ci 19),some (30,false),[]⟩,qo 34 (.pick 30 (cB true) 33)] (.cond 34 (so [qo 2 (.mv (ci 0)),qo 3 (.mv (cB false))] .ret) .skip)) (.ops [qm 35 5,qo 36 (.bin .mul false (ci 10) 35),qm 37 4,qm 38 6,qo 39 (.ixs 37 38),qo 40 (.conv .i64 39),qo 41 (.bin .add false 36 40),qo 42 (.bin .sub false 41 (ci 48)),qm 5 42]))) (.ops [qm 22 6,qo 23 (.bin .add false 22 (ci 1)),qm 6 23])))))) (.seq (so [qm 43 4,qm 44 0,qo 45 (.bin .neq false 43 44)] (.cond 45 (.ops [qm 46 5,qo 47 (.neg 46),qm 5 47]) .skip)) (.seq (so [qm 48 4,⟨some 49,.bin .eql false 48 (.c (.string ⟨[].toArray⟩)),none,[]⟩,qm 50 49,qg 51 5 50 false,⟨some 52,.call 85 [51],some (50,false),[.f 1]⟩,qg 53 0 50 false,⟨some 54,.bin .neq false 52 53,some (50,false),[]⟩,qo 55 (.pick 50 (cB true) 54)] (.cond 55 (so [qo 2 (.mv (ci 0)),qo 3 (.mv (cB false))] .ret) .skip)) (so [qm 56 5,qm 2 56,qo 3 (.mv (cB true))] .ret)))))))
theorem zfo:look Tryz.prog 79 = some (57,m_s_ReadDec,[.tm 2,.tm 3]):=by kernel_rfl
end
section
variable {T:World -> Prop} {hT:Low ngl T}
attribute [local irreducible] po mw pt
theorem po_nes {E:Env} {K:St -> Prop} {tm:Nat -> PV} {bx:LP PC} {nt d:Nat} {live:List Nat} {r:List MOpr} {g:Option (Nat × Bool)} {c:List X} {x y:X} {la lb:L8} {f:Bool} (hg:gd g tm = some true) (hx:ev tm x = .d (pS la)) (hy:ev tm y = .d (pS lb)) (h:po E r K ⟨up d (.d (pB (!decide (la = lb)))) tm,bx,nt,live⟩):po E (⟨some d,.bin .neq f x y,g,c⟩ :: r) K ⟨tm,bx,nt,live⟩:=by
 refine po_q hg ?_ h;simp only [qf,hx,hy,pS];show some (PV.d (.v (.bool (!((ByteArray.mk la.toArray).toList == (ByteArray.mk lb.toArray).toList))))) = _;rw [ByteArray.toList_eq,ByteArray.toList_eq];show some (PV.d (.v (.bool (!(la == lb))))) = some (PV.d (.v (.bool (!decide (la = lb)))));have e:(la == lb) = decide (la = lb):=by by_cases h:la = lb <;> simp [h]
 rw [e]
def RdI (s:L8) (m:Nat) (st:St):Prop:=∃ i:Nat,i <= (unsgn s).length /\ m = (unsgn s).length - i /\ has st.tm [(0,.d (pS s)),(4,.d (pS (unsgn s))),(5,.d (pI (IntKind.wrap .i64 (dvL ((unsgn s).take i):Nat)))),(6,.d (pI i))] /\ st.bx = []
theorem rd_wrap (a:Nat) (c:Int) (h:48 <= c /\ c <= 57):IntKind.wrap .i64 (IntKind.wrap .i64 (IntKind.wrap .i64 (10 * IntKind.wrap .i64 (a:Int)) + c) - 48) = IntKind.wrap .i64 ((a * 10 + (c.toNat - 48):Nat):Int):=by
 simp only [IntKind.wrap_i64]; omega
theorem wrap_ok (a:Int):i64ok (IntKind.wrap .i64 a):=by unfold i64ok; rw [IntKind.wrap_i64]; omega
theorem readDec_fn (s:L8) (hs:s.length <= 2147483647):FnV (env T hT) 79 [.d (pS s)] (.tup [.d (pI (rdN s)),.d (pB (rdB s))]):=by
 refine za1 (zad zfo) (by show 1 <= 57; decide) fun B hB => ?_
 unfold m_s_ReadDec;have hul:(unsgn s).length <= s.length:=by unfold unsgn; split; rw [length_drop]; omega; exact lR
 refine mP ?_;refine mP ?_;refine zav (fun st => has st.tm [(0,.d (pS s)),(4,.d (pS (unsgn s)))] /\ st.bx = []) ?_ ?_
 ·refine mQ ?_
  refine po_q (v:=.d (pI s.length)) rfl rfl ?_
  cases s with
  | nil =>
   refine zal rfl rfl rfl ?_;refine mS ?_;refine mZ ?_;refine mK ?_
   exact ⟨⟨rfl,rfl,trivial⟩,rfl⟩
  | cons c r =>
   refine zaf rfl rfl (decide_eq_true (show (((c :: r).length:Nat):Int) > 0 by simp only [length_cons]; omega)) ?_;(iterate 2 refine mS ?_);refine ze4 (k:=0) (b:=c) rfl rfl rfl rfl rfl ?_;by_cases hc:c = 45
   ·subst hc
    refine zaf rfl rfl rfl ?_;refine mT ?_;refine zaj ?_;refine mS ?_;refine po_slcs (a:=1) (b:=(((45:UInt8) :: r).length)) (rs:=unsgn (45 :: r)) rfl rfl rfl rfl (by simp only [length_cons]; omega) (by simp [unsgn]) ?_;refine mN ?_;exact ⟨⟨rfl,rfl,trivial⟩,rfl⟩
   ·have hc':c.toNat ≠ 45:=fun h => hc (UInt8.toNat_inj.1 h)
    refine zal rfl rfl (by show ((c.toNat:Int) == 45) = false; rw [beq_eq_false_iff_ne]; omega) ?_;refine mK ?_;refine ⟨⟨rfl,?_,trivial⟩,rfl⟩
    have:unsgn (c :: r) = c :: r:=by unfold unsgn; rw [if_neg (by simpa using hc)]
    rw [this]; rfl
 rintro tm bx nt live ⟨ht,hbx⟩;obtain ⟨tm0,rfl⟩:=zah ht;simp only at hbx; subst hbx
 clear ht;obtain ⟨t,htu⟩:∃ t,t = unsgn s:=⟨_,rfl⟩;have no:(¬ (unsgn s ≠ [] /\ (unsgn s).length <= 19 /\ ∀ c ∈ unsgn s,48 <= c.toNat /\ c.toNat <= 57)) -> rdN s = 0 /\ rdB s = false:=fun h => rd_no fun n h1 h2 => h (unsgn_dec h1 h2)
 refine mP ?_;refine zav (fun st => has st.tm [(0,.d (pS s)),(4,.d (pS (unsgn s))),(5,.d (pI (IntKind.wrap .i64 (dvL (unsgn s):Nat))))] /\ st.bx = []) ?_ ?_
 ·refine mP ?_
  refine zai ?_;refine zaJ (RdI s) (unsgn s).length ⟨0,Nat.zero_le _,rfl,⟨rfl,rfl,rfl,rfl,trivial⟩,rfl⟩ ?_;rintro m tm bx nt live ⟨i,hi,rfl,ht,hbx⟩;obtain ⟨tm0,rfl⟩:=zah ht;simp only at hbx; subst hbx
  clear ht;refine mM ?_;(iterate 2 refine mS ?_);refine po_q (v:=.d (pI (unsgn s).length)) rfl rfl ?_;refine po_b rfl rfl (fun b hb => ?_);refine zae ?_;refine zb9 (p:=(i:Int) < (unsgn s).length) hb rfl (fun h _ => ?_) (fun h _ => ?_)
  ·have hil:i < (unsgn s).length:=by omega
   refine zau ?_;refine zaD (zai (zaD (zaD (zaj ?_))));(iterate 2 refine mS ?_);refine ze4 (k:=i) (b:=(unsgn s)[i]) rfl rfl rfl rfl (getElem?_eq_getElem hil) ?_;have hct:=((unsgn s)[i]).toNat_lt;refine zf9 (n:=(((unsgn s)[i]).toNat:Int)) rfl rfl (by rw [IntKind.wrap_i64]; omega) ?_;refine zac rfl (in_fn (T:=T) (hT:=hT) (((unsgn s)[i]).toNat:Int) 48 57) ?_;by_cases hd:48 <= (((unsgn s)[i]).toNat:Int) /\ (((unsgn s)[i]).toNat:Int) <= 57
   case neg =>
    rw [decide_eq_false hd];obtain ⟨e1,e2⟩:=no fun ⟨_,_,h⟩ => hd (by have:=h _ (getElem_mem hil); omega)
    (iterate 2 refine mS ?_);refine mZ ?_;refine mT ?_;refine mP ?_;rw [e1,e2];exact mR
   rw [decide_eq_true hd];(iterate 3 refine mS ?_);refine po_q (v:=.d (pI (unsgn s).length)) rfl rfl ?_;by_cases h19:(unsgn s).length <= 19
   case neg =>
    obtain ⟨e1,e2⟩:=no fun ⟨_,h,_⟩ => h19 h
    refine zaf rfl rfl (decide_eq_true (show (((unsgn s).length:Nat):Int) > 19 by omega)) ?_;refine mT ?_;refine mP ?_;rw [e1,e2];exact mR
   refine zal rfl rfl (decide_eq_false (show ¬ (((unsgn s).length:Nat):Int) > 19 by omega)) ?_;refine mK ?_;refine zaj ?_;refine mS ?_;refine po_q (v:=.d (pI (IntKind.wrap .i64 (10 * IntKind.wrap .i64 (dvL ((unsgn s).take i):Nat))))) rfl rfl ?_;(iterate 2 refine mS ?_);refine ze4 (k:=i) (b:=(unsgn s)[i]) rfl rfl rfl rfl (getElem?_eq_getElem hil) ?_;refine zf9 (n:=(((unsgn s)[i]).toNat:Int)) rfl rfl (by rw [IntKind.wrap_i64]; omega) ?_;refine po_q (v:=.d (pI (IntKind.wrap .i64 (IntKind.wrap .i64 (10 * IntKind.wrap .i64 (dvL ((unsgn s).take i):Nat)) + (((unsgn s)[i]).toNat:Int))))) rfl rfl ?_
   have hst:IntKind.wrap .i64 (IntKind.wrap .i64 (IntKind.wrap .i64 (10 * IntKind.wrap .i64 (dvL ((unsgn s).take i):Nat)) + (((unsgn s)[i]).toNat:Int)) - 48) = IntKind.wrap .i64 (dvL ((unsgn s).take (i + 1)):Nat):=by
    rw [rd_wrap _ _ (by omega),zeT _ _ hil,dvL_snoc,Int.toNat_natCast]
   refine po_q (v:=.d (pI (IntKind.wrap .i64 (dvL ((unsgn s).take (i + 1)):Nat)))) rfl (by rw [<- hst]; rfl) ?_;refine mN ?_;refine zaj ?_;refine mS ?_;refine zay (n:=((i + 1:Nat):Int)) rfl rfl rfl (by omega) (by omega) ?_;refine mN ?_;refine ⟨_,?_,i + 1,by omega,rfl,⟨rfl,rfl,rfl,rfl,trivial⟩,rfl⟩;show (unsgn s).length - (i + 1) < (unsgn s).length - i;omega
  ·refine zaL ?_
   have hie:i = (unsgn s).length:=by omega
   subst hie;refine ⟨⟨rfl,rfl,?_,trivial⟩,rfl⟩;show PV.d (pI (IntKind.wrap .i64 (dvL ((unsgn s).take (unsgn s).length):Nat))) = _;rw [take_length]
 rintro tm bx nt live ⟨ht,hbx⟩;obtain ⟨tm0,rfl⟩:=zah ht;simp only at hbx; subst hbx
 clear ht;obtain ⟨n,hn⟩:∃ n,n = (if unsgn s = s then IntKind.wrap .i64 (dvL (unsgn s):Nat) else IntKind.wrap .i64 (0 - IntKind.wrap .i64 (dvL (unsgn s):Nat))):=⟨_,rfl⟩;have hnok:i64ok n:=by rw [hn]; split <;> exact wrap_ok _
 refine zav (fun st => has st.tm [(0,.d (pS s)),(4,.d (pS (unsgn s))),(5,.d (pI n))] /\ st.bx = []) ?_ ?_
 ·refine mO ?_
  (iterate 2 refine mS ?_);refine po_nes rfl rfl rfl ?_;by_cases hu:unsgn s = s
  ·rw [decide_eq_true hu]
   refine zae ?_;refine mwF ?_;refine zau ?_;refine ⟨⟨rfl,rfl,?_,trivial⟩,rfl⟩;rw [hn,if_pos hu]; rfl
  ·rw [decide_eq_false hu]
   refine zae ?_;refine mwT ?_;refine zaj ?_;refine mS ?_;refine po_q (v:=.d (pI n)) rfl (by rw [hn,if_neg hu]; rfl) ?_;refine mN ?_;exact ⟨⟨rfl,rfl,rfl,trivial⟩,rfl⟩
 rintro tm bx nt live ⟨ht,hbx⟩;obtain ⟨tm0,rfl⟩:=zah ht;simp only at hbx; subst hbx
 clear ht;refine mM ?_;refine mS ?_;refine zec (lb:=[]) rfl rfl rfl ?_;by_cases h0:unsgn s = []
 ·rw [decide_eq_true h0]
  obtain ⟨e1,e2⟩:=no fun ⟨h,_⟩ => h h0
  refine mS ?_;refine mZ ?_;refine mT ?_;refine mP ?_;rw [e1,e2];exact mR
 rw [decide_eq_false h0];(iterate 2 refine mS ?_);refine zat (b:=true) (args:=[.d (pI n)]) rfl (fun _ => rfl) (fun _ => decT_fn (T:=T) (hT:=hT) n hnok) ?_;refine mS ?_;refine po_nes rfl rfl rfl ?_;by_cases hi:Lib.itoa n = s
 ·obtain ⟨e1,e2⟩:=rd_yes hnok hi
  rw [decide_eq_true hi];refine mK ?_;refine mP ?_;rw [e1,e2];exact mR
 ·have hrd:rdN s = 0 /\ rdB s = false:=rd_no fun n' h1 h2 => hi (by
   have:=rd_loop h1 h2
   rw [<- hn] at this;rw [this]; exact h2)
  rw [decide_eq_false hi];refine mT ?_;refine mP ?_;rw [hrd.1,hrd.2];exact mR
theorem numS_fn (s:L8) (hs:s.length <= 2147483647):FnV (env T hT) 60 [.d (pS s)] (.d (pI (ixI s))):=by
 refine za1 (zad zd6) (by show 1 <= 18; decide) fun B hB => ?_
 unfold m_s_l08Number;refine mP ?_;refine mQ ?_;refine zac (args:=[.d (pS s)]) rfl (readDec_fn (T:=T) (hT:=hT) s hs) ?_;refine mN ?_;refine mM ?_;refine mS ?_
 cases hb:rdB s with
 | false =>
  (iterate 2 refine mS ?_);refine mZ ?_;refine mT ?_;refine mP ?_;refine zab ⟨.inr rfl,[.d (pI (-1))],rfl,?_⟩
  unfold ixI; rw [hb,if_neg (fun h => by cases h.1)]; rfl
 | true =>
  (iterate 3 refine mS ?_);refine zat (b:=true) (args:=[.d (pI (rdN s)),.d (pI 0),.d (pI 999999)]) rfl (fun _ => rfl) (fun _ => in_fn (T:=T) (hT:=hT) (rdN s) 0 999999) ?_;by_cases hw:0 <= rdN s /\ rdN s <= 999999
  ·rw [decide_eq_true hw]
   refine mK ?_;refine mP ?_;refine zab ⟨.inr rfl,[.d (pI (rdN s))],rfl,?_⟩;unfold ixI; rw [hb,if_pos ⟨rfl,hw⟩]; rfl
  ·rw [decide_eq_false hw]
   refine mT ?_;refine mP ?_;refine zab ⟨.inr rfl,[.d (pI (-1))],rfl,?_⟩;unfold ixI; rw [hb,if_neg (fun h => hw h.2)]; rfl
theorem vKs_arg (ks:List V) (s:L8):PV.dats [.d (.sl 0 (vK ks)),.d (pS s)] = some [.d (.sl 0 (vK ks)),.d (pS s)]:=by
 show some [PV.d (.sl 0 (erLL (vK ks))),.d (pS s)] = _;rw [zc9]
def KyI (ks:List V) (key:L8) (m:Nat) (st:St):Prop :=
 ∃ i:Nat,i <= ks.length + 1 /\ m = ks.length + 1 - i /\ has st.tm [(0,.d (.sl 0 (vK ks))),(1,.d (pS key)),(5,.d (pI i))] /\ findK key ks 0 = findK key (ks.drop i) i
theorem keyS_fn (ks:List V) (key:L8) (hl:ks.length <= 4294967295):FnV (env T hT) 61 [.d (.sl 0 (vK ks)),.d (pS key)] (.d (pI (findK key ks 0))):=by
 refine za1 (zad zgn) (by show 2 <= 29; decide) fun B hB => ?_
 unfold m_s_l02Key;refine mP ?_;refine zav (fun st => findK key ks 0 = -1) ?_ ?_
 ·refine mP ?_
  refine zai ?_;refine zaJ (KyI ks key) (ks.length + 1) ⟨0,Nat.zero_le _,rfl,⟨rfl,rfl,rfl,trivial⟩,by rw [drop_zero]⟩ ?_;rintro m tm bx nt live ⟨i,hi,rfl,ht,hf⟩;obtain ⟨tm1,rfl⟩:=zah ht;clear ht;refine mM ?_;refine mS ?_;refine zay (n:=((i + 1:Nat):Int)) rfl rfl rfl (by omega) (by omega) ?_;refine mS ?_;refine zaA (n:=ks.length) rfl rfl (zao _) ?_;by_cases hil:i + 1 < ks.length
  ·refine zaf rfl rfl (decide_eq_true (by omega)) ?_
   refine mT ?_;refine zau ?_;have hat:=zde (key:=key) hil i;refine zaD (zai (zaD (zaj ?_)));(iterate 2 refine mS ?_);refine za4 (es:=vK ks) (e:=vC ks[i]) rfl rfl rfl ⟨by omega,by rw [Int.toNat_natCast]; exact zbe (by omega)⟩ rfl ?_;(iterate 2 refine mS ?_);by_cases h5:ks[i].kind = 5
   ·refine zaf rfl rfl (beq_iff_eq.2 h5) ?_
    (iterate 3 refine mS ?_);refine za4 (es:=vK ks) (e:=vC ks[i]) rfl rfl rfl ⟨by omega,by rw [Int.toNat_natCast]; exact zbe (by omega)⟩ rfl ?_;(iterate 3 refine mS ?_);refine zec (la:=ks[i].text) (lb:=key) rfl rfl rfl ?_;by_cases hk:ks[i].text = key
    ·rw [decide_eq_true hk]
     refine mT ?_;refine mP ?_;refine zab ⟨.inr rfl,[.d (pI i)],rfl,?_⟩;rw [hf,hat,if_pos ⟨h5,hk⟩]; rfl
    ·rw [decide_eq_false hk]
     refine mK ?_;refine zaj ?_;refine mS ?_;refine zay (n:=((i + 2:Nat):Int)) rfl rfl rfl (by omega) (by omega) ?_;refine mN ?_;exact ⟨ks.length + 1 - (i + 2),by omega,i + 2,by omega,rfl,⟨rfl,rfl,rfl,trivial⟩,by rw [hf,hat,if_neg (fun h => hk h.2)]⟩
   ·refine zal rfl rfl (beq_eq_false_iff_ne.2 h5) ?_
    refine mS ?_;refine mZ ?_;refine mK ?_;refine zaj ?_;refine mS ?_;refine zay (n:=((i + 2:Nat):Int)) rfl rfl rfl (by omega) (by omega) ?_;refine mN ?_;exact ⟨ks.length + 1 - (i + 2),by omega,i + 2,by omega,rfl,⟨rfl,rfl,rfl,trivial⟩,by rw [hf,hat,if_neg (fun h => h5 h.1)]⟩
  ·refine zal rfl rfl (decide_eq_false (by omega)) ?_
   refine mF ?_;refine zaL ?_;show findK key ks 0 = -1;rw [hf,zfh (by rw [length_drop]; omega)]
 rintro tm bx nt live h;refine mP ?_;exact zab ⟨.inr rfl,[.d (pI (-1))],rfl,by rw [h]; rfl⟩
theorem zgp (v:V) (s:L8) (hl:v.kids.length <= 4294967295) (hs:s.length <= 2147483647):FnV (env T hT) 33 [.ag (vC v),.d (pS s)] (.d (pI (kidI v s))):=by
 have hfl:=findV_le v s;refine za1 (zad zgl) (by show 2 <= 39; decide) fun B hB => ?_
 unfold m_s_l08Kid;refine mO ?_;refine zax (cs:=vC v) rfl ?_;refine mN ?_;refine zav (fun _ => kidI v s = -1) ?_ ?_
 ·refine mO ?_
  (iterate 2 refine mS ?_);refine zae ?_;refine zai ?_;refine mO ?_;by_cases h7:v.kind = 7
  ·refine zaf rfl rfl (beq_iff_eq.2 h7) ?_
   refine mT ?_;refine mQ ?_;refine zac (args:=[.d (pS s)]) rfl (numS_fn (T:=T) (hT:=hT) s hs) ?_;refine mN ?_;refine mO ?_;(iterate 3 refine mS ?_);refine zaA (n:=v.kids.length) rfl rfl (zao _) ?_;by_cases hi:ixI s < v.kids.length
   ·refine zaf rfl rfl (decide_eq_true hi) ?_
    refine mT ?_;refine mP ?_;refine zab ⟨.inr rfl,[.d (pI (ixI s))],rfl,?_⟩;unfold kidI; rw [if_pos h7,if_pos hi]; rfl
   ·refine zal rfl rfl (decide_eq_false hi) ?_
    refine mK ?_;show kidI v s = -1;unfold kidI; rw [if_pos h7,if_neg hi]
  refine zal rfl rfl (beq_eq_false_iff_ne.2 h7) ?_;refine mF ?_;refine mO ?_;by_cases h8:v.kind = 8
  ·refine zaf rfl rfl (beq_iff_eq.2 h8) ?_
   refine mT ?_;have hfk:findK s v.kids 0 = findV v s:=by unfold findV; rw [if_pos h8]
   refine mO ?_;(iterate 3 refine mS ?_);refine zac (args:=[.d (.sl 0 (vK v.kids)),.d (pS s)]) (vKs_arg v.kids s) (keyS_fn (T:=T) (hT:=hT) v.kids s hl) ?_;rw [hfk];refine mN ?_;refine mQ ?_;by_cases hi:0 <= findV v s
   ·refine zaf rfl rfl (decide_eq_true hi) ?_
    refine mT ?_;refine mQ ?_;refine zay (n:=findV v s + 1) rfl rfl rfl (by omega) (by omega) ?_;refine mN ?_;refine zab ⟨.inr rfl,[.d (pI (findV v s + 1))],rfl,?_⟩;unfold kidI; rw [if_neg h7,if_pos h8,if_pos hi]; rfl
   ·refine zal rfl rfl (decide_eq_false hi) ?_
    refine mK ?_;show kidI v s = -1;unfold kidI; rw [if_neg h7,if_pos h8,if_neg hi]
  refine zal rfl rfl (beq_eq_false_iff_ne.2 h8) ?_;refine mF ?_;refine mO ?_;by_cases h9:v.kind = 9
  ·refine zaf rfl rfl (beq_iff_eq.2 h9) ?_
   refine mT ?_;refine mQ ?_;refine zec (la:=s) (lb:=[116,97,103]) rfl rfl rfl ?_;by_cases ht:s = [116,97,103]
   ·rw [decide_eq_true ht]
    (iterate 3 refine mS ?_);refine zaA (n:=v.kids.length) rfl rfl (zao _) ?_;by_cases hk:0 < v.kids.length
    ·refine zaf rfl rfl (decide_eq_true (by omega)) ?_
     refine mT ?_;refine mP ?_;refine zab ⟨.inr rfl,[.d (pI 0)],rfl,?_⟩;unfold kidI; rw [if_neg h7,if_neg h8,if_pos h9,if_pos ⟨ht,hk⟩]; rfl
    ·refine zal rfl rfl (decide_eq_false (by omega)) ?_
     refine mK ?_;show kidI v s = -1;unfold kidI; rw [if_neg h7,if_neg h8,if_pos h9,if_neg (fun h => hk h.2)]
   ·rw [decide_eq_false ht]
    refine mS ?_;refine mZ ?_;refine mK ?_;show kidI v s = -1;unfold kidI; rw [if_neg h7,if_neg h8,if_pos h9,if_neg (fun h => ht h.1)]
  refine zal rfl rfl (beq_eq_false_iff_ne.2 h9) ?_;refine mK ?_;show kidI v s = -1;unfold kidI; rw [if_neg h7,if_neg h8,if_neg h9]
 rintro tm bx nt live h;refine mP ?_;exact zab ⟨.inr rfl,[.d (pI (-1))],rfl,by rw [h]; rfl⟩
mutual
theorem V.nodes_bulkN:∀ v:V,v.nodes <= v.bulk + 1
 | .mk k n e s kids => by have:=V.nodess_bulkN kids; simp only [V.nodes,V.bulk]; omega
theorem V.nodess_bulkN:∀ vs:List V,V.nodess vs <= vs.length + V.bulks vs
 | [] => by simp [V.nodess]
 | v :: vs => by have:=V.nodes_bulkN v; have:=V.nodess_bulkN vs; simp only [V.nodess,V.bulks,length_cons]; omega
end
theorem newS_fn (v x:V) (s:L8) (ahead:Bool) (hb:v.bulk <= 4294967290) (hs:s.length <= 2147483647):FnV (env T hT) 50 [.ag (vC v),.d (pS s),.ag (vC x),.d (pB ahead)] (.tup [.ag (vC (newS v s x ahead).1),.d (pB (newS v s x ahead).2)]):=by
 have hnb:=v.nodes_bulkN;have hkl:v.kids.length <= 4294967290:=by rw [V.bulk_eq] at hb; omega
 refine za1 (zad zgm) (by show 4 <= 75; decide) fun B hB => ?_
 unfold m_s_l08New;refine mO ?_;refine zax (cs:=vC v) rfl ?_;refine zax (cs:=vC x) rfl ?_;refine mN ?_;refine mO ?_;refine zaa (p:=0) (cs:=vC v) rfl rfl rfl rfl ?_;refine po_g rfl (cpy_g (T:=T) (hT:=hT) v (by omega) (zap v) _ (Nat.le_refl 2)) ?_;rintro y b n l ⟨rfl,cs,rfl,hN,he,hRT⟩;obtain ⟨t,rows,rfl,hr⟩:=vform he
 have ht:t = 1 /\ rows = [] \/ 2 <= t:=by
  obtain ⟨_,_,_,_,t',rows',e,h⟩:=hRT;simp only [vcs,cons.injEq,PC.sl.injEq,and_true] at e;obtain ⟨_,_,_,_,rfl,rfl⟩:=e;exact h
 have htl:t = 1 \/ t ∈ l:=ht.imp And.left fun h => (hN.mem t (by simp [vcs,toksL,PC.toks,h])).2.2
 have hrl:=zeC hr;have hrw:=erk_wid hr;refine zbb (cs:=vcs v.kind v.num v.exp v.text t rows) rfl rfl rfl rfl ?_;refine mN ?_;refine mQ ?_;refine zac (args:=[.d (pS s)]) rfl (numS_fn (T:=T) (hT:=hT) s hs) ?_;refine mN ?_;refine zav (fun st => newS v s x ahead = (v,false) /\ has st.tm [(8,.ref 2 0),(10,.ref 3 0)] /\ st.bx = [vC v,vC x,[pI 0,pI 0,pI 0,pS [],.sl 1 []],vcs v.kind v.num v.exp v.text t rows]) ?_ ?_
 ·refine zai ?_
  refine mO ?_;(iterate 2 refine mS ?_);by_cases h8:v.kind = 8
  ·refine zaf rfl rfl (beq_iff_eq.2 h8) ?_
   (iterate 4 refine mS ?_);refine zat (b:=true) rfl (fun _ => vKs_arg v.kids s) (fun _ => keyS_fn (T:=T) (hT:=hT) v.kids s (by omega)) ?_;by_cases hf:findK s v.kids 0 < 0
   ·refine zaf rfl rfl (decide_eq_true hf) ?_
    refine mT ?_;have hc:newS v s x ahead = (v.withK (v.kids ++ [.mk 5 0 0 s [],x]),true):=by unfold newS; rw [if_pos ⟨h8,hf⟩]
    refine mO ?_;(iterate 3 refine mS ?_);refine zaa (p:=1) (cs:=vC x) rfl rfl rfl rfl ?_;refine zac (args:=[.d (pS s)]) rfl (str_fn (T:=T) (hT:=hT) s) ?_;refine zcq (es:=[vC (.mk 5 0 0 s []),vC x]) rfl ?_
    have hwk:∀ e ∈ [vC (.mk 5 0 0 s []),vC x],e.length = 5:=fun e he => by
     rcases mem_cons.1 he with rfl | he
     ·rfl
     ·rw [mem_singleton] at he; subst he; rfl
    refine za3 (t:=t) (t':=0) (es:=rows) (ds:=[vC (.mk 5 0 0 s []),vC x]) rfl rfl htl (by rw [hrl]; simp only [length_cons,length_nil]; omega) hwk hrw ?_;refine mS ?_;refine zas (p:=3) (o':=4) (cs:=[.sl n (rows ++ [vC (.mk 5 0 0 s []),vC x])]) (z:=vcs v.kind v.num v.exp v.text t rows) rfl rfl rfl ⟨rfl,Nat.le_of_ble_eq_true rfl⟩ rfl ?_;refine zae ?_;refine mO ?_;refine zaa (p:=3) (cs:=vcs v.kind v.num v.exp v.text n (rows ++ [vC (.mk 5 0 0 s []),vC x])) rfl rfl rfl rfl ?_;refine zag (p:=2) (cs:=vcs v.kind v.num v.exp v.text n (rows ++ [vC (.mk 5 0 0 s []),vC x])) rfl rfl rfl rfl rfl rfl ?_;refine mN ?_;refine zab ⟨.inr rfl,[.ag (vcs v.kind v.num v.exp v.text n (rows ++ [vC (.mk 5 0 0 s []),vC x])),.d (pB true)],rfl,?_⟩;rw [hc];refine congrArg (fun l => some (PV.tup [.ag l,.d (pB true)])) ?_;show [pI v.kind,pI v.num,pI v.exp,pS v.text,.sl 0 (erLL (rows ++ [vC (.mk 5 0 0 s []),vC x]))] = vC (v.withK (v.kids ++ [.mk 5 0 0 s [],x]))
    have e1:erLL (rows ++ [vC (.mk 5 0 0 s []),vC x]) = vK (v.kids ++ [.mk 5 0 0 s [],x]):=erk_app hr (by
     show [erL (vC (.mk 5 0 0 s [])),erL (vC x)] = [V.d _ |>.pc,V.d _ |>.pc];rw [zap,zap,V.pc_eq,V.pc_eq])
    rw [e1]; rfl
   have hc:¬ (v.kind = 8 /\ findK s v.kids 0 < 0):=fun h => hf h.2
   refine zal rfl rfl (decide_eq_false hf) ?_;refine mF ?_;refine mO ?_;(iterate 2 refine mS ?_);have h7:¬ v.kind = 7:=by omega
   have hno:newS v s x ahead = (v,false):=by unfold newS; rw [if_neg hc,if_neg (fun h => h7 h.1)]
   refine zal rfl rfl (beq_eq_false_iff_ne.2 h7) ?_;refine mS ?_;refine mZ ?_;refine mK ?_;exact ⟨hno,⟨rfl,rfl,trivial⟩,rfl⟩
  have hc:¬ (v.kind = 8 /\ findK s v.kids 0 < 0):=fun h => h8 h.1
  refine zal rfl rfl (beq_eq_false_iff_ne.2 h8) ?_;refine mS ?_;refine mZ ?_;refine mF ?_;refine mO ?_;(iterate 2 refine mS ?_);by_cases h7:v.kind = 7
  ·refine zaf rfl rfl (beq_iff_eq.2 h7) ?_
   (iterate 4 refine mS ?_);refine zaA (n:=v.kids.length) rfl rfl (zao _) ?_;by_cases hn:ixI s = v.kids.length
   ·have hj:0 <= ixI s /\ (ixI s).toNat <= v.kids.length:=⟨by omega,by omega⟩
    have hyes:ixI s = v.kids.length \/ ahead = true /\ 0 <= ixI s /\ ixI s <= v.kids.length - 1:=.inl hn;refine zaf rfl rfl (beq_iff_eq.2 hn) ?_;refine mS ?_;refine mZ ?_;refine mT ?_;have hj0:0 <= ixI s:=hj.1;have hjl:(ixI s).toNat <= v.kids.length:=hj.2;have hcj:newS v s x ahead = (v.withK (v.kids.take (ixI s).toNat ++ x :: v.kids.drop (ixI s).toNat),true):=by unfold newS; rw [if_neg hc,if_pos ⟨h7,hyes⟩]
    refine mO ?_;(iterate 3 refine mS ?_);refine zbQ (l:=0) (h:=(ixI s).toNat) (es:=rows) (rs:=rows.take (ixI s).toNat) rfl rfl rfl (za9 (i:=ixI s) rfl (by omega)) ⟨Nat.zero_le _,by omega⟩ hrw (by rw [drop_zero,Nat.sub_zero]) ?_;refine zaa (p:=1) (cs:=vC x) rfl rfl rfl rfl ?_;refine zcq (es:=vK [x]) (by rw [zdQ]; rfl) ?_;(iterate 3 refine mS ?_);refine zbQ (l:=(ixI s).toNat) (h:=rows.length) (es:=rows) (rs:=rows.drop (ixI s).toNat) rfl rfl (za9 (i:=ixI s) rfl (by omega)) rfl ⟨by omega,lR⟩ hrw (by rw [<- length_drop,take_length]) ?_;refine zaC (es:=[]) rfl ?_;refine za3 (t:=n) (t':=0) (es:=[]) (ds:=rows.take (ixI s).toNat) rfl rfl (.inr (mem_cons_self ..)) (by rw [length_take]; simp only [length_nil]; omega) (fun e he => hrw e (mem_of_mem_take he)) (fun e he => by cases he) ?_;rw [nil_append];refine za3 (t:=n + 1) (t':=0) (es:=rows.take (ixI s).toNat) (ds:=vK [x]) rfl rfl (.inr (mem_cons_self ..)) (by rw [length_take,zao,length_singleton]; omega) (za7 _) (fun e he => hrw e (mem_of_mem_take he)) ?_
    refine za3 (t:=n + 1 + 1) (t':=0) (es:=rows.take (ixI s).toNat ++ vK [x]) (ds:=rows.drop (ixI s).toNat) rfl rfl (.inr (mem_cons_self ..)) (by rw [length_append,length_take,zao,length_drop,length_singleton]; omega) (fun e he => hrw e (mem_of_mem_drop he)) (fun e he => (mem_append.1 he).elim (fun h => hrw e (mem_of_mem_take h)) (za7 _ e)) ?_;refine mS ?_;refine zas (p:=3) (o':=4) (cs:=[.sl (n + 1 + 1 + 1) (rows.take (ixI s).toNat ++ vK [x] ++ rows.drop (ixI s).toNat)]) (z:=vcs v.kind v.num v.exp v.text t rows) rfl rfl rfl ⟨rfl,Nat.le_of_ble_eq_true rfl⟩ rfl ?_;refine zae ?_;refine mO ?_;refine zaa (p:=3) (cs:=vcs v.kind v.num v.exp v.text (n + 1 + 1 + 1) (rows.take (ixI s).toNat ++ vK [x] ++ rows.drop (ixI s).toNat)) rfl rfl rfl rfl ?_;refine zag (p:=2) (cs:=vcs v.kind v.num v.exp v.text (n + 1 + 1 + 1) (rows.take (ixI s).toNat ++ vK [x] ++ rows.drop (ixI s).toNat)) rfl rfl rfl rfl rfl rfl ?_
    refine mN ?_;refine zab ⟨.inr rfl,[.ag (vcs v.kind v.num v.exp v.text (n + 1 + 1 + 1) (rows.take (ixI s).toNat ++ vK [x] ++ rows.drop (ixI s).toNat)),.d (pB true)],rfl,?_⟩;rw [hcj];refine congrArg (fun l => some (PV.tup [.ag l,.d (pB true)])) ?_;show [pI v.kind,pI v.num,pI v.exp,pS v.text,.sl 0 (erLL (rows.take (ixI s).toNat ++ vK [x] ++ rows.drop (ixI s).toNat))] = vC (v.withK (v.kids.take (ixI s).toNat ++ x :: v.kids.drop (ixI s).toNat))
    have e1:erLL (rows.take (ixI s).toNat ++ vK [x] ++ rows.drop (ixI s).toNat) = vK (v.kids.take (ixI s).toNat ++ x :: v.kids.drop (ixI s).toNat):=by
     rw [zar,map_append,map_append,map_take,map_drop,<- zar,<- zar,hr,zc9,zbX,show x :: v.kids.drop (ixI s).toNat = [x] ++ v.kids.drop (ixI s).toNat from rfl,zbX,<- append_assoc];simp only [vK,map_take,map_drop]
    rw [e1]; rfl
   refine zal rfl rfl (beq_eq_false_iff_ne.2 hn) ?_;(iterate 3 refine mS ?_)
   cases ahead with
   | false =>
    have hno:newS v s x false = (v,false):=by unfold newS; rw [if_neg hc,if_neg (fun h => h.2.elim hn (fun h => Bool.noConfusion h.1))]
    refine mZ ?_;refine mK ?_
    exact ⟨hno,⟨rfl,rfl,trivial⟩,rfl⟩
   | true =>
    (iterate 3 refine mS ?_);refine zaA (n:=v.kids.length) rfl rfl (zao _) ?_;refine zbu (n:=(v.kids.length:Int) - 1) rfl rfl rfl (by omega) (by omega) ?_;refine zat (b:=true) (args:=[.d (pI (ixI s)),.d (pI 0),.d (pI ((v.kids.length:Int) - 1))]) rfl (fun _ => rfl) (fun _ => in_fn (T:=T) (hT:=hT) (ixI s) 0 ((v.kids.length:Int) - 1)) ?_;by_cases hin:0 <= ixI s /\ ixI s <= (v.kids.length:Int) - 1
    ·rw [decide_eq_true hin]
     have hj:0 <= ixI s /\ (ixI s).toNat <= v.kids.length:=⟨hin.1,by omega⟩;have hyes:ixI s = v.kids.length \/ true = true /\ 0 <= ixI s /\ ixI s <= v.kids.length - 1:=.inr ⟨rfl,hin⟩;refine mT ?_;have hj0:0 <= ixI s:=hj.1;have hjl:(ixI s).toNat <= v.kids.length:=hj.2;have hcj:newS v s x true = (v.withK (v.kids.take (ixI s).toNat ++ x :: v.kids.drop (ixI s).toNat),true):=by unfold newS; rw [if_neg hc,if_pos ⟨h7,hyes⟩]
     refine mO ?_;(iterate 3 refine mS ?_);refine zbQ (l:=0) (h:=(ixI s).toNat) (es:=rows) (rs:=rows.take (ixI s).toNat) rfl rfl rfl (za9 (i:=ixI s) rfl (by omega)) ⟨Nat.zero_le _,by omega⟩ hrw (by rw [drop_zero,Nat.sub_zero]) ?_;refine zaa (p:=1) (cs:=vC x) rfl rfl rfl rfl ?_;refine zcq (es:=vK [x]) (by rw [zdQ]; rfl) ?_;(iterate 3 refine mS ?_);refine zbQ (l:=(ixI s).toNat) (h:=rows.length) (es:=rows) (rs:=rows.drop (ixI s).toNat) rfl rfl (za9 (i:=ixI s) rfl (by omega)) rfl ⟨by omega,lR⟩ hrw (by rw [<- length_drop,take_length]) ?_;refine zaC (es:=[]) rfl ?_;refine za3 (t:=n) (t':=0) (es:=[]) (ds:=rows.take (ixI s).toNat) rfl rfl (.inr (mem_cons_self ..)) (by rw [length_take]; simp only [length_nil]; omega) (fun e he => hrw e (mem_of_mem_take he)) (fun e he => by cases he) ?_;rw [nil_append];refine za3 (t:=n + 1) (t':=0) (es:=rows.take (ixI s).toNat) (ds:=vK [x]) rfl rfl (.inr (mem_cons_self ..)) (by rw [length_take,zao,length_singleton]; omega) (za7 _) (fun e he => hrw e (mem_of_mem_take he)) ?_
     refine za3 (t:=n + 1 + 1) (t':=0) (es:=rows.take (ixI s).toNat ++ vK [x]) (ds:=rows.drop (ixI s).toNat) rfl rfl (.inr (mem_cons_self ..)) (by rw [length_append,length_take,zao,length_drop,length_singleton]; omega) (fun e he => hrw e (mem_of_mem_drop he)) (fun e he => (mem_append.1 he).elim (fun h => hrw e (mem_of_mem_take h)) (za7 _ e)) ?_;refine mS ?_;refine zas (p:=3) (o':=4) (cs:=[.sl (n + 1 + 1 + 1) (rows.take (ixI s).toNat ++ vK [x] ++ rows.drop (ixI s).toNat)]) (z:=vcs v.kind v.num v.exp v.text t rows) rfl rfl rfl ⟨rfl,Nat.le_of_ble_eq_true rfl⟩ rfl ?_;refine zae ?_;refine mO ?_;refine zaa (p:=3) (cs:=vcs v.kind v.num v.exp v.text (n + 1 + 1 + 1) (rows.take (ixI s).toNat ++ vK [x] ++ rows.drop (ixI s).toNat)) rfl rfl rfl rfl ?_;refine zag (p:=2) (cs:=vcs v.kind v.num v.exp v.text (n + 1 + 1 + 1) (rows.take (ixI s).toNat ++ vK [x] ++ rows.drop (ixI s).toNat)) rfl rfl rfl rfl rfl rfl ?_
     refine mN ?_;refine zab ⟨.inr rfl,[.ag (vcs v.kind v.num v.exp v.text (n + 1 + 1 + 1) (rows.take (ixI s).toNat ++ vK [x] ++ rows.drop (ixI s).toNat)),.d (pB true)],rfl,?_⟩;rw [hcj];refine congrArg (fun l => some (PV.tup [.ag l,.d (pB true)])) ?_;show [pI v.kind,pI v.num,pI v.exp,pS v.text,.sl 0 (erLL (rows.take (ixI s).toNat ++ vK [x] ++ rows.drop (ixI s).toNat))] = vC (v.withK (v.kids.take (ixI s).toNat ++ x :: v.kids.drop (ixI s).toNat))
     have e1:erLL (rows.take (ixI s).toNat ++ vK [x] ++ rows.drop (ixI s).toNat) = vK (v.kids.take (ixI s).toNat ++ x :: v.kids.drop (ixI s).toNat):=by
      rw [zar,map_append,map_append,map_take,map_drop,<- zar,<- zar,hr,zc9,zbX,show x :: v.kids.drop (ixI s).toNat = [x] ++ v.kids.drop (ixI s).toNat from rfl,zbX,<- append_assoc];simp only [vK,map_take,map_drop]
     rw [e1]; rfl
    ·rw [decide_eq_false hin]
     have hno:newS v s x true = (v,false):=by unfold newS; rw [if_neg hc,if_neg (fun h => h.2.elim hn (fun h => hin h.2))]
     refine mK ?_;exact ⟨hno,⟨rfl,rfl,trivial⟩,rfl⟩
  have hno:newS v s x ahead = (v,false):=by unfold newS; rw [if_neg hc,if_neg (fun h => h7 h.1)]
  refine zal rfl rfl (beq_eq_false_iff_ne.2 h7) ?_;refine mS ?_;refine mZ ?_;refine mK ?_;exact ⟨hno,⟨rfl,rfl,trivial⟩,rfl⟩
 rintro tm bx nt live ⟨hno,ht2,hbx⟩;obtain ⟨tm1,rfl⟩:=zah ht2;simp only at hbx; subst hbx
 refine mO ?_;refine zaa (p:=3) (cs:=vcs v.kind v.num v.exp v.text t rows) rfl rfl rfl rfl ?_;refine zag (p:=2) (cs:=vcs v.kind v.num v.exp v.text t rows) rfl rfl rfl rfl rfl rfl ?_;refine mN ?_;refine zab ⟨.inr rfl,[.ag (vcs v.kind v.num v.exp v.text t rows),.d (pB false)],rfl,?_⟩;rw [hno];exact congrArg (fun l => some (PV.tup [.ag l,.d (pB false)])) he
end
section
theorem RepCs.append {S:Nat -> Prop} {w:World}:∀ {ds es:List D} {c1 c2:List Value},RepCs S w ds c1 -> RepCs S w es c2 -> RepCs S w (ds ++ es) (c1 ++ c2)
 | [],es,c1,c2,h,k => by simp only [RepCs] at h; subst h; exact k
 | d :: ds,es,c1,c2,h,k => by
  simp only [RepCs] at h; obtain ⟨e1,e2,rfl,hl,h1,h2⟩:=h
  simp only [cons_append,RepCs];exact ⟨e1,e2 ++ c2,by simp,hl,h1,RepCs.append h2 k⟩
theorem RepCs.one {S:Nat -> Prop} {w:World} {d:D} {c:List Value} (h:RepC S w d c):RepCs S w [d] c:=by
 simp only [RepCs]; exact ⟨c,[],by simp,h.len,h,rfl⟩
section
variable {H:Type} {enc:TypeId × Value -> H} {P:Program} {w:World} {base:Nat} {spare:Nat -> Bool} {held:Bool}
theorem trod_sl {α:Type} {t e:TypeId} {n0:Nat} {f:α -> D} {ok:α -> Prop} (ht:P.underlying t = some (.slice e)) (hc:P.cellsOf e = n0) (hn:0 < n0) (hw:∀ x,D.width (f x) = n0)
  {fuel:Nat} (helem:∀ n cs y,n < fuel -> DataW.trod enc P w base spare held n e cs = some y -> ∃ x:α,Rd w (f x) cs /\ ok x)
  {cs:List Value} {y:DataW H × List MemPlace} (h:DataW.trod enc P w base spare held fuel t cs = some y) :
  ∃ (xs:List α) (v:Value),cs = [v] /\ Rd w (.sl n0 (xs.map f)) [v] /\ (∀ x ∈ xs,ok x) /\ xs.length <= maxLen:=by
 rcases DataW.trod_slice ht h with ⟨rfl,_⟩ | ⟨a,len,cap,elems,rest,n,hfu,rfl,_,_,hl,hm,hlen,hel,_,_⟩
 ·exact ⟨[],_,rfl,by simp [Rd,RepC],by simp,by simp⟩
 ·have key:∀ k,k <= len -> ∃ (xs:List α) (flat:List Value),xs.length = k /\ flat.length = n0 * k /\ RepCs (· < w.heap.size) w (xs.map f) flat /\ (∀ x ∈ xs,ok x) /\ ∀ (j:Nat) u,flat[j]? = some u -> w.cell? (a.add j) = some u:=by
   intro k
   induction k with
   | zero => intro _; exact ⟨[],[],rfl,rfl,by simp [RepCs],by simp,by simp⟩
   | succ k ih =>
    intro hk;obtain ⟨xs,flat,h1,h2,h3,h4,h5⟩:=ih (by omega);have hek:=hel k (by omega);rw [getElem?_eq_getElem (by omega)] at hek
    cases hcs:w.cells? base (a.add (k * P.cellsOf e)) (P.cellsOf e) with
    | none => rw [hcs] at hek; simp at hek
    | some cs' =>
     rw [hcs,Option.bind_some] at hek;obtain ⟨x,hx1,hx2⟩:=helem n _ _ (by omega) hek;obtain ⟨_,hcl,hcc⟩:=World.cells?_some hcs;refine ⟨xs ++ [x],flat ++ cs',by simp [h1],by rw [length_append,h2,hcl,hc,Nat.mul_succ],?_,?_,?_⟩
     ·rw [map_append]; exact RepCs.append h3 (RepCs.one hx1)
     ·intro z hz; rcases mem_append.1 hz with hz | hz
      ·exact h4 z hz
      ·simp at hz; subst hz; exact hx2
     ·intro j u hj
      by_cases hjl:j < flat.length
      ·rw [getElem?_append_left hjl] at hj; exact h5 j u hj
      ·rw [getElem?_append_right (by omega)] at hj
       have hjn:j - flat.length < cs'.length:=by
        rcases Nat.lt_or_ge (j - flat.length) cs'.length with h | h
        ·exact h
        ·simp [getElem?_eq_none h] at hj
       have:=hcc (j - flat.length) (by omega)
       rw [Addr.add_add,hc,h2,Nat.mul_comm k n0,show n0 * k + (j - n0 * k) = j by omega] at this;rw [this,<- h2]; exact hj
  obtain ⟨xs,flat,h1,h2,h3,h4,h5⟩:=key len lR;refine ⟨xs,_,rfl,?_,h4,by omega⟩;simp only [Rd,RepC];refine ⟨some a,cap,by simp [h1],fun hne => ?_⟩
  have hpos:0 < len:=by
   rcases Nat.eq_zero_or_pos len with h0 | h0
   ·exfalso; apply hne; rw [map_eq_nil_iff,<- length_eq_zero_iff]; omega
   ·exact h0
  have hfl:0 < flat.length:=by rw [h2]; exact Nat.mul_pos hn hpos
  have hc0:=h5 0 flat[0] (by simp)
  have hsp:a.spot = none:=by
   have:=World.cell?_spot hc0
   simpa [Addr.add] using this
  obtain ⟨b,o,s⟩:=a;simp only at hsp;subst hsp
  have hb:b < w.heap.size:=by
   rw [zaz] at hc0;by_cases hlt:b < w.heap.size
   ·exact hlt
   ·simp [World.cell?,Array.getElem?_eq_none (Nat.not_lt.1 hlt)] at hc0
  refine ⟨hn,by simpa [h1] using hl,hm,b,o,flat,rfl,hb,fun j u hj => ?_,?_,h3⟩
  ·have:=h5 j u hj; rwa [zaz] at this
  ·intro x hx; rw [mem_map] at hx; obtain ⟨z,_,rfl⟩:=hx; exact hw z
end
end
end Go.Proofs.YtdnjinhlhohfiaaGreatDoor
/- Plain facts on UTF-8: a sign by its bytes, a text by its signs. No program in sight. -/
namespace Go.Proofs.YtdnjinhlhohfiaaGreatDoor
open Go.RowKit Go.Lib
def utf (n:Nat):List UInt8 :=
 if 1114111 < n \/ (55296 <= n /\ n <= 57343) then []
 else if n < 128 then [byteOf n]
 else if n < 2048 then [byteOf (192 + n / 64),byteOf (128 + n % 64)]
 else if n < 65536 then [byteOf (224 + n / 4096),byteOf (128 + n / 64 % 64),byteOf (128 + n % 64)]
 else [byteOf (240 + n / 262144),byteOf (128 + n / 4096 % 64),byteOf (128 + n / 64 % 64),byteOf (128 + n % 64)]
def many (b:Nat):Nat × Nat :=
 if b < 128 then (1,b) else if 192 <= b /\ b <= 223 then (2,b % 32) else if 224 <= b /\ b <= 239 then (3,b % 16) else if 240 <= b /\ b <= 247 then (4,b % 8) else (0,0)
def sgnV (n:Nat) (l:List UInt8):Nat:=l.foldl (fun n b => n * 64 + b.toNat % 64) n
def sgn (l:List UInt8):Option (Nat × Nat) :=
 if l = [] \/ ((decodeL l).1 = 65533 /\ (decodeL l).2 = 1) then none else some (decodeL l)
theorem byteOf_eq {m:Nat} {b:UInt8}:byteOf m = b ↔ m % 256 = b.toNat:=by
 rw [<- UInt8.toNat_inj,zeS]
theorem zcV (b:Nat):(b < 128 /\ many b = (1,b)) \/ (192 <= b /\ b <= 223 /\ many b = (2,b % 32)) \/ (224 <= b /\ b <= 239 /\ many b = (3,b % 16)) \/ (240 <= b /\ b <= 247 /\ many b = (4,b % 8)) \/ ((128 <= b /\ b < 192 \/ 248 <= b) /\ many b = (0,0)):=by
 unfold many;by_cases h1:b < 128
 ·simp [h1]
 by_cases h2:192 <= b /\ b <= 223
 ·simp [h1,h2]
 by_cases h3:224 <= b /\ b <= 239
 ·rw [if_neg h1,if_neg h2,if_pos h3]; simp [h3]
 by_cases h4:240 <= b /\ b <= 247
 ·rw [if_neg h1,if_neg h2,if_neg h3,if_pos h4]; simp [h4]
 ·rw [if_neg h1,if_neg h2,if_neg h3,if_neg h4]; right; right; right; right; exact ⟨by omega,rfl⟩
theorem zdg {n b0 b1 b2 b3 v m:Nat} {u l:List UInt8} {p:Prop} [Decidable p] (hp:¬ p) (c:Prop)
  (hy:c -> decodeN n b0 b1 b2 b3 = (v,m) /\ ¬ (v = 65533 /\ m = 1) /\ u = l) (hn:¬ c -> decodeN n b0 b1 b2 b3 = (65533,1) /\ u ≠ l) :
  (if (decodeN n b0 b1 b2 b3).1 = 65533 /\ (decodeN n b0 b1 b2 b3).2 = 1 then none else some (decodeN n b0 b1 b2 b3)) = if p \/ u ≠ l then none else some (v,m):=by
 by_cases hc:c
 ·obtain ⟨h1,h2,h3⟩:=hy hc
  rw [h1,if_neg h2,if_neg]; intro h; rcases h with h | h
  ·exact hp h
  ·exact h h3
 ·obtain ⟨h1,h3⟩:=hn hc
  rw [h1,if_pos ⟨rfl,rfl⟩,if_pos (.inr h3)]
theorem zbv {n b0 b1 b2 b3:Nat} (hb:128 <= b0) (h:n < 2 \/ (n < 3 /\ 224 <= b0) \/ (n < 4 /\ 240 <= b0)):decodeN n b0 b1 b2 b3 = (65533,1):=by
 unfold decodeN; rw [if_neg (by omega),if_neg (by omega),if_neg (by omega),if_neg (by omega)]
theorem sgn_many (b0:UInt8) (t:List UInt8) :
  sgn (b0 :: t) = if ((many b0.toNat).1 = 0 \/ t.length + 1 < (many b0.toNat).1) \/ utf (sgnV (many b0.toNat).2 (t.take ((many b0.toNat).1 - 1))) ≠ (b0 :: t).take (many b0.toNat).1 then none
   else some (sgnV (many b0.toNat).2 (t.take ((many b0.toNat).1 - 1)),(many b0.toNat).1):=by
 have hb0:=b0.toNat_lt;unfold sgn;rw [decodeL_N];simp only [List.cons_ne_nil,false_or,List.length_cons,List.getD_cons_zero]
 rcases zcV b0.toNat with ⟨h,e⟩ | ⟨h1,h2,e⟩ | ⟨h1,h2,e⟩ | ⟨h1,h2,e⟩ | ⟨h,e⟩
 ·rw [e]
  refine zdg (by simp) True (fun _ => ⟨?_,by simp [sgnV]; omega,?_⟩) (fun h => absurd trivial h)
  ·rw [decodeN_ascii _ _ _ _ _ h]; simp [sgnV]
  ·simp only [sgnV,List.take_zero,Nat.sub_self,List.foldl_nil,List.take_succ_cons]
   unfold utf; rw [if_neg (by omega),if_pos h,List.cons.injEq]; exact ⟨byteOf_eq.2 (by omega),rfl⟩
 ·rw [e]
  match t with
  | [] => rw [zbv (by omega) (by simp; try omega),if_pos ⟨rfl,rfl⟩,if_pos (by simp)]
  | b1 :: t =>
   have hb1:=b1.toNat_lt;simp only [List.getD_cons_succ,List.getD_cons_zero,sgnV,Nat.reduceSub,List.take_succ_cons,List.take_zero,List.foldl_cons,List.foldl_nil,List.length_cons];refine zdg (by omega) (b1.toNat / 64 = 2 /\ 128 <= b0.toNat % 32 * 64 + b1.toNat % 64) (fun hc => ⟨?_,by omega,?_⟩) (fun hc => ⟨?_,?_⟩)
   ·unfold decodeN; rw [if_neg (by omega),if_pos (by omega),if_pos (by omega)]
   ·unfold utf; rw [if_neg (by omega),if_neg (by omega),if_pos (by omega),List.cons.injEq,List.cons.injEq]
    exact ⟨byteOf_eq.2 (by omega),byteOf_eq.2 (by omega),rfl⟩
   ·unfold decodeN; rw [if_neg (by omega)]
    by_cases h:b1.toNat / 64 = 2
    ·rw [if_pos (by omega),if_neg (by omega)]
    ·rw [if_neg (by omega),if_neg (by omega),if_neg (by omega)]
   ·unfold utf; rw [if_neg (by omega)]
    by_cases h:128 <= b0.toNat % 32 * 64 + b1.toNat % 64
    ·rw [if_neg (by omega),if_pos (by omega)]
     intro he; simp only [List.cons.injEq,byteOf_eq,and_true] at he; omega
    ·rw [if_pos (by omega)]; simp
 ·rw [e]
  match t with
  | [] => rw [zbv (by omega) (by simp; try omega),if_pos ⟨rfl,rfl⟩,if_pos (by simp)]
  | [b1] => rw [zbv (by omega) (by simp; try omega),if_pos ⟨rfl,rfl⟩,if_pos (by simp)]
  | b1 :: b2 :: t =>
   have hb1:=b1.toNat_lt;have hb2:=b2.toNat_lt;simp only [List.getD_cons_succ,List.getD_cons_zero,sgnV,Nat.reduceSub,List.take_succ_cons,List.take_zero,List.foldl_cons,List.foldl_nil,List.length_cons];obtain ⟨v,hv⟩:∃ v,(b0.toNat % 16 * 64 + b1.toNat % 64) * 64 + b2.toNat % 64 = v:=⟨_,rfl⟩;refine zdg (by omega) (b1.toNat / 64 = 2 /\ b2.toNat / 64 = 2 /\ 2048 <= v /\ ¬ (55296 <= v /\ v <= 57343)) (fun hc => ⟨?_,by omega,?_⟩) (fun hc => ⟨?_,?_⟩)
   ·rw [hv]; unfold decodeN; rw [if_neg (by omega),if_neg (by omega),if_pos (by omega),if_pos (by omega)]; simp; omega
   ·rw [hv]; unfold utf; rw [if_neg (by omega),if_neg (by omega),if_neg (by omega),if_pos (by omega)]; simp only [List.cons.injEq,and_true]
    exact ⟨byteOf_eq.2 (by omega),byteOf_eq.2 (by omega),byteOf_eq.2 (by omega)⟩
   ·unfold decodeN; rw [if_neg (by omega),if_neg (by omega)]
    by_cases h:b1.toNat / 64 = 2 /\ b2.toNat / 64 = 2
    ·rw [if_pos (by omega),if_neg (by omega)]
    ·rw [if_neg (by omega),if_neg (by omega)]
   ·rw [hv]; unfold utf
    by_cases h:55296 <= v /\ v <= 57343
    ·rw [if_pos (by omega)]; simp
    by_cases h:2048 <= v
    ·rw [if_neg (by omega),if_neg (by omega),if_neg (by omega),if_pos (by omega)]
     intro he; simp only [List.cons.injEq,byteOf_eq,and_true] at he; omega
    ·rw [if_neg (by omega)]; split
     ·simp
     ·rw [if_pos (by omega)]; simp
 ·rw [e]
  match t with
  | [] => rw [zbv (by omega) (by simp; try omega),if_pos ⟨rfl,rfl⟩,if_pos (by simp)]
  | [b1] => rw [zbv (by omega) (by simp; try omega),if_pos ⟨rfl,rfl⟩,if_pos (by simp)]
  | [b1,b2] => rw [zbv (by omega) (by simp; try omega),if_pos ⟨rfl,rfl⟩,if_pos (by simp)]
  | b1 :: b2 :: b3 :: t =>
   have hb1:=b1.toNat_lt;have hb2:=b2.toNat_lt;have hb3:=b3.toNat_lt;simp only [List.getD_cons_succ,List.getD_cons_zero,sgnV,Nat.reduceSub,List.take_succ_cons,List.take_zero,List.foldl_cons,List.foldl_nil,List.length_cons];obtain ⟨v,hv⟩:∃ v,((b0.toNat % 8 * 64 + b1.toNat % 64) * 64 + b2.toNat % 64) * 64 + b3.toNat % 64 = v:=⟨_,rfl⟩;refine zdg (by omega) (b1.toNat / 64 = 2 /\ b2.toNat / 64 = 2 /\ b3.toNat / 64 = 2 /\ 65536 <= v /\ v <= 1114111) (fun hc => ⟨?_,by omega,?_⟩) (fun hc => ⟨?_,?_⟩)
   ·rw [hv]; unfold decodeN; rw [if_neg (by omega),if_neg (by omega),if_neg (by omega),if_pos (by omega),if_pos (by omega)]; simp; omega
   ·rw [hv]; unfold utf; rw [if_neg (by omega),if_neg (by omega),if_neg (by omega),if_neg (by omega)]; simp only [List.cons.injEq,and_true]
    exact ⟨byteOf_eq.2 (by omega),byteOf_eq.2 (by omega),byteOf_eq.2 (by omega),byteOf_eq.2 (by omega)⟩
   ·unfold decodeN; rw [if_neg (by omega),if_neg (by omega),if_neg (by omega)]
    by_cases h:b1.toNat / 64 = 2 /\ b2.toNat / 64 = 2 /\ b3.toNat / 64 = 2
    ·rw [if_pos (by omega),if_neg (by omega)]
    ·rw [if_neg (by omega)]
   ·rw [hv]; unfold utf
    by_cases h:1114111 < v \/ (55296 <= v /\ v <= 57343)
    ·rw [if_pos (by omega)]; simp
    by_cases h:65536 <= v
    ·rw [if_neg (by omega),if_neg (by omega),if_neg (by omega),if_neg (by omega)]
     intro he; simp only [List.cons.injEq,byteOf_eq,and_true] at he; omega
    ·rw [if_neg (by omega)]; split
     ·simp
     split
     ·simp
     ·rw [if_pos (by omega)]; simp
 ·rw [e,if_pos (by rw [decodeN_bad _ _ _ _ _ (by omega)]; simp),if_pos (by simp)]
theorem sgn_bd {l:List UInt8} {n m:Nat} (h:sgn l = some (n,m)):n <= 1114111 /\ 1 <= m /\ m <= l.length:=by
 unfold sgn at h; split at h
 ·cases h
 ·rename_i hc
  simp only [Option.some.injEq] at h;have h1:=decodeL_rune l; have h2:=decodeL_width l; have h3:=decodeL_le l (fun e => hc (.inl e))
  rw [h] at h1 h2 h3; exact ⟨h1,h2,h3⟩
theorem validD_sgn (l:List UInt8) (hne:l ≠ []):validD l = match sgn l with | none => false | some (_,m) => validD (l.drop m):=by
 rw [validD_step l hne]; unfold sgn
 by_cases h:(decodeL l).1 = 65533 /\ (decodeL l).2 = 1
 ·rw [if_pos h,if_pos (.inr h)]
 ·rw [if_neg h,if_neg (by simp [hne,h])]
theorem many_bd (b:Nat) (hb:b < 256):(many b).1 <= 4 /\ (many b).2 < 256:=by
 rcases zcV b with ⟨_,e⟩ | ⟨_,_,e⟩ | ⟨_,_,e⟩ | ⟨_,_,e⟩ | ⟨_,e⟩ <;> rw [e] <;> simp <;> omega
theorem sgnV_snoc (v:Nat) (t:List UInt8) (j:Nat) (h:j < t.length):sgnV v (t.take (j + 1)) = sgnV v (t.take j) * 64 + t[j].toNat % 64:=by
 unfold sgnV; rw [zeT t j h,List.foldl_append]; rfl
theorem sgnV_lt (t:List UInt8):∀ v,sgnV v t < (v + 1) * 64 ^ t.length:=by
 induction t with
 | nil => intro v; simp [sgnV]
 | cons b t ih =>
  intro v;have h1:=ih (v * 64 + b.toNat % 64);have h2:(v * 64 + b.toNat % 64 + 1) <= (v + 1) * 64:=by omega
  have h3:=Nat.mul_le_mul_right (64 ^ t.length) h2;show sgnV (v * 64 + b.toNat % 64) t < _;rw [List.length_cons,Nat.pow_succ,Nat.mul_comm (64 ^ t.length) 64,<- Nat.mul_assoc]; omega
theorem sgnV_bd (v:Nat) (t:List UInt8) (j:Nat) (hv:v < 256) (hj:j <= 3):sgnV v (t.take j) < 67108864:=by
 have h1:=sgnV_lt (t.take j) v;have h2:(t.take j).length <= 3:=by rw [List.length_take]; omega
 have h3:64 ^ (t.take j).length <= 64 ^ 3:=Nat.pow_le_pow_right (by omega) h2;have h4:(v + 1) * 64 ^ (t.take j).length <= 256 * 64 ^ 3:=Nat.mul_le_mul (by omega) h3;omega
def signAt (l:List UInt8) (i:Int):Int × Int :=
 if 0 <= i /\ i < l.length then (match sgn (l.drop i.toNat) with | none => (-1,-1) | some (n,m) => ((n:Int),i + m)) else (-1,-1)
theorem signAt_far {l:List UInt8} {i:Int} (h:¬ (0 <= i /\ i < l.length)):signAt l i = (-1,-1):=by unfold signAt; rw [if_neg h]
theorem zcr {l:List UInt8} {k:Nat} (h:sgn (l.drop k) = none):signAt l k = (-1,-1):=by
 unfold signAt; split
 ·rw [Int.toNat_natCast,h]
 ·rfl
theorem zdR {l:List UInt8} {k n m:Nat} (hk:k < l.length) (h:sgn (l.drop k) = some (n,m)):signAt l k = ((n:Int),(k:Int) + m):=by
 unfold signAt; rw [if_pos (by omega),Int.toNat_natCast,h]
end Go.Proofs.YtdnjinhlhohfiaaGreatDoor
/- Masks of integers of 64 bits and of bytes, as remainders. No program in sight. -/
namespace Go.Proofs.YtdnjinhlhohfiaaGreatDoor
open Go.RowKit
theorem zbE (x:Int) (k:Nat) (hk:k <= 62) (m:Int) (hm:m = 2 ^ k - 1):bits .and .i64 x m = x % 2 ^ k:=by
 subst hm;have hp:(2:Nat) ^ k <= 2 ^ 62:=Nat.pow_le_pow_right (by omega) hk;have h0:(1:Nat) <= 2 ^ k:=Nat.one_le_two_pow;have e:((2:Int) ^ k - 1) = ((2 ^ k - 1:Nat):Int):=by rw [Int.natCast_sub h0]; simp
 have hm:(BitVec.ofInt 64 ((2:Int) ^ k - 1)).toNat = 2 ^ k - 1:=by
  rw [e,BitVec.ofInt_natCast,BitVec.toNat_ofNat]; exact Nat.mod_eq_of_lt (by omega)
 show IntKind.i64.wrap ((BitVec.ofInt 64 x &&& BitVec.ofInt 64 ((2:Int) ^ k - 1)).toNat:Int) = _;rw [BitVec.toNat_and,hm,Nat.and_two_pow_sub_one_eq_mod,BitVec.toNat_ofInt]
 have hd:((2 ^ k:Nat):Int) ∣ ((2 ^ 64:Nat):Int):=by
  have:(2:Nat) ^ k ∣ 2 ^ 64:=Nat.pow_dvd_pow 2 (by omega)
  exact Int.natCast_dvd_natCast.2 this
 have h1:(((x % ((2 ^ 64:Nat):Int)).toNat % 2 ^ k:Nat):Int) = x % ((2 ^ k:Nat):Int):=by
  rw [Int.natCast_emod,Int.toNat_of_nonneg (Int.emod_nonneg _ (by decide)),Int.emod_emod_of_dvd _ hd]
 rw [h1];have h2:((2 ^ k:Nat):Int) = (2:Int) ^ k:=by simp
 have h3:(0:Int) < ((2 ^ k:Nat):Int):=by omega
 have h4:=Int.emod_nonneg x (show ((2 ^ k:Nat):Int) ≠ 0 by omega);have h5:=Int.emod_lt_of_pos x h3;rw [<- h2,IntKind.wrap_i64];omega
theorem m1 (x:Int):bits .and .i64 x 1 = x % 2:=zbE x 1 (by decide) 1 (by decide)
theorem m7 (x:Int):bits .and .i64 x 7 = x % 8:=zbE x 3 (by decide) 7 (by decide)
theorem m15 (x:Int):bits .and .i64 x 15 = x % 16:=zbE x 4 (by decide) 15 (by decide)
theorem m31 (x:Int):bits .and .i64 x 31 = x % 32:=zbE x 5 (by decide) 31 (by decide)
theorem m63 (x:Int):bits .and .i64 x 63 = x % 64:=zbE x 6 (by decide) 63 (by decide)
theorem m127 (x:Int):bits .and .i64 x 127 = x % 128:=zbE x 7 (by decide) 127 (by decide)
theorem m255 (x:Int):bits .and .i64 x 255 = x % 256:=zbE x 8 (by decide) 255 (by decide)
attribute [go_sem] m1 m7 m15 m31 m63 m127 m255
end Go.Proofs.YtdnjinhlhohfiaaGreatDoor
/- Whether a text is right: the contracts of PutSign, GetSign, Signs and TextOk of the reference. -/
namespace Go.Proofs.YtdnjinhlhohfiaaGreatDoor
open Go.RowKit Go.Lib
set_option maxRecDepth 10000 in
theorem zgq (b:UInt8) (w:World) :
  Calls Tryz.prog 104 #[.int .i64 (b.toNat:Nat)] w fun e w' => e = .returned (.tuple #[.int .i64 ((many b.toNat).1:Nat),.int .i64 ((many b.toNat).2:Nat)]) /\ w = w':=by
 have hb:=b.toNat_lt;generalize b.toNat = n at *;have h0:(0:Int) <= n:=by omega
 rcases zcV n with ⟨h,e⟩ | ⟨h1,h2,e⟩ | ⟨h1,h2,e⟩ | ⟨h1,h2,e⟩ | ⟨h,e⟩
 ·have H:=Lib.hid e; clear e
  have n1:((n:Int) < 128):=by omega
  go_enter Tryz.func104,Tryz.ntmps104
  go_wp2
  go_ret2
  rw [H.out]; exact ⟨rfl,rfl⟩
 ·have H:=Lib.hid e; clear e
  have r1:inR n 192 223 = true:=zaG (by omega);have n1:¬ ((n:Int) < 128):=by omega
  clear h1 h2
  go_enter Tryz.func104,Tryz.ntmps104
  go_wp2_with (go_at_call 74; refine (zaH _ _ _ _).mono ?_; rintro e w' ⟨rfl,rfl⟩)
  go_ret2
  rw [H.out]; exact ⟨rfl,rfl⟩
 ·have H:=Lib.hid e; clear e
  have r1:inR n 192 223 = false:=za6 (by omega);have r2:inR n 224 239 = true:=zaG (by omega);have n1:¬ ((n:Int) < 128):=by omega
  clear h1 h2
  go_enter Tryz.func104,Tryz.ntmps104
  go_wp2_with (go_at_call 74; refine (zaH _ _ _ _).mono ?_; rintro e w' ⟨rfl,rfl⟩)
  go_ret2
  rw [H.out]; exact ⟨rfl,rfl⟩
 ·have H:=Lib.hid e; clear e
  have r1:inR n 192 223 = false:=za6 (by omega);have r2:inR n 224 239 = false:=za6 (by omega);have r3:inR n 240 247 = true:=zaG (by omega);have n1:¬ ((n:Int) < 128):=by omega
  clear h1 h2
  go_enter Tryz.func104,Tryz.ntmps104
  go_wp2_with (go_at_call 74; refine (zaH _ _ _ _).mono ?_; rintro e w' ⟨rfl,rfl⟩)
  go_ret2
  rw [H.out]; exact ⟨rfl,rfl⟩
 ·have H:=Lib.hid e; clear e
  have r1:inR n 192 223 = false:=za6 (by omega);have r2:inR n 224 239 = false:=za6 (by omega);have r3:inR n 240 247 = false:=za6 (by omega);have n1:¬ ((n:Int) < 128):=by omega
  clear h
  go_enter Tryz.func104,Tryz.ntmps104
  go_wp2_with (go_at_call 74; refine (zaH _ _ _ _).mono ?_; rintro e w' ⟨rfl,rfl⟩)
  go_ret2
  rw [H.out]; exact ⟨rfl,rfl⟩
def putSign (n:Int):List UInt8:=if n < 0 then [] else utf n.toNat
theorem zdS (n:Nat):putSign n = utf n:=by unfold putSign; rw [if_neg (by omega)]; simp
theorem zgr {n:Int} (h:¬ (0 <= n /\ n <= 1114111)):putSign n = []:=by
 unfold putSign; by_cases h0:n < 0
 ·rw [if_pos h0]
 ·rw [if_neg h0]; unfold utf; rw [if_pos (by omega)]
theorem zgs {n:Int} (h:55296 <= n /\ n <= 57343):putSign n = []:=by
 unfold putSign; rw [if_neg (by omega)]; unfold utf; rw [if_pos (by omega)]
set_option maxHeartbeats 400000 in
set_option maxRecDepth 10000 in
theorem zfp (n:Int) (w:World) (hn:i64ok n) :
  Calls Tryz.prog 105 #[.int .i64 n] w fun e w' => e = .returned (.string ⟨(putSign n).toArray⟩) /\ Below w.heap.size w w':=by
 obtain ⟨hn1,hn2⟩:=hn;by_cases hr:0 <= n /\ n <= 1114111
 ·have r1:inR n 0 1114111 = true:=zaG hr
  by_cases hs:55296 <= n /\ n <= 57343
  ·have r2:inR n 55296 57343 = true:=zaG hs
   have H:=Lib.hid (zgs hs);clear hr hs
   go_enter Tryz.func105,Tryz.ntmps105
   go_wp2_with (go_at_call 74; refine (zaH _ _ _ _).mono ?_; rintro e w' ⟨rfl,rfl⟩)
   go_ret;exact ⟨zcg H.out.symm,Below.refl _ _⟩
  ·have r2:inR n 55296 57343 = false:=za6 hs
   obtain ⟨hr1,hr2⟩:=hr;have hcv1:=fun b c w => conv1 (P:=Tryz.prog) Tryz.underlying22 Tryz.underlying5 Tryz.underlying9 b c w
   have hcv2:=fun b c w => conv2 (P:=Tryz.prog) Tryz.underlying22 Tryz.underlying5 Tryz.underlying9 b c w
   have hcv3:=fun b c w => conv3 (P:=Tryz.prog) Tryz.underlying22 Tryz.underlying5 Tryz.underlying9 b c w
   have hcv4:=fun b c w => conv4 (P:=Tryz.prog) Tryz.underlying22 Tryz.underlying5 Tryz.underlying9 b c w
   by_cases c1:n < 128
   ·have H:Hid (putSign n = [byteOf n.toNat]):=by
     show _ = _; unfold putSign; rw [if_neg (by omega)]; unfold utf; rw [if_neg (by omega),if_pos (by omega)]
    clear hs
    go_enter Tryz.func105,Tryz.ntmps105
    go_wp2_with (go_at_call 74; refine (zaH _ _ _ _).mono ?_; rintro e w' ⟨rfl,rfl⟩)
    go_ret;exact ⟨zcg H.out.symm,(Below.refl _ _).alloc (Nat.le_refl _) _⟩
   ·by_cases c2:n < 2048
    ·have H:Hid (putSign n =  [byteOf (192 + n.toNat / 64),byteOf (128 + n.toNat % 64)]):=by
      show _ = _; unfold putSign; rw [if_neg (by omega)]; unfold utf; rw [if_neg (by omega),if_neg (by omega),if_pos (by omega)]
     clear hs
     go_enter Tryz.func105,Tryz.ntmps105
     go_wp2_with (go_at_call 74; refine (zaH _ _ _ _).mono ?_; rintro e w' ⟨rfl,rfl⟩)
     go_ret;refine ⟨zcg ?_,(Below.refl _ _).alloc (Nat.le_refl _) _⟩;rw [H.out]; try rfl
     simp only [List.cons.injEq,and_true];exact ⟨congrArg byteOf (by omega),congrArg byteOf (by omega)⟩
    ·by_cases c3:n < 65536
     ·have H:Hid (putSign n = [byteOf (224 + n.toNat / 4096),byteOf (128 + n.toNat / 64 % 64),byteOf (128 + n.toNat % 64)]):=by
       show _ = _; unfold putSign; rw [if_neg (by omega)]; unfold utf; rw [if_neg (by omega),if_neg (by omega),if_neg (by omega),if_pos (by omega)]
      clear hs
      go_enter Tryz.func105,Tryz.ntmps105
      go_wp2_with (go_at_call 74; refine (zaH _ _ _ _).mono ?_; rintro e w' ⟨rfl,rfl⟩)
      go_ret;refine ⟨zcg ?_,(Below.refl _ _).alloc (Nat.le_refl _) _⟩;rw [H.out]; try rfl
      simp only [List.cons.injEq,and_true];exact ⟨congrArg byteOf (by omega),congrArg byteOf (by omega),congrArg byteOf (by omega)⟩
     ·have H:Hid (putSign n = [byteOf (240 + n.toNat / 262144),byteOf (128 + n.toNat / 4096 % 64),byteOf (128 + n.toNat / 64 % 64),byteOf (128 + n.toNat % 64)]):=by
       show _ = _; unfold putSign; rw [if_neg (by omega)]; unfold utf; rw [if_neg (by omega),if_neg (by omega),if_neg (by omega),if_neg (by omega)]
      clear hs
      go_enter Tryz.func105,Tryz.ntmps105
      go_wp2_with (go_at_call 74; refine (zaH _ _ _ _).mono ?_; rintro e w' ⟨rfl,rfl⟩)
      go_ret;refine ⟨zcg ?_,(Below.refl _ _).alloc (Nat.le_refl _) _⟩;rw [H.out]; try rfl
      simp only [List.cons.injEq,and_true];exact ⟨congrArg byteOf (by omega),congrArg byteOf (by omega),congrArg byteOf (by omega),congrArg byteOf (by omega)⟩
 ·have r1:inR n 0 1114111 = false:=za6 hr
  have H:=Lib.hid (zgr hr);clear hr
  go_enter Tryz.func105,Tryz.ntmps105
  go_wp2_with (go_at_call 74; refine (zaH _ _ _ _).mono ?_; rintro e w' ⟨rfl,rfl⟩)
  go_ret;exact ⟨zcg H.out.symm,Below.refl _ _⟩
set_option maxHeartbeats 1000000 in
set_option maxRecDepth 10000 in
theorem zfq (l:List UInt8) (i:Int) (w:World) (hi:i64ok i) (hl:l.length <= 4611686018427387904) :
  Calls Tryz.prog 99 #[.string ⟨l.toArray⟩,.int .i64 i] w fun e w' => e = .returned (.tuple #[.int .i64 (signAt l i).1,.int .i64 (signAt l i).2]) /\ Below w.heap.size w w':=by
 obtain ⟨hi1,hi2⟩:=hi;by_cases hr:0 <= i /\ i < l.length
 ·obtain ⟨k,rfl⟩:∃ k:Nat,i = k:=⟨i.toNat,by omega⟩
  have hk:k < l.length:=by omega
  have hk1:(0:Int) <= k:=by omega
  have hk2:(k:Int) < l.length:=by omega
  have hS:=sgn_many l[k] (l.drop (k + 1));rw [<- List.drop_eq_getElem_cons hk] at hS;have hbd:=many_bd l[k].toNat l[k].toNat_lt;obtain ⟨hbd1,hbd2⟩:=hbd;have HC:=Lib.hid (zgq l[k]);obtain ⟨m,hm⟩:∃ m,(many l[k].toNat).1 = m:=⟨_,rfl⟩;obtain ⟨v0,hv⟩:∃ v,(many l[k].toNat).2 = v:=⟨_,rfl⟩;rw [hm] at hbd1 hS;rw [hv] at hbd2 hS
  have HC:Hid (∀ w,Calls Tryz.prog 104 #[.int .i64 (l[k].toNat:Nat)] w fun e w' => e = .returned (.tuple #[.int .i64 (m:Nat),.int .i64 (v0:Nat)]) /\ w = w'):=by
   intro w; rw [<- hm,<- hv]; exact HC.out w
  clear hm hv hr;by_cases hA:m = 0 \/ (l.drop (k + 1)).length + 1 < m
  ·rw [if_pos (.inl hA)] at hS
   have H:=Lib.hid (zcr hS);clear hS;rw [List.length_drop] at hA;by_cases hA0:m = 0
   ·subst hA0
    go_enter Tryz.func99,Tryz.ntmps99
    go_wp2_with (go_at_call 104; refine (HC.out _).mono ?_; rintro e w1 ⟨rfl,rfl⟩)
    go_ret2
    rw [H.out]; exact ⟨rfl,Below.refl _ _⟩
   ·have hA1:(l.length:Int) - k < m:=by omega
    have hA2:((m:Int) == 0) = false:=by simpa using hA0
    clear hA hA0
    go_enter Tryz.func99,Tryz.ntmps99
    go_wp2_with (go_at_call 104; refine (HC.out _).mono ?_; rintro e w1 ⟨rfl,rfl⟩)
    go_ret2
    rw [H.out]; exact ⟨rfl,Below.refl _ _⟩
  ·have hA0:1 <= m:=by omega
   have hA1:k + m <= l.length:=by rw [List.length_drop] at hA; omega
   have hA2:((m:Int) == 0) = false:=by simp; omega
   have hA3:¬ (l.length:Int) - k < m:=by omega
   have hle:((l.drop (k + 1)).length:Nat) = l.length - (k + 1):=List.length_drop;have HS:=Lib.hid hS;have HA:=Lib.hid hA;have HL:=Lib.hid hle;clear hA hS hle
   go_enter Tryz.func99,Tryz.ntmps99
   go_wp2_with (go_at_call 104; refine (HC.out _).mono ?_; rintro e w1 ⟨rfl,rfl⟩)
   go_loop [7,8] (fun x i => ∃ (j:Nat),j + 1 <= m /\ i = .int .i64 ((j + 1:Nat):Int) /\ x = .int .i64 (sgnV v0 ((l.drop (k + 1)).take j))) (fun _ i => 5 - (RowKit.intOf i).toNat)
   case atStart => exact ⟨0,by omega,rfl,by simp [sgnV]⟩
   case round =>
    obtain ⟨j,hj,rfl,rfl⟩:=hrel;by_cases hlt:j + 1 < m
    ·have hjl:j < (l.drop (k + 1)).length:=by have:=HL.out; omega
     have HN:=Lib.hid (sgnV_snoc v0 (l.drop (k + 1)) j hjl);have hb:=sgnV_bd v0 (l.drop (k + 1)) j hbd2 (by omega);have hget:(l.drop (k + 1))[j] = l[k + (j + 1)]'(by have:=HL.out; omega):=by rw [List.getElem_drop]; congr 1; omega
     rw [hget] at HN;have hk4:k + (j + 1) < l.length:=by omega
     have e1:((k:Int) + (j + 1:Nat)).toNat = k + (j + 1):=by omega
     obtain ⟨x,hx⟩:∃ x,sgnV v0 ((l.drop (k + 1)).take j) = x:=⟨_,rfl⟩;rw [hx] at HN hb ⊢;have HX:=Lib.hid hx; clear hx
     go_wp2
     go_round
     case rel =>
      refine ⟨j + 1,by omega,by go_num,?_⟩;rw [HN.out]; go_num
     case measure => simp [RowKit.intOf] <;> omega
    ·obtain rfl:m = j + 1:=by omega
     have hb:=sgnV_bd v0 (l.drop (k + 1)) j hbd2 (by omega);have HS2:=HS.out;have hpre:¬ ((j + 1 = 0) \/ (l.drop (k + 1)).length + 1 < j + 1):=HA.out;simp only [hpre,false_or,Nat.add_sub_cancel] at HS2;have HS2:=Lib.hid HS2;clear hpre;go_wp2;obtain ⟨x,hx⟩:∃ x,sgnV v0 ((l.drop (k + 1)).take j) = x:=⟨_,rfl⟩;rw [hx] at hb HS2;have HX:=Lib.hid hx;simp only [hx];clear hx HS;have hB:=Below.refl w.heap.size w;have z1:IntKind.i64.wrap ((k:Int) + (↑j + 1)) = (k:Int) + (↑j + 1):=IntWalk.i64_in _ (by omega);have z2:(0:Int) <= (k:Int) + (↑j + 1):=by omega
     have z3:(k:Int) <= (k:Int) + (↑j + 1):=by omega
     have z4:(k:Int) + (↑j + 1) <= l.length:=by omega
     have z5:((k:Int) + (↑j + 1)).toNat = k + (j + 1):=by omega
     have hxo:i64ok x:=⟨by omega,by omega⟩
     go_region_held3 (fun W => Below w.heap.size w W) (first | exact hB | exact hB.drew)
      (first | (go_at_call 105; refine (zfp x _ hxo).mono ?_; rintro e w2 ⟨rfl,hb2⟩; replace hB:=zan (by first | exact hB | exact hB.drew) hb2 (Nat.le_refl _)))
     go_wp2
     ·have he:(!putSign ↑x == List.take (j + 1) (List.drop k l)) = true:=by assumption
      rw [zdS] at he;have h2:=HS2.out;rw [if_pos (by simpa using he)] at h2
      go_ret2
      rw [zcr h2]; exact ⟨rfl,hB⟩
     ·have he:(!putSign ↑x == List.take (j + 1) (List.drop k l)) = false:=by assumption
      rw [zdS] at he;have h2:=HS2.out;rw [if_neg (by simpa using he)] at h2
      go_ret2
      rw [zdR hk h2]; exact ⟨by simp,hB⟩
 ·have H:=Lib.hid (signAt_far hr)
  by_cases h0:i < 0
  ·clear hr
   go_enter Tryz.func99,Tryz.ntmps99
   go_wp2
   go_ret2
   rw [H.out]; exact ⟨rfl,Below.refl _ _⟩
  ·have h1:¬ i < l.length:=by omega
   clear hr
   go_enter Tryz.func99,Tryz.ntmps99
   go_wp2
   go_ret2
   rw [H.out]; exact ⟨rfl,Below.refl _ _⟩
end Go.Proofs.YtdnjinhlhohfiaaGreatDoor
namespace Go.Proofs.YtdnjinhlhohfiaaGreatDoor
open Go.RowKit
set_option maxHeartbeats 4000000
set_option maxRecDepth 100000
open List
section
open Go.RowKit Go.Lib
theorem tyI:ElemTy Tryz.prog 63 3 1 8:=ElemTy.mk' Tryz.underlying63 (z:=.int .i64 0) (by kernel_rfl) rfl (by decide)
theorem signAt_bd {l:L8} {k:Nat} (_:k <= l.length):-1 <= (signAt l k).1 /\ (signAt l k).1 <= 1114111 /\ -1 <= (signAt l k).2 /\ (signAt l k).2 <= l.length:=by
 unfold signAt; split
 ·rename_i h
  rw [Int.toNat_natCast]
  cases hs:sgn (l.drop k) with
  | none => simp; try omega
  | some r =>
   obtain ⟨n,m⟩:=r
   have:=sgn_bd hs
   simp [length_drop] at this ⊢; omega
 ·simp; try omega
theorem zgt {l:L8} {k:Nat} (hk:k < l.length):((signAt l k).2 < 0 /\ validD (l.drop k) = false) \/ (∃ m:Nat,(signAt l k).2 = (k + m:Nat) /\ 1 <= m /\ k + m <= l.length /\ validD (l.drop k) = validD (l.drop (k + m))):=by
 have hne:l.drop k ≠ []:=by simp; omega
 have hv:=validD_sgn (l.drop k) hne
 cases hs:sgn (l.drop k) with
 | none => rw [hs] at hv; left; rw [zcr hs]; exact ⟨by simp,hv⟩
 | some r =>
  obtain ⟨n,m⟩:=r
  have:=sgn_bd hs
  rw [hs] at hv; right; rw [zdR hk hs]; simp [length_drop,drop_drop] at this hv ⊢
  exact ⟨m,rfl,by omega,by omega,hv⟩
theorem signs_spec (l:L8) (w:World) (hl:l.length <= 4294967295) :
  Calls Tryz.prog 95 #[.string ⟨l.toArray⟩] w fun e w' => (∃ a n c,e = .returned (.slice a n c) /\ n <= 4294967295 /\ (l ≠ [] -> (decide (0 < n)) = validD l)) /\ Below w.heap.size w w':=by
 obtain ⟨ok,hok⟩:∃ ok,validD l = ok:=⟨_,rfl⟩;rw [hok]
 go_enter Tryz.func95,Tryz.ntmps95
 go_wp2
 go_loopw [3,4] (fun v i wr => ∃ (k:Nat) (xs:List Value),k <= l.length /\ i = .int .i64 k /\ OwnR wr w.heap.size 3 v xs /\ xs.length <= k /\ (0 < k -> 0 < xs.length) /\ validD (l.drop k) = ok /\ Below w.heap.size w wr) (fun _ i _ => l.length - (RowKit.intOf i).toNat)
 case atStart => exact ⟨0,[],Nat.zero_le _,rfl,OwnR.start,by simp,by simp,by simpa using hok,(Below.refl _ _).alloc lR _⟩
 case round =>
  obtain ⟨k,xs,hk,rfl,hown,hx1,hx2,hv,hbel⟩:=hrel;have HV:=Lib.hid hv; clear hv hok
  have hsz:=hbel.size;obtain ⟨a,c,rfl⟩:=hown.any;by_cases hlt:k < l.length
  ·have hki:i64ok k:=⟨by omega,by omega⟩
   have HB:=signAt_bd (l:=l) (k:=k) hk;have HS:=Lib.hid (zgt hlt);obtain ⟨p,hp⟩:∃ p,signAt l k = p:=⟨_,rfl⟩
   have HC:Hid (∀ w,Calls Tryz.prog 99 #[.string ⟨l.toArray⟩,.int .i64 k] w fun e w' => e = .returned (.tuple #[.int .i64 p.1,.int .i64 p.2]) /\ Below w.heap.size w w'):=by
    intro w; rw [<- hp]; exact zfq l k w hki (by omega)
   rw [hp] at HB HS;clear hp;obtain ⟨p1,p2⟩:=p;simp only at HB HS HC;obtain ⟨HB1,HB2,HB3,HB4⟩:=HB;by_cases hneg:p2 < 0
   ·have hf:ok = false:=by
     rcases HS.out with ⟨_,h2⟩ | ⟨m,h1,_⟩
     ·rw [<- HV.out,h2]
     ·omega
    have HF:=Lib.hid hf;clear hf
    go_wp2_with (go_at_call 99; refine (HC.out _).mono ?_; rintro e w1 ⟨rfl,hb1⟩)
    go_ret;exact ⟨⟨_,_,_,rfl,by simp,fun _ => by rw [HF.out]; rfl⟩,(zan hbel hb1 lR).alloc (Nat.le_trans hsz hb1.size) _⟩
   ·obtain ⟨m,hm1,hm2,hm3,hm4⟩:∃ m:Nat,p2 = (k + m:Nat) /\ 1 <= m /\ k + m <= l.length /\ validD (l.drop k) = validD (l.drop (k + m)):=by
     rcases HS.out with ⟨h1,_⟩ | h
     ·omega
     ·exact h
    subst hm1;have HM:=Lib.hid hm4;clear hm4
    go_wp2_with (first | (go_at_call 99; refine (HC.out _).mono ?_; rintro e w1 ⟨rfl,hb1⟩) | (at_builtin; refine wp_appR (ys:=[.int .i64 p1]) tyI rfl rfl w.heap.size ((hown.below hb1).alloc _) rfl ⟨w1.heap.size,0,none⟩ 1 rfl (cell_one_new _ _ _) (by simp [Value.oneCell']) (by simp; omega) (by decide) (by have:=hb1.size; simp; omega) ?_))
    intro v' w2 hown1 hgr _;have hbel1:=OwnR.grown ((hown.below hb1).alloc _) ((zan hbel hb1 lR).alloc (Nat.le_trans hsz hb1.size) _) hgr (by have:=hb1.size; simp; omega);clear hown hbel;go_wp2;go_roundw
    case rel => exact ⟨k + m,_,hm3,by go_num,hown1,by simp; omega,by simp,by rw [<- HM.out]; exact HV.out,hbel1⟩
    case measure => simp [RowKit.intOf]; omega
  ·obtain rfl:k = l.length:=by omega
   have h1:=HV.out;rw [drop_length] at h1;have HF:=Lib.hid h1;clear h1;go_wp2;go_ret;exact ⟨⟨_,_,_,rfl,by omega,fun hne => by rw [<- HF.out,decide_eq_true (hx2 (length_pos_iff.2 hne))]; rfl⟩,hbel⟩
theorem zcs (l:L8) (w:World) (hl:l.length <= 4294967295) :
  Calls Tryz.prog 86 #[.string ⟨l.toArray⟩] w fun e w' => e = .returned (.bool (validD l)) /\ Below w.heap.size w w':=by
 by_cases h:l = []
 ·subst h
  go_enter Tryz.func86,Tryz.ntmps86
  go_wp2;go_ret;exact ⟨rfl,Below.refl _ _⟩
 ·have HC:=Lib.hid (signs_spec l w hl)
  have h1:l.isEmpty = false:=by simpa using h
  have HN:=Lib.hid h;clear h
  go_enter Tryz.func86,Tryz.ntmps86
  go_wp2_with (go_at_call 95; refine HC.out.mono ?_; rintro e w1 ⟨⟨a,n,c,rfl,hn,hv⟩,hb1⟩; have HV:=Lib.hid (hv HN.out); clear hv)
  go_ret;exact ⟨by rw [<- HV.out]; rfl,hb1⟩
end
end Go.Proofs.YtdnjinhlhohfiaaGreatDoor
