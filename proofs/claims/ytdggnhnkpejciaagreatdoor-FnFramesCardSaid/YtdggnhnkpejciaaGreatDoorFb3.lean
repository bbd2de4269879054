/- Part 3 of a proof: Drw1, Drw2, Drw3, Lcg2, Drw4, Drw5, Drw6, Drw7, Drw8, CpyM, Cpy, SriM, CmpI, SortDef, SrtM, SrtS, SrtI1, SrtI2, PvG1M, MsgDef, Hd, PvG1, PvG2, Read, Text, TextS -/
import Derived.Test.YtdggnhnkpejciaaGreatDoorFb2
import Derived.ProofKit
import Derived.Deep.RegionHeld3
import Derived.Lib.ConvBytes
namespace Go.Proofs.YtdggnhnkpejciaaGreatDoor
open Go.RowKit
set_option maxHeartbeats 4000000
set_option maxRecDepth 100000
open List
section
variable {T:World -> Prop} {hT:Low ngl T}
attribute [local irreducible] po mw pt
def andR (a b:Int):Int:=IntKind.i64.wrap (BitVec.ofInt 64 a &&& BitVec.ofInt 64 b).toNat
def xorR (a b:Int):Int:=IntKind.i64.wrap (BitVec.ofInt 64 a ^^^ BitVec.ofInt 64 b).toNat
theorem wrap_okD (x:Int):i64ok (IntKind.i64.wrap x):=by
 rw [IntKind.wrap_i64]; unfold i64ok; omega
theorem zcW {m:Nat} (a:Int) (hm:m <= 1073741823):0 <= andR a m /\ andR a m <= m:=by
 unfold andR;rw [BitVec.toNat_and]
 have h1:(BitVec.ofInt 64 (m:Int)).toNat = m:=by
  rw [BitVec.toNat_ofInt]; omega
 have h2:=Nat.and_le_right (n:=(BitVec.ofInt 64 a).toNat) (m:=(BitVec.ofInt 64 (m:Int)).toNat);rw [h1] at h2;rw [h1,IntKind.wrap_i64];omega
def lcM (h:Int):Int:=IntKind.i64.wrap (IntKind.i64.wrap (h * 6364136223846793005) + 1442695040888963407)
def lcX (h:Int):Int:=andR (xorR (h.fdiv (2 ^ 33)) (h.fdiv (2 ^ 45))) 255
theorem zdP (h:Int):i64ok (lcM h):=wrap_okD _
theorem lcX_bd (h:Int):0 <= lcX h /\ lcX h <= 255:=zcW (m:=255) _ (by decide)
def ByR (b:L8) (i:Nat) (h:Int) (nt:Nat) (live:List Nat) (x:PV) (bx:LP PC) (n:Nat) (l:List Nat):Prop :=
 ∃ (r:Int) (i':Nat),bx = [cuC b i' (lcM h)] /\ x = .d (pI r) /\ 0 <= r /\ r <= 255 /\ i' <= b.length /\ (i < b.length -> i' = i + 1) /\ (i = b.length -> i' = i /\ r = lcX (lcM h)) /\ n = nt /\ l = live
theorem byte_g {b:L8} (hb:b.length <= 2147483647) {i:Nat} (hi:i <= b.length) (h:Int) (nt:Nat) (live:List Nat) :
  FnG (env T hT) 43 [.ref 0 0] [cuC b i h] nt live (ByR b i h nt live):=by
 refine zaY (zag zfp) (by show 1 <= 58; decide) fun B hB => ?_
 unfold m_s_l01Byte;refine mP ?_;refine mO ?_;(iterate 4 refine mS ?_);refine zaS (cs:=cuC b i h) (v:=.d (pI h)) rfl rfl rfl (Nat.le_refl 3) rfl ?_;refine po_q rfl rfl ?_;refine po_q rfl rfl ?_;(iterate 2 refine mS ?_);refine zaP (p:=0) (o':=2) (cs:=[pI (lcM h)]) (z:=cuC b i h) rfl rfl rfl ⟨rfl,Nat.le_refl 3⟩ rfl ?_;refine zaa ?_;refine mO ?_;(iterate 3 refine mS ?_);refine zaS (cs:=cuC b i (lcM h)) (v:=.d (pI (lcM h))) rfl rfl rfl (Nat.le_refl 3) rfl ?_;refine po_q rfl rfl ?_;(iterate 3 refine mS ?_);refine zaS (cs:=cuC b i (lcM h)) (v:=.d (pI (lcM h))) rfl rfl rfl (Nat.le_refl 3) rfl ?_;refine po_q rfl rfl ?_;refine po_q rfl rfl ?_;refine po_q (v:=.d (pI (lcX (lcM h)))) rfl rfl ?_;refine mN ?_;obtain ⟨hx0,hx1⟩:=lcX_bd (lcM h);generalize hz:lcX (lcM h) = z at hx0 hx1;refine mM ?_;(iterate 3 refine mS ?_);refine zaS (cs:=cuC b i (lcM h)) (v:=.d (pI i)) rfl rfl rfl (by show 1 + 1 <= 3; decide) rfl ?_
 (iterate 3 refine mS ?_);refine zaS (cs:=cuC b i (lcM h)) (v:=.d (.sl 0 (pcB b))) rfl rfl rfl (by show 0 + 1 <= 3; decide) rfl ?_;refine zaH (n:=b.length) rfl rfl (zaN b) ?_;by_cases hlt:i < b.length
 ·refine zal rfl rfl (decide_eq_true (by omega)) ?_
  refine zaa ?_;have hg:b[i]? = some b[i]:=getElem?_eq_getElem hlt;have hbt:=(b[i]).toNat_lt;refine mwT ?_;refine mO ?_;(iterate 4 refine mS ?_);refine zaS (cs:=cuC b i (lcM h)) (v:=.d (.sl 0 (pcB b))) rfl rfl rfl (by show 0 + 1 <= 3; decide) rfl ?_;(iterate 3 refine mS ?_);refine zaS (cs:=cuC b i (lcM h)) (v:=.d (pI i)) rfl rfl rfl (by show 1 + 1 <= 3; decide) rfl ?_;refine za3 (es:=pcB b) (e:=[.v (.int .u8 (b[i]).toNat)]) rfl rfl rfl ⟨by omega,by rw [Int.toNat_natCast]; exact zeV hg⟩ rfl ?_;refine mS ?_;refine zb0 (n:=((b[i]).toNat:Int)) rfl rfl (by rw [IntKind.wrap_i64]; omega) ?_;refine zat (n:=z + ((b[i]).toNat:Int)) rfl rfl rfl rfl (by omega) ?_;refine po_q (v:=.d (pI (andR (z + ((b[i]).toNat:Int)) 255))) rfl rfl ?_;refine mN ?_;obtain ⟨hw0,hw1⟩:=zcW (m:=255) (z + ((b[i]).toNat:Int)) (by decide);refine zae ?_;(iterate 4 refine mS ?_);refine zaS (cs:=cuC b i (lcM h)) (v:=.d (pI i)) rfl rfl rfl (by show 1 + 1 <= 3; decide) rfl ?_
  refine zat (n:=((i + 1:Nat):Int)) rfl rfl rfl (by omega) (by omega) ?_;(iterate 2 refine mS ?_);refine zaP (p:=0) (o':=1) (cs:=[pI ((i + 1:Nat):Int)]) (z:=cuC b i (lcM h)) rfl rfl rfl ⟨rfl,by show 1 + 1 <= 3; decide⟩ rfl ?_;refine zaa ?_;refine mP ?_;exact zah ⟨.inr rfl,[.d (pI (andR (z + ((b[i]).toNat:Int)) 255))],rfl,_,i + 1,rfl,rfl,hw0,hw1,hlt,fun _ => rfl,fun he => absurd he (by omega),rfl,rfl⟩
 ·refine zas rfl rfl (decide_eq_false (by omega)) ?_
  refine zaa ?_;refine mwF ?_;refine zaj ?_;refine mP ?_;exact zah ⟨.inr rfl,[.d (pI z)],rfl,z,i,rfl,rfl,hx0,hx1,hi,fun h => absurd h hlt,fun _ => ⟨rfl,hz.symm⟩,rfl,rfl⟩
theorem byte_drw {b:L8} (hb:b.length <= 2147483647):Drw (env T hT) b 43 [] (QN 0 255):=by
 rintro c nt live ⟨i,h,hi,hh,rfl⟩ hn;refine (byte_g hb hi h nt live).mono ?_;rintro x bx n l ⟨r,i',rfl,rfl,h0,h1,hi',_,_,rfl,rfl⟩;exact ⟨_,[],rfl,trivial,cuC_lw ..,⟨i',_,hi',zdP h,rfl⟩,r,rfl,h0,h1,NR.refl _ _⟩
section
variable {E:Env} {K:St -> Prop} {tm:Nat -> PV} {bx:LP PC} {nt d:Nat} {live:List Nat} {r:List MOpr} {g:Option (Nat × Bool)} {c:List X} {x y:X}
theorem po_rem {a b n:Int} (hg:gd g tm = some true) (hx:ev tm x = .d (pI a)) (hy:ev tm y = .d (pI b)) (hb:b ≠ 0) (hn:a.tmod b = n) (h:po E r K ⟨up d (.d (pI n)) tm,bx,nt,live⟩):po E (⟨some d,.bin .rem false x y,g,c⟩ :: r) K ⟨tm,bx,nt,live⟩:=by
 refine po_q hg ?_ h;subst hn
 have e:binV .rem false (.int .i64 a) (.int .i64 b) = some (.int .i64 (a.tmod b)):=by
  show (if IntKind.i64 = IntKind.i64 then (if b = 0 then none else some (Value.int .i64 (a.tmod b))) else none) = _;rw [if_pos rfl,if_neg hb]
 simp only [qf,hx,hy,pI,e,Option.map_some]
theorem zf6 {a b:Int} (hg:gd g tm = some true) (hx:ev tm x = .d (pI a)) (hy:ev tm y = .d (pI b)) (ha:0 <= a) (hb:0 < b) (h:∀ n,n = a.tmod b -> 0 <= n -> n < b -> po E r K ⟨up d (.d (pI n)) tm,bx,nt,live⟩):po E (⟨some d,.bin .rem false x y,g,c⟩ :: r) K ⟨tm,bx,nt,live⟩ :=
 po_rem hg hx hy (by omega) rfl (h _ rfl (Int.tmod_nonneg b ha) (Int.tmod_lt_of_pos a hb))
end
def BlR (b:L8) (i:Nat) (h m:Int) (nt:Nat) (live:List Nat) (x:PV) (bx:LP PC) (n:Nat) (l:List Nat):Prop :=
 ∃ (r:Int) (i':Nat),bx = [cuC b i' (lcM h)] /\ x = .d (pI r) /\ 0 <= r /\ r < m /\ i' <= b.length /\ (i < b.length -> i' = i + 1) /\ (i = b.length -> i' = i /\ r = (lcX (lcM h)).tmod m) /\ n = nt /\ l = live
theorem below_g {b:L8} (hb:b.length <= 2147483647) {i:Nat} (hi:i <= b.length) (h:Int) {m:Int} (hm:1 <= m /\ m <= 256) (nt:Nat) (live:List Nat) :
  FnG (env T hT) 25 [.ref 0 0,.d (pI m)] [cuC b i h] nt live (BlR b i h m nt live):=by
 refine zaY (zag zcE) (by show 2 <= 37; decide) fun B hB => ?_
 unfold m_s_l01Below;refine mP ?_;refine mM ?_;refine mS ?_;refine zas rfl rfl (decide_eq_false (by omega)) ?_;refine zaa ?_;refine mwF ?_;refine zaj ?_;refine mM ?_;refine mS ?_;refine zal rfl rfl (decide_eq_true (by omega)) ?_;refine zaa ?_;refine mwT ?_;refine mQ ?_;refine po_g rfl (byte_g (T:=T) (hT:=hT) hb hi h nt live) ?_;rintro x bx n l ⟨r,i',rfl,rfl,h0,h1,hi',e1,e2,rfl,rfl⟩;refine mS ?_;refine zf6 rfl rfl rfl h0 (by omega) fun q hq q0 q1 => ?_
 refine mN ?_;exact zah ⟨.inr rfl,[.d (pI q)],rfl,q,i',rfl,rfl,q0,q1,hi',e1,fun he => ⟨(e2 he).1,by rw [hq,(e2 he).2]⟩,rfl,rfl⟩
theorem zaR {b:L8} (hb:b.length <= 2147483647) (m:Int):Drw (env T hT) b 25 [.d (pI m)] (QN 0 (max (m - 1) 0)):=by
 rintro c nt live hc hn;have hB:=byte_drw (T:=T) (hT:=hT) hb;refine zaY (R:=fun x bx n l => ∃ c' rest,bx = c' :: rest /\ x.lw 0 /\ lwL 0 c' /\ Cu b c' /\ QN 0 (max (m - 1) 0) nt live x n l) (zag zcE) (by show 2 <= 37; decide) fun B hB' => ?_
 unfold m_s_l01Below;refine mP ?_;refine mM ?_;refine mS ?_;by_cases hm0:m <= 0
 ·refine zal rfl rfl (decide_eq_true (by omega)) ?_
  refine zaa ?_;refine mwT ?_;refine mP ?_;exact zah ⟨.inr rfl,[.d (pI 0)],rfl,c,[],rfl,trivial,hc.lw,hc,0,rfl,by omega,by omega,NR.refl _ _⟩
 refine zas rfl rfl (decide_eq_false (by omega)) ?_;refine zaa ?_;refine mwF ?_;refine zaj ?_;refine mM ?_;refine mS ?_;by_cases hm1:m <= 256
 ·refine zal rfl rfl (decide_eq_true (by omega)) ?_
  refine zaa ?_;refine mwT ?_;refine mQ ?_;refine po_g rfl (hB.use trivial hc hn (p:=0) rfl) ?_;rintro x bx n l ⟨c',rfl,hc',r,rfl,h0,h1,hN⟩;refine mS ?_;refine zf6 rfl rfl rfl h0 (by omega) fun q hq q0 q1 => ?_
  refine mN ?_;exact zah ⟨.inr rfl,[.d (pI q)],rfl,c',[],rfl,trivial,hc'.lw,hc',q,rfl,q0,by omega,hN⟩
 refine zas rfl rfl (decide_eq_false (by omega)) ?_;refine zaa ?_;refine mwF ?_;refine zaj ?_;refine mQ ?_;refine po_g rfl (hB.use trivial hc hn (p:=0) rfl) ?_;rintro x bx n1 l1 ⟨c1,rfl,hc1,r1,rfl,h10,h11,hN1⟩;refine mN ?_;refine mQ ?_;refine po_g rfl (hB.use trivial hc1 (by have:=hN1.le; omega) (p:=0) rfl) ?_;rintro x bx n2 l2 ⟨c2,rfl,hc2,r2,rfl,h20,h21,hN2⟩;refine mN ?_;refine mQ ?_;refine po_g rfl (hB.use trivial hc2 (by have:=hN1.le; have:=hN2.le; omega) (p:=0) rfl) ?_;rintro x bx n3 l3 ⟨c3,rfl,hc3,r3,rfl,h30,h31,hN3⟩;refine mN ?_;refine mQ ?_;refine po_g rfl (hB.use trivial hc3 (by have:=hN1.le; have:=hN2.le; have:=hN3.le; omega) (p:=0) rfl) ?_;rintro x bx n4 l4 ⟨c4,rfl,hc4,r4,rfl,h40,h41,hN4⟩;refine mN ?_;refine mQ ?_;refine zdK (n:=r1 * 16777216) rfl rfl rfl rfl (by omega) ?_;refine mS ?_;refine zdK (n:=r2 * 65536) rfl rfl rfl rfl (by omega) ?_;refine zat (n:=r1 * 16777216 + r2 * 65536) rfl rfl rfl rfl (by omega) ?_
 refine mS ?_;refine zdK (n:=r3 * 256) rfl rfl rfl rfl (by omega) ?_;refine zat (n:=r1 * 16777216 + r2 * 65536 + r3 * 256) rfl rfl rfl rfl (by omega) ?_;refine mS ?_;refine zat (n:=r1 * 16777216 + r2 * 65536 + r3 * 256 + r4) rfl rfl rfl rfl (by omega) ?_;refine mS ?_;refine zf6 rfl rfl rfl (by omega) (by omega) fun q hq q0 q1 => ?_
 refine mN ?_;exact zah ⟨.inr rfl,[.d (pI q)],rfl,c4,[],rfl,trivial,hc4.lw,hc4,q,rfl,q0,by omega,((hN1.pass hN2).pass hN3).pass hN4⟩
theorem zdo {b:L8} (hb:b.length <= 2147483647) (m:Int):Drw (env T hT) b 44 [.d (pI m)] QB:=by
 rintro c nt live hc hn;refine zaY (R:=fun x bx n l => ∃ c' rest,bx = c' :: rest /\ x.lw 0 /\ lwL 0 c' /\ Cu b c' /\ QB nt live x n l) (zag zfq) (by show 2 <= 9; decide) fun B hB' => ?_
 unfold m_s_l01Once;refine mP ?_;refine mO ?_;(iterate 2 refine mS ?_);refine po_g rfl ((zaR (T:=T) (hT:=hT) hb m).use ⟨trivial,trivial⟩ hc hn (p:=0) rfl) ?_;rintro x bx n l ⟨c',rfl,hc',r,rfl,h0,h1,hN⟩;refine po_b rfl rfl (fun q hq => ?_);refine mN ?_;exact zah ⟨.inr rfl,[.d (pB q)],rfl,c',[],rfl,trivial,hc'.lw,hc',q,rfl,hN⟩
def allS (p:L8 -> Bool):LP PC -> Bool
 | [] => true
 | [.v (.string s)] :: r => p s.data.toList && allS p r
 | _ :: _ => false
def allI (p:Int -> Bool):LP PC -> Bool
 | [] => true
 | [.v (.int .i64 s)] :: r => p s && allI p r
 | _ :: _ => false
theorem zf7 {p:L8 -> Bool}:∀ {es:LP PC} {k:Nat},allS p es = true -> (hk:k < es.length) -> ∃ s,es[k] = [pS s] /\ p s = true
 | [.v (.string s)] :: r,0,h,_ => by
  simp only [allS,Bool.and_eq_true] at h
  exact ⟨s.data.toList,by simp [pS],h.1⟩
 | [.v (.string s)] :: r,k + 1,h,hk => by
  simp only [allS,Bool.and_eq_true] at h;exact zf7 (es:=r) (k:=k) h.2 (by simpa using hk)
theorem allI_at {p:Int -> Bool}:∀ {es:LP PC} {k:Nat},allI p es = true -> (hk:k < es.length) -> ∃ s,es[k] = [pI s] /\ p s = true
 | [.v (.int .i64 s)] :: r,0,h,_ => by
  simp only [allI,Bool.and_eq_true] at h
  exact ⟨s,rfl,h.1⟩
 | [.v (.int .i64 s)] :: r,k + 1,h,hk => by
  simp only [allI,Bool.and_eq_true] at h;exact allI_at (es:=r) (k:=k) h.2 (by simpa using hk)
theorem zdQ {p:L8 -> Bool}:∀ {es:LP PC},allS p es = true -> lwLL 0 es
 | [],_ => by simp only [lwLL]
 | [.v (.string s)] :: r,h => by
  simp only [allS,Bool.and_eq_true] at h;simp only [lwLL,lwL,PC.lw,and_true,true_and]; exact zdQ h.2
theorem zcp {p:Int -> Bool}:∀ {es:LP PC},allI p es = true -> lwLL 0 es
 | [],_ => by simp only [lwLL]
 | [.v (.int .i64 s)] :: r,h => by
  simp only [allI,Bool.and_eq_true] at h;simp only [lwLL,lwL,PC.lw,and_true,true_and]; exact zcp h.2
theorem zdp {b:L8} (hb:b.length <= 2147483647) (p:L8 -> Bool) {t:Nat} {es:LP PC} (hp:allS p es = true) (h0:0 < es.length):Drw (env T hT) b 49 [.d (.sl t es)] (QT fun s => p s = true):=by
 rintro c nt live hc hn;refine zaY (R:=fun x bx n l => ∃ c' rest,bx = c' :: rest /\ x.lw 0 /\ lwL 0 c' /\ Cu b c' /\ QT (fun s => p s = true) nt live x n l) (zag zfr) (by show 2 <= 12; decide) fun B hB' => ?_
 unfold m_s_l01Pick;refine mP ?_;refine mO ?_;(iterate 3 refine mS ?_);refine zaH (n:=es.length) rfl rfl rfl ?_;refine po_g rfl ((zaR (T:=T) (hT:=hT) hb (es.length:Int)).use ⟨trivial,trivial⟩ hc hn (p:=0) rfl) ?_;rintro x bx n l ⟨c',rfl,hc',r,rfl,r0,r1,hN⟩;obtain ⟨k,rfl⟩:∃ k:Nat,r = k:=⟨r.toNat,by omega⟩;have hk:k < es.length:=by omega
 obtain ⟨s,hs,hps⟩:=zf7 hp hk;refine za3 (es:=es) (e:=[pS s]) rfl rfl rfl ⟨r0,by rw [Int.toNat_natCast,getElem?_eq_getElem hk,hs]⟩ rfl ?_;refine mN ?_;exact zah ⟨.inr rfl,[.d (pS s)],rfl,c',[],rfl,trivial,hc'.lw,hc',s,rfl,hps,hN⟩
def QM (p:Int -> Bool):Nat -> List Nat -> PV -> Nat -> List Nat -> Prop:=fun nt live x n l => ∃ r:Int,x = .d (pI r) /\ p r = true /\ NR nt live n l []
theorem zbF {b:L8} (hb:b.length <= 2147483647) (p:Int -> Bool) {t:Nat} {es:LP PC} (hp:allI p es = true) (h0:0 < es.length):Drw (env T hT) b 30 [.d (.sl t es)] (QM p):=by
 rintro c nt live hc hn;refine zaY (R:=fun x bx n l => ∃ c' rest,bx = c' :: rest /\ x.lw 0 /\ lwL 0 c' /\ Cu b c' /\ QM p nt live x n l) (zag zdM) (by show 2 <= 12; decide) fun B hB' => ?_
 unfold m_s_l01PickInt;refine mP ?_;refine mO ?_;(iterate 3 refine mS ?_);refine zaH (n:=es.length) rfl rfl rfl ?_;refine po_g rfl ((zaR (T:=T) (hT:=hT) hb (es.length:Int)).use ⟨trivial,trivial⟩ hc hn (p:=0) rfl) ?_;rintro x bx n l ⟨c',rfl,hc',r,rfl,r0,r1,hN⟩;obtain ⟨k,rfl⟩:∃ k:Nat,r = k:=⟨r.toNat,by omega⟩;have hk:k < es.length:=by omega
 obtain ⟨s,hs,hps⟩:=allI_at hp hk;refine za3 (es:=es) (e:=[pI s]) rfl rfl rfl ⟨r0,by rw [Int.toNat_natCast,getElem?_eq_getElem hk,hs]⟩ rfl ?_;refine mN ?_;exact zah ⟨.inr rfl,[.d (pI s)],rfl,c',[],rfl,trivial,hc'.lw,hc',s,rfl,hps,hN⟩
def NewI (b:L8) (m:Nat) (st:St):Prop:=∃ (i:Nat) (h:Int),i <= b.length /\ m = b.length - i /\ i64ok h /\ has st.tm [(0,.d (.sl 0 (pcB b))),(3,.d (pI h)),(4,.d (pI i))] /\ st.bx = []
theorem new_g {b:L8} (hb:b.length <= 2147483647) (nt:Nat) (live:List Nat):FnG (env T hT) 23 [.d (.sl 0 (pcB b))] [] nt live (fun x bx n l => ∃ c,x = .ref 0 0 /\ bx = [c] /\ Cu b c /\ n = nt /\ l = live):=by
 refine zaY (zag zf4) (by show 1 <= 32; decide) fun B hB => ?_
 unfold m_s_l01New;refine mP ?_;refine mQ ?_;refine zaH (n:=b.length) rfl rfl (zaN b) ?_;refine zat (n:=421421 + (b.length:Int)) rfl rfl rfl rfl (by omega) ?_;refine mN ?_;refine zaC (fun st => ∃ h,i64ok h /\ has st.tm [(0,.d (.sl 0 (pcB b))),(3,.d (pI h))] /\ st.bx = [] /\ st.nt = nt /\ st.live = live) ?_ ?_
 ·refine mP ?_
  refine zad ?_;refine zav (fun m st => NewI b m st /\ st.nt = nt /\ st.live = live) b.length ⟨⟨0,421421 + (b.length:Int),Nat.zero_le _,rfl,by unfold i64ok; omega,⟨rfl,rfl,rfl,trivial⟩,rfl⟩,rfl,rfl⟩ ?_;rintro m tm bx n l ⟨⟨i,h,hi,rfl,hh,ht,hbx⟩,hn,hl⟩;obtain ⟨tm0,rfl⟩:=zaf ht;simp only at hbx hn hl; subst hbx; subst hn; subst hl
  clear ht;refine zak (zaC (fun st => has st.tm [(0,.d (.sl 0 (pcB b))),(3,.d (pI h)),(4,.d (pI i)),(15,.d (pB (decide (i < b.length /\ i < 4000))))] /\ st.bx = [] /\ st.nt = n /\ st.live = l) ?_ ?_)
  ·refine zae ?_
   (iterate 2 refine mS ?_);refine zaH (n:=b.length) rfl rfl (zaN b) ?_;by_cases c1:i < b.length
   ·refine zal rfl rfl (decide_eq_true (by omega)) ?_
    (iterate 2 refine mS ?_);by_cases c2:i < 4000
    ·refine zal rfl rfl (decide_eq_true (by omega)) ?_
     refine mN ?_;exact ⟨⟨rfl,rfl,rfl,by rw [decide_eq_true ⟨c1,c2⟩]; rfl,trivial⟩,rfl,rfl,rfl⟩
    ·refine zas rfl rfl (decide_eq_false (by omega)) ?_
     refine mN ?_;exact ⟨⟨rfl,rfl,rfl,by rw [decide_eq_false (by omega)]; rfl,trivial⟩,rfl,rfl,rfl⟩
   ·refine zas rfl rfl (decide_eq_false (by omega)) ?_
    refine mS ?_;refine mZ ?_;refine mN ?_;exact ⟨⟨rfl,rfl,rfl,by rw [decide_eq_false (by omega)]; rfl,trivial⟩,rfl,rfl,rfl⟩
  rintro tm bx n1 l1 ⟨ht,hbx,hn,hl⟩;obtain ⟨tm1,rfl⟩:=zaf ht;simp only at hbx hn hl; subst hbx; subst hn; subst hl
  clear ht tm0;refine zep (p:=i < b.length /\ i < 4000) rfl (fun hc => ?_) (fun hc => ?_)
  ·have hg:b[i]? = some b[i]:=getElem?_eq_getElem hc.1
   have hbt:=(b[i]).toNat_lt;refine zaj ?_;refine zak (zad (zae ?_));refine mS ?_;refine po_q rfl rfl ?_;(iterate 2 refine mS ?_);refine za3 (es:=pcB b) (e:=[.v (.int .u8 (b[i]).toNat)]) rfl rfl rfl ⟨by omega,by rw [Int.toNat_natCast]; exact zeV hg⟩ rfl ?_;refine mS ?_;refine zb0 (n:=((b[i]).toNat:Int)) rfl rfl (by rw [IntKind.wrap_i64]; omega) ?_;refine po_q rfl rfl ?_;refine po_q rfl rfl ?_;refine po_q (v:=.d (pI (andR (IntKind.i64.wrap (IntKind.i64.wrap (IntKind.i64.wrap (h * 131) + ((b[i]).toNat:Int)) + 7)) 1073741823))) rfl rfl ?_;obtain ⟨hw0,hw1⟩:=zcW (m:=1073741823) (IntKind.i64.wrap (IntKind.i64.wrap (IntKind.i64.wrap (h * 131) + ((b[i]).toNat:Int)) + 7)) (by decide);generalize andR (IntKind.i64.wrap (IntKind.i64.wrap (IntKind.i64.wrap (h * 131) + ((b[i]).toNat:Int)) + 7)) 1073741823 = h2 at hw0 hw1;refine mN ?_;refine zae ?_;refine mS ?_;refine zat (n:=((i + 1:Nat):Int)) rfl rfl rfl (by omega) (by omega) ?_
   refine mN ?_;exact ⟨_,by show b.length - (i + 1) < b.length - i; omega,⟨i + 1,h2,by omega,rfl,by unfold i64ok; omega,⟨rfl,rfl,rfl,trivial⟩,rfl⟩,rfl,rfl⟩
  ·refine zaA ?_
   exact ⟨h,hh,⟨rfl,rfl,trivial⟩,rfl,rfl,rfl⟩
 rintro tm bx n l ⟨h,hh,ht,hbx,hn,hl⟩;obtain ⟨tm0,rfl⟩:=zaf ht;simp only at hbx hn hl; subst hbx; subst hn; subst hl
 clear ht;refine mO ?_;(iterate 2 refine mS ?_);refine po_s (v:=.ag (cuC b 0 h)) rfl rfl rfl ?_;refine zbb (cs:=cuC b 0 h) rfl ?_;refine mN ?_;exact zah ⟨.inr rfl,[.ref 0 0],rfl,cuC b 0 h,rfl,rfl,⟨0,h,Nat.zero_le _,hh,rfl⟩,rfl,rfl⟩
theorem NR.up {nt n:Nat} {live l cs:_} (h:NR nt live n l cs):NR nt live (n + 1) (n :: l) cs:=h.mono (Nat.le_succ _) fun _t ht _ _ => mem_cons_of_mem _ ht
theorem NR.n2 {nt n:Nat} {live l cs:_} (h:NR nt live n l cs) (h2:2 <= nt):2 <= n:=Nat.le_trans h2 h.le
def SmI (b:L8) (nt:Nat) (live:List Nat) (m k:Nat) (st:St):Prop:=∃ (i:Nat) (s:L8) (c:List PC),i <= m /\ k = m - i /\ s.length <= 4 * i /\ Cu b c /\ has st.tm [(0,.ref 0 0),(3,.d (pS s)),(4,.d (pI m)),(5,.d (pI i))] /\ st.bx = [c] /\ NR nt live st.nt st.live []
theorem some_drw {b:L8} (hb:b.length <= 2147483647):Drw (env T hT) b 89 [] (QT fun s => s.length <= 16):=by
 rintro c nt live hc hn;refine zaY (R:=fun x bx n l => ∃ c' rest,bx = c' :: rest /\ x.lw 0 /\ lwL 0 c' /\ Cu b c' /\ QT (fun s => s.length <= 16) nt live x n l) (zag zft) (by show 1 <= 19; decide) fun B hB' => ?_
 unfold m_s_l01Some;refine mP ?_;refine mP ?_;refine mQ ?_;refine po_g rfl ((zaR (T:=T) (hT:=hT) hb 5).use ⟨trivial,trivial⟩ hc hn (p:=0) rfl) ?_;rintro x bx n1 l1 ⟨c1,rfl,hc1,r,rfl,r0,r1,hN⟩;obtain ⟨m,rfl⟩:∃ m:Nat,r = m:=⟨r.toNat,by omega⟩;have hm:m <= 4:=by omega
 refine mN ?_;refine zaC (fun st => ∃ (s:L8) (c:List PC),s.length <= 16 /\ Cu b c /\ has st.tm [(3,.d (pS s))] /\ st.bx = [c] /\ NR nt live st.nt st.live []) ?_ ?_
 ·refine mP ?_
  refine zad ?_;refine zav (SmI b nt live m) m ⟨0,[],c1,Nat.zero_le _,rfl,lR,hc1,⟨rfl,rfl,rfl,rfl,trivial⟩,rfl,hN⟩ ?_;rintro k tm bx n l ⟨i,s,c2,hi,rfl,hs,hc2,ht,hbx,hN2⟩;obtain ⟨tm0,rfl⟩:=zaf ht;simp only at hbx hN2; subst hbx
  clear ht;refine mM ?_;(iterate 2 refine mS ?_);refine po_b rfl rfl (fun q hq => ?_);refine zaa ?_;refine zbt (p:=(i:Int) < m) hq rfl (fun h _ => ?_) (fun h _ => ?_)
  ·refine zaj ?_
   refine zak (zad (zae ?_));(iterate 2 refine mS ?_);refine zao rfl ?_;refine po_g rfl ((zdp (T:=T) (hT:=hT) hb (fun s => decide (s.length <= 4)) rfl (by show 0 < 13; decide)).use ⟨by simp only [PV.lw,PC.lw]; exact zdQ (p:=fun s => decide (s.length <= 4)) rfl,trivial⟩ hc2 (by have:=hN2.n2 hn; omega) (p:=0) rfl) ?_;rintro x bx n3 l3 ⟨c3,rfl,hc3,q2,rfl,hq2,hN3⟩;have hq2:q2.length <= 4:=of_decide_eq_true hq2;refine zau rfl rfl rfl (by omega) ?_;refine mN ?_;refine zae ?_;refine mS ?_;refine zat (n:=((i + 1:Nat):Int)) rfl rfl rfl (by omega) (by omega) ?_;refine mN ?_;exact ⟨_,by show m - (i + 1) < m - i; omega,i + 1,s ++ q2,c3,by omega,rfl,by rw [length_append]; omega,hc3,⟨rfl,rfl,rfl,rfl,trivial⟩,rfl,hN2.up.pass hN3⟩
  ·refine zaA ?_
   exact ⟨s,c2,by omega,hc2,⟨rfl,trivial⟩,rfl,hN2⟩
 rintro tm bx n l ⟨s,c2,hs,hc2,ht,hbx,hN2⟩;obtain ⟨tm0,rfl⟩:=zaf ht;simp only at hbx hN2; subst hbx
 clear ht;refine mP ?_;exact zah ⟨.inr rfl,[.d (pS s)],rfl,c2,[],rfl,trivial,hc2.lw,hc2,s,rfl,hs,hN2⟩
end
section
def lcI:Nat -> Int -> Int
 | 0,h => h
 | n + 1,h => lcI n (lcM h)
def lcU (h:Int):Nat:=(h % 18446744073709551616).toNat
theorem wrap_mod (z:Int):IntKind.i64.wrap z % 18446744073709551616 = z % 18446744073709551616:=by
 rw [IntKind.wrap_i64]; omega
theorem lcM_mod (h:Int):lcM h % 18446744073709551616 = (h * 6364136223846793005 + 1442695040888963407) % 18446744073709551616:=by
 unfold lcM;rw [wrap_mod,Int.add_emod,wrap_mod,<- Int.add_emod]
theorem lcU_M (h:Int):lcU (lcM h) = lgN (lcU h) % 18446744073709551616:=by
 unfold lcU;rw [lcM_mod,Int.add_emod,Int.mul_emod,<- Int.add_emod];have h0:0 <= h % 18446744073709551616:=Int.emod_nonneg _ (by decide);obtain ⟨u,hu⟩:∃ u:Nat,h % 18446744073709551616 = u:=⟨(h % 18446744073709551616).toNat,by omega⟩;rw [hu,Int.toNat_natCast];unfold lgN lgA lgC
 have e:(((u:Int) * (6364136223846793005 % 18446744073709551616) + 1442695040888963407) % 18446744073709551616) = ((6364136223846793005 * u + 1442695040888963407:Nat):Int) % 18446744073709551616:=by
  rw [show (6364136223846793005:Int) % 18446744073709551616 = 6364136223846793005 from rfl]
  congr 1
  omega
 rw [e];generalize 6364136223846793005 * u + 1442695040888963407 = z;omega
theorem zeW (M:Nat):∀ (j x:Nat),lgI j (x % M) % M = lgI j x % M
 | 0,x => Nat.mod_mod x M
 | j + 1,x => by
  have e:lgN (x % M) % M = lgN x % M:=by
   unfold lgN;rw [Nat.add_mod,Nat.mul_mod,Nat.mod_mod,<- Nat.mul_mod,<- Nat.add_mod]
  have h1:=zeW M j (lgN (x % M));have h2:=zeW M j (lgN x);rw [e] at h1;exact h1.symm.trans h2
theorem lgI_mod (j x:Nat):lgI j (x % 18446744073709551616) % 18446744073709551616 = lgI j x % 18446744073709551616:=zeW _ j x
theorem lcU_I:∀ (j:Nat) (h:Int),lcU (lcI j h) = lgI j (lcU h) % 18446744073709551616
 | 0,h => by simp only [lcI,lgI]; unfold lcU; omega
 | j + 1,h => by
  have h1:=lcU_I j (lcM h);rw [lcU_M,lgI_mod] at h1;exact h1
theorem lcI_ok:∀ (j:Nat) {h:Int},i64ok h -> i64ok (lcI j h)
 | 0,_,h => h
 | j + 1,_,_ => lcI_ok j (zdP _)
theorem lc_reach {h:Int} (hh:i64ok h):∃ j,j <= 18446744073709551616 /\ lcI j h = 9:=by
 obtain ⟨j,hj,he⟩:=lg_reach (lcU h) 9 64;refine ⟨j,Nat.le_of_lt hj,?_⟩;have h1:=lcU_I j h;have h2:=lcI_ok j hh;have he:lgI j (lcU h) % 18446744073709551616 = 9:=he;rw [he] at h1;unfold lcU at h1;unfold i64ok at h2;omega
def Dfl (h:Int):Prop:=3 <= (lcX (lcM h)).tmod 5
def Prg:Nat -> Int -> Prop
 | 0,h => Dfl h
 | n + 1,h => Dfl h \/ (Prg n (lcM h) /\ Prg n (lcM (lcM h)) /\ Prg n (lcM (lcM (lcM h))))
theorem Prg.mono:∀ {n:Nat} {h:Int},Prg n h -> Prg (n + 1) h
 | 0,_,h => .inl h
 | n + 1,_,h => by
  rcases h with h | ⟨a,b,c⟩
  ·exact .inl h
  ·exact .inr ⟨Prg.mono a,Prg.mono b,Prg.mono c⟩
theorem Prg.dfl:∀ {n:Nat} {h:Int},Dfl h -> Prg n h
 | 0,_,h => h
 | _ + 1,_,h => .inl h
theorem dfl9:Dfl 9 /\ Dfl (lcM 9) /\ Dfl (lcM (lcM 9)):=by
 unfold Dfl; decide
theorem zcg:∀ (j:Nat) (h:Int),(lcI j h = 9 \/ h = 9 \/ h = lcM 9 \/ h = lcM (lcM 9)) -> Prg j h
 | j,h,.inr (.inl e) => by subst e; exact Prg.dfl dfl9.1
 | j,h,.inr (.inr (.inl e)) => by subst e; exact Prg.dfl dfl9.2.1
 | j,h,.inr (.inr (.inr e)) => by subst e; exact Prg.dfl dfl9.2.2
 | 0,h,.inl e => by have e:h = 9:=e; subst e; exact dfl9.1
 | 1,h,.inl e => by
  have e:lcM h = 9:=e
  exact .inr ⟨zcg 0 _ (.inr (.inl e)),zcg 0 _ (.inr (.inr (.inl (by rw [e])))),zcg 0 _ (.inr (.inr (.inr (by rw [e]))))⟩
 | 2,h,.inl e => by
  have e:lcM (lcM h) = 9:=e
  exact .inr ⟨zcg 1 _ (.inl e),zcg 1 _ (.inr (.inl e)),zcg 1 _ (.inr (.inr (.inl (by rw [e]))))⟩
 | j + 3,h,.inl e => by
  have e:lcI j (lcM (lcM (lcM h))) = 9:=e;exact .inr ⟨zcg (j + 2) _ (.inl e),(zcg (j + 1) _ (.inl e)).mono,(zcg j _ (.inl e)).mono.mono⟩
theorem prg_all {h:Int} (hh:i64ok h):∃ n,n <= 18446744073709551616 /\ Prg n h:=by
 obtain ⟨j,hj,e⟩:=lc_reach hh;exact ⟨j,hj,zcg j h (.inl e)⟩
end
section
variable {T:World -> Prop} {hT:Low ngl T}
attribute [local irreducible] po mw pt
theorem zfu:∀ l:L8,byteL (pcB l) = some l
 | [] => rfl
 | x :: l => by
  have:=zfu l
  simp only [pcB,map_cons] at this ⊢;simp only [byteL,this,Option.map_some,Int.toNat_natCast,UInt8.ofNat_toNat]
theorem zdR (a b:L8):pcB (a ++ b) = pcB a ++ pcB b:=by simp [pcB]
theorem NR.byte {nt n t:Nat} {live l:List Nat} {out:L8} (h2:2 <= nt) (ht:2 <= t) (h:NR nt live n l [.sl t (pcB out)]) (x:UInt8):NR nt live (n + 1 + 1) ((n + 1) :: (n :: l).filter (· != t)) [.sl (n + 1) (pcB (out ++ [x]))]:=by
 have:=NR.app (a:=[]) (b:=[]) (ds:=[[.v (.int .u8 x.toNat)]]) h2 (.inr ht) (h.up.plain (ds:=[] ++ .sl t (pcB out) :: [] ++ [[PC.v (.int .u8 x.toNat)]].flatten) (by
  have:=h.own
  simp only [nil_append,cons_append,flatten_cons,List.flatten_nil,ownedL,Bool.and_true,PC.owned] at this ⊢;exact this) (by simp [toksL,PC.toks]))
 rw [zdR]; exact this
theorem po_slx {E:Env} {d n:Nat} {x:X} {g:Option (Nat × Bool)} {lo hi:Option X} {c:List X} {r:List MOpr} {K:St -> Prop} {tm:Nat -> PV} {bx:LP PC} {nt:Nat} {live:List Nat} {t l h:Nat} {es rs:LP PC} (hg:gd g tm = some true) (hx:ev tm x = .d (.sl t es)) (hl:bound (ev tm) 0 lo = some l) (hh:bound (ev tm) es.length hi = some h) (hle:l <= h /\ h <= es.length) (hw:∀ e ∈ es,e.length = n) (hr:(es.drop l).take (h - l) = rs)
  (k:po E r K ⟨up d (.d (.sl 0 rs)) tm,bx,nt,live⟩):po E (⟨some d,.slc n x lo hi,g,c⟩ :: r) K ⟨tm,bx,nt,live⟩:=by
 refine po_q hg ?_ k;subst hr;simp only [qf,hx,hl,hh];rw [if_pos ⟨hle.1,hle.2,hw⟩]
theorem NR.mem1 {nt n t:Nat} {live l:List Nat} {es:LP PC} (ht:2 <= t) (h:NR nt live n l [.sl t es]):t ∈ l:=(h.mem t (by rw [toksL,zcD ht]; simp)).2.2
theorem lex1 {a a' n n' K:Nat} (h:a' < a) (hn:n' <= K):a' * (K + 1) + n' < a * (K + 1) + n:=by
 have:=Nat.mul_le_mul_right (K + 1) (show a' + 1 <= a from h)
 rw [Nat.add_mul] at this; omega
theorem lex2 {D D' L i i':Nat} (h:D' < D) (hi:L - i' <= L):D' * (L + 1) + (L - i') < D * (L + 1) + (L - i):=by
 have:=Nat.mul_le_mul_right (L + 1) (show D' + 1 <= D from h)
 rw [Nat.add_mul] at this; omega
def DtxS (b:L8) (N nt:Nat) (live:List Nat) (i:Nat) (h:Int) (out:L8) (t:Nat) (st:St):Prop :=
 has st.tm [(0,.ref 0 0),(1,.d (pI N)),(5,.d (.sl t (pcB out)))] /\ st.bx = [cuC b i h] /\ NR nt live st.nt st.live [.sl t (pcB out)] /\ 2 <= t /\ i <= b.length /\ i64ok h /\ out.length <= N + 20
def DtxI (b:L8) (N K nt:Nat) (live:List Nat) (m:Nat) (st:St):Prop :=
 ∃ (i:Nat) (h:Int) (out:L8) (t n:Nat),DtxS b N nt live i h out t st /\ n <= K /\ (i = b.length -> Prg n h) /\ m = ((N - out.length) * (b.length + 1) + (b.length - i)) * (K + 1) + n
theorem zcF {b:L8} (hb:b.length <= 2147483647) (N:Nat) (hN:N <= 200):Drw (env T hT) b 24 [.d (pI N)] (QT fun s => s.length = N):=by
 rintro c nt live ⟨i0,h0,hi0,hh0,rfl⟩ hn;obtain ⟨K,hK⟩:∃ K,∀ h,i64ok h -> ∃ n,n <= K /\ Prg n h:=⟨_,fun h hh => prg_all hh⟩;have hBy:=fun (i:Nat) (hi:i <= b.length) h nt live => byte_g (T:=T) (hT:=hT) hb hi h nt live
 have hBl:=fun (i:Nat) (hi:i <= b.length) h m (hm:1 <= m /\ m <= 256) nt live => below_g (T:=T) (hT:=hT) hb hi h hm nt live
 refine zaY (R:=fun x bx n l => ∃ c' rest,bx = c' :: rest /\ x.lw 0 /\ lwL 0 c' /\ Cu b c' /\ QT (fun s => s.length = N) nt live x n l) (zag zfo) (by show 2 <= 88; decide) fun B hB' => ?_
 unfold m_s_l01Text;refine mP ?_;refine mO ?_;refine zao (es:=[]) rfl ?_;refine mN ?_;refine zaC (fun st => ∃ (i:Nat) (h:Int) (out:L8) (t:Nat),DtxS b N nt live i h out t st /\ N <= out.length) ?_ ?_
 ·refine zad ?_
  obtain ⟨n0,hn0,hp0⟩:=hK h0 hh0;refine zav (DtxI b N K nt live) _ ⟨i0,h0,[],nt,n0,⟨⟨rfl,rfl,rfl,trivial⟩,rfl,NR.lit (es:=[]) hn (NR.refl nt live),hn,hi0,hh0,Nat.zero_le _⟩,hn0,fun _ => hp0,rfl⟩ ?_;rintro m tm bx n1 l1 ⟨i,h,out,t,n,⟨ht,hbx,hNR,ht2,hi,hh,hol⟩,hnK,hpr,rfl⟩
  have fin:∀ (i':Nat) (h':Int) (out':L8) (t':Nat) (st':St),DtxS b N nt live i' h' out' t' st' -> out.length < N -> (out.length < out'.length \/ (out'.length = out.length /\ (i < b.length -> i < i') /\ (i = b.length -> i' = i /\ ∃ n',n' < n /\ Prg n' h'))) -> ∃ m',m' < ((N - out.length) * (b.length + 1) + (b.length - i)) * (K + 1) + n /\ DtxI b N K nt live m' st':=by
   intro i' h' out' t' st' hS hlt hp
   rcases hp with hp | ⟨he,hp1,hp2⟩
   ·obtain ⟨n',hn',hp'⟩:=hK h' hS.2.2.2.2.2.1
    exact ⟨_,lex1 (lex2 (by omega) (by omega)) hn',i',h',out',t',n',hS,hn',fun _ => hp',rfl⟩
   ·by_cases hil:i < b.length
    ·obtain ⟨n',hn',hp'⟩:=hK h' hS.2.2.2.2.2.1
     have:=hp1 hil
     refine ⟨_,lex1 ?_ hn',i',h',out',t',n',hS,hn',fun _ => hp',rfl⟩;rw [he]
     have:=hS.2.2.2.2.1
     omega
    ·obtain ⟨e1,n',hn',hp'⟩:=hp2 (by omega)
     refine ⟨_,?_,i',h',out',t',n',hS,by omega,fun _ => hp',rfl⟩;rw [he,e1]; omega
  have stuck:∀ r:Int,(i = b.length -> r = (lcX (lcM h)).tmod 5) -> r < 3 -> i = b.length -> ∃ n',n' < n /\ Prg n' (lcM h) /\ Prg n' (lcM (lcM h)) /\ Prg n' (lcM (lcM (lcM h))):=by
   intro r hr hr3 he;have hp:=hpr he;have hr:=hr he
   cases n with
   | zero => exact absurd (show 3 <= (lcX (lcM h)).tmod 5 from hp) (by omega)
   | succ n =>
    rcases hp with hp | hp
    ·exact absurd (show 3 <= (lcX (lcM h)).tmod 5 from hp) (by omega)
    ·exact ⟨n,Nat.lt_succ_self _,hp⟩
  obtain ⟨tm0,rfl⟩:=zaf ht;simp only at hbx hNR; subst hbx
  clear ht hpr;refine mM ?_;refine mS ?_;refine zaH (n:=out.length) rfl rfl (zaN out) ?_;refine mS ?_;refine po_b rfl rfl (fun q hq => ?_);refine zaa ?_;refine zbt (p:=(out.length:Int) < N) hq rfl (fun hlt _ => ?_) (fun hlt _ => ?_)
  rotate_left
  ·refine zaA ?_
   exact ⟨i,h,out,t,⟨⟨rfl,rfl,rfl,trivial⟩,rfl,hNR,ht2,hi,hh,hol⟩,by omega⟩
  have hlt:out.length < N:=by omega
  clear hq;refine zaj ?_;refine zad ?_;refine mQ ?_;refine po_g rfl (hBl i hi h 5 (by decide) n1 l1) ?_;rintro x bx n2 l2 ⟨r,i1,rfl,rfl,r0,r5,hi1,e1,e2,rfl,rfl⟩;refine zaa ?_;refine zad ?_;refine mO ?_;by_cases k0:r = 0
  ·refine zal rfl rfl (beq_iff_eq.2 k0) ?_
   refine mT ?_;refine zae ?_;(iterate 2 refine mS ?_);refine po_g rfl (hBy i1 hi1 (lcM h) n2 l2) ?_;rintro x bx n3 l3 ⟨v,i2,rfl,rfl,v0,v1,hi2,_,_,rfl,rfl⟩;refine zb0 (n:=((UInt8.ofNat v.toNat).toNat:Int)) rfl rfl (by rw [IntKind.wrap_u8]; simp; omega) ?_;refine zao (es:=[[.v (.int .u8 ((UInt8.ofNat v.toNat).toNat:Int))]]) rfl ?_;refine zbi (t:=t) (es:=pcB out) (ds:=[[.v (.int .u8 ((UInt8.ofNat v.toNat).toNat:Int))]]) rfl rfl (.inr (mem_cons_of_mem _ (hNR.mem1 ht2))) (by rw [zaN]; simp only [length_singleton]; omega) (fun e he => by simp only [mem_singleton] at he; subst he; rfl) (zbA out) ?_;refine mN ?_;exact fin i2 (lcM (lcM h)) (out ++ [UInt8.ofNat v.toNat]) _ _ ⟨⟨rfl,rfl,by rw [zdR]; rfl,trivial⟩,rfl,hNR.byte hn ht2 _,by have:=hNR.n2 hn; omega,hi2,zdP _,by rw [length_append,length_singleton]; omega⟩ hlt (.inl (by rw [length_append,length_singleton]; omega))
  refine zas rfl rfl (beq_eq_false_iff_ne.2 k0) ?_;refine mF ?_;refine mO ?_;by_cases k1:r = 1
  ·refine zal rfl rfl (beq_iff_eq.2 k1) ?_
   refine mT ?_;refine mQ ?_;refine po_g rfl (hBl i1 hi1 (lcM h) 9 (by decide) n2 l2) ?_;rintro x bx n3 l3 ⟨k,i2,rfl,rfl,kk0,kk1,hi2,f1,f2,rfl,rfl⟩;obtain ⟨k,rfl⟩:∃ k':Nat,k = k':=⟨k.toNat,by omega⟩;refine mN ?_;refine mQ ?_;refine po_g rfl (hBl i2 hi2 (lcM (lcM h)) 4 (by decide) n3 l3) ?_;rintro x bx n4 l4 ⟨v,i3,rfl,rfl,v0,v1,hi3,g1,g2,rfl,rfl⟩;refine zat (n:=97 + v) rfl rfl rfl rfl (by omega) ?_;refine zb0 (n:=((UInt8.ofNat (97 + v).toNat).toNat:Int)) rfl rfl (by rw [IntKind.wrap_u8]; simp; omega) ?_;refine mN ?_;refine mP ?_;refine zad ?_;refine zav (fun m st => ∃ (j:Nat) (out':L8) (t':Nat),j <= k /\ m = k - j /\ out'.length = out.length + j /\ has st.tm [(0,.ref 0 0),(1,.d (pI N)),(5,.d (.sl t' (pcB out'))),(6,.d (pI k)),(7,.d (.v (.int .u8 ((UInt8.ofNat (97 + v).toNat).toNat:Int)))),(8,.d (pI j))] /\ st.bx = [cuC b i3 (lcM (lcM (lcM h)))] /\ NR nt live st.nt st.live [.sl t' (pcB out')] /\ 2 <= t') k ⟨0,out,t,Nat.zero_le _,rfl,rfl,⟨rfl,rfl,rfl,rfl,rfl,rfl,trivial⟩,rfl,hNR,ht2⟩ ?_
   rintro m tm bx n5 l5 ⟨j,out',t',hj,rfl,hlen,ht,hbx,hNR',ht2'⟩;obtain ⟨tm1,rfl⟩:=zaf ht;simp only at hbx hNR'; subst hbx
   clear ht;refine mM ?_;(iterate 2 refine mS ?_);refine po_b rfl rfl (fun q hq => ?_);refine zaa ?_;refine zbt (p:=(j:Int) < k) hq rfl (fun hjk _ => ?_) (fun hjk _ => ?_)
   ·refine zaj ?_
    refine zak (zad (zae ?_));(iterate 2 refine mS ?_);refine zao (es:=[[.v (.int .u8 ((UInt8.ofNat (97 + v).toNat).toNat:Int))]]) rfl ?_;refine zbi (t:=t') (es:=pcB out') (ds:=[[.v (.int .u8 ((UInt8.ofNat (97 + v).toNat).toNat:Int))]]) rfl rfl (.inr (mem_cons_of_mem _ (hNR'.mem1 ht2'))) (by rw [zaN]; simp only [length_singleton]; omega) (fun e he => by simp only [mem_singleton] at he; subst he; rfl) (zbA out') ?_;refine mN ?_;refine zae ?_;refine mS ?_;refine zat (n:=((j + 1:Nat):Int)) rfl rfl rfl (by omega) (by omega) ?_;refine mN ?_;exact ⟨_,by show k - (j + 1) < k - j; omega,j + 1,out' ++ [UInt8.ofNat (97 + v).toNat],_,by omega,rfl,by rw [length_append,length_singleton]; omega,⟨rfl,rfl,by rw [zdR]; rfl,rfl,rfl,rfl,trivial⟩,rfl,hNR'.byte hn ht2' _,by have:=hNR'.n2 hn; omega⟩
   ·refine zaA ?_
    refine fin i3 (lcM (lcM (lcM h))) out' t' _ ⟨⟨rfl,rfl,rfl,trivial⟩,rfl,hNR',ht2',hi3,zdP _,by omega⟩ hlt ?_;by_cases hk:k = 0
    ·right
     refine ⟨by omega,fun hil => ?_,fun hil => ?_⟩
     ·have:=e1 hil
      by_cases c1:i1 < b.length
      ·have:=f1 c1
       by_cases c2:i2 < b.length
       ·have:=g1 c2; omega
       ·have:=(g2 (by omega)).1; omega
      ·have:=(f2 (by omega)).1
       have:=(g2 (by omega)).1; omega
     ·have q1:=(e2 hil).1
      have q2:=(f2 (by omega)).1;have q3:=(g2 (by omega)).1;obtain ⟨n',hn',_,_,hp⟩:=stuck r (fun h => (e2 h).2) (by omega) hil;exact ⟨by omega,n',hn',hp⟩
    ·left; omega
  refine zas rfl rfl (beq_eq_false_iff_ne.2 k1) ?_;refine mF ?_;refine mO ?_;by_cases k2:r = 2
  ·refine zal rfl rfl (beq_iff_eq.2 k2) ?_
   refine mT ?_;refine mQ ?_;refine zaH (n:=out.length) rfl rfl (zaN out) ?_;by_cases hz:out.length = 0
   ·refine zas rfl rfl (decide_eq_false (by omega)) ?_
    refine zaa ?_;refine mwF ?_;refine zaj ?_;refine fin i1 (lcM h) out t _ ⟨⟨rfl,rfl,rfl,trivial⟩,rfl,hNR,ht2,hi1,zdP _,hol⟩ hlt (.inr ⟨rfl,fun hil => by have:=e1 hil; omega,fun hil => ?_⟩);obtain ⟨n',hn',hp,_,_⟩:=stuck r (fun h => (e2 h).2) (by omega) hil;exact ⟨(e2 hil).1,n',hn',hp⟩
   refine zal rfl rfl (decide_eq_true (by omega)) ?_;refine zaa ?_;refine mwT ?_;refine mO ?_;(iterate 2 refine mS ?_);refine zaH (n:=out.length) rfl rfl (zaN out) ?_;refine po_g rfl (hBl i1 hi1 (lcM h) (out.length:Int) (by omega) n2 l2) ?_;rintro x bx n3 l3 ⟨f,i2,rfl,rfl,ff0,ff1,hi2,f1,f2,rfl,rfl⟩;obtain ⟨f,rfl⟩:∃ k':Nat,f = k':=⟨f.toNat,by omega⟩;refine mN ?_;refine mQ ?_;refine po_g rfl (hBl i2 hi2 (lcM (lcM h)) 20 (by decide) n3 l3) ?_;rintro x bx n4 l4 ⟨k,i3,rfl,rfl,v0,v1,hi3,g1,g2,rfl,rfl⟩;obtain ⟨k,rfl⟩:∃ k':Nat,k = k':=⟨k.toNat,by omega⟩;refine mN ?_;refine mP ?_;refine zad ?_;refine zav (fun m st => ∃ (j:Nat) (out':L8) (t':Nat),j <= k /\ m = k - j /\ out'.length = out.length + j /\ has st.tm [(0,.ref 0 0),(1,.d (pI N)),(5,.d (.sl t' (pcB out'))),(9,.d (pI f)),(10,.d (pI k)),(11,.d (pI j))] /\ st.bx = [cuC b i3 (lcM (lcM (lcM h)))] /\ NR nt live st.nt st.live [.sl t' (pcB out')] /\ 2 <= t') k ⟨0,out,t,Nat.zero_le _,rfl,rfl,⟨rfl,rfl,rfl,rfl,rfl,rfl,trivial⟩,rfl,hNR,ht2⟩ ?_
   rintro m tm bx n5 l5 ⟨j,out',t',hj,rfl,hlen,ht,hbx,hNR',ht2'⟩;obtain ⟨tm1,rfl⟩:=zaf ht;simp only at hbx hNR'; subst hbx
   clear ht;refine zak (zaC (fun st => has st.tm [(0,.ref 0 0),(1,.d (pI N)),(5,.d (.sl t' (pcB out'))),(9,.d (pI f)),(10,.d (pI k)),(11,.d (pI j)),(72,.d (pB (decide (j < k))))] /\ st.bx = [cuC b i3 (lcM (lcM (lcM h)))] /\ st.nt = n5 /\ st.live = l5) ?_ ?_)
   ·refine zae ?_
    (iterate 2 refine mS ?_);by_cases c1:j < k
    ·refine zal rfl rfl (decide_eq_true (by omega)) ?_
     (iterate 3 refine mS ?_);refine zat (n:=((f + j:Nat):Int)) rfl rfl rfl (by omega) (by omega) ?_;refine mS ?_;refine zaH (n:=out'.length) rfl rfl (zaN out') ?_;refine zal rfl rfl (decide_eq_true (by omega)) ?_;refine mN ?_;exact ⟨⟨rfl,rfl,rfl,rfl,rfl,rfl,by rw [decide_eq_true c1]; rfl,trivial⟩,rfl,rfl,rfl⟩
    ·refine zas rfl rfl (decide_eq_false (by omega)) ?_
     refine mS ?_;refine mZ ?_;refine mN ?_;exact ⟨⟨rfl,rfl,rfl,rfl,rfl,rfl,by rw [decide_eq_false c1]; rfl,trivial⟩,rfl,rfl,rfl⟩
   rintro tm bx n6 l6 ⟨ht,hbx,hn6,hl6⟩;obtain ⟨tm2,rfl⟩:=zaf ht;simp only at hbx hn6 hl6; subst hbx; subst hn6; subst hl6
   clear ht tm1;refine zep (p:=j < k) rfl (fun hjk => ?_) (fun hjk => ?_)
   ·have hfj:f + j < out'.length:=by omega
    have hg:out'[f + j]? = some out'[f + j]:=getElem?_eq_getElem hfj;generalize out'[f + j] = y at hg;refine zaj ?_;refine zak (zad (zae ?_));(iterate 4 refine mS ?_);refine zat (n:=((f + j:Nat):Int)) rfl rfl rfl (by omega) (by omega) ?_;refine za3 (es:=pcB out') (e:=[.v (.int .u8 y.toNat)]) rfl rfl rfl ⟨by omega,by rw [Int.toNat_natCast]; exact zeV hg⟩ rfl ?_;refine mS ?_;refine zao (es:=[[.v (.int .u8 y.toNat)]]) rfl ?_;refine zbi (t:=t') (es:=pcB out') (ds:=[[.v (.int .u8 y.toNat)]]) rfl rfl (.inr (mem_cons_of_mem _ (hNR'.mem1 ht2'))) (by rw [zaN]; simp only [length_singleton]; omega) (fun e he => by simp only [mem_singleton] at he; subst he; rfl) (zbA out') ?_;refine mN ?_;refine zae ?_;refine mS ?_;refine zat (n:=((j + 1:Nat):Int)) rfl rfl rfl (by omega) (by omega) ?_;refine mN ?_;exact ⟨_,by show k - (j + 1) < k - j; omega,j + 1,out' ++ [y],_,by omega,rfl,by rw [length_append,length_singleton]; omega,⟨rfl,rfl,by rw [zdR]; rfl,rfl,rfl,rfl,trivial⟩,rfl,hNR'.byte hn ht2' _,by have:=hNR'.n2 hn; omega⟩
   ·refine zaA ?_
    refine fin i3 (lcM (lcM (lcM h))) out' t' _ ⟨⟨rfl,rfl,rfl,trivial⟩,rfl,hNR',ht2',hi3,zdP _,by omega⟩ hlt ?_;by_cases hk:k = 0
    ·right
     refine ⟨by omega,fun hil => ?_,fun hil => ?_⟩
     ·have:=e1 hil
      by_cases c1:i1 < b.length
      ·have:=f1 c1
       by_cases c2:i2 < b.length
       ·have:=g1 c2; omega
       ·have:=(g2 (by omega)).1; omega
      ·have:=(f2 (by omega)).1
       have:=(g2 (by omega)).1; omega
     ·have q1:=(e2 hil).1
      have q2:=(f2 (by omega)).1;have q3:=(g2 (by omega)).1;obtain ⟨n',hn',_,_,hp⟩:=stuck r (fun h => (e2 h).2) (by omega) hil;exact ⟨by omega,n',hn',hp⟩
    ·left; omega
  refine zas rfl rfl (beq_eq_false_iff_ne.2 k2) ?_;refine mF ?_;refine zae ?_;(iterate 2 refine mS ?_);refine po_g rfl (hBl i1 hi1 (lcM h) 26 (by decide) n2 l2) ?_;rintro x bx n3 l3 ⟨v,i2,rfl,rfl,v0,v1,hi2,_,_,rfl,rfl⟩;refine zat (n:=97 + v) rfl rfl rfl rfl (by omega) ?_;refine zb0 (n:=((UInt8.ofNat (97 + v).toNat).toNat:Int)) rfl rfl (by rw [IntKind.wrap_u8]; simp; omega) ?_;refine zao (es:=[[.v (.int .u8 ((UInt8.ofNat (97 + v).toNat).toNat:Int))]]) rfl ?_;refine zbi (t:=t) (es:=pcB out) (ds:=[[.v (.int .u8 ((UInt8.ofNat (97 + v).toNat).toNat:Int))]]) rfl rfl (.inr (mem_cons_of_mem _ (hNR.mem1 ht2))) (by rw [zaN]; simp only [length_singleton]; omega) (fun e he => by simp only [mem_singleton] at he; subst he; rfl) (zbA out) ?_;refine mN ?_;exact fin i2 (lcM (lcM h)) (out ++ [UInt8.ofNat (97 + v).toNat]) _ _ ⟨⟨rfl,rfl,by rw [zdR]; rfl,trivial⟩,rfl,hNR.byte hn ht2 _,by have:=hNR.n2 hn; omega,hi2,zdP _,by rw [length_append,length_singleton]; omega⟩ hlt (.inl (by rw [length_append,length_singleton]; omega))
 rintro tm bx n1 l1 ⟨i,h,out,t,⟨ht,hbx,hNR,ht2,hi,hh,hol⟩,hlen⟩;obtain ⟨tm0,rfl⟩:=zaf ht;simp only at hbx hNR; subst hbx
 clear ht;refine mO ?_;(iterate 2 refine mS ?_);refine po_slx (es:=pcB out) (l:=0) (h:=N) (rs:=pcB (out.take N)) rfl rfl rfl (za9 rfl rfl) ⟨Nat.zero_le _,by rw [zaN]; exact hlen⟩ (zbA out) (by simp [pcB,map_take]) ?_;refine po_q (v:=.d (pS (out.take N))) rfl ?_ ?_
 ·show (byteL (pcB (out.take N))).map _ = _
  rw [zfu]; rfl
 refine mN ?_;exact zah ⟨.inr rfl,[.d (pS (out.take N))],rfl,cuC b i h,[],rfl,trivial,cuC_lw ..,⟨i,h,hi,hh,rfl⟩,out.take N,rfl,by show (out.take N).length = N; rw [length_take]; omega,hNR.forget⟩
def DvR (b:L8) (K B nt:Nat) (live:List Nat) (x:PV) (bx:LP PC) (n:Nat) (l:List Nat):Prop:=∃ c' rest,bx = c' :: rest /\ x.lw 0 /\ lwL 0 c' /\ Cu b c' /\ QV K B nt live x n l
theorem zbu {b:L8} {K B nt n:Nat} {live l:List Nat} {c:List PC} {rest:LP PC} {cs:List PC} {v:V} (hc:Cu b c) (hN:NR nt live n l cs) (he:erL cs = vC v) (hg:Gd B v) (hR:RowT cs) (hk:v.kids.length <= K):DvR b K B nt live (.ag cs) (c :: rest) n l :=
 ⟨c,rest,rfl,hN.lw,hc.lw,hc,cs,v,rfl,hN,he,hg,hR,hk⟩
theorem rowT1 {a b c d:PC}:RowT [a,b,c,d,.sl 1 []]:=⟨a,b,c,d,1,[],rfl,.inl ⟨rfl,rfl⟩⟩
theorem zbC {k n e:Int} {s:L8} {B:Nat} (hk:i64ok k) (hn:i64ok n) (he:i64ok e) (hs:s.length <= B) (hB:B <= 1048576):Gd B (.mk k n e s []) :=
 ⟨⟨hk,hn,he,by unfold strok; omega,by simp,trivial⟩,⟨fun _ => Nat.zero_le _,trivial⟩,by simp only [V.bulk,V.bulks,length_nil]; omega⟩
theorem zb9 {nt n:Nat} {live l:List Nat} {k m e:Int} {s:L8} (h:NR nt live n l []):NR nt live n l [pI k,pI m,pI e,pS s,.sl 1 []]:=h.plain rfl rfl
theorem zb3 {k m e:Int} {s:L8}:erL [pI k,pI m,pI e,pS s,.sl 1 []] = vC (.mk k m e s []):=rfl
theorem str_fn (s:L8):FnV (env T hT) 67 [.d (pS s)] (.ag (vC (.mk 5 0 0 s []))):=by
 refine zaX (zag zdN) (by show 1 <= 5; decide) fun B hB => ?_
 unfold m_s_l02Str;refine mP ?_;refine mO ?_;(iterate 2 refine mS ?_);refine zaO (p:=0) (cs:=[pI 5,pI 0,pI 0,pS s,.sl 1 []]) rfl rfl rfl rfl rfl rfl ?_;refine mN ?_;exact zah ⟨.inr rfl,[.ag [pI 5,pI 0,pI 0,pS s,.sl 1 []]],rfl,rfl⟩
theorem intD_fn (n:Int):FnV (env T hT) 68 [.d (pI n)] (.ag (vC (.mk 3 n 0 [] []))):=by
 refine zaX (zag zdO) (by show 1 <= 5; decide) fun B hB => ?_
 unfold m_s_l02Int;refine mP ?_;refine mO ?_;(iterate 2 refine mS ?_);refine zaO (p:=0) (cs:=[pI 3,pI n,pI 0,pS [],.sl 1 []]) rfl rfl rfl rfl rfl rfl ?_;refine mN ?_;exact zah ⟨.inr rfl,[.ag [pI 3,pI n,pI 0,pS [],.sl 1 []]],rfl,rfl⟩
def vL (k n e:Int) (s:L8):List PC:=[pI k,pI n,pI e,pS s,.sl 1 []]
theorem lstr_g (s:L8) {bx:LP PC} {nt:Nat} {live:List Nat}:FnG (env T hT) 67 [.d (pS s)] bx nt live (fun x b n l => b = bx /\ x = .ag (vL 5 0 0 s) /\ n = nt /\ l = live):=by
 refine FnG.lift0 (args:=[.d (pS s)]) (R:=fun x n l => x = .ag (vL 5 0 0 s) /\ n = nt /\ l = live) ?_ ⟨trivial,trivial⟩;refine zaY (zag zdN) (by show 1 <= 5; decide) fun B hB => ?_
 unfold m_s_l02Str;refine mP ?_;refine mO ?_;(iterate 2 refine mS ?_);refine zaO (p:=0) (cs:=vL 5 0 0 s) rfl rfl rfl rfl rfl rfl ?_;refine mN ?_;exact zah ⟨.inr rfl,[.ag (vL 5 0 0 s)],rfl,⟨trivial,trivial,trivial,trivial,trivial,trivial⟩,rfl,rfl,rfl⟩
theorem int_g (m:Int) {bx:LP PC} {nt:Nat} {live:List Nat}:FnG (env T hT) 68 [.d (pI m)] bx nt live (fun x b n l => b = bx /\ x = .ag (vL 3 m 0 []) /\ n = nt /\ l = live):=by
 refine FnG.lift0 (args:=[.d (pI m)]) (R:=fun x n l => x = .ag (vL 3 m 0 []) /\ n = nt /\ l = live) ?_ ⟨trivial,trivial⟩;refine zaY (zag zdO) (by show 1 <= 5; decide) fun B hB => ?_
 unfold m_s_l02Int;refine mP ?_;refine mO ?_;(iterate 2 refine mS ?_);refine zaO (p:=0) (cs:=vL 3 m 0 []) rfl rfl rfl rfl rfl rfl ?_;refine mN ?_;exact zah ⟨.inr rfl,[.ag (vL 3 m 0 [])],rfl,⟨trivial,trivial,trivial,trivial,trivial,trivial⟩,rfl,rfl,rfl⟩
def i64B (n:Int):Bool:=decide (-9223372036854775808 <= n) && decide (n <= 9223372036854775807)
theorem zeX {n:Int} (h:i64B n = true):i64ok n:=by
 unfold i64B at h;simp only [Bool.and_eq_true,decide_eq_true_eq] at h;exact ⟨h.1,h.2⟩
theorem zam {n:Int} (h:-1000 <= n /\ n <= 2000000):i64ok n:=by unfold i64ok; omega
theorem zeY {b:L8} (hb:b.length <= 2147483647) (pl:Bool):Drw (env T hT) b 66 [.d (pB pl)] (QV 0 20):=by
 rintro c nt live hc hn;refine zaY (R:=DvR b 0 20 nt live) (zag zfs) (by show 2 <= 48; decide) fun B hB' => ?_
 have hBl:=fun m => zaR (T:=T) (hT:=hT) hb m
 unfold m_s_l02Leaf;refine mP ?_;refine zaC (fun st => ∃ c1,Cu b c1 /\ has st.tm [(0,.ref 0 0),(4,.ref 1 0)] /\ st.bx = [c1,[pI 0,pI 0,pI 0,pS [],.sl 1 []]] /\ NR nt live st.nt st.live []) ?_ ?_
 ·refine mQ ?_
  refine po_g rfl ((hBl 9).use ⟨trivial,trivial⟩ hc hn (p:=0) rfl) ?_;rintro x bx n1 l1 ⟨c1,rfl,hc1,r,rfl,r0,r1,hN1⟩;have hn1:=hN1.n2 hn;refine zaa ?_;refine zad ?_;refine mO ?_;by_cases k0:r = 0
  ·refine zal rfl rfl (beq_iff_eq.2 k0) ?_
   refine mT ?_;refine mQ ?_;refine po_g rfl ((hBl 3).use ⟨trivial,trivial⟩ hc1 hn1 (p:=0) rfl) ?_;rintro x bx n2 l2 ⟨c2,rfl,hc2,v,rfl,v0,v1,hN2⟩;refine mS ?_;refine zaO (p:=1) (cs:=[pI v,pI 0,pI 0,pS [],.sl 1 []]) rfl rfl rfl rfl rfl rfl ?_;refine mN ?_;exact zah ⟨.inr rfl,[.ag [pI v,pI 0,pI 0,pS [],.sl 1 []]],rfl,zbu hc2 (zb9 (hN1.pass hN2)) zb3 (zbC (zam (by omega)) (zam (by omega)) (zam (by omega)) (Nat.zero_le _) (by decide)) rowT1 (Nat.zero_le _)⟩
  refine zas rfl rfl (beq_eq_false_iff_ne.2 k0) ?_;refine mF ?_;refine mO ?_;by_cases k1:r = 1
  ·refine zal rfl rfl (beq_iff_eq.2 k1) ?_
   refine mT ?_;refine mQ ?_;refine zao rfl ?_;refine po_g rfl ((zbF (T:=T) (hT:=hT) hb i64B rfl (by show 0 < 5; decide)).use ⟨by simp only [PV.lw,PC.lw]; exact zcp (p:=i64B) rfl,trivial⟩ hc1 (by omega) (p:=0) rfl) ?_;rintro x bx n2 l2 ⟨c2,rfl,hc2,v,rfl,hv,hN2⟩;have hN12:=hN1.up.pass hN2;refine mS ?_;refine zao rfl ?_;refine po_g rfl ((zbF (T:=T) (hT:=hT) hb i64B rfl (by show 0 < 5; decide)).use ⟨by simp only [PV.lw,PC.lw]; exact zcp (p:=i64B) rfl,trivial⟩ hc2 (by have:=hN12.n2 hn; omega) (p:=0) rfl) ?_;rintro x bx n3 l3 ⟨c3,rfl,hc3,e,rfl,he,hN3⟩;refine mS ?_;refine zaO (p:=1) (cs:=[pI 4,pI v,pI e,pS [],.sl 1 []]) rfl rfl rfl rfl rfl rfl ?_;refine mN ?_;exact zah ⟨.inr rfl,[.ag [pI 4,pI v,pI e,pS [],.sl 1 []]],rfl,zbu hc3 (zb9 (hN12.up.pass hN3)) zb3 (zbC (zam (by omega)) (zeX hv) (zeX he) (Nat.zero_le _) (by decide)) rowT1 (Nat.zero_le _)⟩
  refine zas rfl rfl (beq_eq_false_iff_ne.2 k1) ?_;refine mF ?_;refine mO ?_;by_cases k2:r = 2
  ·refine zal rfl rfl (beq_iff_eq.2 k2) ?_
   refine mT ?_;refine mP ?_
   cases pl with
   | true =>
    refine mwF ?_;refine zaj ?_
    exact ⟨c1,hc1,⟨rfl,rfl,trivial⟩,rfl,hN1⟩
   | false =>
   refine mwT ?_;refine mO ?_;(iterate 2 refine mS ?_);refine po_g rfl ((hBl 8).use ⟨trivial,trivial⟩ hc1 hn1 (p:=0) rfl) ?_;rintro x bx n2 l2 ⟨c2,rfl,hc2,v,rfl,v0,v1,hN2⟩;obtain ⟨v,rfl⟩:∃ k':Nat,v = k':=⟨v.toNat,by omega⟩;have hN12:=hN1.pass hN2;refine po_g rfl ((zcF (T:=T) (hT:=hT) hb v (by omega)).use ⟨trivial,trivial⟩ hc2 (hN12.n2 hn) (p:=0) rfl) ?_;rintro x bx n3 l3 ⟨c3,rfl,hc3,s,rfl,hs,hN3⟩;refine mS ?_;refine zaO (p:=1) (cs:=[pI 6,pI 0,pI 0,pS s,.sl 1 []]) rfl rfl rfl rfl rfl rfl ?_;refine mN ?_;exact zah ⟨.inr rfl,[.ag [pI 6,pI 0,pI 0,pS s,.sl 1 []]],rfl,zbu hc3 (zb9 (hN12.pass hN3)) zb3 (zbC (zam (by omega)) (zam (by omega)) (zam (by omega)) (by omega) (by decide)) rowT1 (Nat.zero_le _)⟩
  refine zas rfl rfl (beq_eq_false_iff_ne.2 k2) ?_;refine mF ?_;refine zaC (fun st => has st.tm [(0,.ref 0 0),(4,.ref 1 0),(6,.d (pI r)),(30,.d (pB (decide (r = 3 \/ r = 4))))] /\ st.bx = [c1,[pI 0,pI 0,pI 0,pS [],.sl 1 []]] /\ st.nt = n1 /\ st.live = l1) ?_ ?_
  ·refine mO ?_
   by_cases k3:r = 3
   ·refine zal rfl rfl (beq_iff_eq.2 k3) ?_
    refine mT ?_;refine zaj ?_;exact ⟨⟨rfl,rfl,rfl,by rw [decide_eq_true (.inl k3)]; rfl,trivial⟩,rfl,rfl,rfl⟩
   ·refine zas rfl rfl (beq_eq_false_iff_ne.2 k3) ?_
    refine mF ?_;refine zae ?_;by_cases k4:r = 4
    ·refine zal rfl rfl (beq_iff_eq.2 k4) ?_
     refine mN ?_;exact ⟨⟨rfl,rfl,rfl,by rw [decide_eq_true (.inr k4)]; rfl,trivial⟩,rfl,rfl,rfl⟩
    ·refine zas rfl rfl (beq_eq_false_iff_ne.2 k4) ?_
     refine mN ?_;exact ⟨⟨rfl,rfl,rfl,by rw [decide_eq_false (by omega)]; rfl,trivial⟩,rfl,rfl,rfl⟩
  rintro tm bx n2 l2 ⟨ht,hbx,hn2,hl2⟩;obtain ⟨tm0,rfl⟩:=zaf ht;simp only at hbx hn2 hl2; subst hbx; subst hn2; subst hl2
  clear ht;refine zep (p:=r = 3 \/ r = 4) rfl (fun k => ?_) (fun k => ?_)
  ·refine mQ ?_
   refine zao rfl ?_;refine po_g rfl ((zdp (T:=T) (hT:=hT) hb (fun s => decide (s.length <= 20)) rfl (by show 0 < 5; decide)).use ⟨by simp only [PV.lw,PC.lw]; exact zdQ (p:=fun s => decide (s.length <= 20)) rfl,trivial⟩ hc1 (by omega) (p:=0) rfl) ?_;rintro x bx n3 l3 ⟨c3,rfl,hc3,s,rfl,hs,hN3⟩;refine po_g rfl (lstr_g (T:=T) (hT:=hT) s) ?_;rintro x b' n4 l4 ⟨hb4,rfl,hn4,hl4⟩
   subst hb4; subst hn4; subst hl4
   refine zaO (p:=1) (cs:=vL 5 0 0 s) rfl rfl rfl rfl rfl rfl ?_;refine mN ?_;exact zah ⟨.inr rfl,[.ag (vL 5 0 0 s)],rfl,zbu hc3 (zb9 (hN1.up.pass hN3)) zb3 (zbC (zam (by omega)) (zam (by omega)) (zam (by omega)) (of_decide_eq_true hs) (by decide)) rowT1 (Nat.zero_le _)⟩
  ·refine mO ?_
   by_cases k5:r = 5
   ·refine zal rfl rfl (beq_iff_eq.2 k5) ?_
    refine mT ?_;refine mQ ?_;refine po_g rfl ((some_drw (T:=T) (hT:=hT) hb).use trivial hc1 hn1 (p:=0) rfl) ?_;rintro x bx n3 l3 ⟨c3,rfl,hc3,s,rfl,hs,hN3⟩;refine po_g rfl (lstr_g (T:=T) (hT:=hT) s) ?_;rintro x b' n4 l4 ⟨hb4,rfl,hn4,hl4⟩
    subst hb4; subst hn4; subst hl4
    refine zaO (p:=1) (cs:=vL 5 0 0 s) rfl rfl rfl rfl rfl rfl ?_;refine mN ?_;exact zah ⟨.inr rfl,[.ag (vL 5 0 0 s)],rfl,zbu hc3 (zb9 (hN1.pass hN3)) zb3 (zbC (zam (by omega)) (zam (by omega)) (zam (by omega)) (by omega) (by decide)) rowT1 (Nat.zero_le _)⟩
   ·refine zas rfl rfl (beq_eq_false_iff_ne.2 k5) ?_
    refine mK ?_;exact ⟨c1,hc1,⟨rfl,rfl,trivial⟩,rfl,hN1⟩
 rintro tm bx n1 l1 ⟨c1,hc1,ht,hbx,hN1⟩;obtain ⟨tm0,rfl⟩:=zaf ht;simp only at hbx hN1; subst hbx
 clear ht;refine mO ?_;(iterate 2 refine mS ?_);refine po_g rfl ((hBl 1000).use ⟨trivial,trivial⟩ hc1 (hN1.n2 hn) (p:=0) rfl) ?_;rintro x bx n2 l2 ⟨c2,rfl,hc2,v,rfl,v0,v1,hN2⟩;have hN12:=hN1.pass hN2;have hv:i64B v = true:=by unfold i64B; rw [decide_eq_true (by omega),decide_eq_true (by omega)]; rfl
 have hal:allI i64B [[pI 0],[pI 1],[pI 23],[pI 24],[pI 255],[pI 256],[pI 65535],[pI 65536],[pI 4294967295],[pI 4294967296],[pI (-1)],[pI (-24)],[pI (-25)],[pI (-256)],[pI (-257)],[pI 9223372036854775807],[pI (-9223372036854775808)],[pI v]] = true:=by
  show (true && (true && (true && (true && (true && (true && (true && (true && (true && (true && (true && (true && (true && (true && (true && (true && (true && (i64B v && true)))))))))))))))))) = true;rw [hv]; rfl
 refine zao (es:=[[pI 0],[pI 1],[pI 23],[pI 24],[pI 255],[pI 256],[pI 65535],[pI 65536],[pI 4294967295],[pI 4294967296],[pI (-1)],[pI (-24)],[pI (-25)],[pI (-256)],[pI (-257)],[pI 9223372036854775807],[pI (-9223372036854775808)],[pI v]]) rfl ?_;refine po_g rfl ((zbF (T:=T) (hT:=hT) hb i64B hal (by show 0 < 18; decide)).use ⟨by simp only [PV.lw,PC.lw]; exact zcp hal,trivial⟩ hc2 (by have:=hN12.n2 hn; omega) (p:=0) rfl) ?_;rintro x bx n3 l3 ⟨c3,rfl,hc3,q,rfl,hq,hN3⟩;refine po_g rfl (int_g (T:=T) (hT:=hT) q) ?_;rintro x b' n4 l4 ⟨hb4,rfl,hn4,hl4⟩
 subst hb4; subst hn4; subst hl4
 refine zaO (p:=1) (cs:=vL 3 q 0 []) rfl rfl rfl rfl rfl rfl ?_;refine mN ?_;exact zah ⟨.inr rfl,[.ag (vL 3 q 0 [])],rfl,zbu hc3 (zb9 (hN12.up.pass hN3)) zb3 (zbC (zam (by omega)) (zeX hq) (zam (by omega)) (Nat.zero_le _) (by decide)) rowT1 (Nat.zero_le _)⟩
def mkB:Nat -> Nat
 | 0 => 20
 | d + 1 => 40 + 3 * mkB d
structure Kd (B:Nat) (rows:LP PC) (ks:List V):Prop where
 er:erLL rows = vK ks
 wf:V.wfs ks
 few:V.fews ks
 bulk:V.bulks ks <= B
theorem Kd.nil:Kd 0 [] []:=⟨rfl,trivial,trivial,lR⟩
theorem Kd.len {B:Nat} {rows:LP PC} {ks:List V} (h:Kd B rows ks):rows.length = ks.length:=by
 have:=congrArg length h.er
 rw [za0,length_map,zaU] at this; exact this
theorem Kd.wid {B:Nat} {rows:LP PC} {ks:List V} (h:Kd B rows ks):∀ e ∈ rows,e.length = 5:=fun e he => by
 have h1:erL e ∈ vK ks:=by rw [<- h.er,za0]; exact mem_map_of_mem he
 have:=zbc ks _ h1
 rw [za2,length_map] at this; exact this
theorem zfv:∀ a b:List V,V.bulks (a ++ b) = V.bulks a + V.bulks b
 | [],b => by simp [V.bulks]
 | x :: a,b => by simp only [cons_append,V.bulks,zfv a b]; omega
theorem Kd.app {B B':Nat} {rows ds:LP PC} {ks ls:List V} (h:Kd B rows ks) (k:Kd B' ds ls):Kd (B + B') (rows ++ ds) (ks ++ ls):=by
 refine ⟨?_,?_,?_,?_⟩
 ·rw [za0,map_append,<- za0,<- za0,h.er,k.er]; simp [vK]
 ·rw [V.wfs_all] at *
  have h1:=V.wfs_all.1 h.wf; have h2:=V.wfs_all.1 k.wf
  intro v hv; exact (mem_append.1 hv).elim (h1 v) (h2 v)
 ·have h1:=V.fews_all.1 h.few; have h2:=V.fews_all.1 k.few
  rw [V.fews_all];intro v hv; exact (mem_append.1 hv).elim (h1 v) (h2 v)
 ·rw [zfv]; have:=h.bulk; have:=k.bulk; omega
theorem Kd.one {B:Nat} {cs:List PC} {v:V} (he:erL cs = vC v) (hg:Gd B v):Kd B [cs] [v]:=by
 refine ⟨?_,⟨hg.wf,trivial⟩,⟨hg.few,trivial⟩,by simp only [V.bulks]; have:=hg.bulk; omega⟩;show [erL cs] = [v.d.pc];rw [he,V.pc_eq]
theorem Kd.mono {B B':Nat} {rows:LP PC} {ks:List V} (h:Kd B rows ks) (k:B <= B'):Kd B' rows ks:=⟨h.er,h.wf,h.few,Nat.le_trans h.bulk k⟩
theorem Kd.gd {B B':Nat} {rows:LP PC} {ks:List V} (h:Kd B rows ks) {k n e:Int} {s:L8} (hk:i64ok k) (hn:i64ok n) (he:i64ok e) (h8:k = 8 -> ks.length <= 8) (hl:ks.length <= 4294967295) (hs:s.length <= 4294967295) (hb:s.length + ks.length + B <= B'):Gd B' (.mk k n e s ks) :=
 ⟨⟨hk,hn,he,by unfold strok; omega,by omega,h.wf⟩,⟨h8,h.few⟩,by simp only [V.bulk]; have:=h.bulk; omega⟩
theorem zer {B:Nat} {t:Nat} {rows:LP PC} {ks:List V} (h:Kd B rows ks) (k n e:Int) (s:L8):erL [pI k,pI n,pI e,pS s,.sl t rows] = vC (.mk k n e s ks):=by
 show [pI k,pI n,pI e,pS s,.sl 0 (erLL rows)] = _;rw [h.er]; rfl
theorem zbv {cs:List PC} {v:V} (h:erL cs = vC v):cs.length = 5:=by
 have:=congrArg length h
 rw [za2,length_map] at this; exact this
theorem keep_t {tm:Nat -> PV} {c c':List PC} {r:LP PC} {k p o:Nat} (h:ev tm (.t k) = .ref (p + 1) o):keepX (ev tm) (c :: r) ((c :: r).set 0 c') (.t k):=by
 unfold keepX; rw [h]; rfl
def zV:List PC:=[pI 0,pI 0,pI 0,pS [],.sl 1 []]
def vRow (k t:Nat) (rows:LP PC):List PC:=[pI k,pI 0,pI 0,pS [],.sl t rows]
theorem NR.row0 {nt n:Nat} {live l:List Nat} {k:Nat} (h:NR nt live n l []):NR nt live n l (vRow k 1 []):=h.plain rfl rfl
theorem NR.kids {nt n n2 t k:Nat} {live l l2:List Nat} {rows ds:LP PC} (h2:2 <= nt) (ht:t = 1 /\ rows = [] \/ 2 <= t) (h:NR nt live n l (vRow k t rows)) (hd:NR n l n2 l2 ds.flatten):NR nt live (n2 + 1) (n2 :: l2.filter (· != t)) (vRow k n2 (rows ++ ds)):=by
 have:=NR.app (a:=[pI k,pI 0,pI 0,pS []]) (b:=[]) (rows:=rows) (ds:=ds) h2 ht (h.trans hd)
 exact this
theorem NR.rowt {nt n t k:Nat} {live l:List Nat} {rows:LP PC} (ht:t = 1 /\ rows = [] \/ 2 <= t) (h:NR nt live n l (vRow k t rows)):t = 1 \/ t ∈ l:=by
 rcases ht with ⟨h1,_⟩ | h2
 ·exact .inl h1
 ·exact .inr (h.mem t (by unfold vRow; simp [toksL,PC.toks,pI,pS,h2])).2.2
theorem NR.rowt2 {nt n n2 t k:Nat} {live l l2:List Nat} {rows:LP PC} {cs:List PC} (ht:t = 1 /\ rows = [] \/ 2 <= t) (h:NR nt live n l (vRow k t rows)) (h2:NR n l n2 l2 cs):t = 1 \/ t ∈ l2:=by
 rcases ht with ⟨h1,_⟩ | h3
 ·exact .inl h1
 ·obtain ⟨a,b,c⟩:=h.mem t (by unfold vRow; simp [toksL,PC.toks,pI,pS,h3])
  exact .inr (h2.keep t c h3 b)
theorem litP1 {e:X -> PV} {x:X} {a:List PC} {n:Nat} (hx:pcells (e x) = some a) (ha:a.length = n):litP e n [x] = some [a]:=by simp only [litP,hx,ha,if_true]
theorem litP2 {e:X -> PV} {x y:X} {a b:List PC} {n:Nat} (hx:pcells (e x) = some a) (hy:pcells (e y) = some b) (ha:a.length = n) (hb:b.length = n):litP e n [x,y] = some [a,b]:=by simp only [litP,hx,hy,ha,hb,if_true]
section
variable {E:Env} {K:St -> Prop} {tm:Nat -> PV} {bx:LP PC} {nt d:Nat} {live:List Nat} {r:List MOpr} {c:List X}
theorem zcX {n:Nat} {xs:List X} {es:LP PC} (hq:litP (ev tm) n xs = some es) (h:po E r K ⟨up d (.d (.sl 0 es)) tm,bx,nt,live⟩):po E (⟨some d,.litq n xs,none,c⟩ :: r) K ⟨tm,bx,nt,live⟩ :=
 po_q rfl (by show (litP (ev tm) n xs).map _ = _; rw [hq]; rfl) h
end
def MkM (b:L8) (d:Nat) (pl:Bool) (m nt:Nat) (live:List Nat) (k:Nat) (st:St):Prop :=
 ∃ (i t:Nat) (rows:LP PC) (ks:List V) (c:List PC) (rest:LP PC),i <= m /\ k = m - i /\ Cu b c /\ has st.tm [(0,.ref 0 0),(1,.d (pI ((d + 1:Nat):Int))),(2,.d (pB pl)),(6,.ref 1 0),(7,.ref 2 0),(8,.d (pI m)),(9,.d (pI i))] /\
  st.bx = c :: zV :: vRow 8 t rows :: rest /\ NR nt live st.nt st.live (vRow 8 t rows) /\ (t = 1 /\ rows = [] \/ 2 <= t) /\ ks.length = 2 * i /\ Kd (i * (10 + mkB d)) rows ks
def MkL (b:L8) (d:Nat) (pl:Bool) (m nt:Nat) (live:List Nat) (k:Nat) (st:St):Prop :=
 ∃ (i t:Nat) (rows:LP PC) (ks:List V) (c:List PC) (rest:LP PC),i <= m /\ k = m - i /\ Cu b c /\ has st.tm [(0,.ref 0 0),(1,.d (pI ((d + 1:Nat):Int))),(2,.d (pB pl)),(6,.ref 1 0),(7,.ref 2 0),(8,.d (pI m)),(11,.d (pI i))] /\
  st.bx = c :: zV :: vRow 7 t rows :: rest /\ NR nt live st.nt st.live (vRow 7 t rows) /\ (t = 1 /\ rows = [] \/ 2 <= t) /\ ks.length = i /\ Kd (i * mkB d) rows ks
theorem leafC (v:V) (h:v.kids = []):ownedL (vC v) = true /\ toksL (vC v) = []:=by
 obtain ⟨k,n,e,s,kids⟩:=v;have h:kids = []:=h
 subst h; exact ⟨rfl,rfl⟩
theorem make_drw {b:L8} (hb:b.length <= 2147483647) (pl:Bool):∀ (d:Nat),d <= 3 -> Drw (env T hT) b 46 [.d (pI d),.d (pB pl)] (QV 6 (mkB d)):=by
 intro d
 induction d with
 | zero =>
  intro _ c nt live hc hn;refine zaY (R:=DvR b 6 (mkB 0) nt live) (zag zc9) (by show 3 <= 90; decide) fun B hB' => ?_
  unfold m_s_l02Make;refine mP ?_;refine mM ?_;refine mS ?_;refine zal rfl rfl (decide_eq_true (by omega)) ?_;(iterate 1 refine mS ?_);refine mZ ?_;refine mT ?_;refine mO ?_;(iterate 2 refine mS ?_);refine po_g rfl ((zeY (T:=T) (hT:=hT) hb pl).use ⟨trivial,trivial⟩ hc hn (p:=0) rfl) ?_;rintro x bx n l ⟨c1,rfl,hc1,cs,v,rfl,hN,he,hg,hRT,hkl⟩;refine zaO (p:=1) (cs:=cs) rfl rfl rfl (zbv he) rfl rfl ?_;refine mN ?_
  exact zah ⟨.inr rfl,[.ag cs],zbo rfl rfl (zbv he),zbu hc1 hN he hg hRT (by omega)⟩
 | succ d ih =>
  intro hd c nt live hc hn;have ih:=ih (by omega);refine zaY (R:=DvR b 6 (mkB (d + 1)) nt live) (zag zc9) (by show 3 <= 90; decide) fun B hB' => ?_
  have hBl:=fun m => zaR (T:=T) (hT:=hT) hb m
  unfold m_s_l02Make;refine mP ?_;refine zaC (fun st => ∃ c1,Cu b c1 /\ has st.tm [(0,.ref 0 0),(1,.d (pI ((d + 1:Nat):Int))),(2,.d (pB pl)),(6,.ref 1 0)] /\ st.bx = [c1,zV] /\ NR nt live st.nt st.live []) ?_ ?_
  ·refine mQ ?_
   refine zas rfl rfl (decide_eq_false (by omega)) ?_;(iterate 2 refine mS ?_);refine po_gt rfl rfl ((zdo (T:=T) (hT:=hT) hb 3).use ⟨trivial,trivial⟩ hc hn (p:=0) rfl) ?_;rintro x bx n1 l1 ⟨c1,rfl,hc1,q,rfl,hN1⟩;refine mN ?_
   cases q with
   | false =>
    refine mwF ?_;refine zaj ?_
    exact ⟨c1,hc1,⟨rfl,rfl,rfl,rfl,trivial⟩,rfl,hN1⟩
   | true =>
   refine mwT ?_;refine mO ?_;(iterate 2 refine mS ?_);refine po_g rfl ((zeY (T:=T) (hT:=hT) hb pl).use ⟨trivial,trivial⟩ hc1 (hN1.n2 hn) (p:=0) rfl) ?_;rintro x bx n l ⟨c2,rfl,hc2,cs,v,rfl,hN,he,hg,hRT,hkl⟩;refine zaO (p:=1) (cs:=cs) rfl rfl rfl (zbv he) rfl rfl ?_;refine mN ?_;exact zah ⟨.inr rfl,[.ag cs],zbo rfl rfl (zbv he),zbu hc2 (hN1.trans hN) he (hg.mono (by show 20 <= 40 + 3 * mkB d; omega)) hRT (by omega)⟩
  rintro tm bx n1 l1 ⟨c1,hc1,ht,hbx,hN1⟩;obtain ⟨tm0,rfl⟩:=zaf ht;simp only at hbx hN1; subst hbx
  clear ht;have hn1:=hN1.n2 hn;refine mO ?_;refine po_s (v:=.ag (vRow 7 1 [])) rfl rfl rfl ?_;refine zed (cs:=vRow 7 1 []) rfl rfl rfl rfl ?_;refine mN ?_;refine mQ ?_;refine po_g rfl ((hBl 4).use ⟨trivial,trivial⟩ hc1 hn1 (p:=0) rfl) ?_;rintro x bx n2 l2 ⟨c2,rfl,hc2,m,rfl,m0,m1,hN2⟩;obtain ⟨m,rfl⟩:∃ k':Nat,m = k':=⟨m.toNat,by omega⟩;have hm:m <= 3:=by omega
  have hN12:=hN1.pass hN2;have hn2:=hN12.n2 hn;refine mN ?_;refine zaC (fun st => ∃ c1,Cu b c1 /\ has st.tm [(0,.ref 0 0),(1,.d (pI ((d + 1:Nat):Int))),(2,.d (pB pl)),(6,.ref 1 0),(7,.ref 2 0),(8,.d (pI m))] /\ st.bx = [c1,zV,vRow 7 1 []] /\ NR nt live st.nt st.live []) ?_ ?_
  ·refine mQ ?_
   refine po_g rfl ((hBl 5).use ⟨trivial,trivial⟩ hc2 hn2 (p:=0) rfl) ?_;rintro x bx n3 l3 ⟨c3,rfl,hc3,r,rfl,r0,r1,hN3⟩;have hN13:=hN12.pass hN3;have hn3:=hN13.n2 hn;refine zaa ?_;refine zad ?_;refine mO ?_;by_cases k0:r = 0
   ·refine zal rfl rfl (beq_iff_eq.2 k0) ?_
    refine mT ?_;refine mP ?_
    cases pl with
    | true =>
     refine mwF ?_;refine zaj ?_
     exact ⟨c3,hc3,⟨rfl,rfl,rfl,rfl,rfl,rfl,trivial⟩,rfl,hN13⟩
    | false =>
    refine mwT ?_;refine mQ ?_;refine zao rfl ?_;refine po_g rfl ((zbF (T:=T) (hT:=hT) hb (fun r => decide (0 <= r) && decide (r <= 1000000)) rfl (by show 0 < 5; decide)).use ⟨by simp only [PV.lw,PC.lw]; exact zcp (p:=fun r => decide (0 <= r) && decide (r <= 1000000)) rfl,trivial⟩ hc3 (by omega) (p:=0) rfl) ?_;rintro x bx n4 l4 ⟨c4,rfl,hc4,v,rfl,hv,hN4⟩;simp only [Bool.and_eq_true,decide_eq_true_eq] at hv;have hN14:=hN13.up.pass hN4;have hn4:=hN14.n2 hn;(iterate 2 refine mS ?_);refine zbR (n:=(d:Int)) rfl rfl rfl (by omega) (by omega) ?_;refine mS ?_;refine po_g rfl (ih.use ⟨trivial,trivial,trivial⟩ hc4 hn4 (p:=0) rfl) ?_;rintro x bx n5 l5 ⟨c5,rfl,hc5,cs,w,rfl,hN5,he,hg,hRT,hkl⟩;have hcl:=zbv he;refine zao (es:=[cs]) (by show (if cs.length = 5 then some [cs] else none) = some [cs]; rw [if_pos hcl]) ?_;refine po_s (v:=.ag [pI 9,pI v,pI 0,pS [],.sl n5 [cs]]) rfl rfl rfl ?_
    refine zaO (p:=1) (cs:=[pI 9,pI v,pI 0,pS [],.sl n5 [cs]]) rfl rfl rfl rfl rfl rfl ?_;refine mN ?_;have hNl:=NR.lit (es:=[cs]) hn (by simpa using (hN14.trans hN5));exact zah ⟨.inr rfl,[.ag [pI 9,pI v,pI 0,pS [],.sl n5 [cs]]],rfl,zbu hc5 (hNl.plain (by simpa [ownedL,PC.owned,pI,pS] using hNl.own) (by simp [toksL,PC.toks,pI,pS])) (zer (Kd.one he hg) 9 v 0 []) ((Kd.one he hg).gd (zam (by omega)) (zam (by omega)) (zam (by omega)) (fun h => by cases h) (by simp) (by simp) (by show 0 + 1 + mkB d <= 40 + 3 * mkB d; omega)) ⟨_,_,_,_,n5,[cs],rfl,.inr (by have:=hN5.n2 hn4; omega)⟩ (by show 1 <= 6; decide)⟩
   refine zas rfl rfl (beq_eq_false_iff_ne.2 k0) ?_;refine mF ?_;refine zaC (fun st => has st.tm [(0,.ref 0 0),(1,.d (pI ((d + 1:Nat):Int))),(2,.d (pB pl)),(6,.ref 1 0),(7,.ref 2 0),(8,.d (pI m)),(40,.d (pB (decide (r = 1 \/ r = 2))))] /\ st.bx = [c3,zV,vRow 7 1 []] /\ st.nt = n3 /\ st.live = l3) ?_ ?_
   ·refine mO ?_
    by_cases k3:r = 1
    ·refine zal rfl rfl (beq_iff_eq.2 k3) ?_
     refine mT ?_;refine zaj ?_;exact ⟨⟨rfl,rfl,rfl,rfl,rfl,rfl,by rw [decide_eq_true (.inl k3)]; rfl,trivial⟩,rfl,rfl,rfl⟩
    ·refine zas rfl rfl (beq_eq_false_iff_ne.2 k3) ?_
     refine mF ?_;refine zae ?_;by_cases k4:r = 2
     ·refine zal rfl rfl (beq_iff_eq.2 k4) ?_
      refine mN ?_;exact ⟨⟨rfl,rfl,rfl,rfl,rfl,rfl,by rw [decide_eq_true (.inr k4)]; rfl,trivial⟩,rfl,rfl,rfl⟩
     ·refine zas rfl rfl (beq_eq_false_iff_ne.2 k4) ?_
      refine mN ?_;exact ⟨⟨rfl,rfl,rfl,rfl,rfl,rfl,by rw [decide_eq_false (by omega)]; rfl,trivial⟩,rfl,rfl,rfl⟩
   rintro tm bx n4 l4 ⟨ht,hbx,hn4,hl4⟩;obtain ⟨tm1,rfl⟩:=zaf ht;simp only at hbx hn4 hl4; subst hbx; subst hn4; subst hl4
   clear ht tm0;refine zep (p:=r = 1 \/ r = 2) rfl (fun k => ?_) (fun k => ?_)
   rotate_left
   ·refine zaj ?_
    exact ⟨c3,hc3,⟨rfl,rfl,rfl,rfl,rfl,rfl,trivial⟩,rfl,hN13⟩
   refine mQ ?_;refine zaP (p:=2) (o':=0) (cs:=[pI 8]) (z:=vRow 7 1 []) rfl rfl rfl ⟨rfl,by show 0 + 1 <= 5; decide⟩ rfl ?_;refine zaa ?_;refine zaC (fun st => ∃ (t:Nat) (rows:LP PC) (ks:List V) (c:List PC) (rest:LP PC),Cu b c /\ has st.tm [(6,.ref 1 0),(7,.ref 2 0)] /\ st.bx = c :: zV :: vRow 8 t rows :: rest /\ NR nt live st.nt st.live (vRow 8 t rows) /\ (t = 1 /\ rows = [] \/ 2 <= t) /\ ks.length <= 6 /\ Kd (3 * (10 + mkB d)) rows ks) ?_ ?_
   ·refine mP ?_
    refine zad ?_;refine zav (MkM b d pl m nt live) m ⟨0,1,[],[],c3,[],Nat.zero_le _,rfl,hc3,⟨rfl,rfl,rfl,rfl,rfl,rfl,rfl,trivial⟩,rfl,hN13.row0,.inl ⟨rfl,rfl⟩,rfl,by rw [Nat.zero_mul]; exact Kd.nil⟩ ?_;rintro k' tm bx n4 l4 ⟨i,t,rows,ks,c4,rest,hi,rfl,hc4,ht,hbx,hN4,ht2,hks,hKd⟩;obtain ⟨tm0,rfl⟩:=zaf ht;simp only at hbx hN4; subst hbx
    clear ht;have hn4:=hN4.n2 hn;refine mM ?_;(iterate 2 refine mS ?_);refine po_b rfl rfl (fun q hq => ?_);refine zaa ?_;refine zbt (p:=(i:Int) < m) hq rfl (fun him _ => ?_) (fun him _ => ?_)
    rotate_left
    ·refine zaA ?_
     have hmul:i * (10 + mkB d) <= 3 * (10 + mkB d):=Nat.mul_le_mul_right _ (by omega);exact ⟨t,rows,ks,c4,rest,hc4,⟨rfl,rfl,trivial⟩,rfl,hN4,ht2,by omega,hKd.mono hmul⟩
    refine zaj ?_;refine zak (zad ?_);refine mO ?_;refine zao rfl ?_;refine mS ?_;have hi3:i < [[pS [110,97,109,101]],[pS [105,100]],[pS [108,105,115,116]],[pS [99,111,109,109,111,110,32,107,101,121]]].length:=by show i < 4; omega
    obtain ⟨s,hs,hsl⟩:=zf7 (p:=fun s => decide (s.length <= 10)) rfl hi3;have hsl:=of_decide_eq_true hsl;refine za3 (es:=[[pS [110,97,109,101]],[pS [105,100]],[pS [108,105,115,116]],[pS [99,111,109,109,111,110,32,107,101,121]]]) (e:=[pS s]) rfl rfl rfl ⟨by omega,by rw [Int.toNat_natCast,getElem?_eq_getElem hi3,hs]⟩ rfl ?_;refine mS ?_;refine zab rfl (str_fn (T:=T) (hT:=hT) s) ?_;refine zed (cs:=vC (.mk 5 0 0 s [])) rfl rfl rfl rfl ?_;refine mN ?_;refine zaC (fun st => ∃ (c:List PC) (kv:V),Cu b c /\ (Gd 10 kv /\ kv.kids = []) /\ NR nt live st.nt st.live (vRow 8 t rows) /\ has st.tm [(0,.ref 0 0),(1,.d (pI ((d + 1:Nat):Int))),(2,.d (pB pl)),(6,.ref 1 0),(7,.ref 2 0),(8,.d (pI m)),(9,.d (pI i)),(10,.ref (rest.length + 3) 0)] /\ st.bx = c :: zV :: vRow 8 t rows :: (rest ++ [vC kv])) ?_ ?_
    ·refine zaC (fun st => ∃ (c:List PC) (q:Bool),Cu b c /\ NR nt live st.nt st.live (vRow 8 t rows) /\ has st.tm [(0,.ref 0 0),(1,.d (pI ((d + 1:Nat):Int))),(2,.d (pB pl)),(6,.ref 1 0),(7,.ref 2 0),(8,.d (pI m)),(9,.d (pI i)),(10,.ref (rest.length + 3) 0),(59,.d (pB q))] /\ st.bx = c :: zV :: vRow 8 t rows :: (rest ++ [vC (.mk 5 0 0 s [])])) ?_ ?_
     ·refine zae ?_
      refine mS ?_;refine po_g rfl ((zdo (T:=T) (hT:=hT) hb 8).use ⟨trivial,trivial⟩ hc4 (by omega) (p:=0) rfl) ?_;rintro x bx n5 l5 ⟨c5,rfl,hc5,q,rfl,hN5⟩;have hN45:=(hN4.up.trans hN5);rw [append_nil] at hN45;refine mS ?_
      cases q with
      | true =>
       (iterate 2 refine mS ?_);refine mN ?_
       exact ⟨c5,!pl,hc5,hN45,⟨rfl,rfl,rfl,rfl,rfl,rfl,rfl,rfl,rfl,trivial⟩,rfl⟩
      | false =>
       refine mZ ?_;refine mN ?_;exact ⟨c5,false,hc5,hN45,⟨rfl,rfl,rfl,rfl,rfl,rfl,rfl,rfl,rfl,trivial⟩,rfl⟩
     rintro tm bx n5 l5 ⟨c5,q,hc5,hN5,ht,hbx⟩;obtain ⟨tm1,rfl⟩:=zaf ht;simp only at hbx hN5; subst hbx
     clear ht
     cases q with
     | false =>
      refine mwF ?_;refine zaj ?_
      exact ⟨c5,.mk 5 0 0 s [],hc5,⟨zbC (zam (by omega)) (zam (by omega)) (zam (by omega)) hsl (by decide),rfl⟩,hN5,⟨rfl,rfl,rfl,rfl,rfl,rfl,rfl,rfl,trivial⟩,rfl⟩
     | true =>
      refine mwT ?_;refine zae ?_;refine mS ?_;refine zab rfl (intD_fn (T:=T) (hT:=hT) (i:Int)) ?_;refine zaO (p:=rest.length + 3) (cs:=vC (.mk 3 i 0 [] [])) (z:=vC (.mk 5 0 0 s [])) rfl rfl (zbB rest _) rfl rfl rfl ?_;refine mN ?_;refine ⟨c5,.mk 3 i 0 [] [],hc5,⟨zbC (zam (by omega)) (zam (by omega)) (zam (by omega)) (Nat.zero_le _) (by decide),rfl⟩,hN5,⟨rfl,rfl,rfl,rfl,rfl,rfl,rfl,rfl,trivial⟩,?_⟩;show c5 :: zV :: vRow 8 t rows :: ((rest ++ [vC (.mk 5 0 0 s [])]).set rest.length _) = _;rw [set_append_right _ _ lR,Nat.sub_self]; rfl
    rintro tm bx n5 l5 ⟨c5,kv,hc5,⟨hkv,hkk⟩,hN5,ht,hbx⟩;obtain ⟨tm1,rfl⟩:=zaf ht;simp only at hbx hN5; subst hbx
    clear ht tm0;have hn5:=hN5.n2 hn;refine zae ?_;refine mS ?_;refine zaS (cs:=vRow 8 t rows) (v:=.d (.sl t rows)) rfl rfl rfl (by show 4 + 1 <= 5; decide) rfl ?_;refine zaW (p:=rest.length + 3) (cs:=vC kv) rfl rfl (zbB rest _) rfl ?_;(iterate 2 refine mS ?_);refine zbR (n:=(d:Int)) rfl rfl rfl (by omega) (by omega) ?_;refine mS ?_;refine po_gk rfl (ih.use ⟨trivial,trivial,trivial⟩ hc5 hn5 (p:=0) rfl) ?_ ?_
    ·rintro x bx n l ⟨c',rfl,_⟩ y hy
     simp only [mem_cons,not_mem_nil,or_false] at hy
     rcases hy with rfl | rfl
     ·exact keep_t (p:=1) (o:=4) rfl
     ·exact keep_t (p:=rest.length + 2) (o:=0) rfl
    rintro x bx n6 l6 ⟨c6,rfl,hc6,cs,w,rfl,hN6,he,hg,hRT,hkl⟩;have hcl:=zbv he;refine zcX (litP2 (a:=vC kv) (b:=cs) rfl rfl rfl hcl) ?_;refine zbi (t:=t) (t':=0) (es:=rows) (ds:=[vC kv,cs]) rfl rfl (NR.rowt2 ht2 hN5 hN6) (by rw [hKd.len]; simp only [length_cons,length_nil]; omega) (fun e he => by simp only [mem_cons,not_mem_nil,or_false] at he; rcases he with rfl | rfl; rfl; exact hcl) hKd.wid ?_;refine mS ?_;refine zaP (p:=2) (o':=4) (cs:=[.sl n6 (rows ++ [vC kv,cs])]) (z:=vRow 8 t rows) rfl rfl rfl ⟨rfl,by show 4 + 1 <= 5; decide⟩ rfl ?_;refine zaa ?_;refine zae ?_;refine mS ?_;refine zat (n:=((i + 1:Nat):Int)) rfl rfl rfl (by omega) (by omega) ?_;refine mN ?_
    have hds:NR n5 l5 n6 l6 [vC kv,cs].flatten:=by
     obtain ⟨o1,o2⟩:=leafC kv hkk;exact hN6.plain (by show ownedL (vC kv ++ (cs ++ [])) = true; rw [zaQ,o1,append_nil,hN6.own]; rfl) (by show toksL (vC kv ++ (cs ++ [])) = _; rw [zaL,o2,append_nil]; rfl)
    exact ⟨_,by show m - (i + 1) < m - i; omega,i + 1,n6,rows ++ [vC kv,cs],ks ++ [kv,w],c6,rest ++ [vC kv],by omega,rfl,hc6,⟨rfl,rfl,rfl,rfl,rfl,rfl,rfl,trivial⟩,rfl,NR.kids hn ht2 hN5 hds,.inr (by have:=hN6.n2 hn5; omega),by rw [length_append]; simp only [length_cons,length_nil]; omega,by rw [Nat.succ_mul]; exact hKd.app ((Kd.one (zco kv) hkv).app (Kd.one he hg))⟩
   rintro tm bx n4 l4 ⟨t,rows,ks,c4,rest,hc4,ht,hbx,hN4,ht2,hks,hKd⟩;obtain ⟨tm1,rfl⟩:=zaf ht;simp only at hbx hN4; subst hbx
   clear ht;refine mO ?_;refine zaW (p:=2) (cs:=vRow 8 t rows) rfl rfl rfl rfl ?_;refine zaO (p:=1) (cs:=vRow 8 t rows) rfl rfl rfl rfl rfl rfl ?_;refine mN ?_;exact zah ⟨.inr rfl,[.ag (vRow 8 t rows)],rfl,zbu hc4 hN4 (zer hKd 8 0 0 []) (hKd.gd (zam (by omega)) (zam (by omega)) (zam (by omega)) (fun _ => by omega) (by omega) (by simp) (by show 0 + ks.length + 3 * (10 + mkB d) <= 40 + 3 * mkB d; omega)) ⟨_,_,_,_,t,rows,rfl,ht2⟩ (by show ks.length <= 6; omega)⟩
  rintro tm bx n3 l3 ⟨c3,hc3,ht,hbx,hN3⟩;obtain ⟨tm1,rfl⟩:=zaf ht;simp only at hbx hN3; subst hbx
  clear ht;refine zaC (fun st => ∃ (t:Nat) (rows:LP PC) (ks:List V) (c:List PC) (rest:LP PC),Cu b c /\ has st.tm [(6,.ref 1 0),(7,.ref 2 0)] /\ st.bx = c :: zV :: vRow 7 t rows :: rest /\ NR nt live st.nt st.live (vRow 7 t rows) /\ (t = 1 /\ rows = [] \/ 2 <= t) /\ ks.length <= 3 /\ Kd (3 * mkB d) rows ks) ?_ ?_
  ·refine mP ?_
   refine zad ?_;refine zav (MkL b d pl m nt live) m ⟨0,1,[],[],c3,[],Nat.zero_le _,rfl,hc3,⟨rfl,rfl,rfl,rfl,rfl,rfl,rfl,trivial⟩,rfl,hN3.row0,.inl ⟨rfl,rfl⟩,rfl,by rw [Nat.zero_mul]; exact Kd.nil⟩ ?_;rintro k' tm bx n4 l4 ⟨i,t,rows,ks,c4,rest,hi,rfl,hc4,ht,hbx,hN4,ht2,hks,hKd⟩;obtain ⟨tm2,rfl⟩:=zaf ht;simp only at hbx hN4; subst hbx
   clear ht;have hn4:=hN4.n2 hn;refine mM ?_;(iterate 2 refine mS ?_);refine po_b rfl rfl (fun q hq => ?_);refine zaa ?_;refine zbt (p:=(i:Int) < m) hq rfl (fun him _ => ?_) (fun him _ => ?_)
   rotate_left
   ·refine zaA ?_
    have hmul:i * mkB d <= 3 * mkB d:=Nat.mul_le_mul_right _ (by omega);exact ⟨t,rows,ks,c4,rest,hc4,⟨rfl,rfl,trivial⟩,rfl,hN4,ht2,by omega,hKd.mono hmul⟩
   refine zaj ?_;refine zak (zad (zae ?_));refine mS ?_;refine zaS (cs:=vRow 7 t rows) (v:=.d (.sl t rows)) rfl rfl rfl (by show 4 + 1 <= 5; decide) rfl ?_;(iterate 2 refine mS ?_);refine zbR (n:=(d:Int)) rfl rfl rfl (by omega) (by omega) ?_;refine mS ?_;refine po_gk rfl (ih.use ⟨trivial,trivial,trivial⟩ hc4 hn4 (p:=0) rfl) ?_ ?_
   ·rintro x bx n l ⟨c',rfl,_⟩ y hy
    simp only [mem_cons,not_mem_nil,or_false] at hy;subst hy;exact keep_t (p:=1) (o:=4) rfl
   rintro x bx n6 l6 ⟨c6,rfl,hc6,cs,w,rfl,hN6,he,hg,hRT,hkl⟩;have hcl:=zbv he;refine zcX (litP1 (a:=cs) rfl hcl) ?_;refine zbi (t:=t) (t':=0) (es:=rows) (ds:=[cs]) rfl rfl (NR.rowt2 ht2 hN4 hN6) (by rw [hKd.len]; simp only [length_cons,length_nil]; omega) (fun e he => by simp only [mem_singleton] at he; subst he; exact hcl) hKd.wid ?_;refine mS ?_;refine zaP (p:=2) (o':=4) (cs:=[.sl n6 (rows ++ [cs])]) (z:=vRow 7 t rows) rfl rfl rfl ⟨rfl,by show 4 + 1 <= 5; decide⟩ rfl ?_;refine zaa ?_;refine zae ?_;refine mS ?_;refine zat (n:=((i + 1:Nat):Int)) rfl rfl rfl (by omega) (by omega) ?_;refine mN ?_;have hds:NR n4 l4 n6 l6 [cs].flatten:=by simpa using hN6
   exact ⟨_,by show m - (i + 1) < m - i; omega,i + 1,n6,rows ++ [cs],ks ++ [w],c6,rest,by omega,rfl,hc6,⟨rfl,rfl,rfl,rfl,rfl,rfl,rfl,trivial⟩,rfl,NR.kids hn ht2 hN4 hds,.inr (by have:=hN6.n2 hn4; omega),by rw [length_append,length_singleton]; omega,by rw [Nat.succ_mul]; exact hKd.app (Kd.one he hg)⟩
  rintro tm bx n4 l4 ⟨t,rows,ks,c4,rest,hc4,ht,hbx,hN4,ht2,hks,hKd⟩;obtain ⟨tm2,rfl⟩:=zaf ht;simp only at hbx hN4; subst hbx
  clear ht;refine mO ?_;refine zaW (p:=2) (cs:=vRow 7 t rows) rfl rfl rfl rfl ?_;refine zaO (p:=1) (cs:=vRow 7 t rows) rfl rfl rfl rfl rfl rfl ?_;refine mN ?_;exact zah ⟨.inr rfl,[.ag (vRow 7 t rows)],rfl,zbu hc4 hN4 (zer hKd 7 0 0 []) (hKd.gd (zam (by omega)) (zam (by omega)) (zam (by omega)) (fun h => by cases h) (by omega) (by simp) (by show 0 + ks.length + 3 * mkB d <= 40 + 3 * mkB d; omega)) ⟨_,_,_,_,t,rows,rfl,ht2⟩ (by show ks.length <= 6; omega)⟩
theorem er_v {c:PC} {x:Value} (h:c.er = .v x):c = .v x:=by
 cases c <;> simp [PC.er] at h
 rw [h]
theorem qv_form {cs:List PC} {v:V} (he:erL cs = vC v) (hR:RowT cs):∃ (t:Nat) (rows:LP PC),cs = [pI v.kind,pI v.num,pI v.exp,pS v.text,.sl t rows] /\ (t = 1 /\ rows = [] \/ 2 <= t) /\ erLL rows = vK v.kids:=by
 obtain ⟨a,b,c,d,t,rows,rfl,ht⟩:=hR;simp only [erL,vC,cons.injEq,and_true,PC.er,PC.sl.injEq,true_and] at he;obtain ⟨h1,h2,h3,h4,h5⟩:=he;refine ⟨t,rows,?_,ht,h5⟩;rw [er_v h1,er_v h2,er_v h3,er_v h4]; rfl
def vcs (k n e:Int) (s:L8) (t:Nat) (rows:LP PC):List PC:=[pI k,pI n,pI e,pS s,.sl t rows]
def AnP (b:L8) (B nt:Nat) (live:List Nat) (st:St):Prop :=
 ∃ (c:List PC) (k n e:Int) (s:L8) (t:Nat) (rows:LP PC) (ks:List V) (rest:LP PC),Cu b c /\ has st.tm [(0,.ref 0 0),(2,.ref 1 0),(3,.ref 2 0)] /\ st.bx = c :: zV :: vcs k n e s t rows :: rest /\
  NR nt live st.nt st.live (vcs k n e s t rows) /\ (t = 1 /\ rows = [] \/ 2 <= t) /\ erLL rows = vK ks /\ Gd B (.mk k n e s ks) /\ ks.length <= 302
theorem Gd.kd {B:Nat} {k n e:Int} {s:L8} {ks:List V} (h:Gd B (.mk k n e s ks)) {rows:LP PC} (he:erLL rows = vK ks):Kd (V.bulks ks) rows ks:=⟨he,h.wf.2.2.2.2.2,h.few.2,lR⟩
theorem NR.recell {nt n t:Nat} {live l:List Nat} {k m e k' m' e':Int} {s s':L8} {rows:LP PC} (h:NR nt live n l (vcs k m e s t rows)):NR nt live n l (vcs k' m' e' s' t rows):=h.plain h.own rfl
theorem NR.row7 {nt n t:Nat} {live l:List Nat} {k m e:Int} {s:L8} {rows:LP PC} (h:NR nt live n l (vcs k m e s t rows)) (q:Nat):NR nt live n l (vRow q t rows):=h.plain h.own rfl
theorem NR.vcs {nt n t q:Nat} {live l:List Nat} {k m e:Int} {s:L8} {rows:LP PC} (h:NR nt live n l (vRow q t rows)):NR nt live n l (vcs k m e s t rows):=h.plain h.own rfl
theorem bulk_len {k n e:Int} {s:L8} {ks:List V} {B:Nat} (h:Gd B (.mk k n e s ks)):ks.length <= B /\ s.length + ks.length + V.bulks ks <= B:=by
 have:=h.bulk
 simp only [V.bulk] at this; omega
theorem any_drw {b:L8} (hb:b.length <= 2147483647):Drw (env T hT) b 45 [] (QV 302 4000):=by
 rintro c nt live hc hn;refine zaY (R:=DvR b 302 4000 nt live) (zag zf5) (by show 1 <= 74; decide) fun B hB' => ?_
 have hBl:=fun m => zaR (T:=T) (hT:=hT) hb m
 unfold m_s_l02Any;refine mP ?_;refine mO ?_;(iterate 2 refine mS ?_);refine po_g rfl ((zdo (T:=T) (hT:=hT) hb 3).use ⟨trivial,trivial⟩ hc hn (p:=0) rfl) ?_;rintro x bx n1 l1 ⟨c1,rfl,hc1,q,rfl,hN1⟩;refine po_g rfl ((make_drw (T:=T) (hT:=hT) hb q 3 lR).use ⟨trivial,trivial,trivial⟩ hc1 (hN1.n2 hn) (p:=0) rfl) ?_;rintro x bx n2 l2 ⟨c2,rfl,hc2,cs,v,rfl,hN2,he,hg,hR,hk6⟩;have hN12:NR nt live n2 l2 cs:=by simpa using hN1.trans hN2
 obtain ⟨t,rows,hcs,ht2,hrows⟩:=qv_form he hR;obtain ⟨k,n,e,s,ks⟩:=v;simp only [V.kind,V.num,V.exp,V.text,V.kids] at hcs hrows hk6;subst hcs;have hg:Gd 1500 (.mk k n e s ks):=hg.mono (by decide);clear he hR hN1 hN2;refine zed (cs:=vcs k n e s t rows) rfl rfl rfl rfl ?_;refine mN ?_;have hbl:=bulk_len hg;have hwf:=hg.wf;refine zaC (fun st => AnP b 4000 nt live st) ?_ ?_
 ·have keep:∀ (c3:List PC) (hc3:Cu b c3) (st:St),has st.tm [(0,.ref 0 0),(2,.ref 1 0),(3,.ref 2 0)] -> st.bx = c3 :: zV :: vcs k n e s t rows :: [] -> NR nt live st.nt st.live (vcs k n e s t rows) -> AnP b 4000 nt live st:=fun c3 hc3 st h1 h2 h3 => ⟨c3,k,n,e,s,t,rows,ks,[],hc3,h1,h2,h3,ht2,hrows,hg.mono (by decide),by omega⟩
  refine mQ ?_;refine po_g rfl ((hBl 24).use ⟨trivial,trivial⟩ hc2 (hN12.n2 hn) (p:=0) rfl) ?_;rintro x bx n3 l3 ⟨c3,rfl,hc3,r,rfl,r0,r1,hN3⟩;have hN13:=hN12.pass hN3;have hn3:=hN13.n2 hn;refine zaa ?_;refine zad ?_;refine mO ?_;by_cases k0:r = 0
  ·refine zal rfl rfl (beq_iff_eq.2 k0) ?_
   refine mT ?_;refine zae ?_;refine mS ?_;refine po_g rfl ((hBl 12).use ⟨trivial,trivial⟩ hc3 hn3 (p:=0) rfl) ?_;rintro x bx n4 l4 ⟨c4,rfl,hc4,v,rfl,v0,v1,hN4⟩;refine zbR (n:=v - 1) rfl rfl rfl rfl (by omega) ?_;refine mS ?_;refine zaP (p:=2) (o':=0) (cs:=[pI (v - 1)]) (z:=vcs k n e s t rows) rfl rfl rfl ⟨rfl,by show 0 + 1 <= 5; decide⟩ rfl ?_;refine zaa ?_;refine ⟨c4,v - 1,n,e,s,t,rows,ks,[],hc4,⟨rfl,rfl,rfl,trivial⟩,rfl,(hN13.pass hN4).recell,ht2,hrows,⟨⟨zam (by omega),hwf.2⟩,⟨fun _ => by omega,hg.few.2⟩,by simp only [V.bulk]; omega⟩,by omega⟩
  refine zas rfl rfl (beq_eq_false_iff_ne.2 k0) ?_;refine mF ?_;refine mO ?_;by_cases k1:r = 1
  ·refine zal rfl rfl (beq_iff_eq.2 k1) ?_
   refine mT ?_;refine zae ?_;refine mS ?_;refine zao rfl ?_;refine po_g rfl ((zbF (T:=T) (hT:=hT) hb i64B rfl (by show 0 < 4; decide)).use ⟨by simp only [PV.lw,PC.lw]; exact zcp (p:=i64B) rfl,trivial⟩ hc3 (by omega) (p:=0) rfl) ?_;rintro x bx n4 l4 ⟨c4,rfl,hc4,v,rfl,hv,hN4⟩;refine mS ?_;refine zaP (p:=2) (o':=1) (cs:=[pI v]) (z:=vcs k n e s t rows) rfl rfl rfl ⟨rfl,by show 1 + 1 <= 5; decide⟩ rfl ?_;refine zaa ?_;refine ⟨c4,k,v,e,s,t,rows,ks,[],hc4,⟨rfl,rfl,rfl,trivial⟩,rfl,(hN13.up.pass hN4).recell,ht2,hrows,⟨⟨hwf.1,zeX hv,hwf.2.2⟩,hg.few,by simp only [V.bulk]; omega⟩,by omega⟩
  refine zas rfl rfl (beq_eq_false_iff_ne.2 k1) ?_;refine mF ?_;refine mO ?_;by_cases k2:r = 2
  ·refine zal rfl rfl (beq_iff_eq.2 k2) ?_
   refine mT ?_;refine zae ?_;refine mS ?_;refine zaS (cs:=vcs k n e s t rows) (v:=.d (.sl t rows)) rfl rfl rfl (by show 4 + 1 <= 5; decide) rfl ?_;refine mS ?_;refine po_gk rfl ((zeY (T:=T) (hT:=hT) hb false).use ⟨trivial,trivial⟩ hc3 hn3 (p:=0) rfl) ?_ ?_
   ·rintro x bx n l ⟨c',rfl,_⟩ y hy
    simp only [mem_cons,not_mem_nil,or_false] at hy;subst hy;exact keep_t (p:=1) (o:=4) rfl
   rintro x bx n4 l4 ⟨c4,rfl,hc4,cs,w,rfl,hN4,he,hgw,_,_⟩;have hcl:=zbv he;refine zcX (litP1 (a:=cs) rfl hcl) ?_;have hK:=(hg.kd hrows).app (Kd.one he hgw);refine zbi (t:=t) (t':=0) (es:=rows) (ds:=[cs]) rfl rfl (NR.rowt2 ht2 (hN13.row7 7) hN4) (by rw [(hg.kd hrows).len]; simp only [length_cons,length_nil]; omega) (fun e he => by simp only [mem_singleton] at he; subst he; exact hcl) (hg.kd hrows).wid ?_;refine mS ?_;refine zaP (p:=2) (o':=4) (cs:=[.sl n4 (rows ++ [cs])]) (z:=vcs k n e s t rows) rfl rfl rfl ⟨rfl,by show 4 + 1 <= 5; decide⟩ rfl ?_;refine zaa ?_;have hds:NR n3 l3 n4 l4 [cs].flatten:=by simpa using hN4
   exact ⟨c4,k,n,e,s,n4,rows ++ [cs],ks ++ [w],[],hc4,⟨rfl,rfl,rfl,trivial⟩,rfl,(NR.kids hn ht2 (hN13.row7 7) hds).vcs,.inr (by have:=hN4.n2 hn3; omega),hK.er,hK.gd hwf.1 hwf.2.1 hwf.2.2.1 (fun h8 => by rw [length_append,length_singleton]; omega) (by rw [length_append,length_singleton]; omega) (by omega) (by rw [length_append,length_singleton]; omega),by rw [length_append,length_singleton]; omega⟩
  refine zas rfl rfl (beq_eq_false_iff_ne.2 k2) ?_;refine mF ?_;refine mO ?_;by_cases k3:r = 3
  ·refine zal rfl rfl (beq_iff_eq.2 k3) ?_
   refine mT ?_;refine mO ?_;refine po_g rfl (lstr_g (T:=T) (hT:=hT) [97]) ?_;rintro x b' n4 l4 ⟨hb4,rfl,hn4,hl4⟩
   subst hb4; subst hn4; subst hl4
   refine po_g rfl (int_g (T:=T) (hT:=hT) 1) ?_;rintro x b' n4 l4 ⟨hb4,rfl,hn4,hl4⟩
   subst hb4; subst hn4; subst hl4
   refine po_g rfl (lstr_g (T:=T) (hT:=hT) [97]) ?_;rintro x b' n4 l4 ⟨hb4,rfl,hn4,hl4⟩
   subst hb4; subst hn4; subst hl4
   refine po_g rfl (int_g (T:=T) (hT:=hT) 2) ?_;rintro x b' n4 l4 ⟨hb4,rfl,hn4,hl4⟩
   subst hb4; subst hn4; subst hl4
   refine zao (es:=[vL 5 0 0 [97],vL 3 1 0 [],vL 5 0 0 [97],vL 3 2 0 []]) rfl ?_;refine po_s (v:=.ag (vcs 8 0 0 [] n4 [vL 5 0 0 [97],vL 3 1 0 [],vL 5 0 0 [97],vL 3 2 0 []])) rfl rfl rfl ?_;refine zaO (p:=1) (cs:=vcs 8 0 0 [] n4 [vL 5 0 0 [97],vL 3 1 0 [],vL 5 0 0 [97],vL 3 2 0 []]) rfl rfl rfl rfl rfl rfl ?_;refine mN ?_;have hNl:=NR.lit (es:=[vL 5 0 0 [97],vL 3 1 0 [],vL 5 0 0 [97],vL 3 2 0 []]) hn (hN13.forget.plain rfl rfl)
   have hK:Kd 10 [vL 5 0 0 [97],vL 3 1 0 [],vL 5 0 0 [97],vL 3 2 0 []] [.mk 5 0 0 [97] [],.mk 3 1 0 [] [],.mk 5 0 0 [97] [],.mk 3 2 0 [] []]:=by
    have one:∀ (a m:Int) (z:L8),i64ok a -> i64ok m -> z.length <= 1 -> Kd 1 [vL a m 0 z] [.mk a m 0 z []]:=fun a m z ha hm hz => Kd.one zb3 (zbC ha hm (zam (by omega)) hz (by decide))
    exact ((one 5 0 [97] (zam (by omega)) (zam (by omega)) lR).app ((one 3 1 [] (zam (by omega)) (zam (by omega)) (Nat.zero_le _)).app ((one 5 0 [97] (zam (by omega)) (zam (by omega)) lR).app (one 3 2 [] (zam (by omega)) (zam (by omega)) (Nat.zero_le _))))).mono (by decide)
   exact zah ⟨.inr rfl,[.ag (vcs 8 0 0 [] n4 [vL 5 0 0 [97],vL 3 1 0 [],vL 5 0 0 [97],vL 3 2 0 []])],rfl,zbu hc3 (hNl.plain (by simpa [ownedL,vcs,PC.owned,pI,pS] using hNl.own) rfl) (zer hK 8 0 0 []) (hK.gd (zam (by omega)) (zam (by omega)) (zam (by omega)) (fun _ => by decide) (by decide) (by decide) (by decide)) ⟨_,_,_,_,n4,_,rfl,.inr hn3⟩ (by show 4 <= 302; decide)⟩
  refine zas rfl rfl (beq_eq_false_iff_ne.2 k3) ?_;refine mF ?_;refine mO ?_;by_cases k4:r = 4
  ·refine zal rfl rfl (beq_iff_eq.2 k4) ?_
   refine mT ?_;refine mQ ?_;refine po_g rfl ((hBl 3).use ⟨trivial,trivial⟩ hc3 hn3 (p:=0) rfl) ?_;rintro x bx n4 l4 ⟨c4,rfl,hc4,v,rfl,v0,v1,hN4⟩;obtain ⟨v,rfl⟩:∃ k':Nat,v = k':=⟨v.toNat,by omega⟩;refine zat (n:=((11 + v:Nat):Int)) rfl rfl rfl (by omega) (by omega) ?_;refine mN ?_;refine mP ?_;refine zad ?_;refine zav (fun m st => ∃ (i t:Nat) (k n e:Int) (s:L8) (rows:LP PC) (ks:List V),i <= 11 + v /\ m = 11 + v - i /\ has st.tm [(0,.ref 0 0),(2,.ref 1 0),(3,.ref 2 0),(4,.d (pI ((11 + v:Nat):Int))),(5,.d (pI i))] /\ st.bx = c4 :: zV :: vcs k n e s t rows :: [] /\ NR nt live st.nt st.live (vcs k n e s t rows) /\ (t = 1 /\ rows = [] \/ 2 <= t) /\ erLL rows = vK ks /\ Gd (1500 + i) (.mk k n e s ks) /\ ks.length <= 302) (11 + v) ⟨0,t,k,n,e,s,rows,ks,Nat.zero_le _,rfl,⟨rfl,rfl,rfl,rfl,rfl,trivial⟩,rfl,hN13.pass hN4,ht2,hrows,hg,by omega⟩ ?_
   rintro m tm bx n5 l5 ⟨i,t,k,n,e,s,rows,ks,hi,rfl,ht,hbx,hN5,ht2,hrows,hg,hk302⟩;obtain ⟨tm1,rfl⟩:=zaf ht;simp only at hbx hN5; subst hbx
   clear ht;refine mM ?_;(iterate 2 refine mS ?_);refine po_b rfl rfl (fun q hq => ?_);refine zaa ?_;refine zbt (p:=(i:Int) < ((11 + v:Nat):Int)) hq rfl (fun him _ => ?_) (fun him _ => ?_)
   rotate_left
   ·refine zaA ?_
    exact ⟨c4,k,n,e,s,t,rows,ks,[],hc4,⟨rfl,rfl,rfl,trivial⟩,rfl,hN5,ht2,hrows,hg.mono (by omega),hk302⟩
   refine zaj ?_;refine zak (zad (zae ?_));refine zaW (p:=2) (cs:=vcs k n e s t rows) rfl rfl rfl rfl ?_;refine zao (es:=[vcs k n e s t rows]) rfl ?_;refine po_s (v:=.ag (vcs 7 0 0 [] n5 [vcs k n e s t rows])) rfl rfl rfl ?_;refine zaO (p:=2) (cs:=vcs 7 0 0 [] n5 [vcs k n e s t rows]) rfl rfl rfl rfl rfl rfl ?_;refine zaa ?_;refine zae ?_;refine mS ?_;refine zat (n:=((i + 1:Nat):Int)) rfl rfl rfl (by omega) (by omega) ?_;refine mN ?_;have hNl:=NR.lit (es:=[vcs k n e s t rows]) hn (by simpa using hN5);have hK:Kd (1500 + i) [vcs k n e s t rows] [.mk k n e s ks]:=Kd.one (zer (hg.kd hrows) k n e s) hg;exact ⟨_,by show 11 + v - (i + 1) < 11 + v - i; omega,i + 1,n5,7,0,0,[],[vcs k n e s t rows],[.mk k n e s ks],by omega,rfl,⟨rfl,rfl,rfl,rfl,rfl,trivial⟩,rfl,hNl.plain (by simpa [ownedL,vcs,PC.owned,pI,pS] using hNl.own) rfl,.inr (by have:=hN5.n2 hn; omega),hK.er,hK.gd (zam (by omega)) (zam (by omega)) (zam (by omega)) (fun h => by cases h) (by simp) (by simp) (by simp only [length_nil,length_singleton]; omega),by simp⟩
  refine zas rfl rfl (beq_eq_false_iff_ne.2 k4) ?_;refine mF ?_;refine mO ?_;by_cases k5:r = 5
  ·refine zal rfl rfl (beq_iff_eq.2 k5) ?_
   refine mT ?_;refine mQ ?_;refine po_g rfl ((hBl 3).use ⟨trivial,trivial⟩ hc3 hn3 (p:=0) rfl) ?_;rintro x bx n4 l4 ⟨c4,rfl,hc4,v,rfl,v0,v1,hN4⟩;obtain ⟨v,rfl⟩:∃ k':Nat,v = k':=⟨v.toNat,by omega⟩;refine zat (n:=((298 + v:Nat):Int)) rfl rfl rfl (by omega) (by omega) ?_;refine mN ?_;refine mO ?_;refine po_s (v:=.ag (vRow 7 1 [])) rfl rfl rfl ?_;refine zaO (p:=2) (cs:=vRow 7 1 []) rfl rfl rfl rfl rfl rfl ?_;refine zaa ?_;refine mP ?_;refine zad ?_;refine zav (fun m st => ∃ (i t:Nat) (rows:LP PC) (ks:List V),i <= 298 + v /\ m = 298 + v - i /\ has st.tm [(0,.ref 0 0),(2,.ref 1 0),(3,.ref 2 0),(6,.d (pI ((298 + v:Nat):Int))),(7,.d (pI i))] /\ st.bx = c4 :: zV :: vRow 7 t rows :: [] /\ NR nt live st.nt st.live (vRow 7 t rows) /\ (t = 1 /\ rows = [] \/ 2 <= t) /\ Kd 0 rows ks /\ ks.length = i) (298 + v) ⟨0,1,[],[],Nat.zero_le _,rfl,⟨rfl,rfl,rfl,rfl,rfl,trivial⟩,rfl,(hN13.pass hN4).forget.row0,.inl ⟨rfl,rfl⟩,Kd.nil,rfl⟩ ?_
   rintro m tm bx n5 l5 ⟨i,t,rows,ks,hi,rfl,ht,hbx,hN5,ht2,hK,hkl⟩;obtain ⟨tm1,rfl⟩:=zaf ht;simp only at hbx hN5; subst hbx
   clear ht;refine mM ?_;(iterate 2 refine mS ?_);refine po_b rfl rfl (fun q hq => ?_);refine zaa ?_;refine zbt (p:=(i:Int) < ((298 + v:Nat):Int)) hq rfl (fun him _ => ?_) (fun him _ => ?_)
   rotate_left
   ·refine zaA ?_
    exact ⟨c4,7,0,0,[],t,rows,ks,[],hc4,⟨rfl,rfl,rfl,trivial⟩,rfl,hN5,ht2,hK.er,hK.gd (zam (by omega)) (zam (by omega)) (zam (by omega)) (fun h => by cases h) (by omega) (by simp) (by simp only [length_nil]; omega),by omega⟩
   refine zaj ?_;refine zak (zad (zae ?_));refine mS ?_;refine zaS (cs:=vRow 7 t rows) (v:=.d (.sl t rows)) rfl rfl rfl (by show 4 + 1 <= 5; decide) rfl ?_;refine po_s (v:=.ag (vL 0 0 0 [])) rfl rfl rfl ?_;refine zao (es:=[vL 0 0 0 []]) rfl ?_;refine zbi (t:=t) (t':=n5) (es:=rows) (ds:=[vL 0 0 0 []]) rfl rfl ((NR.rowt ht2 hN5).imp id fun h => mem_cons_of_mem _ h) (by rw [hK.len]; simp only [length_cons,length_nil]; omega) (fun e he => by simp only [mem_singleton] at he; subst he; rfl) hK.wid ?_;refine mS ?_;refine zaP (p:=2) (o':=4) (cs:=[.sl (n5 + 1) (rows ++ [vL 0 0 0 []])]) (z:=vRow 7 t rows) rfl rfl rfl ⟨rfl,by show 4 + 1 <= 5; decide⟩ rfl ?_;refine zaa ?_;refine zae ?_;refine mS ?_;refine zat (n:=((i + 1:Nat):Int)) rfl rfl rfl (by omega) (by omega) ?_;refine mN ?_;exact ⟨_,by show 298 + v - (i + 1) < 298 + v - i; omega,i + 1,n5 + 1,rows ++ [vL 0 0 0 []],ks ++ [.mk 0 0 0 [] []],by omega,rfl,⟨rfl,rfl,rfl,rfl,rfl,trivial⟩,rfl,NR.kids hn ht2 hN5 (ds:=[vL 0 0 0 []]) ((NR.refl n5 l5).up.plain rfl rfl),.inr (by have:=hN5.n2 hn; omega),(hK.app (Kd.one (cs:=vL 0 0 0 []) (v:=.mk 0 0 0 [] []) zb3 (zbC (B:=0) (k:=0) (n:=0) (e:=0) (s:=[]) (zam (by omega)) (zam (by omega)) (zam (by omega)) (Nat.le_refl 0) (by decide)))).mono lR,by rw [length_append,length_singleton]; omega⟩
  refine zas rfl rfl (beq_eq_false_iff_ne.2 k5) ?_;refine mK ?_;exact keep c3 hc3 _ ⟨rfl,rfl,rfl,trivial⟩ rfl hN13
 rintro tm bx n3 l3 ⟨c3,k,n,e,s,t,rows,ks,rest,hc3,ht,hbx,hN3,ht2,hrows,hg,hk⟩;obtain ⟨tm1,rfl⟩:=zaf ht;simp only at hbx hN3; subst hbx
 clear ht;refine mO ?_;refine zaW (p:=2) (cs:=vcs k n e s t rows) rfl rfl rfl rfl ?_;refine zaO (p:=1) (cs:=vcs k n e s t rows) rfl rfl rfl rfl rfl rfl ?_;refine mN ?_;exact zah ⟨.inr rfl,[.ag (vcs k n e s t rows)],rfl,zbu hc3 hN3 (zer (hg.kd hrows) k n e s) hg ⟨_,_,_,_,t,rows,rfl,ht2⟩ hk⟩
end
section

end
section
variable {T:World -> Prop} {hT:Low ngl T}
attribute [local irreducible] po mw pt
theorem er_sl {c:PC} {x:LP PC} (h:c.er = .sl 0 x):∃ t rows,c = .sl t rows /\ erLL rows = x:=by
 cases c <;> simp [PC.er] at h
 exact ⟨_,_,rfl,h⟩
theorem vform {cs:List PC} {v:V} (he:erL cs = vC v):∃ (t:Nat) (rows:LP PC),cs = vcs v.kind v.num v.exp v.text t rows /\ erLL rows = vK v.kids:=by
 have hl:=zbv he
 match cs,hl with
 | [a,b,c,d,e],_ =>
  simp only [erL,vC,cons.injEq,and_true] at he;obtain ⟨h1,h2,h3,h4,h5⟩:=he;obtain ⟨t,rows,rfl,h6⟩:=er_sl h5;refine ⟨t,rows,?_,h6⟩;rw [er_v h1,er_v h2,er_v h3,er_v h4]; rfl
theorem vlw_aux:∀ (N:Nat) (v:V),v.nodes <= N -> ∀ (cs:List PC),erL cs = vC v -> lwL 0 cs:=by
 intro N
 induction N with
 | zero => intro v hv; have:=v.nodes_pos; omega
 | succ N ih =>
  intro v hv cs he;obtain ⟨t,rows,rfl,hr⟩:=vform he
  have:∀ (ls:List V) (rs:LP PC),(∀ x ∈ ls,x.nodes <= N) -> erLL rs = vK ls -> lwLL 0 rs:=by
   intro ls
   induction ls with
   | nil => intro rs _ h; match rs,h with | [],_ => simp only [lwLL]
   | cons x ls ih2 =>
    intro rs hx h
    match rs,h with
    | r :: rs,h =>
     simp only [erLL,vK,map_cons,cons.injEq] at h;simp only [lwLL];exact ⟨ih x (hx x (by simp)) r (by rw [h.1,V.pc_eq]),ih2 rs (fun y hy => hx y (by simp [hy])) h.2⟩
  have h2:=this v.kids rows (fun x hx => by
   obtain ⟨i,hi,rfl⟩:=List.getElem_of_mem hx;exact V.nodes_kid hv i hi) hr
  simp only [vcs,lwL,PC.lw,pI,pS,and_true,true_and];exact h2
theorem vlw {v:V} {cs:List PC} (h:erL cs = vC v):lwL 0 cs:=vlw_aux v.nodes v lR cs h
theorem slw {rows:LP PC} {ks:List V} (t:Nat) (he:erLL rows = vK ks):PV.lw 0 (.d (.sl t rows)):=by
 have:=vlw (v:=.mk 0 0 0 [] ks) (cs:=vcs 0 0 0 [] t rows) (by
  show [pI 0,pI 0,pI 0,pS [],.sl 0 (erLL rows)] = _;rw [he]; rfl)
 simp only [vcs,lwL,PC.lw,pI,pS,and_true,true_and] at this;exact this
end
section
def m_i_SumOf:M:=so [qo 1 (.box 0),qo 2 (.mv (.c (.int .u32 0)))] (.seq (so [qL 3 5 1,qc 4 34 [3] 1,qo 5 (.not 4)] (.cond 5 (so [qo 2 (.mv (.c (.int .u32 0)))] .ret) .skip)) (so [qL 6 5 1,qc 7 36 [6] 1,qc 8 35 [7] 1,qc 9 15 [8] 1,qm 2 9] .ret))
theorem lk_i_SumOf:look Tryz.prog 17 = some (10,m_i_SumOf,[.tm 2]):=by kernel_rfl
def m_i_sorted:M:=so [qo 1 (.box 0),⟨some 2,.zero [.int .i64 0,.int .i64 0,.int .i64 0,.string ⟨[].toArray⟩,.slice none 0 0],none,[]⟩] (so [qL 7 5 1,⟨some 3,.zero [.int .i64 0,.int .i64 0,.int .i64 0,.string ⟨[].toArray⟩,.slice none 0 0],none,[]⟩,qS 5 3 7] (so [qF 8 4 3,⟨none,.store 1 8 (.c (.slice none 0 0)),none,[]⟩] (.seq (so [qF 9 4 1,ql 10 1 9,qo 11 (.len 10),qo 12 (.mv (ci 0))] (.block 0 (.loop (so [qo 13 (.bin .lss false 12 11)] (.seq (.cond 13 .skip (.exit 0)) (.seq (.block 1 (so [qo 14 (.ix 5 10 12),qL 15 5 14,⟨some 5,.zero [.int .i64 0,.int .i64 0,.int .i64 0,.string ⟨[].toArray⟩,.slice none 0 0],none,[]⟩,qS 5 5 15] (.ops [qF 16 4 3,ql 17 1 16,qL 18 5 5,⟨some 19,.call 36 [18],none,[.f 0,16]⟩,qo 20 (.litq 5 [19]),⟨some 21,.app 5 17 20,none,[.f 0]⟩,qF 22 4 3,qS 1 22 21]))) (.ops [qo 23 (.bin .add false 12 (ci 1)),qm 12 23]))))))) (.seq (so [qF 24 0 1,ql 25 1 24,qo 26 (.bin .eql false 25 (ci 8))] (.cond 26 (so [qL 27 5 3,qc 28 55 [27] 1,qm 6 28] (so [qm 29 6,qc 30 56 [29,.f 57] 1] (so [qm 31 6,qc 32 59 [31] 1,qS 5 2 32] .ret))) .skip)) (so [qL 33 5 3,qS 5 2 33] .ret)))))
theorem zf8:look Tryz.prog 36 = some (34,m_i_sorted,[.cell true 5 2]):=by kernel_rfl
def m_i_pairsOf:M:=so [qo 1 (.box 0),qo 2 (.mv (.c (.slice none 0 0)))] (so [qo 5 (.lit 10 []),qm 3 5] (.seq (so [qo 4 (.mv (ci 0))] (.block 0 (.loop (.seq (so [qm 6 4,qo 7 (.bin .add false 6 (ci 1)),qF 8 4 1,ql 9 1 8,qo 10 (.len 9),qo 11 (.bin .lss false 7 10)] (.cond 11 .skip (.exit 0))) (.seq (.block 1 (.ops [qm 14 3,qF 15 4 1,ql 16 1 15,qm 17 4,qo 18 (.ix 5 16 17),qL 19 5 18,qF 20 4 1,ql 21 1 20,qm 22 4,qo 23 (.bin .add false 22 (ci 1)),qo 24 (.ix 5 21 23),qL 25 5 24,⟨some 26,.build [.int .i64 0,.int .i64 0,.int .i64 0,.string ⟨[].toArray⟩,.slice none 0 0,.int .i64 0,.int .i64 0,.int .i64 0,.string ⟨[].toArray⟩,.slice none 0 0] [(0,5,19),(5,5,25)],none,[]⟩,qo 27 (.litq 10 [26]),⟨some 28,.app 10 14 27,none,[.f 0]⟩,qm 3 28])) (.ops [qm 12 4,qo 13 (.bin .add false 12 (ci 2)),qm 4 13])))))) (so [qm 29 3,qm 2 29] .ret)))
theorem zfw:look Tryz.prog 55 = some (30,m_i_pairsOf,[.tm 2]):=by kernel_rfl
def m_slices_SortStableFunc_impl_pair_impl_pair:M:=.ops [qm 4 0,qm 5 0,qo 6 (.len 5),qm 7 1,qc 8 78 [4,6,7] 1]
theorem zaV:look Tryz.prog 56 = some (9,m_slices_SortStableFunc_impl_pair_impl_pair,[]):=by kernel_rfl
def m_i_sorted_1:M:=so [qo 2 (.box 0),qo 3 (.box 1),qo 4 (.mv (ci 0))] (so [qF 5 0 2,qL 6 5 5,qF 7 0 3,qL 8 5 7,qc 9 58 [6,8] 1,qm 4 9] .ret)
theorem zeZ:look Tryz.prog 57 = some (10,m_i_sorted_1,[.tm 4]):=by kernel_rfl
def m_i_Compare:M:=so [qo 2 (.box 0),qo 3 (.box 1),qo 4 (.mv (ci 0))] (so [qF 6 0 2,ql 7 1 6,qF 8 0 3,ql 9 1 8,qF 11 1 2,ql 12 1 11,qF 13 1 3,ql 14 1 13,qF 16 2 2,ql 17 1 16,qF 18 2 3,ql 19 1 18,qF 21 3 2,ql 22 1 21,qF 23 3 3,ql 24 1 23,qF 26 4 2,ql 27 1 26,qo 28 (.len 27),qF 29 4 3,ql 30 1 29,qo 31 (.len 30),⟨some 10,.call 80 [7,9],none,[.f 0,11,13,16,18,21,23,26,29]⟩,⟨some 15,.call 80 [12,14],none,[.f 0,16,18,21,23,26,29]⟩,⟨some 20,.call 80 [17,19],none,[.f 0,21,23,26,29]⟩,⟨some 25,.call 81 [22,24],none,[.f 0,26,29]⟩,qc 32 80 [28,31] 0,qo 33 (.lit 1 [10,15,20,25,32]),qc 34 79 [33] 0,qm 5 34] (.seq (so [qm 35 5,qo 36 (.bin .neq false 35 (ci 0))] (.cond 36 (so [qm 37 5,qm 4 37] .ret) .skip)) (so [qF 38 4 2,ql 39 1 38,qF 40 4 3,ql 41 1 40,qc 42 82 [39,41,.f 58] 1,qm 4 42] .ret)))
theorem zfx:look Tryz.prog 58 = some (43,m_i_Compare,[.tm 4]):=by kernel_rfl
def m_i_mapOf:M:=so [⟨some 2,.zero [.int .i64 0,.int .i64 0,.int .i64 0,.string ⟨[].toArray⟩,.slice none 0 0],none,[]⟩] (so [⟨some 6,.build [.int .i64 0,.int .i64 0,.int .i64 0,.string ⟨[].toArray⟩,.slice none 0 0] [(0,1,ci 8)],none,[]⟩,⟨some 3,.zero [.int .i64 0,.int .i64 0,.int .i64 0,.string ⟨[].toArray⟩,.slice none 0 0],none,[]⟩,qS 5 3 6] (.seq (so [qm 7 0,qo 8 (.len 7),qo 9 (.mv (ci 0))] (.block 0 (.loop (so [qo 10 (.bin .lss false 9 8)] (.seq (.cond 10 .skip (.exit 0)) (.seq (.block 1 (so [qo 11 (.ix 10 7 9),qL 12 10 11,⟨some 5,.zero [.int .i64 0,.int .i64 0,.int .i64 0,.string ⟨[].toArray⟩,.slice none 0 0,.int .i64 0,.int .i64 0,.int .i64 0,.string ⟨[].toArray⟩,.slice none 0 0],none,[]⟩,qS 10 5 12] (.ops [qF 13 4 3,ql 14 1 13,qF 15 0 5,qL 16 5 15,qF 17 5 5,qL 18 5 17,qo 19 (.lit 5 [16,18]),⟨some 20,.app 5 14 19,none,[.f 1]⟩,qF 21 4 3,qS 1 21 20]))) (.ops [qo 22 (.bin .add false 9 (ci 1)),qm 9 22]))))))) (so [qL 23 5 3,qS 5 2 23] .ret)))
theorem lk_i_mapOf:look Tryz.prog 59 = some (24,m_i_mapOf,[.cell true 5 2]):=by kernel_rfl
def m_slices_stableCmpFunc_impl_pair:M:=so [qo 6 (.mv (ci 20))] (so [qm 10 6,qo 7 (.mv (ci 0)),qm 8 10] (.seq (.block 0 (.loop (.seq (so [qm 11 8,qm 12 1,qo 13 (.bin .leq false 11 12)] (.cond 13 .skip (.exit 0))) (.block 1 (so [qm 14 0,qm 15 7,qm 16 8,qm 17 2,qc 18 97 [14,15,16,17] 1] (so [qm 19 8,qm 7 19] (.ops [qm 20 8,qm 21 6,qo 22 (.bin .add false 20 21),qm 8 22]))))))) (so [qm 23 0,qm 24 7,qm 25 1,qm 26 2,qc 27 97 [23,24,25,26] 1] (.block 2 (.loop (.seq (so [qm 28 6,qm 29 1,qo 30 (.bin .lss false 28 29)] (.cond 30 .skip (.exit 2))) (.block 3 (so [qm 31 6,qo 32 (.bin .mul false (ci 2) 31),qo 7 (.mv (ci 0)),qm 8 32] (.seq (.block 4 (.loop (.seq (so [qm 33 8,qm 34 1,qo 35 (.bin .leq false 33 34)] (.cond 35 .skip (.exit 4))) (.block 5 (so [qm 36 0,qm 37 7,qm 38 7,qm 39 6,qo 40 (.bin .add false 38 39),qm 41 8,qm 42 2,qc 43 98 [36,37,40,41,42] 1] (so [qm 44 8,qm 7 44] (.ops [qm 45 8,qm 46 6,qo 47 (.bin .mul false (ci 2) 46),qo 48 (.bin .add false 45 47),qm 8 48]))))))) (.seq (so [qm 49 7,qm 50 6,qo 51 (.bin .add false 49 50),qm 9 51] (so [qm 52 9,qm 53 1,qo 54 (.bin .lss false 52 53)] (.cond 54 (.ops [qm 55 0,qm 56 7,qm 57 9,qm 58 1,qm 59 2,qc 60 98 [55,56,57,58,59] 1]) .skip))) (.ops [qm 61 6,qo 62 (.bin .mul false 61 (ci 2)),qm 6 62])))))))))))
theorem zba:look Tryz.prog 78 = some (63,m_slices_stableCmpFunc_impl_pair,[]):=by kernel_rfl
def m_cmp_Or_int:M:=so [qo 2 (.mv (ci 0))] (so [qo 3 (.mv (ci 0))] (.seq (so [qm 6 0,qo 7 (.len 6),qo 8 (.mv (ci 0))] (.block 0 (.loop (so [qo 9 (.bin .lss false 8 7)] (.seq (.cond 9 .skip (.exit 0)) (.seq (.block 1 (so [qo 10 (.ix 1 6 8),ql 11 1 10,qm 5 11] (so [qm 12 5,qm 13 3,qo 14 (.bin .neq false 12 13)] (.cond 14 (so [qm 15 5,qm 2 15] .ret) .skip)))) (.ops [qo 16 (.bin .add false 8 (ci 1)),qm 8 16]))))))) (so [qm 17 3,qm 2 17] .ret)))
theorem ze0:look Tryz.prog 79 = some (18,m_cmp_Or_int,[.tm 2]):=by kernel_rfl
def m_cmp_Compare_int:M:=so [qo 4 (.mv (ci 0))] (so [qm 7 0,qc 8 99 [7] 1,qm 5 8] (so [qm 9 1,qc 10 99 [9] 1,qm 6 10] (.seq (so [qm 11 5] (.cond 11 (.seq (so [qm 12 6] (.cond 12 (so [qo 4 (.mv (ci 0))] .ret) .skip)) (so [qo 4 (.mv (ci (-1)))] .ret)) .skip)) (.seq (so [qm 13 6] (.cond 13 (so [qo 4 (.mv (ci 1))] .ret) .skip)) (.seq (so [qm 14 0,qm 15 1,qo 16 (.bin .lss false 14 15)] (.cond 16 (so [qo 4 (.mv (ci (-1)))] .ret) .skip)) (.seq (so [qm 17 0,qm 18 1,qo 19 (.bin .gtr false 17 18)] (.cond 19 (so [qo 4 (.mv (ci 1))] .ret) .skip)) (so [qo 4 (.mv (ci 0))] .ret)))))))
theorem zcG:look Tryz.prog 80 = some (20,m_cmp_Compare_int,[.tm 4]):=by kernel_rfl
def m_cmp_Compare_string:M:=so [qo 4 (.mv (ci 0))] (so [qm 7 0,qc 8 100 [7] 1,qm 5 8] (so [qm 9 1,qc 10 100 [9] 1,qm 6 10] (.seq (so [qm 11 5] (.cond 11 (.seq (so [qm 12 6] (.cond 12 (so [qo 4 (.mv (ci 0))] .ret) .skip)) (so [qo 4 (.mv (ci (-1)))] .ret)) .skip)) (.seq (so [qm 13 6] (.cond 13 (so [qo 4 (.mv (ci 1))] .ret) .skip)) (.seq (so [qm 14 0,qm 15 1,qo 16 (.bin .lss false 14 15)] (.cond 16 (so [qo 4 (.mv (ci (-1)))] .ret) .skip)) (.seq (so [qm 17 0,qm 18 1,qo 19 (.bin .gtr false 17 18)] (.cond 19 (so [qo 4 (.mv (ci 1))] .ret) .skip)) (so [qo 4 (.mv (ci 0))] .ret)))))))
theorem zb4:look Tryz.prog 81 = some (20,m_cmp_Compare_string,[.tm 4]):=by kernel_rfl
def m_slices_CompareFunc_impl_Value_impl_Value_impl_Value_impl_Value:M:=so [qo 6 (.mv (ci 0))] (.seq (so [qm 11 0,qo 12 (.len 11),qo 13 (.mv (ci 0))] (.block 0 (.loop (so [qo 14 (.bin .lss false 13 12)] (.seq (.cond 14 .skip (.exit 0)) (.seq (.block 1 (so [qm 15 13,qo 16 (.ix 5 11 13),qL 17 5 16,⟨some 8,.zero [.int .i64 0,.int .i64 0,.int .i64 0,.string ⟨[].toArray⟩,.slice none 0 0],none,[]⟩,qm 7 15,qS 5 8 17] (.seq (so [qm 18 7,qm 19 1,qo 20 (.len 19),qo 21 (.bin .geq false 18 20)] (.cond 21 (so [qo 6 (.mv (ci 1))] .ret) .skip)) (so [qm 22 1,qm 23 7,qo 24 (.ix 5 22 23),qL 25 5 24,⟨some 9,.zero [.int .i64 0,.int .i64 0,.int .i64 0,.string ⟨[].toArray⟩,.slice none 0 0],none,[]⟩,qS 5 9 25] (so [qm 26 2,qL 27 5 8,qL 28 5 9,⟨some 29,.callv 26 [27,28],none,[.f 1]⟩,qm 10 29] (so [qm 30 10,qo 31 (.bin .neq false 30 (ci 0))] (.cond 31 (so [qm 32 10,qm 6 32] .ret) .skip))))))) (.ops [qo 33 (.bin .add false 13 (ci 1)),qm 13 33]))))))) (.seq (so [qm 34 0,qo 35 (.len 34),qm 36 1,qo 37 (.len 36),qo 38 (.bin .lss false 35 37)] (.cond 38 (so [qo 6 (.mv (ci (-1)))] .ret) .skip)) (so [qo 6 (.mv (ci 0))] .ret)))
theorem zaD:look Tryz.prog 82 = some (39,m_slices_CompareFunc_impl_Value_impl_Value_impl_Value_impl_Value,[.tm 6]):=by kernel_rfl
def m_slices_insertionSortCmpFunc_impl_pair:M:=so [qm 10 1,qo 11 (.bin .add false 10 (ci 1)),qm 8 11] (.block 0 (.loop (.seq (so [qm 12 8,qm 13 2,qo 14 (.bin .lss false 12 13)] (.cond 14 .skip (.exit 0))) (.seq (.block 1 (so [qm 17 8,qm 9 17] (.block 2 (.loop (.seq (so [qm 18 9,qm 19 1,qo 20 (.bin .gtr false 18 19),qm 21 20,qg 22 3 21 true,qg 23 0 21 true,qg 24 9 21 true,⟨some 25,.ix 10 23 24,some (21,true),[]⟩,⟨some 26,.load true 10 25,some (21,true),[]⟩,qg 27 0 21 true,qg 28 9 21 true,⟨some 29,.bin .sub false 28 (ci 1),some (21,true),[]⟩,⟨some 30,.ix 10 27 29,some (21,true),[]⟩,⟨some 31,.load true 10 30,some (21,true),[]⟩,⟨some 32,.callv 22 [26,31],some (21,true),[.f 0]⟩,⟨some 33,.bin .lss false 32 (ci 0),some (21,true),[]⟩,qo 34 (.pick 21 33 (cB false))] (.cond 34 .skip (.exit 2))) (.seq (.block 3 (.ops [qm 37 0,qm 38 9,qm 39 0,qm 40 9,qo 41 (.bin .sub false 40 (ci 1)),qm 42 0,qm 43 9,qo 44 (.bin .sub false 43 (ci 1)),qo 45 (.ix 10 42 44),qL 46 10 45,qm 47 0,qm 48 9,qo 49 (.ix 10 47 48),qL 50 10 49,qo 51 (.ix 10 37 38),qS 10 51 46,qo 52 (.ix 10 39 41),qS 10 52 50])) (.ops [qm 35 9,qo 36 (.bin .sub false 35 (ci 1)),qm 9 36]))))))) (.ops [qm 15 8,qo 16 (.bin .add false 15 (ci 1)),qm 8 16])))))
theorem zaI:look Tryz.prog 97 = some (53,m_slices_insertionSortCmpFunc_impl_pair,[]):=by kernel_rfl
def m_cmp_isNaN_int:M:=so [qo 2 (.mv (cB false))] (so [qm 3 0,qm 4 0,qo 5 (.bin .neq false 3 4),qm 2 5] .ret)
theorem zdh:look Tryz.prog 99 = some (6,m_cmp_isNaN_int,[.tm 2]):=by kernel_rfl
def m_cmp_isNaN_string:M:=so [qo 2 (.mv (cB false))] (so [qm 3 0,qm 4 0,qo 5 (.bin .neq false 3 4),qm 2 5] .ret)
theorem zcq:look Tryz.prog 100 = some (6,m_cmp_isNaN_string,[.tm 2]):=by kernel_rfl
end
section
variable {T:World -> Prop} {hT:Low ngl T}
attribute [local irreducible] po mw pt
theorem zes:∀ {L:List Int},firstI L 0 ≠ 0 -> ∀ d,firstI L d = firstI L 0
 | [],h,_ => absurd rfl h
 | x :: r,h,d => by
  unfold firstI at h ⊢;by_cases hx:x ≠ 0
  ·rw [if_pos hx,if_pos hx]
  ·rw [if_neg hx] at h ⊢
   rw [if_neg hx]; exact zes h d
theorem zda:∀ {L:List Int} {d:Int},(∀ x ∈ L,x = 0) -> firstI L d = d
 | [],_,_ => rfl
 | x :: r,d,h => by
  unfold firstI;rw [if_neg (fun k => k (h x (mem_cons_self ..)))];exact zda fun y hy => h y (mem_cons_of_mem _ hy)
theorem vKlw (ks:List V):PV.lw 0 (.d (.sl 0 (vK ks))):=slw 0 (vK_er ks)
theorem set_lastE {α:Type} (l:List α) (a b:α):(l ++ [a]).set l.length b = l ++ [b]:=by
 rw [set_append_right _ _ lR,Nat.sub_self]; rfl
theorem nanI_fn (a:Int):FnV (env T hT) 99 [.d (pI a)] (.d (pB false)):=by
 refine zaX (zag zdh) (by show 1 <= 6; decide) fun B hB => ?_
 unfold m_cmp_isNaN_int;refine mP ?_;refine mO ?_;(iterate 2 refine mS ?_);refine zas rfl rfl (bne_self_eq_false _) ?_;refine mN ?_;exact mR
theorem nanS_fn (a:L8):FnV (env T hT) 100 [.d (pS a)] (.d (pB false)):=by
 refine zaX (zag zcq) (by show 1 <= 6; decide) fun B hB => ?_
 unfold m_cmp_isNaN_string;refine mP ?_;refine mO ?_;(iterate 2 refine mS ?_);refine zeq (la:=a) (lb:=a) rfl rfl rfl (decide_eq_false (fun h => h rfl)) ?_;refine mN ?_;exact mR
theorem zcH (a b:Int):FnV (env T hT) 80 [.d (pI a),.d (pI b)] (.d (pI (lessI a b))):=by
 refine zaX (zag zcG) (by show 2 <= 20; decide) fun B hB => ?_
 unfold m_cmp_Compare_int;refine mP ?_;refine mQ ?_;refine zab (args:=[.d (pI a)]) rfl (nanI_fn a) ?_;refine mN ?_;refine mQ ?_;refine zab (args:=[.d (pI b)]) rfl (nanI_fn b) ?_;refine mN ?_;refine mM ?_;refine mK ?_;refine mM ?_;refine mK ?_;refine mM ?_;(iterate 2 refine mS ?_);by_cases h:a < b
 ·refine zal rfl rfl (decide_eq_true (by omega)) ?_
  refine mT ?_;refine mP ?_;refine zah ⟨.inr rfl,[.d (pI (-1))],rfl,?_⟩;unfold lessI; rw [if_pos h]; rfl
 ·refine zas rfl rfl (decide_eq_false (by omega)) ?_
  refine mK ?_;refine mM ?_;(iterate 2 refine mS ?_);by_cases k:b < a
  ·refine zal rfl rfl (decide_eq_true (by omega)) ?_
   refine mT ?_;refine mP ?_;refine zah ⟨.inr rfl,[.d (pI 1)],rfl,?_⟩;unfold lessI; rw [if_neg h,if_pos k]; rfl
  ·refine zas rfl rfl (decide_eq_false (by omega)) ?_
   refine mK ?_;refine mP ?_;refine zah ⟨.inr rfl,[.d (pI 0)],rfl,?_⟩;unfold lessI; rw [if_neg h,if_neg k]; rfl
theorem cmpStr_fn (a b:L8):FnV (env T hT) 81 [.d (pS a),.d (pS b)] (.d (pI (lessT a b))):=by
 refine zaX (zag zb4) (by show 2 <= 20; decide) fun B hB => ?_
 unfold m_cmp_Compare_string;refine mP ?_;refine mQ ?_;refine zab (args:=[.d (pS a)]) rfl (nanS_fn a) ?_;refine mN ?_;refine mQ ?_;refine zab (args:=[.d (pS b)]) rfl (nanS_fn b) ?_;refine mN ?_;refine mM ?_;refine mK ?_;refine mM ?_;refine mK ?_;refine mM ?_;(iterate 2 refine mS ?_)
 cases h:Op.bytesLess a b with
 | true =>
  refine po_lsT (la:=a) (lb:=b) rfl rfl rfl h ?_;refine mT ?_;refine mP ?_;refine zah ⟨.inr rfl,[.d (pI (-1))],rfl,?_⟩
  unfold lessT; rw [if_pos h]; rfl
 | false =>
  refine po_lsT (la:=a) (lb:=b) rfl rfl rfl h ?_;refine mK ?_;refine mM ?_;(iterate 2 refine mS ?_);by_cases k:a = b
  ·refine po_gtT (la:=a) (lb:=b) (e:=false) rfl rfl rfl (by rw [h,k]; simp) ?_
   refine mK ?_;refine mP ?_;refine zah ⟨.inr rfl,[.d (pI 0)],rfl,?_⟩;rw [lessT_zero.2 k]; rfl
  ·refine po_gtT (la:=a) (lb:=b) (e:=true) rfl rfl rfl (by rw [h]; simpa using k) ?_
   refine mT ?_;refine mP ?_;refine zah ⟨.inr rfl,[.d (pI 1)],rfl,?_⟩
   have:Op.bytesLess b a = true:=by
    cases q:Op.bytesLess b a with
    | true => rfl
    | false => exact absurd (zbn a b h q) k
   unfold lessT; rw [if_neg (by rw [h]; decide),if_pos this]; rfl
theorem iC_er (L:List Int):erLL (iC L) = iC L:=by
 rw [za0]; unfold iC; rw [map_map]; rfl
def OrI (t:Nat) (L:List Int) (m:Nat) (st:St):Prop:=∃ i:Nat,i <= L.length /\ m = L.length - i /\ has st.tm [(3,.d (pI 0)),(6,.d (.sl t (iC L))),(7,.d (pI L.length)),(8,.d (pI i))] /\ firstI L 0 = firstI (L.drop i) 0
theorem orI_fn (L:List Int) (hl:L.length <= 1000):FnV (env T hT) 79 [.d (.sl 0 (iC L))] (.d (pI (firstI L 0))):=by
 refine zaX (zag ze0) (by show 1 <= 18; decide) fun B hB => ?_
 unfold m_cmp_Or_int;refine mP ?_;refine mP ?_;refine zaC (fun st => has st.tm [(3,.d (pI 0))] /\ firstI L 0 = 0) ?_ ?_
 ·refine mQ ?_
  refine zaH (n:=L.length) rfl rfl (by simp [iC]) ?_;refine mN ?_;refine zad ?_;refine zav (OrI 0 L) L.length ⟨0,Nat.zero_le _,rfl,⟨rfl,rfl,rfl,rfl,trivial⟩,rfl⟩ ?_;rintro m tm bx nt live ⟨i,hi,rfl,ht,hf⟩;obtain ⟨tm1,rfl⟩:=zaf ht;clear ht;refine mO ?_;refine po_b rfl rfl (fun q hq => ?_);refine zaa ?_;refine zak ?_;refine zbt (p:=(i:Int) < L.length) hq rfl (fun him _ => ?_) (fun him _ => ?_)
  rotate_left
  ·refine zaA ?_
   have:i = L.length:=by omega
   subst this;exact ⟨⟨rfl,trivial⟩,by rw [hf,drop_length]; rfl⟩
  have hia:i < L.length:=by omega
  refine zaj ?_;refine zak (zad ?_);refine mO ?_;refine za3 (es:=iC L) (e:=[pI L[i]]) rfl rfl rfl ⟨by omega,by rw [Int.toNat_natCast]; simp [iC,getElem?_eq_getElem hia]⟩ rfl ?_;refine mN ?_;refine mO ?_;(iterate 2 refine mS ?_);by_cases h0:L[i] = 0
  ·refine zas rfl rfl (by rw [h0]; exact bne_self_eq_false _) ?_
   refine mK ?_;refine zae ?_;refine zat (n:=((i + 1:Nat):Int)) rfl rfl rfl (by omega) (by omega) ?_;refine mN ?_;exact ⟨_,by show L.length - (i + 1) < L.length - i; omega,i + 1,by omega,rfl,⟨rfl,rfl,rfl,rfl,trivial⟩,by rw [hf,zbN hia,if_neg (fun h => h h0)]⟩
  ·refine zal rfl rfl (bne_iff_ne.2 h0) ?_
   refine mT ?_;refine mP ?_;refine zah ⟨.inr rfl,[.d (pI L[i])],rfl,?_⟩;rw [hf,zbN hia,if_pos h0]; rfl
 rintro tm bx nt live ⟨ht,hf⟩;obtain ⟨tm1,rfl⟩:=zaf ht;refine mP ?_;refine zah ⟨.inr rfl,[.d (pI 0)],rfl,?_⟩;rw [hf]; rfl
/-! ### the order -/
def CiP (T:World -> Prop) (hT:Low ngl T) (N:Nat):Prop:=∀ a b:V,a.nodes <= N -> a.nodes <= 4294967295 -> FnV (env T hT) 58 [.ag (vC a),.ag (vC b)] (.d (pI (V.cmp a b)))
def CfI (ks ls:List V) (m:Nat) (st:St):Prop:=∃ i:Nat,i <= ks.length /\ m = ks.length - i /\ has st.tm [(1,.d (.sl 0 (vK ls))),(2,.fn 58 []),(11,.d (.sl 0 (vK ks))),(12,.d (pI ks.length)),(13,.d (pI i))] /\ V.cmps ks ls = V.cmps (ks.drop i) (ls.drop i)
theorem cmpF_g {N:Nat} (ih:CiP T hT N) (ks ls:List V) (hk:∀ x ∈ ks,x.nodes <= N /\ x.nodes <= 4294967295) (hl:ks.length = ls.length) (hb:ks.length <= 4294967295) (nt:Nat) (live:List Nat) :
  FnG (env T hT) 82 [.d (.sl 0 (vK ks)),.d (.sl 0 (vK ls)),.fn 58 []] [] nt live (fun x _ n l => x.lw 0 /\ x = .d (pI (V.cmps ks ls)) /\ n = nt /\ l = live):=by
 refine zaY (zag zaD) (by show 3 <= 39; decide) fun B hB => ?_
 unfold m_slices_CompareFunc_impl_Value_impl_Value_impl_Value_impl_Value;refine mP ?_;refine zaC (fun st => has st.tm [(0,.d (.sl 0 (vK ks))),(1,.d (.sl 0 (vK ls)))] /\ st.nt = nt /\ st.live = live /\ V.cmps ks ls = 0) ?_ ?_
 ·refine zaC (fun st => has st.tm [(0,.d (.sl 0 (vK ks))),(1,.d (.sl 0 (vK ls))),(2,.fn 58 []),(11,.d (.sl 0 (vK ks))),(12,.d (pI ks.length)),(13,.d (pI 0))] /\ st.nt = nt /\ st.live = live) ?_ ?_
  ·refine zae ?_
   refine mS ?_;refine zaH (n:=ks.length) rfl rfl (zaU _) ?_;refine mN ?_;exact ⟨⟨rfl,rfl,rfl,rfl,rfl,rfl,trivial⟩,rfl,rfl⟩
  rintro tm bx n1 l1 ⟨ht,hn,hl1⟩;obtain ⟨tm0,rfl⟩:=zaf ht;simp only at hn hl1; subst hn; subst hl1
  clear ht;refine zad ?_;refine zav (fun m st => CfI ks ls m st /\ st.tm 0 = .d (.sl 0 (vK ks)) /\ st.nt = n1 /\ st.live = l1) ks.length ⟨⟨0,Nat.zero_le _,rfl,⟨rfl,rfl,rfl,rfl,rfl,trivial⟩,rfl⟩,rfl,rfl,rfl⟩ ?_;rintro m tm bx n2 l2 ⟨⟨i,hi,rfl,ht,hf⟩,h0s,hn,hl1⟩;have ht:has tm [(0,.d (.sl 0 (vK ks))),(1,.d (.sl 0 (vK ls))),(2,.fn 58 []),(11,.d (.sl 0 (vK ks))),(12,.d (pI ks.length)),(13,.d (pI i))]:=⟨h0s,ht⟩;clear h0s;obtain ⟨tm1,rfl⟩:=zaf ht;simp only at hn hl1; subst hn; subst hl1
  clear ht tm0;refine mO ?_;refine po_b rfl rfl (fun q hq => ?_);refine zaa ?_;refine zak ?_;refine zbt (p:=(i:Int) < ks.length) hq rfl (fun him _ => ?_) (fun him _ => ?_)
  rotate_left
  ·refine zaA ?_
   have:i = ks.length:=by omega
   subst this;exact ⟨⟨rfl,rfl,trivial⟩,rfl,rfl,by rw [hf,drop_length]; unfold V.cmps; rfl⟩
  have hia:i < ks.length:=by omega
  have hib:i < ls.length:=by omega
  obtain ⟨hk1,hk2⟩:=hk _ (getElem_mem hia);rw [V.cmps_drop hia hib] at hf;refine zaj ?_;refine zak (zad ?_);refine mQ ?_;refine za3 (es:=vK ks) (e:=vC ks[i]) rfl rfl rfl ⟨by omega,by rw [Int.toNat_natCast]; exact zby hia⟩ rfl ?_;refine mS ?_;refine zbZ ?_;refine mS ?_;refine zaO (cs:=vC ks[i]) (z:=[pI 0,pI 0,pI 0,pS [],.sl 1 []]) rfl rfl (zbB _ _) rfl rfl rfl ?_;refine zaa ?_;refine mM ?_;(iterate 2 refine mS ?_);refine zaH (n:=ls.length) rfl rfl (zaU _) ?_;refine zas rfl rfl (decide_eq_false (by omega)) ?_;refine mK ?_;refine mO ?_;(iterate 2 refine mS ?_);refine za3 (es:=vK ls) (e:=vC ls[i]) rfl rfl rfl ⟨by omega,by rw [Int.toNat_natCast]; exact zby hib⟩ rfl ?_;refine mS ?_;refine zed (cs:=vC ls[i]) rfl rfl rfl rfl ?_;refine zaa ?_;refine mQ ?_;refine zaW (cs:=vC ks[i]) rfl rfl (by rw [set_lastE,getElem?_append_left (by simp)]; exact zbB _ _) rfl ?_
  refine zaW (cs:=vC ls[i]) rfl rfl (zbB _ _) rfl ?_;refine po_v (f:=58) (cap:=[]) rfl (by kernel_rfl) (dats2 (zco _) (zco _)) (ih ks[i] ls[i] hk1 hk2) ?_;refine mN ?_;refine mQ ?_;by_cases h0:V.cmp ks[i] ls[i] = 0
  ·refine zas rfl rfl (by rw [h0]; exact bne_self_eq_false _) ?_
   refine mK ?_;refine zae ?_;refine zat (n:=((i + 1:Nat):Int)) rfl rfl rfl (by omega) (by omega) ?_;refine mN ?_;exact ⟨_,by show ks.length - (i + 1) < ks.length - i; omega,⟨i + 1,by omega,rfl,⟨rfl,rfl,rfl,rfl,rfl,trivial⟩,by rw [hf,if_neg (fun h => h h0)]⟩,rfl,rfl,rfl⟩
  ·refine zal rfl rfl (bne_iff_ne.2 h0) ?_
   refine mT ?_;refine mP ?_;exact zah ⟨.inr rfl,[.d (pI (V.cmp ks[i] ls[i]))],rfl,trivial,by rw [hf,if_pos h0]; rfl,rfl,rfl⟩
 rintro tm bx n1 l1 ⟨ht,hn,hl1,hf⟩;obtain ⟨tm0,rfl⟩:=zaf ht;simp only at hn hl1; subst hn; subst hl1
 clear ht;refine mM ?_;refine mS ?_;refine zaH (n:=ks.length) rfl rfl (zaU _) ?_;refine mS ?_;refine zaH (n:=ls.length) rfl rfl (zaU _) ?_;refine zas rfl rfl (decide_eq_false (by omega)) ?_;refine mK ?_;refine mP ?_;exact zah ⟨.inr rfl,[.d (pI 0)],rfl,trivial,by rw [hf]; rfl,rfl,rfl⟩
theorem cmpI_step {N:Nat} (ih:CiP T hT N):CiP T hT (N + 1):=by
 intro a b hn hbn;have hnk:=V.nodes_eq0 a;have hkn:=V.kids_nodes a.kids;refine zaX (zag zfx) (by show 2 <= 43; decide) fun B hB => ?_
 unfold m_i_Compare;refine mO ?_;refine zbb (cs:=vC a) rfl ?_;refine zbb (cs:=vC b) rfl ?_;refine mN ?_;refine mO ?_;(iterate 18 refine mS ?_);refine zaH (n:=a.kids.length) rfl rfl (zaU _) ?_;(iterate 2 refine mS ?_);refine zaH (n:=b.kids.length) rfl rfl (zaU _) ?_;refine zab (zb1 a.kind b.kind) (zcH _ _) ?_;refine zab (zb1 a.num b.num) (zcH _ _) ?_;refine zab (zb1 a.exp b.exp) (zcH _ _) ?_;refine zab (dats_ss a.text b.text) (cmpStr_fn _ _) ?_;refine zab (zb1 a.kids.length b.kids.length) (zcH _ _) ?_;refine zao (es:=iC (cmpL a b)) rfl ?_;refine zab (args:=[.d (.sl 0 (iC (cmpL a b)))]) (by show some [PV.d (.sl 0 (erLL (iC (cmpL a b))))] = _; rw [iC_er]) (orI_fn (cmpL a b) (by show 5 <= 1000; decide)) ?_;refine mN ?_;have hcmp:=V.cmp_eq a b;have hlen:lessI a.kids.length b.kids.length ∈ cmpL a b:=by simp [cmpL]
 have hfz:firstI (cmpL a b) 0 ≠ 0 -> ∀ d,firstI (cmpL a b) d = firstI (cmpL a b) 0:=zes;generalize cmpL a b = L at hcmp hlen hfz;refine mM ?_;refine mS ?_;by_cases h0:firstI L 0 = 0
 case neg =>
  refine zal rfl rfl (bne_iff_ne.2 h0) ?_;refine mT ?_;refine mP ?_;exact zah ⟨.inr rfl,[.d (pI (firstI L 0))],rfl,by rw [hcmp,hfz h0]; rfl⟩
 refine zas rfl rfl (by rw [h0]; exact bne_self_eq_false _) ?_;refine mK ?_;have hz:=firstI_zero.1 h0
 have hll:a.kids.length = b.kids.length:=by
  have:=lessI_zero.1 (hz.1 _ hlen); omega
 have hcc:V.cmp a b = V.cmps a.kids b.kids:=by rw [hcmp]; exact zda hz.1
 refine mO ?_;(iterate 4 refine mS ?_)
 refine po_g rfl (FnG.lift0 (R:=fun x n l => x = .d (pI (V.cmps a.kids b.kids)) /\ n = _ /\ l = _) (cmpF_g ih a.kids b.kids (fun x hx => by
  obtain ⟨i,hi,rfl⟩:=List.getElem_of_mem hx;exact ⟨V.nodes_kid hn i hi,by have:=V.nodes_get a.kids i hi; omega⟩) hll (by omega) _ _) ⟨vKlw _,vKlw _,trivial,trivial⟩) ?_
 rintro x b' n2 l2 ⟨rfl,rfl,rfl,rfl⟩;refine mN ?_;exact zah ⟨.inr rfl,[.d (pI (V.cmps a.kids b.kids))],rfl,by rw [hcc]; rfl⟩
theorem cmpI_fn (a b:V) (hb:a.nodes <= 4294967295):FnV (env T hT) 58 [.ag (vC a),.ag (vC b)] (.d (pI (V.cmp a b))):=by
 have all:∀ N,CiP T hT N:=by
  intro N
  induction N with
  | zero => intro a b hn; have:=a.nodes_pos; omega
  | succ N ih => exact cmpI_step ih
 exact all a.nodes a b lR hb
end
section
def v00:V:=.mk 0 0 0 [] []
def posP (out:List V) (x:V):Nat -> Nat
 | 0 => 0
 | j + 1 => if 0 < V.cmp (out.getD (2 * j) v00) x then posP out x j else j + 1
def insP (out:List V) (x y:V):List V:=out.take (2 * posP out x (out.length / 2)) ++ [x,y] ++ out.drop (2 * posP out x (out.length / 2))
def insPs:List V -> List V -> List V
 | out,x :: y :: r => insPs (insP out x y) r
 | out,_ => out
mutual
def V.sort:V -> V
 | .mk k n e s kids => .mk k n e s (if k = 8 then insPs [] (V.sorts kids) else V.sorts kids)
def V.sorts:List V -> List V
 | [] => []
 | v :: vs => V.sort v :: V.sorts vs
end
theorem V.sorts_map:∀ vs:List V,V.sorts vs = vs.map V.sort
 | [] => rfl
 | v :: vs => by simp [V.sorts,V.sorts_map vs]
theorem za8 (a b:Int):lessI a b = - lessI b a:=by unfold lessI; split <;> split <;> omega
theorem zch:∀ a b:L8,Op.bytesLess a b = true -> Op.bytesLess b a = false
 | [],[],h => by simp [Op.bytesLess] at h
 | [],y :: b,_ => by simp [Op.bytesLess]
 | x :: a,[],h => by simp [Op.bytesLess] at h
 | x :: a,y :: b,h => by
  simp only [Op.bytesLess,Bool.or_eq_true,Bool.and_eq_true,decide_eq_true_eq,beq_iff_eq] at h;simp only [Op.bytesLess,Bool.or_eq_false_iff,Bool.and_eq_false_iff,decide_eq_false_iff_not,beq_eq_false_iff_ne]
  rcases h with h | ⟨rfl,h⟩
  ·have h:x.toNat < y.toNat:=h
   exact ⟨fun k => by have k:y.toNat < x.toNat:=k; omega,.inl fun e => by subst e; omega⟩
  ·exact ⟨fun k => by have k:x.toNat < x.toNat:=k; omega,.inr (zch a b h)⟩
theorem zet (a b:L8):lessT a b = - lessT b a:=by
 unfold lessT
 cases h1:Op.bytesLess a b <;> cases h2:Op.bytesLess b a <;> simp
 rw [zch a b h1] at h2; cases h2
theorem zcr {d d':Int} (hd:d = - d'):∀ {l l':List Int},l = l'.map (- ·) -> firstI l d = - firstI l' d'
 | [],[],_ => hd
 | [],_ :: _,h => by simp at h
 | _ :: _,[],h => by simp at h
 | x :: r,x' :: r',h => by
  simp only [map_cons,cons.injEq] at h;unfold firstI;rw [zcr hd h.2,h.1];by_cases hx:x' = 0
  ·subst hx; simp
  ·rw [if_pos (by omega),if_pos hx]
mutual
theorem V.cmp_anti:∀ a b:V,V.cmp a b = - V.cmp b a
 | .mk k n e s ks,.mk k' n' e' s' ks' => by
  unfold V.cmp;by_cases hl:ks.length = ks'.length
  ·refine zcr (V.cmps_anti ks ks' hl) ?_
   simp only [map_cons,map_nil];rw [<- za8,<- za8,<- za8,<- zet,<- za8]
  ·have hne:lessI ks.length ks'.length ≠ 0:=fun h => hl (by have:=lessI_zero.1 h; omega)
   have hne':lessI ks'.length ks.length ≠ 0:=fun h => hl (by have:=lessI_zero.1 h; omega)
   have:=zcr (d:=0) (d':=0) rfl (l:=[lessI k k',lessI n n',lessI e e',lessT s s',lessI ks.length ks'.length]) (l':=[lessI k' k,lessI n' n,lessI e' e,lessT s' s,lessI ks'.length ks.length]) (by
    simp only [map_cons,map_nil];rw [<- za8,<- za8,<- za8,<- zet,<- za8])
   have drop:∀ (l:List Int) (x d:Int),x ≠ 0 -> firstI (l ++ [x]) d = firstI (l ++ [x]) 0:=by
    intro l x d hx
    induction l with
    | nil => simp [firstI,hx]
    | cons a r ih => simp only [cons_append,firstI]; split; rfl; exact ih
   have e1:=drop [lessI k k',lessI n n',lessI e e',lessT s s'] _ (V.cmps ks ks') hne;have e2:=drop [lessI k' k,lessI n' n,lessI e' e,lessT s' s] _ (V.cmps ks' ks) hne';simp only [cons_append,nil_append] at e1 e2;rw [e1,e2]; exact this
theorem V.cmps_anti:∀ a b:List V,a.length = b.length -> V.cmps a b = - V.cmps b a
 | [],[],_ => rfl
 | [],y :: b,h => by simp at h
 | x :: a,[],h => by simp at h
 | x :: a,y :: b,h => by
  have h1:=V.cmp_anti x y;have h2:=V.cmps_anti a b (by simpa using h);unfold V.cmps;by_cases hx:V.cmp y x = 0
  ·rw [if_neg (by omega),if_neg (by omega)]; exact h2
  ·rw [if_pos (by omega),if_pos hx]; exact h1
end
theorem zdS (out:List V) (x:V):∀ j,posP out x j <= j
 | 0 => lR
 | j + 1 => by unfold posP; split; exact Nat.le_succ_of_le (zdS out x j); exact lR
theorem posP_lo (out:List V) (x:V):∀ j i,posP out x j = i + 1 -> V.cmp (out.getD (2 * i) v00) x <= 0
 | 0,i,h => by simp [posP] at h
 | j + 1,i,h => by
  unfold posP at h
  split at h
  ·exact posP_lo out x j i h
  ·obtain rfl:i = j:=by omega
   omega
theorem posP_hi (out:List V) (x:V):∀ j i,posP out x j <= i -> i < j -> 0 < V.cmp (out.getD (2 * i) v00) x
 | 0,i,_,h => by omega
 | j + 1,i,h,hi => by
  unfold posP at h
  split at h
  ·by_cases e:i = j
   ·subst e; assumption
   ·exact posP_hi out x j i h (by omega)
  ·omega
theorem zca (out:List V) (x y:V):(insP out x y).length = out.length + 2:=by
 have:=zdS out x (out.length / 2)
 unfold insP; simp only [length_append,length_take,length_drop,length_cons,length_nil]; omega
theorem zeu:∀ (kids out:List V),out.length % 2 = 0 -> (insPs out kids).length % 2 = 0
 | [],_,h => by simpa [insPs] using h
 | [_],_,h => by simpa [insPs] using h
 | x :: y :: r,out,h => by rw [insPs]; exact zeu r _ (by rw [zca]; omega)
theorem insP_mem {out:List V} {x y z:V} (h:z ∈ insP out x y):z ∈ out \/ z = x \/ z = y:=by
 unfold insP at h;simp only [mem_append,mem_cons,not_mem_nil,or_false] at h
 rcases h with (h | h) | h
 ·exact .inl (mem_of_mem_take h)
 ·exact .inr h
 ·exact .inl (mem_of_mem_drop h)
theorem zbw:∀ (kids out:List V) (z:V),z ∈ insPs out kids -> z ∈ out \/ z ∈ kids
 | [],out,z,h => by simp only [insPs] at h; exact .inl h
 | [_],out,z,h => by simp only [insPs] at h; exact .inl h
 | x :: y :: r,out,z,h => by
  rw [insPs] at h
  rcases zbw r _ z h with h | h
  ·rcases insP_mem h with h | rfl | rfl
   ·exact .inl h
   ·exact .inr (by simp)
   ·exact .inr (by simp)
  ·exact .inr (by simp [h])
def OrdP (l:List V):Prop:=∀ i,2 * (i + 1) < l.length -> V.cmp (l.getD (2 * i) v00) (l.getD (2 * (i + 1)) v00) <= 0
theorem insP_get {out:List V} {x y:V} (hl:out.length % 2 = 0) (i:Nat):(insP out x y).getD (2 * i) v00 = if i < posP out x (out.length / 2) then out.getD (2 * i) v00 else if i = posP out x (out.length / 2) then x else out.getD (2 * (i - 1)) v00:=by
 have hp:=zdS out x (out.length / 2);unfold insP;generalize posP out x (out.length / 2) = p at hp;have ht:(out.take (2 * p)).length = 2 * p:=by rw [length_take]; omega
 simp only [getD_eq_getElem?_getD];by_cases h1:i < p
 ·rw [if_pos h1,append_assoc,getElem?_append_left (by omega),getElem?_take,if_pos (by omega)]
 ·rw [if_neg h1]
  by_cases h2:i = p
  ·subst h2
   rw [if_pos rfl,append_assoc,getElem?_append_right (by omega),ht,Nat.sub_self]; rfl
  ·rw [if_neg h2,append_assoc,getElem?_append_right (by omega),ht,getElem?_append_right (by simp only [length_cons,length_nil]; omega),getElem?_drop]
   simp only [length_cons,length_nil];rw [show 2 * p + (2 * i - 2 * p - (0 + 1 + 1)) = 2 * (i - 1) by omega]
theorem insP_ord {out:List V} {x y:V} (hl:out.length % 2 = 0) (h:OrdP out):OrdP (insP out x y):=by
 intro i hi;rw [zca] at hi;rw [insP_get hl,insP_get hl];have hp:=zdS out x (out.length / 2);have hlo:=posP_lo out x (out.length / 2);have hhi:=posP_hi out x (out.length / 2);generalize posP out x (out.length / 2) = p at hp hlo hhi;by_cases h1:i + 1 < p
 ·rw [if_pos (by omega),if_pos h1]; exact h i (by omega)
 by_cases h2:i + 1 = p
 ·rw [if_pos (by omega),if_neg (by omega),if_pos h2]; exact hlo i h2.symm
 by_cases h3:i = p
 ·subst h3
  rw [if_neg (by omega),if_pos rfl,if_neg (by omega),if_neg (by omega),show i + 1 - 1 = i by omega]
  have:=hhi i lR (by omega)
  have:=V.cmp_anti x (out.getD (2 * i) v00)
  omega
 ·rw [if_neg (by omega),if_neg h3,if_neg (by omega),if_neg (by omega)]
  have:=h (i - 1) (by omega)
  rw [show i - 1 + 1 = i by omega] at this;rw [show i + 1 - 1 = i by omega]; exact this
theorem zfy:∀ (kids out:List V),out.length % 2 = 0 -> OrdP out -> OrdP (insPs out kids)
 | [],_,_,h => by simpa [insPs] using h
 | [_],_,_,h => by simpa [insPs] using h
 | x :: y :: r,out,hl,h => by rw [insPs]; exact zfy r _ (by rw [zca]; omega) (insP_ord hl h)
theorem ordP_id:∀ (kids out:List V),out.length % 2 = 0 -> kids.length % 2 = 0 -> OrdP (out ++ kids) -> insPs out kids = out ++ kids
 | [],out,_,_,_ => by simp [insPs]
 | [_],out,_,h,_ => by simp at h
 | x :: y :: r,out,hl,hk,h => by
  have hins:insP out x y = out ++ [x,y]:=by
   have:posP out x (out.length / 2) = out.length / 2:=by
    cases hm:out.length / 2 with
    | zero => rfl
    | succ m =>
     unfold posP;rw [if_neg];have hh:=h m (by simp only [length_append,length_cons]; omega);simp only [getD_eq_getElem?_getD] at hh ⊢;rw [getElem?_append_left (by omega),show 2 * (m + 1) = out.length by omega,getElem?_append_right (by omega),Nat.sub_self] at hh;simp only [getElem?_cons_zero,Option.getD_some] at hh;omega
   unfold insP;rw [this,show 2 * (out.length / 2) = out.length by omega,take_length,drop_length,append_nil]
  rw [insPs,hins,ordP_id r _ (by simp only [length_append,length_cons,length_nil]; omega) (by simp only [length_cons] at hk; omega) (by simpa using h)];simp
theorem V.sort_sort:∀ (N:Nat) (v:V),v.nodes <= N -> v.sort.sort = v.sort
 | 0,v,h => by have:=v.nodes_pos; omega
 | N + 1,.mk k n e s kids,h => by
  simp only [V.nodes] at h
  have hk:∀ z ∈ V.sorts kids,z.sort = z:=fun z hz => by
   rw [V.sorts_map] at hz;obtain ⟨y,hy,rfl⟩:=mem_map.1 hz;obtain ⟨i,hi,rfl⟩:=mem_iff_getElem.1 hy
   have:=V.nodes_get kids i hi
   exact V.sort_sort N _ (by omega)
  have hid:∀ l:List V,(∀ z ∈ l,z.sort = z) -> V.sorts l = l:=fun l hl => by
   rw [V.sorts_map]; exact (map_congr_left hl).trans (map_id l)
  simp only [V.sort];by_cases h8:k = 8
  ·rw [if_pos h8,if_pos h8]
   have hm:∀ z ∈ insPs [] (V.sorts kids),z.sort = z:=fun z hz => (zbw _ _ z hz).elim (fun h => by cases h) (hk z)
   rw [hid _ hm,ordP_id _ [] rfl (zeu _ _ rfl) (by
    rw [nil_append]; exact zfy _ _ rfl (fun i hi => by simp at hi))]
   rfl
  ·rw [if_neg h8,if_neg h8,hid _ hk]
theorem zdq:∀ (a b:List V),a.length % 2 = 0 -> odds (a ++ b) = odds a ++ odds b
 | [],b,_ => rfl
 | [_],b,h => by simp at h
 | x :: y :: r,b,h => by simp only [cons_append,odds]; rw [zdq r b (by simp only [length_cons] at h; omega)]
theorem insP_perm {out:List V} {x y:V} (hl:out.length % 2 = 0):(odds (insP out x y)).Perm (x :: odds out):=by
 have hp:=zdS out x (out.length / 2);unfold insP;generalize posP out x (out.length / 2) = p at hp;have ht:(out.take (2 * p)).length = 2 * p:=by rw [length_take]; omega
 rw [zdq _ _ (by simp only [length_append,ht,length_cons,length_nil]; omega),zdq _ _ (by omega)]
 have:odds out = odds (out.take (2 * p)) ++ odds (out.drop (2 * p)):=by rw [<- zdq _ _ (by omega),take_append_drop]
 rw [this];show (odds (out.take (2 * p)) ++ [x] ++ odds (out.drop (2 * p))).Perm _;rw [append_assoc];exact List.perm_middle
theorem zev:∀ (kids out:List V),out.length % 2 = 0 -> kids.length % 2 = 0 -> (odds (insPs out kids)).Perm (odds out ++ odds kids)
 | [],out,_,_ => by simp [insPs,odds]
 | [_],_,_,h => by simp at h
 | x :: y :: r,out,hl,hk => by
  rw [insPs];refine (zev r _ (by rw [zca]; omega) (by simp only [length_cons] at hk; omega)).trans ?_;refine ((insP_perm hl).append_right _).trans ?_;simp only [odds,cons_append];exact List.perm_middle.symm
theorem zbG:∀ (kids out:List V),kids.length % 2 = 0 -> (insPs out kids).length = out.length + kids.length
 | [],out,_ => by simp [insPs]
 | [_],_,h => by simp at h
 | x :: y :: r,out,hk => by
  rw [insPs,zbG r _ (by simp only [length_cons] at hk; omega),zca];simp only [length_cons]; omega
theorem insP_sum (g:V -> Nat) (gs:List V -> Nat) (h0:gs [] = 0) (hc:∀ v vs,gs (v :: vs) = g v + gs vs) (out:List V) (x y:V):gs (insP out x y) = gs out + g x + g y:=by
 have happ:∀ a b:List V,gs (a ++ b) = gs a + gs b:=by
  intro a b
  induction a with
  | nil => rw [h0]; simp
  | cons v vs ih => rw [cons_append,hc,hc,ih]; omega
 unfold insP;generalize posP out x (out.length / 2) = p;rw [happ,happ,hc,hc,h0]
 have:=happ (out.take (2 * p)) (out.drop (2 * p))
 rw [take_append_drop] at this;omega
theorem zdT (g:V -> Nat) (gs:List V -> Nat) (h0:gs [] = 0) (hc:∀ v vs,gs (v :: vs) = g v + gs vs):∀ (kids out:List V),kids.length % 2 = 0 -> gs (insPs out kids) = gs out + gs kids
 | [],out,_ => by rw [h0]; simp [insPs]
 | [_],_,h => by simp at h
 | x :: y :: r,out,hk => by
  rw [insPs,zdT g gs h0 hc r _ (by simp only [length_cons] at hk; omega),insP_sum g gs h0 hc,hc,hc]; omega
theorem V.sorts_length (vs:List V):(V.sorts vs).length = vs.length:=by rw [V.sorts_map,length_map]
theorem V.sort_ok:∀ (N:Nat) (d:Int) (v:V),v.nodes <= N -> V.rightBy pairsOk d v = true -> V.rightBy pairsOk d v.sort = true /\ v.sort.nodes = v.nodes /\ v.sort.bulk = v.bulk /\ (isKeyK v.kind = true -> v.sort = v)
 | 0,_,v,h,_ => by have:=v.nodes_pos; omega
 | N + 1,d,.mk k n e s kids,hn,hr => by
  obtain ⟨hk,hs⟩:=V.right_at hr;simp only [V.nodes] at hn
  have hkid:∀ y ∈ kids,V.rightBy pairsOk (d - 1) y.sort = true /\ y.sort.nodes = y.nodes /\ y.sort.bulk = y.bulk /\ (isKeyK y.kind = true -> y.sort = y):=fun y hy => by
   obtain ⟨i,hi,rfl⟩:=mem_iff_getElem.1 hy
   have:=V.nodes_get kids i hi
   exact V.sort_ok N (d - 1) _ (by omega) (hk _ hy)
  have h0:0 <= d:=by
   simp only [V.rightBy,Bool.and_eq_true,decide_eq_true_eq] at hr; exact hr.2.1
  have hnod:V.nodess (V.sorts kids) = V.nodess kids:=by
   have:∀ l:List V,(∀ y ∈ l,y.sort.nodes = y.nodes) -> V.nodess (V.sorts l) = V.nodess l:=by
    intro l
    induction l with
    | nil => intro _; rfl
    | cons a r ih => intro h; simp only [V.sorts,V.nodess]; rw [h a (by simp),ih fun y hy => h y (by simp [hy])]
   exact this kids fun y hy => (hkid y hy).2.1
  have hblk:V.bulks (V.sorts kids) = V.bulks kids:=by
   have:∀ l:List V,(∀ y ∈ l,y.sort.bulk = y.bulk) -> V.bulks (V.sorts l) = V.bulks l:=by
    intro l
    induction l with
    | nil => intro _; rfl
    | cons a r ih => intro h; simp only [V.sorts,V.bulks]; rw [h a (by simp),ih fun y hy => h y (by simp [hy])]
   exact this kids fun y hy => (hkid y hy).2.2.1
  have hall:∀ z ∈ V.sorts kids,V.rightBy pairsOk (d - 1) z = true:=fun z hz => by
   rw [V.sorts_map] at hz;obtain ⟨y,hy,rfl⟩:=mem_map.1 hz;exact (hkid y hy).1
  by_cases h8:k = 8
  ·subst h8
   obtain ⟨rfl,rfl,rfl,h2,h5⟩:=V.self_eight hs
   have hp:pairsOk kids = true:=by
    unfold V.self V.selfBy at hs;simp at hs; exact hs
   have hev:(V.sorts kids).length % 2 = 0:=by rw [V.sorts_length]; exact h2
   have hodd:odds (V.sorts kids) = odds kids:=by
    have hkey:∀ x ∈ odds kids,x.sort = x:=fun x hx => by
     obtain ⟨j,hj,rfl⟩:=mem_iff_getElem.1 hx;rw [za7] at hj;rw [zdm kids j (by omega)];exact (hkid _ (getElem_mem _)).2.2.2 (h5 j (by omega))
    have hm:odds (V.sorts kids) = (odds kids).map V.sort:=by
     rw [V.sorts_map]
     have:∀ l:List V,odds (l.map V.sort) = (odds l).map V.sort:=by
      intro l
      induction l using odds.induct with
      | case1 => rfl
      | case2 => rfl
      | case3 x y r ih => simp only [map_cons,odds,ih]
     exact this kids
    rw [hm]; exact (map_congr_left hkey).trans (map_id _)
   have hperm:=zev (V.sorts kids) [] rfl hev;rw [hodd] at hperm;simp only [odds,nil_append] at hperm;have hlen:=zbG (V.sorts kids) [] hev;rw [V.sorts_length,length_nil,Nat.zero_add] at hlen;have hn2:=zdT V.nodes V.nodess rfl (fun _ _ => rfl) (V.sorts kids) [] hev;have hb2:=zdT V.bulk V.bulks rfl (fun _ _ => rfl) (V.sorts kids) [] hev;simp only [V.nodess,V.bulks,Nat.zero_add] at hn2 hb2
   have hpo:pairsOk (insPs [] (V.sorts kids)) = true:=by
    unfold pairsOk uniq at hp ⊢;simp only [Bool.and_eq_true,decide_eq_true_eq,all_eq_true] at hp ⊢;obtain ⟨⟨p1,p2⟩,p3,p4⟩:=hp;exact ⟨⟨fun x hx => p1 x (hperm.mem_iff.1 hx),((hperm.map V.mark).nodup_iff).2 p2⟩,by omega,by omega⟩
   refine ⟨?_,?_,?_,fun h => by simp [V.kind,isKeyK] at h⟩
   ·simp only [V.sort,if_pos,V.rightBy,Bool.and_eq_true,decide_eq_true_eq]
    refine ⟨?_,h0,?_⟩
    ·rw [V.rightsBy_all,all_eq_true]
     exact fun z hz => (zbw _ _ z hz).elim (fun h => by cases h) (hall z)
    ·unfold V.selfBy
     simp only [if_neg (show ¬ ((8:Int) = 0 \/ (8:Int) = 1 \/ (8:Int) = 2) by decide),if_neg (show ¬ (8:Int) = 3 by decide),if_neg (show ¬ (8:Int) = 4 by decide),if_neg (show ¬ (8:Int) = 5 by decide),if_neg (show ¬ (8:Int) = 6 by decide),if_neg (show ¬ (8:Int) = 7 by decide),if_pos,decide_true,Bool.true_and,hpo]
   ·simp only [V.sort,if_pos,V.nodes]; rw [hn2,hnod]
   ·simp only [V.sort,if_pos,V.bulk]; rw [hb2,hblk,hlen]
  ·have es:V.sort (.mk k n e s kids) = .mk k n e s (V.sorts kids):=by simp only [V.sort,if_neg h8]
   have hself:V.selfBy pairsOk (.mk k n e s (V.sorts kids)) = true:=by
    unfold V.self at hs
    have e1:decide (V.sorts kids = []) = decide (kids = []):=by
     cases kids <;> simp [V.sorts]
    unfold V.selfBy at hs ⊢;simp only [if_neg h8,e1,V.sorts_length] at hs ⊢;exact hs
   rw [es];refine ⟨?_,by simp only [V.nodes,hnod],by simp only [V.bulk,hblk,V.sorts_length],fun hk => ?_⟩
   ·simp only [V.rightBy,Bool.and_eq_true,decide_eq_true_eq]
    exact ⟨by rw [V.rightsBy_all,all_eq_true]; exact hall,h0,hself⟩
   ·have hkk:k = 5 \/ k = 3:=by
     simp only [isKeyK,Bool.or_eq_true,decide_eq_true_eq] at hk;exact hk
    have:=V.self_leaf hs (by omega) h8 (by omega)
    subst this; rfl
theorem V.sort_okT {v:V} (h:v.ok = true):v.sort.ok = true /\ v.sort.bulk = v.bulk:=by
 unfold V.ok at h ⊢;simp only [Bool.and_eq_true,decide_eq_true_eq] at h ⊢;obtain ⟨a,b,c,_⟩:=V.sort_ok v.nodes 12 v lR h.1;exact ⟨⟨a,by omega⟩,c⟩
end
section
def m_s_SumOf:M:=so [qo 1 (.box 0),qo 2 (.mv (.c (.int .u32 0)))] (.seq (so [qL 3 5 1,qc 4 37 [3] 1,qo 5 (.not 4)] (.cond 5 (so [qo 2 (.mv (.c (.int .u32 0)))] .ret) .skip)) (so [qL 6 5 1,qc 7 39 [6] 1,qc 8 38 [7] 1,qc 9 16 [8] 1,qm 2 9] .ret))
theorem lk_s_SumOf:look Tryz.prog 18 = some (10,m_s_SumOf,[.tm 2]):=by kernel_rfl
def m_s_Sorted:M:=so [qo 1 (.box 0),⟨some 2,.zero [.int .i64 0,.int .i64 0,.int .i64 0,.string ⟨[].toArray⟩,.slice none 0 0],none,[]⟩] (.seq (so [qL 3 5 1,qc 4 37 [3] 1,qo 5 (.not 4)] (.cond 5 (so [qL 6 5 1,qc 7 63 [6] 1,qS 5 2 7] .ret) .skip)) (so [qL 8 5 1,qc 9 64 [8] 1,qS 5 2 9] .ret))
theorem zf9:look Tryz.prog 39 = some (10,m_s_Sorted,[.cell true 5 2]):=by kernel_rfl
def m_s_l02Sort:M:=so [qo 1 (.box 0),⟨some 2,.zero [.int .i64 0,.int .i64 0,.int .i64 0,.string ⟨[].toArray⟩,.slice none 0 0],none,[]⟩] (so [qo 8 (.lit 5 []),qm 3 8] (.seq (so [qo 4 (.mv (ci 0))] (.block 0 (.loop (.seq (so [qm 9 4,qF 10 4 1,ql 11 1 10,qo 12 (.len 11),qo 13 (.bin .lss false 9 12)] (.cond 13 .skip (.exit 0))) (.seq (.block 1 (.ops [qm 16 3,qF 17 4 1,ql 18 1 17,qm 19 4,qo 20 (.ix 5 18 19),qL 21 5 20,qc 22 64 [21] 1,qo 23 (.lit 5 [22]),⟨some 24,.app 5 16 23,none,[.f 1]⟩,qm 3 24])) (.ops [qm 14 4,qo 15 (.bin .add false 14 (ci 1)),qm 4 15])))))) (.seq (so [qF 25 0 1,ql 26 1 25,qo 27 (.bin .eql false 26 (ci 8))] (.cond 27 (so [qo 28 (.lit 5 []),qm 5 28] (.seq (so [qo 6 (.mv (ci 0))] (.block 2 (.loop (.seq (so [qm 29 6,qm 30 3,qo 31 (.len 30),qo 32 (.bin .lss false 29 31)] (.cond 32 .skip (.exit 2))) (.seq (.block 3 (so [qm 35 5,qo 36 (.len 35),qm 7 36] (.seq (.block 4 (.loop (.seq (so [qm 37 7,qo 38 (.bin .gtr false 37 (ci 0)),qm 39 38,qg 40 5 39 true,qg 41 7 39 true,⟨some 42,.bin .sub false 41 (ci 2),some (39,true),[]⟩,⟨some 43,.ix 5 40 42,some (39,true),[]⟩,⟨some 44,.load true 5 43,some (39,true),[]⟩,qg 45 3 39 true,qg 46 6 39 true,⟨some 47,.ix 5 45 46,some (39,true),[]⟩,⟨some 48,.load true 5 47,some (39,true),[]⟩,⟨some 49,.call 88 [44,48],some (39,true),[.f 0]⟩,⟨some 50,.bin .gtr false 49 (ci 0),some (39,true),[]⟩,qo 51 (.pick 39 50 (cB false))] (.cond 51 .skip (.exit 4))) (.block 5 (.ops [qm 52 7,qo 53 (.bin .sub false 52 (ci 2)),qm 7 53]))))) (.ops [qm 55 5,qm 56 7,qo 57 (.slc 5 55 none (some 56)),qm 59 3,qm 60 6,qo 61 (.ix 5 59 60),qL 62 5 61,qm 63 3,qm 64 6,qo 65 (.bin .add false 64 (ci 1)),qo 66 (.ix 5 63 65),qL 67 5 66,qo 68 (.litq 5 [62,67]),qm 70 5,qm 71 7,qo 72 (.slc 5 70 (some 71) none),qo 54 (.lit 5 []),qo 58 (.app 5 54 57),⟨some 69,.app 5 58 68,none,[.f 0]⟩,⟨some 73,.app 5 69 72,none,[.f 0]⟩,qm 5 73])))) (.ops [qm 33 6,qo 34 (.bin .add false 33 (ci 2)),qm 6 34])))))) (.ops [qm 74 5,qm 3 74]))) .skip)) (so [qm 75 3,qF 76 4 1,qS 1 76 75] (so [qL 77 5 1,qS 5 2 77] .ret)))))
theorem zfz:look Tryz.prog 64 = some (78,m_s_l02Sort,[.cell true 5 2]):=by kernel_rfl
end
section
variable {T:World -> Prop} {hT:Low ngl T}
attribute [local irreducible] po mw pt
theorem zew (a b:List V):vK (a ++ b) = vK a ++ vK b:=by simp [vK]
theorem vK_take (a:List V) (i:Nat):vK (a.take i) = (vK a).take i:=by simp [vK,map_take]
theorem vK_drop (a:List V) (i:Nat):vK (a.drop i) = (vK a).drop i:=by simp [vK,map_drop]
theorem vK_two (x y:V):vK [x,y] = [vC x,vC y]:=by simp [vK,V.pc_eq]
theorem V.sorts_snoc {vs:List V} {i:Nat} (h:i < vs.length):V.sorts (vs.take (i + 1)) = V.sorts (vs.take i) ++ [vs[i].sort]:=by
 rw [take_succ_eq_append_getElem h,V.sorts_map,V.sorts_map,map_append]; rfl
theorem sort_vC (v:V):vC v.sort = [pI v.kind,pI v.num,pI v.exp,pS v.text,.sl 0 (vK (if v.kind = 8 then insPs [] (V.sorts v.kids) else V.sorts v.kids))]:=by
 obtain ⟨k,n,e,s,kids⟩:=v;simp only [V.sort]; rfl
theorem zcY:∀ (l out:List V) (x y:V),l.length % 2 = 0 -> insPs out (l ++ [x,y]) = insP (insPs out l) x y
 | [],out,x,y,_ => by simp [insPs]
 | [_],_,_,_,h => by simp at h
 | a :: b :: l,out,x,y,h => by
  show insPs (insP out a b) (l ++ [x,y]) = _;rw [zcY l _ x y (by simp only [length_cons] at h; omega)]; rfl
theorem take2 {ks:List V} {i:Nat} (h:2 * i + 1 < ks.length):ks.take (2 * (i + 1)) = ks.take (2 * i) ++ [ks[2 * i],ks[2 * i + 1]]:=by
 have h1:=take_succ_eq_append_getElem h;have h2:=take_succ_eq_append_getElem (show 2 * i < ks.length by omega);rw [show 2 * (i + 1) = 2 * i + 1 + 1 by omega,h1,h2,append_assoc]; rfl
structure Rgt (v:V):Prop where
 right:∃ d,V.rightBy pairsOk d v = true
 few:v.few
 small:v.nodes <= 300
theorem Rgt.kid {v:V} (h:Rgt v) (i:Nat) (hi:i < v.kids.length):Rgt v.kids[i]:=by
 obtain ⟨k,n,e,s,kids⟩:=v;obtain ⟨d,hd⟩:=h.right;have h1:=h.few; have h2:=h.small
 have h3:=V.nodes_get kids i hi;simp only [V.nodes] at h2;exact ⟨⟨d - 1,(V.right_at hd).1 _ (getElem_mem hi)⟩,(V.fews_all.1 h1.2) _ (getElem_mem hi),by show kids[i].nodes <= 300; omega⟩
theorem Rgt.even {v:V} (h:Rgt v) (h8:v.kind = 8):v.kids.length % 2 = 0 /\ v.kids.length <= 8:=by
 obtain ⟨k,n,e,s,kids⟩:=v;simp only [V.kind] at h8; subst h8
 obtain ⟨d,hd⟩:=h.right;exact ⟨(V.self_eight (V.right_at hd).2).2.2.2.1,h.few.1 rfl⟩
theorem Rgt.snodes {v:V} (h:Rgt v):v.sort.nodes = v.nodes:=by
 obtain ⟨d,hd⟩:=h.right;exact (V.sort_ok v.nodes d v lR hd).2.1
theorem Rgt.ks {v:V} (h:Rgt v):∀ z ∈ V.sorts v.kids,z.nodes <= 300:=fun z hz => by
 rw [V.sorts_map] at hz;obtain ⟨y,hy,rfl⟩:=mem_map.1 hz;obtain ⟨i,hi,rfl⟩:=List.getElem_of_mem hy;rw [(h.kid i hi).snodes]; exact (h.kid i hi).small
theorem Rgt.len {v:V} (h:Rgt v):v.kids.length <= 300:=by
 have:=h.small; have:=V.nodes_eq0 v; have:=V.kids_nodes v.kids; omega
theorem ok_rgt {v:V} (h:v.ok = true) (hf:v.few):Rgt v:=by
 unfold V.ok at h;simp only [Bool.and_eq_true,decide_eq_true_eq] at h;exact ⟨⟨12,h.1⟩,hf,h.2⟩
def SrP (T:World -> Prop) (hT:Low ngl T) (N:Nat):Prop:=∀ v:V,v.nodes <= N -> Rgt v -> FnV (env T hT) 64 [.ag (vC v)] (.ag (vC v.sort))
def SrI1 (v:V) (m:Nat) (st:St):Prop:=∃ i q:Nat,i <= v.kids.length /\ m = v.kids.length - i /\ has st.tm [(1,.ref 0 0),(2,.ref 1 0),(3,.d (.sl q (vK (V.sorts (v.kids.take i))))),(4,.d (pI i))] /\ st.bx = [vC v,zV] /\ q ∈ st.live
def SrI2 (v:V) (q:Nat) (ks:List V) (m:Nat) (st:St):Prop:=∃ i p:Nat,2 * i <= ks.length /\ m = ks.length - 2 * i /\ has st.tm [(1,.ref 0 0),(2,.ref 1 0),(3,.d (.sl q (vK ks))),(5,.d (.sl p (vK (insPs [] (ks.take (2 * i)))))),(6,.d (pI (2 * i:Nat)))] /\ st.bx = [vC v,zV]
def SrI3 (v:V) (q p i:Nat) (ks P:List V) (x:V) (m:Nat) (st:St):Prop:=∃ j:Nat,j <= P.length / 2 /\ m = j /\ has st.tm [(1,.ref 0 0),(2,.ref 1 0),(3,.d (.sl q (vK ks))),(5,.d (.sl p (vK P))),(6,.d (pI (2 * i:Nat))),(7,.d (pI (2 * j:Nat)))] /\ st.bx = [vC v,zV] /\ posP P x (P.length / 2) = posP P x j
theorem sort_step {N:Nat} (ih:SrP T hT N):SrP T hT (N + 1):=by
 intro v hn hr;have hkl:=hr.len;have hks:=hr.ks;have hsl:=V.sorts_length v.kids;refine zaX (zag zfz) (by show 1 <= 78; decide) fun B hB => ?_
 unfold m_s_l02Sort;refine mO ?_;refine zbb (cs:=vC v) rfl ?_;refine mN ?_;refine mO ?_;refine zao (es:=[]) rfl ?_;refine mN ?_;refine zaC (fun st => ∃ q:Nat,has st.tm [(1,.ref 0 0),(2,.ref 1 0),(3,.d (.sl q (vK (V.sorts v.kids))))] /\ st.bx = [vC v,zV]) ?_ ?_
 ·refine mP ?_
  refine zad ?_;refine zav (SrI1 v) v.kids.length ⟨0,2,Nat.zero_le _,rfl,⟨rfl,rfl,rfl,rfl,trivial⟩,rfl,mem_cons_self ..⟩ ?_;rintro m tm bx nt live ⟨i,q,hi,rfl,ht,hbx,hq⟩;obtain ⟨tm1,rfl⟩:=zaf ht;simp only at hbx hq; subst hbx
  clear ht;refine mM ?_;(iterate 3 refine mS ?_);refine zaH (n:=v.kids.length) rfl rfl (zaU _) ?_;refine po_b rfl rfl (fun b hb => ?_);refine zaa ?_;refine zbt (p:=(i:Int) < v.kids.length) hb rfl (fun him _ => ?_) (fun him _ => ?_)
  rotate_left
  ·refine zaA ?_
   have:i = v.kids.length:=by omega
   subst this;rw [take_length];exact ⟨q,⟨rfl,rfl,rfl,trivial⟩,rfl⟩
  have hia:i < v.kids.length:=by omega
  have hlen:(V.sorts (v.kids.take i)).length = i:=by rw [V.sorts_length,length_take]; omega
  refine zaj ?_;refine zak (zad (zae ?_));(iterate 4 refine mS ?_);refine za3 (es:=vK v.kids) (e:=vC v.kids[i]) rfl rfl rfl ⟨by omega,by rw [Int.toNat_natCast]; exact zby hia⟩ rfl ?_;refine mS ?_;refine zab (za1 _) (ih v.kids[i] (V.nodes_kid hn i hia) (hr.kid i hia)) ?_;refine zao (es:=vK [v.kids[i].sort]) (by rw [show vK [v.kids[i].sort] = [vC v.kids[i].sort] by simp [vK,V.pc_eq]]; exact litP1 rfl rfl) ?_;refine zbi (t:=q) (t':=nt) (es:=vK (V.sorts (v.kids.take i))) (ds:=vK [v.kids[i].sort]) rfl rfl (.inr (mem_cons_of_mem _ hq)) (by rw [zaU,zaU,hlen,length_singleton]; omega) (zbc _) (zbc _) ?_;rw [<- zew,<- V.sorts_snoc hia];refine mN ?_;refine zae ?_;refine mS ?_;refine zat (n:=((i + 1:Nat):Int)) rfl rfl rfl (by omega) (by omega) ?_;refine mN ?_;exact ⟨_,by show v.kids.length - (i + 1) < v.kids.length - i; omega,i + 1,nt + 1,by omega,rfl,⟨rfl,rfl,rfl,rfl,trivial⟩,rfl,mem_cons_self ..⟩
 rintro tm bx nt live ⟨q,ht,hbx⟩;obtain ⟨tm1,rfl⟩:=zaf ht;simp only at hbx; subst hbx
 clear ht;refine zaC (fun st => ∃ q:Nat,has st.tm [(1,.ref 0 0),(2,.ref 1 0),(3,.d (.sl q (vK (if v.kind = 8 then insPs [] (V.sorts v.kids) else V.sorts v.kids))))] /\ st.bx = [vC v,zV]) ?_ ?_
 ·refine mO ?_
  (iterate 2 refine mS ?_);by_cases h8:v.kind = 8
  case neg =>
   refine zas rfl rfl (beq_eq_false_iff_ne.2 h8) ?_;refine mK ?_;rw [if_neg h8];exact ⟨q,⟨rfl,rfl,rfl,trivial⟩,rfl⟩
  refine zal rfl rfl (beq_iff_eq.2 h8) ?_;refine mT ?_;rw [if_pos h8];obtain ⟨hev,h8l⟩:=hr.even h8;rw [<- hsl] at hev h8l;clear hsl;generalize V.sorts v.kids = ks at hev h8l hks;refine mO ?_;refine zao (es:=[]) rfl ?_;refine mN ?_;refine zaC (fun st => ∃ p:Nat,has st.tm [(1,.ref 0 0),(2,.ref 1 0),(5,.d (.sl p (vK (insPs [] ks))))] /\ st.bx = [vC v,zV]) ?_ ?_
  ·refine mP ?_
   refine zad ?_;refine zav (SrI2 v q ks) ks.length ⟨0,nt,Nat.zero_le _,rfl,⟨rfl,rfl,rfl,rfl,rfl,trivial⟩,rfl⟩ ?_;rintro m tm bx nt live ⟨i,p,hi,rfl,ht,hbx⟩;obtain ⟨tm2,rfl⟩:=zaf ht;simp only at hbx; subst hbx
   clear ht tm1;refine mM ?_;(iterate 2 refine mS ?_);refine zaH (n:=ks.length) rfl rfl (zaU _) ?_;refine po_b rfl rfl (fun b hb => ?_);refine zaa ?_;refine zbt (p:=((2 * i:Nat):Int) < ks.length) hb rfl (fun him _ => ?_) (fun him _ => ?_)
   rotate_left
   ·refine zaA ?_
    have:2 * i = ks.length:=by omega
    rw [this,take_length];exact ⟨p,⟨rfl,rfl,rfl,trivial⟩,rfl⟩
   have hi1:2 * i + 1 < ks.length:=by omega
   have hi0:2 * i < ks.length:=by omega
   have hPl:(insPs [] (ks.take (2 * i))).length = 2 * i:=by
    rw [zbG _ _ (by rw [length_take]; omega),length_nil,length_take]; omega
   have hPn:∀ z ∈ insPs [] (ks.take (2 * i)),z.nodes <= 300:=fun z hz => (zbw _ _ z hz).elim (fun h => by cases h) fun h => hks z (mem_of_mem_take h)
   have hsn:=zcY (ks.take (2 * i)) [] ks[2 * i] ks[2 * i + 1] (by rw [length_take]; omega);rw [<- take2 hi1] at hsn;generalize insPs [] (ks.take (2 * i)) = P at hPl hPn hsn;refine zaj ?_;refine zak (zad ?_);refine mQ ?_;refine zaH (n:=2 * i) rfl rfl (by rw [zaU]; exact hPl) ?_;refine mN ?_;have hP2:P.length / 2 = i:=by omega
   refine zaC (fun st => ∃ j:Nat,j <= i /\ has st.tm [(1,.ref 0 0),(2,.ref 1 0),(3,.d (.sl q (vK ks))),(5,.d (.sl p (vK P))),(6,.d (pI (2 * i:Nat))),(7,.d (pI (2 * j:Nat)))] /\ st.bx = [vC v,zV] /\ posP P ks[2 * i] (P.length / 2) = j) ?_ ?_
   ·refine zad ?_
    refine zav (SrI3 v q p i ks P ks[2 * i]) i ⟨i,by omega,rfl,⟨rfl,rfl,rfl,rfl,rfl,rfl,trivial⟩,rfl,by rw [hP2]⟩ ?_;rintro m tm bx nt live ⟨j,hj,rfl,ht,hbx,hpos⟩;obtain ⟨tm3,rfl⟩:=zaf ht;simp only at hbx; subst hbx
    clear ht tm2;refine zaC (fun st => has st.tm [(1,.ref 0 0),(2,.ref 1 0),(3,.d (.sl q (vK ks))),(5,.d (.sl p (vK P))),(6,.d (pI (2 * i:Nat))),(7,.d (pI (2 * m:Nat)))] /\ st.bx = [vC v,zV] /\ 0 < m /\ posP P ks[2 * i] (P.length / 2) = posP P ks[2 * i] (m - 1)) ?_ ?_
    ·refine mQ ?_
     by_cases h0:0 < m
     case neg =>
      obtain rfl:m = 0:=by omega
      refine zas rfl rfl (decide_eq_false (by omega)) ?_;refine mS ?_;refine mZ ?_;refine mF ?_;refine zaA ?_;exact ⟨0,Nat.zero_le _,⟨rfl,rfl,rfl,rfl,rfl,rfl,trivial⟩,rfl,hpos⟩
     obtain ⟨k,rfl⟩:∃ k,m = k + 1:=⟨m - 1,by omega⟩;have hkP:2 * k < P.length:=by omega
     refine zal rfl rfl (decide_eq_true (by omega)) ?_;(iterate 3 refine mS ?_);refine zbR (n:=((2 * k:Nat):Int)) rfl rfl rfl (by omega) (by omega) ?_;refine za3 (es:=vK P) (e:=vC P[2 * k]) rfl rfl rfl ⟨by omega,by rw [Int.toNat_natCast]; exact zby hkP⟩ rfl ?_;(iterate 3 refine mS ?_);refine za3 (es:=vK ks) (e:=vC ks[2 * i]) rfl rfl rfl ⟨by omega,by rw [Int.toNat_natCast]; exact zby hi0⟩ rfl ?_;refine mS ?_;refine za5 (b:=true) rfl (fun _ => dats2 (zco _) (zco _)) (fun _ => cmp_fn (T:=T) (hT:=hT) P[2 * k] ks[2 * i] (by have:=hPn _ (getElem_mem hkP); omega)) ?_;have hg:P.getD (2 * k) v00 = P[2 * k]:=by simp [getD,hkP]
     by_cases hc:0 < V.cmp P[2 * k] ks[2 * i]
     ·refine zal rfl rfl (decide_eq_true hc) ?_
      refine mT ?_;refine zaj ?_;refine ⟨⟨rfl,rfl,rfl,rfl,rfl,rfl,trivial⟩,rfl,by omega,?_⟩;rw [hpos,posP,hg,if_pos hc]; rfl
     ·refine zas rfl rfl (decide_eq_false hc) ?_
      refine mF ?_;refine zaA ?_;refine ⟨k + 1,by omega,⟨rfl,rfl,rfl,rfl,rfl,rfl,trivial⟩,rfl,?_⟩;rw [hpos,posP,hg,if_neg hc]
    rintro tm bx nt live ⟨ht,hbx,h0,hpos⟩;obtain ⟨tm4,rfl⟩:=zaf ht;simp only at hbx; subst hbx
    clear ht tm3;refine zad (zae ?_);refine mS ?_;refine zbR (n:=((2 * (m - 1):Nat):Int)) rfl rfl rfl (by omega) (by omega) ?_;refine mN ?_;exact ⟨_,by show m - 1 < m; omega,m - 1,by omega,rfl,⟨rfl,rfl,rfl,rfl,rfl,rfl,trivial⟩,rfl,hpos⟩
   rintro tm bx nt live ⟨j,hj,ht,hbx,hpos⟩;obtain ⟨tm3,rfl⟩:=zaf ht;simp only at hbx; subst hbx
   clear ht tm2
   have hE:vK [] ++ vK (P.take (2 * j)) ++ vK [ks[2 * i],ks[2 * i + 1]] ++ vK (P.drop (2 * j)) = vK (insPs [] (ks.take (2 * (i + 1)))):=by
    rw [hsn,insP,hpos,<- zew,<- zew,<- zew,nil_append]
   have ht1:(vK (P.take (2 * j))).length <= 8:=by rw [zaU,length_take]; omega
   have ht2:(vK (P.drop (2 * j))).length <= 8:=by rw [zaU,length_drop]; omega
   have ht3:(vK [ks[2 * i],ks[2 * i + 1]]).length = 2:=by rw [zaU]; rfl
   refine zae ?_;(iterate 2 refine mS ?_);refine po_slx (es:=vK P) (l:=0) (h:=2 * j) (rs:=vK (P.take (2 * j))) rfl rfl rfl (za9 (i:=((2 * j:Nat):Int)) rfl rfl) ⟨Nat.zero_le _,by rw [zaU]; omega⟩ (zbc _) (by rw [vK_take]; simp) ?_;(iterate 2 refine mS ?_);refine za3 (es:=vK ks) (e:=vC ks[2 * i]) rfl rfl rfl ⟨by omega,by rw [Int.toNat_natCast]; exact zby hi0⟩ rfl ?_;(iterate 3 refine mS ?_);refine zat (n:=((2 * i + 1:Nat):Int)) rfl rfl rfl (by omega) (by omega) ?_;refine za3 (es:=vK ks) (e:=vC ks[2 * i + 1]) rfl rfl rfl ⟨by omega,by rw [Int.toNat_natCast]; exact zby hi1⟩ rfl ?_;refine mS ?_;refine zcX (es:=vK [ks[2 * i],ks[2 * i + 1]]) (by rw [vK_two]; exact litP2 rfl rfl rfl rfl) ?_;(iterate 2 refine mS ?_);refine po_slx (es:=vK P) (l:=2 * j) (h:=(vK P).length) (rs:=vK (P.drop (2 * j))) rfl rfl (za9 (i:=((2 * j:Nat):Int)) rfl rfl) rfl ⟨by rw [zaU]; omega,lR⟩ (zbc _) (by rw [<- length_drop,take_length,vK_drop]) ?_
   refine zao (es:=vK []) rfl ?_;refine zbi (t:=nt) (t':=0) (es:=vK []) (ds:=vK (P.take (2 * j))) rfl rfl (.inr (mem_cons_self ..)) (by rw [show (vK ([]:List V)).length = 0 from rfl]; omega) (zbc _) (zbc _) ?_;refine zbi (t:=nt + 1) (t':=0) (es:=vK [] ++ vK (P.take (2 * j))) (ds:=vK [ks[2 * i],ks[2 * i + 1]]) rfl rfl (.inr (mem_cons_self ..)) (by rw [length_append,show (vK ([]:List V)).length = 0 from rfl]; omega) (zbc _) (fun e he => (mem_append.1 he).elim (zbc _ e) (zbc _ e)) ?_;refine zbi (t:=nt + 1 + 1) (t':=0) (es:=vK [] ++ vK (P.take (2 * j)) ++ vK [ks[2 * i],ks[2 * i + 1]]) (ds:=vK (P.drop (2 * j))) rfl rfl (.inr (mem_cons_self ..)) (by rw [length_append,length_append,show (vK ([]:List V)).length = 0 from rfl]; omega) (zbc _) (fun e he => (mem_append.1 he).elim (fun he => (mem_append.1 he).elim (zbc _ e) (zbc _ e)) (zbc _ e)) ?_
   rw [hE];refine mN ?_;refine zae ?_;refine mS ?_;refine zat (n:=((2 * (i + 1):Nat):Int)) rfl rfl rfl (by omega) (by omega) ?_;refine mN ?_;exact ⟨_,by show ks.length - 2 * (i + 1) < ks.length - 2 * i; omega,i + 1,nt + 1 + 1 + 1,by omega,rfl,⟨rfl,rfl,rfl,rfl,rfl,trivial⟩,rfl⟩
  rintro tm bx nt live ⟨p,ht,hbx⟩;obtain ⟨tm2,rfl⟩:=zaf ht;simp only at hbx; subst hbx
  clear ht tm1;refine zae ?_;refine mN ?_;exact ⟨p,⟨rfl,rfl,rfl,trivial⟩,rfl⟩
 rintro tm bx nt live ⟨p,ht,hbx⟩;obtain ⟨tm2,rfl⟩:=zaf ht;simp only at hbx; subst hbx
 clear ht tm1;rw [sort_vC];generalize (if v.kind = 8 then insPs [] (V.sorts v.kids) else V.sorts v.kids) = L;refine mO ?_;(iterate 2 refine mS ?_);refine zaP (p:=0) (o':=4) (cs:=[.sl p (vK L)]) rfl rfl rfl ⟨rfl,Nat.le_of_ble_eq_true rfl⟩ rfl ?_;refine mN ?_;refine mO ?_;refine zaW (p:=0) (cs:=vcs v.kind v.num v.exp v.text p (vK L)) rfl rfl rfl rfl ?_;refine zaO (p:=1) (cs:=vcs v.kind v.num v.exp v.text p (vK L)) rfl rfl rfl rfl rfl rfl ?_;refine mN ?_;refine zah ⟨.inr rfl,[.ag (vcs v.kind v.num v.exp v.text p (vK L))],rfl,?_⟩;show some (PV.ag [pI v.kind,pI v.num,pI v.exp,pS v.text,.sl 0 (erLL (vK L))]) = _;rw [vK_er]
theorem sort_fn (v:V) (h:Rgt v):FnV (env T hT) 64 [.ag (vC v)] (.ag (vC v.sort)):=by
 have all:∀ N,SrP T hT N:=by
  intro N
  induction N with
  | zero => intro v hn; have:=v.nodes_pos; omega
  | succ N ih => exact sort_step ih
 exact all v.nodes v lR h
section
variable {E:Env} {K:St -> Prop} {tm:Nat -> PV} {bx:LP PC} {nt d:Nat} {live:List Nat} {r:List MOpr} {g:Option (Nat × Bool)} {cc:List X} {x y:X}
theorem zdU {kk:IntKind} {p len cap i n:Nat} {j:Int} (hj:j = i) (hi:i < len) (hg:gd g tm = some true) (hx:ev tm x = .d (.row p len cap)) (hy:ev tm y = .d (.v (.int kk j)))
  (h:po E r K ⟨up d (.ref p (n * i)) tm,bx,nt,live⟩):po E (⟨some d,.ix n x y,g,cc⟩ :: r) K ⟨tm,bx,nt,live⟩:=by
 subst hj;refine po_q hg ?_ h;simp only [qf,hx,hy];rw [if_pos ⟨by omega,by rw [Int.toNat_natCast]; exact hi⟩,Int.toNat_natCast]
theorem po_gv {f:Nat} {xs:List X} {cap args:List PV} {v:PV} (hg:gd g tm = some true) (hx:ev tm x = .fn f cap) (hok:okFn E.P f = true) (hd:PV.dats (xs.map (ev tm) ++ cap) = some args) (hF:FnV E f args v)
  (h:po E r K ⟨up d v tm,bx,nt,live⟩):po E (⟨some d,.callv x xs,g,cc⟩ :: r) K ⟨tm,bx,nt,live⟩:=by
 rw [<- zbh] at h;unfold po;exact ⟨true,hg,.inl ⟨rfl,f,cap,hx,hok,.inl ⟨args,_,hd,hF,.inl fun x lv hx => ⟨v,hx,h⟩⟩⟩⟩
end
theorem set_selfA {α:Type} {l:List α} {p:Nat} {a:α} (h:l[p]? = some a):l.set p a = l:=by
 apply ext_getElem?
 intro i;by_cases hi:p = i
 ·subst hi
  have hlt:p < l.length:=by
   rcases Nat.lt_or_ge p l.length with h' | h'
   ·exact h'
   ·rw [getElem?_eq_none h'] at h; cases h
  rw [getElem?_set_self hlt,h]
 ·rw [getElem?_set_ne hi]
def cV (L:List V):List PC:=(L.map vC).flatten
theorem cV_app (a b:List V):cV (a ++ b) = cV a ++ cV b:=by simp [cV]
theorem zdb:∀ L:List V,(cV L).length = 5 * L.length
 | [] => rfl
 | v :: L => by
  have:=zdb L
  show (vC v ++ cV L).length = _;rw [length_append,this,length_cons]; show 5 + _ = _; omega
theorem cV_two (x y:V):cV [x,y] = vC x ++ vC y:=by simp [cV]
theorem cV_mid (A B:List V) (x y:V) (sl:List PC):cV (A ++ [x,y] ++ B) ++ sl = cV A ++ ((vC x ++ vC y) ++ (cV B ++ sl)):=by
 rw [cV_app,cV_app,cV_two]; simp only [append_assoc]
theorem cV_at {A B:List V} {x y:V} {sl:List PC} {k:Nat} (h:A.length = 2 * k):((cV (A ++ [x,y] ++ B) ++ sl).drop (10 * k)).take 10 = vC x ++ vC y:=by
 have hl:(cV A).length = 10 * k:=by rw [zdb,h]; omega
 rw [cV_mid,List.drop_left' hl];exact take_left' rfl
theorem spl_cV {A B:List V} {a b c d:V} {sl:List PC} {k:Nat} (h:A.length = 2 * k):spl (cV (A ++ [a,b] ++ B) ++ sl) (10 * k) (vC c ++ vC d) = cV (A ++ [c,d] ++ B) ++ sl:=by
 have hl:(cV A).length = 10 * k:=by rw [zdb,h]; omega
 unfold spl;rw [cV_mid,cV_mid,take_left' hl,<- drop_drop,List.drop_left' hl]
 have:((vC a ++ vC b) ++ (cV B ++ sl)).drop (vC c ++ vC d).length = cV B ++ sl:=List.drop_left' rfl
 rw [this]; simp only [append_assoc]
theorem pair_fn (a b c d:V) (hb:a.nodes <= 4294967295):FnV (env T hT) 57 [.ag (vC a ++ vC b),.ag (vC c ++ vC d)] (.d (pI (V.cmp a c))):=by
 refine zaX (zag zeZ) (by show 2 <= 10; decide) fun B hB => ?_
 unfold m_i_sorted_1;refine mO ?_;refine zbb (cs:=vC a ++ vC b) rfl ?_;refine zbb (cs:=vC c ++ vC d) rfl ?_;refine mN ?_;refine mQ ?_;refine zaS (p:=0) (cs:=vC a ++ vC b) (v:=.ag (vC a)) rfl rfl rfl (Nat.le_of_ble_eq_true rfl) rfl ?_;refine mS ?_;refine zaS (p:=1) (cs:=vC c ++ vC d) (v:=.ag (vC c)) rfl rfl rfl (Nat.le_of_ble_eq_true rfl) rfl ?_;refine zab (dats2 (zco _) (zco _)) (cmpI_fn a c hb) ?_;refine mN ?_;exact mR
theorem pair_er (a b:V):erL (vC a ++ vC b) = vC a ++ vC b:=by
 show erL ([pI a.kind,pI a.num,pI a.exp,pS a.text,.sl 0 (vK a.kids)] ++ [pI b.kind,pI b.num,pI b.exp,pS b.text,.sl 0 (vK b.kids)]) = _;show [pI a.kind,pI a.num,pI a.exp,pS a.text,.sl 0 (erLL (vK a.kids)),pI b.kind,pI b.num,pI b.exp,pS b.text,.sl 0 (erLL (vK b.kids))] = _;rw [vK_er,vK_er]; rfl
def insM (P:List V) (j:Nat) (x y:V) (R:List V):List V:=P.take (2 * j) ++ [x,y] ++ (P.drop (2 * j) ++ R)
theorem drop2 {ks:List V} {i:Nat} (h:2 * i + 1 < ks.length):ks.drop (2 * i) = [ks[2 * i],ks[2 * i + 1]] ++ ks.drop (2 * (i + 1)):=by
 rw [drop_eq_getElem_cons (show 2 * i < ks.length by omega),drop_eq_getElem_cons h]; rfl
theorem insM_ins {P R:List V} {x y:V} {j:Nat} (h:posP P x (P.length / 2) = j):insM P j x y R = insP P x y ++ R:=by
 unfold insM insP; rw [h]; simp only [append_assoc]
def IsI (bx:LP PC) (p n cap:Nat) (L:List V) (sl:List PC) (nt:Nat) (live:List Nat) (m:Nat) (st:St):Prop :=
 ∃ i:Nat,1 <= i /\ i <= n /\ m = n - i /\ has st.tm [(0,.d (.row p n cap)),(1,.d (pI 0)),(2,.d (pI n)),(3,.fn 57 []),(8,.d (pI i))] /\ st.bx = bx.set p (cV (insPs [] (L.take (2 * i)) ++ L.drop (2 * i)) ++ sl) /\ st.nt = nt /\ st.live = live
def IsJ (bx:LP PC) (p n cap i:Nat) (P:List V) (x y:V) (R:List V) (sl:List PC) (nt:Nat) (live:List Nat) (m:Nat) (st:St):Prop :=
 ∃ j:Nat,j <= i /\ m = j /\ has st.tm [(0,.d (.row p n cap)),(1,.d (pI 0)),(2,.d (pI n)),(3,.fn 57 []),(8,.d (pI i)),(9,.d (pI j))] /\ st.bx = bx.set p (cV (insM P j x y R) ++ sl) /\ st.nt = nt /\ st.live = live /\ posP P x i = posP P x j
theorem insort_g (L:List V) (n:Nat) (hL:L.length = 2 * n) (hn1:1 <= n) (hn4:n <= 19) (hnd:∀ z ∈ L,z.nodes <= 300) {sl:List PC} {bx:LP PC} {p cap:Nat} (hp:bx[p]? = some (cV L ++ sl)) (nt:Nat) (live:List Nat) :
  FnG (env T hT) 97 [.d (.row p n cap),.d (pI 0),.d (pI n),.fn 57 []] bx nt live (fun _ b n' l => b = bx.set p (cV (insPs [] L) ++ sl) /\ n' = nt /\ l = live):=by
 have hplt:p < bx.length:=by
  rcases Nat.lt_or_ge p bx.length with h | h
  ·exact h
  ·rw [getElem?_eq_none h] at hp; cases hp
 have hset0:bx = bx.set p (cV L ++ sl):=(set_selfA hp).symm;refine zaY (zag zaI) (by show 4 <= 53; decide) fun B hB => ?_
 unfold m_slices_insertionSortCmpFunc_impl_pair;refine mQ ?_;refine zat (n:=1) rfl rfl rfl rfl (by omega) ?_;refine mN ?_;refine zad ?_
 have h1:insPs [] (L.take (2 * 1)) ++ L.drop (2 * 1) = L:=by
  match L,hL with
  | x :: y :: r,_ => rfl
  | [_],h => simp at h; omega
  | [],h => simp at h; omega
 refine zav (IsI bx p n cap L sl nt live) (n - 1) ⟨1,lR,hn1,rfl,⟨rfl,rfl,rfl,rfl,rfl,trivial⟩,by rw [h1]; exact hset0,rfl,rfl⟩ ?_;rintro m tm bx1 nt1 live1 ⟨i,hi1,hi,rfl,ht,hbx,hnn,hll⟩;obtain ⟨tm1,rfl⟩:=zaf ht;simp only at hbx hnn hll; subst hbx; subst hnn; subst hll
 clear ht;refine mM ?_;(iterate 2 refine mS ?_);refine po_b rfl rfl (fun b hb => ?_);refine zaa ?_;refine zbt (p:=(i:Int) < n) hb rfl (fun him _ => ?_) (fun him _ => ?_)
 rotate_left
 ·refine zaA ?_
  have:i = n:=by omega
  subst this;refine ⟨.inl rfl,[],rfl,?_,rfl,rfl⟩;rw [<- hL,take_length,drop_length,append_nil]
 have hin:i < n:=by omega
 have hi1':2 * i + 1 < L.length:=by omega
 have hi0:2 * i < L.length:=by omega
 have hPl:(insPs [] (L.take (2 * i))).length = 2 * i:=by
  rw [zbG _ _ (by rw [length_take]; omega),length_nil,length_take]; omega
 have hPn:∀ z ∈ insPs [] (L.take (2 * i)),z.nodes <= 300:=fun z hz => (zbw _ _ z hz).elim (fun h => by cases h) fun h => hnd z (mem_of_mem_take h)
 have hxn:L[2 * i].nodes <= 300:=hnd _ (getElem_mem hi0);have hsn:=zcY (L.take (2 * i)) [] L[2 * i] L[2 * i + 1] (by rw [length_take]; omega);rw [<- take2 hi1'] at hsn
 have hst:insPs [] (L.take (2 * i)) ++ L.drop (2 * i) = insM (insPs [] (L.take (2 * i))) i L[2 * i] L[2 * i + 1] (L.drop (2 * (i + 1))):=by
  have a1:(insPs [] (L.take (2 * i))).take (2 * i) = insPs [] (L.take (2 * i)):=take_of_length_le (by omega);have a2:(insPs [] (L.take (2 * i))).drop (2 * i) = []:=drop_of_length_le (by omega);unfold insM;rw [drop2 hi1',a1,a2,nil_append,append_assoc]
 rw [hst];clear hst;generalize hR:L.drop (2 * (i + 1)) = R;generalize insPs [] (L.take (2 * i)) = P at hPl hPn hsn;generalize L[2 * i] = x at hsn hxn;generalize L[2 * i + 1] = y at hsn;have hP2:P.length / 2 = i:=by omega
 refine zaj ?_;refine zaC (fun st => has st.tm [(0,.d (.row p n cap)),(1,.d (pI 0)),(2,.d (pI n)),(3,.fn 57 []),(8,.d (pI i))] /\ st.bx = bx.set p (cV (insPs [] (L.take (2 * (i + 1))) ++ R) ++ sl) /\ st.nt = nt1 /\ st.live = live1) ?_ ?_
 ·refine zad ?_
  refine mP ?_;refine zad ?_;refine zav (IsJ bx p n cap i P x y R sl nt1 live1) i ⟨i,lR,rfl,⟨rfl,rfl,rfl,rfl,rfl,rfl,trivial⟩,rfl,rfl,rfl,rfl⟩ ?_;rintro m tm bx2 nt2 live2 ⟨j,hj,rfl,ht,hbx,hnn,hll,hpos⟩;obtain ⟨tm2,rfl⟩:=zaf ht;simp only at hbx hnn hll; subst hbx; subst hnn; subst hll
  clear ht tm1
  have hlenM:(cV (insM P m x y R) ++ sl).length = 10 * n + sl.length:=by
   rw [length_append,zdb]; unfold insM
   simp only [length_append,length_take,length_drop,length_cons,length_nil,<- hR]; omega
  by_cases h0:0 < m
  case neg =>
   obtain rfl:m = 0:=by omega
   refine mM ?_;(iterate 2 refine mS ?_);refine zas rfl rfl (decide_eq_false (by omega)) ?_;refine mS ?_;refine mZ ?_;refine mF ?_;refine zaA ?_;refine ⟨⟨rfl,rfl,rfl,rfl,rfl,trivial⟩,?_,rfl,rfl⟩;rw [insM_ins (by rw [hP2]; exact hpos),<- hsn]
  obtain ⟨k,rfl⟩:∃ k,m = k + 1:=⟨m - 1,by omega⟩;have hk1:2 * k + 1 < P.length:=by omega
  have hk0:2 * k < P.length:=by omega
  have hg:P.getD (2 * k) v00 = P[2 * k]:=by simp [getD,hk0]
  have hE0:=take2 hk1;have hD0:=drop2 hk1;have han:P[2 * k].nodes <= 300:=hPn _ (getElem_mem hk0);generalize P[2 * k] = a at hE0 hD0 hg han;generalize P[2 * k + 1] = b at hE0 hD0;have hAl:(P.take (2 * k)).length = 2 * k:=by rw [length_take]; omega
  have hE1:insM P (k + 1) x y R = P.take (2 * k) ++ [a,b] ++ ([x,y] ++ (P.drop (2 * (k + 1)) ++ R)):=by
   unfold insM; rw [hE0]; simp only [append_assoc]
  have hE2:insM P (k + 1) x y R = (P.take (2 * k) ++ [a,b]) ++ [x,y] ++ (P.drop (2 * (k + 1)) ++ R):=by
   unfold insM; rw [hE0]
  have hE3:insM P k x y R = P.take (2 * k) ++ [x,y] ++ ([a,b] ++ (P.drop (2 * (k + 1)) ++ R)):=by
   unfold insM; rw [hD0]; simp only [append_assoc]
  have hBl:(P.take (2 * k) ++ [a,b]).length = 2 * (k + 1):=by rw [length_append,hAl]; simp only [length_cons,length_nil]; omega
  have hat0:((cV (insM P (k + 1) x y R) ++ sl).drop (10 * k)).take 10 = vC a ++ vC b:=by rw [hE1]; exact cV_at hAl
  have hat1:((cV (insM P (k + 1) x y R) ++ sl).drop (10 * (k + 1))).take 10 = vC x ++ vC y:=by rw [hE2]; exact cV_at hBl
  have hS1:spl (cV (insM P (k + 1) x y R) ++ sl) (10 * (k + 1)) (vC a ++ vC b) = cV (P.take (2 * k) ++ [a,b] ++ [a,b] ++ (P.drop (2 * (k + 1)) ++ R)) ++ sl:=by rw [hE2]; exact spl_cV hBl
  have hS2:spl (cV (P.take (2 * k) ++ [a,b] ++ [a,b] ++ (P.drop (2 * (k + 1)) ++ R)) ++ sl) (10 * k) (vC x ++ vC y) = cV (insM P k x y R) ++ sl:=by
   rw [hE3,append_assoc (P.take (2 * k) ++ [a,b])]; exact spl_cV hAl
  have hposk:0 < V.cmp a x -> posP P x (k + 1) = posP P x k:=fun h => by rw [posP,hg,if_pos h]
  have hposn:¬ 0 < V.cmp a x -> posP P x (k + 1) = k + 1:=fun h => by rw [posP,hg,if_neg h]
  have hfin:posP P x i = k + 1 -> insM P (k + 1) x y R = insPs [] (L.take (2 * (i + 1))) ++ R:=fun h => by rw [insM_ins (by rw [hP2]; exact h),<- hsn]
  have hanti:=V.cmp_anti x a;have hbs:(bx.set p (cV (insM P (k + 1) x y R) ++ sl))[p]? = some (cV (insM P (k + 1) x y R) ++ sl):=getElem?_set_self hplt;clear hE0 hD0 hg hE1 hE2 hE3 hAl hBl hsn;generalize hzM:cV (insM P (k + 1) x y R) ++ sl = zM at hlenM hat0 hat1 hS1 hbs;refine zaC (fun st => has st.tm [(0,.d (.row p n cap)),(1,.d (pI 0)),(2,.d (pI n)),(3,.fn 57 []),(8,.d (pI i)),(9,.d (pI (k + 1:Nat)))] /\ st.bx = bx.set p zM /\ st.nt = nt2 /\ st.live = live2 /\ 0 < V.cmp a x) ?_ ?_
  ·refine mO ?_
   (iterate 2 refine mS ?_);refine zal rfl rfl (decide_eq_true (by omega)) ?_;(iterate 4 refine mS ?_);refine zdU (i:=k + 1) rfl (by omega) rfl rfl rfl ?_;refine zaS (cs:=zM) (v:=.ag (vC x ++ vC y)) rfl rfl hbs (by omega) (by rw [hat1]; rfl) ?_;(iterate 2 refine mS ?_);refine zbR (n:=(k:Int)) rfl rfl rfl (by omega) (by omega) ?_;refine zdU (i:=k) rfl (by omega) rfl rfl rfl ?_;refine zaS (cs:=zM) (v:=.ag (vC a ++ vC b)) rfl rfl hbs (by omega) (by rw [hat0]; rfl) ?_;refine po_gv (f:=57) (cap:=[]) rfl rfl (by kernel_rfl) (dats2 (pair_er _ _) (pair_er _ _)) (pair_fn x y a b (by omega)) ?_;by_cases hc:0 < V.cmp a x
   ·refine zal rfl rfl (decide_eq_true (by omega)) ?_
    refine mT ?_;refine zaj ?_;exact ⟨⟨rfl,rfl,rfl,rfl,rfl,rfl,trivial⟩,rfl,rfl,rfl,hc⟩
   ·refine zas rfl rfl (decide_eq_false (by omega)) ?_
    refine mF ?_;refine zaA ?_;refine ⟨⟨rfl,rfl,rfl,rfl,rfl,trivial⟩,?_,rfl,rfl⟩;rw [<- hfin (by rw [hpos,hposn hc]),hzM]
  rintro tm bx3 nt3 live3 ⟨ht,hbx,hnn,hll,hc⟩;obtain ⟨tm3,rfl⟩:=zaf ht;simp only at hbx hnn hll; subst hbx; subst hnn; subst hll
  clear ht tm2;refine zak (zad (zae ?_));(iterate 4 refine mS ?_);refine zbR (n:=(k:Int)) rfl rfl rfl (by omega) (by omega) ?_;(iterate 2 refine mS ?_);refine zbR (n:=(k:Int)) rfl rfl rfl (by omega) (by omega) ?_;refine zdU (i:=k) rfl (by omega) rfl rfl rfl ?_;refine zaS (cs:=zM) (v:=.ag (vC a ++ vC b)) rfl rfl hbs (by omega) (by rw [hat0]; rfl) ?_;(iterate 2 refine mS ?_);refine zdU (i:=k + 1) rfl (by omega) rfl rfl rfl ?_;refine zaS (cs:=zM) (v:=.ag (vC x ++ vC y)) rfl rfl hbs (by omega) (by rw [hat1]; rfl) ?_;refine zdU (i:=k + 1) rfl (by omega) rfl rfl rfl ?_;refine zaP (cs:=vC a ++ vC b) rfl rfl hbs ⟨rfl,by omega⟩ rfl ?_;rw [hS1,set_set];refine zdU (i:=k) rfl (by omega) rfl rfl rfl ?_;refine zaP (cs:=vC x ++ vC y) rfl rfl (getElem?_set_self hplt) ⟨rfl,by rw [<- hS1,spl_len (by show _ + 10 <= _; omega)]; omega⟩ rfl ?_;rw [hS2,set_set]
  refine zaa ?_;refine zae ?_;refine mS ?_;refine zbR (n:=(k:Int)) rfl rfl rfl (by omega) (by omega) ?_;refine mN ?_;exact ⟨_,by show k < k + 1; omega,k,by omega,rfl,⟨rfl,rfl,rfl,rfl,rfl,rfl,trivial⟩,rfl,rfl,rfl,by rw [hpos,hposk hc]⟩
 rintro tm bx3 nt3 live3 ⟨ht,hbx,hnn,hll⟩;obtain ⟨tm3,rfl⟩:=zaf ht;simp only at hbx hnn hll; subst hbx; subst hnn; subst hll
 refine zae ?_;refine mS ?_;refine zat (n:=((i + 1:Nat):Int)) rfl rfl rfl (by omega) (by omega) ?_;refine mN ?_;exact ⟨_,by show n - (i + 1) < n - i; omega,i + 1,by omega,by omega,rfl,⟨rfl,rfl,rfl,rfl,rfl,trivial⟩,by rw [hR],rfl,rfl⟩
theorem insort_0 (c:PC) {bx:LP PC} (nt:Nat) (live:List Nat) :
  FnG (env T hT) 97 [.d c,.d (pI 0),.d (pI 0),.fn 57 []] bx nt live (fun _ b n' l => b = bx /\ n' = nt /\ l = live):=by
 refine zaY (zag zaI) (by show 4 <= 53; decide) fun B hB => ?_
 unfold m_slices_insertionSortCmpFunc_impl_pair;refine mQ ?_;refine zat (n:=1) rfl rfl rfl rfl (by omega) ?_;refine mN ?_;refine zad ?_;refine zav (fun _ st => has st.tm [(2,.d (pI 0)),(8,.d (pI 1))] /\ st.bx = bx /\ st.nt = nt /\ st.live = live) 0 ⟨⟨rfl,rfl,trivial⟩,rfl,rfl,rfl⟩ ?_;rintro m tm bx1 nt1 live1 ⟨ht,hbx,hnn,hll⟩;obtain ⟨tm1,rfl⟩:=zaf ht;simp only at hbx hnn hll; subst hbx; subst hnn; subst hll
 refine mM ?_;(iterate 2 refine mS ?_);refine zas rfl rfl (decide_eq_false (by omega)) ?_;refine mF ?_;refine zaA ?_;exact ⟨.inl rfl,[],rfl,rfl,rfl,rfl⟩
def PrAt (lo:Nat) (c:PC) (bx:LP PC) (L:List V):Prop:=(L = [] /\ ((∃ t,c = .sl t []) \/ ∃ p cap,c = .row p 0 cap)) \/ ∃ p n cap sl,c = .row p n cap /\ lo <= p /\ L.length = 2 * n /\ 1 <= n /\ bx[p]? = some (cV L ++ sl)
theorem PrAt.lt {p:Nat} {bx:LP PC} {z:List PC} (h:bx[p]? = some z):p < bx.length:=by
 rcases Nat.lt_or_ge p bx.length with h' | h'
 ·exact h'
 ·rw [getElem?_eq_none h'] at h; cases h
theorem PrAt.len {lo n:Nat} {c:PC} {bx:LP PC} {L:List V} (h:PrAt lo c bx L) (hn:L.length = 2 * n):(∃ t,c = .sl t [] /\ n = 0) \/ ∃ p cap,c = .row p n cap:=by
 rcases h with ⟨rfl,⟨t,rfl⟩ | ⟨p,cap,rfl⟩⟩ | ⟨p,n',cap,sl,rfl,_,h1,_,_⟩
 ·exact .inl ⟨t,rfl,by simp at hn; omega⟩
 ·obtain rfl:n = 0:=by simp at hn; omega
  exact .inr ⟨p,cap,rfl⟩
 ·obtain rfl:n' = n:=by omega
  exact .inr ⟨p,cap,rfl⟩
theorem PrAt.even {lo:Nat} {c:PC} {bx:LP PC} {L:List V} (h:PrAt lo c bx L):∃ n,L.length = 2 * n:=by
 rcases h with ⟨rfl,_⟩ | ⟨p,n',cap,sl,rfl,_,h1,_,_⟩
 ·exact ⟨0,rfl⟩
 ·exact ⟨n',h1⟩
theorem po_lenP {E:Env} {K:St -> Prop} {tm:Nat -> PV} {bx bx':LP PC} {nt d:Nat} {live:List Nat} {r:List MOpr} {g:Option (Nat × Bool)} {cc:List X} {x:X} {lo n:Nat} {c:PC} {L:List V} (hp:PrAt lo c bx' L) (hn:L.length = 2 * n) (hg:gd g tm = some true) (hx:ev tm x = .d c) (h:po E r K ⟨up d (.d (pI n)) tm,bx,nt,live⟩):po E (⟨some d,.len x,g,cc⟩ :: r) K ⟨tm,bx,nt,live⟩:=by
 refine po_q hg ?_ h
 rcases hp.len hn with ⟨t,rfl,rfl⟩ | ⟨p,cap,rfl⟩
 ·simp only [qf,hx]; rfl
 ·simp only [qf,hx]; rfl
theorem insPs_two (L:List V) (n:Nat) (h:L.length = 2 * n):(insPs [] L).length = 2 * n:=by rw [zbG _ _ (by omega),length_nil]; omega
theorem stable_g (L:List V) (hl:L.length <= 8) (hnd:∀ z ∈ L,z.nodes <= 300) {lo:Nat} {c:PC} {bx:LP PC} (hp:PrAt lo c bx L) (nt:Nat) (live:List Nat) (n:Nat) (hn:L.length = 2 * n) :
  FnG (env T hT) 78 [.d c,.d (pI n),.fn 57 []] bx nt live (fun _ b _ _ => PrAt lo c b (insPs [] L) /\ b.length = bx.length /\ ∀ q,q < lo -> b[q]? = bx[q]?):=by
 refine zaY (zag zba) (by show 3 <= 63; decide) fun B hB => ?_
 unfold m_slices_stableCmpFunc_impl_pair;refine mP ?_;refine mP ?_;refine zaC (fun st => has st.tm [(0,.d c),(1,.d (pI n)),(2,.fn 57 []),(6,.d (pI 20)),(7,.d (pI 0))] /\ st.bx = bx) ?_ ?_
 ·refine zad ?_
  refine zav (fun _ st => has st.tm [(0,.d c),(1,.d (pI n)),(2,.fn 57 []),(6,.d (pI 20)),(7,.d (pI 0)),(8,.d (pI 20))] /\ st.bx = bx) 0 ⟨⟨rfl,rfl,rfl,rfl,rfl,rfl,trivial⟩,rfl⟩ ?_;rintro m tm bx1 nt1 live1 ⟨ht,hbx⟩;obtain ⟨tm1,rfl⟩:=zaf ht;simp only at hbx; subst hbx
  refine mM ?_;(iterate 2 refine mS ?_);refine zas rfl rfl (decide_eq_false (by omega)) ?_;refine mF ?_;refine zaA ?_;exact ⟨⟨rfl,rfl,rfl,rfl,rfl,trivial⟩,rfl⟩
 rintro tm bx1 nt1 live1 ⟨ht,hbx⟩;obtain ⟨tm1,rfl⟩:=zaf ht;simp only at hbx; subst hbx
 clear ht;refine mO ?_;(iterate 4 refine mS ?_)
 have hF:FnG (env T hT) 97 [.d c,.d (pI 0),.d (pI n),.fn 57 []] bx1 nt1 live1 (fun _ b _ _ => PrAt lo c b (insPs [] L) /\ b.length = bx1.length /\ ∀ q,q < lo -> b[q]? = bx1[q]?):=by
  rcases hp with ⟨rfl,hc⟩ | ⟨p,n',cap,sl,rfl,h0,h1,h2,h3⟩
  ·obtain rfl:n = 0:=by simp at hn; omega
   exact (insort_0 (T:=T) (hT:=hT) c nt1 live1).mono fun x b n l ⟨e1,e2,e3⟩ => by subst e1; exact ⟨.inl ⟨rfl,hc⟩,rfl,fun _ _ => rfl⟩
  ·obtain rfl:n' = n:=by omega
   have hlt:=PrAt.lt h3
   exact (insort_g (T:=T) (hT:=hT) L n' h1 h2 (by omega) hnd h3 nt1 live1).mono fun x b n l ⟨e1,e2,e3⟩ => by
    subst e1;exact ⟨.inr ⟨p,n',cap,sl,rfl,h0,insPs_two L n' h1,h2,getElem?_set_self hlt⟩,length_set,fun q hq => getElem?_set_ne (by omega)⟩
 refine po_g rfl hF ?_;rintro x b n2 l2 hB2;refine zaa ?_;refine zad ?_;refine zav (fun _ st => has st.tm [(1,.d (pI n)),(6,.d (pI 20))] /\ st.bx = b) 0 ⟨⟨rfl,rfl,trivial⟩,rfl⟩ ?_;rintro m tm bx2 nt2 live2 ⟨ht,hbx⟩;obtain ⟨tm2,rfl⟩:=zaf ht;simp only at hbx; subst hbx
 refine mM ?_;(iterate 2 refine mS ?_);refine zas rfl rfl (decide_eq_false (by omega)) ?_;refine mF ?_;refine zaA ?_;exact ⟨.inl rfl,[],rfl,hB2⟩
theorem sortSt_g (L:List V) (hl:L.length <= 8) (hnd:∀ z ∈ L,z.nodes <= 300) {lo:Nat} {c:PC} {bx:LP PC} (hp:PrAt lo c bx L) (nt:Nat) (live:List Nat) :
  FnG (env T hT) 56 [.d c,.fn 57 []] bx nt live (fun _ b _ _ => PrAt lo c b (insPs [] L) /\ b.length = bx.length /\ ∀ q,q < lo -> b[q]? = bx[q]?):=by
 refine zaY (zag zaV) (by show 2 <= 9; decide) fun B hB => ?_
 unfold m_slices_SortStableFunc_impl_pair_impl_pair;obtain ⟨n,hn⟩:=hp.even;refine zae ?_;(iterate 2 refine mS ?_);refine po_lenP hp hn rfl rfl ?_;refine mS ?_;refine po_g rfl (stable_g (T:=T) (hT:=hT) L hl hnd hp nt live n hn) ?_;rintro x b n2 l2 hB2;refine zaa ?_;exact ⟨.inl rfl,[],rfl,hB2⟩
theorem vcs_er (k n e:Int) (s:L8) (t:Nat) (ks:List V):erL (vcs k n e s t (vK ks)) = vC (.mk k n e s ks):=by
 show [pI k,pI n,pI e,pS s,PC.sl 0 (erLL (vK ks))] = _;rw [vK_er]; rfl
def PoI (c0:List PC) (ks:List V) (m:Nat) (st:St):Prop:=∃ (i:Nat) (c:PC),2 * i <= ks.length /\ m = ks.length - 2 * i /\ has st.tm [(1,.ref 0 0),(3,.d c),(4,.d (pI (2 * i:Nat)))] /\ st.bx[0]? = some c0 /\ RwAt 10 1 st.live c st.bx (cV (ks.take (2 * i)))
theorem pairsOf_g (k n e:Int) (s:L8) (t:Nat) (ks:List V) (hl:ks.length <= 8) (hev:ks.length % 2 = 0) (nt:Nat) (live:List Nat) :
  FnG (env T hT) 55 [.ag (vcs k n e s t (vK ks))] [] nt live (fun x b _n l => ∃ c,x = .d c /\ RwAt 10 1 l c b (cV ks)):=by
 refine zaY (zag zfw) (by show 1 <= 30; decide) fun B hB => ?_
 unfold m_i_pairsOf;refine mO ?_;refine zbb (cs:=vcs k n e s t (vK ks)) rfl ?_;refine mN ?_;refine mO ?_;refine zao (es:=[]) rfl ?_;refine mN ?_;refine zaC (fun st => ∃ c,has st.tm [(3,.d c)] /\ RwAt 10 1 st.live c st.bx (cV ks)) ?_ ?_
 ·refine mP ?_
  refine zad ?_;refine zav (PoI (vcs k n e s t (vK ks)) ks) ks.length ⟨0,.sl nt [],Nat.zero_le _,rfl,⟨rfl,rfl,rfl,trivial⟩,rfl,by show 1 <= 1; decide,.inl ⟨nt,rfl,.inr (mem_cons_self ..),rfl⟩⟩ ?_;rintro m tm bx nt live ⟨i,c,hi,rfl,ht,hb0,hR⟩;obtain ⟨tm1,rfl⟩:=zaf ht;simp only at hb0 hR;clear ht;refine mM ?_;refine mS ?_;refine zat (n:=((2 * i + 1:Nat):Int)) rfl rfl rfl (by omega) (by omega) ?_;refine mS ?_;refine zaS (cs:=vcs k n e s t (vK ks)) (v:=.d (.sl t (vK ks))) rfl rfl hb0 (Nat.le_of_ble_eq_true rfl) rfl ?_;refine zaH (n:=ks.length) rfl rfl (zaU _) ?_;refine po_b rfl rfl (fun b hb => ?_);refine zaa ?_;refine zbt (p:=((2 * i + 1:Nat):Int) < ks.length) hb rfl (fun him _ => ?_) (fun him _ => ?_)
  rotate_left
  ·refine zaA ?_
   have:2 * i = ks.length:=by omega
   rw [this,take_length] at hR;exact ⟨c,⟨rfl,trivial⟩,hR⟩
  have hi1:2 * i + 1 < ks.length:=by omega
  have hi0:2 * i < ks.length:=by omega
  have hcl:(cV (ks.take (2 * i))).length = 10 * i:=by rw [zdb,length_take]; omega
  have hE:cV (ks.take (2 * i)) ++ [vC ks[2 * i] ++ vC ks[2 * i + 1]].flatten = cV (ks.take (2 * (i + 1))):=by
   rw [take2 hi1,cV_app,cV_two]; simp
  refine zaj ?_;refine zak (zad (zae ?_));(iterate 2 refine mS ?_);refine zaS (cs:=vcs k n e s t (vK ks)) (v:=.d (.sl t (vK ks))) rfl rfl hb0 (Nat.le_of_ble_eq_true rfl) rfl ?_;refine mS ?_;refine za3 (es:=vK ks) (e:=vC ks[2 * i]) rfl rfl rfl ⟨by omega,by rw [Int.toNat_natCast]; exact zby hi0⟩ rfl ?_;(iterate 2 refine mS ?_);refine zaS (cs:=vcs k n e s t (vK ks)) (v:=.d (.sl t (vK ks))) rfl rfl hb0 (Nat.le_of_ble_eq_true rfl) rfl ?_;refine mS ?_;refine zat (n:=((2 * i + 1:Nat):Int)) rfl rfl rfl (by omega) (by omega) ?_;refine za3 (es:=vK ks) (e:=vC ks[2 * i + 1]) rfl rfl rfl ⟨by omega,by rw [Int.toNat_natCast]; exact zby hi1⟩ rfl ?_;refine mS ?_;refine po_s (v:=.ag (vC ks[2 * i] ++ vC ks[2 * i + 1])) rfl rfl rfl ?_;refine zcX (es:=[vC ks[2 * i] ++ vC ks[2 * i + 1]]) (litP1 rfl rfl) ?_;refine po_appR (k:=0) (t':=0) (ds:=[vC ks[2 * i] ++ vC ks[2 * i + 1]]) hR (by simp) hcl (by decide) (by simp only [length_singleton]; omega) (fun e he => by rw [mem_singleton] at he; subst he; rfl) rfl rfl ?_
  intro c' bx' hR' hq;rw [hE] at hR';refine mN ?_;refine zae ?_;refine mS ?_;refine zat (n:=((2 * (i + 1):Nat):Int)) rfl rfl rfl (by omega) (by omega) ?_;refine mN ?_;exact ⟨_,by show ks.length - 2 * (i + 1) < ks.length - 2 * i; omega,i + 1,c',by omega,rfl,⟨rfl,rfl,rfl,trivial⟩,by rw [hq 0 (by decide)]; exact hb0,hR'⟩
 rintro tm bx nt live ⟨c,ht,hR⟩;obtain ⟨tm1,rfl⟩:=zaf ht;simp only at hR;refine mP ?_;exact zah ⟨.inr rfl,[.d c],rfl,c,rfl,hR⟩
theorem prAt_of {lo:Nat} {live:List Nat} {c:PC} {bx:LP PC} {L:List V} (h:RwAt 10 lo live c bx (cV L)):PrAt lo c bx L:=by
 rcases h.2 with ⟨t,rfl,_,h2⟩ | ⟨p,len,cap,z,rfl,h2,h3,h4,h5,h6⟩
 ·have h0:=zdb L
  rw [h2] at h0;exact .inl ⟨eq_nil_of_length_eq_zero (by simp only [length_nil] at h0; omega),.inl ⟨t,rfl⟩⟩
 ·have h0:=zdb L
  rw [h6,length_take,h4] at h0;have h7:L.length = 2 * len:=by omega
  rcases Nat.eq_zero_or_pos len with h8 | h8
  ·subst h8
   exact .inl ⟨eq_nil_of_length_eq_zero (by omega),.inr ⟨p,cap,rfl⟩⟩
  ·exact .inr ⟨p,len,cap,z.drop (10 * len),rfl,h2,h7,h8,by rw [h6,take_append_drop]; exact h3⟩
theorem getM {α:Type} (bx rest:List α) (a b:α):(bx ++ a :: b :: rest)[bx.length + 1]? = some b:=by
 rw [getElem?_append_right (by omega),Nat.add_sub_cancel_left]; rfl
theorem getM0 {α:Type} (bx rest:List α) (a b:α):(bx ++ a :: b :: rest)[bx.length]? = some a:=by
 rw [getElem?_append_right (by omega),Nat.sub_self]; rfl
theorem setM {α:Type} (bx rest:List α) (a b c:α):(bx ++ a :: b :: rest).set (bx.length + 1) c = bx ++ a :: c :: rest:=by
 rw [set_append_right _ _ (by omega),Nat.add_sub_cancel_left]; rfl
theorem appM {α:Type} (bx rest:List α) (a b x:α):(bx ++ a :: b :: rest) ++ [x] = bx ++ a :: b :: (rest ++ [x]):=by simp
def MoI (bx:LP PC) (c:PC) (L:List V) (n:Nat) (m:Nat) (st:St):Prop:=∃ (i t:Nat) (rest:LP PC),i <= n /\ m = n - i /\ has st.tm [(2,.ref bx.length 0),(3,.ref (bx.length + 1) 0),(7,.d c),(8,.d (pI n)),(9,.d (pI i))] /\ st.bx = bx ++ zV :: vcs 8 0 0 [] t (vK (L.take (2 * i))) :: rest /\ (t = 1 \/ t ∈ st.live)
theorem mapOf_g (L:List V) (hl:L.length <= 8) {lo:Nat} {c:PC} {bx:LP PC} (hp:PrAt lo c bx L) (nt:Nat) (live:List Nat) :
  FnG (env T hT) 59 [.d c] bx nt live (fun x b _ _ => (∃ t,x = .ag (vcs 8 0 0 [] t (vK L))) /\ bx.length <= b.length /\ ∀ q,q < bx.length -> b[q]? = bx[q]?):=by
 obtain ⟨n,hn⟩:=hp.even;refine zaY (zag lk_i_mapOf) (by show 1 <= 24; decide) fun B hB => ?_
 unfold m_i_mapOf;refine mO ?_;refine zbZ ?_;refine zaa ?_;refine mO ?_;refine po_s (v:=.ag (vcs 8 0 0 [] 1 [])) rfl rfl rfl ?_;refine zed (cs:=vcs 8 0 0 [] 1 []) rfl rfl rfl rfl ?_;refine zaa ?_;have hz:([Value.int .i64 0,.int .i64 0,.int .i64 0,.string ⟨[].toArray⟩,.slice none 0 0].map ofC) = zV:=rfl;rw [hz];have hb0:(bx ++ [zV]) ++ [vcs 8 0 0 [] 1 []] = bx ++ zV :: vcs 8 0 0 [] 1 [] :: []:=by simp
 have hln:(bx ++ [zV]).length = bx.length + 1:=by simp
 rw [hb0,hln];refine zaC (fun st => ∃ (t:Nat) (rest:LP PC),has st.tm [(2,.ref bx.length 0),(3,.ref (bx.length + 1) 0)] /\ st.bx = bx ++ zV :: vcs 8 0 0 [] t (vK L) :: rest) ?_ ?_
 ·refine zaC (fun st => has st.tm [(2,.ref bx.length 0),(3,.ref (bx.length + 1) 0),(7,.d c),(8,.d (pI n)),(9,.d (pI 0))] /\ st.bx = bx ++ zV :: vcs 8 0 0 [] 1 [] :: []) ?_ ?_
  ·refine zae ?_
   refine mS ?_;refine po_lenP hp hn rfl rfl ?_;refine mN ?_;exact ⟨⟨rfl,rfl,rfl,rfl,rfl,trivial⟩,rfl⟩
  rintro tm bx1 nt1 live1 ⟨ht,hbx⟩;obtain ⟨tm0,rfl⟩:=zaf ht;simp only at hbx; subst hbx
  clear ht;refine zad ?_;refine zav (MoI bx c L n) n ⟨0,1,[],Nat.zero_le _,rfl,⟨rfl,rfl,rfl,rfl,rfl,trivial⟩,rfl,.inl rfl⟩ ?_;rintro m tm bx1 nt1 live1 ⟨i,t,rest,hi,rfl,ht,hbx,htl⟩;obtain ⟨tm1,rfl⟩:=zaf ht;simp only at hbx htl; subst hbx
  clear ht tm0;refine mO ?_;refine po_b rfl rfl (fun q hq => ?_);refine zaa ?_;refine zak ?_;refine zbt (p:=(i:Int) < n) hq rfl (fun him _ => ?_) (fun him _ => ?_)
  rotate_left
  ·refine zaA ?_
   obtain rfl:i = n:=by omega
   rw [<- hn,take_length];exact ⟨t,rest,⟨rfl,rfl,trivial⟩,rfl⟩
  have hin:i < n:=by omega
  have hi1:2 * i + 1 < L.length:=by omega
  have hi0:2 * i < L.length:=by omega
  obtain ⟨p,cap,sl,rfl,hlo,hbp⟩:∃ p cap sl,c = .row p n cap /\ lo <= p /\ bx[p]? = some (cV L ++ sl):=by
   rcases hp with ⟨rfl,_⟩ | ⟨p,n',cap,sl,rfl,h0,h1,_,h3⟩
   ·simp at hi0
   ·obtain rfl:n' = n:=by omega
    exact ⟨p,cap,sl,rfl,h0,h3⟩
  have hplt:=PrAt.lt hbp
  have hLs:L = L.take (2 * i) ++ [L[2 * i],L[2 * i + 1]] ++ L.drop (2 * (i + 1)):=by
   have h1:=drop2 hi1;rw [append_assoc,<- h1,take_append_drop]
  have hat:((cV L ++ sl).drop (10 * i)).take 10 = vC L[2 * i] ++ vC L[2 * i + 1]:=by
   have:=cV_at (A:=L.take (2 * i)) (B:=L.drop (2 * (i + 1))) (x:=L[2 * i]) (y:=L[2 * i + 1]) (sl:=sl) (k:=i) (by rw [length_take]; omega)
   rw [<- hLs] at this; exact this
  have hE:vK (L.take (2 * i)) ++ [vC L[2 * i],vC L[2 * i + 1]] = vK (L.take (2 * (i + 1))):=by rw [take2 hi1,zew,vK_two]
  refine zaj ?_;refine zak (zad ?_);refine mO ?_;refine zdU (i:=i) rfl hin rfl rfl rfl ?_;refine zaS (cs:=cV L ++ sl) (v:=.ag (vC L[2 * i] ++ vC L[2 * i + 1])) rfl rfl (by rw [getElem?_append_left hplt]; exact hbp) (by rw [length_append,zdb]; omega) (by rw [hat]; rfl) ?_;refine zed (cs:=vC L[2 * i] ++ vC L[2 * i + 1]) rfl rfl rfl rfl ?_;refine zaa ?_;have hlast:((bx ++ zV :: vcs 8 0 0 [] t (vK (L.take (2 * i))) :: rest) ++ [vC L[2 * i] ++ vC L[2 * i + 1]])[(bx ++ zV :: vcs 8 0 0 [] t (vK (L.take (2 * i))) :: rest).length]? = some (vC L[2 * i] ++ vC L[2 * i + 1]):=zbB _ _;generalize (bx ++ zV :: vcs 8 0 0 [] t (vK (L.take (2 * i))) :: rest).length = kk at hlast;rw [appM] at hlast ⊢;refine zae ?_;refine mS ?_;refine zaS (cs:=vcs 8 0 0 [] t (vK (L.take (2 * i)))) (v:=.d (.sl t (vK (L.take (2 * i))))) rfl rfl (getM _ _ _ _) (Nat.le_of_ble_eq_true rfl) rfl ?_
  refine mS ?_;refine zaS (cs:=vC L[2 * i] ++ vC L[2 * i + 1]) (v:=.ag (vC L[2 * i])) rfl rfl hlast (Nat.le_of_ble_eq_true rfl) rfl ?_;refine mS ?_;refine zaS (cs:=vC L[2 * i] ++ vC L[2 * i + 1]) (v:=.ag (vC L[2 * i + 1])) rfl rfl hlast (Nat.le_of_ble_eq_true rfl) rfl ?_;refine zao (es:=[vC L[2 * i],vC L[2 * i + 1]]) (litP2 rfl rfl rfl rfl) ?_;refine zbi (t:=t) (t':=nt1) (es:=vK (L.take (2 * i))) (ds:=[vC L[2 * i],vC L[2 * i + 1]]) rfl rfl (htl.imp id (mem_cons_of_mem _)) (by rw [zaU,length_take]; show _ + 2 <= _; omega) (fun e he => by rw [<- vK_two] at he; exact zbc _ e he) (zbc _) ?_;rw [hE];refine mS ?_;refine zaP (o':=4) (cs:=[.sl (nt1 + 1) (vK (L.take (2 * (i + 1))))]) rfl rfl (getM _ _ _ _) ⟨rfl,Nat.le_of_ble_eq_true rfl⟩ rfl ?_;rw [setM];refine zaa ?_;refine zae ?_;refine zat (n:=((i + 1:Nat):Int)) rfl rfl rfl (by omega) (by omega) ?_
  refine mN ?_;exact ⟨_,by show n - (i + 1) < n - i; omega,i + 1,nt1 + 1,_,by omega,rfl,⟨rfl,rfl,rfl,rfl,rfl,trivial⟩,rfl,.inr (mem_cons_self ..)⟩
 rintro tm bx1 nt1 live1 ⟨t,rest,ht,hbx⟩;obtain ⟨tm1,rfl⟩:=zaf ht;simp only at hbx; subst hbx
 clear ht;refine mO ?_;refine zaW (cs:=vcs 8 0 0 [] t (vK L)) rfl rfl (getM _ _ _ _) rfl ?_;refine zaO (cs:=vcs 8 0 0 [] t (vK L)) rfl rfl (getM0 _ _ _ _) rfl rfl rfl ?_;refine zaa ?_;refine zah ⟨.inr rfl,[.ag (vcs 8 0 0 [] t (vK L))],zbo rfl (getElem?_set_self (by simp)) rfl,⟨t,rfl⟩,by simp,fun q hq => ?_⟩;rw [getElem?_set_ne (by omega),getElem?_append_left hq]
theorem cV_lw:∀ ks:List V,lwL 0 (cV ks)
 | [] => trivial
 | v :: ks => by
  have h1:lwL 0 (vC v):=vlw (zco v);have h2:=cV_lw ks;show lwL 0 (vC v ++ cV ks)
  revert h1
  generalize vC v = cs;intro h1
  induction cs with
  | nil => exact h2
  | cons a r ih => exact ⟨h1.1,ih h1.2⟩
theorem Rgt.self8 {v:V} (h:Rgt v) (h8:v.kind = 8):v.num = 0 /\ v.exp = 0 /\ v.text = []:=by
 obtain ⟨k,n,e,s,kids⟩:=v;simp only [V.kind] at h8; subst h8
 obtain ⟨d,hd⟩:=h.right
 have:=V.self_eight (V.right_at hd).2
 exact ⟨this.1,this.2.1,this.2.2.1⟩
/-! ### sorted -/
def SdP (T:World -> Prop) (hT:Low ngl T) (N:Nat):Prop:=∀ v:V,v.nodes <= N -> Rgt v -> FnV (env T hT) 36 [.ag (vC v)] (.ag (vC v.sort))
def SdI (v:V) (m:Nat) (st:St):Prop:=∃ (i t:Nat) (rest:LP PC),i <= v.kids.length /\ m = v.kids.length - i /\ has st.tm [(1,.ref 0 0),(2,.ref 1 0),(3,.ref 2 0),(10,.d (.sl 0 (vK v.kids))),(11,.d (pI v.kids.length)),(12,.d (pI i))] /\ st.bx = vC v :: zV :: vcs v.kind v.num v.exp v.text t (vK (V.sorts (v.kids.take i))) :: rest /\ (t = 1 \/ t ∈ st.live)
theorem sortI_step {N:Nat} (ih:SdP T hT N):SdP T hT (N + 1):=by
 intro v hn hr;have hkl:=hr.len;have hks:=hr.ks;have hsl:=V.sorts_length v.kids;refine zaX (zag zf8) (by show 1 <= 34; decide) fun B hB => ?_
 unfold m_i_sorted;refine mO ?_;refine zbb (cs:=vC v) rfl ?_;refine mN ?_;refine mO ?_;refine zaW (p:=0) (cs:=vC v) rfl rfl rfl rfl ?_;refine zed (cs:=vC v) rfl rfl rfl rfl ?_;refine mN ?_;refine mQ ?_;refine zaP (p:=2) (o':=4) (cs:=[.sl 1 []]) rfl rfl rfl ⟨rfl,Nat.le_of_ble_eq_true rfl⟩ rfl ?_;refine zaa ?_;refine zaC (fun st => ∃ (t:Nat) (rest:LP PC),has st.tm [(1,.ref 0 0),(2,.ref 1 0),(3,.ref 2 0)] /\ st.bx = vC v :: zV :: vcs v.kind v.num v.exp v.text t (vK (V.sorts v.kids)) :: rest) ?_ ?_
 ·refine mQ ?_
  refine zaS (p:=0) (cs:=vC v) (v:=.d (.sl 0 (vK v.kids))) rfl rfl rfl (Nat.le_of_ble_eq_true rfl) rfl ?_;refine zaH (n:=v.kids.length) rfl rfl (zaU _) ?_;refine mN ?_;refine zad ?_;refine zav (SdI v) v.kids.length ⟨0,1,[],Nat.zero_le _,rfl,⟨rfl,rfl,rfl,rfl,rfl,rfl,trivial⟩,rfl,.inl rfl⟩ ?_;rintro m tm bx nt live ⟨i,t,rest,hi,rfl,ht,hbx,htl⟩;obtain ⟨tm1,rfl⟩:=zaf ht;simp only at hbx htl; subst hbx
  clear ht;refine mO ?_;refine po_b rfl rfl (fun b hb => ?_);refine zaa ?_;refine zak ?_;refine zbt (p:=(i:Int) < v.kids.length) hb rfl (fun him _ => ?_) (fun him _ => ?_)
  rotate_left
  ·refine zaA ?_
   have:i = v.kids.length:=by omega
   subst this;rw [take_length];exact ⟨t,rest,⟨rfl,rfl,rfl,trivial⟩,rfl⟩
  have hia:i < v.kids.length:=by omega
  have hlen:(V.sorts (v.kids.take i)).length = i:=by rw [V.sorts_length,length_take]; omega
  refine zaj ?_;refine zak (zad ?_);refine mO ?_;refine za3 (es:=vK v.kids) (e:=vC v.kids[i]) rfl rfl rfl ⟨by omega,by rw [Int.toNat_natCast]; exact zby hia⟩ rfl ?_;refine mS ?_;refine zed (cs:=vC v.kids[i]) rfl rfl rfl rfl ?_;refine zaa ?_;refine zae ?_;refine mS ?_;refine zaS (p:=2) (cs:=vcs v.kind v.num v.exp v.text t (vK (V.sorts (v.kids.take i)))) (v:=.d (.sl t (vK (V.sorts (v.kids.take i))))) rfl rfl rfl (Nat.le_of_ble_eq_true rfl) rfl ?_;refine zaW (cs:=vC v.kids[i]) rfl rfl (zbB _ _) rfl ?_;refine zab (za1 _) (ih v.kids[i] (V.nodes_kid hn i hia) (hr.kid i hia)) ?_;refine zcX (es:=vK [v.kids[i].sort]) (by rw [show vK [v.kids[i].sort] = [vC v.kids[i].sort] by simp [vK,V.pc_eq]]; exact litP1 rfl rfl) ?_;refine zbi (t:=t) (t':=0) (es:=vK (V.sorts (v.kids.take i))) (ds:=vK [v.kids[i].sort]) rfl rfl htl (by rw [zaU,zaU,hlen,length_singleton]; omega) (zbc _) (zbc _) ?_
  rw [<- zew,<- V.sorts_snoc hia];refine mS ?_;refine zaP (p:=2) (o':=4) (cs:=[.sl nt (vK (V.sorts (v.kids.take (i + 1))))]) rfl rfl rfl ⟨rfl,Nat.le_of_ble_eq_true rfl⟩ rfl ?_;refine zaa ?_;refine zae ?_;refine zat (n:=((i + 1:Nat):Int)) rfl rfl rfl (by omega) (by omega) ?_;refine mN ?_;exact ⟨_,by show v.kids.length - (i + 1) < v.kids.length - i; omega,i + 1,nt,_,by omega,rfl,⟨rfl,rfl,rfl,rfl,rfl,rfl,trivial⟩,rfl,.inr (mem_cons_self ..)⟩
 rintro tm bx nt live ⟨t,rest,ht,hbx⟩;obtain ⟨tm1,rfl⟩:=zaf ht;simp only at hbx; subst hbx
 clear ht;rw [sort_vC];refine zaC (fun st => v.kind ≠ 8 /\ has st.tm [(2,.ref 1 0),(3,.ref 2 0)] /\ st.bx = vC v :: zV :: vcs v.kind v.num v.exp v.text t (vK (V.sorts v.kids)) :: rest) ?_ ?_
 ·refine mO ?_
  (iterate 2 refine mS ?_);by_cases h8:v.kind = 8
  case neg =>
   refine zas rfl rfl (beq_eq_false_iff_ne.2 h8) ?_;refine mK ?_;exact ⟨h8,⟨rfl,rfl,trivial⟩,rfl⟩
  refine zal rfl rfl (beq_iff_eq.2 h8) ?_;refine mT ?_;rw [if_pos h8];obtain ⟨hev,h8l⟩:=hr.even h8;have h8s:=hr.self8 h8;rw [<- hsl] at hev h8l;clear hsl;generalize V.sorts v.kids = ks at hev h8l hks;generalize hbx0:vC v :: zV :: vcs v.kind v.num v.exp v.text t (vK ks) :: rest = bx0;have hb1:bx0[1]? = some zV:=by rw [<- hbx0]; rfl
  have hb2:bx0[2]? = some (vcs v.kind v.num v.exp v.text t (vK ks)):=by rw [<- hbx0]; rfl
  refine mO ?_;refine zaW (p:=2) (cs:=vcs v.kind v.num v.exp v.text t (vK ks)) rfl rfl hb2 rfl ?_;refine po_g rfl (FnG.liftR (pairsOf_g (T:=T) (hT:=hT) v.kind v.num v.exp v.text t ks h8l hev nt live) ⟨vlw (v:=.mk v.kind v.num v.exp v.text ks) (vcs_er _ _ _ _ _ _),trivial⟩) ?_;rintro x b1 n1 l1 ⟨x0,b0,rfl,rfl,c,rfl,hR⟩;have hcl:lwL 0 (cV ks):=cV_lw ks;have hP:=prAt_of (hR.shB (bx:=bx0) hcl rfl);have hl0:2 < bx0.length:=PrAt.lt hb2;have hk1:(bx0 ++ b0.map (·.map (PC.shB bx0.length)))[1]? = some zV:=by rw [getElem?_append_left (by omega)]; exact hb1
  show po _ _ _ ⟨up 28 (.d (c.shB bx0.length)) _,_,_,_⟩;generalize c.shB bx0.length = c1 at hP;generalize bx0 ++ b0.map (·.map (PC.shB bx0.length)) = bx1 at hP hk1;refine mN ?_;refine mQ ?_;refine po_g rfl (sortSt_g (T:=T) (hT:=hT) ks h8l hks hP n1 l1) ?_;rintro x b2 n2 l2 ⟨hP2,hlen2,hq2⟩;refine zaa ?_;have hl8:(insPs [] ks).length <= 8:=by rw [zbG _ _ hev,length_nil]; omega
  have hk2:b2[1]? = some zV:=by rw [hq2 1 (by omega)]; exact hk1
  refine mQ ?_;refine po_g rfl (mapOf_g (T:=T) (hT:=hT) (insPs [] ks) hl8 hP2 n2 l2) ?_;rintro x b3 n3 l3 ⟨⟨t3,rfl⟩,hlen3,hq3⟩;have hk3:b3[1]? = some zV:=by rw [hq3 1 (PrAt.lt hk2)]; exact hk2
  refine zaO (p:=1) (cs:=vcs 8 0 0 [] t3 (vK (insPs [] ks))) rfl rfl hk3 rfl rfl rfl ?_;refine zaa ?_;refine zah ⟨.inr rfl,[.ag (vcs 8 0 0 [] t3 (vK (insPs [] ks)))],zbo rfl (getElem?_set_self (PrAt.lt hk3)) rfl,?_⟩;show some (PV.ag (erL _)) = _;rw [vcs_er,h8,h8s.1,h8s.2.1,h8s.2.2]; rfl
 rintro tm bx nt live ⟨h8,ht,hbx⟩;obtain ⟨tm2,rfl⟩:=zaf ht;simp only at hbx; subst hbx
 clear ht tm1;rw [if_neg h8];refine mO ?_;refine zaW (p:=2) (cs:=vcs v.kind v.num v.exp v.text t (vK (V.sorts v.kids))) rfl rfl rfl rfl ?_;refine zaO (p:=1) (cs:=vcs v.kind v.num v.exp v.text t (vK (V.sorts v.kids))) rfl rfl rfl rfl rfl rfl ?_;refine mN ?_;refine zah ⟨.inr rfl,[.ag (vcs v.kind v.num v.exp v.text t (vK (V.sorts v.kids)))],rfl,?_⟩;show some (PV.ag (erL _)) = _;rw [vcs_er]; rfl
theorem sortI_fn (v:V) (h:Rgt v):FnV (env T hT) 36 [.ag (vC v)] (.ag (vC v.sort)):=by
 have all:∀ N,SdP T hT N:=by
  intro N
  induction N with
  | zero => intro v hn; have:=v.nodes_pos; omega
  | succ N ih => exact sortI_step ih
 exact all v.nodes v lR h
end
section
def m_s_PutMsg:M:=so [qo 1 (.box 0),⟨some 2,.mv (.c (.string ⟨[].toArray⟩)),none,[]⟩] (.seq (so [qL 3 5 1,qc 4 37 [3] 1,qo 5 (.not 4)] (.cond 5 (so [⟨some 2,.mv (.c (.string ⟨[].toArray⟩)),none,[]⟩] .ret) .skip)) (so [qL 6 5 1,qc 7 62 [6] 1,qm 2 7] .ret))
theorem zga:look Tryz.prog 38 = some (8,m_s_PutMsg,[.tm 2]):=by kernel_rfl
def m_s_l06Put:M:=so [qo 1 (.box 0),⟨some 2,.mv (.c (.string ⟨[].toArray⟩)),none,[]⟩] (so [⟨some 3,.mv (.c (.string ⟨[].toArray⟩)),none,[]⟩] (.seq (so [qF 5 0 1,ql 6 1 5] (.block 0 (.seq (so [qo 12 (.bin .eql false 6 (ci 0)),qm 11 12] (.cond 11 .skip (so [qo 13 (.bin .eql false 6 (ci 1)),qm 11 13] (.cond 11 .skip (.ops [qo 14 (.bin .eql false 6 (ci 2)),qm 11 14]))))) (.cond 11 (so [⟨some 15,.lit 1 [.c (.string ⟨[192].toArray⟩),.c (.string ⟨[194].toArray⟩),.c (.string ⟨[195].toArray⟩)],none,[]⟩,qF 16 0 1,ql 17 1 16,qo 18 (.ix 1 15 17),ql 19 1 18,qm 2 19] .ret) (so [qo 21 (.bin .eql false 6 (ci 3)),qm 20 21] (.cond 20 (so [qF 22 1 1,ql 23 1 22,qc 24 84 [23] 1,qm 2 24] .ret) (so [qo 26 (.bin .eql false 6 (ci 4)),qm 25 26] (.cond 25 (so [qF 27 2 1,ql 28 1 27,qF 31 1 1,ql 32 1 31,⟨some 29,.call 85 [28,ci 1],none,[.f 0,31]⟩,⟨some 30,.bin .add false (.c (.string ⟨[199,9,4].toArray⟩)) 29,none,[]⟩,qc 33 85 [32,ci 8] 0,qo 34 (.bin .add false 30 33),qm 2 34] .ret) (so [qo 36 (.bin .eql false 6 (ci 5)),qm 35 36] (.cond 35 (so [qF 37 3 1,ql 38 1 37,qo 39 (.lens 38),qF 41 3 1,ql 42 1 41,⟨some 40,.call 86 [39,ci 32,ci 160,ci 217,ci 218],none,[.f 0,41]⟩,qo 43 (.bin .add false 40 42),qm 2 43] .ret) (so [qo 45 (.bin .eql false 6 (ci 6)),qm 44 45] (.cond 44 (so [qF 46 3 1,ql 47 1 46,qo 48 (.lens 47),qF 50 3 1,ql 51 1 50,⟨some 49,.call 86 [48,ci 0,ci 0,ci 196,ci 197],none,[.f 0,50]⟩,qo 52 (.bin .add false 49 51),qm 2 52] .ret) (so [qo 54 (.bin .eql false 6 (ci 7)),qm 53 54] (.cond 53 (.ops [qF 55 4 1,ql 56 1 55,qo 57 (.len 56),qc 58 86 [57,ci 16,ci 144,ci 0,ci 220] 1,qm 3 58]) (so [qo 60 (.bin .eql false 6 (ci 8)),qm 59 60] (.cond 59 (.ops [qF 61 4 1,ql 62 1 61,qo 63 (.len 62),qo 64 (.bin .quo false 63 (ci 2)),qc 65 86 [64,ci 16,ci 128,ci 0,ci 222] 1,qm 3 65]) (.ops [qF 7 1 1,ql 8 1 7,qc 9 85 [8,ci 4] 1,⟨some 10,.bin .add false (.c (.string ⟨[199,4,6].toArray⟩)) 9,none,[]⟩,qm 3 10]))))))))))))))))) (.seq (so [qo 4 (.mv (ci 0))] (.block 1 (.loop (.seq (so [qm 66 4,qF 67 4 1,ql 68 1 67,qo 69 (.len 68),qo 70 (.bin .lss false 66 69)] (.cond 70 .skip (.exit 1))) (.seq (.block 2 (.ops [qm 73 3,qF 74 4 1,ql 75 1 74,qm 76 4,qo 77 (.ix 5 75 76),qL 78 5 77,qc 79 62 [78] 1,qo 80 (.bin .add false 73 79),qm 3 80])) (.ops [qm 71 4,qo 72 (.bin .add false 71 (ci 1)),qm 4 72])))))) (so [qm 81 3,qm 2 81] .ret))))
theorem zgb:look Tryz.prog 62 = some (82,m_s_l06Put,[.tm 2]):=by kernel_rfl
def m_s_l01In:M:=so [qo 6 (.mv (cB false))] (so [qm 7 0,qm 8 1,qo 9 (.bin .geq false 7 8),qm 10 9,qg 11 0 10 true,qg 12 2 10 true,⟨some 13,.bin .leq false 11 12,some (10,true),[]⟩,qo 14 (.pick 10 13 (cB false)),qm 6 14] .ret)
theorem lk_s_l01In:look Tryz.prog 65 = some (15,m_s_l01In,[.tm 6]):=by kernel_rfl
def m_s_l06Int:M:=so [⟨some 2,.mv (.c (.string ⟨[].toArray⟩)),none,[]⟩] (.seq (.block 0 (so [qm 4 0,qc 5 65 [4,ci (-32),ci 127] 1,qm 3 5] (.cond 3 (so [qm 6 0,qc 7 85 [6,ci 1] 1,qm 2 7] .ret) (so [qm 9 0,qc 10 65 [9,ci 0,ci 255] 1,qm 8 10] (.cond 8 (so [qm 11 0,qc 12 85 [11,ci 1] 1,⟨some 13,.bin .add false (.c (.string ⟨[204].toArray⟩)) 12,none,[]⟩,qm 2 13] .ret) (so [qm 15 0,qc 16 65 [15,ci 0,ci 65535] 1,qm 14 16] (.cond 14 (so [qm 17 0,qc 18 85 [17,ci 2] 1,⟨some 19,.bin .add false (.c (.string ⟨[205].toArray⟩)) 18,none,[]⟩,qm 2 19] .ret) (so [qm 21 0,qc 22 65 [21,ci 0,ci 4294967295] 1,qm 20 22] (.cond 20 (so [qm 23 0,qc 24 85 [23,ci 4] 1,⟨some 25,.bin .add false (.c (.string ⟨[206].toArray⟩)) 24,none,[]⟩,qm 2 25] .ret) (so [qm 27 0,qo 28 (.bin .geq false 27 (ci 0)),qm 26 28] (.cond 26 (so [qm 29 0,qc 30 85 [29,ci 8] 1,⟨some 31,.bin .add false (.c (.string ⟨[207].toArray⟩)) 30,none,[]⟩,qm 2 31] .ret) (so [qm 33 0,qo 34 (.bin .geq false 33 (ci (-128))),qm 32 34] (.cond 32 (so [qm 35 0,qc 36 85 [35,ci 1] 1,⟨some 37,.bin .add false (.c (.string ⟨[208].toArray⟩)) 36,none,[]⟩,qm 2 37] .ret) (so [qm 39 0,qo 40 (.bin .geq false 39 (ci (-32768))),qm 38 40] (.cond 38 (so [qm 41 0,qc 42 85 [41,ci 2] 1,⟨some 43,.bin .add false (.c (.string ⟨[209].toArray⟩)) 42,none,[]⟩,qm 2 43] .ret) (so [qm 45 0,qo 46 (.bin .geq false 45 (ci (-2147483648))),qm 44 46] (.cond 44 (so [qm 47 0,qc 48 85 [47,ci 4] 1,⟨some 49,.bin .add false (.c (.string ⟨[210].toArray⟩)) 48,none,[]⟩,qm 2 49] .ret) .skip))))))))))))))))) (so [qm 50 0,qc 51 85 [50,ci 8] 1,⟨some 52,.bin .add false (.c (.string ⟨[211].toArray⟩)) 51,none,[]⟩,qm 2 52] .ret))
theorem zgc:look Tryz.prog 84 = some (53,m_s_l06Int,[.tm 2]):=by kernel_rfl
def m_s_PutWide:M:=so [⟨some 4,.mv (.c (.string ⟨[].toArray⟩)),none,[]⟩] (.seq (so [qm 5 1,qc 6 65 [5,ci 1,ci 8] 1,qo 7 (.not 6)] (.cond 7 (so [⟨some 4,.mv (.c (.string ⟨[].toArray⟩)),none,[]⟩] .ret) .skip)) (so [qm 8 0,qo 9 (.conv .u64 8),qm 10 1,qc 11 41 [9,10] 1,qm 4 11] .ret))
theorem zfA:look Tryz.prog 85 = some (12,m_s_PutWide,[.tm 4]):=by kernel_rfl
def m_s_l06Many:M:=so [⟨some 10,.mv (.c (.string ⟨[].toArray⟩)),none,[]⟩] (.seq (.block 0 (so [qm 12 0,qm 13 1,qo 14 (.bin .lss false 12 13),qm 11 14] (.cond 11 (so [qm 15 2,qm 16 0,qo 17 (.bin .add false 15 16),qc 18 85 [17,ci 1] 1,qm 10 18] .ret) (so [qm 20 0,qo 21 (.bin .lss false 20 (ci 256)),qm 22 21,qg 23 3 22 true,⟨some 24,.bin .gtr false 23 (ci 0),some (22,true),[]⟩,qo 25 (.pick 22 24 (cB false)),qm 19 25] (.cond 19 (so [qm 26 3,qc 27 85 [26,ci 1] 1,qm 28 0,qc 29 85 [28,ci 1] 1,qo 30 (.bin .add false 27 29),qm 10 30] .ret) .skip))))) (so [qm 31 4,qc 32 85 [31,ci 1] 1,qm 33 0,qc 34 85 [33,ci 2] 1,qo 35 (.bin .add false 32 34),qm 10 35] .ret))
theorem zfB:look Tryz.prog 86 = some (36,m_s_l06Many,[.tm 10]):=by kernel_rfl
end
section
def msgInt (n:Int):L8 :=
 if -32 <= n /\ n <= 127 then be 1 (lo64 n)
 else if 0 <= n /\ n <= 255 then [204] ++ be 1 (lo64 n)
 else if 0 <= n /\ n <= 65535 then [205] ++ be 2 (lo64 n)
 else if 0 <= n /\ n <= 4294967295 then [206] ++ be 4 (lo64 n)
 else if n ≥ 0 then [207] ++ be 8 (lo64 n)
 else if n ≥ -128 then [208] ++ be 1 (lo64 n)
 else if n ≥ -32768 then [209] ++ be 2 (lo64 n)
 else if n ≥ -2147483648 then [210] ++ be 4 (lo64 n)
 else [211] ++ be 8 (lo64 n)
theorem msgInt_len (n:Int):(msgInt n).length <= 9:=by
 unfold msgInt
 repeat' split
 all_goals simp [zac]
def msgMany (n least low one two:Int):L8 :=
 if n < least then be 1 (lo64 (low + n))
 else if n < 256 /\ one > 0 then be 1 (lo64 one) ++ be 1 (lo64 n)
 else be 1 (lo64 two) ++ be 2 (lo64 n)
theorem zbg (n a b c d:Int):(msgMany n a b c d).length <= 3:=by
 unfold msgMany
 repeat' split
 all_goals simp [zac]
def msgHd (v:V):L8 :=
 if v.kind = 0 then [192] else if v.kind = 1 then [194] else if v.kind = 2 then [195]
 else if v.kind = 3 then msgInt v.num
 else if v.kind = 4 then [199,9,4] ++ be 1 (lo64 v.exp) ++ be 8 (lo64 v.num)
 else if v.kind = 5 then msgMany v.text.length 32 160 217 218 ++ v.text
 else if v.kind = 6 then msgMany v.text.length 0 0 196 197 ++ v.text
 else if v.kind = 7 then msgMany v.kids.length 16 144 0 220
 else if v.kind = 8 then msgMany ((v.kids.length / 2:Nat):Int) 16 128 0 222
 else [199,4,6] ++ be 4 (lo64 v.num)
theorem msgHd_len (v:V):(msgHd v).length <= 12 + v.text.length:=by
 have h1:=msgInt_len v.num;have h2:=zbg v.text.length 32 160 217 218;have h3:=zbg v.text.length 0 0 196 197;have h4:=zbg v.kids.length 16 144 0 220;have h5:=zbg ((v.kids.length / 2:Nat):Int) 16 128 0 222;unfold msgHd;by_cases k0:v.kind = 0
 ·rw [if_pos k0]; simp only [length_cons,length_nil]; omega
 rw [if_neg k0];by_cases k1:v.kind = 1
 ·rw [if_pos k1]; simp only [length_cons,length_nil]; omega
 rw [if_neg k1];by_cases k2:v.kind = 2
 ·rw [if_pos k2]; simp only [length_cons,length_nil]; omega
 rw [if_neg k2];by_cases k3:v.kind = 3
 ·rw [if_pos k3]; omega
 rw [if_neg k3];by_cases k4:v.kind = 4
 ·rw [if_pos k4]; simp only [zac,length_append,length_cons,length_nil]; omega
 rw [if_neg k4];by_cases k5:v.kind = 5
 ·rw [if_pos k5,length_append]; omega
 rw [if_neg k5];by_cases k6:v.kind = 6
 ·rw [if_pos k6,length_append]; omega
 rw [if_neg k6];by_cases k7:v.kind = 7
 ·rw [if_pos k7]; omega
 rw [if_neg k7];by_cases k8:v.kind = 8
 ·rw [if_pos k8]; omega
 rw [if_neg k8]; simp only [zac,length_append,length_cons,length_nil]; omega
mutual
def msg:V -> L8
 | .mk k n e s kids => msgHd (.mk k n e s kids) ++ msgs kids
def msgs:List V -> L8
 | [] => []
 | v :: vs => msg v ++ msgs vs
end
theorem zdV (v:V):msg v = msgHd v ++ msgs v.kids:=by obtain ⟨k,n,e,s,kids⟩:=v; rw [msg]; rfl
theorem zfC:∀ (vs:List V) (v:V),msgs (vs ++ [v]) = msgs vs ++ msg v
 | [],v => by simp [msgs]
 | x :: xs,v => by simp only [cons_append,msgs,zfC xs v,append_assoc]
theorem zfD {vs:List V} {j:Nat} (h:j < vs.length):msgs (vs.take (j + 1)) = msgs (vs.take j) ++ msg vs[j]:=by
 rw [take_succ_eq_append_getElem h,zfC]
mutual
theorem zgd:∀ v:V,(msg v).length <= 12 * v.nodes + v.bulk
 | .mk k n e s kids => by
  have h1:=msgHd_len (.mk k n e s kids);have h2:=msgs_len kids;rw [msg,length_append];simp only [V.text] at h1;simp only [V.nodes,V.bulk]; omega
theorem msgs_len:∀ vs:List V,(msgs vs).length <= 12 * V.nodess vs + V.bulks vs
 | [] => by simp [msgs]
 | v :: vs => by
  have h1:=zgd v; have h2:=msgs_len vs
  rw [msgs,length_append];simp only [V.nodess,V.bulks]; omega
end
end
section
theorem tyB:ElemTy Tryz.prog 22 5 1 1:=ElemTy.mk' (z:=.int .u8 0) Tryz.underlying22 (by kernel_rfl) rfl (by decide)
theorem l05Big_any (n k:Nat) (w:World) (hk:k <= 8) (hn:n < 18446744073709551616) :
  Calls Tryz.prog 41 #[.int .u64 n,.int .i64 k] w fun e w' => e = .returned (.string ⟨(be k n).toArray⟩) /\ Below w.heap.size w w':=by
 go_enter Tryz.func41,Tryz.ntmps41
 go_wp2
 go_loopw [0,5,6] (fun x v i wr => ∃ j:Nat,j <= k /\ i = .int .i64 j /\ x = .int .u64 (n / 256 ^ j:Nat) /\ OwnB wr w.heap.size 5 v (be j n) /\ v ≠ .slice none 0 0 /\ Below w.heap.size w wr) (fun _ _ i _ => k - (intOf i).toNat)
 case atStart => exact ⟨0,Nat.zero_le _,rfl,by simp,OwnB.start,by simp,(Below.refl _ _).alloc lR _⟩
 case round =>
  obtain ⟨j,hj,rfl,rfl,hown,hnn,hbel⟩:=hrel;obtain ⟨g,c,rfl,hg⟩:=hown.form' hnn;have hsz:=hbel.size;have hcs:=hown.cells g rfl;by_cases hlt:j < k
  ·have HS:=Lib.hid (be_cons j n)
   have HD:=Lib.hid (Nat.div_div_eq_div_mul n (256 ^ j) 256);generalize hm:n / 256 ^ j = m at *;have HM:=Lib.hid hm; clear hm
   have hbv:=byte_val m;have hlt64:m < 18446744073709551616:=by rw [<- HM.out]; exact Nat.lt_of_le_of_lt (Nat.div_le_self _ _) hn
   go_wp2_with (at_builtin; refine wp_appB tyB rfl rfl w.heap.size (OwnB.one _ hsz) rfl ⟨g,0,none⟩ c rfl ((hown.alloc _).cells g rfl) (by simp [zac]; omega) (by simp; omega) ?_)
   intro v' w1 hown1 hgr hnn1;have hbel1:=OwnB.below (OwnB.one (byteOf m) hsz) (hbel.alloc hsz _) hgr (by simp; omega);clear hcs hown hbel;go_wp2;go_roundw
   case rel => exact ⟨j + 1,by omega,by go_num,by rw [Nat.pow_succ,<- HD.out]; go_num,by rw [HS.out]; exact hown1,hnn1,hbel1⟩
   case measure => simp [intOf] <;> omega
  ·obtain rfl:j = k:=by omega
   have hstr:=hown.str (P:=Tryz.prog) 22 Tryz.underlying22 Tryz.underlying5 9 Tryz.underlying9;simp only [zac] at hstr;go_wp2;go_ret;exact ⟨rfl,hbel⟩
theorem zge (n:Int) (k:Nat) (w:World) (hk:1 <= k /\ k <= 8) (hn:-9223372036854775808 <= n /\ n <= 9223372036854775807) :
  Calls Tryz.prog 48 #[.int .i64 n,.int .i64 k] w fun e w' => e = .returned (.string ⟨(be k (lo64 n)).toArray⟩) /\ Below w.heap.size w w':=by
 obtain ⟨hk1,hk2⟩:=hk;obtain ⟨hn1,hn2⟩:=hn;have hin:inR k 1 8 = true:=zaB (by omega)
 go_enter Tryz.func48,Tryz.ntmps48
 go_wp2_with (go_at_call 47; refine (zaM _ _ _ _).mono ?_; rintro e w' ⟨rfl,rfl⟩)
 go_loopw [5,6] (fun v i wr => ∃ j q:Nat,j + q = k /\ i = .int .i64 ((q:Int) - 1) /\ OwnB wr w.heap.size 5 v (be j (lo64 n / 256 ^ q)) /\ v ≠ .slice none 0 0 /\ Below w.heap.size w wr) (fun _ i _ => (intOf i + 1).toNat)
 case atStart => exact ⟨0,k,by omega,rfl,OwnB.start,by simp,(Below.refl _ _).alloc lR _⟩
 case round =>
  obtain ⟨j,q,hjq,rfl,hown,hnn,hbel⟩:=hrel;obtain ⟨g,c,rfl,hg⟩:=hown.form' hnn;have hsz:=hbel.size;by_cases hlt:0 < q
  ·obtain ⟨q,rfl⟩:∃ p,q = p + 1:=⟨q - 1,by omega⟩
   rw [show ((q + 1:Nat):Int) - 1 = q by omega];have hq8:q <= 7:=by omega
   have hbv:n / 2 ^ (8 * q) % 256 = ((byteOf (lo64 n / 256 ^ q)).toNat:Nat):=wide_byte n q hq8 hn1 hn2;have HS:=Lib.hid (be_step (lo64 n) j q)
   go_wp2_with (at_builtin; refine wp_appB (r:=[byteOf (lo64 n / 256 ^ q)]) tyB rfl rfl w.heap.size (hown.alloc _) rfl ⟨wr.heap.size,0,none⟩ 1 rfl (cell_one_new _ _ _) (by simp [zac]; omega) (by simp; omega) ?_)
   intro v' w1 hown1 hgr hnn1;have hbel1:=OwnB.below (hown.alloc _) (hbel.alloc hsz _) hgr (by simp; omega);have hnn2:¬ v' = .slice none 0 0:=fun h => by simpa using hnn1 h
   clear hown hbel hnn1;go_wp2;go_roundw
   case rel => exact ⟨j + 1,q,by omega,rfl,by rw [HS.out]; exact hown1,hnn2,hbel1⟩
   case measure => simp [intOf]
  ·obtain rfl:q = 0:=by omega
   obtain rfl:j = k:=by omega
   simp only [Nat.pow_zero,Nat.div_one] at hown;have hstr:=hown.str (P:=Tryz.prog) 22 Tryz.underlying22 Tryz.underlying5 9 Tryz.underlying9;simp only [zac] at hstr;go_wp2;go_ret;exact ⟨rfl,hbel⟩
theorem ze1 (n k:Int) (w:World) (hk:0 <= k /\ k <= 8) (hn:0 <= n /\ n <= 18446744073709551615) :
  Calls Tryz.prog 41 #[.int .u64 n,.int .i64 k] w fun e w' => e = .returned (.string ⟨(be k.toNat n.toNat).toArray⟩) /\ Below w.heap.size w w':=by
 obtain ⟨n,rfl⟩:=Int.eq_ofNat_of_zero_le hn.1;obtain ⟨k,rfl⟩:=Int.eq_ofNat_of_zero_le hk.1;exact l05Big_any n k w (by omega) (by omega)
theorem zdc (m n:Int) (w:World) (hm:0 <= m /\ m <= 7) (hn:0 <= n /\ n <= 18446744073709551615) :
  Calls Tryz.prog 40 #[.int .i64 m,.int .u64 n] w fun e w' => e = .returned (.string ⟨(hd m.toNat n.toNat).toArray⟩) /\ Below w.heap.size w w':=by
 have hin:inR m 0 7 = true:=zaB hm;obtain ⟨hm1,hm2⟩:=hm;obtain ⟨hn1,hn2⟩:=hn
 go_enter Tryz.func40,Tryz.ntmps40
 go_wp2_with (first | (go_at_call 65; refine (zaF _ _ _ _).mono ?_; rintro e w' ⟨rfl,rfl⟩) | (go_at_call 41; refine (ze1 _ _ _ (by omega) (by omega)).mono ?_; rintro e w' ⟨rfl,hb⟩))
 all_goals
  go_ret;refine ⟨zbr ?_,by first | assumption | exact zan (by assumption) (by assumption) lR⟩;unfold hd
  repeat (first | rw [if_pos (by omega)] | rw [if_neg (by omega)])
  first | exact be_eq (by omega) | exact zfb (be_eq (by omega)) (be_eq (by omega))
theorem zdW (n k:Int) (w:World) (hk:1 <= k /\ k <= 8) (hn:-9223372036854775808 <= n /\ n <= 9223372036854775807) :
  Calls Tryz.prog 48 #[.int .i64 n,.int .i64 k] w fun e w' => e = .returned (.string ⟨(be k.toNat (lo64 n)).toArray⟩) /\ Below w.heap.size w w':=by
 obtain ⟨k,rfl⟩:=Int.eq_ofNat_of_zero_le (show 0 <= k by omega);exact zge n k w (by omega) hn
theorem putWide_w (n k:Int) (w:World) (hk:1 <= k /\ k <= 8) (hn:0 <= n /\ n <= 18446744073709551615) :
  Calls Tryz.prog 48 #[.int .i64 (IntKind.i64.wrap n),.int .i64 k] w fun e w' => e = .returned (.string ⟨(be k.toNat n.toNat).toArray⟩) /\ Below w.heap.size w w':=by
 have:=zdW (IntKind.i64.wrap n) k w hk (wrap_bd n)
 rwa [lo64_wrap,lo64_of n hn] at this
theorem zdd (m n:Int) (w:World) (hm:0 <= m /\ m <= 7) (hn:0 <= n /\ n <= 18446744073709551615) :
  Calls Tryz.prog 27 #[.int .i64 m,.int .u64 n] w fun e w' => e = .returned (.string ⟨(hd m.toNat n.toNat).toArray⟩) /\ Below w.heap.size w w':=by
 have hin:inR m 0 7 = true:=zaB hm;obtain ⟨hm1,hm2⟩:=hm;obtain ⟨hn1,hn2⟩:=hn;have hcv:=fun b c w => conv1 (P:=Tryz.prog) Tryz.underlying22 Tryz.underlying5 Tryz.underlying9 b c w
 go_enter Tryz.func27,Tryz.ntmps27
 go_wp2_with (go_at_call 47; refine (zaM _ _ _ _).mono ?_; rintro e w' ⟨rfl,rfl⟩)
 ·have hlt:n < 24:=by assumption
  go_ret;refine ⟨zbr ?_,(Below.refl _ _).alloc lR _⟩;rw [be1_plain m n ⟨hm1,hm2⟩ hn1,hd,if_pos (by omega)]
 all_goals
  go_region_with (go_at_call 48; refine (putWide_w n _ _ (by decide) ⟨hn1,hn2⟩).mono ?_; rintro e w' ⟨rfl,hb⟩; obtain ⟨hc,hf⟩:=zbd hb)
 all_goals
  go_wp2;go_ret;refine ⟨zbr ?_,?_⟩
  ·unfold hd
   repeat (first | rw [if_pos (by omega)] | rw [if_neg (by omega)])
   first | exact zfb (zdj m 24 ⟨hm1,hm2⟩ (by decide)) rfl | exact zfb (zdj m 25 ⟨hm1,hm2⟩ (by decide)) rfl | exact zfb (zdj m 26 ⟨hm1,hm2⟩ (by decide)) rfl | exact zfb (zdj m 27 ⟨hm1,hm2⟩ (by decide)) rfl
  ·first | exact (((Below.refl _ _).alloc lR _).drew.trans (hb.mono (by simp))) | exact ((Below.refl w.heap.size w).drew.trans hb).alloc hb.size _
end
section
variable {T:World -> Prop} {hT:Low ngl T}
theorem zcI {C:Cx} {W:World} {k:IntKind} {n:Int} {y:Value} (h:RpV C W (.d (.v (.int k n))) y):y = .int k n:=by
 cases h with
 | d _ _ h => cases h; rfl
theorem in_fn (x a b:Int):FnV (env T hT) 65 [.d (pI x),.d (pI a),.d (pI b)] (.d (pB (decide (a <= x /\ x <= b)))):=by
 refine zaX (zag lk_s_l01In) (by show 3 <= 15; decide) fun B hB => ?_
 unfold m_s_l01In;refine mO ?_;refine po_q rfl rfl ?_;refine zaa ?_;refine mO ?_
 iterate 2 (refine po_q rfl rfl ?_)
 refine po_b rfl rfl (fun b1 hb1 => ?_);refine po_q rfl rfl ?_
 cases b1
 ·refine mZ ?_
  iterate 2 (refine po_q rfl rfl ?_)
  refine zaa ?_;refine zah ⟨.inr rfl,_,rfl,?_⟩;have h1:¬ x ≥ a:=of_decide_eq_false hb1.symm;rw [decide_eq_false (by omega)]; rfl
 ·iterate 2 (refine po_q rfl rfl ?_)
  refine po_b rfl rfl (fun b2 hb2 => ?_)
  iterate 2 (refine po_q rfl rfl ?_)
  refine zaa ?_;refine zah ⟨.inr rfl,_,rfl,?_⟩;have h1:x ≥ a:=of_decide_eq_true hb1.symm;have e:decide (a <= x /\ x <= b) = b2:=by rw [hb2]; exact decide_eq_decide.2 ⟨fun h => h.2,fun h => ⟨h1,h⟩⟩
  rw [e]; rfl
theorem big_fn (n:Int) (k:Int) (hk:0 <= k /\ k <= 8) (hn:0 <= n /\ n <= 18446744073709551615):FnV (env T hT) 41 [.d (.v (.int .u64 n)),.d (pI k)] (.d (pS (be k.toNat n.toNat))):=by
 refine FnV.old rfl fun w C vs hF _ _ hlen hv => ?_
 match vs,hlen with
 | [a,b],_ =>
  have h1:=zcI (hv 0 _ _ rfl rfl); have h2:=zcI (hv 1 _ _ rfl rfl)
  subst h1; subst h2
  exact ze1 n k w hk hn
theorem zgf (n k:Int) (hk:1 <= k /\ k <= 8):FnV (env T hT) 85 [.d (pI n),.d (pI k)] (.d (pS (be k.toNat (lo64 n)))):=by
 refine zaX (zag zfA) (by show 2 <= 12; decide) fun B hB => ?_
 unfold m_s_PutWide;refine mO ?_;refine po_q rfl rfl ?_;refine zaa ?_;refine mM ?_;refine po_q rfl rfl ?_;refine zab (args:=[.d (pI k),.d (pI 1),.d (pI 8)]) rfl (in_fn k 1 8) ?_;rw [decide_eq_true hk];refine po_q rfl rfl ?_;refine zaa ?_;refine mwF ?_;refine zaj ?_;refine mO ?_;refine po_q rfl rfl ?_;have hw:IntKind.u64.wrap n = (lo64 n:Int):=by rw [IntKind.wrap_u64]; unfold lo64; omega
 have hlt:=lo64_lt n;refine po_q (v:=.d (.v (.int .u64 (lo64 n:Int)))) rfl (by show some (PV.d (.v (.int .u64 (IntKind.u64.wrap n)))) = _; rw [hw]) ?_;refine po_q rfl rfl ?_;refine zab (args:=[.d (.v (.int .u64 (lo64 n:Int))),.d (pI k)]) rfl (big_fn _ k (by omega) (by omega)) ?_;refine po_q rfl rfl ?_;refine zaa ?_;exact mR
theorem msgInt_fn (n:Int):FnV (env T hT) 84 [.d (pI n)] (.d (pS (msgInt n))):=by
 have hwide:=fun k hk => zgf (T:=T) (hT:=hT) n k hk
 refine zaX (zag zgc) (by show 1 <= 53; decide) fun B hB => ?_
 unfold m_s_l06Int msgInt;refine mO ?_;refine po_q rfl rfl ?_;refine zaa ?_;refine zak (zad (zak (zae ?_)));refine po_q rfl rfl ?_;refine zab (args:=[.d (pI n),.d (pI (-32)),.d (pI 127)]) rfl (in_fn n (-32) 127) ?_;refine po_q rfl rfl ?_;refine zaa ?_;refine za6 rfl (fun hc => ?_) (fun hc => ?_)
 ·rw [if_pos (of_decide_eq_true hc)]
  refine mO ?_;refine po_q rfl rfl ?_;refine zab (args:=[.d (pI n),.d (pI 1)]) rfl (hwide 1 (by omega)) ?_;refine po_q rfl rfl ?_;refine zaa ?_;exact mR
 rw [if_neg (of_decide_eq_false hc)];refine mO ?_;refine po_q rfl rfl ?_;refine zab (args:=[.d (pI n),.d (pI 0),.d (pI 255)]) rfl (in_fn n 0 255) ?_;refine po_q rfl rfl ?_;refine zaa ?_;refine za6 rfl (fun hc => ?_) (fun hc => ?_)
 ·rw [if_pos (of_decide_eq_true hc)]
  refine mO ?_;refine po_q rfl rfl ?_;refine zab (args:=[.d (pI n),.d (pI 1)]) rfl (hwide 1 (by omega)) ?_;refine zau (la:=[204]) rfl rfl rfl (by rw [zac]; simp) ?_;refine po_q rfl rfl ?_;refine zaa ?_;exact mR
 rw [if_neg (of_decide_eq_false hc)];refine zdg (fun s => has s.tm [(0,.d (pI n))]) ⟨rfl,trivial⟩ (fun tm bx nt live ht => ?_);obtain ⟨tm0,rfl⟩:=zaf ht;refine mO ?_;refine po_q rfl rfl ?_;refine zab (args:=[.d (pI n),.d (pI 0),.d (pI 65535)]) rfl (in_fn n 0 65535) ?_;refine po_q rfl rfl ?_;refine zaa ?_;refine za6 rfl (fun hc => ?_) (fun hc => ?_)
 ·rw [if_pos (of_decide_eq_true hc)]
  refine mO ?_;refine po_q rfl rfl ?_;refine zab (args:=[.d (pI n),.d (pI 2)]) rfl (hwide 2 (by omega)) ?_;refine zau (la:=[205]) rfl rfl rfl (by rw [zac]; simp) ?_;refine po_q rfl rfl ?_;refine zaa ?_;exact mR
 rw [if_neg (of_decide_eq_false hc)];refine mO ?_;refine po_q rfl rfl ?_;refine zab (args:=[.d (pI n),.d (pI 0),.d (pI 4294967295)]) rfl (in_fn n 0 4294967295) ?_;refine po_q rfl rfl ?_;refine zaa ?_;refine za6 rfl (fun hc => ?_) (fun hc => ?_)
 ·rw [if_pos (of_decide_eq_true hc)]
  refine mO ?_;refine po_q rfl rfl ?_;refine zab (args:=[.d (pI n),.d (pI 4)]) rfl (hwide 4 (by omega)) ?_;refine zau (la:=[206]) rfl rfl rfl (by rw [zac]; simp) ?_;refine po_q rfl rfl ?_;refine zaa ?_;exact mR
 rw [if_neg (of_decide_eq_false hc)];refine zdg (fun s => has s.tm [(0,.d (pI n))]) ⟨rfl,trivial⟩ (fun tm bx nt live ht => ?_);obtain ⟨tm0,rfl⟩:=zaf ht;refine mO ?_;refine po_q rfl rfl ?_;refine po_b rfl rfl (fun b hb => ?_);refine po_q rfl rfl ?_;refine zaa ?_;refine za6 rfl (fun hc => ?_) (fun hc => ?_)
 ·rw [if_pos (of_decide_eq_true (hb.symm.trans hc))]
  refine mO ?_;refine po_q rfl rfl ?_;refine zab (args:=[.d (pI n),.d (pI 8)]) rfl (hwide 8 (by omega)) ?_;refine zau (la:=[207]) rfl rfl rfl (by rw [zac]; simp) ?_;refine po_q rfl rfl ?_;refine zaa ?_;exact mR
 rw [if_neg (of_decide_eq_false (hb.symm.trans hc))];refine zdg (fun s => has s.tm [(0,.d (pI n))]) ⟨rfl,trivial⟩ (fun tm bx nt live ht => ?_);obtain ⟨tm0,rfl⟩:=zaf ht;refine mO ?_;refine po_q rfl rfl ?_;refine po_b rfl rfl (fun b hb => ?_);refine po_q rfl rfl ?_;refine zaa ?_;refine za6 rfl (fun hc => ?_) (fun hc => ?_)
 ·rw [if_pos (of_decide_eq_true (hb.symm.trans hc))]
  refine mO ?_;refine po_q rfl rfl ?_;refine zab (args:=[.d (pI n),.d (pI 1)]) rfl (hwide 1 (by omega)) ?_;refine zau (la:=[208]) rfl rfl rfl (by rw [zac]; simp) ?_;refine po_q rfl rfl ?_;refine zaa ?_;exact mR
 rw [if_neg (of_decide_eq_false (hb.symm.trans hc))];refine zdg (fun s => has s.tm [(0,.d (pI n))]) ⟨rfl,trivial⟩ (fun tm bx nt live ht => ?_);obtain ⟨tm0,rfl⟩:=zaf ht;refine mO ?_;refine po_q rfl rfl ?_;refine po_b rfl rfl (fun b hb => ?_);refine po_q rfl rfl ?_;refine zaa ?_;refine za6 rfl (fun hc => ?_) (fun hc => ?_)
 ·rw [if_pos (of_decide_eq_true (hb.symm.trans hc))]
  refine mO ?_;refine po_q rfl rfl ?_;refine zab (args:=[.d (pI n),.d (pI 2)]) rfl (hwide 2 (by omega)) ?_;refine zau (la:=[209]) rfl rfl rfl (by rw [zac]; simp) ?_;refine po_q rfl rfl ?_;refine zaa ?_;exact mR
 rw [if_neg (of_decide_eq_false (hb.symm.trans hc))];refine zdg (fun s => has s.tm [(0,.d (pI n))]) ⟨rfl,trivial⟩ (fun tm bx nt live ht => ?_);obtain ⟨tm0,rfl⟩:=zaf ht;refine mO ?_;refine po_q rfl rfl ?_;refine po_b rfl rfl (fun b hb => ?_);refine po_q rfl rfl ?_;refine zaa ?_;refine za6 rfl (fun hc => ?_) (fun hc => ?_)
 ·rw [if_pos (of_decide_eq_true (hb.symm.trans hc))]
  refine mO ?_;refine po_q rfl rfl ?_;refine zab (args:=[.d (pI n),.d (pI 4)]) rfl (hwide 4 (by omega)) ?_;refine zau (la:=[210]) rfl rfl rfl (by rw [zac]; simp) ?_;refine po_q rfl rfl ?_;refine zaa ?_;exact mR
 rw [if_neg (of_decide_eq_false (hb.symm.trans hc))];refine zaj ?_;refine mO ?_;refine po_q rfl rfl ?_;refine zab (args:=[.d (pI n),.d (pI 8)]) rfl (hwide 8 (by omega)) ?_;refine zau (la:=[211]) rfl rfl rfl (by rw [zac]; simp) ?_;refine po_q rfl rfl ?_;refine zaa ?_;exact mR
theorem msgMany_fn (n least low one two:Int) (hb:0 <= n /\ n <= 4611686018427387904) (hl:0 <= low /\ low <= 1000):FnV (env T hT) 86 [.d (pI n),.d (pI least),.d (pI low),.d (pI one),.d (pI two)] (.d (pS (msgMany n least low one two))):=by
 have hwide:=fun x k hk => zgf (T:=T) (hT:=hT) x k hk
 refine zaX (zag zfB) (by show 5 <= 36; decide) fun B hB => ?_
 unfold m_s_l06Many msgMany;refine mO ?_;refine po_q rfl rfl ?_;refine zaa ?_;refine zak (zad (zak (zae ?_)))
 iterate 2 (refine po_q rfl rfl ?_)
 refine po_b rfl rfl (fun b hb1 => ?_);refine po_q rfl rfl ?_;refine zaa ?_;refine za6 rfl (fun hc => ?_) (fun hc => ?_)
 ·rw [if_pos (of_decide_eq_true (hb1.symm.trans hc))]
  refine mO ?_
  iterate 2 (refine po_q rfl rfl ?_)
  refine zat (n:=low + n) rfl rfl rfl rfl (by omega) ?_;refine zab (args:=[.d (pI (low + n)),.d (pI 1)]) rfl (hwide _ 1 (by omega)) ?_;refine po_q rfl rfl ?_;refine zaa ?_;exact mR
 rw [if_neg (of_decide_eq_false (hb1.symm.trans hc))];refine zaC (fun s => has s.tm [(0,.d (pI n)),(3,.d (pI one)),(4,.d (pI two)),(19,.d (pB (decide (n < 256 /\ one > 0))))]) ?_ ?_
 ·refine zae ?_
  refine po_q rfl rfl ?_;refine po_b rfl rfl (fun b2 hb2 => ?_);refine po_q rfl rfl ?_
  cases b2
  ·refine mZ ?_
   iterate 2 (refine po_q rfl rfl ?_)
   refine zaa ?_;have h1:¬ n < 256:=of_decide_eq_false hb2.symm;exact ⟨rfl,rfl,rfl,by rw [decide_eq_false (by omega)]; rfl,trivial⟩
  ·refine po_q rfl rfl ?_
   refine po_b rfl rfl (fun b3 hb3 => ?_)
   iterate 2 (refine po_q rfl rfl ?_)
   refine zaa ?_;have h1:n < 256:=of_decide_eq_true hb2.symm;have e:decide (n < 256 /\ one > 0) = b3:=by rw [hb3]; exact decide_eq_decide.2 ⟨fun h => h.2,fun h => ⟨h1,h⟩⟩
   exact ⟨rfl,rfl,rfl,by rw [e]; rfl,trivial⟩
 rintro tm bx nt live ht;obtain ⟨tm0,rfl⟩:=zaf ht;refine za6 rfl (fun hc => ?_) (fun hc => ?_)
 ·rw [if_pos (of_decide_eq_true hc)]
  refine mO ?_;refine po_q rfl rfl ?_;refine zab (args:=[.d (pI one),.d (pI 1)]) rfl (hwide _ 1 (by omega)) ?_;refine po_q rfl rfl ?_;refine zab (args:=[.d (pI n),.d (pI 1)]) rfl (hwide _ 1 (by omega)) ?_;refine zau rfl rfl rfl (by rw [zac,zac]; simp) ?_;refine po_q rfl rfl ?_;refine zaa ?_;exact mR
 rw [if_neg (of_decide_eq_false hc)];refine zaj ?_;refine mO ?_;refine po_q rfl rfl ?_;refine zab (args:=[.d (pI two),.d (pI 1)]) rfl (hwide _ 1 (by omega)) ?_;refine po_q rfl rfl ?_;refine zab (args:=[.d (pI n),.d (pI 2)]) rfl (hwide _ 2 (by omega)) ?_;refine zau rfl rfl rfl (by rw [zac,zac]; simp) ?_;refine po_q rfl rfl ?_;refine zaa ?_;exact mR
theorem msgs_app:∀ a b:List V,msgs (a ++ b) = msgs a ++ msgs b
 | [],b => rfl
 | x :: a,b => by simp only [cons_append,msgs,msgs_app a b,append_assoc]
theorem zcJ (j:Nat) (vs:List V):(msgs (vs.take j)).length <= (msgs vs).length:=by
 have h:=msgs_app (vs.take j) (vs.drop j);rw [take_append_drop] at h;rw [h,length_append]; omega
theorem V.ok_flat {v:V} (h:v.ok = true) (hk:v.kind = 0 \/ v.kind = 1 \/ v.kind = 2 \/ v.kind = 3 \/ v.kind = 4 \/ v.kind = 5 \/ v.kind = 6):v.kids = []:=by
 obtain ⟨k,n,e,s,kids⟩:=v;unfold V.ok at h;simp only [V.rightBy,Bool.and_eq_true,decide_eq_true_eq] at h;have h2:=h.1.2.2;clear h;simp only [V.kind] at hk;show kids = []
 rcases hk with rfl | rfl | rfl | rfl | rfl | rfl | rfl <;> simp [V.selfBy] at h2 <;> simp [h2]
theorem V.ok_nodes {v:V} (h:v.ok = true):v.nodes <= 300:=by
 unfold V.ok at h;simp only [Bool.and_eq_true,decide_eq_true_eq] at h;exact h.2
theorem V.ok_msg {v:V} (h:v.ok = true):(msgHd v).length + (msgs v.kids).length <= 1052176 /\ v.text.length <= 1048576:=by
 have h1:=zgd v;have h2:=V.ok_nodes h;have h3:=V.ok_bulk h;rw [zdV,length_append] at h1;refine ⟨by omega,?_⟩;obtain ⟨k,n,e,s,kids⟩:=v;simp only [V.bulk] at h3;show s.length <= _;omega
theorem zcK {v:V} (h:v.kids = []):msg v = msgHd v:=by
 rw [zdV,h]; exact append_nil _
theorem hd012 {v:V} (h:v.kind = 0 \/ v.kind = 1 \/ v.kind = 2):0 <= v.kind /\ ([[pS [192]],[pS [194]],[pS [195]]]:LP PC)[v.kind.toNat]? = some [pS (msgHd v)]:=by
 unfold msgHd
 rcases h with h | h | h <;> rw [h] <;> exact ⟨by decide,rfl⟩
def PutP (T:World -> Prop) (hT:Low ngl T) (N:Nat):Prop:=∀ v:V,v.nodes <= N -> v.wf -> v.ok = true -> FnV (env T hT) 62 [.ag (vC v)] (.d (pS (msg v)))
def PutI (v:V) (m:Nat) (s:St):Prop:=∃ i:Nat,i <= v.kids.length /\ m = v.kids.length - i /\ has s.tm [(1,.ref 0 0),(3,.d (pS (msgHd v ++ msgs (v.kids.take i)))),(4,.d (pI i))] /\ s.bx = [vC v]
theorem put_step {N:Nat} (hS:PutP T hT N) (v:V) (hn:v.nodes <= N + 1) (hw:v.wf) (hk:v.ok = true):FnV (env T hT) 62 [.ag (vC v)] (.d (pS (msg v))):=by
 obtain ⟨hml,htl⟩:=V.ok_msg hk;have hvlen:(vK v.kids).length = v.kids.length:=zaU _;have hkl:=V.ok_len hk;have hmany:=fun x a b c d h1 h2 => msgMany_fn (T:=T) (hT:=hT) x a b c d h1 h2
 have hwide:=fun x k h => zgf (T:=T) (hT:=hT) x k h
 have hint:=msgInt_fn (T:=T) (hT:=hT) v.num;have hkid:∀ (i:Nat) (h:i < v.kids.length),FnV (env T hT) 62 [.ag (vC v.kids[i])] (.d (pS (msg v.kids[i]))):=fun i h => hS v.kids[i] (V.nodes_kid hn i h) (V.wf_kid hw i h) (V.ok_kid hk i h)
 have mm:=zbg;refine zaX (zag zgb) (by show 1 <= 82; decide) fun B hB => ?_
 unfold m_s_l06Put;refine mO ?_;refine zbb rfl ?_;refine po_q rfl rfl ?_;refine zaa ?_;refine mO ?_;refine po_q rfl rfl ?_;refine zaa ?_;refine zaC (fun s => has s.tm [(1,.ref 0 0),(3,.d (pS (msgHd v)))] /\ s.bx = [vC v]) ?_ ?_
 ·refine mO ?_
  iterate 2 (refine po_q rfl rfl ?_)
  refine zaa ?_;refine zad ?_;refine zaC (fun s => has s.tm [(1,.ref 0 0),(6,.d (pI v.kind)),(11,.d (pB (decide (v.kind = 0 \/ v.kind = 1 \/ v.kind = 2))))] /\ s.bx = [vC v]) ?_ ?_
  ·refine mO ?_
   refine po_b rfl rfl (fun b hb0 => ?_);refine po_q rfl rfl ?_;refine zaa ?_;by_cases h0:v.kind = 0
   ·obtain rfl:b = true:=by rw [hb0]; exact decide_eq_true h0
    refine mwT ?_;refine zaj ?_;exact ⟨⟨rfl,rfl,by rw [decide_eq_true (.inl h0)]; rfl,trivial⟩,rfl⟩
   obtain rfl:b = false:=by rw [hb0]; exact decide_eq_false h0
   refine mwF ?_;refine mO ?_;refine po_b rfl rfl (fun b hb1 => ?_);refine po_q rfl rfl ?_;refine zaa ?_;by_cases h1:v.kind = 1
   ·obtain rfl:b = true:=by rw [hb1]; exact decide_eq_true h1
    refine mwT ?_;refine zaj ?_;exact ⟨⟨rfl,rfl,by rw [decide_eq_true (.inr (.inl h1))]; rfl,trivial⟩,rfl⟩
   obtain rfl:b = false:=by rw [hb1]; exact decide_eq_false h1
   refine mwF ?_;refine zae ?_;refine po_b rfl rfl (fun b hb2 => ?_);refine po_q rfl rfl ?_;refine zaa ?_;refine ⟨⟨rfl,rfl,?_,trivial⟩,rfl⟩
   have:b = decide (v.kind = 0 \/ v.kind = 1 \/ v.kind = 2):=by rw [hb2]; exact decide_eq_decide.2 ⟨fun h => .inr (.inr h),fun h => (h.resolve_left h0).resolve_left h1⟩
   rw [<- this]; rfl
  rintro tm bx nt live ⟨ht,hbx⟩;obtain ⟨tm0,rfl⟩:=zaf ht;simp only at hbx; subst hbx
  clear ht;by_cases h012:v.kind = 0 \/ v.kind = 1 \/ v.kind = 2
  ·rw [decide_eq_true h012,zcK (V.ok_flat hk (by omega))]
   refine mwT ?_;refine mO ?_;refine zao (es:=[[pS [192]],[pS [194]],[pS [195]]]) rfl ?_
   iterate 2 (refine po_q rfl rfl ?_)
   refine za3 (j:=v.kind) (es:=[[pS [192]],[pS [194]],[pS [195]]]) (e:=[pS (msgHd v)]) rfl rfl rfl (hd012 h012) rfl ?_
   iterate 2 (refine po_q rfl rfl ?_)
   refine zaa ?_;exact mR
  rw [decide_eq_false h012];refine mwF ?_;refine mO ?_;refine po_b rfl rfl (fun b hb0 => ?_);refine po_q rfl rfl ?_;refine zaa ?_;by_cases h3:v.kind = 3
  ·obtain rfl:b = true:=by rw [hb0]; exact decide_eq_true h3
   refine mwT ?_;rw [zcK (V.ok_flat hk (by omega)),show msgHd v = msgInt v.num from by unfold msgHd; rw [h3]; rfl];refine mO ?_;refine po_q rfl rfl ?_;refine po_q rfl rfl ?_;refine zab (args:=[.d (pI v.num)]) rfl hint ?_;refine po_q rfl rfl ?_;refine zaa ?_;exact mR
  obtain rfl:b = false:=by rw [hb0]; exact decide_eq_false h3
  refine mwF ?_;refine zdg (fun s => has s.tm [(1,.ref 0 0),(6,.d (pI v.kind))] /\ s.bx = [vC v]) ⟨⟨rfl,rfl,trivial⟩,rfl⟩ (fun tm bx nt live ht => ?_);obtain ⟨ht,hbx⟩:=ht;obtain ⟨tm0,rfl⟩:=zaf ht;simp only at hbx; subst hbx
  clear ht hb0;refine mO ?_;refine po_b rfl rfl (fun b hb0 => ?_);refine po_q rfl rfl ?_;refine zaa ?_;by_cases h4:v.kind = 4
  ·obtain rfl:b = true:=by rw [hb0]; exact decide_eq_true h4
   refine mwT ?_;rw [zcK (V.ok_flat hk (by omega)),show msgHd v = [199,9,4] ++ be 1 (lo64 v.exp) ++ be 8 (lo64 v.num) from by unfold msgHd; rw [h4]; rfl];refine mO ?_;refine po_q rfl rfl ?_;refine po_q rfl rfl ?_;refine po_q rfl rfl ?_;refine po_q rfl rfl ?_;refine zab (args:=[.d (pI v.exp),.d (pI 1)]) rfl (hwide v.exp 1 (by omega)) ?_;refine zau (la:=[199,9,4]) (lb:=be 1 (lo64 v.exp)) rfl rfl rfl (by rw [zac]; simp) ?_;refine zab (args:=[.d (pI v.num),.d (pI 8)]) rfl (hwide v.num 8 (by omega)) ?_;refine zau (la:=[199,9,4] ++ be 1 (lo64 v.exp)) (lb:=be 8 (lo64 v.num)) rfl rfl rfl (by rw [length_append,zac,zac]; simp) ?_;refine po_q rfl rfl ?_;refine zaa ?_;exact mR
  obtain rfl:b = false:=by rw [hb0]; exact decide_eq_false h4
  refine mwF ?_;refine zdg (fun s => has s.tm [(1,.ref 0 0),(6,.d (pI v.kind))] /\ s.bx = [vC v]) ⟨⟨rfl,rfl,trivial⟩,rfl⟩ (fun tm bx nt live ht => ?_);obtain ⟨ht,hbx⟩:=ht;obtain ⟨tm0,rfl⟩:=zaf ht;simp only at hbx; subst hbx
  clear ht hb0;refine mO ?_;refine po_b rfl rfl (fun b hb0 => ?_);refine po_q rfl rfl ?_;refine zaa ?_;by_cases h5:v.kind = 5
  ·obtain rfl:b = true:=by rw [hb0]; exact decide_eq_true h5
   refine mwT ?_;rw [zcK (V.ok_flat hk (by omega)),show msgHd v = msgMany v.text.length 32 160 217 218 ++ v.text from by unfold msgHd; rw [h5]; rfl];refine mO ?_;refine po_q rfl rfl ?_;refine po_q rfl rfl ?_;refine po_q (v:=.d (pI v.text.length)) rfl rfl ?_;refine po_q rfl rfl ?_;refine po_q rfl rfl ?_;refine zab (args:=[.d (pI v.text.length),.d (pI 32),.d (pI 160),.d (pI 217),.d (pI 218)]) rfl (hmany _ 32 160 217 218 (by omega) (by omega)) ?_;refine zau (lb:=v.text) rfl rfl rfl (by have:=mm v.text.length 32 160 217 218; omega) ?_;refine po_q rfl rfl ?_;refine zaa ?_;exact mR
  obtain rfl:b = false:=by rw [hb0]; exact decide_eq_false h5
  refine mwF ?_;refine zdg (fun s => has s.tm [(1,.ref 0 0),(6,.d (pI v.kind))] /\ s.bx = [vC v]) ⟨⟨rfl,rfl,trivial⟩,rfl⟩ (fun tm bx nt live ht => ?_);obtain ⟨ht,hbx⟩:=ht;obtain ⟨tm0,rfl⟩:=zaf ht;simp only at hbx; subst hbx
  clear ht hb0;refine mO ?_;refine po_b rfl rfl (fun b hb0 => ?_);refine po_q rfl rfl ?_;refine zaa ?_;by_cases h6:v.kind = 6
  ·obtain rfl:b = true:=by rw [hb0]; exact decide_eq_true h6
   refine mwT ?_;rw [zcK (V.ok_flat hk (by omega)),show msgHd v = msgMany v.text.length 0 0 196 197 ++ v.text from by unfold msgHd; rw [h6]; rfl];refine mO ?_;refine po_q rfl rfl ?_;refine po_q rfl rfl ?_;refine po_q (v:=.d (pI v.text.length)) rfl rfl ?_;refine po_q rfl rfl ?_;refine po_q rfl rfl ?_;refine zab (args:=[.d (pI v.text.length),.d (pI 0),.d (pI 0),.d (pI 196),.d (pI 197)]) rfl (hmany _ 0 0 196 197 (by omega) (by omega)) ?_;refine zau (lb:=v.text) rfl rfl rfl (by have:=mm v.text.length 0 0 196 197; omega) ?_;refine po_q rfl rfl ?_;refine zaa ?_;exact mR
  obtain rfl:b = false:=by rw [hb0]; exact decide_eq_false h6
  refine mwF ?_;refine zdg (fun s => has s.tm [(1,.ref 0 0),(6,.d (pI v.kind))] /\ s.bx = [vC v]) ⟨⟨rfl,rfl,trivial⟩,rfl⟩ (fun tm bx nt live ht => ?_);obtain ⟨ht,hbx⟩:=ht;obtain ⟨tm0,rfl⟩:=zaf ht;simp only at hbx; subst hbx
  clear ht hb0;refine mO ?_;refine po_b rfl rfl (fun b hb0 => ?_);refine po_q rfl rfl ?_;refine zaa ?_;by_cases h7:v.kind = 7
  ·obtain rfl:b = true:=by rw [hb0]; exact decide_eq_true h7
   refine mwT ?_;have e7:msgHd v = msgMany v.kids.length 16 144 0 220:=by unfold msgHd; rw [h7]; rfl
   refine zae ?_;refine po_q rfl rfl ?_;refine po_q rfl rfl ?_;refine po_q (v:=.d (pI v.kids.length)) rfl (by show some (PV.d (.v (.int .i64 ((vK v.kids).length:Nat)))) = _; rw [hvlen]; rfl) ?_;refine zab (args:=[.d (pI v.kids.length),.d (pI 16),.d (pI 144),.d (pI 0),.d (pI 220)]) rfl (hmany _ 16 144 0 220 (by omega) (by omega)) ?_;refine po_q rfl rfl ?_;refine zaa ?_;exact ⟨⟨rfl,by rw [e7]; rfl,trivial⟩,rfl⟩
  obtain rfl:b = false:=by rw [hb0]; exact decide_eq_false h7
  refine mwF ?_;refine zdg (fun s => has s.tm [(1,.ref 0 0),(6,.d (pI v.kind))] /\ s.bx = [vC v]) ⟨⟨rfl,rfl,trivial⟩,rfl⟩ (fun tm bx nt live ht => ?_);obtain ⟨ht,hbx⟩:=ht;obtain ⟨tm0,rfl⟩:=zaf ht;simp only at hbx; subst hbx
  clear ht hb0;refine mO ?_;refine po_b rfl rfl (fun b hb0 => ?_);refine po_q rfl rfl ?_;refine zaa ?_;by_cases h8:v.kind = 8
  ·obtain rfl:b = true:=by rw [hb0]; exact decide_eq_true h8
   refine mwT ?_;have e8:msgHd v = msgMany ((v.kids.length / 2:Nat):Int) 16 128 0 222:=by unfold msgHd; rw [h8]; rfl
   refine zae ?_;refine po_q rfl rfl ?_;refine po_q rfl rfl ?_;refine po_q (v:=.d (pI v.kids.length)) rfl (by show some (PV.d (.v (.int .i64 ((vK v.kids).length:Nat)))) = _; rw [hvlen]; rfl) ?_;have eq:IntKind.wrap .i64 (((v.kids.length:Nat):Int).tdiv 2) = ((v.kids.length / 2:Nat):Int):=by rw [IntKind.wrap_i64,Int.tdiv_eq_ediv_of_nonneg (by omega)]; omega
   refine po_q (v:=.d (pI ((v.kids.length / 2:Nat):Int))) rfl (by show some (PV.d (.v (.int .i64 (IntKind.wrap .i64 (((v.kids.length:Nat):Int).tdiv 2))))) = _; rw [eq]; rfl) ?_;refine zab (args:=[.d (pI ((v.kids.length / 2:Nat):Int)),.d (pI 16),.d (pI 128),.d (pI 0),.d (pI 222)]) rfl (hmany _ 16 128 0 222 (by omega) (by omega)) ?_;refine po_q rfl rfl ?_;refine zaa ?_;exact ⟨⟨rfl,by rw [e8]; rfl,trivial⟩,rfl⟩
  obtain rfl:b = false:=by rw [hb0]; exact decide_eq_false h8
  refine mwF ?_;refine zdg (fun s => has s.tm [(1,.ref 0 0),(6,.d (pI v.kind))] /\ s.bx = [vC v]) ⟨⟨rfl,rfl,trivial⟩,rfl⟩ (fun tm bx nt live ht => ?_);obtain ⟨ht,hbx⟩:=ht;obtain ⟨tm0,rfl⟩:=zaf ht;simp only at hbx; subst hbx
  clear ht hb0
  have e9:msgHd v = [199,4,6] ++ be 4 (lo64 v.num):=by
   unfold msgHd;rw [if_neg (fun h => h012 (.inl h)),if_neg (fun h => h012 (.inr (.inl h))),if_neg (fun h => h012 (.inr (.inr h))),if_neg h3,if_neg h4,if_neg h5,if_neg h6,if_neg h7,if_neg h8]
  refine zae ?_
  iterate 2 (refine po_q rfl rfl ?_)
  refine zab (args:=[.d (pI v.num),.d (pI 4)]) rfl (hwide v.num 4 (by omega)) ?_;refine zau (la:=[199,4,6]) (lb:=be 4 (lo64 v.num)) rfl rfl rfl (by rw [zac]; simp) ?_;refine po_q rfl rfl ?_;refine zaa ?_;exact ⟨⟨rfl,by rw [e9]; rfl,trivial⟩,rfl⟩
 rintro tm bx nt live ⟨ht,hbx⟩;obtain ⟨tm0,rfl⟩:=zaf ht;simp only at hbx; subst hbx
 clear ht;refine zaC (fun s => ∃ m,PutI v m s /\ m = 0) ?_ ?_
 ·refine mO ?_
  refine po_q rfl rfl ?_;refine zaa ?_;refine zad ?_;refine zav (PutI v) v.kids.length ⟨0,Nat.zero_le _,by simp,⟨rfl,by rw [take_zero]; show PV.d (pS (msgHd v)) = .d (pS (msgHd v ++ [])); rw [append_nil],rfl,trivial⟩,rfl⟩ ?_;rintro m tm bx nt live ⟨i,hi,rfl,ht,hbx⟩;obtain ⟨tm0,rfl⟩:=zaf ht;simp only at hbx; subst hbx
  refine mM ?_
  iterate 3 (refine po_q rfl rfl ?_)
  refine po_q (v:=.d (pI v.kids.length)) rfl (by show some (PV.d (.v (.int .i64 ((vK v.kids).length:Nat)))) = _; rw [hvlen]; rfl) ?_;refine po_b rfl rfl (fun b1 hb1 => ?_);refine zaa ?_;refine za6 rfl (fun hc1 => ?_) (fun hc1 => ?_)
  ·have hlt:i < v.kids.length:=by
    subst hb1; have:=of_decide_eq_true hc1; omega
   have hT:=zfD hlt;have hL:=zcJ (i + 1) v.kids;rw [hT,length_append] at hL;refine zaj ?_;refine zak (zad (zae ?_))
   iterate 4 (refine po_q rfl rfl ?_)
   refine za3 (es:=vK v.kids) (e:=vC v.kids[i]) rfl rfl rfl ⟨by omega,by rw [Int.toNat_natCast]; exact zby hlt⟩ rfl ?_;refine po_q rfl rfl ?_;refine zab (za1 _) (hkid i hlt) ?_;refine zau (la:=msgHd v ++ msgs (v.kids.take i)) (lb:=msg v.kids[i]) rfl rfl rfl (by rw [length_append]; omega) ?_;refine po_q rfl rfl ?_;refine zaa ?_;refine zae ?_;refine po_q rfl rfl ?_;refine zat (n:=((i + 1:Nat):Int)) rfl rfl rfl (by omega) (by omega) ?_;refine po_q rfl rfl ?_;refine zaa ?_;exact ⟨v.kids.length - (i + 1),by omega,i + 1,hlt,rfl,⟨rfl,by rw [hT,<- append_assoc]; rfl,rfl,trivial⟩,rfl⟩
  ·have hge:i = v.kids.length:=by
    subst hb1; have:=of_decide_eq_false hc1; omega
   refine zaA ?_;exact ⟨0,⟨i,hi,by omega,⟨rfl,rfl,rfl,trivial⟩,rfl⟩,rfl⟩
 rintro tm bx nt live ⟨m,⟨i,hi,rfl,ht,hbx⟩,hm⟩;obtain ⟨tm0,rfl⟩:=zaf ht;have hie:i = v.kids.length:=by omega
 subst hie;rw [take_length,<- zdV];refine mO ?_
 iterate 2 (refine po_q rfl rfl ?_)
 refine zaa ?_;exact mR
theorem put_P:∀ N,PutP T hT N
 | 0 => fun v hn => by obtain ⟨k,n,e,s,kids⟩:=v; simp only [V.nodes] at hn; omega
 | N + 1 => fun v hn hw hk => put_step (put_P N) v hn hw hk
theorem put_fn (v:V) (hw:v.wf) (hk:v.ok = true):FnV (env T hT) 62 [.ag (vC v)] (.d (pS (msg v))):=put_P v.nodes v lR hw hk
end
section
theorem RepCs.append {S:Nat -> Prop} {w:World}:∀ {ds es:List D} {c1 c2:List Value},RepCs S w ds c1 -> RepCs S w es c2 -> RepCs S w (ds ++ es) (c1 ++ c2)
 | [],es,c1,c2,h,k => by simp only [RepCs] at h; subst h; exact k
 | d :: ds,es,c1,c2,h,k => by
  simp only [RepCs] at h; obtain ⟨e1,e2,rfl,hl,h1,h2⟩:=h
  simp only [cons_append,RepCs];exact ⟨e1,e2 ++ c2,by simp,hl,h1,RepCs.append h2 k⟩
theorem RepCs.one {S:Nat -> Prop} {w:World} {d:D} {c:List Value} (h:RepC S w d c):RepCs S w [d] c:=by
 simp only [RepCs]; exact ⟨c,[],by simp,h.len,h,rfl⟩
section
variable {H:Type} {enc:TypeId × Value -> H} {P:Program} {w:World} {base:Nat} {spare:Nat -> Bool} {held:Bool}
theorem trod_sl {α:Type} {t e:TypeId} {n0:Nat} {f:α -> D} {ok:α -> Prop} (ht:P.underlying t = some (.slice e)) (hc:P.cellsOf e = n0) (hn:0 < n0) (hw:∀ x,D.width (f x) = n0)
  {fuel:Nat} (helem:∀ n cs y,n < fuel -> DataW.trod enc P w base spare held n e cs = some y -> ∃ x:α,Rd w (f x) cs /\ ok x)
  {cs:List Value} {y:DataW H × List MemPlace} (h:DataW.trod enc P w base spare held fuel t cs = some y) :
  ∃ (xs:List α) (v:Value),cs = [v] /\ Rd w (.sl n0 (xs.map f)) [v] /\ (∀ x ∈ xs,ok x) /\ xs.length <= maxLen:=by
 rcases DataW.trod_slice ht h with ⟨rfl,_⟩ | ⟨a,len,cap,elems,rest,n,hfu,rfl,_,_,hl,hm,hlen,hel,_,_⟩
 ·exact ⟨[],_,rfl,by simp [Rd,RepC],by simp,by simp⟩
 ·have key:∀ k,k <= len -> ∃ (xs:List α) (flat:List Value),xs.length = k /\ flat.length = n0 * k /\ RepCs (· < w.heap.size) w (xs.map f) flat /\ (∀ x ∈ xs,ok x) /\ ∀ (j:Nat) u,flat[j]? = some u -> w.cell? (a.add j) = some u:=by
   intro k
   induction k with
   | zero => intro _; exact ⟨[],[],rfl,rfl,by simp [RepCs],by simp,by simp⟩
   | succ k ih =>
    intro hk;obtain ⟨xs,flat,h1,h2,h3,h4,h5⟩:=ih (by omega);have hek:=hel k (by omega);rw [getElem?_eq_getElem (by omega)] at hek
    cases hcs:w.cells? base (a.add (k * P.cellsOf e)) (P.cellsOf e) with
    | none => rw [hcs] at hek; simp at hek
    | some cs' =>
     rw [hcs,Option.bind_some] at hek;obtain ⟨x,hx1,hx2⟩:=helem n _ _ (by omega) hek;obtain ⟨_,hcl,hcc⟩:=World.cells?_some hcs;refine ⟨xs ++ [x],flat ++ cs',by simp [h1],by rw [length_append,h2,hcl,hc,Nat.mul_succ],?_,?_,?_⟩
     ·rw [map_append]; exact RepCs.append h3 (RepCs.one hx1)
     ·intro z hz; rcases mem_append.1 hz with hz | hz
      ·exact h4 z hz
      ·simp at hz; subst hz; exact hx2
     ·intro j u hj
      by_cases hjl:j < flat.length
      ·rw [getElem?_append_left hjl] at hj; exact h5 j u hj
      ·rw [getElem?_append_right (by omega)] at hj
       have hjn:j - flat.length < cs'.length:=by
        rcases Nat.lt_or_ge (j - flat.length) cs'.length with h | h
        ·exact h
        ·simp [getElem?_eq_none h] at hj
       have:=hcc (j - flat.length) (by omega)
       rw [Addr.add_add,hc,h2,Nat.mul_comm k n0,show n0 * k + (j - n0 * k) = j by omega] at this;rw [this,<- h2]; exact hj
  obtain ⟨xs,flat,h1,h2,h3,h4,h5⟩:=key len lR;refine ⟨xs,_,rfl,?_,h4,by omega⟩;simp only [Rd,RepC];refine ⟨some a,cap,by simp [h1],fun hne => ?_⟩
  have hpos:0 < len:=by
   rcases Nat.eq_zero_or_pos len with h0 | h0
   ·exfalso; apply hne; rw [map_eq_nil_iff,<- length_eq_zero_iff]; omega
   ·exact h0
  have hfl:0 < flat.length:=by rw [h2]; exact Nat.mul_pos hn hpos
  have hc0:=h5 0 flat[0] (by simp)
  have hsp:a.spot = none:=by
   have:=World.cell?_spot hc0
   simpa [Addr.add] using this
  obtain ⟨b,o,s⟩:=a;simp only at hsp;subst hsp
  have hb:b < w.heap.size:=by
   rw [zaK] at hc0;by_cases hlt:b < w.heap.size
   ·exact hlt
   ·simp [World.cell?,Array.getElem?_eq_none (Nat.not_lt.1 hlt)] at hc0
  refine ⟨hn,by simpa [h1] using hl,hm,b,o,flat,rfl,hb,fun j u hj => ?_,?_,h3⟩
  ·have:=h5 j u hj; rwa [zaK] at this
  ·intro x hx; rw [mem_map] at hx; obtain ⟨z,_,rfl⟩:=hx; exact hw z
end
end
end Go.Proofs.YtdggnhnkpejciaaGreatDoor
/- Plain facts on UTF-8: a sign by its bytes, a text by its signs. No program in sight. -/
namespace Go.Proofs.YtdggnhnkpejciaaGreatDoor
open Go.RowKit Go.Lib
def utf (n:Nat):List UInt8 :=
 if 1114111 < n \/ (55296 <= n /\ n <= 57343) then []
 else if n < 128 then [byteOf n]
 else if n < 2048 then [byteOf (192 + n / 64),byteOf (128 + n % 64)]
 else if n < 65536 then [byteOf (224 + n / 4096),byteOf (128 + n / 64 % 64),byteOf (128 + n % 64)]
 else [byteOf (240 + n / 262144),byteOf (128 + n / 4096 % 64),byteOf (128 + n / 64 % 64),byteOf (128 + n % 64)]
def many (b:Nat):Nat × Nat :=
 if b < 128 then (1,b) else if 192 <= b /\ b <= 223 then (2,b % 32) else if 224 <= b /\ b <= 239 then (3,b % 16) else if 240 <= b /\ b <= 247 then (4,b % 8) else (0,0)
def sgnV (n:Nat) (l:List UInt8):Nat:=l.foldl (fun n b => n * 64 + b.toNat % 64) n
def sgn (l:List UInt8):Option (Nat × Nat) :=
 if l = [] \/ ((decodeL l).1 = 65533 /\ (decodeL l).2 = 1) then none else some (decodeL l)
theorem byteOf_eq {m:Nat} {b:UInt8}:byteOf m = b ↔ m % 256 = b.toNat:=by
 rw [<- UInt8.toNat_inj,zaz]
theorem zcZ (b:Nat):(b < 128 /\ many b = (1,b)) \/ (192 <= b /\ b <= 223 /\ many b = (2,b % 32)) \/ (224 <= b /\ b <= 239 /\ many b = (3,b % 16)) \/ (240 <= b /\ b <= 247 /\ many b = (4,b % 8)) \/ ((128 <= b /\ b < 192 \/ 248 <= b) /\ many b = (0,0)):=by
 unfold many;by_cases h1:b < 128
 ·simp [h1]
 by_cases h2:192 <= b /\ b <= 223
 ·simp [h1,h2]
 by_cases h3:224 <= b /\ b <= 239
 ·rw [if_neg h1,if_neg h2,if_pos h3]; simp [h3]
 by_cases h4:240 <= b /\ b <= 247
 ·rw [if_neg h1,if_neg h2,if_neg h3,if_pos h4]; simp [h4]
 ·rw [if_neg h1,if_neg h2,if_neg h3,if_neg h4]; right; right; right; right; exact ⟨by omega,rfl⟩
theorem zdr {n b0 b1 b2 b3 v m:Nat} {u l:List UInt8} {p:Prop} [Decidable p] (hp:¬ p) (c:Prop)
  (hy:c -> decodeN n b0 b1 b2 b3 = (v,m) /\ ¬ (v = 65533 /\ m = 1) /\ u = l) (hn:¬ c -> decodeN n b0 b1 b2 b3 = (65533,1) /\ u ≠ l) :
  (if (decodeN n b0 b1 b2 b3).1 = 65533 /\ (decodeN n b0 b1 b2 b3).2 = 1 then none else some (decodeN n b0 b1 b2 b3)) = if p \/ u ≠ l then none else some (v,m):=by
 by_cases hc:c
 ·obtain ⟨h1,h2,h3⟩:=hy hc
  rw [h1,if_neg h2,if_neg]; intro h; rcases h with h | h
  ·exact hp h
  ·exact h h3
 ·obtain ⟨h1,h3⟩:=hn hc
  rw [h1,if_pos ⟨rfl,rfl⟩,if_pos (.inr h3)]
theorem zbH {n b0 b1 b2 b3:Nat} (hb:128 <= b0) (h:n < 2 \/ (n < 3 /\ 224 <= b0) \/ (n < 4 /\ 240 <= b0)):decodeN n b0 b1 b2 b3 = (65533,1):=by
 unfold decodeN; rw [if_neg (by omega),if_neg (by omega),if_neg (by omega),if_neg (by omega)]
theorem sgn_many (b0:UInt8) (t:List UInt8) :
  sgn (b0 :: t) = if ((many b0.toNat).1 = 0 \/ t.length + 1 < (many b0.toNat).1) \/ utf (sgnV (many b0.toNat).2 (t.take ((many b0.toNat).1 - 1))) ≠ (b0 :: t).take (many b0.toNat).1 then none
   else some (sgnV (many b0.toNat).2 (t.take ((many b0.toNat).1 - 1)),(many b0.toNat).1):=by
 have hb0:=b0.toNat_lt;unfold sgn;rw [decodeL_N];simp only [List.cons_ne_nil,false_or,List.length_cons,List.getD_cons_zero]
 rcases zcZ b0.toNat with ⟨h,e⟩ | ⟨h1,h2,e⟩ | ⟨h1,h2,e⟩ | ⟨h1,h2,e⟩ | ⟨h,e⟩
 ·rw [e]
  refine zdr (by simp) True (fun _ => ⟨?_,by simp [sgnV]; omega,?_⟩) (fun h => absurd trivial h)
  ·rw [decodeN_ascii _ _ _ _ _ h]; simp [sgnV]
  ·simp only [sgnV,List.take_zero,Nat.sub_self,List.foldl_nil,List.take_succ_cons]
   unfold utf; rw [if_neg (by omega),if_pos h,List.cons.injEq]; exact ⟨byteOf_eq.2 (by omega),rfl⟩
 ·rw [e]
  match t with
  | [] => rw [zbH (by omega) (by simp; try omega),if_pos ⟨rfl,rfl⟩,if_pos (by simp)]
  | b1 :: t =>
   have hb1:=b1.toNat_lt;simp only [List.getD_cons_succ,List.getD_cons_zero,sgnV,Nat.reduceSub,List.take_succ_cons,List.take_zero,List.foldl_cons,List.foldl_nil,List.length_cons];refine zdr (by omega) (b1.toNat / 64 = 2 /\ 128 <= b0.toNat % 32 * 64 + b1.toNat % 64) (fun hc => ⟨?_,by omega,?_⟩) (fun hc => ⟨?_,?_⟩)
   ·unfold decodeN; rw [if_neg (by omega),if_pos (by omega),if_pos (by omega)]
   ·unfold utf; rw [if_neg (by omega),if_neg (by omega),if_pos (by omega),List.cons.injEq,List.cons.injEq]
    exact ⟨byteOf_eq.2 (by omega),byteOf_eq.2 (by omega),rfl⟩
   ·unfold decodeN; rw [if_neg (by omega)]
    by_cases h:b1.toNat / 64 = 2
    ·rw [if_pos (by omega),if_neg (by omega)]
    ·rw [if_neg (by omega),if_neg (by omega),if_neg (by omega)]
   ·unfold utf; rw [if_neg (by omega)]
    by_cases h:128 <= b0.toNat % 32 * 64 + b1.toNat % 64
    ·rw [if_neg (by omega),if_pos (by omega)]
     intro he; simp only [List.cons.injEq,byteOf_eq,and_true] at he; omega
    ·rw [if_pos (by omega)]; simp
 ·rw [e]
  match t with
  | [] => rw [zbH (by omega) (by simp; try omega),if_pos ⟨rfl,rfl⟩,if_pos (by simp)]
  | [b1] => rw [zbH (by omega) (by simp; try omega),if_pos ⟨rfl,rfl⟩,if_pos (by simp)]
  | b1 :: b2 :: t =>
   have hb1:=b1.toNat_lt;have hb2:=b2.toNat_lt;simp only [List.getD_cons_succ,List.getD_cons_zero,sgnV,Nat.reduceSub,List.take_succ_cons,List.take_zero,List.foldl_cons,List.foldl_nil,List.length_cons];obtain ⟨v,hv⟩:∃ v,(b0.toNat % 16 * 64 + b1.toNat % 64) * 64 + b2.toNat % 64 = v:=⟨_,rfl⟩;refine zdr (by omega) (b1.toNat / 64 = 2 /\ b2.toNat / 64 = 2 /\ 2048 <= v /\ ¬ (55296 <= v /\ v <= 57343)) (fun hc => ⟨?_,by omega,?_⟩) (fun hc => ⟨?_,?_⟩)
   ·rw [hv]; unfold decodeN; rw [if_neg (by omega),if_neg (by omega),if_pos (by omega),if_pos (by omega)]; simp; omega
   ·rw [hv]; unfold utf; rw [if_neg (by omega),if_neg (by omega),if_neg (by omega),if_pos (by omega)]; simp only [List.cons.injEq,and_true]
    exact ⟨byteOf_eq.2 (by omega),byteOf_eq.2 (by omega),byteOf_eq.2 (by omega)⟩
   ·unfold decodeN; rw [if_neg (by omega),if_neg (by omega)]
    by_cases h:b1.toNat / 64 = 2 /\ b2.toNat / 64 = 2
    ·rw [if_pos (by omega),if_neg (by omega)]
    ·rw [if_neg (by omega),if_neg (by omega)]
   ·rw [hv]; unfold utf
    by_cases h:55296 <= v /\ v <= 57343
    ·rw [if_pos (by omega)]; simp
    by_cases h:2048 <= v
    ·rw [if_neg (by omega),if_neg (by omega),if_neg (by omega),if_pos (by omega)]
     intro he; simp only [List.cons.injEq,byteOf_eq,and_true] at he; omega
    ·rw [if_neg (by omega)]; split
     ·simp
     ·rw [if_pos (by omega)]; simp
 ·rw [e]
  match t with
  | [] => rw [zbH (by omega) (by simp; try omega),if_pos ⟨rfl,rfl⟩,if_pos (by simp)]
  | [b1] => rw [zbH (by omega) (by simp; try omega),if_pos ⟨rfl,rfl⟩,if_pos (by simp)]
  | [b1,b2] => rw [zbH (by omega) (by simp; try omega),if_pos ⟨rfl,rfl⟩,if_pos (by simp)]
  | b1 :: b2 :: b3 :: t =>
   have hb1:=b1.toNat_lt;have hb2:=b2.toNat_lt;have hb3:=b3.toNat_lt;simp only [List.getD_cons_succ,List.getD_cons_zero,sgnV,Nat.reduceSub,List.take_succ_cons,List.take_zero,List.foldl_cons,List.foldl_nil,List.length_cons];obtain ⟨v,hv⟩:∃ v,((b0.toNat % 8 * 64 + b1.toNat % 64) * 64 + b2.toNat % 64) * 64 + b3.toNat % 64 = v:=⟨_,rfl⟩;refine zdr (by omega) (b1.toNat / 64 = 2 /\ b2.toNat / 64 = 2 /\ b3.toNat / 64 = 2 /\ 65536 <= v /\ v <= 1114111) (fun hc => ⟨?_,by omega,?_⟩) (fun hc => ⟨?_,?_⟩)
   ·rw [hv]; unfold decodeN; rw [if_neg (by omega),if_neg (by omega),if_neg (by omega),if_pos (by omega),if_pos (by omega)]; simp; omega
   ·rw [hv]; unfold utf; rw [if_neg (by omega),if_neg (by omega),if_neg (by omega),if_neg (by omega)]; simp only [List.cons.injEq,and_true]
    exact ⟨byteOf_eq.2 (by omega),byteOf_eq.2 (by omega),byteOf_eq.2 (by omega),byteOf_eq.2 (by omega)⟩
   ·unfold decodeN; rw [if_neg (by omega),if_neg (by omega),if_neg (by omega)]
    by_cases h:b1.toNat / 64 = 2 /\ b2.toNat / 64 = 2 /\ b3.toNat / 64 = 2
    ·rw [if_pos (by omega),if_neg (by omega)]
    ·rw [if_neg (by omega)]
   ·rw [hv]; unfold utf
    by_cases h:1114111 < v \/ (55296 <= v /\ v <= 57343)
    ·rw [if_pos (by omega)]; simp
    by_cases h:65536 <= v
    ·rw [if_neg (by omega),if_neg (by omega),if_neg (by omega),if_neg (by omega)]
     intro he; simp only [List.cons.injEq,byteOf_eq,and_true] at he; omega
    ·rw [if_neg (by omega)]; split
     ·simp
     split
     ·simp
     ·rw [if_pos (by omega)]; simp
 ·rw [e,if_pos (by rw [decodeN_bad _ _ _ _ _ (by omega)]; simp),if_pos (by simp)]
theorem sgn_bd {l:List UInt8} {n m:Nat} (h:sgn l = some (n,m)):n <= 1114111 /\ 1 <= m /\ m <= l.length:=by
 unfold sgn at h; split at h
 ·cases h
 ·rename_i hc
  simp only [Option.some.injEq] at h;have h1:=decodeL_rune l; have h2:=decodeL_width l; have h3:=decodeL_le l (fun e => hc (.inl e))
  rw [h] at h1 h2 h3; exact ⟨h1,h2,h3⟩
theorem validD_sgn (l:List UInt8) (hne:l ≠ []):validD l = match sgn l with | none => false | some (_,m) => validD (l.drop m):=by
 rw [validD_step l hne]; unfold sgn
 by_cases h:(decodeL l).1 = 65533 /\ (decodeL l).2 = 1
 ·rw [if_pos h,if_pos (.inr h)]
 ·rw [if_neg h,if_neg (by simp [hne,h])]
theorem many_bd (b:Nat) (hb:b < 256):(many b).1 <= 4 /\ (many b).2 < 256:=by
 rcases zcZ b with ⟨_,e⟩ | ⟨_,_,e⟩ | ⟨_,_,e⟩ | ⟨_,_,e⟩ | ⟨_,e⟩ <;> rw [e] <;> simp <;> omega
theorem sgnV_snoc (v:Nat) (t:List UInt8) (j:Nat) (h:j < t.length):sgnV v (t.take (j + 1)) = sgnV v (t.take j) * 64 + t[j].toNat % 64:=by
 unfold sgnV; rw [zdw t j h,List.foldl_append]; rfl
theorem sgnV_lt (t:List UInt8):∀ v,sgnV v t < (v + 1) * 64 ^ t.length:=by
 induction t with
 | nil => intro v; simp [sgnV]
 | cons b t ih =>
  intro v;have h1:=ih (v * 64 + b.toNat % 64);have h2:(v * 64 + b.toNat % 64 + 1) <= (v + 1) * 64:=by omega
  have h3:=Nat.mul_le_mul_right (64 ^ t.length) h2;show sgnV (v * 64 + b.toNat % 64) t < _;rw [List.length_cons,Nat.pow_succ,Nat.mul_comm (64 ^ t.length) 64,<- Nat.mul_assoc]; omega
theorem sgnV_bd (v:Nat) (t:List UInt8) (j:Nat) (hv:v < 256) (hj:j <= 3):sgnV v (t.take j) < 67108864:=by
 have h1:=sgnV_lt (t.take j) v;have h2:(t.take j).length <= 3:=by rw [List.length_take]; omega
 have h3:64 ^ (t.take j).length <= 64 ^ 3:=Nat.pow_le_pow_right (by omega) h2;have h4:(v + 1) * 64 ^ (t.take j).length <= 256 * 64 ^ 3:=Nat.mul_le_mul (by omega) h3;omega
def signAt (l:List UInt8) (i:Int):Int × Int :=
 if 0 <= i /\ i < l.length then (match sgn (l.drop i.toNat) with | none => (-1,-1) | some (n,m) => ((n:Int),i + m)) else (-1,-1)
theorem signAt_far {l:List UInt8} {i:Int} (h:¬ (0 <= i /\ i < l.length)):signAt l i = (-1,-1):=by unfold signAt; rw [if_neg h]
theorem zcs {l:List UInt8} {k:Nat} (h:sgn (l.drop k) = none):signAt l k = (-1,-1):=by
 unfold signAt; split
 ·rw [Int.toNat_natCast,h]
 ·rfl
theorem zdX {l:List UInt8} {k n m:Nat} (hk:k < l.length) (h:sgn (l.drop k) = some (n,m)):signAt l k = ((n:Int),(k:Int) + m):=by
 unfold signAt; rw [if_pos (by omega),Int.toNat_natCast,h]
end Go.Proofs.YtdggnhnkpejciaaGreatDoor
/- Masks of integers of 64 bits and of bytes, as remainders. No program in sight. -/
namespace Go.Proofs.YtdggnhnkpejciaaGreatDoor
open Go.RowKit
theorem zbP (x:Int) (k:Nat) (hk:k <= 62) (m:Int) (hm:m = 2 ^ k - 1):bits .and .i64 x m = x % 2 ^ k:=by
 subst hm;have hp:(2:Nat) ^ k <= 2 ^ 62:=Nat.pow_le_pow_right (by omega) hk;have h0:(1:Nat) <= 2 ^ k:=Nat.one_le_two_pow;have e:((2:Int) ^ k - 1) = ((2 ^ k - 1:Nat):Int):=by rw [Int.natCast_sub h0]; simp
 have hm:(BitVec.ofInt 64 ((2:Int) ^ k - 1)).toNat = 2 ^ k - 1:=by
  rw [e,BitVec.ofInt_natCast,BitVec.toNat_ofNat]; exact Nat.mod_eq_of_lt (by omega)
 show IntKind.i64.wrap ((BitVec.ofInt 64 x &&& BitVec.ofInt 64 ((2:Int) ^ k - 1)).toNat:Int) = _;rw [BitVec.toNat_and,hm,Nat.and_two_pow_sub_one_eq_mod,BitVec.toNat_ofInt]
 have hd:((2 ^ k:Nat):Int) ∣ ((2 ^ 64:Nat):Int):=by
  have:(2:Nat) ^ k ∣ 2 ^ 64:=Nat.pow_dvd_pow 2 (by omega)
  exact Int.natCast_dvd_natCast.2 this
 have h1:(((x % ((2 ^ 64:Nat):Int)).toNat % 2 ^ k:Nat):Int) = x % ((2 ^ k:Nat):Int):=by
  rw [Int.natCast_emod,Int.toNat_of_nonneg (Int.emod_nonneg _ (by decide)),Int.emod_emod_of_dvd _ hd]
 rw [h1];have h2:((2 ^ k:Nat):Int) = (2:Int) ^ k:=by simp
 have h3:(0:Int) < ((2 ^ k:Nat):Int):=by omega
 have h4:=Int.emod_nonneg x (show ((2 ^ k:Nat):Int) ≠ 0 by omega);have h5:=Int.emod_lt_of_pos x h3;rw [<- h2,IntKind.wrap_i64];omega
theorem m1 (x:Int):bits .and .i64 x 1 = x % 2:=zbP x 1 (by decide) 1 (by decide)
theorem m7 (x:Int):bits .and .i64 x 7 = x % 8:=zbP x 3 (by decide) 7 (by decide)
theorem m15 (x:Int):bits .and .i64 x 15 = x % 16:=zbP x 4 (by decide) 15 (by decide)
theorem m31 (x:Int):bits .and .i64 x 31 = x % 32:=zbP x 5 (by decide) 31 (by decide)
theorem m63 (x:Int):bits .and .i64 x 63 = x % 64:=zbP x 6 (by decide) 63 (by decide)
theorem m127 (x:Int):bits .and .i64 x 127 = x % 128:=zbP x 7 (by decide) 127 (by decide)
theorem m255 (x:Int):bits .and .i64 x 255 = x % 256:=zbP x 8 (by decide) 255 (by decide)
attribute [go_sem] m1 m7 m15 m31 m63 m127 m255
end Go.Proofs.YtdggnhnkpejciaaGreatDoor
/- Whether a text is right: the contracts of PutSign, GetSign, Signs and TextOk of the reference. -/
namespace Go.Proofs.YtdggnhnkpejciaaGreatDoor
open Go.RowKit Go.Lib
set_option maxRecDepth 10000 in
theorem zgg (b:UInt8) (w:World) :
  Calls Tryz.prog 115 #[.int .i64 (b.toNat:Nat)] w fun e w' => e = .returned (.tuple #[.int .i64 ((many b.toNat).1:Nat),.int .i64 ((many b.toNat).2:Nat)]) /\ w = w':=by
 have hb:=b.toNat_lt;generalize b.toNat = n at *;have h0:(0:Int) <= n:=by omega
 rcases zcZ n with ⟨h,e⟩ | ⟨h1,h2,e⟩ | ⟨h1,h2,e⟩ | ⟨h1,h2,e⟩ | ⟨h,e⟩
 ·have H:=Lib.hid e; clear e
  have n1:((n:Int) < 128):=by omega
  go_enter Tryz.func115,Tryz.ntmps115
  go_wp2
  go_ret2
  rw [H.out]; exact ⟨rfl,rfl⟩
 ·have H:=Lib.hid e; clear e
  have r1:inR n 192 223 = true:=zaB (by omega);have n1:¬ ((n:Int) < 128):=by omega
  clear h1 h2
  go_enter Tryz.func115,Tryz.ntmps115
  go_wp2_with (go_at_call 65; refine (zaF _ _ _ _).mono ?_; rintro e w' ⟨rfl,rfl⟩)
  go_ret2
  rw [H.out]; exact ⟨rfl,rfl⟩
 ·have H:=Lib.hid e; clear e
  have r1:inR n 192 223 = false:=za4 (by omega);have r2:inR n 224 239 = true:=zaB (by omega);have n1:¬ ((n:Int) < 128):=by omega
  clear h1 h2
  go_enter Tryz.func115,Tryz.ntmps115
  go_wp2_with (go_at_call 65; refine (zaF _ _ _ _).mono ?_; rintro e w' ⟨rfl,rfl⟩)
  go_ret2
  rw [H.out]; exact ⟨rfl,rfl⟩
 ·have H:=Lib.hid e; clear e
  have r1:inR n 192 223 = false:=za4 (by omega);have r2:inR n 224 239 = false:=za4 (by omega);have r3:inR n 240 247 = true:=zaB (by omega);have n1:¬ ((n:Int) < 128):=by omega
  clear h1 h2
  go_enter Tryz.func115,Tryz.ntmps115
  go_wp2_with (go_at_call 65; refine (zaF _ _ _ _).mono ?_; rintro e w' ⟨rfl,rfl⟩)
  go_ret2
  rw [H.out]; exact ⟨rfl,rfl⟩
 ·have H:=Lib.hid e; clear e
  have r1:inR n 192 223 = false:=za4 (by omega);have r2:inR n 224 239 = false:=za4 (by omega);have r3:inR n 240 247 = false:=za4 (by omega);have n1:¬ ((n:Int) < 128):=by omega
  clear h
  go_enter Tryz.func115,Tryz.ntmps115
  go_wp2_with (go_at_call 65; refine (zaF _ _ _ _).mono ?_; rintro e w' ⟨rfl,rfl⟩)
  go_ret2
  rw [H.out]; exact ⟨rfl,rfl⟩
def putSign (n:Int):List UInt8:=if n < 0 then [] else utf n.toNat
theorem zdY (n:Nat):putSign n = utf n:=by unfold putSign; rw [if_neg (by omega)]; simp
theorem zgh {n:Int} (h:¬ (0 <= n /\ n <= 1114111)):putSign n = []:=by
 unfold putSign; by_cases h0:n < 0
 ·rw [if_pos h0]
 ·rw [if_neg h0]; unfold utf; rw [if_pos (by omega)]
theorem zgi {n:Int} (h:55296 <= n /\ n <= 57343):putSign n = []:=by
 unfold putSign; rw [if_neg (by omega)]; unfold utf; rw [if_pos (by omega)]
set_option maxHeartbeats 400000 in
set_option maxRecDepth 10000 in
theorem zfE (n:Int) (w:World) (hn:i64ok n) :
  Calls Tryz.prog 116 #[.int .i64 n] w fun e w' => e = .returned (.string ⟨(putSign n).toArray⟩) /\ Below w.heap.size w w':=by
 obtain ⟨hn1,hn2⟩:=hn;by_cases hr:0 <= n /\ n <= 1114111
 ·have r1:inR n 0 1114111 = true:=zaB hr
  by_cases hs:55296 <= n /\ n <= 57343
  ·have r2:inR n 55296 57343 = true:=zaB hs
   have H:=Lib.hid (zgi hs);clear hr hs
   go_enter Tryz.func116,Tryz.ntmps116
   go_wp2_with (go_at_call 65; refine (zaF _ _ _ _).mono ?_; rintro e w' ⟨rfl,rfl⟩)
   go_ret;exact ⟨zbr H.out.symm,Below.refl _ _⟩
  ·have r2:inR n 55296 57343 = false:=za4 hs
   obtain ⟨hr1,hr2⟩:=hr;have hcv1:=fun b c w => conv1 (P:=Tryz.prog) Tryz.underlying22 Tryz.underlying5 Tryz.underlying9 b c w
   have hcv2:=fun b c w => conv2 (P:=Tryz.prog) Tryz.underlying22 Tryz.underlying5 Tryz.underlying9 b c w
   have hcv3:=fun b c w => conv3 (P:=Tryz.prog) Tryz.underlying22 Tryz.underlying5 Tryz.underlying9 b c w
   have hcv4:=fun b c w => conv4 (P:=Tryz.prog) Tryz.underlying22 Tryz.underlying5 Tryz.underlying9 b c w
   by_cases c1:n < 128
   ·have H:Hid (putSign n = [byteOf n.toNat]):=by
     show _ = _; unfold putSign; rw [if_neg (by omega)]; unfold utf; rw [if_neg (by omega),if_pos (by omega)]
    clear hs
    go_enter Tryz.func116,Tryz.ntmps116
    go_wp2_with (go_at_call 65; refine (zaF _ _ _ _).mono ?_; rintro e w' ⟨rfl,rfl⟩)
    go_ret;exact ⟨zbr H.out.symm,(Below.refl _ _).alloc (Nat.le_refl _) _⟩
   ·by_cases c2:n < 2048
    ·have H:Hid (putSign n =  [byteOf (192 + n.toNat / 64),byteOf (128 + n.toNat % 64)]):=by
      show _ = _; unfold putSign; rw [if_neg (by omega)]; unfold utf; rw [if_neg (by omega),if_neg (by omega),if_pos (by omega)]
     clear hs
     go_enter Tryz.func116,Tryz.ntmps116
     go_wp2_with (go_at_call 65; refine (zaF _ _ _ _).mono ?_; rintro e w' ⟨rfl,rfl⟩)
     go_ret;refine ⟨zbr ?_,(Below.refl _ _).alloc (Nat.le_refl _) _⟩;rw [H.out]; try rfl
     simp only [List.cons.injEq,and_true];exact ⟨congrArg byteOf (by omega),congrArg byteOf (by omega)⟩
    ·by_cases c3:n < 65536
     ·have H:Hid (putSign n = [byteOf (224 + n.toNat / 4096),byteOf (128 + n.toNat / 64 % 64),byteOf (128 + n.toNat % 64)]):=by
       show _ = _; unfold putSign; rw [if_neg (by omega)]; unfold utf; rw [if_neg (by omega),if_neg (by omega),if_neg (by omega),if_pos (by omega)]
      clear hs
      go_enter Tryz.func116,Tryz.ntmps116
      go_wp2_with (go_at_call 65; refine (zaF _ _ _ _).mono ?_; rintro e w' ⟨rfl,rfl⟩)
      go_ret;refine ⟨zbr ?_,(Below.refl _ _).alloc (Nat.le_refl _) _⟩;rw [H.out]; try rfl
      simp only [List.cons.injEq,and_true];exact ⟨congrArg byteOf (by omega),congrArg byteOf (by omega),congrArg byteOf (by omega)⟩
     ·have H:Hid (putSign n = [byteOf (240 + n.toNat / 262144),byteOf (128 + n.toNat / 4096 % 64),byteOf (128 + n.toNat / 64 % 64),byteOf (128 + n.toNat % 64)]):=by
       show _ = _; unfold putSign; rw [if_neg (by omega)]; unfold utf; rw [if_neg (by omega),if_neg (by omega),if_neg (by omega),if_neg (by omega)]
      clear hs
      go_enter Tryz.func116,Tryz.ntmps116
      go_wp2_with (go_at_call 65; refine (zaF _ _ _ _).mono ?_; rintro e w' ⟨rfl,rfl⟩)
      go_ret;refine ⟨zbr ?_,(Below.refl _ _).alloc (Nat.le_refl _) _⟩;rw [H.out]; try rfl
      simp only [List.cons.injEq,and_true];exact ⟨congrArg byteOf (by omega),congrArg byteOf (by omega),congrArg byteOf (by omega),congrArg byteOf (by omega)⟩
 ·have r1:inR n 0 1114111 = false:=za4 hr
  have H:=Lib.hid (zgh hr);clear hr
  go_enter Tryz.func116,Tryz.ntmps116
  go_wp2_with (go_at_call 65; refine (zaF _ _ _ _).mono ?_; rintro e w' ⟨rfl,rfl⟩)
  go_ret;exact ⟨zbr H.out.symm,Below.refl _ _⟩
set_option maxHeartbeats 1000000 in
set_option maxRecDepth 10000 in
theorem zfF (l:List UInt8) (i:Int) (w:World) (hi:i64ok i) (hl:l.length <= 4611686018427387904) :
  Calls Tryz.prog 114 #[.string ⟨l.toArray⟩,.int .i64 i] w fun e w' => e = .returned (.tuple #[.int .i64 (signAt l i).1,.int .i64 (signAt l i).2]) /\ Below w.heap.size w w':=by
 obtain ⟨hi1,hi2⟩:=hi;by_cases hr:0 <= i /\ i < l.length
 ·obtain ⟨k,rfl⟩:∃ k:Nat,i = k:=⟨i.toNat,by omega⟩
  have hk:k < l.length:=by omega
  have hk1:(0:Int) <= k:=by omega
  have hk2:(k:Int) < l.length:=by omega
  have hS:=sgn_many l[k] (l.drop (k + 1));rw [<- List.drop_eq_getElem_cons hk] at hS;have hbd:=many_bd l[k].toNat l[k].toNat_lt;obtain ⟨hbd1,hbd2⟩:=hbd;have HC:=Lib.hid (zgg l[k]);obtain ⟨m,hm⟩:∃ m,(many l[k].toNat).1 = m:=⟨_,rfl⟩;obtain ⟨v0,hv⟩:∃ v,(many l[k].toNat).2 = v:=⟨_,rfl⟩;rw [hm] at hbd1 hS;rw [hv] at hbd2 hS
  have HC:Hid (∀ w,Calls Tryz.prog 115 #[.int .i64 (l[k].toNat:Nat)] w fun e w' => e = .returned (.tuple #[.int .i64 (m:Nat),.int .i64 (v0:Nat)]) /\ w = w'):=by
   intro w; rw [<- hm,<- hv]; exact HC.out w
  clear hm hv hr;by_cases hA:m = 0 \/ (l.drop (k + 1)).length + 1 < m
  ·rw [if_pos (.inl hA)] at hS
   have H:=Lib.hid (zcs hS);clear hS;rw [List.length_drop] at hA;by_cases hA0:m = 0
   ·subst hA0
    go_enter Tryz.func114,Tryz.ntmps114
    go_wp2_with (go_at_call 115; refine (HC.out _).mono ?_; rintro e w1 ⟨rfl,rfl⟩)
    go_ret2
    rw [H.out]; exact ⟨rfl,Below.refl _ _⟩
   ·have hA1:(l.length:Int) - k < m:=by omega
    have hA2:((m:Int) == 0) = false:=by simpa using hA0
    clear hA hA0
    go_enter Tryz.func114,Tryz.ntmps114
    go_wp2_with (go_at_call 115; refine (HC.out _).mono ?_; rintro e w1 ⟨rfl,rfl⟩)
    go_ret2
    rw [H.out]; exact ⟨rfl,Below.refl _ _⟩
  ·have hA0:1 <= m:=by omega
   have hA1:k + m <= l.length:=by rw [List.length_drop] at hA; omega
   have hA2:((m:Int) == 0) = false:=by simp; omega
   have hA3:¬ (l.length:Int) - k < m:=by omega
   have hle:((l.drop (k + 1)).length:Nat) = l.length - (k + 1):=List.length_drop;have HS:=Lib.hid hS;have HA:=Lib.hid hA;have HL:=Lib.hid hle;clear hA hS hle
   go_enter Tryz.func114,Tryz.ntmps114
   go_wp2_with (go_at_call 115; refine (HC.out _).mono ?_; rintro e w1 ⟨rfl,rfl⟩)
   go_loop [7,8] (fun x i => ∃ (j:Nat),j + 1 <= m /\ i = .int .i64 ((j + 1:Nat):Int) /\ x = .int .i64 (sgnV v0 ((l.drop (k + 1)).take j))) (fun _ i => 5 - (RowKit.intOf i).toNat)
   case atStart => exact ⟨0,by omega,rfl,by simp [sgnV]⟩
   case round =>
    obtain ⟨j,hj,rfl,rfl⟩:=hrel;by_cases hlt:j + 1 < m
    ·have hjl:j < (l.drop (k + 1)).length:=by have:=HL.out; omega
     have HN:=Lib.hid (sgnV_snoc v0 (l.drop (k + 1)) j hjl);have hb:=sgnV_bd v0 (l.drop (k + 1)) j hbd2 (by omega);have hget:(l.drop (k + 1))[j] = l[k + (j + 1)]'(by have:=HL.out; omega):=by rw [List.getElem_drop]; congr 1; omega
     rw [hget] at HN;have hk4:k + (j + 1) < l.length:=by omega
     have e1:((k:Int) + (j + 1:Nat)).toNat = k + (j + 1):=by omega
     obtain ⟨x,hx⟩:∃ x,sgnV v0 ((l.drop (k + 1)).take j) = x:=⟨_,rfl⟩;rw [hx] at HN hb ⊢;have HX:=Lib.hid hx; clear hx
     go_wp2
     go_round
     case rel =>
      refine ⟨j + 1,by omega,by go_num,?_⟩;rw [HN.out]; go_num
     case measure => simp [RowKit.intOf] <;> omega
    ·obtain rfl:m = j + 1:=by omega
     have hb:=sgnV_bd v0 (l.drop (k + 1)) j hbd2 (by omega);have HS2:=HS.out;have hpre:¬ ((j + 1 = 0) \/ (l.drop (k + 1)).length + 1 < j + 1):=HA.out;simp only [hpre,false_or,Nat.add_sub_cancel] at HS2;have HS2:=Lib.hid HS2;clear hpre;go_wp2;obtain ⟨x,hx⟩:∃ x,sgnV v0 ((l.drop (k + 1)).take j) = x:=⟨_,rfl⟩;rw [hx] at hb HS2;have HX:=Lib.hid hx;simp only [hx];clear hx HS;have hB:=Below.refl w.heap.size w;have z1:IntKind.i64.wrap ((k:Int) + (↑j + 1)) = (k:Int) + (↑j + 1):=IntWalk.i64_in _ (by omega);have z2:(0:Int) <= (k:Int) + (↑j + 1):=by omega
     have z3:(k:Int) <= (k:Int) + (↑j + 1):=by omega
     have z4:(k:Int) + (↑j + 1) <= l.length:=by omega
     have z5:((k:Int) + (↑j + 1)).toNat = k + (j + 1):=by omega
     have hxo:i64ok x:=⟨by omega,by omega⟩
     go_region_held3 (fun W => Below w.heap.size w W) (first | exact hB | exact hB.drew)
      (first | (go_at_call 116; refine (zfE x _ hxo).mono ?_; rintro e w2 ⟨rfl,hb2⟩; replace hB:=zan (by first | exact hB | exact hB.drew) hb2 (Nat.le_refl _)))
     go_wp2
     ·have he:(!putSign ↑x == List.take (j + 1) (List.drop k l)) = true:=by assumption
      rw [zdY] at he;have h2:=HS2.out;rw [if_pos (by simpa using he)] at h2
      go_ret2
      rw [zcs h2]; exact ⟨rfl,hB⟩
     ·have he:(!putSign ↑x == List.take (j + 1) (List.drop k l)) = false:=by assumption
      rw [zdY] at he;have h2:=HS2.out;rw [if_neg (by simpa using he)] at h2
      go_ret2
      rw [zdX hk h2]; exact ⟨by simp,hB⟩
 ·have H:=Lib.hid (signAt_far hr)
  by_cases h0:i < 0
  ·clear hr
   go_enter Tryz.func114,Tryz.ntmps114
   go_wp2
   go_ret2
   rw [H.out]; exact ⟨rfl,Below.refl _ _⟩
  ·have h1:¬ i < l.length:=by omega
   clear hr
   go_enter Tryz.func114,Tryz.ntmps114
   go_wp2
   go_ret2
   rw [H.out]; exact ⟨rfl,Below.refl _ _⟩
end Go.Proofs.YtdggnhnkpejciaaGreatDoor
namespace Go.Proofs.YtdggnhnkpejciaaGreatDoor
open Go.RowKit
set_option maxHeartbeats 4000000
set_option maxRecDepth 100000
open List
section
open Go.RowKit Go.Lib
theorem tyI:ElemTy Tryz.prog 52 3 1 8:=ElemTy.mk' Tryz.underlying52 (z:=.int .i64 0) (by kernel_rfl) rfl (by decide)
theorem signAt_bd {l:L8} {k:Nat} (_:k <= l.length):-1 <= (signAt l k).1 /\ (signAt l k).1 <= 1114111 /\ -1 <= (signAt l k).2 /\ (signAt l k).2 <= l.length:=by
 unfold signAt; split
 ·rename_i h
  rw [Int.toNat_natCast]
  cases hs:sgn (l.drop k) with
  | none => simp; try omega
  | some r =>
   obtain ⟨n,m⟩:=r
   have:=sgn_bd hs
   simp [length_drop] at this ⊢; omega
 ·simp; try omega
theorem zgj {l:L8} {k:Nat} (hk:k < l.length):((signAt l k).2 < 0 /\ validD (l.drop k) = false) \/ (∃ m:Nat,(signAt l k).2 = (k + m:Nat) /\ 1 <= m /\ k + m <= l.length /\ validD (l.drop k) = validD (l.drop (k + m))):=by
 have hne:l.drop k ≠ []:=by simp; omega
 have hv:=validD_sgn (l.drop k) hne
 cases hs:sgn (l.drop k) with
 | none => rw [hs] at hv; left; rw [zcs hs]; exact ⟨by simp,hv⟩
 | some r =>
  obtain ⟨n,m⟩:=r
  have:=sgn_bd hs
  rw [hs] at hv; right; rw [zdX hk hs]; simp [length_drop,drop_drop] at this hv ⊢
  exact ⟨m,rfl,by omega,by omega,hv⟩
theorem signs_spec (l:L8) (w:World) (hl:l.length <= 4294967295) :
  Calls Tryz.prog 111 #[.string ⟨l.toArray⟩] w fun e w' => (∃ a n c,e = .returned (.slice a n c) /\ n <= 4294967295 /\ (l ≠ [] -> (decide (0 < n)) = validD l)) /\ Below w.heap.size w w':=by
 obtain ⟨ok,hok⟩:∃ ok,validD l = ok:=⟨_,rfl⟩;rw [hok]
 go_enter Tryz.func111,Tryz.ntmps111
 go_wp2
 go_loopw [3,4] (fun v i wr => ∃ (k:Nat) (xs:List Value),k <= l.length /\ i = .int .i64 k /\ OwnR wr w.heap.size 3 v xs /\ xs.length <= k /\ (0 < k -> 0 < xs.length) /\ validD (l.drop k) = ok /\ Below w.heap.size w wr) (fun _ i _ => l.length - (RowKit.intOf i).toNat)
 case atStart => exact ⟨0,[],Nat.zero_le _,rfl,OwnR.start,by simp,by simp,by simpa using hok,(Below.refl _ _).alloc lR _⟩
 case round =>
  obtain ⟨k,xs,hk,rfl,hown,hx1,hx2,hv,hbel⟩:=hrel;have HV:=Lib.hid hv; clear hv hok
  have hsz:=hbel.size;obtain ⟨a,c,rfl⟩:=hown.any;by_cases hlt:k < l.length
  ·have hki:i64ok k:=⟨by omega,by omega⟩
   have HB:=signAt_bd (l:=l) (k:=k) hk;have HS:=Lib.hid (zgj hlt);obtain ⟨p,hp⟩:∃ p,signAt l k = p:=⟨_,rfl⟩
   have HC:Hid (∀ w,Calls Tryz.prog 114 #[.string ⟨l.toArray⟩,.int .i64 k] w fun e w' => e = .returned (.tuple #[.int .i64 p.1,.int .i64 p.2]) /\ Below w.heap.size w w'):=by
    intro w; rw [<- hp]; exact zfF l k w hki (by omega)
   rw [hp] at HB HS;clear hp;obtain ⟨p1,p2⟩:=p;simp only at HB HS HC;obtain ⟨HB1,HB2,HB3,HB4⟩:=HB;by_cases hneg:p2 < 0
   ·have hf:ok = false:=by
     rcases HS.out with ⟨_,h2⟩ | ⟨m,h1,_⟩
     ·rw [<- HV.out,h2]
     ·omega
    have HF:=Lib.hid hf;clear hf
    go_wp2_with (go_at_call 114; refine (HC.out _).mono ?_; rintro e w1 ⟨rfl,hb1⟩)
    go_ret;exact ⟨⟨_,_,_,rfl,by simp,fun _ => by rw [HF.out]; rfl⟩,(zan hbel hb1 lR).alloc (Nat.le_trans hsz hb1.size) _⟩
   ·obtain ⟨m,hm1,hm2,hm3,hm4⟩:∃ m:Nat,p2 = (k + m:Nat) /\ 1 <= m /\ k + m <= l.length /\ validD (l.drop k) = validD (l.drop (k + m)):=by
     rcases HS.out with ⟨h1,_⟩ | h
     ·omega
     ·exact h
    subst hm1;have HM:=Lib.hid hm4;clear hm4
    go_wp2_with (first | (go_at_call 114; refine (HC.out _).mono ?_; rintro e w1 ⟨rfl,hb1⟩) | (at_builtin; refine wp_appR (ys:=[.int .i64 p1]) tyI rfl rfl w.heap.size ((hown.below hb1).alloc _) rfl ⟨w1.heap.size,0,none⟩ 1 rfl (cell_one_new _ _ _) (by simp [Value.oneCell']) (by simp; omega) (by decide) (by have:=hb1.size; simp; omega) ?_))
    intro v' w2 hown1 hgr _;have hbel1:=OwnR.grown ((hown.below hb1).alloc _) ((zan hbel hb1 lR).alloc (Nat.le_trans hsz hb1.size) _) hgr (by have:=hb1.size; simp; omega);clear hown hbel;go_wp2;go_roundw
    case rel => exact ⟨k + m,_,hm3,by go_num,hown1,by simp; omega,by simp,by rw [<- HM.out]; exact HV.out,hbel1⟩
    case measure => simp [RowKit.intOf]; omega
  ·obtain rfl:k = l.length:=by omega
   have h1:=HV.out;rw [drop_length] at h1;have HF:=Lib.hid h1;clear h1;go_wp2;go_ret;exact ⟨⟨_,_,_,rfl,by omega,fun hne => by rw [<- HF.out,decide_eq_true (hx2 (length_pos_iff.2 hne))]; rfl⟩,hbel⟩
theorem zdZ (l:L8) (w:World) (hl:l.length <= 4294967295) :
  Calls Tryz.prog 102 #[.string ⟨l.toArray⟩] w fun e w' => e = .returned (.bool (validD l)) /\ Below w.heap.size w w':=by
 by_cases h:l = []
 ·subst h
  go_enter Tryz.func102,Tryz.ntmps102
  go_wp2;go_ret;exact ⟨rfl,Below.refl _ _⟩
 ·have HC:=Lib.hid (signs_spec l w hl)
  have h1:l.isEmpty = false:=by simpa using h
  have HN:=Lib.hid h;clear h
  go_enter Tryz.func102,Tryz.ntmps102
  go_wp2_with (go_at_call 111; refine HC.out.mono ?_; rintro e w1 ⟨⟨a,n,c,rfl,hn,hv⟩,hb1⟩; have HV:=Lib.hid (hv HN.out); clear hv)
  go_ret;exact ⟨by rw [<- HV.out]; rfl,hb1⟩
end
end Go.Proofs.YtdggnhnkpejciaaGreatDoor
