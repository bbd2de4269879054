/- Part 5 of a proof: Val5, At, At2, DictDef, Frs, FrsDef, PvOldT, ReadHead, ReadHead2, ReadHead3, PutHead, ReadFrame, FrmM, FrmS, LawM, PvTop, Code, Law1, FmDrw, FrmiM, FrmI, SmnM, SameN, CrcLaw, Flip, TabsLow, FmLaw1, FmTail, PvZ2, FnFrames, Laid, Tabs -/
import Derived.Test.YtdggnhnkpejciaaGreatDoorFb4
import Derived.HandedShaped
import Derived.Shelf.Vars
import Derived.Lay
import Derived.LaidMore
import Derived.Stop.Joined
import Derived.Lib.LaidU8T
namespace Go.Proofs.YtdggnhnkpejciaaGreatDoor
open Go.RowKit
set_option maxHeartbeats 4000000
set_option maxRecDepth 100000
open List
section
variable {T:World -> Prop} {hT:Low ngl T}
attribute [local irreducible] po mw pt
theorem val5_drw {b:L8} (hb:b.length <= 2147483647):Drw (env T hT) b 26 [] (QV 302 4000):=by
 rintro c nt live hc hn;refine zaY (R:=DvR b 302 4000 nt live) (zag ze7) (by show 1 <= 9; decide) fun B hB' => ?_
 unfold m_s_l05Value;refine mP ?_;refine mM ?_;refine mS ?_;refine po_g rfl ((zdo (T:=T) (hT:=hT) hb 8).use ⟨trivial,trivial⟩ hc hn (p:=0) rfl) ?_;rintro x bx n1 l1 ⟨c1,rfl,hc1,q,rfl,hN1⟩;refine zaa ?_
 cases q with
 | true =>
  refine mwT ?_;refine mQ ?_;refine po_g rfl ((any_drw (T:=T) (hT:=hT) hb).use trivial hc1 (hN1.n2 hn) (p:=0) rfl) ?_;rintro x bx n l ⟨c2,rfl,hc2,cs,v,rfl,hN,he,hg,hRT,hkl⟩;refine zaO (p:=1) (cs:=cs) rfl rfl rfl (zbv he) rfl rfl ?_;refine mN ?_
  exact zah ⟨.inr rfl,[.ag cs],zbo rfl rfl (zbv he),zbu hc2 (hN1.trans hN) he hg hRT hkl⟩
 | false =>
  refine mwF ?_;refine zaj ?_;refine mQ ?_;refine po_g rfl ((make_drw (T:=T) (hT:=hT) hb false 3 lR).use ⟨trivial,trivial,trivial⟩ hc1 (hN1.n2 hn) (p:=0) rfl) ?_;rintro x bx n l ⟨c2,rfl,hc2,cs,v,rfl,hN,he,hg,hRT,hkl⟩;refine zaO (p:=1) (cs:=cs) rfl rfl rfl (zbv he) rfl rfl ?_;refine mN ?_;exact zah ⟨.inr rfl,[.ag cs],zbo rfl rfl (zbv he),zbu hc2 (hN1.trans hN) he (hg.mono (by decide)) hRT (by omega)⟩
end
section
def At (s:L8) (i:Nat) (l:L8):Prop:=∃ r,s.drop i = l ++ r
theorem At.app {s:L8} {i:Nat} {a b:L8} (h:At s i (a ++ b)):At s i a /\ At s (i + a.length) b:=by
 obtain ⟨r,h⟩:=h;refine ⟨⟨b ++ r,by rw [h,append_assoc]⟩,r,?_⟩;rw [<- drop_drop,h,append_assoc,drop_left]
theorem At.len {s:L8} {i:Nat} {l:L8} (h:At s i l) (hi:i <= s.length):i + l.length <= s.length:=by
 obtain ⟨r,h⟩:=h
 have:=congrArg length h
 rw [length_drop,length_append] at this; omega
theorem At.take {s:L8} {i:Nat} {l:L8} (h:At s i l):(s.drop i).take l.length = l:=by
 obtain ⟨r,h⟩:=h;rw [h,take_left]
theorem At.cons {s:L8} {i:Nat} {b:UInt8} {t:L8} (h:At s i (b :: t)):s[i]? = some b /\ At s (i + 1) t:=by
 have h2:=At.app (a:=[b]) (b:=t) h;obtain ⟨r,h⟩:=h;refine ⟨?_,h2.2⟩
 have:=congrArg (fun l => l[0]?) h
 simpa using this
theorem valBE_be:∀ (k n:Nat),valBE (be k n) = n % 256 ^ k
 | 0,n => by simp [be,valBE,Nat.mod_one]
 | k + 1,n => by
  rw [be,zcb,valBE_be k,zaz,Nat.pow_succ,Nat.mul_comm (256 ^ k) 256,Nat.mod_mul];omega
end
section
end
section
open Go.Lib (validD)
theorem getD_at {α:Type} {l:List α} {i:Nat} (h:i < l.length) (d:α):l.getD i d = l[i]:=by simp [getD,h]
theorem getHd_at {s:L8} {i m n:Nat} (hm:m <= 7) (hn:n < 18446744073709551616) (hi:i <= s.length) (h:At s i (hd m n)):getHd s i = some (m,n,i + (hd m n).length):=by
 have hlen:=h.len hi
 have long:∀ k,k <= 3 -> n < 256 ^ (2 ^ k) -> hd m n = be 1 (m * 32 + (24 + k)) ++ be (2 ^ k) n -> getHd s i = some (m,n,i + (hd m n).length):=by
  intro k hk hnk he;have hl1:(hd m n).length = 1 + 2 ^ k:=by rw [he,length_append,zac,zac]
  rw [hl1] at hlen ⊢;rw [he] at h;obtain ⟨h1,h2⟩:=At.cons (show At s i (byteOf (m * 32 + (24 + k)) :: be (2 ^ k) n) from h);have hb:(byteOf (m * 32 + (24 + k))).toNat = m * 32 + (24 + k):=by rw [zaz]; omega
  have ht:=h2.take;rw [zac] at ht;unfold getHd anyHd;rw [h1];simp only [hb];rw [if_neg (by omega),if_neg (by omega),show (m * 32 + (24 + k)) % 32 - 24 = k by omega,if_neg (by omega),ht,valBE_be,Nat.mod_eq_of_lt hnk,show (m * 32 + (24 + k)) / 32 = m by omega];simp only [hl1];rw [if_pos (by omega),show i + 1 + 2 ^ k = i + (1 + 2 ^ k) by omega]
 by_cases h1:n < 24
 ·have he:hd m n = be 1 (m * 32 + n):=by unfold hd; rw [if_pos h1]
  have hl1:(hd m n).length = 1:=by rw [he,zac]
  rw [hl1];rw [he] at h;obtain ⟨h2,_⟩:=At.cons (show At s i (byteOf (m * 32 + n) :: []) from h);have hb:(byteOf (m * 32 + n)).toNat = m * 32 + n:=by rw [zaz]; omega
  unfold getHd anyHd;rw [h2];simp only [hb];rw [if_pos (by omega),show (m * 32 + n) % 32 = n by omega,show (m * 32 + n) / 32 = m by omega];simp only [hl1,if_true]
 ·by_cases h2:n < 256
  ·exact long 0 (by decide) (by simpa using h2) (by unfold hd; rw [if_neg h1,if_pos h2])
  ·by_cases h3:n < 65536
   ·exact long 1 (by decide) (by simpa using h3) (by unfold hd; rw [if_neg h1,if_neg h2,if_pos h3])
   ·by_cases h4:n < 4294967296
    ·exact long 2 (by decide) (by simpa using h4) (by unfold hd; rw [if_neg h1,if_neg h2,if_neg h3,if_pos h4])
    ·exact long 3 (by decide) (by simpa using hn) (by unfold hd; rw [if_neg h1,if_neg h2,if_neg h3,if_neg h4])
end
section
theorem zbp {l:L8} {i:Nat} {c:L8} {e:Nat} (h:getFr l i = some (c,e)):c.length <= 100000 /\ At l i (frame c) /\ e = i + (frame c).length /\ i < e /\ e <= l.length:=by
 unfold getFr at h
 split at h
 ·cases h
 ·rename_i m n x hg
  split at h
  ·rename_i hh
   simp only [sI,Prod.mk.injEq] at h;obtain ⟨rfl,rfl⟩:=h;obtain ⟨rfl,h1,h2,h3⟩:=hh;unfold getAt at hg;rw [if_neg (by omega),Int.toNat_natCast] at hg;obtain ⟨g1,g2,g3,g4,g5,g6⟩:=zey hg;have hl:((l.drop x).take n).length = n:=by rw [length_take,length_drop]; omega
   have hs:(l.drop i).take (x + n + 4 - i) = (l.drop i).take (x - i) ++ ((l.drop x).take n ++ (l.drop (x + n)).take 4):=by
    rw [show x + n + 4 - i = (x - i) + (n + 4) by omega,take_add,drop_drop,show i + (x - i) = x by omega,take_add,drop_drop]
   have hf:frame ((l.drop x).take n) = (l.drop i).take (x + n + 4 - i):=by
    unfold frame;rw [hl,if_pos h1,hs,<- g6,append_assoc,h3]
   have hfl:(frame ((l.drop x).take n)).length = x + n + 4 - i:=by rw [hf,length_take,length_drop]; omega
   refine ⟨by rw [hl]; exact h1,⟨(l.drop i).drop (x + n + 4 - i),by rw [hf,take_append_drop]⟩,by rw [hfl]; omega,by omega,by omega⟩
  ·cases h
theorem getFr_at {l:L8} {i:Nat} {c:L8} (hc:c.length <= 100000) (hi:i <= l.length) (h:At l i (frame c)):getFr l i = some (c,i + (frame c).length):=by
 have hlen:=h.len hi;have hf:frame c = hd 2 c.length ++ c ++ be 4 (crc c):=by unfold frame; rw [if_pos hc]
 rw [hf] at h hlen ⊢;simp only [length_append,zac] at hlen ⊢;obtain ⟨h1,h2⟩:=h.app;obtain ⟨h3,h4⟩:=h1.app;have hg:=getHd_at (by omega) (by omega) hi h3;simp only [length_append] at h2;have t2:=h2.take;have t4:=h4.take;rw [zac,<- Nat.add_assoc] at t2;unfold getFr getAt;rw [if_neg (by omega),Int.toNat_natCast,hg];simp only;rw [t4,t2,if_pos ⟨trivial,hc,by omega,rfl⟩];simp only [sI,Prod.mk.injEq,true_and]; omega
def frF (l:L8):Nat -> Nat -> List (L8 × Nat)
 | 0,_ => []
 | k + 1,a => match getFr l a with
  | some (c,e) => (c,e) :: frF l k e
  | none => []
def frG (l:L8) (a:Nat):List (L8 × Nat):=frF l (l.length + 1 - a) a
theorem zds {l:L8}:∀ {k k' a:Nat},l.length < k + a -> l.length < k' + a -> frF l k a = frF l k' a
 | 0,k',a,h,h' => by
  cases k' with
  | zero => rfl
  | succ k' =>
   simp only [frF]
   cases hg:getFr l a with
   | none => rfl
   | some r => obtain ⟨c,e⟩:=r; have:=zbp hg; omega
 | k + 1,0,a,h,h' => by
  simp only [frF]
  cases hg:getFr l a with
  | none => rfl
  | some r => obtain ⟨c,e⟩:=r; have:=zbp hg; omega
 | k + 1,k' + 1,a,h,h' => by
  simp only [frF]
  cases hg:getFr l a with
  | none => rfl
  | some r => obtain ⟨c,e⟩:=r; have:=zbp hg; simp only; rw [zds (k:=k) (k':=k') (by omega) (by omega)]
theorem zcc {l:L8} {a:Nat} (h:getFr l a = none):frG l a = []:=by
 unfold frG;rw [zds (k':=l.length + 2) (by omega) (by omega)];simp only [frF,h]
theorem zdt {l:L8} {a:Nat} {c:L8} {e:Nat} (h:getFr l a = some (c,e)):frG l a = (c,e) :: frG l e:=by
 unfold frG;rw [zds (k':=l.length + 1 + 1) (by omega) (by omega),frF];simp only [h];rw [zds (k':=l.length + 1 - e) (by omega) (by omega)]
theorem frG_ind {l:L8} {P:Nat -> Prop} (h0:∀ a:Nat,getFr l a = none -> P a) (h1:∀ (a:Nat) (c:L8) (e:Nat),getFr l a = some (c,e) -> P e -> P a) (a:Nat):P a:=by
 have key:∀ (k a:Nat),l.length < k + a -> P a:=by
  intro k
  induction k with
  | zero =>
   intro a h;refine h0 a ?_
   cases hg:getFr l a with
   | none => rfl
   | some r => obtain ⟨c,e⟩:=r; have:=zbp hg; omega
  | succ k ih =>
   intro a h
   cases hg:getFr l a with
   | none => exact h0 a hg
   | some r => obtain ⟨c,e⟩:=r; have:=zbp hg; exact h1 a c e hg (ih e (by omega))
 exact key (l.length + 1) a (by omega)
def endX (a:Nat):List (L8 × Nat) -> Nat
 | [] => a
 | (_,e) :: r => endX e r
theorem zfT:∀ (a:Nat) (r:List (L8 × Nat)) (c:L8) (e:Nat),endX a (r ++ [(c,e)]) = e
 | _,[],_,_ => rfl
 | _,(_,x) :: r,c,e => zfT x r c e
theorem frG_le {l:L8} (a:Nat):(∀ f ∈ frG l a,a < f.2 /\ f.2 <= l.length /\ f.1.length <= 100000) /\ (a <= l.length -> endX a (frG l a) <= l.length) /\ a + (frG l a).length <= endX a (frG l a):=by
 refine frG_ind (l:=l) (P:=fun a => (∀ f ∈ frG l a,a < f.2 /\ f.2 <= l.length /\ f.1.length <= 100000) /\ (a <= l.length -> endX a (frG l a) <= l.length) /\ a + (frG l a).length <= endX a (frG l a)) (fun a h => ?_) (fun a c e h ih => ?_) a
 ·rw [zcc h]; exact ⟨fun f hf => (by cases hf),fun h => h,lR⟩
 ·obtain ⟨h1,h2,h3,h4,h5⟩:=zbp h
  obtain ⟨i1,i2,i3⟩:=ih;rw [zdt h];refine ⟨fun f hf => ?_,fun _ => i2 h5,?_⟩
  ·rcases mem_cons.1 hf with rfl | hf
   ·exact ⟨h4,h5,h1⟩
   ·obtain ⟨j1,j2,j3⟩:=i1 f hf; exact ⟨by omega,j2,j3⟩
  ·simp only [length_cons,endX]; omega
end
section
def fcs (l:L8):List (L8):=(frG l 0).map (·.1)
def fes (l:L8):List Nat:=(frG l 0).map (·.2)
def fend (l:L8):Nat:=endX 0 (frG l 0)
theorem fend_le (l:L8):fend l <= l.length:=(frG_le (l:=l) 0).2.1 (Nat.zero_le _)
theorem fes_endX:∀ (l:List (L8 × Nat)) (a:Nat),endX a l = (l.map (·.2)).getD (l.length - 1) a
 | [],a => rfl
 | [(c,e)],a => rfl
 | (c,e) :: f :: r,a => by
  show endX e (f :: r) = _;rw [fes_endX (f :: r) e];simp
theorem fcs_len (log:L8):(fcs log).length <= log.length:=by
 have h1:=(frG_le (l:=log) 0).2.2;have h2:=fend_le log;unfold fcs fend at *;rw [length_map]; omega
def pNr (ns:List Nat):LP PC:=ns.map fun (n:Nat) => [pI n]
theorem pNr_er (ns:List Nat):erLL (pNr ns) = pNr ns:=by rw [za0]; unfold pNr; rw [map_map]; rfl
theorem zgv (ns:List Nat):(pNr ns).length = ns.length:=by simp [pNr]
theorem pNr_wid (ns:List Nat):∀ e ∈ pNr ns,e.length = 1:=by
 intro e he; unfold pNr at he; obtain ⟨n,_,rfl⟩:=mem_map.1 he; rfl
theorem pNr_get {ns:List Nat} {k:Nat} (h:k < ns.length):(pNr ns)[k]? = some [pI (ns[k]:Int)]:=by unfold pNr; rw [getElem?_map,getElem?_eq_getElem h]; rfl
end
section
theorem FnV.oldT {E:Env} {f:Nat} {args:List PV} {a b:Value} (ha:a.oneCell' = true) (hb1:b.oneCell' = true) (h:∀ (w:World) (C:Cx) (vs:List Value),(∀ b o,C.F b o -> b < w.heap.size) -> E.NG <= w.heap.size -> E.T w -> vs.length = args.length -> (∀ (j:Nat) (x:PV) (y:Value),args[j]? = some x -> vs[j]? = some y -> RpV C w x y) ->
  Calls E.P f vs.toArray w fun e w' => e = .returned (.tuple #[a,b]) /\ Below w.heap.size w w'):FnV E f args (.tup [.d (.v a),.d (.v b)]):=by
 intro C w vs hI hnt hold hl hv;refine (h w C vs hI.fin hI.ng hI.t hl hv).mono ?_;rintro e w' ⟨rfl,hb⟩;have hF:Fix C w w':=.of (fun b o hF => World.cell?_of_block (a:=⟨b,o,none⟩) (hb.block b (hI.fin b o hF))) hb.block
 refine ⟨_,.tup [.d (.v a),.d (.v b)],[],fun _ => False,C,rfl,rfl,⟨hI.nb,fun p cs hp => by simp at hp,fun p hp => by simp at hp,fun p hp => by simp at hp,fun p q hp => by simp at hp,fun t ht => ht.elim,fun t s b ht => ht.elim,fun b o h => Nat.lt_of_lt_of_le (hI.fin b o h) hb.size,Nat.le_trans hI.ng hb.size,E.low w w' hI.t hb.size (fun k hk => hb.block k (Nat.lt_of_lt_of_le hk hI.ng))⟩,
  ⟨hb.os,hb.tape,hb.output,hb.size,fun _ _ h => h,hF,fun k hk _ _ => hb.block k hk,⟨lR,fun _ _ => rfl⟩,fun _ _ h => .inl h,fun t b ht => ht.elim,(fun p hp hp2 => by simp at hp2),⟨lR,fun _ _ => ⟨rfl,rfl,rfl,rfl⟩⟩⟩,.tup _ [a,b] rfl ?_⟩
 intro j x y hx hy
 match j with
 | 0 => simp at hx hy; subst hx; subst hy; exact .d _ _ (.v a ha)
 | 1 => simp at hx hy; subst hx; subst hy; exact .d _ _ (.v b hb1)
 | j + 2 => simp at hx
end
section
theorem anyHd_lt {l:L8} {j:Nat} (hj:j < l.length) (h:l[j].toNat % 32 < 24):anyHd l j = some (l[j].toNat / 32,l[j].toNat % 32,j + 1):=by
 unfold anyHd; rw [getElem?_eq_getElem hj]; simp only; rw [if_pos h]
theorem anyHd_gt {l:L8} {j:Nat} (hj:j < l.length) (h:27 < l[j].toNat % 32):anyHd l j = none:=by
 unfold anyHd; rw [getElem?_eq_getElem hj]; simp only; rw [if_neg (by omega),if_pos h]
theorem zd7 {l:L8} {j k:Nat} (hj:j < l.length) (h:l[j].toNat % 32 = 24 + k) (hk:k <= 3) (hl:l.length < j + 1 + 2 ^ k):anyHd l j = none:=by
 unfold anyHd; rw [getElem?_eq_getElem hj]; simp only; rw [h,if_neg (by omega),if_neg (by omega),Nat.add_sub_cancel_left,if_pos hl]
theorem zeA {l:L8} {j k:Nat} (hj:j < l.length) (h:l[j].toNat % 32 = 24 + k) (hk:k <= 3) (hl:j + 1 + 2 ^ k <= l.length):anyHd l j = some (l[j].toNat / 32,valBE ((l.drop (j + 1)).take (2 ^ k)),j + 1 + 2 ^ k):=by
 unfold anyHd; rw [getElem?_eq_getElem hj]; simp only; rw [h,if_neg (by omega),if_neg (by omega),Nat.add_sub_cancel_left,if_neg (by omega)]
theorem zeB (l:L8) (s k:Nat) (h:s + k < l.length):valBE ((l.drop s).take (k + 1)) = valBE ((l.drop s).take k) * 256 + l[s + k].toNat:=by
 rw [valBE_take (l.drop s) k (by simp; omega),getElem_drop]
theorem zbQ (l:L8) (j t:Nat) (h:j + (t + 1) < l.length):valBE ((l.drop (j + 1)).take (t + 1)) = valBE ((l.drop (j + 1)).take t) * 256 + l[j + (t + 1)].toNat:=by
 have:=zeB l (j + 1) t (by omega)
 rw [this]; congr 3; omega
theorem zdu (l:L8) (j t:Nat) (h:t <= 7):valBE ((l.drop (j + 1)).take t) < 72057594037927936 :=
 Nat.lt_of_lt_of_le (ze2 _) (Nat.le_trans (Nat.pow_le_pow_right (by decide) (show _ <= 7 by rw [length_take]; omega)) (by decide))
theorem zdv (l:L8) (j k m:Nat) (w:World) (hj:j < l.length) (hm:m = 2 ^ k) (hk:k <= 3) (hq:l[j].toNat % 32 = 24 + k) (hl:l.length <= 9223372036854775000) :
  Calls Tryz.prog 51 #[.string ⟨l.toArray⟩,.int .i64 (j:Nat)] w fun e w' => e = .returned (.tuple #[.int .i64 (hM (anyHd l j)),.int .u64 (hN (anyHd l j)),.int .i64 (hX (anyHd l j))]) /\ Below w.heap.size w w':=by
 have hb:=l[j].toNat_lt;have p1:(0:Int) <= j:=by omega
 have p2:(j:Int) < l.length:=by omega
 have hmk:(k = 0 /\ m = 1) \/ (k = 1 /\ m = 2) \/ (k = 2 /\ m = 4) \/ (k = 3 /\ m = 8):=by
  have:k = 0 \/ k = 1 \/ k = 2 \/ k = 3:=by omega
  rcases this with rfl | rfl | rfl | rfl <;> simp_all
 by_cases hs:l.length < j + 1 + m
 ·have H:=Lib.hid (zd7 hj hq hk (by rw [<- hm]; exact hs))
  rw [H.out];have HM:=Lib.hid hm;clear hm;generalize hqq:l[j].toNat = q at *;have hmr:(k = 0 /\ m = 1 /\ (q:Int) % 32 = 24) \/ (k = 1 /\ m = 2 /\ (q:Int) % 32 = 25) \/ (k = 2 /\ m = 4 /\ (q:Int) % 32 = 26) \/ (k = 3 /\ m = 8 /\ (q:Int) % 32 = 27):=by omega
  clear hmk hq
  rcases hmr with ⟨rfl,rfl,hr⟩ | ⟨rfl,rfl,hr⟩ | ⟨rfl,rfl,hr⟩ | ⟨rfl,rfl,hr⟩
  all_goals
   go_enter Tryz.func51,Tryz.ntmps51
   go_wp2
   go_quiet (fail)
   have hbel:=Go.below_drewN (Below.refl w.heap.size w) nq;generalize w.drewN nq = w1 at *;have hsz:=hbel.size;go_wp2
   go_ret3
   exact ⟨by simp [hM,hN,hX],hbel.alloc hsz _⟩
 ·have H:=Lib.hid (zeA hj hq hk (by rw [<- hm]; omega))
  rw [H.out];have HM:=Lib.hid hm;rw [<- hm];clear hm;generalize hqq:l[j].toNat = q at *;have hmr:(k = 0 /\ m = 1 /\ (q:Int) % 32 = 24) \/ (k = 1 /\ m = 2 /\ (q:Int) % 32 = 25) \/ (k = 2 /\ m = 4 /\ (q:Int) % 32 = 26) \/ (k = 3 /\ m = 8 /\ (q:Int) % 32 = 27):=by omega
  clear hmk hq
  rcases hmr with ⟨rfl,rfl,hr⟩ | ⟨rfl,rfl,hr⟩ | ⟨rfl,rfl,hr⟩ | ⟨rfl,rfl,hr⟩
  ·go_enter Tryz.func51,Tryz.ntmps51
   go_wp2
   go_quiet (fail)
   have hbel:=Go.below_drewN (Below.refl w.heap.size w) nq;generalize w.drewN nq = w1 at *;have hsz:=hbel.size;go_wp2;have HRR:=Lib.hid hr;clear hr p1 p2
   go_loopw [10,11] (fun n i wr => ∃ t:Nat,t <= 1 /\ i = .int .i64 ((t:Int) + 1) /\ n = .int .u64 (valBE ((l.drop (j + 1)).take t):Nat) /\ Below w.heap.size w wr) (fun _ i _ => (1 + 1 - intOf i).toNat)
   case atStart => exact ⟨0,by omega,rfl,rfl,hbel.alloc hsz _⟩
   case round =>
    obtain ⟨t,ht,rfl,rfl,hbel2⟩:=hrel;by_cases htm:t < 1
    ·have hlt:j + (t + 1) < l.length:=by omega
     have HS:=Lib.hid (zbQ l j t hlt);have hv7:=zdu l j t (by omega);have hby:=(l[j + (t + 1)]).toNat_lt;generalize hvv:valBE ((l.drop (j + 1)).take t) = v at *;clear hvv;generalize hbb:(l[j + (t + 1)]).toNat = bb at *;have p3:(j:Int) + (↑t + 1) < l.length:=by omega
     go_wp2;go_roundw
     case rel => exact ⟨t + 1,by omega,by go_num,by rw [HS.out]; go_num,hbel2⟩
     case measure => simp [intOf] <;> omega
    ·obtain rfl:t = 1:=by omega
     go_wp2
     go_ret3
     exact ⟨by simp [hM,hN,hX],hbel2⟩
  ·go_enter Tryz.func51,Tryz.ntmps51
   go_wp2
   go_quiet (fail)
   have hbel:=Go.below_drewN (Below.refl w.heap.size w) nq;generalize w.drewN nq = w1 at *;have hsz:=hbel.size;go_wp2;have HRR:=Lib.hid hr;clear hr p1 p2
   go_loopw [10,11] (fun n i wr => ∃ t:Nat,t <= 2 /\ i = .int .i64 ((t:Int) + 1) /\ n = .int .u64 (valBE ((l.drop (j + 1)).take t):Nat) /\ Below w.heap.size w wr) (fun _ i _ => (2 + 1 - intOf i).toNat)
   case atStart => exact ⟨0,by omega,rfl,rfl,hbel.alloc hsz _⟩
   case round =>
    obtain ⟨t,ht,rfl,rfl,hbel2⟩:=hrel;by_cases htm:t < 2
    ·have hlt:j + (t + 1) < l.length:=by omega
     have HS:=Lib.hid (zbQ l j t hlt);have hv7:=zdu l j t (by omega);have hby:=(l[j + (t + 1)]).toNat_lt;generalize hvv:valBE ((l.drop (j + 1)).take t) = v at *;clear hvv;generalize hbb:(l[j + (t + 1)]).toNat = bb at *;have p3:(j:Int) + (↑t + 1) < l.length:=by omega
     go_wp2;go_roundw
     case rel => exact ⟨t + 1,by omega,by go_num,by rw [HS.out]; go_num,hbel2⟩
     case measure => simp [intOf] <;> omega
    ·obtain rfl:t = 2:=by omega
     go_wp2
     go_ret3
     exact ⟨by simp [hM,hN,hX],hbel2⟩
  ·go_enter Tryz.func51,Tryz.ntmps51
   go_wp2
   go_quiet (fail)
   have hbel:=Go.below_drewN (Below.refl w.heap.size w) nq;generalize w.drewN nq = w1 at *;have hsz:=hbel.size;go_wp2;have HRR:=Lib.hid hr;clear hr p1 p2
   go_loopw [10,11] (fun n i wr => ∃ t:Nat,t <= 4 /\ i = .int .i64 ((t:Int) + 1) /\ n = .int .u64 (valBE ((l.drop (j + 1)).take t):Nat) /\ Below w.heap.size w wr) (fun _ i _ => (4 + 1 - intOf i).toNat)
   case atStart => exact ⟨0,by omega,rfl,rfl,hbel.alloc hsz _⟩
   case round =>
    obtain ⟨t,ht,rfl,rfl,hbel2⟩:=hrel;by_cases htm:t < 4
    ·have hlt:j + (t + 1) < l.length:=by omega
     have HS:=Lib.hid (zbQ l j t hlt);have hv7:=zdu l j t (by omega);have hby:=(l[j + (t + 1)]).toNat_lt;generalize hvv:valBE ((l.drop (j + 1)).take t) = v at *;clear hvv;generalize hbb:(l[j + (t + 1)]).toNat = bb at *;have p3:(j:Int) + (↑t + 1) < l.length:=by omega
     go_wp2;go_roundw
     case rel => exact ⟨t + 1,by omega,by go_num,by rw [HS.out]; go_num,hbel2⟩
     case measure => simp [intOf] <;> omega
    ·obtain rfl:t = 4:=by omega
     go_wp2
     go_ret3
     exact ⟨by simp [hM,hN,hX],hbel2⟩
  ·go_enter Tryz.func51,Tryz.ntmps51
   go_wp2
   go_quiet (fail)
   have hbel:=Go.below_drewN (Below.refl w.heap.size w) nq;generalize w.drewN nq = w1 at *;have hsz:=hbel.size;go_wp2;have HRR:=Lib.hid hr;clear hr p1 p2
   go_loopw [10,11] (fun n i wr => ∃ t:Nat,t <= 8 /\ i = .int .i64 ((t:Int) + 1) /\ n = .int .u64 (valBE ((l.drop (j + 1)).take t):Nat) /\ Below w.heap.size w wr) (fun _ i _ => (8 + 1 - intOf i).toNat)
   case atStart => exact ⟨0,by omega,rfl,rfl,hbel.alloc hsz _⟩
   case round =>
    obtain ⟨t,ht,rfl,rfl,hbel2⟩:=hrel;by_cases htm:t < 8
    ·have hlt:j + (t + 1) < l.length:=by omega
     have HS:=Lib.hid (zbQ l j t hlt);have hv7:=zdu l j t (by omega);have hby:=(l[j + (t + 1)]).toNat_lt;generalize hvv:valBE ((l.drop (j + 1)).take t) = v at *;clear hvv;generalize hbb:(l[j + (t + 1)]).toNat = bb at *;have p3:(j:Int) + (↑t + 1) < l.length:=by omega
     go_wp2;go_roundw
     case rel => exact ⟨t + 1,by omega,by go_num,by rw [HS.out]; go_num,hbel2⟩
     case measure => simp [intOf] <;> omega
    ·obtain rfl:t = 8:=by omega
     go_wp2
     go_ret3
     exact ⟨by simp [hM,hN,hX],hbel2⟩
theorem zeC (l:L8) (i:Int) (w:World) (hi:i64ok i) (hl:l.length <= 9223372036854775000) :
  Calls Tryz.prog 51 #[.string ⟨l.toArray⟩,.int .i64 i] w fun e w' => e = .returned (.tuple #[.int .i64 (hM (anyAt l i)),.int .u64 (hN (anyAt l i)),.int .i64 (hX (anyAt l i))]) /\ Below w.heap.size w w':=by
 by_cases h0:i < 0
 ·have HR:=Lib.hid (show anyAt l i = none by unfold anyAt; rw [if_pos h0])
  rw [HR.out]
  go_enter Tryz.func51,Tryz.ntmps51
  go_wp2
  go_ret3
  exact ⟨rfl,Below.refl _ _⟩
 ·obtain ⟨j,rfl⟩:=Int.eq_ofNat_of_zero_le (show 0 <= i by omega)
  have HR:=Lib.hid (show anyAt l (j:Nat) = anyHd l j by unfold anyAt; rw [if_neg h0]; rfl);rw [HR.out];by_cases hj:j < l.length
  ·have hb:=l[j].toNat_lt
   generalize hq:l[j].toNat = q at *;have HQ:=Lib.hid hq;have p1:(0:Int) <= j:=by omega
   have p2:(j:Int) < l.length:=by omega
   by_cases h24:q % 32 < 24
   ·have H:=Lib.hid (anyHd_lt hj (by rw [hq]; exact h24))
    rw [H.out,hq]
    go_enter Tryz.func51,Tryz.ntmps51
    go_wp2
    go_quiet (fail)
    go_wp2
    go_ret3
    exact ⟨by simp [hM,hN,hX],Go.below_drewN (Below.refl _ _) _⟩
   ·by_cases h27:27 < q % 32
    ·have H:=Lib.hid (anyHd_gt hj (by rw [hq]; exact h27))
     rw [H.out]
     go_enter Tryz.func51,Tryz.ntmps51
     go_wp2
     go_quiet (fail)
     go_wp2
     go_ret3
     exact ⟨by simp [hM,hN,hX],Go.below_drewN (Below.refl _ _) _⟩
    ·have hk:q % 32 = 24 \/ q % 32 = 25 \/ q % 32 = 26 \/ q % 32 = 27:=by omega
     rcases hk with hk | hk | hk | hk
     ·exact zdv l j 0 1 w hj rfl (by omega) (by rw [hq]; exact hk) hl
     ·exact zdv l j 1 2 w hj rfl (by omega) (by rw [hq]; exact hk) hl
     ·exact zdv l j 2 4 w hj rfl (by omega) (by rw [hq]; exact hk) hl
     ·exact zdv l j 3 8 w hj rfl (by omega) (by rw [hq]; exact hk) hl
  ·have H:=Lib.hid (show anyHd l j = none by unfold anyHd; rw [getElem?_eq_none (by omega)])
   rw [H.out]
   go_enter Tryz.func51,Tryz.ntmps51
   go_wp2
   go_ret3
   exact ⟨rfl,Below.refl _ _⟩
end
section
theorem zfU (l:L8) (i:Int):getAt l i = match anyAt l i with | some (m,n,x) => if i.toNat + (hd m n).length = x then some (m,n,x) else none | none => none:=by
 unfold getAt anyAt getHd
 split <;> rfl
theorem zb5 (l:L8) (i:Int) (w:World) (hi:i64ok i) (hl:l.length <= 9223372036854775000) :
  Calls Tryz.prog 32 #[.string ⟨l.toArray⟩,.int .i64 i] w fun e w' => e = .returned (.tuple #[.int .i64 (hM (getAt l i)),.int .u64 (hN (getAt l i)),.int .i64 (hX (getAt l i))]) /\ Below w.heap.size w w':=by
 have hg:=zfU l i
 cases ha:anyAt l i with
 | none =>
  rw [ha] at hg;have HG:=Lib.hid hg;rw [HG.out]
  go_enter Tryz.func32,Tryz.ntmps32
  go_wp2_with (go_at_call 51; refine (zeC l i _ hi hl).mono ?_; rw [ha]; simp only [hM,hN,hX]; rintro e w1 ⟨rfl,hb1⟩)
  go_quiet (fail)
  go_wp2
  go_ret3
  exact ⟨rfl,Go.below_drewN hb1 _⟩
 | some r =>
  obtain ⟨m,n,x⟩:=r;rw [ha] at hg;simp only at hg;have hi0:¬ i < 0:=by intro h; unfold anyAt at ha; rw [if_pos h] at ha; cases ha
  have haa:anyHd l i.toNat = some (m,n,x):=by unfold anyAt at ha; rw [if_neg hi0] at ha; exact ha
  obtain ⟨h1,h2,h3,h4,h5,h6,h7⟩:=zc0 haa;obtain ⟨j,rfl⟩:=Int.eq_ofNat_of_zero_le (show 0 <= i by omega);simp only [Int.toNat_natCast] at *;have p1:(0:Int) <= x:=by omega
  have p2:(j:Int) <= x:=by omega
  have p3:(x:Int) <= l.length:=by omega
  have HA:=Lib.hid ha;have HG:=Lib.hid hg;have H7:=Lib.hid h7;clear ha haa hi0 hg h7
  go_enter Tryz.func32,Tryz.ntmps32
  go_wp2_with (go_at_call 51; refine (zeC l j _ hi hl).mono ?_; rw [HA.out]; simp only [hM,hN,hX]; rintro e w1 ⟨rfl,hb1⟩)
  have hB:=hb1;have pd:decide ((x:Int) < 0) = false:=by simp
  have q1:(0:Int) <= m /\ (m:Int) <= 7:=by omega
  have q2:(0:Int) <= n /\ (n:Int) <= 18446744073709551615:=by omega
  go_region_held3 (fun W => Below w.heap.size w W) (first | exact hB | exact hB.drew)
   (first | (go_at_call 40; refine (zdc _ _ _ q1 q2).mono ?_; rintro e w2 ⟨rfl,hb2⟩; replace hB:=zan (by first | exact hB | exact hB.drew) hb2 lR))
  go_wp2
  ·have hne:(!hd m n == take (x - j) (drop j l)) = true:=by assumption
   have hne':¬ (j + (hd m n).length = x):=by rw [<- H7.out]; simpa using hne
   have hg:=HG.out;rw [if_neg hne'] at hg
   go_ret3
   exact ⟨by rw [hg]; rfl,hB⟩
  ·have heq:(!hd m n == take (x - j) (drop j l)) = false:=by assumption
   have heq':j + (hd m n).length = x:=by rw [<- H7.out]; simpa using heq
   have hg:=HG.out;rw [if_pos heq'] at hg
   go_ret3
   exact ⟨by rw [hg]; rfl,hB⟩
def sw (v:Nat):Int:=IntKind.i64.wrap (v:Nat)
theorem or_byte (v:Nat) (b:Nat) (hb:b < 256):bits .or .i64 (wrap64 (sw v * 256)) (b:Int) = sw (v * 256 + b):=by
 have e1:(BitVec.ofInt 64 (wrap64 (sw v * 256))).toNat = v * 256 % 18446744073709551616:=by
  rw [BitVec.toNat_ofInt]; unfold wrap64 sw; rw [IntKind.wrap_i64]; omega
 have e2:(BitVec.ofInt 64 (b:Int)).toNat = b:=by rw [BitVec.toNat_ofInt]; omega
 have e3:bits .or .i64 (wrap64 (sw v * 256)) (b:Int) = IntKind.i64.wrap ((BitVec.ofInt 64 (wrap64 (sw v * 256)) ||| BitVec.ofInt 64 (b:Int)).toNat:Nat):=rfl;rw [e3,BitVec.toNat_or,e1,e2,nat_join8 _ _ (by omega) hb];unfold sw;rw [IntKind.wrap_i64,IntKind.wrap_i64];omega
theorem zd8 (l:L8) (j k:Nat) (w:World) (hk:1 <= k /\ k <= 8) (hj:j <= l.length) (hl:l.length <= 9223372036854775000) :
  Calls Tryz.prog 69 #[.string ⟨l.toArray⟩,.int .i64 (j:Nat),.int .i64 (k:Nat)] w fun e w' =>
   e = .returned (if j + k <= l.length then .tuple #[.int .i64 (IntKind.i64.wrap (valBE ((l.drop j).take k):Nat)),.bool true] else .tuple #[.int .i64 0,.bool false]) /\ Below w.heap.size w w':=by
 have hin:inR k 1 8 = true:=zaB (by omega);obtain ⟨hk1,hk2⟩:=hk;by_cases h:j + k <= l.length
 ·rw [if_pos h]
  go_enter Tryz.func69,Tryz.ntmps69
  go_wp2_with (go_at_call 47; refine (zaM _ _ _ _).mono ?_; rintro e w' ⟨rfl,rfl⟩)
  go_loop [8,26] (fun n i => ∃ t:Nat,t <= k /\ i = .int .i64 (t:Nat) /\ n = .int .i64 (sw (valBE ((l.drop j).take t)))) (fun _ i => k - (intOf i).toNat)
  case atStart => exact ⟨0,by omega,rfl,rfl⟩
  case round =>
   obtain ⟨t,ht,rfl,rfl⟩:=hrel;by_cases htk:t < k
   ·have hlt:j + t < l.length:=by omega
    have HS:=Lib.hid (zeB l j t hlt);have hby:=(l[j + t]).toNat_lt;generalize hvv:valBE ((l.drop j).take t) = v at *;clear hvv;generalize hbb:(l[j + t]).toNat = bb at *;have p3:(j:Int) + ↑t < l.length:=by omega
    go_wp2
    go_round
    case rel => exact ⟨t + 1,by omega,by go_num,by rw [HS.out,or_byte v bb hby]⟩
    case measure => simp [intOf] <;> omega
   ·obtain rfl:t = k:=by omega
    go_wp2
    go_ret2
    exact ⟨rfl,Below.refl _ _⟩
 ·rw [if_neg h]
  go_enter Tryz.func69,Tryz.ntmps69
  go_wp2_with (go_at_call 47; refine (zaM _ _ _ _).mono ?_; rintro e w' ⟨rfl,rfl⟩)
  go_ret2
  exact ⟨rfl,Below.refl _ _⟩
end
section
theorem u64_back {v:Nat} (h:v < 18446744073709551616):IntKind.u64.wrap (wrap64 (v:Nat)) = (v:Nat):=by
 have:IntKind.u64.wrap (wrap64 (v:Nat)) = wrap64 (v:Nat) % 18446744073709551616:=by simp [IntKind.wrap,IntKind.bits,IntKind.signed]
 rw [this]; unfold wrap64; omega
theorem zd9 (l:L8) (i:Int) (w:World) (hi:i64ok i) (hl:l.length <= 9223372036854775000) :
  Calls Tryz.prog 50 #[.string ⟨l.toArray⟩,.int .i64 i] w fun e w' => e = .returned (.tuple #[.int .i64 (hM (anyAt l i)),.int .u64 (hN (anyAt l i)),.int .i64 (hX (anyAt l i))]) /\ Below w.heap.size w w':=by
 by_cases h0:0 <= i /\ i <= (l.length:Int) - 1
 ·have hin:inR i 0 ((l.length:Int) - 1) = true:=zaB h0
  obtain ⟨j,rfl⟩:=Int.eq_ofNat_of_zero_le h0.1;have hj:j < l.length:=by omega
  have HR:=Lib.hid (show anyAt l (j:Nat) = anyHd l j by unfold anyAt; rw [if_neg (by omega)]; rfl);rw [HR.out];clear h0;have hb:=l[j].toNat_lt;have p1:(0:Int) <= j:=by omega
  have p2:(j:Int) < l.length:=by omega
  by_cases h24:l[j].toNat % 32 < 24
  ·have H:=Lib.hid (anyHd_lt hj h24)
   rw [H.out];generalize hq:l[j].toNat = q at *;have ha:=u8_and31 (x:=(q:Int)) (by omega) (by omega)
   go_enter Tryz.func50,Tryz.ntmps50
   go_wp2_with (go_at_call 47; refine (zaM _ _ _ _).mono ?_; rintro e w' ⟨rfl,rfl⟩)
   go_quiet (fail)
   go_wp2
   go_ret3
   exact ⟨by simp [hM,hN,hX],Go.below_drewN (Below.refl _ _) _⟩
  ·by_cases h27:27 < l[j].toNat % 32
   ·have H:=Lib.hid (anyHd_gt hj h27)
    rw [H.out];generalize hq:l[j].toNat = q at *;have ha:=u8_and31 (x:=(q:Int)) (by omega) (by omega)
    go_enter Tryz.func50,Tryz.ntmps50
    go_wp2_with (go_at_call 47; refine (zaM _ _ _ _).mono ?_; rintro e w' ⟨rfl,rfl⟩)
    go_quiet (fail)
    go_wp2
    go_ret3
    exact ⟨by simp [hM,hN,hX],Go.below_drewN (Below.refl _ _) _⟩
   ·obtain ⟨k,hk,hk3⟩:∃ k,l[j].toNat % 32 = 24 + k /\ k <= 3:=⟨l[j].toNat % 32 - 24,by omega,by omega⟩
    have hp:2 ^ k <= 8 /\ 1 <= 2 ^ k:=by
     have:k = 0 \/ k = 1 \/ k = 2 \/ k = 3:=by omega
     rcases this with rfl | rfl | rfl | rfl <;> decide
    obtain ⟨m,hm⟩:∃ m,m = 2 ^ k:=⟨_,rfl⟩
    have hw1:wrap64 (2 ^ k) = (m:Int):=by
     rw [hm]
     have:k = 0 \/ k = 1 \/ k = 2 \/ k = 3:=by omega
     rcases this with rfl | rfl | rfl | rfl <;> (unfold wrap64; decide)
    have hk2:l[j].toNat % 32 - 24 = k:=by omega
    rw [<- hm] at hp;obtain ⟨hp1,hp2⟩:=hp;by_cases hs:j + 1 + m <= l.length
    ·have H:=Lib.hid (zeA hj hk hk3 (by rw [<- hm]; exact hs))
     rw [H.out,<- hm];have HM:=Lib.hid hm;clear hm;generalize hq:l[j].toNat = q at *;have ha:=u8_and31 (x:=(q:Int)) (by omega) (by omega)
     go_enter Tryz.func50,Tryz.ntmps50
     go_wp2_with (go_at_call 47; refine (zaM _ _ _ _).mono ?_; rintro e w' ⟨rfl,rfl⟩)
     go_quiet (fail)
     have HW:=Lib.hid hw1;have HK2:=Lib.hid hk2;clear hw1 hk2
     go_wp2_with fail
     simp only [HK2.out,HW.out];rw [show ((j:Int) + 1) = ((j + 1:Nat):Int) from by omega];refine (zd8 l (j + 1) m _ ⟨hp2,hp1⟩ (by omega) hl).mono ?_;rw [if_pos hs];rintro e w2 ⟨rfl,hb2⟩;have hv64:valBE ((l.drop (j + 1)).take m) < 18446744073709551616:=Nat.lt_of_lt_of_le (ze2 _) (Nat.le_trans (Nat.pow_le_pow_right (by decide) (show _ <= 8 by rw [length_take]; omega)) (by decide));have HV:=Lib.hid hv64;clear hv64;go_wp2
     go_ret3
     refine ⟨?_,zan (Go.below_drewN (Below.refl _ _) _) hb2 lR⟩;simp [hM,hN,hX];exact u64_back HV.out
    ·have H:=Lib.hid (zd7 hj hk hk3 (by rw [<- hm]; omega))
     rw [H.out];have HM:=Lib.hid hm;clear hm;generalize hq:l[j].toNat = q at *;have ha:=u8_and31 (x:=(q:Int)) (by omega) (by omega)
     go_enter Tryz.func50,Tryz.ntmps50
     go_wp2_with (go_at_call 47; refine (zaM _ _ _ _).mono ?_; rintro e w' ⟨rfl,rfl⟩)
     go_quiet (fail)
     have HW:=Lib.hid hw1;have HK2:=Lib.hid hk2;clear hw1 hk2
     go_wp2_with fail
     simp only [HK2.out,HW.out];rw [show ((j:Int) + 1) = ((j + 1:Nat):Int) from by omega];refine (zd8 l (j + 1) m _ ⟨hp2,hp1⟩ (by omega) hl).mono ?_;rw [if_neg hs];rintro e w2 ⟨rfl,hb2⟩;go_wp2
     go_ret3
     exact ⟨by simp [hM,hN,hX],zan (Go.below_drewN (Below.refl _ _) _) hb2 lR⟩
 ·have hin:inR i 0 ((l.length:Int) - 1) = false:=za4 h0
  have H:=Lib.hid (show anyAt l i = none by
   unfold anyAt; split
   ·rfl
   ·unfold anyHd; rw [getElem?_eq_none (by omega)])
  rw [H.out]
  go_enter Tryz.func50,Tryz.ntmps50
  go_wp2_with (go_at_call 47; refine (zaM _ _ _ _).mono ?_; rintro e w' ⟨rfl,rfl⟩)
  go_ret3
  exact ⟨rfl,Below.refl _ _⟩
theorem zcM (a b x:Nat):((a:Int) != (x:Int) - (b:Int)) = !decide (b + a = x):=by
 rw [Bool.eq_iff_iff]; simp; omega
theorem zb6 (l:L8) (i:Int) (w:World) (hi:i64ok i) (hl:l.length <= 9223372036854775000) :
  Calls Tryz.prog 31 #[.string ⟨l.toArray⟩,.int .i64 i] w fun e w' => e = .returned (.tuple #[.int .i64 (hM (getAt l i)),.int .u64 (hN (getAt l i)),.int .i64 (hX (getAt l i))]) /\ Below w.heap.size w w':=by
 have hg:=zfU l i
 cases ha:anyAt l i with
 | none =>
  rw [ha] at hg;have HG:=Lib.hid hg;rw [HG.out]
  go_enter Tryz.func31,Tryz.ntmps31
  go_wp2_with (go_at_call 50; refine (zd9 l i _ hi hl).mono ?_; rw [ha]; simp only [hM,hN,hX]; rintro e w1 ⟨rfl,hb1⟩)
  go_ret3
  exact ⟨rfl,hb1⟩
 | some r =>
  obtain ⟨m,n,x⟩:=r;rw [ha] at hg;simp only at hg;have hi0:¬ i < 0:=by intro h; unfold anyAt at ha; rw [if_pos h] at ha; cases ha
  have haa:anyHd l i.toNat = some (m,n,x):=by unfold anyAt at ha; rw [if_neg hi0] at ha; exact ha
  obtain ⟨h1,h2,h3,h4,h5,_,h7⟩:=zc0 haa;obtain ⟨j,rfl⟩:=Int.eq_ofNat_of_zero_le (show 0 <= i by omega);simp only [Int.toNat_natCast] at *;have p1:(0:Int) <= x:=by omega
  have p2:(j:Int) <= x:=by omega
  have p3:(x:Int) <= l.length:=by omega
  have HA:=Lib.hid ha;have HG:=Lib.hid hg;have hhl:=(zbS m n).1;clear ha haa hi0 hg h7;have pd:decide ((x:Int) < 0) = false:=by simp
  have q1:(0:Int) <= m /\ (m:Int) <= 7:=by omega
  have q2:(0:Int) <= n /\ (n:Int) <= 18446744073709551615:=by omega
  go_enter Tryz.func31,Tryz.ntmps31
  go_wp2_with (first | (go_at_call 50; refine (zd9 l j _ hi hl).mono ?_; rw [HA.out]; simp only [hM,hN,hX]; rintro e w1 ⟨rfl,hb1⟩) | (go_at_call 27; refine (zdd _ _ _ q1 q2).mono ?_; rintro e w2 ⟨rfl,hb2⟩))
  ·have hne:(((hd m n).length:Int) != (x:Int) - (j:Int)) = true:=by assumption
   have hne':¬ (j + (hd m n).length = x):=by rw [zcM] at hne; simpa using hne
   have hg:=HG.out;rw [if_neg hne'] at hg
   go_ret3
   exact ⟨by rw [hg]; rfl,zan hb1 hb2 lR⟩
  ·have hne:(((hd m n).length:Int) != (x:Int) - (j:Int)) = false:=by assumption
   have hne':j + (hd m n).length = x:=by rw [zcM] at hne; simpa using hne
   have hg:=HG.out;rw [if_pos hne'] at hg
   go_ret3
   exact ⟨by rw [hg]; rfl,zan hb1 hb2 lR⟩
end
section
end
section
theorem zeD {l:L8} {i:Int} {m n x:Nat} (h:getAt l i = some (m,n,x)):∃ j:Nat,i = j /\ j < x /\ x <= l.length /\ m <= 7 /\ n < 18446744073709551616 /\ hd m n = (l.drop j).take (x - j):=by
 unfold getAt at h
 split at h
 ·cases h
 ·obtain ⟨h1,h2,h3,h4,h5,h6⟩:=zey h
  exact ⟨i.toNat,by omega,h2,h3,h4,h5,h6⟩
theorem zeE {l:L8} {i:Int} (h:getAt l i = none):getFr l i = none:=by unfold getFr; rw [h]
theorem getFr_of {l:L8} {i:Int} {m n x:Nat} (h:getAt l i = some (m,n,x)):getFr l i =
  if m = 2 /\ n <= 100000 /\ x + n + 4 <= l.length /\ (l.drop (x + n)).take 4 = be 4 (crc ((l.drop x).take n)) then some ((l.drop x).take n,x + n + 4) else none:=by unfold getFr; rw [h]
theorem zcN (l:L8) (i:Int) (w:World) (hi:i64ok i) (hl:l.length <= 9223372036854775000) :
  Calls Tryz.prog 10 #[.string ⟨l.toArray⟩,.int .i64 i] w fun e w' => e = .returned (.tuple #[.string ⟨(fC (getFr l i)).toArray⟩,.int .i64 (fX (getFr l i))]) /\ Below w.heap.size w w':=by
 cases hg:getAt l i with
 | none =>
  have HF:=Lib.hid (zeE hg);rw [HF.out]
  go_enter Tryz.func10,Tryz.ntmps10
  go_wp2_with (go_at_call 31; refine (zb6 l i _ hi hl).mono ?_; rw [hg]; simp only [hM,hN,hX]; rintro e w1 ⟨rfl,hb1⟩)
  go_ret2
  exact ⟨rfl,hb1⟩
 | some r =>
  obtain ⟨m,n,x⟩:=r;obtain ⟨j,rfl,h2,h3,h4,h5,_⟩:=zeD hg;have HF:=Lib.hid (getFr_of hg);have HA:=Lib.hid hg;clear hg;by_cases hc:m = 2 /\ n <= 100000 /\ x + n + 4 <= l.length
  ·obtain ⟨rfl,hc2,hc3⟩:=hc
   have q0:(0:Int) <= x:=by omega
   have q1:(x:Int) + ↑n <= l.length:=by omega
   have q2:(x:Int) + ↑n + 4 <= l.length:=by omega
   have q3:(x:Int) <= x + ↑n:=by omega
   have hcl:=zfc ((l.drop x).take n);have hct:((l.drop x).take n).length <= maxLen:=by rw [length_take]; unfold maxLen; omega
   have HC:=Lib.hid hct;clear hct
   go_enter Tryz.func10,Tryz.ntmps10
   go_wp2_with (first | (go_at_call 31; refine (zb6 l j _ hi hl).mono ?_; rw [HA.out]; simp only [hM,hN,hX]; rintro e w1 ⟨rfl,hb1⟩))
   have hB:=hb1;have q5:(0:Int) <= (crc ((l.drop x).take n):Nat) /\ ((crc ((l.drop x).take n):Nat):Int) <= 4294967295:=by omega
   have Q5:=Lib.hid q5;clear q5 hcl;have z1:IntKind.i64.wrap ((x:Int) + n + 4) = (x:Int) + n + 4:=IntWalk.i64_in _ (by omega);have z2:(0:Int) <= (x:Int) + n + 4:=by omega
   have z3:(0:Int) <= (x:Int) + n:=by omega
   have z4:(x:Int) + n <= (x:Int) + n + 4:=by omega
   have z5:((x:Int) + n + 4).toNat = x + n + 4:=by omega
   have z6:((x:Int) + n).toNat = x + n:=by omega
   go_region_held3 (fun W => Below w.heap.size w W) (first | exact hB | exact hB.drew)
    (first | (go_at_call 15; refine (ze4 _ _ HC.out).mono ?_; rintro e w2 ⟨rfl,rfl⟩) | (go_at_call 28; refine (zde _ _ Q5.out).mono ?_; rintro e w2 ⟨rfl,hb2⟩; replace hB:=zan (by first | exact hB | exact hB.drew) hb2 lR))
   go_wp2
   ·have he:(be 4 (crc ((l.drop x).take n)) == take 4 (drop (x + n) l)) = true:=by assumption
    have hF:=HF.out;rw [if_pos ⟨by trivial,hc2,hc3,by simpa using (by simpa using he:be 4 (crc ((l.drop x).take n)) = _).symm⟩] at hF
    go_ret2
    exact ⟨by rw [hF]; simp [fC,fX],hB⟩
   ·have he:(be 4 (crc ((l.drop x).take n)) == take 4 (drop (x + n) l)) = false:=by assumption
    have hF:=HF.out;rw [if_neg (fun e => by rw [e.2.2.2] at he; simp at he)] at hF
    go_ret2
    exact ⟨by rw [hF]; rfl,hB⟩
  ·have hF:getFr l j = none:=by rw [HF.out,if_neg (fun e => hc ⟨e.1,e.2.1,e.2.2.1⟩)]
   rw [hF];clear hF
   go_enter Tryz.func10,Tryz.ntmps10
   go_wp2_with (go_at_call 31; refine (zb6 l j _ hi hl).mono ?_; rw [HA.out]; simp only [hM,hN,hX]; rintro e w1 ⟨rfl,hb1⟩)
   all_goals
    go_ret2
    exact ⟨rfl,hb1⟩
theorem frame_eq {l:L8} {j n x:Nat} (hj:j < x) (hn:n <= 100000) (hx:x + n + 4 <= l.length) (hh:hd 2 n = (l.drop j).take (x - j)) :
  frame ((l.drop x).take n) = (l.drop j).take (x + n + 4 - j) ↔ (l.drop (x + n)).take 4 = be 4 (crc ((l.drop x).take n)):=by
 have hl:((l.drop x).take n).length = n:=by rw [length_take,length_drop]; omega
 have hs:(l.drop j).take (x + n + 4 - j) = (l.drop j).take (x - j) ++ ((l.drop x).take n ++ (l.drop (x + n)).take 4):=by
  rw [show x + n + 4 - j = (x - j) + (n + 4) by omega,take_add,drop_drop,show j + (x - j) = x by omega,take_add,drop_drop]
 unfold frame;rw [hl,if_pos hn,hs,<- hh,append_assoc,append_cancel_left_eq,append_cancel_left_eq];exact eq_comm
theorem ze8 (l:L8) (i:Int) (w:World) (hi:i64ok i) (hl:l.length <= 9223372036854775000) :
  Calls Tryz.prog 11 #[.string ⟨l.toArray⟩,.int .i64 i] w fun e w' => e = .returned (.tuple #[.string ⟨(fC (getFr l i)).toArray⟩,.int .i64 (fX (getFr l i))]) /\ Below w.heap.size w w':=by
 cases hg:getAt l i with
 | none =>
  have HF:=Lib.hid (zeE hg);rw [HF.out]
  go_enter Tryz.func11,Tryz.ntmps11
  go_wp2_with (go_at_call 32; refine (zb5 l i _ hi hl).mono ?_; rw [hg]; simp only [hM,hN,hX]; rintro e w1 ⟨rfl,hb1⟩)
  go_ret2
  exact ⟨rfl,hb1⟩
 | some r =>
  obtain ⟨m,n,x⟩:=r;obtain ⟨j,rfl,h2,h3,h4,h5,h6⟩:=zeD hg;have HF:=Lib.hid (getFr_of hg);have HA:=Lib.hid hg;clear hg;by_cases hc:m = 2 /\ n <= 100000 /\ x + n + 4 <= l.length
  ·obtain ⟨rfl,hc2,hc3⟩:=hc
   have HE:=Lib.hid (frame_eq h2 hc2 hc3 h6);clear h6;have q0:(0:Int) <= x:=by omega
   have q00:(0:Int) <= j:=by omega
   have q1:(x:Int) + ↑n <= l.length:=by omega
   have q2:(x:Int) + ↑n + 4 <= l.length:=by omega
   have q3:(x:Int) <= x + ↑n:=by omega
   have HT:=Lib.hid (show ((l.drop x).take n).length <= 9223372036854775807 by rw [length_take]; omega)
   go_enter Tryz.func11,Tryz.ntmps11
   go_wp2_with (first | (go_at_call 32; refine (zb5 l j _ hi hl).mono ?_; rw [HA.out]; simp only [hM,hN,hX]; rintro e w1 ⟨rfl,hb1⟩))
   have hB:=hb1;have z1:IntKind.i64.wrap ((x:Int) + n + 4) = (x:Int) + n + 4:=IntWalk.i64_in _ (by omega);have z2:(0:Int) <= (x:Int) + n + 4:=by omega
   have z3:(0:Int) <= (x:Int) + n:=by omega
   have z4:(j:Int) <= (x:Int) + n + 4:=by omega
   have z5:((x:Int) + n + 4).toNat = x + n + 4:=by omega
   have z6:((x:Int) + n).toNat = x + n:=by omega
   go_region_held3 (fun W => Below w.heap.size w W) (first | exact hB | exact hB.drew)
    (first | (go_at_call 19; refine (zcL _ _ HT.out).mono ?_; rintro e w2 ⟨rfl,hb2⟩; replace hB:=zan (by first | exact hB | exact hB.drew) hb2 lR))
   go_wp2
   ·have he:(!frame ((l.drop x).take n) == (l.drop j).take (x + n + 4 - j)) = true:=by assumption
    have hF:=HF.out;rw [if_neg (fun e => by have h:=HE.out.2 e.2.2.2; rw [h] at he; simp at he)] at hF
    go_ret2
    exact ⟨by rw [hF]; rfl,hB⟩
   ·have he:(!frame ((l.drop x).take n) == (l.drop j).take (x + n + 4 - j)) = false:=by assumption
    have hF:=HF.out;rw [if_pos ⟨by trivial,hc2,hc3,HE.out.1 (by simpa using he)⟩] at hF
    go_ret2
    exact ⟨by rw [hF]; simp [fC,fX],hB⟩
  ·have hF:getFr l j = none:=by rw [HF.out,if_neg (fun e => hc ⟨e.1,e.2.1,e.2.2.1⟩)]
   rw [hF];clear hF h6
   go_enter Tryz.func11,Tryz.ntmps11
   go_wp2_with (go_at_call 32; refine (zb5 l j _ hi hl).mono ?_; rw [HA.out]; simp only [hM,hN,hX]; rintro e w1 ⟨rfl,hb1⟩)
   all_goals
    go_ret2
    exact ⟨rfl,hb1⟩
end
section
def m_s_Frames:M:=so [qo 2 (.mv (.c (.slice none 0 0))),qo 3 (.mv (ci 0))] (so [qo 8 (.lit 1 []),qm 4 8] (so [qo 5 (.mv (ci 0))] (.block 0 (.loop (.block 1 (so [qm 10 0,qm 11 5,qc 12 11 [10,11] 1,qm 9 12,qe 13 9 0,qe 14 9 1,qm 6 13,qm 7 14] (.seq (so [qm 15 7,qo 16 (.bin .lss false 15 (ci 0))] (.cond 16 (so [qm 17 4,qm 18 5,qm 2 17,qm 3 18] .ret) .skip)) (so [qm 19 4,qm 20 6,qo 21 (.lit 1 [20]),⟨some 22,.app 1 19 21,none,[.f 1]⟩,qm 4 22] (.ops [qm 23 7,qm 5 23])))))))))
theorem zgw:look Tryz.prog 14 = some (24,m_s_Frames,[.tm 2,.tm 3]):=by kernel_rfl
end
section
variable {T:World -> Prop} {hT:Low ngl T}
attribute [local irreducible] po mw pt
theorem zc3 {C:Cx} {W:World} {l:L8} {y:Value} (h:RpV C W (.d (pS l)) y):y = .string ⟨l.toArray⟩:=by
 cases h with
 | d _ _ h => cases h; rfl
theorem zeF (s:L8) (i:Int) (hi:i64ok i) (hs:s.length <= 2147483647):FnV (env T hT) 11 [.d (pS s),.d (pI i)] (.tup [.d (pS (fC (getFr s i))),.d (pI (fX (getFr s i)))]):=by
 refine FnV.oldT rfl rfl fun w C vs hF _ _ hlen hv => ?_
 match vs,hlen with
 | [x,y],_ =>
  have h1:=zc3 (hv 0 _ _ rfl rfl); have h2:=zcI (hv 1 _ _ rfl rfl)
  subst h1; subst h2
  exact ze8 s i w hi (by omega)
theorem gframe_fn (s:L8) (i:Nat) (hi:i <= 2147483647) (hs:s.length <= 2147483647):FnV (env T hT) 11 [.d (pS s),.d (pI i)] (.tup [.d (pS (fC (getFr s i))),.d (pI (fX (getFr s i)))]):=zeF s i (by unfold i64ok; omega) hs
theorem zea (l:L8) (hl:l.length <= 2147483647):FnV (env T hT) 19 [.d (pS l)] (.d (pS (frame l))):=by
 refine FnV.old rfl fun w C vs hF _ _ hlen hv => ?_
 match vs,hlen with
 | [x],_ =>
  have h1:=zc3 (hv 0 _ _ rfl rfl);subst h1;exact zcL l w (by omega)
theorem pSr_snoc (ns:List (L8)) (n:L8):pSr (ns ++ [n]) = pSr ns ++ [[pS n]]:=by unfold pSr; rw [map_append]; rfl
def FrI (l:L8) (m:Nat) (st:St):Prop:=∃ (a t:Nat) (pre:List (L8 × Nat)),frG l 0 = pre ++ frG l a /\ endX 0 pre = a /\ a <= l.length /\ pre.length <= a /\ m = l.length - a /\ has st.tm [(0,.d (pS l)),(4,.d (.sl t (pSr (pre.map (·.1))))),(5,.d (pI a))] /\ st.bx = [] /\ t ∈ st.live
theorem frames_fn (l:L8) (hl:l.length <= 2147483647):FnV (env T hT) 14 [.d (pS l)] (.tup [.d (.sl 0 (pSr (fcs l))),.d (pI (fend l))]):=by
 refine zaX (zag zgw) (by show 1 <= 24; decide) fun B hB => ?_
 unfold m_s_Frames;refine mP ?_;refine mO ?_;refine zao (es:=[]) rfl ?_;refine mN ?_;refine mP ?_;refine zad ?_;refine zav (FrI l) l.length ⟨0,_,[],rfl,rfl,Nat.zero_le _,lR,rfl,⟨rfl,rfl,rfl,trivial⟩,rfl,mem_cons_self ..⟩ ?_;rintro m tm bx nt live ⟨a,t,pre,hp,he,hal,hpl,rfl,ht,hbx,hlv⟩;obtain ⟨tm0,rfl⟩:=zaf ht;simp only at hbx hlv; subst hbx
 clear ht;have hg:=gframe_fn (T:=T) (hT:=hT) l a (by omega) hl;refine zad (zak (zae ?_));(iterate 2 refine mS ?_)
 cases hr:getFr l a with
 | none =>
  rw [hr] at hg;refine zab rfl hg ?_;refine mN ?_;refine mM ?_;refine mS ?_;refine zal rfl rfl rfl ?_;refine mT ?_;refine mP ?_;refine zah ⟨.inr rfl,[.d (.sl t (pSr (pre.map (·.1)))),.d (pI a)],rfl,?_⟩;have e1:fcs l = pre.map (·.1):=by unfold fcs; rw [hp,zcc hr,append_nil]
  have e2:fend l = a:=by unfold fend; rw [hp,zcc hr,append_nil]; exact he
  rw [e1,e2]
  exact congrArg (fun r => some (PV.tup [.d (.sl 0 r),.d (pI a)])) (pSr_er _)
 | some r =>
  obtain ⟨c,e⟩:=r;rw [hr] at hg;obtain ⟨f1,f2,f3,f4,f5⟩:=zbp hr;refine zab rfl hg ?_;refine mN ?_;refine mM ?_;refine mS ?_;refine zas rfl rfl (decide_eq_false (show ¬ ((e:Nat):Int) < 0 by omega)) ?_;refine mK ?_;refine mO ?_;(iterate 2 refine mS ?_);refine zao (es:=[[pS c]]) rfl ?_;refine zbi (t:=t) (t':=nt) (es:=pSr (pre.map (·.1))) (ds:=[[pS c]]) rfl rfl (.inr (mem_cons_of_mem _ hlv)) (by simp only [length_singleton,zcU,length_map]; omega) (fun e he => by simp only [mem_singleton] at he; subst he; rfl) (pSr_wid _) ?_;refine mN ?_;refine zae ?_;refine mN ?_;refine ⟨_,?_,e,nt + 1,pre ++ [(c,e)],?_,zfT _ _ _ _,f5,by rw [length_append]; simp only [length_singleton]; omega,rfl,⟨rfl,?_,rfl,trivial⟩,rfl,mem_cons_self ..⟩
  ·show l.length - e < l.length - a
   omega
  ·rw [hp,zdt hr,append_assoc]; rfl
  ·rw [map_append,show map (·.1) [(c,e)] = [c] from rfl,pSr_snoc]; rfl
end
section
def m_l_big:M:=so [qo 2 (.mv (cB false))] (so [qm 3 0,qo 4 (.len 3),qo 5 (.bin .gtr false 4 (ci 1048576)),qm 2 5] .ret)
theorem lk_l_big:look Tryz.prog 4 = some (6,m_l_big,[.tm 2]):=by kernel_rfl
end
section
theorem ngl_of {w:World} (h:w.ShapedOpen Tryz.prog):ngl <= w.heap.size:=by
 have hlt:ngl < (begin Tryz.prog (fun _ _ => 0) default).world.heap.size:=of_decide_eq_true (by unfold ngl; kernel_rfl);obtain ⟨o,_,h2,_⟩:=h.2 ngl lR hlt;exact Nat.le_of_lt (zaw h2)
def Stay (T:World -> Prop) (w:World) (W:World):Prop:=T W /\ w.heap.size <= W.heap.size /\ ∀ k,k < w.heap.size -> W.heap[k]? = w.heap[k]?
section
variable {T:World -> Prop} {hT:Low ngl T} {w:World} {hn:ngl <= w.heap.size}
theorem Stay.rd {W:World} (h:Stay T w W) {d:D} {cs:List Value} (hr:Rd w d cs):Rd W d cs:=Rd.of (RepC.frame (S:=(· < w.heap.size)) (fun b hb => h.2.2 b hb) hr)
end
end
section
def dU (x:UInt8):D:=.one (.int .u8 x.toNat)
def dBy (b:L8):D:=.sl 1 (b.map dU)
theorem dBy_wf (b:L8):(dBy b).wf:=by
 simp only [dBy,D.wf];refine ⟨fun e he => by obtain ⟨k,_,rfl⟩:=mem_map.1 he; rfl,?_⟩
 induction b with
 | nil => trivial
 | cons k ks ih => exact ⟨rfl,ih⟩
theorem dBy_pc (b:L8):(dBy b).pc = [.sl 0 (pcB b)]:=by
 simp only [dBy,D.pc,D.pcE_map,map_map,pcB]; rfl
theorem code_rp {w:World} {b:L8} {v:Value} (h:Rd w (dBy b) [v]):RpV (C0 w) w (.d (.sl 0 (pcB b))) v:=rd1 h (dBy_wf b) (dBy_pc b)
theorem trod_code {H:Type} {enc:TypeId × Value -> H} {w:World} {base:Nat} {spare:Nat -> Bool} {held:Bool} (fuel:Nat) (cs:List Value) (y:DataW H × List MemPlace)
  (h:DataW.trod enc Tryz.prog w base spare held fuel 22 cs = some y):∃ (b:L8) (v:Value),cs = [v] /\ Rd w (dBy b) [v] /\ b.length <= maxLen:=by
 obtain ⟨xs,v,h1,h2,_,h4⟩:=trod_sl (f:=dU) (ok:=fun _ => True) Tryz.underlying22 (by kernel_rfl) (by decide) (fun _ => rfl) (fun n cs y _ h => by
  obtain ⟨m,rfl,_,hm⟩:=DataW.trod_int Tryz.underlying5 h
  have hb:0 <= m /\ m <= 255:=by
   simp [Lit.wf,IntKind.min,IntKind.max,IntKind.bits,IntKind.signed] at hm; exact ⟨by omega,by omega⟩
  exact ⟨UInt8.ofNat m.toNat,by simp [Rd,dU,RepC]; omega,trivial⟩) h
 exact ⟨xs,v,h1,h2,h4⟩
end
section
variable {T:World -> Prop} {hT:Low ngl T}
attribute [local irreducible] po mw pt
theorem new_l {b:L8} (hb:b.length <= 2147483647) {bx:LP PC} (nt:Nat) (live:List Nat):FnG (env T hT) 23 [.d (.sl 0 (pcB b))] bx nt live (fun x b' n l => ∃ c,x = .ref bx.length 0 /\ b' = bx ++ [c] /\ Cu b c /\ n = nt /\ l = live):=by
 refine (FnG.liftR (new_g (T:=T) (hT:=hT) hb nt live) ⟨by simp only [PV.lw,PC.lw]; exact pcB_lw 0 b,trivial⟩).mono ?_;rintro x b' n l ⟨x0,b0,rfl,rfl,c,rfl,rfl,hc,rfl,rfl⟩;refine ⟨c,by simp [PV.shB],?_,hc,rfl,rfl⟩;rw [map_cons,map_nil,zf2 hc.lw]
theorem big_fn0 (b:L8):FnV (env T hT) 4 [.d (.sl 0 (pcB b))] (.d (pB (decide ((b.length:Int) > 1048576)))):=by
 refine zaX (zag lk_l_big) (by show 1 <= 6; decide) fun B hB => ?_
 unfold m_l_big;refine mP ?_;refine mQ ?_;refine zaH (n:=b.length) rfl rfl (zaN b) ?_;refine po_q rfl rfl ?_;refine mN ?_;exact mR
section
variable {E:Env} {K:St -> Prop} {tm:Nat -> PV} {bx:LP PC} {nt d:Nat} {live:List Nat} {r:List MOpr} {c:List X}
theorem zcO {f:Nat} {xs:List X} {args:List PV} {R:PV -> (Nat -> Prop) -> Prop} (hd:PV.dats (xs.map (ev tm)) = some args) (hF:Fn E f args R) (h:∀ x lv,R x lv -> ∃ y,x.dat = some y /\ po E r K ⟨up d y tm,bx,nt,live⟩):po E (⟨some d,.call f xs,none,c⟩ :: r) K ⟨tm,bx,nt,live⟩ :=
 by
 unfold po;exact ⟨true,rfl,.inl ⟨rfl,.inl ⟨args,R,hd,hF,.inl fun x lv hx => by obtain ⟨y,h1,h2⟩:=h x lv hx; exact ⟨y,h1,by rw [zbh]; exact h2⟩⟩⟩⟩
end
theorem pcB_er (b:L8):erLL (pcB b) = pcB b:=by
 rw [za0]; unfold pcB; rw [map_map]; rfl
def TxR (m:Nat) (x:PV):Prop:=∃ s:L8,x = .d (pS s) /\ s.length <= m
theorem drawCrc_f {b:L8} (hb:b.length <= 2147483647):Fn (env T hT) 5 [.d (.sl 0 (pcB b))] (fun x _ => TxR 40 x):=by
 refine zaX (zag zeh) (by show 1 <= 10; decide) fun B hB => ?_
 unfold m_s_DrawCrc32;refine mP ?_;refine mQ ?_;refine po_g rfl (new_l (T:=T) (hT:=hT) hb 2 []) ?_;rintro x bx n l ⟨c,rfl,rfl,hc,rfl,rfl⟩;refine mN ?_;refine mO ?_;(iterate 2 refine mS ?_);refine po_g rfl ((zaR (T:=T) (hT:=hT) hb 40).use ⟨trivial,trivial⟩ hc (Nat.le_refl 2) (p:=0) rfl) ?_;rintro x bx n l ⟨c1,rfl,hc1,r,rfl,r0,r1,hN⟩;obtain ⟨k,rfl⟩:∃ k:Nat,r = k:=⟨r.toNat,by omega⟩;refine po_g rfl ((zcF (T:=T) (hT:=hT) hb k (by omega)).use ⟨trivial,trivial⟩ hc1 (hN.n2 (Nat.le_refl 2)) (p:=0) rfl) ?_;rintro x bx n l ⟨c2,rfl,hc2,s,rfl,hs,hN2⟩;refine mN ?_;exact zah ⟨.inr rfl,[.d (pS s)],rfl,s,rfl,by omega⟩
theorem drawPF_f {b:L8} (hb:b.length <= 2147483647):Fn (env T hT) 7 [.d (.sl 0 (pcB b))] (fun x _ => TxR 40 x):=by
 refine zaX (zag zc1) (by show 1 <= 10; decide) fun B hB => ?_
 unfold m_s_DrawPutFrame;refine mP ?_;refine mQ ?_;refine po_g rfl (new_l (T:=T) (hT:=hT) hb 2 []) ?_;rintro x bx n l ⟨c,rfl,rfl,hc,rfl,rfl⟩;refine mN ?_;refine mO ?_;(iterate 2 refine mS ?_);refine po_g rfl ((zaR (T:=T) (hT:=hT) hb 40).use ⟨trivial,trivial⟩ hc (Nat.le_refl 2) (p:=0) rfl) ?_;rintro x bx n l ⟨c1,rfl,hc1,r,rfl,r0,r1,hN⟩;obtain ⟨k,rfl⟩:∃ k:Nat,r = k:=⟨r.toNat,by omega⟩;refine po_g rfl ((zcF (T:=T) (hT:=hT) hb k (by omega)).use ⟨trivial,trivial⟩ hc1 (hN.n2 (Nat.le_refl 2)) (p:=0) rfl) ?_;rintro x bx n l ⟨c2,rfl,hc2,s,rfl,hs,hN2⟩;refine mN ?_;exact zah ⟨.inr rfl,[.d (pS s)],rfl,s,rfl,by omega⟩
theorem drawSum_f {b:L8} (hb:b.length <= 2147483647):Fn (env T hT) 6 [.d (.sl 0 (pcB b))] (fun x _ => ∃ v:V,x.dat = some (.ag (vC v)) /\ Gd 4000 v):=by
 refine zaX (zag zei) (by show 1 <= 6; decide) fun B hB => ?_
 unfold m_s_DrawSumOf;refine mP ?_;refine mQ ?_;refine po_g rfl (new_l (T:=T) (hT:=hT) hb 2 []) ?_;rintro x bx n l ⟨c,rfl,rfl,hc,rfl,rfl⟩;refine po_g rfl ((val5_drw (T:=T) (hT:=hT) hb).use trivial hc (Nat.le_refl 2) (p:=1) rfl) ?_;rintro x bx n l ⟨c1,rfl,hc1,cs,v,rfl,hN,he,hg,_,_⟩;refine zaO (p:=0) (cs:=cs) rfl rfl rfl (zbv he) rfl rfl ?_;refine mN ?_;exact zah ⟨.inr rfl,[.ag cs],zbo rfl rfl (zbv he),v,by rw [<- he]; rfl,hg⟩
theorem zbJ (c:L8) (h:c.length <= 100000):(frame c).length <= c.length + 20:=by
 unfold frame;rw [if_pos h,length_append,length_append,zac]
 have:=zbS 2 c.length
 omega
def chkI (i:Int):Bool:=i == 1 || i == 0 || i == 2 || i == -1 || i == 9223372036854775807
theorem chkI_ok {i:Int} (h:chkI i = true):i64ok i:=by
 unfold chkI at h;simp only [Bool.or_eq_true,beq_iff_eq] at h;unfold i64ok; omega
theorem drawGF_f {b:L8} (hb:b.length <= 2147483647):Fn (env T hT) 9 [.d (.sl 0 (pcB b))] (fun x _ => ∃ (s:L8) (i:Int),x.dat = some (.tup [.d (pS s),.d (pI i)]) /\ s.length <= 1000 /\ i64ok i):=by
 refine zaX (zag zc2) (by show 1 <= 19; decide) fun B hB => ?_
 unfold m_s_DrawGetFrame;refine mP ?_;refine mQ ?_;refine po_g rfl (new_l (T:=T) (hT:=hT) hb 2 []) ?_;rintro x bx n l ⟨c,rfl,rfl,hc,rfl,rfl⟩;refine mN ?_;refine mO ?_;(iterate 3 refine mS ?_);refine po_g rfl ((zaR (T:=T) (hT:=hT) hb 40).use ⟨trivial,trivial⟩ hc (Nat.le_refl 2) (p:=0) rfl) ?_;rintro x bx n l ⟨c1,rfl,hc1,r,rfl,r0,r1,hN⟩;obtain ⟨k,rfl⟩:∃ k:Nat,r = k:=⟨r.toNat,by omega⟩;refine po_g rfl ((zcF (T:=T) (hT:=hT) hb k (by omega)).use ⟨trivial,trivial⟩ hc1 (hN.n2 (Nat.le_refl 2)) (p:=0) rfl) ?_;rintro x bx n2 l2 ⟨c2,rfl,hc2,s,rfl,hs,hN2⟩;have hN:=hN.pass hN2;have hfl:=zbJ s (by omega);refine zab (args:=[.d (pS s)]) rfl (zea (T:=T) (hT:=hT) s (by omega)) ?_;refine po_g rfl ((bent_drw (T:=T) (hT:=hT) hb (frame s) (by omega)).use ⟨trivial,trivial⟩ hc2 (hN.n2 (Nat.le_refl 2)) (p:=0) rfl) ?_;rintro x bx n3 l3 ⟨c3,rfl,hc3,t,rfl,ht,hN3⟩
 have hN:=hN.pass hN3;refine zau (la:=[120]) (lb:=t) rfl rfl rfl (by show 1 + t.length <= _; omega) ?_;refine zau (la:=[120] ++ t) (lb:=[121]) rfl rfl rfl (by simp only [length_append,length_singleton]; omega) ?_;refine mS ?_;refine zao rfl ?_;refine po_g rfl ((zbF (T:=T) (hT:=hT) hb chkI rfl (by show 0 < 7; decide)).use ⟨by simp only [PV.lw,PC.lw]; exact zcp (p:=chkI) rfl,trivial⟩ hc3 (by have:=hN.n2 (Nat.le_refl 2); omega) (p:=0) rfl) ?_;rintro x bx n4 l4 ⟨c4,rfl,hc4,i,rfl,hi,hN4⟩;refine mN ?_;exact zah ⟨.inr rfl,[.d (pS ([120] ++ t ++ [121])),.d (pI i)],rfl,[120] ++ t ++ [121],i,rfl,by simp only [length_append,length_singleton]; omega,chkI_ok hi⟩
def FmI (b:L8) (n:Nat) (m:Nat) (st:St):Prop :=
 ∃ (i:Nat) (c:List PC) (s:L8),i <= n /\ m = n - i /\ Cu b c /\ s.length <= 40 * i /\ has st.tm [(3,.ref 0 0),(4,.d (pS s)),(5,.d (pI n)),(6,.d (pI i))] /\ st.bx = [c] /\ NR 2 [] st.nt st.live []
theorem drawFr_f {b:L8} (hb:b.length <= 2147483647):Fn (env T hT) 12 [.d (.sl 0 (pcB b))] (fun x _ => TxR 1000 x):=by
 refine zaX (zag zd6) (by show 1 <= 26; decide) fun B hB => ?_
 unfold m_s_DrawFrames;refine mP ?_;refine mQ ?_;refine po_g rfl (new_l (T:=T) (hT:=hT) hb 2 []) ?_;rintro x bx n l ⟨c,rfl,rfl,hc,rfl,rfl⟩;refine mN ?_;refine mP ?_;refine mQ ?_;refine po_g rfl ((zaR (T:=T) (hT:=hT) hb 4).use ⟨trivial,trivial⟩ hc (Nat.le_refl 2) (p:=0) rfl) ?_;rintro x bx n1 l1 ⟨c1,rfl,hc1,r,rfl,r0,r1,hN⟩;obtain ⟨k,rfl⟩:∃ k:Nat,r = k:=⟨r.toNat,by omega⟩;have hk3:k <= 3:=by omega
 refine mN ?_;refine zaC (fun st => ∃ (c:List PC) (s:L8),Cu b c /\ s.length <= 120 /\ has st.tm [(3,.ref 0 0),(4,.d (pS s))] /\ st.bx = [c] /\ NR 2 [] st.nt st.live []) ?_ ?_
 ·refine mP ?_
  refine zad ?_;refine zav (FmI b k) k ⟨0,c1,[],Nat.zero_le _,rfl,hc1,Nat.zero_le _,⟨rfl,rfl,rfl,rfl,trivial⟩,rfl,hN⟩ ?_;clear hN hc1 hc;rintro m tm bx n2 l2 ⟨i,c,s,hi,rfl,hc,hs,ht,hbx,hN⟩;obtain ⟨tm1,rfl⟩:=zaf ht;simp only at hbx hN; subst hbx
  clear ht;refine mM ?_;(iterate 2 refine mS ?_);refine po_b rfl rfl (fun p hp => ?_);refine zaa ?_;refine zbt (p:=(i:Int) < k) hp rfl (fun him _ => ?_) (fun him _ => ?_)
  rotate_left
  ·refine zaA ?_
   exact ⟨c,s,hc,by omega,⟨rfl,rfl,trivial⟩,rfl,hN⟩
  refine zaj ?_;refine zak (zad (zae ?_));(iterate 3 refine mS ?_);refine po_g rfl ((zaR (T:=T) (hT:=hT) hb 9).use ⟨trivial,trivial⟩ hc (hN.n2 (Nat.le_refl 2)) (p:=0) rfl) ?_;rintro x bx n3 l3 ⟨c3,rfl,hc3,r,rfl,r0,r1,hN3⟩;obtain ⟨q,rfl⟩:∃ q:Nat,r = q:=⟨r.toNat,by omega⟩;have hN:=hN.pass hN3;refine po_g rfl ((zcF (T:=T) (hT:=hT) hb q (by omega)).use ⟨trivial,trivial⟩ hc3 (hN.n2 (Nat.le_refl 2)) (p:=0) rfl) ?_;rintro x bx n4 l4 ⟨c4,rfl,hc4,t,rfl,ht,hN4⟩;have hN:=hN.pass hN4;have hfl:=zbJ t (by omega);refine zab (args:=[.d (pS t)]) rfl (zea (T:=T) (hT:=hT) t (by omega)) ?_;refine zau (la:=s) (lb:=frame t) rfl rfl rfl (by omega) ?_;refine mN ?_;refine zae ?_;refine mS ?_;refine zat (n:=((i + 1:Nat):Int)) rfl rfl rfl (by omega) (by omega) ?_;refine mN ?_;exact ⟨_,by show k - (i + 1) < k - i; omega,i + 1,c4,s ++ frame t,by omega,rfl,hc4,by rw [length_append]; omega,⟨rfl,rfl,rfl,rfl,trivial⟩,rfl,hN⟩
 rintro tm bx n2 l2 ⟨c,s,hc,hs,ht,hbx,hN⟩;obtain ⟨tm1,rfl⟩:=zaf ht;simp only at hbx hN; subst hbx
 clear ht;refine mO ?_;(iterate 2 refine mS ?_);refine po_g rfl ((bent_drw (T:=T) (hT:=hT) hb s (by omega)).use ⟨trivial,trivial⟩ hc (hN.n2 (Nat.le_refl 2)) (p:=0) rfl) ?_;rintro x bx n3 l3 ⟨c3,rfl,hc3,t,rfl,ht,hN3⟩;refine mN ?_;exact zah ⟨.inr rfl,[.d (pS t)],rfl,t,rfl,by omega⟩
end
section
def m_i_Frames:M:=so [qo 2 (.mv (.c (.slice none 0 0))),qo 3 (.mv (ci 0))] (so [qm 7 0,qc 8 33 [7] 1,qm 6 8,qe 9 6 0,qe 10 6 1,qm 4 9,qm 5 10] (.seq (so [qm 11 5,qo 12 (.len 11),qo 13 (.bin .eql false 12 (ci 0))] (.cond 13 (so [qm 14 4,qm 2 14,qo 3 (.mv (ci 0))] .ret) .skip)) (so [qm 15 4,qm 16 5,qm 17 5,qo 18 (.len 17),qo 19 (.bin .sub false 18 (ci 1)),qo 20 (.ix 1 16 19),ql 21 1 20,qm 2 15,qm 3 21] .ret)))
theorem zgx:look Tryz.prog 13 = some (22,m_i_Frames,[.tm 2,.tm 3]):=by kernel_rfl
def m_i_framesOf:M:=so [qo 2 (.mv (.c (.slice none 0 0))),qo 3 (.mv (.c (.slice none 0 0)))] (so [qo 9 (.lit 1 []),qo 10 (.lit 1 []),qm 4 9,qm 5 10] (so [qo 6 (.mv (ci 0))] (.block 0 (.loop (.block 1 (so [qm 12 0,qm 13 6,qc 14 10 [12,13] 1,qm 11 14,qe 15 11 0,qe 16 11 1,qm 7 15,qm 8 16] (.seq (so [qm 17 8,qo 18 (.bin .lss false 17 (ci 0))] (.cond 18 (so [qm 19 4,qm 20 5,qm 2 19,qm 3 20] .ret) .skip)) (so [qm 21 4,qm 22 7,qo 23 (.lit 1 [22]),⟨some 24,.app 1 21 23,none,[.f 1]⟩,qm 25 5,qm 26 8,qo 27 (.lit 1 [26]),⟨some 28,.app 1 25 27,none,[.f 1]⟩,qm 4 24,qm 5 28] (.ops [qm 29 8,qm 6 29])))))))))
theorem ze9:look Tryz.prog 33 = some (30,m_i_framesOf,[.tm 2,.tm 3]):=by kernel_rfl
end
section
variable {T:World -> Prop} {hT:Low ngl T}
attribute [local irreducible] po mw pt
theorem zct (s:L8) (i:Int) (hi:i64ok i) (hs:s.length <= 2147483647):FnV (env T hT) 10 [.d (pS s),.d (pI i)] (.tup [.d (pS (fC (getFr s i))),.d (pI (fX (getFr s i)))]):=by
 refine FnV.oldT rfl rfl fun w C vs hF _ _ hlen hv => ?_
 match vs,hlen with
 | [x,y],_ =>
  have h1:=zc3 (hv 0 _ _ rfl rfl); have h2:=zcI (hv 1 _ _ rfl rfl)
  subst h1; subst h2
  exact zcN s i w hi (by omega)
theorem gframeI_fn (s:L8) (i:Nat) (hi:i <= 2147483647) (hs:s.length <= 2147483647):FnV (env T hT) 10 [.d (pS s),.d (pI i)] (.tup [.d (pS (fC (getFr s i))),.d (pI (fX (getFr s i)))]):=zct s i (by unfold i64ok; omega) hs
theorem zeG (l:L8) (hl:l.length <= 2147483647):FnV (env T hT) 8 [.d (pS l)] (.d (pS (frame l))):=by
 refine FnV.old rfl fun w C vs hF _ _ hlen hv => ?_
 match vs,hlen with
 | [x],_ =>
  have h1:=zc3 (hv 0 _ _ rfl rfl);subst h1;exact ze5 l w (by omega)
theorem pNr_snoc (ns:List Nat) (n:Nat):pNr (ns ++ [n]) = pNr ns ++ [[pI n]]:=by unfold pNr; rw [map_append]; rfl
def FrJ (l:L8) (m:Nat) (st:St):Prop:=∃ (a t t2:Nat) (pre:List (L8 × Nat)),frG l 0 = pre ++ frG l a /\ a <= l.length /\ pre.length <= a /\ m = l.length - a /\ has st.tm [(0,.d (pS l)),(4,.d (.sl t (pSr (pre.map (·.1))))),(5,.d (.sl t2 (pNr (pre.map (·.2))))),(6,.d (pI a))] /\ st.bx = [] /\ t ∈ st.live /\ t2 ∈ st.live /\ t ≠ t2 /\ t < st.nt /\ t2 < st.nt
theorem zgy (l:L8) (hl:l.length <= 2147483647):FnV (env T hT) 33 [.d (pS l)] (.tup [.d (.sl 0 (pSr (fcs l))),.d (.sl 0 (pNr (fes l)))]):=by
 refine zaX (zag ze9) (by show 1 <= 30; decide) fun B hB => ?_
 unfold m_i_framesOf;refine mP ?_;refine mO ?_;refine zao (es:=[]) rfl ?_;refine zao (es:=[]) rfl ?_;refine mN ?_;refine mP ?_;refine zad ?_;refine zav (FrJ l) l.length ⟨0,2,3,[],rfl,Nat.zero_le _,lR,rfl,⟨rfl,rfl,rfl,rfl,trivial⟩,rfl,mem_cons_of_mem _ (mem_cons_self ..),mem_cons_self ..,by decide,by show 2 < 4; decide,by show 3 < 4; decide⟩ ?_;rintro m tm bx nt live ⟨a,t,t2,pre,hp,hal,hpl,rfl,ht,hbx,hlv,hlv2,hne,hlt,hlt2⟩;obtain ⟨tm0,rfl⟩:=zaf ht;simp only at hbx hlv hlv2 hlt hlt2; subst hbx
 clear ht;have hg:=gframeI_fn (T:=T) (hT:=hT) l a (by omega) hl;refine zad (zak (zae ?_));(iterate 2 refine mS ?_)
 cases hr:getFr l a with
 | none =>
  rw [hr] at hg;refine zab rfl hg ?_;refine mN ?_;refine mM ?_;refine mS ?_;refine zal rfl rfl rfl ?_;refine mT ?_;refine mP ?_;refine zah ⟨.inr rfl,[.d (.sl t (pSr (pre.map (·.1)))),.d (.sl t2 (pNr (pre.map (·.2))))],rfl,?_⟩;have e1:fcs l = pre.map (·.1):=by unfold fcs; rw [hp,zcc hr,append_nil]
  have e2:fes l = pre.map (·.2):=by unfold fes; rw [hp,zcc hr,append_nil]
  rw [e1,e2];have q1:=pSr_er (pre.map (·.1));have q2:=pNr_er (pre.map (·.2));show some (PV.tup [.d (.sl 0 (erLL (pSr (pre.map (·.1))))),.d (.sl 0 (erLL (pNr (pre.map (·.2)))))]) = _
  rw [q1,q2]
 | some r =>
  obtain ⟨c,e⟩:=r;rw [hr] at hg;obtain ⟨f1,f2,f3,f4,f5⟩:=zbp hr;refine zab rfl hg ?_;refine mN ?_;refine mM ?_;refine mS ?_;refine zas rfl rfl (decide_eq_false (show ¬ ((e:Nat):Int) < 0 by omega)) ?_;refine mK ?_;refine mO ?_;(iterate 2 refine mS ?_);refine zao (es:=[[pS c]]) rfl ?_;refine zbi (t:=t) (t':=nt) (es:=pSr (pre.map (·.1))) (ds:=[[pS c]]) rfl rfl (.inr (mem_cons_of_mem _ hlv)) (by simp only [length_singleton,zcU,length_map]; omega) (fun e he => by simp only [mem_singleton] at he; subst he; rfl) (pSr_wid _) ?_;(iterate 2 refine mS ?_);refine zao (es:=[[pI e]]) rfl ?_;refine zbi (t:=t2) (t':=nt + 2) (es:=pNr (pre.map (·.2))) (ds:=[[pI e]]) rfl rfl (.inr (mem_cons_of_mem _ (mem_cons_of_mem _ (mem_filter.2 ⟨mem_cons_of_mem _ hlv2,by simpa using hne.symm⟩)))) (by simp only [length_singleton,zgv,length_map]; omega) (fun e he => by simp only [mem_singleton] at he; subst he; rfl) (pNr_wid _) ?_
  refine mN ?_;refine zae ?_;refine mN ?_;refine ⟨_,?_,e,nt + 1,nt + 3,pre ++ [(c,e)],?_,f5,by rw [length_append]; simp only [length_singleton]; omega,rfl,⟨rfl,?_,?_,rfl,trivial⟩,rfl,?_,mem_cons_self ..,by omega,by show nt + 1 < nt + 4; omega,by show nt + 3 < nt + 4; omega⟩
  ·show l.length - e < l.length - a
   omega
  ·rw [hp,zdt hr,append_assoc]; rfl
  ·rw [map_append,show map (·.1) [(c,e)] = [c] from rfl,pSr_snoc]; rfl
  ·rw [map_append,show map (·.2) [(c,e)] = [e] from rfl,pNr_snoc]; rfl
  ·refine mem_cons_of_mem _ (mem_filter.2 ⟨mem_cons_of_mem _ (mem_cons_self ..),?_⟩)
   have:nt + 1 ≠ t2:=by omega
   simpa using this
theorem fend_es (l:L8):fend l = (fes l).getD ((fes l).length - 1) 0:=by
 unfold fend fes;rw [fes_endX,length_map]
theorem framesI_fn (l:L8) (hl:l.length <= 2147483647):FnV (env T hT) 13 [.d (pS l)] (.tup [.d (.sl 0 (pSr (fcs l))),.d (pI (fend l))]):=by
 have hfl:=fcs_len l;have hel:(fes l).length = (fcs l).length:=by simp [fes,fcs]
 refine zaX (zag zgx) (by show 1 <= 22; decide) fun B hB => ?_
 unfold m_i_Frames;refine mP ?_;refine mQ ?_;refine zab rfl (zgy (T:=T) (hT:=hT) l hl) ?_;refine mN ?_;refine mM ?_;refine mS ?_;refine zaH (n:=(fes l).length) rfl rfl (zgv _) ?_
 have fin:∀ k:Nat,k = fend l -> PV.dat (.tup [.d (.sl 0 (pSr (fcs l))),.d (pI k)]) = some (.tup [.d (.sl 0 (pSr (fcs l))),.d (pI (fend l))]):=fun k hk => by
  subst hk;exact congrArg (fun r => some (PV.tup [.d (.sl 0 r),.d (pI (fend l))])) (pSr_er _)
 by_cases h0:(fes l).length = 0
 ·have e:fend l = 0:=by rw [fend_es,length_eq_zero_iff.1 h0]; rfl
  refine zal rfl rfl (by show (((fes l).length:Int) == 0) = true; rw [beq_iff_eq]; omega) ?_;refine mT ?_;refine mP ?_;exact zah ⟨.inr rfl,[.d (.sl 0 (pSr (fcs l))),.d (pI 0)],rfl,fin 0 e.symm⟩
 have hk:(fes l).length - 1 < (fes l).length:=by omega
 refine zas rfl rfl (by show (((fes l).length:Int) == 0) = false; rw [beq_eq_false_iff_ne]; omega) ?_;refine mK ?_;refine mO ?_;(iterate 3 refine mS ?_);refine zaH (n:=(fes l).length) rfl rfl (zgv _) ?_;refine zbR (n:=(((fes l).length - 1:Nat):Int)) rfl rfl rfl (by omega) (by omega) ?_;refine za3 (es:=pNr (fes l)) (e:=[pI ((fes l)[(fes l).length - 1]:Int)]) rfl rfl rfl ⟨by omega,by rw [Int.toNat_natCast]; exact pNr_get hk⟩ rfl ?_;refine mN ?_;exact zah ⟨.inr rfl,[.d (.sl 0 (pSr (fcs l))),.d (pI ((fes l)[(fes l).length - 1]:Int))],rfl,fin _ (by rw [fend_es,getD_at hk])⟩
end
section
def m_l_sameTexts:M:=so [qo 4 (.mv (cB false))] (.seq (so [qm 6 0,qo 7 (.len 6),qm 8 1,qo 9 (.len 8),qo 10 (.bin .neq false 7 9)] (.cond 10 (so [qo 4 (.mv (cB false))] .ret) .skip)) (.seq (so [qo 5 (.mv (ci 0))] (.block 0 (.loop (.seq (so [qm 11 5,qm 12 0,qo 13 (.len 12),qo 14 (.bin .lss false 11 13)] (.cond 14 .skip (.exit 0))) (.seq (.block 1 (so [qm 17 0,qm 18 5,qo 19 (.ix 1 17 18),ql 20 1 19,qm 21 1,qm 22 5,qo 23 (.ix 1 21 22),ql 24 1 23,qo 25 (.bin .neq false 20 24)] (.cond 25 (so [qo 4 (.mv (cB false))] .ret) .skip))) (.ops [qm 15 5,qo 16 (.bin .add false 15 (ci 1)),qm 5 16])))))) (so [qo 4 (.mv (cB true))] .ret)))
theorem zej:look Tryz.prog 20 = some (26,m_l_sameTexts,[.tm 4]):=by kernel_rfl
end
section
variable {T:World -> Prop} {hT:Low ngl T}
attribute [local irreducible] po mw pt
def SaNI (ns:List (L8)) (m:Nat) (st:St):Prop:=∃ i:Nat,i <= ns.length /\ m = ns.length - i /\ has st.tm [(0,.d (pSs ns)),(1,.d (pSs ns)),(5,.d (pI i))]
theorem sameN_fn (ns:List (L8)) (hl:ns.length <= 4294967295):FnV (env T hT) 20 [.d (pSs ns),.d (pSs ns)] (.d (pB true)):=by
 refine zaX (zag zej) (by show 2 <= 26; decide) fun B hB => ?_
 unfold m_l_sameTexts;refine mP ?_;refine mM ?_;refine mS ?_;refine zaH (n:=ns.length) rfl rfl (zcU ns) ?_;refine mS ?_;refine zaH (n:=ns.length) rfl rfl (zcU ns) ?_;refine zas rfl rfl (by simp) ?_;refine mK ?_;refine zaC (fun s => True) ?_ ?_
 ·refine mP ?_
  refine zad ?_;refine zav (SaNI ns) ns.length ⟨0,Nat.zero_le _,rfl,⟨rfl,rfl,rfl,trivial⟩⟩ ?_;rintro m tm bx nt live ⟨i,hi,rfl,ht⟩;obtain ⟨tm0,rfl⟩:=zaf ht;refine mM ?_;(iterate 2 refine mS ?_);refine zaH (n:=ns.length) rfl rfl (zcU ns) ?_;refine po_b rfl rfl (fun b hb => ?_);refine zaa ?_;refine zbt (p:=(i:Int) < ns.length) hb rfl (fun h _ => ?_) (fun h _ => ?_)
  ·have hil:i < ns.length:=by omega
   refine zaj ?_;refine zak (zad (zak (zae ?_)));(iterate 2 refine mS ?_);refine za3 (es:=pSr ns) (e:=[pS ns[i]]) rfl rfl rfl ⟨by omega,by rw [Int.toNat_natCast]; exact zf1 hil⟩ rfl ?_;(iterate 3 refine mS ?_);refine za3 (es:=pSr ns) (e:=[pS ns[i]]) rfl rfl rfl ⟨by omega,by rw [Int.toNat_natCast]; exact zf1 hil⟩ rfl ?_;refine mS ?_;refine zeq (la:=ns[i]) (lb:=ns[i]) (e:=false) rfl rfl rfl (by simp) ?_;refine mK ?_;refine zae ?_;refine mS ?_;refine zat (n:=((i + 1:Nat):Int)) rfl rfl rfl (by omega) (by omega) ?_;refine mN ?_;exact ⟨ns.length - (i + 1),by omega,i + 1,hil,rfl,⟨rfl,rfl,rfl,trivial⟩⟩
  ·refine zaA ?_
   trivial
 intro tm bx nt live _;refine mP ?_;exact mR
end
section
theorem crcBit_lin (x y:Nat):crcBit (x ^^^ y) = crcBit x ^^^ crcBit y:=by
 unfold crcBit
 have h1:(x ^^^ y) / 2 = x / 2 ^^^ y / 2:=by
  have:=Nat.shiftRight_xor_distrib (i:=1) (a:=x) (b:=y)
  simpa [Nat.shiftRight_eq_div_pow] using this
 have h2:(x ^^^ y) % 2 = (x % 2) ^^^ (y % 2):=by
  have:=Nat.xor_mod_two_pow (a:=x) (b:=y) (n:=1)
  simpa using this
 rw [h1,h2];generalize x / 2 = a;generalize y / 2 = b;have e1:a ^^^ 3988292384 ^^^ b = a ^^^ b ^^^ 3988292384:=by rw [Nat.xor_assoc,Nat.xor_comm 3988292384 b,<- Nat.xor_assoc]
 have e2:a ^^^ 3988292384 ^^^ (b ^^^ 3988292384) = a ^^^ b:=by rw [<- Nat.xor_assoc,e1,Nat.xor_assoc,Nat.xor_self,Nat.xor_zero]
 have e3:a ^^^ (b ^^^ 3988292384) = a ^^^ b ^^^ 3988292384:=by rw [Nat.xor_assoc]
 rcases Nat.mod_two_eq_zero_or_one x with hx | hx <;> rcases Nat.mod_two_eq_zero_or_one y with hy | hy <;> rw [hx,hy] <;> simp [e1,e2,e3]
theorem crcBit_inj {x y:Nat} (hx:x < 4294967296) (hy:y < 4294967296) (h:crcBit x = crcBit y):x = y:=by
 have key:∀ z,z < 4294967296 -> (crcBit z).testBit 31 = decide (z % 2 = 1):=by
  intro z hz;have hz2:(z / 2).testBit 31 = false:=Nat.testBit_lt_two_pow (by omega);unfold crcBit;split
  ·rename_i h1
   rw [Nat.testBit_xor,hz2,h1]; rfl
  ·rename_i h1
   rw [hz2,decide_eq_false h1]
 have h2:x % 2 = y % 2:=by
  have hh:=key x hx;rw [h,key y hy] at hh
  have:=decide_eq_decide.1 hh
  omega
 unfold crcBit at h;rw [h2] at h
 have h3:x / 2 = y / 2:=by
  split at h
  ·have:=congrArg (· ^^^ 3988292384) h
   simpa [Nat.xor_assoc,Nat.xor_self] using this
  ·exact h
 omega
theorem zeb:∀ (k x y:Nat),crcBits k (x ^^^ y) = crcBits k x ^^^ crcBits k y
 | 0,_,_ => rfl
 | k + 1,x,y => by simp only [crcBits]; rw [zeb k,crcBit_lin]
theorem zcu:∀ (k:Nat) {x y:Nat},x < 4294967296 -> y < 4294967296 -> crcBits k x = crcBits k y -> x = y
 | 0,_,_,_,_,h => h
 | k + 1,_x,_y,hx,hy,h => zcu k hx hy (crcBit_inj (zbq hx k) (zbq hy k) h)
theorem zec:∀ (a b x:Nat),crcBits (a + b) x = crcBits a (crcBits b x)
 | 0,b,x => by rw [Nat.zero_add]; rfl
 | a + 1,b,x => by rw [Nat.add_right_comm]; show crcBit (crcBits (a + b) x) = crcBit (crcBits a (crcBits b x)); rw [zec a b x]
theorem zeH:∀ (k z:Nat),crcBits k (z * 2 ^ k) = z
 | 0,z => by simp [crcBits]
 | k + 1,z => by
  have e:z * 2 ^ (k + 1) = z * 2 * 2 ^ k:=by rw [Nat.pow_succ,Nat.mul_assoc,Nat.mul_comm 2]
  simp only [crcBits];rw [e,zeH k (z * 2)];unfold crcBit;rw [if_neg (by omega)]; omega
def leN:L8 -> Nat
 | [] => 0
 | b :: l => b.toNat ^^^ leN l * 256
theorem zfa:∀ (l:L8) (x:Nat),l.foldl crcByte x = crcBits (8 * l.length) (x ^^^ leN l)
 | [],x => by simp [leN,crcBits]
 | b :: l,x => by
  rw [foldl_cons,zfa l]
  have h:crcByte x b ^^^ leN l = crcBits 8 (x ^^^ leN (b :: l)):=by
   have:=zeH 8 (leN l)
   unfold crcByte;show _ = crcBits 8 (x ^^^ (b.toNat ^^^ leN l * 256));rw [<- Nat.xor_assoc,zeb 8 (x ^^^ b.toNat)];rw [show leN l * 256 = leN l * 2 ^ 8 from rfl,this]
  rw [h,<- zec];rfl
theorem zgz (b:UInt8) (l:L8):leN (b :: l) % 256 = b.toNat /\ leN (b :: l) / 256 = leN l:=by
 have hb:=b.toNat_lt
 constructor
 ·have:=Nat.xor_mod_two_pow (a:=b.toNat) (b:=leN l * 256) (n:=8)
  show (b.toNat ^^^ leN l * 256) % 256 = _;rw [show (256:Nat) = 2 ^ 8 from rfl] at this ⊢;rw [this,Nat.mul_mod_left,Nat.xor_zero,Nat.mod_eq_of_lt hb]
 ·have:=Nat.shiftRight_xor_distrib (i:=8) (a:=b.toNat) (b:=leN l * 256)
  simp only [Nat.shiftRight_eq_div_pow] at this;show (b.toNat ^^^ leN l * 256) / 256 = _;rw [show (256:Nat) = 2 ^ 8 from rfl] at this ⊢;rw [this,Nat.div_eq_of_lt hb,Nat.zero_xor,Nat.mul_div_cancel _ (by decide)]
theorem leN_inj:∀ {a b:L8},a.length = b.length -> leN a = leN b -> a = b
 | [],[],_,_ => rfl
 | [],y :: b,h,_ => by simp at h
 | x :: a,[],h,_ => by simp at h
 | x :: a,y :: b,h,e => by
  obtain ⟨p1,p2⟩:=zgz x a;obtain ⟨q1,q2⟩:=zgz y b;rw [e] at p1 p2
  have:x = y:=UInt8.toNat_inj.1 (p1.symm.trans q1)
  rw [this,leN_inj (by simpa using h) (p2.symm.trans q2)]
theorem leN_lt:∀ (l:L8) (k:Nat),l.length <= k -> leN l < 2 ^ (8 * k)
 | [],k,_ => by simp only [leN]; exact Nat.two_pow_pos _
 | b :: l,0,h => by simp at h
 | b :: l,k + 1,h => by
  have h1:=leN_lt l k (by simpa using h);obtain ⟨_,q⟩:=zgz b l;rw [show 8 * (k + 1) = 8 * k + 8 by omega,Nat.pow_add]
  have:leN (b :: l) / 256 < 2 ^ (8 * k):=by rw [q]; exact h1
  generalize 2 ^ (8 * k) = p at *;omega
theorem zfV:∀ (l:L8) {x y:Nat},x < 4294967296 -> y < 4294967296 -> l.foldl crcByte x = l.foldl crcByte y -> x = y
 | [],_,_,_,_,h => h
 | b :: l,x,y,hx,hy,h => by
  have:=zfV l (zcP hx b) (zcP hy b) h
  have hb:=b.toNat_lt;have h2:=zcu 8 (zbk hx (by omega)) (zbk hy (by omega)) this
  have:=congrArg (· ^^^ b.toNat) h2
  simpa [Nat.xor_assoc,Nat.xor_self] using this
theorem zgA {a b:L8} (h:crc a = crc b):crcRaw a = crcRaw b:=by
 have:=congrArg (· ^^^ 4294967295) h
 simpa [crc,Nat.xor_assoc,Nat.xor_self] using this
theorem crc_mid {p a b s:L8} (hl:a.length = b.length) (h4:a.length <= 4) (h:crc (p ++ a ++ s) = crc (p ++ b ++ s)):a = b:=by
 have h1:=zgA h;unfold crcRaw at h1;rw [foldl_append,foldl_append,foldl_append,foldl_append] at h1;have hx:=zdi p 4294967295 (by decide);generalize p.foldl crcByte 4294967295 = q at h1 hx;have h2:=zfV s (zdi a _ hx) (zdi b _ hx) h1;rw [zfa a,zfa b,<- hl] at h2;have ha:leN a < 4294967296:=leN_lt a 4 h4;have hb:leN b < 4294967296:=leN_lt b 4 (by omega);have h3:=zcu _ (zbk hx ha) (zbk hx hb) h2;refine leN_inj hl ?_
 have:=congrArg (q ^^^ ·) h3
 simpa [<- Nat.xor_assoc,Nat.xor_self] using this
end
section
theorem set_split {l:L8} {k:Nat} (x:UInt8) (h:k < l.length):l.set k x = l.take k ++ [x] ++ l.drop (k + 1):=by
 rw [set_eq_take_append_cons_drop,if_pos h,append_assoc]; rfl
theorem self_split {l:L8} {k:Nat} (h:k < l.length):l = l.take k ++ [l[k]] ++ l.drop (k + 1):=by
 rw [append_assoc,singleton_append,List.getElem_cons_drop,take_append_drop]
theorem crc_set {p:L8} {k:Nat} {x:UInt8} (h:k < p.length) (hx:x ≠ p[k]):crc (p.set k x) ≠ crc p:=by
 intro he;rw [set_split x h] at he
 conv at he => rhs; rw [self_split h]
 have:=crc_mid (a:=[x]) (b:=[p[k]]) rfl (by simp) he
 exact hx (by simpa using this)
theorem set_ne {l:L8} {k:Nat} {x:UInt8} (h:k < l.length) (hx:x ≠ l[k]):l.set k x ≠ l:=by
 intro he
 have:(l.set k x)[k]'(by rw [length_set]; exact h) = l[k]:=by simp only [he]
 rw [List.getElem_set_self] at this;exact hx this
theorem flip_none {p:L8} {k:Nat} {x:UInt8} (hp:p.length <= 100000) (hk:k < (frame p).length) (hlo:(frame p).length <= k + p.length + 4) (hx:x ≠ (frame p)[k]):getFr ((frame p).set k x) 0 = none:=by
 have hf:frame p = hd 2 p.length ++ (p ++ be 4 (crc p)):=by unfold frame; rw [if_pos hp,append_assoc]
 have hbl:(be 4 (crc p)).length = 4:=zac _ _;have hlen:(frame p).length = (hd 2 p.length).length + (p.length + 4):=by rw [hf,length_append,length_append,hbl]
 obtain ⟨j,rfl⟩:∃ j,k = (hd 2 p.length).length + j:=⟨k - (hd 2 p.length).length,by omega⟩;have hj:j < (p ++ be 4 (crc p)).length:=by rw [length_append,hbl]; omega
 have hxe:(frame p)[(hd 2 p.length).length + j]'hk = (p ++ be 4 (crc p))[j]:=by
  simp only [hf];rw [getElem_append_right (by omega)]
  congr 1; omega
 have hset:(frame p).set ((hd 2 p.length).length + j) x = hd 2 p.length ++ (p ++ be 4 (crc p)).set j x:=by
  rw [hf,set_append_right _ _ (by omega)]
  congr 2; omega
 rw [hset];rw [hxe] at hx;obtain ⟨q,hq⟩:∃ q,q = (p ++ be 4 (crc p)).set j x:=⟨_,rfl⟩;have hql:q.length = p.length + 4:=by rw [hq,length_set,length_append,hbl]
 rw [<- hq];have hg:=getHd_at (s:=hd 2 p.length ++ q) (m:=2) (n:=p.length) (i:=0) (by omega) (by omega) (Nat.zero_le _) ⟨q,rfl⟩;unfold getFr getAt;rw [if_neg (by omega)];simp only [Int.toNat_zero,hg,Nat.zero_add];rw [drop_left,drop_append,drop_of_length_le (by omega),nil_append,Nat.add_sub_cancel_left,if_neg];rintro ⟨_,_,_,h⟩
 rcases Nat.lt_or_ge j p.length with hjp | hjp
 ·rw [hq,set_append_left _ _ hjp,List.drop_left' (by rw [length_set]),take_left' (by rw [length_set]),take_of_length_le (by omega)] at h
  rw [List.getElem_append_left hjp] at hx;exact crc_set hjp hx (be_inj (zfc _) (zfc _) h).symm
 ·rw [hq,set_append_right _ _ hjp,drop_left,take_left,take_of_length_le (by rw [length_set]; omega)] at h
  rw [getElem_append_right hjp] at hx;exact set_ne (by omega) hx h
theorem frG_all {l:L8} (a:Nat):a <= l.length -> l.take a ++ ((frG l a).map (fun f => frame f.1)).flatten = l.take (endX a (frG l a)):=by
 refine frG_ind (l:=l) (P:=fun a => a <= l.length -> l.take a ++ ((frG l a).map (fun f => frame f.1)).flatten = l.take (endX a (frG l a))) (fun a h _ => ?_) (fun a c e h ih ha => ?_) a
 ·rw [zcc h]; simp [endX]
 ·obtain ⟨h1,h2,h3,h4,h5⟩:=zbp h
  rw [zdt h];simp only [map_cons,flatten_cons,endX];rw [<- ih h5,<- append_assoc]
  congr 1
  have:=h2.take
  rw [h3,take_add,this]
theorem frames_all (l:L8):((frG l 0).map (fun f => frame f.1)).flatten = l.take (endX 0 (frG l 0)):=by
 have:=frG_all (l:=l) 0 (Nat.zero_le _)
 rw [take_zero,nil_append] at this;exact this
end
section
theorem Tabs.low:Low ngl Tabs:=by
 intro w w' h hs hk;have h1:0 < ngl:=of_decide_eq_true (by unfold ngl; kernel_rfl);have h2:1 < ngl:=of_decide_eq_true (by unfold ngl; kernel_rfl);refine ⟨fun c hc => ?_,fun i hi => ?_⟩
 ·rw [World.cell?_of_block (a:=⟨_,_,none⟩) (hk _ h1)]; exact h.1 c hc
 ·rw [World.cell?_of_block (a:=⟨_,_,none⟩) (hk _ h2),World.cell?_of_block (a:=⟨_,_,none⟩) (hk _ h2)]; exact h.2 i hi
end
section
attribute [local irreducible] po mw pt
def FmR (s:St):Prop:=s.tm 2 = .d (pB true)
def FmK (b:L8) (s:St):Prop:=∃ p:L8,p.length <= 40 /\ b.length <= 2147483647 /\ has s.tm [(0,.d (.sl 0 (pcB b))),(5,.d (pS p)),(6,.d (pS (frame p)))]
theorem sumV_st (v:V):sumV (stV v) = sumV v:=by
 unfold stV
 cases hk:v.ok with
 | false => rw [if_neg (by decide)]
 | true =>
  rw [if_pos rfl];unfold sumV;rw [hk,(V.sort_okT hk).1,V.sort_sort _ v lR]
def allF (l:List (L8)) (i:Nat):L8:=((l.take i).map frame).flatten
theorem zfW {l:List (L8)} {i:Nat} (h:i < l.length):allF l (i + 1) = allF l i ++ frame l[i]:=by
 unfold allF;rw [take_succ_eq_append_getElem h,map_append,flatten_append]; simp
theorem allF_len {l:List (L8)} (h:∀ c ∈ l,c.length <= 100000) (i:Nat):(allF l i).length <= i * 100020:=by
 induction i with
 | zero => unfold allF; rw [take_zero]; exact Nat.zero_le _
 | succ i ih =>
  rcases Nat.lt_or_ge i l.length with hi | hi
  ·rw [zfW hi,length_append]
   have:=zbJ l[i] (h _ (getElem_mem hi)); have:=h _ (getElem_mem hi)
   omega
  ·unfold allF at ih ⊢
   rw [take_of_length_le (by omega)] at ih ⊢;exact Nat.le_trans ih (Nat.mul_le_mul_right _ (Nat.le_succ i))
theorem frame_get {p:L8} (h:p.length <= 100000):getFr (frame p) 0 = some (p,(frame p).length):=by
 have:=getFr_at (l:=frame p) (i:=0) h (Nat.zero_le _) ⟨[],by rw [drop_zero,append_nil]⟩
 rw [Nat.zero_add] at this;exact this
def FmJ (b p f:L8) (l:List (L8)) (m:Nat) (s:St):Prop:=∃ i:Nat,i <= l.length /\ m = l.length - i /\ has s.tm [(0,.d (.sl 0 (pcB b))),(5,.d (pS p)),(6,.d (pS (frame p))),(13,.d (pS f)),(14,.d (.sl 0 (pSr l))),(15,.d (pI (fend f))),(18,.d (pS (allF l i))),(19,.d (pI i))]
theorem dats_NN (l:List (L8)):PV.dats [.d (.sl 0 (pSr l)),.d (.sl 0 (pSr l))] = some [.d (pSs l),.d (pSs l)]:=by
 show some [PV.d (.sl 0 (erLL (pSr l))),PV.d (.sl 0 (erLL (pSr l)))] = _;rw [pSr_er]; rfl
theorem front_fm (b:L8) (_hl:b.length <= maxLen) {B:Base}:lw (env Tabs Tabs.low) B FmR (FmK b) m_fmF (initS [.d (.sl 0 (pcB b))]):=by
 have hca:PV.dats [PV.d (.sl 0 (pcB b))] = some [.d (.sl 0 (pcB b))]:=by
  show some [PV.d (.sl 0 (erLL (pcB b)))] = _;rw [pcB_er]
 have hTab:∀ w,Tabs w -> Tabs w:=fun _ h => h
 unfold m_fmF;refine zaZ (zae ?_);refine mN ?_;refine zaZ (zak (zae ?_));refine mS ?_;refine zab hca (big_fn0 b) ?_;refine zaa ?_;refine zep (p:=(b.length:Int) > 1048576) rfl (fun h => ?_) (fun h => ?_)
 ·refine mP ?_
  exact zah rfl
 have hb:b.length <= 2147483647:=by omega
 refine zaj ?_;refine zaZ (zae ?_);refine mS ?_;refine zcO hca (drawCrc_f (T:=Tabs) (hT:=Tabs.low) hb) ?_;rintro x lv ⟨c,rfl,hc⟩;refine ⟨_,rfl,?_⟩;refine mN ?_;refine zaZ (zae ?_);refine mS ?_;refine zcO hca (drawSum_f (T:=Tabs) (hT:=Tabs.low) hb) ?_;rintro x lv ⟨v,hx,hg⟩;refine ⟨_,hx,?_⟩;have hg:Gd 1048576 v:=hg.mono (by decide);refine zed (cs:=vC v) rfl rfl rfl rfl ?_;refine mN ?_;refine zaZ (zae ?_);refine mS ?_;refine zcO hca (drawPF_f (T:=Tabs) (hT:=Tabs.low) hb) ?_;rintro x lv ⟨p,rfl,hp⟩;refine ⟨_,rfl,?_⟩;refine mN ?_;refine zaZ (zae ?_);refine mS ?_;refine zab (args:=[.d (pS p)]) rfl (zeG (T:=Tabs) (hT:=Tabs.low) p (by omega)) ?_;refine mN ?_;refine zaZ (zae ?_);refine mS ?_;refine zcO hca (drawGF_f (T:=Tabs) (hT:=Tabs.low) hb) ?_;rintro x lv ⟨u,gi,hx,hu,hgi⟩;refine ⟨_,hx,?_⟩;refine po_s (v:=.tup [.d (pS u),.d (pI gi)]) rfl rfl rfl ?_
 refine po_s (v:=.d (pS u)) rfl rfl rfl ?_;refine po_s (v:=.d (pI gi)) rfl rfl rfl ?_;refine mN ?_;generalize hfr:getFr u gi = fr;refine zaZ (zae ?_);(iterate 2 refine mS ?_);refine zab (args:=[.d (pS u),.d (pI gi)]) rfl (hfr ▸ zct (T:=Tabs) (hT:=Tabs.low) u gi hgi (by omega)) ?_;refine mN ?_;refine zaZ (zae ?_);(iterate 2 refine mS ?_);refine zab (args:=[.d (pS u),.d (pI gi)]) rfl (hfr ▸ zeF (T:=Tabs) (hT:=Tabs.low) u gi hgi (by omega)) ?_;refine mN ?_;refine zaZ (zae ?_);refine mS ?_;refine zcO hca (drawFr_f (T:=Tabs) (hT:=Tabs.low) hb) ?_;rintro x lv ⟨f,rfl,hf⟩;refine ⟨_,rfl,?_⟩;refine mN ?_;obtain ⟨g1,g2,g3⟩:=frG_le (l:=f) 0
 have hcl:∀ q ∈ fcs f,q.length <= 100000:=fun q hq => by
  unfold fcs at hq;obtain ⟨z,hz,rfl⟩:=mem_map.1 hq;exact (g1 z hz).2.2
 have hfl:=fcs_len f;refine zaZ (zae ?_);refine mS ?_;refine zab (args:=[.d (pS f)]) rfl (framesI_fn (T:=Tabs) (hT:=Tabs.low) f (by omega)) ?_;refine mN ?_;refine zaZ (zae ?_);refine mS ?_;refine zab (args:=[.d (pS f)]) rfl (frames_fn (T:=Tabs) (hT:=Tabs.low) f (by omega)) ?_;refine mN ?_;refine zaZ (zak (zae ?_));(iterate 2 refine mS ?_);refine zab (args:=[.d (pS c)]) rfl (crcI_fn (T:=Tabs) (hT:=Tabs.low) c (by unfold maxLen; omega)) ?_;refine zab (args:=[.d (pS c)]) rfl (crcS_fn (T:=Tabs) (hT:=Tabs.low) c (by unfold maxLen; omega)) ?_;refine zas rfl rfl (bne_self_eq_false _) ?_;refine mS ?_;refine zaW (p:=0) (cs:=vC v) rfl rfl rfl rfl ?_;refine zaW (p:=0) (cs:=vC v) rfl rfl rfl rfl ?_;refine za5 (b:=true) rfl (fun _ => za1 v) (fun _ => zgt (T:=Tabs) (hT:=Tabs.low) hTab v hg.wf hg.bulk hg.few) ?_;refine za5 (b:=true) rfl (fun _ => za1 v) (fun _ => sumS_fn (T:=Tabs) (hT:=Tabs.low) v hg.wf hg.bulk hg.few) ?_
 refine zas rfl rfl (bne_self_eq_false _) ?_;(iterate 4 refine mS ?_);refine za5 (b:=true) (args:=[.d (pS p)]) rfl (fun _ => rfl) (fun _ => zea (T:=Tabs) (hT:=Tabs.low) p (by omega)) ?_;refine zeq (la:=frame p) (lb:=frame p) (e:=false) rfl rfl rfl (by simp) ?_;(iterate 4 refine mS ?_);refine zeq (la:=fC fr) (lb:=fC fr) (e:=false) rfl rfl rfl (by simp) ?_;(iterate 4 refine mS ?_);refine zas rfl rfl (bne_self_eq_false _) ?_;(iterate 4 refine mS ?_);refine za5 (b:=true) (args:=[.d (pSs (fcs f)),.d (pSs (fcs f))]) rfl (fun _ => dats_NN _) (fun _ => sameN_fn (T:=Tabs) (hT:=Tabs.low) (fcs f) (by omega)) ?_;(iterate 5 refine mS ?_);refine zas rfl rfl (bne_self_eq_false _) ?_;(iterate 2 refine mS ?_);refine zaW (p:=0) (cs:=vC v) rfl rfl rfl rfl ?_;refine zaW (p:=0) (cs:=vC v) rfl rfl rfl rfl ?_;refine za5 (b:=true) rfl (fun _ => za1 v) (fun _ => zgt (T:=Tabs) (hT:=Tabs.low) hTab v hg.wf hg.bulk hg.few) ?_
 refine za5 (b:=true) rfl (fun _ => za1 v) (fun _ => SortedI_fn (T:=Tabs) (hT:=Tabs.low) hTab v hg.wf hg.bulk hg.few) ?_;obtain ⟨s1,s2,s3⟩:=stV_ok hg;refine za5 (b:=true) rfl (fun _ => za1 (stV v)) (fun _ => (sumV_st v) ▸ zgt (T:=Tabs) (hT:=Tabs.low) hTab (stV v) s1 s2 s3) ?_;refine zas rfl rfl (bne_self_eq_false _) ?_;refine mK ?_;refine zaZ (zae ?_);refine mN ?_;refine zaZ (zak (zae ?_));refine mN ?_;refine zad ?_;refine zav (FmJ b p f (fcs f)) (fcs f).length ⟨0,Nat.zero_le _,rfl,rfl,rfl,rfl,rfl,rfl,rfl,rfl,rfl,trivial⟩ ?_
 ·rintro m tm bx nt live ⟨i,hi,rfl,ht⟩
  obtain ⟨tm1,rfl⟩:=zaf ht;clear ht;refine mM ?_;(iterate 2 refine mS ?_);refine zaH (n:=(fcs f).length) rfl rfl (zcU _) ?_;refine po_b rfl rfl (fun y hy => ?_);refine zaa ?_;refine zbt (p:=(i:Int) < (fcs f).length) hy rfl (fun him _ => ?_) (fun him _ => ?_)
  rotate_left
  ·refine zaA ?_
   obtain rfl:i = (fcs f).length:=by omega
   have hall:allF (fcs f) (fcs f).length = f.take (fend f):=by
    unfold allF fcs fend;rw [take_length,map_map];exact frames_all f
   have hfe:fend f <= f.length:=g2 (Nat.zero_le _);have hpl:=zbJ p (by omega);refine zaZ (zak (zae ?_));(iterate 3 refine mS ?_);refine zcV (l:=f) (a:=0) (b:=fend f) (rs:=f.take (fend f)) rfl rfl rfl (za9 (i:=(fend f:Int)) rfl rfl) ⟨Nat.zero_le _,hfe⟩ (by simp) ?_;refine zeq (la:=allF (fcs f) (fcs f).length) (lb:=f.take (fend f)) (e:=false) rfl rfl rfl (by rw [hall]; simp) ?_;refine mK ?_;refine zaZ (zae ?_);refine mS ?_
   have hgf:FnV (env Tabs Tabs.low) 10 [.d (pS (frame p)),.d (pI 0)] (.tup [.d (pS p),.d (pI (frame p).length)]):=by
    have h:=zct (T:=Tabs) (hT:=Tabs.low) (frame p) 0 (by unfold i64ok; omega) (by omega);rw [frame_get (by omega)] at h;exact h
   refine zab (args:=[.d (pS (frame p)),.d (pI 0)]) rfl hgf ?_;refine mN ?_;refine zaZ (zak (zae ?_));(iterate 2 refine mS ?_);refine zeq (la:=p) (lb:=p) (e:=false) rfl rfl rfl (by simp) ?_;(iterate 3 refine mS ?_);refine po_s (v:=.d (pI (frame p).length)) rfl rfl rfl ?_;refine zas rfl rfl (bne_self_eq_false _) ?_;refine mK ?_;refine lw_nil (E:=env Tabs Tabs.low) (B:=B) (R:=FmR) (K:=FmK b) ?_;exact ⟨p,hp,hb,rfl,rfl,rfl,trivial⟩
  have hil:i < (fcs f).length:=by omega
  have hal:=allF_len hcl i;have hcl1:=hcl _ (getElem_mem hil);have hfl1:=zbJ (fcs f)[i] hcl1;refine zaj ?_;refine zak (zad (zae ?_));(iterate 3 refine mS ?_);refine za3 (es:=pSr (fcs f)) (e:=[pS (fcs f)[i]]) rfl rfl rfl ⟨by omega,by rw [Int.toNat_natCast]; exact zf1 hil⟩ rfl ?_;refine mS ?_;refine zab (args:=[.d (pS (fcs f)[i])]) rfl (zeG (T:=Tabs) (hT:=Tabs.low) (fcs f)[i] (by omega)) ?_;refine zau (la:=allF (fcs f) i) (lb:=frame (fcs f)[i]) rfl rfl rfl (by omega) ?_;refine mN ?_;refine zae ?_;refine mS ?_;refine zat (n:=((i + 1:Nat):Int)) rfl rfl rfl (by omega) (by omega) ?_;refine mN ?_;refine ⟨(fcs f).length - (i + 1),by omega,i + 1,hil,rfl,rfl,rfl,rfl,rfl,rfl,rfl,?_,rfl,trivial⟩;rw [zfW hil]; rfl
end
section
def atV (b:L8) (i:Nat):Nat:=match b[i]? with | some x => x.toNat | none => (i * 7 + b.length) % 256
theorem atV_le (b:L8) (i:Nat):atV b i <= 255:=by
 unfold atV;split
 ·rename_i x _; have:=x.toNat_lt; omega
 ·omega
theorem at_w (b:L8) (a:Option Addr) (c:Nat) (i:Nat) (hi:i <= 100) (hb:b.length <= 2147483647) (w:World) (hc:∀ (j:Nat) (x:UInt8),b[j]? = some x -> ∃ p,a = some p /\ w.cell? (p.add j) = some (.int .u8 x.toNat)) :
  Calls Tryz.prog 22 #[.slice a b.length c,.int .i64 i] w fun e w' => e = .returned (.int .i64 (atV b i)) /\ w' = w:=by
 by_cases h:i < b.length
 ·obtain ⟨p,rfl,hp⟩:=hc i b[i] (getElem?_eq_getElem h)
  have hx:=b[i].toNat_lt;have hv:atV b i = b[i].toNat:=by unfold atV; rw [getElem?_eq_getElem h]
  have HV:=Lib.hid hv;clear hv
  go_enter Tryz.func22,Tryz.ntmps22
  go_wp2;go_ret;exact ⟨by rw [HV.out]; rfl,rfl⟩
 ·have hv:atV b i = (i * 7 + b.length) % 256:=by unfold atV; rw [getElem?_eq_none (by omega)]
  have HV:=Lib.hid hv;clear hv
  go_enter Tryz.func22,Tryz.ntmps22
  go_wp2;go_ret;exact ⟨by rw [HV.out]; simp,rfl⟩
theorem xor_u8 (x:UInt8) (n:Nat):bits .xor .u8 (x.toNat:Int) (1 + (n:Int) % 255) = ((x ^^^ UInt8.ofNat (1 + n % 255)).toNat:Int):=by
 show IntKind.u8.wrap (((BitVec.ofInt 8 (x.toNat:Int) ^^^ BitVec.ofInt 8 (1 + (n:Int) % 255)).toNat:Nat):Int) = _;have e1:(1 + (n:Int) % 255) = ((1 + n % 255:Nat):Int):=by omega
 have hx:=x.toNat_lt;have e2:(BitVec.ofInt 8 (x.toNat:Int)).toNat = x.toNat:=by rw [BitVec.toNat_ofInt]; omega
 have e3:(BitVec.ofInt 8 ((1 + n % 255:Nat):Int)).toNat = (UInt8.ofNat (1 + n % 255)).toNat:=by
  rw [BitVec.toNat_ofInt,UInt8.toNat_ofNat']; omega
 have e4:(BitVec.ofInt 8 (x.toNat:Int) ^^^ BitVec.ofInt 8 ((1 + n % 255:Nat):Int)).toNat = (x ^^^ UInt8.ofNat (1 + n % 255)).toNat:=by
  rw [BitVec.toNat_xor,e2,e3,UInt8.toNat_xor]
 rw [e1,e4]
 have:=(x ^^^ UInt8.ofNat (1 + n % 255)).toNat_lt
 exact IntWalk.u8_in _ (by omega)
theorem xor_other (x:UInt8) (n:Nat):x ^^^ UInt8.ofNat (1 + n % 255) ≠ x:=by
 intro h;have h1:x ^^^ (x ^^^ UInt8.ofNat (1 + n % 255)) = x ^^^ x:=by rw [h]
 rw [<- UInt8.xor_assoc,UInt8.xor_self,UInt8.zero_xor] at h1;have h2:=congrArg UInt8.toNat h1;rw [UInt8.toNat_ofNat'] at h2
 have:(0:UInt8).toNat = 0:=rfl
 omega
theorem strNums (l:L8):strOfNums (l.map fun z => (z.toNat:Int)) = ⟨l.toArray⟩:=by
 unfold strOfNums;rw [map_map]
 have:((fun n:Int => UInt8.ofNat n.toNat) ∘ fun z:UInt8 => (z.toNat:Int)) = id:=by
  funext z
  simp
 rw [this,map_id]
theorem act_lit {a:Act} (hs:a.tmps.size = 177) (hd:a.defers = []):a = ⟨([0,1,2,3,4,5,6,7,8,9,10,11,12,13,14,15,16,17,18,19,20,21,22,23,24,25,26,27,28,29,30,31,32,33,34,35,36,37,38,39,40,41,42,43,44,45,46,47,48,49,50,51,52,53,54,55,56,57,58,59,60,61,62,63,64,65,66,67,68,69,70,71,72,73,74,75,76,77,78,79,80,81,82,83,84,85,86,87,88,89,90,91,92,93,94,95,96,97,98,99,100,101,102,103,104,105,106,107,108,109,110,111,112,113,114,115,116,117,118,119,120,121,122,123,124,125,126,127,128,129,130,131,132,133,134,135,136,137,138,139,140,141,142,143,144,145,146,147,148,149,150,151,152,153,154,155,156,157,158,159,160,161,162,163,164,165,166,167,168,169,170,171,172,173,174,175,176].map fun t => a.tmps.getD t undef).toArray,[]⟩:=by
 obtain ⟨tm,df⟩:=a;simp only at hs hd;subst hd;have e:([0,1,2,3,4,5,6,7,8,9,10,11,12,13,14,15,16,17,18,19,20,21,22,23,24,25,26,27,28,29,30,31,32,33,34,35,36,37,38,39,40,41,42,43,44,45,46,47,48,49,50,51,52,53,54,55,56,57,58,59,60,61,62,63,64,65,66,67,68,69,70,71,72,73,74,75,76,77,78,79,80,81,82,83,84,85,86,87,88,89,90,91,92,93,94,95,96,97,98,99,100,101,102,103,104,105,106,107,108,109,110,111,112,113,114,115,116,117,118,119,120,121,122,123,124,125,126,127,128,129,130,131,132,133,134,135,136,137,138,139,140,141,142,143,144,145,146,147,148,149,150,151,152,153,154,155,156,157,158,159,160,161,162,163,164,165,166,167,168,169,170,171,172,173,174,175,176]:List Nat) = range 177:=rfl;rw [e]
 congr 1
 apply Array.ext
 ·simp [hs]
 ·intro i h1 h2
  simp [Array.getD,h1]
theorem tail_wp {a:Act} (hs:a.tmps.size = 177) (hd:a.defers = []) (b p:L8) (q:Option Addr) (c:Nat) (w0 w:World) (hw0:Below w0.heap.size w0 w) (hp:p.length <= 40) (hb:b.length <= 2147483647)
  (hc:∀ (j:Nat) (x:UInt8),b[j]? = some x -> ∃ r,q = some r /\ (r.add j).block < w.heap.size /\ w.cell? (r.add j) = some (.int .u8 x.toNat))
  (h0:a.tmps.getD 0 undef = .slice q b.length c) (h5:a.tmps.getD 5 undef = .string ⟨p.toArray⟩) (h6:a.tmps.getD 6 undef = .string ⟨(frame p).toArray⟩) :
  (cutL 18 bodyFm).2.wp Tryz.prog (bodyPost Tryz.prog Tryz.f3 (fun e w' => e = .returned (.bool true) /\ Below w0.heap.size w0 w')) a w:=by
 have hw0:=Lib.hid hw0;rw [act_lit hs hd];generalize hu:(fun t => a.tmps.getD t undef) = u;have k0:u 0 = .slice q b.length c:=by rw [<- hu]; exact h0
 have k5:u 5 = .string ⟨p.toArray⟩:=by rw [<- hu]; exact h5
 have k6:u 6 = .string ⟨(frame p).toArray⟩:=by rw [<- hu]; exact h6
 clear hu h0 h5 h6 hs hd a;simp only [map_cons,map_nil,k0,k5,k6];clear k0 k5 k6;show Code.wp _ (Code.seq _ (Code.seq _ (Code.seq _ (Code.seq _ (Code.seq _ _))))) _ _ _
 go_wp2_with fail
 rw [Lib.run_convert_string_bytes w 9 22 5 ⟨(frame p).toArray⟩ Tryz.underlying9 Tryz.underlying22 Tryz.underlying5];have HS:w.heap.size < (Lib.bytesWorld w 5 ⟨(frame p).toArray⟩).heap.size:=by rw [Lib.bytesWorld_size]; omega
 have HB:∀ (j:Nat) (x:UInt8),(frame p)[j]? = some x -> (Lib.bytesWorld w 5 ⟨(frame p).toArray⟩).cell? ⟨w.heap.size,j,none⟩ = some (.int .u8 x.toNat):=by
  intro j x hj;have hlt:j < (frame p).length:=(List.getElem?_eq_some_iff.1 hj).1;rw [Lib.bytesWorld_cell _ _ _ j (by show j < (frame p).toArray.size; simpa using hlt)];simp [getD,hj]
 have HC:∀ (j:Nat) (x:UInt8),b[j]? = some x -> ∃ r,q = some r /\ (Lib.bytesWorld w 5 ⟨(frame p).toArray⟩).cell? (r.add j) = some (.int .u8 x.toNat):=by
  intro j x hj;obtain ⟨r,h1,h2,h3⟩:=hc j x hj;exact ⟨r,h1,(Lib.bytesWorld_old w _ _ (r.add j) h2).trans h3⟩
 have HN:∃ cs,(Lib.bytesWorld w 5 ⟨(frame p).toArray⟩).heap[w.heap.size]? = some (.cells cs 5 (cs.size,cs.size + 1)) /\ (frame p).length <= cs.size:=⟨_,Lib.bytesWorld_at_new _ _ _,by simp [Lib.bytesCells]⟩
 have HF:∀ k,k < (frame p).length -> (Lib.bytesWorld w 5 ⟨(frame p).toArray⟩).frozen? ⟨w.heap.size,k,none⟩ = false:=by
  obtain ⟨cs,h1,h2⟩:=HN;intro k hk;unfold World.frozen?;simp only [h1]
  have:¬ cs.size <= k:=by omega
  simp [this]
 clear HN;have HW:Below w.heap.size w (Lib.bytesWorld w 5 ⟨(frame p).toArray⟩):=⟨rfl,rfl,rfl,by rw [Lib.bytesWorld_size]; omega,fun k hk => Lib.bytesWorld_at_old w _ _ k hk⟩;have HW:=Lib.hid HW;generalize Lib.bytesWorld w 5 ⟨(frame p).toArray⟩ = W at HS HB HC HF HW;generalize grownCap w _ 0 5 = cap;have hfl:=zbJ p (by omega)
 have hf2:p.length + 5 <= (frame p).length:=by
  unfold frame;rw [if_pos (by omega),length_append,length_append,zac]
  have:=(zbS 2 p.length).2
  omega
 go_wp2_with fail
 refine (at_w b q c 2 (by decide) hb W HC).mono ?_;rintro e w' ⟨rfl,rfl⟩;have hn1:=atV_le b 2;generalize atV b 2 = n1 at hn1
 go_wp2_with fail
 obtain ⟨m1,hm1⟩:∃ m1,m1 = n1 % (p.length + 4):=⟨_,rfl⟩;have hm2:m1 < p.length + 4:=by rw [hm1]; exact Nat.mod_lt _ (by omega)
 have hm3:(n1:Int) % ((p.length:Int) + 4) = m1:=by
  have e:((p.length:Int) + 4) = ((p.length + 4:Nat):Int):=by omega
  rw [hm1,e]
  first | exact (Int.natCast_emod n1 (p.length + 4)).symm | exact (Int.natCast_mod n1 (p.length + 4)).symm | simp
 obtain ⟨k,hk⟩:∃ k:Nat,k = (frame p).length - 1 - m1:=⟨_,rfl⟩;have hk1:k < (frame p).length:=by omega
 have hk2:wrap64 (((frame p).length:Int) - 1 - (n1:Int) % ((p.length:Int) + 4)) = (k:Int):=by
  rw [hm3,show ((frame p).length:Int) - 1 - m1 = (k:Int) by omega];exact IntWalk.wrap64_in _ (by omega)
 have hk3:=HB k _ (getElem?_eq_getElem hk1);have hxk:=((frame p)[k]).toNat_lt;rw [hk2];have hlo:(frame p).length <= k + p.length + 4:=by omega
 clear hk2 hm3 hm1 hk hm2 m1;have hf3:=HF k hk1;have hn3:=atV_le b 3;have HA:=at_w b q c 3 (by decide) hb w'.drew HC;generalize atV b 3 = n3 at hn3 HA
 go_still_tail 13,(by kernel_rfl)
 still_call HA
 repeat still_step
 refine wpStill_nil ?_
 change wpList _ _ _ _ _ w'.drew
 go_wp2_with fail
 rw [xor_u8];have hne:=xor_other (frame p)[k] n3;generalize (frame p)[k] ^^^ UInt8.ofNat (1 + n3 % 255) = y at hne
 have hcell:∀ i,i < (frame p).length -> (w'.setCell ⟨w.heap.size,k,none⟩ (.int .u8 y.toNat)).drew.cell? ⟨w.heap.size,0 + i,none⟩ = some (.int .u8 ((((frame p).set k y).map fun z => (z.toNat:Int)).getD i 0)):=by
  intro i hi;show (w'.setCell ⟨w.heap.size,k,none⟩ (.int .u8 y.toNat)).cell? ⟨w.heap.size,0 + i,none⟩ = _;rw [Nat.zero_add,getD_eq_getElem?_getD,getElem?_map];by_cases hik:i = k
  ·subst hik
   rw [World.cell?_setCell_same (h:=hk3) ..,getElem?_set_self hi]; rfl
  ·have hno:(⟨w.heap.size,k,none⟩:Addr) ≠ ⟨w.heap.size,i,none⟩:=by intro h; cases h; exact hik rfl
   rw [World.cell?_setCell_other (h:=hno) ..,HB i _ (getElem?_eq_getElem hi),getElem?_set_ne (fun h => hik h.symm),getElem?_eq_getElem hi]; rfl
 rw [run_convert_bytes_arg _ 22 5 Tryz.underlying22 Tryz.underlying5 w.heap.size 0 (frame p).length cap (((frame p).set k y).map fun z => (z.toNat:Int)) (by simp) hcell 9 Tryz.underlying9,strNums];clear hcell;have HL:=Lib.hid (flip_none (p:=p) (k:=k) (x:=y) (by omega) hk1 (by omega) hne)
 go_wp2_with fail
 have HG:=zcN ((frame p).set k y) 0 (w'.setCell ⟨w.heap.size,k,none⟩ (.int .u8 y.toNat)).drew (by unfold i64ok; omega) (by rw [length_set]; omega);rw [HL.out] at HG;refine HG.mono ?_;rintro e w4 ⟨rfl,hb4⟩;simp only [fC,fX]
 go_wp2_with fail
 go_ret;refine ⟨rfl,hw0.out.trans (Below.mono ((HW.out.setCell lR _).drew.trans (hb4.mono ?_)) hw0.out.size)⟩
 simp; omega
end
section
theorem rep_start {E:Env} {w:World} (hng:E.NG <= w.heap.size) (hT:E.T w) {tm:Nat -> PV} {a:Act} (hd:a.defers = []) (htm:∀ t,RpV (C0 w) w (tm t) (a.tmps.getD t undef)):Rep E ⟨C0 w,w,a.tmps.size⟩ (C0 w) ⟨tm,[],2,[]⟩ a w :=
 ⟨⟨rfl,fun p cs hp => by simp at hp,fun p hp => by simp at hp,fun p hp => by simp at hp,fun p q hp => by simp at hp,(fun t ht => by cases ht),(fun t s b ht => by cases ht),fun b o h => h,hng,hT⟩,rfl,lR,
  ⟨rfl,rfl,rfl,lR,fun _ _ h => h,Fix.refl _ w,fun _ _ _ _ => rfl,⟨lR,fun _ _ => rfl⟩,fun _ _ h => .inl h,(fun t b ht => by cases ht),(fun p hp hp2 => by simp at hp2),⟨lR,fun _ _ => ⟨rfl,rfl,rfl,rfl⟩⟩⟩,rfl,hd,htm⟩
theorem Rep.below {E:Env} {w:World} {n:Nat} {C:Cx} {s:St} {a:Act} {w':World} (h:Rep E ⟨C0 w,w,n⟩ C s a w'):Below w.heap.size w w' :=
 ⟨h.ext.os,h.ext.tape,h.ext.output,h.ext.size,fun k hk => h.ext.block0 (fun t h => h) k hk (fun p hp => by simp [C0] at hp)⟩
end
section
theorem code_inv {C:Cx} {w:World} {b:L8} {v:Value} (h:RpV C w (.d (.sl 0 (pcB b))) v) (hF:∀ k o,C.F k o -> k < w.heap.size) :
  ∃ (q:Option Addr) (c:Nat),v = .slice q b.length c /\ ∀ (j:Nat) (x:UInt8),b[j]? = some x -> ∃ r,q = some r /\ (r.add j).block < w.heap.size /\ w.cell? (r.add j) = some (.int .u8 x.toNat):=by
 obtain ⟨es,hes⟩:∃ es,es = pcB b:=⟨_,rfl⟩;have hl:es.length = b.length:=by rw [hes,zaN]
 rw [<- hes] at h
 cases h with
 | d _ _ h =>
  cases h with
  | emp a c =>
   have hb:b.length = 0:=by rw [<- hl]; rfl
   refine ⟨a,c,by rw [hb],fun j x hj => ?_⟩
   have:=(List.getElem?_eq_some_iff.1 hj).1; omega
  | nilo _ h2 _ _ => omega
  | own _ _ _ _ h2 _ _ _ _ _ _ _ => omega
  | rd _ k o n c u h1 h2 hr h3 =>
   refine ⟨some ⟨k,o,none⟩,c,by rw [hl],fun j x hj => ⟨_,rfl,?_⟩⟩;have hj1:=(List.getElem?_eq_some_iff.1 hj).1;have he:=zeV hj;rw [<- hes] at he
   have hn:n = 1:=by
    have:=hr.wid _ (mem_of_getElem? he)
    rw [<- this]; rfl
   subst hn;have hc:=hr.cell j 0 (by omega) (by omega);have hf:=hr.fix j 0 (by omega) (by omega);have hv:=h3 j 0 _ _ he rfl
   have hu:u j 0 = .int .u8 x.toNat:=by
    generalize u j 0 = z at hv
    cases hv; rfl
   rw [hu,Nat.one_mul,Nat.add_zero] at hc;have ha:(⟨k,o,none⟩:Addr).add j = ⟨k,o + j,none⟩:=by unfold Addr.add; split <;> simp_all
   rw [ha];exact ⟨hF _ _ hf,hc⟩
theorem start_rep {E:Env} {w:World} (hng:E.NG <= w.heap.size) (hT:E.T w) {x:PV} {v:Value} (h:RpV (C0 w) w x v) {m:Nat} (hm:1 <= m) :
  Rep E ⟨C0 w,w,m⟩ (C0 w) (initS [x]) { tmps:=#[v] ++ Array.replicate (m - #[v].size) undef,defers:=[] } w:=by
 have hs:(#[v] ++ Array.replicate (m - #[v].size) undef).size = m:=by simp; omega
 have hst:=rep_start (E:=E) (a:={ tmps:=#[v] ++ Array.replicate (m - #[v].size) undef,defers:=[] }) (tm:=fun t => [x].getD t (.tup [])) hng hT rfl (fun t => by
  match t with
  | 0 =>
   have e:(#[v] ++ Array.replicate (m - #[v].size) undef).getD 0 undef = v:=by
    rw [Array.getD_eq_getD_getElem?,Array.getElem?_append_left (by simp)]; rfl
   show RpV (C0 w) w x _
   rw [e]; exact h
  | t + 1 =>
   have e:(#[v] ++ Array.replicate (m - #[v].size) undef).getD (t + 1) undef = .tuple (toArray []):=by
    rw [Array.getD_eq_getD_getElem?,Array.getElem?_append_right (by simp),Array.getElem?_replicate]
    split <;> rfl
   show RpV (C0 w) w (.tup []) _;rw [e];exact .tup [] [] rfl (fun j x y h => by simp at h))
 rw [hs] at hst;exact hst
theorem fnFramesW (b:L8) (v:Value) (w:World) (hn:ngl <= w.heap.size) (hT:Tabs w) (h:Rd w (dBy b) [v] /\ b.length <= maxLen):Calls Tryz.prog 3 #[v] w fun e w' => e = .returned (.bool true) /\ Below w.heap.size w w':=by
 obtain ⟨hr0,hl⟩:=h;have hrp:=code_rp hr0;refine calls_of_wp Tryz.func3 body_fm ?_;have hnt:=Tryz.ntmps3;have hr:=start_rep (E:=env Tabs Tabs.low) hn hT hrp (m:=Tryz.f3.ntmps) (by rw [hnt]; decide);generalize { tmps:=#[v] ++ Array.replicate (Tryz.f3.ntmps - #[v].size) undef,defers:=[]:Act } = a0 at hr ⊢;rw [<- cutL_eq 18 bodyFm];refine lw_run (E:=env Tabs Tabs.low) (B:=⟨C0 w,w,Tryz.f3.ntmps⟩) (R:=FmR) (K:=FmK b) ?_ ?_ _ m_fmF ?_ (front_fm b hl) hr
 rotate_left 2
 ·show map (tr Tryz.prog Tryz.f3.ntmps) _ = _
  rw [hnt]; exact fr_tr
 ·rintro C s a w1 hr ⟨p,hp,hb,ht⟩
  obtain ⟨q,c,h0,hc⟩:=code_inv (v:=a.tmps.getD 0 undef) (ht.1 ▸ hr.tm 0) hr.inv.fin;have h5:=zc3 (ht.2.1 ▸ hr.tm 5);have h6:=zc3 (ht.2.2.1 ▸ hr.tm 6);exact tail_wp (hr.size.trans hnt) hr.defers b p q c w w1 hr.below hp hb hc h0 h5 h6
 ·rintro C s a w1 hr h2
  have h:=hr.tm 2;rw [show s.tm 2 = _ from h2] at h
  have h3:a.tmps.getD 2 undef = .bool true:=by
   generalize a.tmps.getD 2 undef = z at h
   cases h with
   | d _ _ h => cases h; rfl
  refine bodyPost_ret (results_tmp rfl _ _ _) hr.defers ?_;exact ⟨by rw [h3],hr.below⟩
end
section
theorem laid_of {H:Type} {enc:TypeId × Value -> H} {C:Checked} {os:Os} {f:FuncId} {fn:Func} {s:ChangeSpec} {conds:List PathCond} {fresh handsOn again apart:Bool} (L:List (String × DataW Unit))
  (own:ownKnob C.prog.godebug = none) (started:os.Started) (noInit:C.prog.inits.idxOf? f = none) (hfn:C.prog.funcs[f]? = some fn)
  (wit:∃ (w:World) (tape:Tape) (i:Input),w.os = os /\ (w.forCall tape i).Shaped C.prog /\ i.vars = [] /\ Input.okWide C.prog (w.forCall tape i) .any w.heap.size f i /\
   ((s.pre enc C.prog fn conds apart (w.forCall tape i).memory i.args /\ laidMetH C.prog L (w.forCall tape i).memory) /\ sizedMet enc C.prog fn (OpenSpec.ofChange s) apart (w.forCall tape i).memory i.args) /\ ({}:Assume).holds C.prog (lone (Frame.enter C.prog f i.args .normal) [] (w.forCall tape i)))
  (walk:∀ (W:World) (base:Nat) (args:Array Value) (ds gs:List (DataW H)) (before:List MemPlace),W.ShapedOpen C.prog -> laidMetH C.prog L W ->
   (∀ (j:Nat) t v,fn.params[j]? = some t -> args[j]? = some v -> Value.okWide C.prog W .any base t v) ->
   DataW.Whole enc C.prog fn.params.toList s.vars apart W args.toList ds gs before ->
   conds.all (PathCond.test C.prog ⟨fn.params.toList,ds,s.plain.varTypes C.prog,gs⟩) = true ->
   Calls C.prog f args W fun e W' => ∃ v,e = .returned v /\ s.post enc C.prog fn apart fresh handsOn again W args v W') :
  ReturnsInHanded {} C os f .any (fun w args => (s.pre enc C.prog fn conds apart w args /\ laidMetH C.prog L w) /\ sizedMet enc C.prog fn (OpenSpec.ofChange s) apart w args) (s.post enc C.prog fn apart fresh handsOn again):=by
 refine returnsInHanded_of_calls own started noInit wit fun w tape i _ shaped _ ok pre _ => ?_
 rcases ok with ⟨_,_,_,fn2,h2,_,_,_,_,vals⟩
 cases Option.some.inj (h2.symm.trans hfn)
 rcases pre with ⟨⟨⟨ds,gs,before,whole,cond⟩,met⟩,_⟩
 have met2:laidMetH C.prog L (w.forCall tape i):=laidMetH.of_heap (by rfl) met;refine (walk _ w.heap.size i.args ds gs before shaped met2 vals (DataW.Whole.of_heap (by rfl) whole) cond).mono ?_;rintro e w2 ⟨v,rfl,hp⟩;exact ChangeSpec.post_blind hp
end
section
open Go.RowKit Go.Lib Go.Shelf
theorem first_data:Go.Pinned.utf8First = firstData:=by kernel_rfl
theorem zgB:(Rows.laid_unicode_utf8_acceptRanges:DataW Unit) = acceptData:=by kernel_rfl
theorem tabs_of {w : World} (h3 : VarReads Tryz.prog w "unicode/utf8.first" Go.Pinned.utf8First) (h4 : VarReads Tryz.prog w "unicode/utf8.acceptRanges" Rows.laid_unicode_utf8_acceptRanges) : Tabs w := by
 rw [first_data] at h3; rw [zgB] at h4
 exact utf8Tabs_of_readsT (U8Types.of196 Tryz.laysValid) ⟨by kernel_rfl,by kernel_rfl,by kernel_rfl,by kernel_rfl,by kernel_rfl,by kernel_rfl,by kernel_rfl⟩ h3 h4
end
end Go.Proofs.YtdggnhnkpejciaaGreatDoor
