/- For every store and every dictionary the program's Publish returns what the reference's Publish returns, and leaves the dictionary as it was. -/
import Derived.Test.YtanlnhkagepniaaGreatDoorUb5
import Derived.Lib.AtoiAllCases
import Derived.Test.YtanlnhkagepniaaGreatDoorChecked
import Derived.KernelRfl
import Derived.LaidLaws
import Derived.Lib.LaidU8T
import Derived.ProofKit
import Derived.OpenShut
import Derived.ShutString
import Derived.ChangeOld
import Derived.Lib.SmallJoins
import Derived.Test.YtanlnhkagepniaaGreatDoorTie
import Derived.Test.YtanlnhkagepniaaGreatDoorCards
import Derived.SevenTiedAt
namespace Go.Proofs.YtanlnhkagepniaaGreatDoor
open Go.RowKit
set_option maxHeartbeats 4000000
set_option maxRecDepth 100000
/- Frs -/
section
theorem zbc {l:List UInt8} {i:Nat} {c:List UInt8} {e:Nat} (h:getFr l i = some (c,e)):c.length <= 100000 /\ At l i (frame c) /\ e = i + (frame c).length /\ i < e /\ e <= l.length:=by
 unfold getFr at h
 split at h
 ·cases h
 ·rename_i m n x hg
  split at h
  ·rename_i hh
   simp only [Option.some.injEq,Prod.mk.injEq] at h;obtain ⟨rfl,rfl⟩:=h;obtain ⟨rfl,h1,h2,h3⟩:=hh;unfold getAt at hg;rw [if_neg (by omega),Int.toNat_natCast] at hg;obtain ⟨g1,g2,g3,g4,g5,g6⟩:=zbt hg;have hl:((l.drop x).take n).length = n:=by rw [List.length_take,List.length_drop]; omega
   have hs:(l.drop i).take (x + n + 4 - i) = (l.drop i).take (x - i) ++ ((l.drop x).take n ++ (l.drop (x + n)).take 4):=by
    rw [show x + n + 4 - i = (x - i) + (n + 4) by omega,List.take_add,List.drop_drop,show i + (x - i) = x by omega,List.take_add,List.drop_drop]
   have hf:frame ((l.drop x).take n) = (l.drop i).take (x + n + 4 - i):=by
    unfold frame;rw [hl,if_pos h1,hs,<- g6,List.append_assoc,h3]
   have hfl:(frame ((l.drop x).take n)).length = x + n + 4 - i:=by rw [hf,List.length_take,List.length_drop]; omega
   refine ⟨by rw [hl]; exact h1,⟨(l.drop i).drop (x + n + 4 - i),by rw [hf,List.take_append_drop]⟩,by rw [hfl]; omega,by omega,by omega⟩
  ·cases h
theorem zfO {l:List UInt8} {i:Nat} {c:List UInt8} (hc:c.length <= 100000) (hi:i <= l.length) (h:At l i (frame c)):getFr l i = some (c,i + (frame c).length):=by
 have hlen:=h.len hi;have hf:frame c = hd 2 c.length ++ c ++ be 4 (crc c):=by unfold frame; rw [if_pos hc]
 rw [hf] at h hlen ⊢;simp only [List.length_append,zae] at hlen ⊢;obtain ⟨h1,h2⟩:=h.app;obtain ⟨h3,h4⟩:=h1.app;have hg:=zcA (by omega) (by omega) hi h3;simp only [List.length_append] at h2;have t2:=h2.take;have t4:=h4.take;rw [zae,<- Nat.add_assoc] at t2;unfold getFr getAt;rw [if_neg (by omega),Int.toNat_natCast,hg];simp only;rw [t4,t2,if_pos ⟨trivial,hc,by omega,rfl⟩];simp only [Option.some.injEq,Prod.mk.injEq,true_and]; omega
def frF (l:List UInt8):Nat -> Nat -> List (List UInt8 × Nat)
 | 0,_ => []
 | k + 1,a => match getFr l a with
  | some (c,e) => (c,e) :: frF l k e
  | none => []
def frG (l:List UInt8) (a:Nat):List (List UInt8 × Nat):=frF l (l.length + 1 - a) a
theorem zd5 {l:List UInt8}:∀ {k k' a:Nat},l.length < k + a -> l.length < k' + a -> frF l k a = frF l k' a
 | 0,k',a,h,h' => by
  cases k' with
  | zero => rfl
  | succ k' =>
   simp only [frF]
   cases hg:getFr l a with
   | none => rfl
   | some r => obtain ⟨c,e⟩:=r; have:=zbc hg; omega
 | k + 1,0,a,h,h' => by
  simp only [frF]
  cases hg:getFr l a with
  | none => rfl
  | some r => obtain ⟨c,e⟩:=r; have:=zbc hg; omega
 | k + 1,k' + 1,a,h,h' => by
  simp only [frF]
  cases hg:getFr l a with
  | none => rfl
  | some r => obtain ⟨c,e⟩:=r; have:=zbc hg; simp only; rw [zd5 (k:=k) (k':=k') (by omega) (by omega)]
theorem zbU {l:List UInt8} {a:Nat} (h:getFr l a = none):frG l a = []:=by
 unfold frG;rw [zd5 (k':=l.length + 2) (by omega) (by omega)];simp only [frF,h]
theorem zcD {l:List UInt8} {a:Nat} {c:List UInt8} {e:Nat} (h:getFr l a = some (c,e)):frG l a = (c,e) :: frG l e:=by
 unfold frG;rw [zd5 (k':=l.length + 1 + 1) (by omega) (by omega),frF];simp only [h];rw [zd5 (k':=l.length + 1 - e) (by omega) (by omega)]
theorem frG_ind {l:List UInt8} {P:Nat -> Prop} (h0:∀ a:Nat,getFr l a = none -> P a) (h1:∀ (a:Nat) (c:List UInt8) (e:Nat),getFr l a = some (c,e) -> P e -> P a) (a:Nat):P a:=by
 have key:∀ (k a:Nat),l.length < k + a -> P a:=by
  intro k
  induction k with
  | zero =>
   intro a h;refine h0 a ?_
   cases hg:getFr l a with
   | none => rfl
   | some r => obtain ⟨c,e⟩:=r; have:=zbc hg; omega
  | succ k ih =>
   intro a h
   cases hg:getFr l a with
   | none => exact h0 a hg
   | some r => obtain ⟨c,e⟩:=r; have:=zbc hg; exact h1 a c e hg (ih e (by omega))
 exact key (l.length + 1) a (by omega)
def endX (a:Nat):List (List UInt8 × Nat) -> Nat
 | [] => a
 | (_,e) :: r => endX e r
theorem zgS:∀ (a:Nat) (r:List (List UInt8 × Nat)) (c:List UInt8) (e:Nat),endX a (r ++ [(c,e)]) = e
 | _,[],_,_ => rfl
 | _,(_,x) :: r,c,e => zgS x r c e
theorem zgT {l:List UInt8} (a:Nat):(∀ f ∈ frG l a,a < f.2 /\ f.2 <= l.length /\ f.1.length <= 100000) /\ (a <= l.length -> endX a (frG l a) <= l.length) /\ a + (frG l a).length <= endX a (frG l a):=by
 refine frG_ind (l:=l) (P:=fun a => (∀ f ∈ frG l a,a < f.2 /\ f.2 <= l.length /\ f.1.length <= 100000) /\ (a <= l.length -> endX a (frG l a) <= l.length) /\ a + (frG l a).length <= endX a (frG l a)) (fun a h => ?_) (fun a c e h ih => ?_) a
 ·rw [zbU h]; exact ⟨fun f hf => (by cases hf),fun h => h,Nat.le_refl _⟩
 ·obtain ⟨h1,h2,h3,h4,h5⟩:=zbc h
  obtain ⟨i1,i2,i3⟩:=ih;rw [zcD h];refine ⟨fun f hf => ?_,fun _ => i2 h5,?_⟩
  ·rcases List.mem_cons.1 hf with rfl | hf
   ·exact ⟨h4,h5,h1⟩
   ·obtain ⟨j1,j2,j3⟩:=i1 f hf; exact ⟨by omega,j2,j3⟩
  ·simp only [List.length_cons,endX]; omega
theorem At.pre {l:List UInt8} {k i:Nat} {b:List UInt8} (hk:k <= l.length) (hi:i <= k):At (l.take k) i b ↔ At l i b /\ i + b.length <= k:=by
 constructor
 ·intro h
  have hl:=h.len (by rw [List.length_take]; omega);rw [List.length_take] at hl;obtain ⟨r,h⟩:=h;refine ⟨⟨r ++ l.drop k,?_⟩,by omega⟩;rw [<- List.append_assoc,<- h,<- List.drop_append_of_le_length (by rw [List.length_take]; omega),List.take_append_drop]
 ·rintro ⟨⟨r,h⟩,hl⟩
  refine ⟨r.take (k - i - b.length),?_⟩;rw [List.drop_take,h,List.take_append]
  congr 1
  exact List.take_of_length_le (by omega)
theorem zgU {l:List UInt8} {k a:Nat} (hk:k <= l.length) (ha:a <= k):getFr (l.take k) a = match getFr l a with | some (c,e) => if e <= k then some (c,e) else none | none => none:=by
 have hkl:(l.take k).length = k:=by rw [List.length_take]; omega
 cases hg:getFr l a with
 | some r =>
  obtain ⟨c,e⟩:=r;obtain ⟨h1,h2,h3,h4,h5⟩:=zbc hg;simp only;split
  ·rename_i he
   rw [zfO h1 (by rw [hkl]; exact ha) ((At.pre hk ha).2 ⟨h2,by omega⟩),h3]
  ·rename_i he
   cases hg2:getFr (l.take k) a with
   | none => rfl
   | some r2 =>
    obtain ⟨c2,e2⟩:=r2;obtain ⟨k1,k2,k3,k4,k5⟩:=zbc hg2;rw [hkl] at k5
    have:=zfO k1 (by omega) ((At.pre hk ha).1 k2).1
    rw [hg] at this;simp only [Option.some.injEq,Prod.mk.injEq] at this
    omega
 | none =>
  simp only
  cases hg2:getFr (l.take k) a with
  | none => rfl
  | some r2 =>
   obtain ⟨c2,e2⟩:=r2;obtain ⟨k1,k2,k3,k4,k5⟩:=zbc hg2
   have:=zfO k1 (by omega) ((At.pre hk ha).1 k2).1
   rw [hg] at this; cases this
theorem endX_pre {l:List UInt8} {k:Nat} (hk:k <= l.length) (a:Nat):a <= k -> (endX a (frG (l.take k) a) = k ↔ k = a \/ ∃ f ∈ frG l a,f.2 = k):=by
 refine frG_ind (l:=l) (P:=fun a => a <= k -> (endX a (frG (l.take k) a) = k ↔ k = a \/ ∃ f ∈ frG l a,f.2 = k)) (fun a h ha => ?_) (fun a c e h ih ha => ?_) a
 ·rw [zbU h,zbU (by rw [zgU hk ha,h])]
  simp only [endX,List.not_mem_nil,false_and,exists_false,or_false];exact eq_comm
 ·obtain ⟨h1,h2,h3,h4,h5⟩:=zbc h
  have hp:=zgU (l:=l) hk ha;rw [h] at hp;simp only at hp;by_cases he:e <= k
  ·rw [if_pos he] at hp
   rw [zcD h,zcD hp];simp only [endX,List.mem_cons,exists_eq_or_imp];rw [ih he]
   constructor
   ·rintro (h | h)
    ·exact .inr (.inl h.symm)
    ·exact .inr (.inr h)
   ·rintro (h | h | h)
    ·omega
    ·exact .inl h.symm
    ·exact .inr h
  ·rw [if_neg he] at hp
   rw [zbU hp,zcD h];simp only [endX]
   constructor
   ·intro h; exact .inl h.symm
   ·rintro (h | ⟨f,hf,hfk⟩)
    ·exact h.symm
    ·rcases List.mem_cons.1 hf with rfl | hf
     ·exact absurd (show e = k from hfk) (by omega)
     ·have:=(zgT (l:=l) e).1 f hf; omega
end
/- RdDec -/
section
open Go.RowKit Go.Lib
theorem zcE {u:Nat} (h:u < 10):decDigits u = [UInt8.ofNat (48 + u)]:=decDigits_one h
theorem zds {u:Nat} (h:¬ u < 10):decDigits u = decDigits (u / 10) ++ [UInt8.ofNat (48 + u % 10)]:=by
 conv => lhs; rw [decDigits,dif_neg h]
 try rfl
theorem zeM {d:Nat} (h:d < 10):(UInt8.ofNat (48 + d)).toNat = 48 + d:=by
 rw [UInt8.toNat_ofNat']; omega
theorem zfP {P:Nat -> Prop} (h0:∀ u,u < 10 -> P u) (h1:∀ u,¬ u < 10 -> P (u / 10) -> P u) (u:Nat):P u:=by
 induction u using Nat.strongRecOn with
 | ind u ih =>
  by_cases h:u < 10
  ·exact h0 u h
  ·exact h1 u h (ih (u / 10) (by omega))
theorem zfQ (u:Nat):decDigits u ≠ []:=by
 by_cases h:u < 10
 ·rw [zcE h]; simp
 ·rw [zds h]; simp
theorem zfR (u:Nat):∀ c ∈ decDigits u,48 <= c.toNat /\ c.toNat <= 57:=by
 refine zfP (P:=fun u => ∀ c ∈ decDigits u,48 <= c.toNat /\ c.toNat <= 57) (fun u h c hc => ?_) (fun u h ih c hc => ?_) u
 ·rw [zcE h,List.mem_singleton] at hc; subst hc; rw [zeM h]; omega
 ·rw [zds h,List.mem_append,List.mem_singleton] at hc
  rcases hc with hc | rfl
  ·exact ih c hc
  ·rw [zeM (by omega)]; omega
def dvL (l:List UInt8):Nat:=l.foldl (fun a c => a * 10 + (c.toNat - 48)) 0
theorem dvL_snoc (l:List UInt8) (c:UInt8):dvL (l ++ [c]) = dvL l * 10 + (c.toNat - 48):=by simp [dvL]
theorem dvL_dec (u:Nat):dvL (decDigits u) = u:=by
 refine zfP (P:=fun u => dvL (decDigits u) = u) (fun u h => ?_) (fun u h ih => ?_) u
 ·rw [zcE h]; simp only [dvL,List.foldl_cons,List.foldl_nil]; rw [zeM h]; omega
 ·rw [zds h,dvL_snoc,ih,zeM (by omega)]; omega
theorem zgV:∀ (l r:List UInt8) (a m:Nat),parseUint10 a l = .ok m -> parseUint10 a (l ++ r) = parseUint10 m r
 | [],r,a,m,h => by simp only [parseUint10] at h; injection h with h; subst h; rfl
 | c :: l,r,a,m,h => by
  simp only [parseUint10] at h;simp only [List.cons_append,parseUint10]
  split at h
  ·rename_i h1
   rw [if_pos h1]
   split at h
   ·cases h
   ·rename_i h2
    rw [if_neg h2]
    split at h
    ·cases h
    ·rename_i h3
     rw [if_neg h3];exact zgV l r _ m h
  ·cases h
theorem zgW {a d:Nat} (hd:d < 10) (h:a * 10 + d < 18446744073709551616):parseUint10 a [UInt8.ofNat (48 + d)] = .ok (a * 10 + d):=by
 simp only [parseUint10,zeM hd];rw [if_pos (by omega),if_neg (by omega),if_neg (by omega)]
 congr 1; omega
theorem parse_dec (u:Nat):u < 18446744073709551616 -> parseUint10 0 (decDigits u) = .ok u:=by
 refine zfP (P:=fun u => u < 18446744073709551616 -> parseUint10 0 (decDigits u) = .ok u) (fun u h hu => ?_) (fun u h ih hu => ?_) u
 ·rw [zcE h,zgW h (by omega),Nat.zero_mul,Nat.zero_add]
 ·rw [zds h,zgV _ _ _ _ (ih (by omega)),zgW (by omega) (by omega)]
  congr 1; omega
theorem mag_dec {u:Nat} (h:u < 18446744073709551616):parseMag (decDigits u) = .ok u:=by
 unfold parseMag; rw [if_neg (zfQ u)]; exact parse_dec u h
theorem atoi_itoa {n:Int} (h:i64ok n):atoiAll (itoa n) = .ok n:=by
 obtain ⟨h1,h2⟩:=h;by_cases hn:n < 0
 ·obtain ⟨u,rfl⟩:∃ u:Nat,n = -(u:Int):=⟨n.natAbs,by omega⟩
  rw [itoa_neg u (by omega),atoiAll_minus,mag_dec (by omega)];simp only [signed];rw [if_neg (by omega)]
 ·obtain ⟨u,rfl⟩:∃ u:Nat,n = (u:Int):=⟨n.toNat,by omega⟩
  rw [itoa_nonneg];have hd:=zfR u;have hm:=mag_dec (u:=u) (by omega)
  cases hl:decDigits u with
  | nil => exact absurd hl (zfQ u)
  | cons c r =>
   have:=hd c (by rw [hl]; simp)
   rw [hl] at hm;rw [atoiAll_plain c r (by omega) (by omega),hm];simp only [signless];rw [if_neg (by omega)]
def rdD (s:List UInt8):Option Int:=match atoiAll s with
 | .ok v => if itoa v = s then some v else none
 | _ => none
theorem rdD_itoa {n:Int} (h:i64ok n):rdD (itoa n) = some n:=by unfold rdD; rw [atoi_itoa h]; simp
theorem rdD_some {s:List UInt8} {n:Int} (h:rdD s = some n):i64ok n /\ itoa n = s:=by
 unfold rdD at h
 split at h
 ·rename_i v hv
  split at h
  ·simp only [Option.some.injEq] at h; subst h
   exact ⟨atoiAll_bounds hv,‹_›⟩
  ·cases h
 ·cases h
def rdN (s:List UInt8):Int:=match rdD s with | some n => n | none => 0
def rdB (s:List UInt8):Bool:=(rdD s).isSome
theorem rd_yes {n:Int} {s:List UInt8} (h:i64ok n) (hs:itoa n = s):rdN s = n /\ rdB s = true:=by subst hs; simp [rdN,rdB,rdD_itoa h]
theorem rd_no {s:List UInt8} (h:∀ n,i64ok n -> itoa n ≠ s):rdN s = 0 /\ rdB s = false:=by
 cases hr:rdD s with
 | none => simp [rdN,rdB,hr]
 | some n => obtain ⟨h1,h2⟩:=rdD_some hr; exact absurd h2 (h n h1)
def unsgn (s:List UInt8):List UInt8:=if s.head? = some 45 then s.drop 1 else s
theorem zff (n:Int):unsgn (itoa n) = decDigits n.natAbs:=by
 by_cases hn:n < 0
 ·obtain ⟨u,rfl⟩:∃ u:Nat,n = -(u:Int):=⟨n.natAbs,by omega⟩
  rw [itoa_neg u (by omega)]; simp [unsgn]
 ·obtain ⟨u,rfl⟩:∃ u:Nat,n = (u:Int):=⟨n.toNat,by omega⟩
  rw [itoa_nonneg];unfold unsgn;rw [if_neg]
  ·simp
  ·intro h
   have hd:=zfR u
   cases hl:decDigits u with
   | nil => exact absurd hl (zfQ u)
   | cons c r =>
    rw [hl] at h; simp at h; subst h
    have:=hd 45 (by rw [hl]; simp)
    revert this; decide
theorem zeN:∀ (k u:Nat),u < 10 ^ (k + 1) -> nDigits u <= k + 1
 | 0,u,h => by rw [nDigits_small (by simpa using h)]; exact Nat.le_refl _
 | k + 1,u,h => by
  by_cases h1:u < 10
  ·rw [nDigits_small h1]; omega
  ·rw [nDigits_big h1]
   have:=zeN k (u / 10) (by rw [Nat.pow_succ] at h; omega)
   omega
theorem rd_loop {s:List UInt8} {n:Int} (hn:i64ok n) (hs:itoa n = s):(if unsgn s = s then IntKind.wrap .i64 (dvL (unsgn s)) else IntKind.wrap .i64 (0 - IntKind.wrap .i64 (dvL (unsgn s)))) = n:=by
 subst hs;obtain ⟨h1,h2⟩:=hn;rw [zff,dvL_dec];simp only [IntKind.wrap_i64];by_cases hn:n < 0
 ·obtain ⟨u,rfl⟩:∃ u:Nat,n = -(u:Int):=⟨n.natAbs,by omega⟩
  rw [if_neg]
  ·simp only [Int.natAbs_neg,Int.natAbs_natCast]; omega
  ·rw [itoa_neg u (by omega)]
   intro h
   have:=congrArg List.length h
   simp at this
 ·obtain ⟨u,rfl⟩:∃ u:Nat,n = (u:Int):=⟨n.toNat,by omega⟩
  rw [if_pos]
  ·simp only [Int.natAbs_natCast]; omega
  ·rw [itoa_nonneg]; simp
theorem unsgn_dec {s:List UInt8} {n:Int} (hn:i64ok n) (hs:itoa n = s):unsgn s ≠ [] /\ (unsgn s).length <= 19 /\ ∀ c ∈ unsgn s,48 <= c.toNat /\ c.toNat <= 57:=by
 subst hs;rw [zff];refine ⟨zfQ _,?_,zfR _⟩;rw [decDigits_length];obtain ⟨h1,h2⟩:=hn
 have:n.natAbs < 10000000000000000000:=by omega
 exact zeN 18 _ (by simpa using this)
end
/- StoreDef -/
section
abbrev Dc:=List (List UInt8) × List V
open Classical in
noncomputable def gdD (s:List UInt8):Option Dc:=if h:∃ p:Dc,Good s p.1 p.2 then some h.choose else none
theorem gdD_good {s:List UInt8} {d:Dc} (h:gdD s = some d):Good s d.1 d.2:=by
 unfold gdD at h
 split at h
 ·rename_i hh; simp only [Option.some.injEq] at h; subst h; exact hh.choose_spec
 ·cases h
theorem gdD_none {s:List UInt8} (h:∀ (ns:List (List UInt8)) (vs:List V),¬ Good s ns vs):gdD s = none:=by
 unfold gdD;rw [dif_neg];rintro ⟨p,hp⟩; exact h _ _ hp
theorem gdD_some {s:List UInt8} {ns:List (List UInt8)} {vs:List V} (h:Good s ns vs) (hu:∀ (ns':List (List UInt8)) (vs':List V),Good s ns' vs' -> ns' = ns /\ vs' = vs):gdD s = some (ns,vs):=by
 cases hg:gdD s with
 | some d =>
  obtain ⟨h1,h2⟩:=hu _ _ (gdD_good hg);obtain ⟨a,b⟩:=d
  simp only at h1 h2; subst h1; subst h2; rfl
 | none =>
  unfold gdD at hg
  split at hg
  ·cases hg
  ·rename_i hh; exact absurd ⟨(ns,vs),h⟩ hh
theorem DictR.gd {s:List UInt8} {nt nt':Nat} {live live':List Nat} {x:PV} (h:DictR s nt live x nt' live') :
  ∃ c1 c2 d,x = .tup [.ag [c1,c2],.d (pB (gdD s).isSome)] /\ NewL nt nt' [c1,c2] /\ (∀ t ∈ toksL [c1,c2],t ∈ live') /\ (∀ t ∈ live,2 <= t -> t < nt -> t ∈ live') /\ nt <= nt' /\ erL [c1,c2] = dC d.1 d.2 /\ (gdD s).getD ([],[]) = d:=by
 obtain ⟨cs,ok,rfl,h1,h2,h3,h4,h5,ns,vs,h6,h7,h8,h9⟩:=h
 match cs,h1 with
 | [c1,c2],_ =>
  cases ok with
  | true =>
   have hg:=gdD_some (h7 rfl) fun ns' vs' h => (h9 ns' vs' h).2
   exact ⟨c1,c2,(ns,vs),by rw [hg]; rfl,h2,h3,h4,h5,h6,by rw [hg]; rfl⟩
  | false =>
   have hg:=gdD_none (s:=s) fun ns' vs' h => by have:=(h9 ns' vs' h).1; cases this
   obtain ⟨rfl,rfl⟩:=h8 rfl;exact ⟨c1,c2,([],[]),by rw [hg]; rfl,h2,h3,h4,h5,h6,by rw [hg]; rfl⟩
abbrev Rl:=List (Dc × Bool)
def rlv (st:Rl) (n:Int):Bool:=decide (1 <= n /\ n <= (st.length:Int)) && (st.getD (n - 1).toNat (([],[]),false)).2
noncomputable def stp (st:Rl) (c:List UInt8):Option Rl :=
 match c with
 | [] => none
 | b :: t =>
  if b = 112 then (gdD t).map fun d => st ++ [(d,true)]
  else if b = 114 then
   if (rdB t && rlv st (rdN t)) = true then some (st.set (rdN t - 1).toNat ((st.getD (rdN t - 1).toNat (([],[]),false)).1,false)) else none
  else none
noncomputable def rdL:Rl -> List (List UInt8) -> Option Rl
 | st,[] => some st
 | st,c :: cs => match stp st c with
  | some st' => rdL st' cs
  | none => none
theorem zfS:∀ (cs:List (List UInt8)) (st:Rl) (c:List UInt8),rdL st (cs ++ [c]) = (rdL st cs).bind fun st' => stp st' c
 | [],st,c => by
  simp only [List.nil_append,rdL,Option.bind_some]
  cases stp st c <;> rfl
 | b :: cs,st,c => by
  simp only [List.cons_append,rdL]
  cases stp st b with
  | none => rfl
  | some st' => exact zfS cs st' c
theorem zhX:∀ (cs:List (List UInt8)) (st:Rl) (k:Nat),rdL st (cs.take k) = none -> rdL st cs = none
 | [],st,k,h => by simpa using h
 | c :: cs,st,0,h => by simp [rdL] at h
 | c :: cs,st,k + 1,h => by
  simp only [List.take_succ_cons,rdL] at h ⊢
  cases hs:stp st c with
  | none => rfl
  | some st' => rw [hs] at h; exact zhX cs st' k h
theorem stp_len {st st':Rl} {c:List UInt8} (h:stp st c = some st'):st'.length <= st.length + 1:=by
 unfold stp at h
 split at h
 ·cases h
 ·split at h
  ·cases hg:gdD _ with
   | none => rw [hg] at h; cases h
   | some d => rw [hg] at h; simp only [Option.map_some,Option.some.injEq] at h; subst h; simp
  ·split at h
   ·split at h
    ·simp only [Option.some.injEq] at h; subst h; simp
    ·cases h
   ·cases h
theorem zfT:∀ (cs:List (List UInt8)) (st st':Rl),rdL st cs = some st' -> st'.length <= st.length + cs.length
 | [],st,st',h => by simp only [rdL,Option.some.injEq] at h; subst h; simp
 | c :: cs,st,st',h => by
  simp only [rdL] at h
  cases hs:stp st c with
  | none => rw [hs] at h; cases h
  | some s1 =>
   rw [hs] at h;have h1:=zfT cs s1 st' h;have h2:=stp_len hs;simp only [List.length_cons]; omega
def fcs (l:List UInt8):List (List UInt8):=(frG l 0).map (·.1)
def fes (l:List UInt8):List Nat:=(frG l 0).map (·.2)
def fend (l:List UInt8):Nat:=endX 0 (frG l 0)
noncomputable def logR (l:List UInt8):Option Rl:=if fend l = l.length /\ (fcs l).length <= 40 then rdL [] (fcs l) else none
noncomputable def stR (l:List UInt8) (safe:Int):Option Rl:=if 0 <= safe /\ (safe = 0 \/ safe.toNat ∈ fes l) then logR l else none
theorem fes_mem {l:List UInt8} {k:Nat}:k ∈ fes l ↔ ∃ f ∈ frG l 0,f.2 = k:=by unfold fes; rw [List.mem_map]
theorem fes_le {l:List UInt8} {k:Nat} (h:k ∈ fes l):k <= l.length:=by
 obtain ⟨f,hf,rfl⟩:=fes_mem.1 h;exact ((zgT (l:=l) 0).1 f hf).2.1
theorem fend_le (l:List UInt8):fend l <= l.length:=(zgT (l:=l) 0).2.1 (Nat.zero_le _)
theorem stR_safe {l:List UInt8} {safe:Int} (h0:0 <= safe) (h1:safe <= l.length):((fend (l.take safe.toNat):Int) = safe) ↔ (safe = 0 \/ safe.toNat ∈ fes l):=by
 have:=endX_pre (l:=l) (k:=safe.toNat) (by omega) 0 (Nat.zero_le _)
 unfold fend;rw [fes_mem]
 constructor
 ·intro h
  rcases this.1 (by omega) with h | h
  ·exact .inl (by omega)
  ·exact .inr h
 ·intro h
  have:=this.2 (h.imp (fun h => by omega) id)
  omega
theorem fes_endX:∀ (l:List (List UInt8 × Nat)) (a:Nat),endX a l = (l.map (·.2)).getD (l.length - 1) a
 | [],a => rfl
 | [(c,e)],a => rfl
 | (c,e) :: f :: r,a => by
  show endX e (f :: r) = _;rw [fes_endX (f :: r) e];simp
end
/- St1M -/
section
def m_s_StoreOk:M:=so [qo 1 (.box (.t 0)),qo 2 (.mv (cB false))] (so [qF 9 0 1,ql 10 1 9,qc 11 102 [.t 10] 1,qm 8 11,qe 12 8 0,qe 13 8 1,qe 14 8 2,qm 3 12,qm 4 13,qm 5 14] (.seq (so [qm 15 5,qo 16 (.not (.t 15)),qm 17 16,⟨some 18,.fld 1 (.t 1),some (17,false),[]⟩,⟨some 19,.load false 1 (.t 18),some (17,false),[]⟩,⟨some 20,.fld 0 (.t 1),some (17,false),[]⟩,⟨some 21,.load false 1 (.t 20),some (17,false),[]⟩,⟨some 22,.lens (.t 21),some (17,false),[]⟩,⟨some 23,.call 103 [.t 19,ci 0,.t 22],some (17,false),[.f 1]⟩,⟨some 24,.not (.t 23),some (17,false),[]⟩,qo 25 (.pick (.t 17) (cB true) (.t 24))] (.cond (.t 25) (so [qo 2 (.mv (cB false))] .ret) .skip)) (so [qF 27 0 1,ql 28 1 27,qF 29 1 1,ql 30 1 29,qo 31 (.slcs (.t 28) none (some (.t 30))),qc 32 104 [.t 31] 1,qm 26 32,qe 33 26 0,qe 34 26 1,qm 6 33,qm 7 34] (so [qm 35 7,qF 36 1 1,ql 37 1 36,qo 38 (.bin .eql false (.t 35) (.t 37)),qm 2 38] .ret))))
theorem zgX:look Tryz.prog 37 = some (39,m_s_StoreOk,[.tm 2]):=by kernel_rfl
def m_s_Publish:M:=so [qo 2 (.box (.t 0)),qo 3 (.box (.t 1)),⟨some 4,.zero [.string ⟨[].toArray⟩,.int .i64 0],none,[]⟩,qo 5 (.mv (ci 0))] (.seq (so [qL 9 2 2,qc 10 37 [.t 9] 1,qo 11 (.not (.t 10)),qm 12 11,⟨some 13,.load true 2 (.t 3),some (12,false),[]⟩,⟨some 14,.call 63 [.t 13],some (12,false),[.f 1]⟩,⟨some 15,.not (.t 14),some (12,false),[]⟩,qo 16 (.pick (.t 12) (cB true) (.t 15)),qm 17 16,⟨some 18,.load true 2 (.t 2),some (17,false),[]⟩,⟨some 19,.call 106 [.t 18],some (17,false),[.f 1]⟩,⟨some 20,.bin .geq false (.t 19) (ci 40),some (17,false),[]⟩,qo 21 (.pick (.t 17) (cB true) (.t 20))] (.cond (.t 21) (so [qL 22 2 2,qS 2 4 22,qo 5 (.mv (ci 0))] .ret) .skip)) (so [qF 24 0 2,ql 25 1 24,qc 26 102 [.t 25] 1,qm 23 26,qe 27 23 0,qe 28 23 1,qe 29 23 2,qm 6 27,qm 7 28,qm 8 29] (so [qF 30 0 2,ql 31 1 30,qL 32 2 3,⟨some 33,.call 64 [.t 32],none,[.f 0,.t 30]⟩,⟨some 34,.bin .add false (.c (.string ⟨[112].toArray⟩)) (.t 33),none,[]⟩,⟨some 35,.call 108 [.t 34],none,[.f 0,.t 30]⟩,qo 36 (.bin .add false (.t 31) (.t 35)),qF 37 0 2,qS 1 37 36] (so [qL 38 2 2,qm 39 6,qo 40 (.len (.t 39)),qo 41 (.bin .add false (.t 40) (ci 1)),qS 2 4 38,qm 5 41] .ret))))
theorem zgY:look Tryz.prog 55 = some (42,m_s_Publish,[.cell true 2 4,.tm 5]):=by kernel_rfl
def m_s_l14Read:M:=so [qo 2 (.mv (.c (.slice none 0 0))),qo 3 (.mv (.c (.slice none 0 0))),qo 4 (.mv (cB false))] (so [qo 14 (.lit 2 []),qm 5 14] (so [qo 15 (.lit 1 []),qm 6 15] (so [qm 17 0,qc 18 104 [.t 17] 1,qm 16 18,qe 19 16 0,qe 20 16 1,qm 7 19,qm 8 20] (.seq (so [qo 9 (.mv (ci 0))] (.block 0 (.loop (.seq (so [qm 21 9,qm 22 7,qo 23 (.len (.t 22)),qo 24 (.bin .lss false (.t 21) (.t 23))] (.cond (.t 24) .skip (.exit 0))) (.seq (.block 1 (.seq (so [qm 27 7,qm 28 9,qo 29 (.ix 1 (.t 27) (.t 28)),ql 30 1 29,⟨some 31,.bin .eql false (.t 30) (.c (.string ⟨[].toArray⟩)),none,[]⟩] (.cond (.t 31) (so [qm 32 5,qm 33 6,qm 2 32,qm 3 33,qo 4 (.mv (cB false))] .ret) .skip)) (so [qm 35 7,qm 36 9,qo 37 (.ix 1 (.t 35) (.t 36)),ql 38 1 37,qo 39 (.slcs (.t 38) (some (ci 1)) none),qc 40 150 [.t 39] 1,qm 34 40,qe 41 34 0,qe 42 34 1,qm 10 41,qm 11 42] (so [qm 44 7,qm 45 9,qo 46 (.ix 1 (.t 44) (.t 45)),ql 47 1 46,qo 48 (.slcs (.t 47) (some (ci 1)) none),qc 49 14 [.t 48] 1,qm 43 49,qe 50 43 0,qe 51 43 1,qo 12 (.zero [.slice none 0 0,.slice none 0 0]),qS 2 12 50,qm 13 51] (.block 2 (so [qm 55 7,qm 56 9,qo 57 (.ix 1 (.t 55) (.t 56)),ql 58 1 57,qo 59 (.ixs (.t 58) (ci 0)),qo 60 (.bin .eql false (.t 59) (.c (.int .u8 112))),qm 61 60,qg 62 13 61 true,qo 63 (.pick (.t 61) (.t 62) (cB false)),qm 54 63] (.cond (.t 54) (so [qm 64 5,qL 65 2 12,qo 66 (.lit 2 [.t 65]),⟨some 67,.app 2 (.t 64) (.t 66),none,[.f 1]⟩,qm 5 67] (.ops [qm 68 6,qo 69 (.lit 1 [cB true]),⟨some 70,.app 1 (.t 68) (.t 69),none,[.f 1]⟩,qm 6 70])) (so [qm 72 7,qm 73 9,qo 74 (.ix 1 (.t 72) (.t 73)),ql 75 1 74,qo 76 (.ixs (.t 75) (ci 0)),qo 77 (.bin .eql false (.t 76) (.c (.int .u8 114))),qm 78 77,qg 79 11 78 true,qo 80 (.pick (.t 78) (.t 79) (cB false)),qm 81 80,qg 82 10 81 true,qg 83 5 81 true,⟨some 84,.len (.t 83),some (81,true),[]⟩,⟨some 85,.call 103 [.t 82,ci 1,.t 84],some (81,true),[.f 1]⟩,qo 86 (.pick (.t 81) (.t 85) (cB false)),qm 87 86,qg 88 6 87 true,qg 89 10 87 true,⟨some 90,.bin .sub false (.t 89) (ci 1),some (87,true),[]⟩,⟨some 91,.ix 1 (.t 88) (.t 90),some (87,true),[]⟩,⟨some 92,.load false 1 (.t 91),some (87,true),[]⟩,qo 93 (.pick (.t 87) (.t 92) (cB false)),qm 71 93] (.cond (.t 71) (.ops [qm 94 6,qm 95 10,qo 96 (.bin .sub false (.t 95) (ci 1)),qo 97 (.ix 1 (.t 94) (.t 96)),⟨none,.store 1 (.t 97) (cB false),none,[]⟩]) (so [qm 52 5,qm 53 6,qm 2 52,qm 3 53,qo 4 (.mv (cB false))] .ret)))))))))) (.ops [qm 25 9,qo 26 (.bin .add false (.t 25) (ci 1)),qm 9 26])))))) (so [qm 98 5,qm 99 6,qm 100 8,qm 101 0,qo 102 (.lens (.t 101)),qo 103 (.bin .eql false (.t 100) (.t 102)),qm 104 103,qg 105 7 104 true,⟨some 106,.len (.t 105),some (104,true),[]⟩,⟨some 107,.bin .leq false (.t 106) (ci 40),some (104,true),[]⟩,qo 108 (.pick (.t 104) (.t 107) (cB false)),qm 2 98,qm 3 99,qm 4 108] .ret)))))
theorem zgZ:look Tryz.prog 102 = some (109,m_s_l14Read,[.tm 2,.tm 3,.tm 4]):=by kernel_rfl
def m_s_Frames:M:=so [qo 2 (.mv (.c (.slice none 0 0))),qo 3 (.mv (ci 0))] (so [qo 8 (.lit 1 []),qm 4 8] (so [qo 5 (.mv (ci 0))] (.block 0 (.loop (.block 1 (so [qm 10 0,qm 11 5,qc 12 151 [.t 10,.t 11] 1,qm 9 12,qe 13 9 0,qe 14 9 1,qm 6 13,qm 7 14] (.seq (so [qm 15 7,qo 16 (.bin .lss false (.t 15) (ci 0))] (.cond (.t 16) (so [qm 17 4,qm 18 5,qm 2 17,qm 3 18] .ret) .skip)) (so [qm 19 4,qm 20 6,qo 21 (.lit 1 [.t 20]),⟨some 22,.app 1 (.t 19) (.t 21),none,[.f 1]⟩,qm 4 22] (.ops [qm 23 7,qm 5 23])))))))))
theorem zhY:look Tryz.prog 104 = some (24,m_s_Frames,[.tm 2,.tm 3]):=by kernel_rfl
def m_s_l14Many:M:=so [qo 1 (.box (.t 0)),qo 2 (.mv (ci 0))] (so [qF 6 0 1,ql 7 1 6,qc 8 104 [.t 7] 1,qm 5 8,qe 9 5 0,qe 10 5 1,qm 3 9,qm 4 10] (so [qm 11 3,qo 12 (.len (.t 11)),qm 2 12] .ret))
theorem zg0:look Tryz.prog 106 = some (13,m_s_l14Many,[.tm 2]):=by kernel_rfl
def m_s_ReadDec:M:=so [qo 2 (.mv (ci 0)),qo 3 (.mv (cB false))] (so [qm 7 0,qm 4 7] (.seq (so [qm 8 4,qo 9 (.lens (.t 8)),qo 10 (.bin .gtr false (.t 9) (ci 0)),qm 11 10,qg 12 4 11 true,⟨some 13,.ixs (.t 12) (ci 0),some (11,true),[]⟩,⟨some 14,.bin .eql false (.t 13) (.c (.int .u8 45)),some (11,true),[]⟩,qo 15 (.pick (.t 11) (.t 14) (cB false))] (.cond (.t 15) (.ops [qm 16 4,qo 17 (.slcs (.t 16) (some (ci 1)) none),qm 4 17]) .skip)) (so [qo 5 (.mv (ci 0))] (.seq (so [qo 6 (.mv (ci 0))] (.block 0 (.loop (.seq (so [qm 18 6,qm 19 4,qo 20 (.lens (.t 19)),qo 21 (.bin .lss false (.t 18) (.t 20))] (.cond (.t 21) .skip (.exit 0))) (.seq (.block 1 (.seq (so [qm 24 4,qm 25 6,qo 26 (.ixs (.t 24) (.t 25)),qo 27 (.conv .i64 (.t 26)),qc 28 103 [.t 27,ci 48,ci 57] 1,qo 29 (.not (.t 28)),qm 30 29,qg 31 4 30 false,⟨some 32,.lens (.t 31),some (30,false),[]⟩,⟨some 33,.bin .gtr false (.t 32) (ci 19),some (30,false),[]⟩,qo 34 (.pick (.t 30) (cB true) (.t 33))] (.cond (.t 34) (so [qo 2 (.mv (ci 0)),qo 3 (.mv (cB false))] .ret) .skip)) (.ops [qm 35 5,qo 36 (.bin .mul false (ci 10) (.t 35)),qm 37 4,qm 38 6,qo 39 (.ixs (.t 37) (.t 38)),qo 40 (.conv .i64 (.t 39)),qo 41 (.bin .add false (.t 36) (.t 40)),qo 42 (.bin .sub false (.t 41) (ci 48)),qm 5 42]))) (.ops [qm 22 6,qo 23 (.bin .add false (.t 22) (ci 1)),qm 6 23])))))) (.seq (so [qm 43 4,qm 44 0,qo 45 (.bin .neq false (.t 43) (.t 44))] (.cond (.t 45) (.ops [qm 46 5,qo 47 (.neg (.t 46)),qm 5 47]) .skip)) (.seq (so [qm 48 4,⟨some 49,.bin .eql false (.t 48) (.c (.string ⟨[].toArray⟩)),none,[]⟩,qm 50 49,qg 51 5 50 false,⟨some 52,.call 109 [.t 51],some (50,false),[.f 1]⟩,qg 53 0 50 false,⟨some 54,.bin .neq false (.t 52) (.t 53),some (50,false),[]⟩,qo 55 (.pick (.t 50) (cB true) (.t 54))] (.cond (.t 55) (so [qo 2 (.mv (ci 0)),qo 3 (.mv (cB false))] .ret) .skip)) (so [qm 56 5,qm 2 56,qo 3 (.mv (cB true))] .ret)))))))
theorem zg1:look Tryz.prog 150 = some (57,m_s_ReadDec,[.tm 2,.tm 3]):=by kernel_rfl
end
/- St1 -/
section
variable {T:World -> Prop} {hT:Low ngl T}
attribute [local irreducible] po mw pt
theorem po_nes {E:Env} {K:St -> Prop} {tm:Nat -> PV} {bx:List (List PC)} {nt d:Nat} {live:List Nat} {r:List MOpr} {g:Option (Nat × Bool)} {c:List X} {x y:X} {la lb:List UInt8} {f:Bool} (hg:gd g tm = some true) (hx:ev tm x = .d (pS la)) (hy:ev tm y = .d (pS lb)) (h:po E r K ⟨up d (.d (pB (!decide (la = lb)))) tm,bx,nt,live⟩):po E (⟨some d,.bin .neq f x y,g,c⟩ :: r) K ⟨tm,bx,nt,live⟩:=by
 refine po_q hg ?_ h;simp only [qf,hx,hy,pS];show some (PV.d (.v (.bool (!((ByteArray.mk la.toArray).toList == (ByteArray.mk lb.toArray).toList))))) = _;rw [ByteArray.toList_eq,ByteArray.toList_eq];show some (PV.d (.v (.bool (!(la == lb))))) = some (PV.d (.v (.bool (!decide (la = lb)))));have e:(la == lb) = decide (la = lb):=by by_cases h:la = lb <;> simp [h]
 rw [e]
theorem gframe_fn (s:List UInt8) (i:Nat) (hi:i <= 2147483647) (hs:s.length <= 2147483647):FnV (env T hT) 151 [.d (pS s),.d (pI i)] (.tup [.d (pS (fC (getFr s i))),.d (pI (fX (getFr s i)))]):=by
 refine FnV.oldT rfl rfl fun w C vs hF _ _ hlen hv => ?_
 match vs,hlen with
 | [x,y],_ =>
  have h1:=zbW (hv 0 _ _ rfl rfl); have h2:=zbp (hv 1 _ _ rfl rfl)
  subst h1; subst h2
  exact zfK s i w (by unfold i64ok; omega) (by omega)
theorem pSr_snoc (ns:List (List UInt8)) (n:List UInt8):pSr (ns ++ [n]) = pSr ns ++ [[pS n]]:=by unfold pSr; rw [List.map_append]; rfl
def FrI (l:List UInt8) (m:Nat) (st:St):Prop:=∃ (a t:Nat) (pre:List (List UInt8 × Nat)),frG l 0 = pre ++ frG l a /\ endX 0 pre = a /\ a <= l.length /\ pre.length <= a /\ m = l.length - a /\ has st.tm [(0,.d (pS l)),(4,.d (.sl t (pSr (pre.map (·.1))))),(5,.d (pI a))] /\ st.bx = [] /\ t ∈ st.live
theorem zeO (l:List UInt8) (hl:l.length <= 2147483647):FnV (env T hT) 104 [.d (pS l)] (.tup [.d (.sl 0 (pSr (fcs l))),.d (pI (fend l))]):=by
 refine zaT (zal zhY) (by show 1 <= 24; decide) fun B hB => ?_
 unfold m_s_Frames;refine mP ?_;refine mO ?_;refine zay (es:=[]) rfl ?_;refine mN ?_;refine mP ?_;refine zai ?_;refine zaz (FrI l) l.length ⟨0,_,[],rfl,rfl,Nat.zero_le _,Nat.le_refl _,rfl,⟨rfl,rfl,rfl,trivial⟩,rfl,List.mem_cons_self ..⟩ ?_;rintro m tm bx nt live ⟨a,t,pre,hp,he,hal,hpl,rfl,ht,hbx,hlv⟩;obtain ⟨tm0,rfl⟩:=zah ht;simp only at hbx hlv; subst hbx
 clear ht;have hg:=gframe_fn (T:=T) (hT:=hT) l a (by omega) hl;refine zai (zab (zac ?_));(iterate 2 refine mS ?_)
 cases hr:getFr l a with
 | none =>
  rw [hr] at hg;refine zad rfl hg ?_;refine mN ?_;refine zab (zab (zac ?_));refine mS ?_;refine zaj rfl rfl rfl ?_;refine mT ?_;refine mP ?_;refine zag ⟨.inr rfl,[.d (.sl t (pSr (pre.map (·.1)))),.d (pI a)],rfl,?_⟩;have e1:fcs l = pre.map (·.1):=by unfold fcs; rw [hp,zbU hr,List.append_nil]
  have e2:fend l = a:=by unfold fend; rw [hp,zbU hr,List.append_nil]; exact he
  rw [e1,e2]
  exact congrArg (fun r => some (PV.tup [.d (.sl 0 r),.d (pI a)])) (zga _)
 | some r =>
  obtain ⟨c,e⟩:=r;rw [hr] at hg;obtain ⟨f1,f2,f3,f4,f5⟩:=zbc hr;refine zad rfl hg ?_;refine mN ?_;refine zab (zab (zac ?_));refine mS ?_;refine zan rfl rfl (decide_eq_false (show ¬ ((e:Nat):Int) < 0 by omega)) ?_;refine mK ?_;refine mO ?_;(iterate 2 refine mS ?_);refine zay (es:=[[pS c]]) rfl ?_;refine zcJ (t:=t) (t':=nt) (es:=pSr (pre.map (·.1))) (ds:=[[pS c]]) rfl rfl (.inr (List.mem_cons_of_mem _ hlv)) (by simp only [List.length_singleton,zaY,List.length_map]; omega) (fun e he => by simp only [List.mem_singleton] at he; subst he; rfl) (zeo _) ?_;refine mN ?_;refine zac ?_;refine mN ?_;refine ⟨_,?_,e,nt + 1,pre ++ [(c,e)],?_,zgS _ _ _ _,f5,by rw [List.length_append]; simp only [List.length_singleton]; omega,rfl,⟨rfl,?_,rfl,trivial⟩,rfl,List.mem_cons_self ..⟩
  ·show l.length - e < l.length - a
   omega
  ·rw [hp,zcD hr,List.append_assoc]; rfl
  ·rw [List.map_append,show List.map (·.1) [(c,e)] = [c] from rfl,pSr_snoc]; rfl
theorem decT_fn (n:Int) (hn:i64ok n):FnV (env T hT) 109 [.d (pI n)] (.d (pS (Lib.itoa n))):=by
 refine FnV.old rfl fun w C vs hF _ _ hlen hv => ?_
 match vs,hlen with
 | [x],_ =>
  have h1:=zbp (hv 0 _ _ rfl rfl);subst h1;exact zgK n w hn
def RdI (s:List UInt8) (m:Nat) (st:St):Prop:=∃ i:Nat,i <= (unsgn s).length /\ m = (unsgn s).length - i /\ has st.tm [(0,.d (pS s)),(4,.d (pS (unsgn s))),(5,.d (pI (IntKind.wrap .i64 (dvL ((unsgn s).take i):Nat)))),(6,.d (pI i))] /\ st.bx = []
theorem rd_wrap (a:Nat) (c:Int) (h:48 <= c /\ c <= 57):IntKind.wrap .i64 (IntKind.wrap .i64 (IntKind.wrap .i64 (10 * IntKind.wrap .i64 (a:Int)) + c) - 48) = IntKind.wrap .i64 ((a * 10 + (c.toNat - 48):Nat):Int):=by
 simp only [IntKind.wrap_i64]; omega
theorem wrap_ok (a:Int):i64ok (IntKind.wrap .i64 a):=by unfold i64ok; rw [IntKind.wrap_i64]; omega
theorem readDec_fn (s:List UInt8) (hs:s.length <= 2147483647):FnV (env T hT) 150 [.d (pS s)] (.tup [.d (pI (rdN s)),.d (pB (rdB s))]):=by
 refine zaT (zal zg1) (by show 1 <= 57; decide) fun B hB => ?_
 unfold m_s_ReadDec;have hul:(unsgn s).length <= s.length:=by unfold unsgn; split; rw [List.length_drop]; omega; exact Nat.le_refl _
 refine mP ?_;refine mP ?_;refine zau (fun st => has st.tm [(0,.d (pS s)),(4,.d (pS (unsgn s)))] /\ st.bx = []) ?_ ?_
 ·refine mQ ?_
  refine po_q (v:=.d (pI s.length)) rfl rfl ?_
  cases s with
  | nil =>
   refine zan rfl rfl rfl ?_;refine mS ?_
   iterate 3 (refine zaf rfl ?_)
   refine mK ?_
   exact ⟨⟨rfl,rfl,trivial⟩,rfl⟩
  | cons c r =>
   refine zaj rfl rfl (decide_eq_true (show (((c :: r).length:Nat):Int) > 0 by simp only [List.length_cons]; omega)) ?_;(iterate 2 refine mS ?_);refine zex (k:=0) (b:=c) rfl rfl rfl rfl rfl ?_;by_cases hc:c = 45
   ·subst hc
    refine zaj rfl rfl rfl ?_;refine mT ?_;refine zac ?_;refine mS ?_;refine zbB (a:=1) (b:=(((45:UInt8) :: r).length)) (rs:=unsgn (45 :: r)) rfl rfl rfl rfl (by simp only [List.length_cons]; omega) (by simp [unsgn]) ?_;refine mN ?_;exact ⟨⟨rfl,rfl,trivial⟩,rfl⟩
   ·have hc':c.toNat ≠ 45:=fun h => hc (UInt8.toNat_inj.1 h)
    refine zan rfl rfl (by show ((c.toNat:Int) == 45) = false; rw [beq_eq_false_iff_ne]; omega) ?_;refine mK ?_;refine ⟨⟨rfl,?_,trivial⟩,rfl⟩
    have:unsgn (c :: r) = c :: r:=by unfold unsgn; rw [if_neg (by simpa using hc)]
    rw [this]; rfl
 rintro tm bx nt live ⟨ht,hbx⟩;obtain ⟨tm0,rfl⟩:=zah ht;simp only at hbx; subst hbx
 clear ht;obtain ⟨t,htu⟩:∃ t,t = unsgn s:=⟨_,rfl⟩;have no:(¬ (unsgn s ≠ [] /\ (unsgn s).length <= 19 /\ ∀ c ∈ unsgn s,48 <= c.toNat /\ c.toNat <= 57)) -> rdN s = 0 /\ rdB s = false:=fun h => rd_no fun n h1 h2 => h (unsgn_dec h1 h2)
 refine mP ?_;refine zau (fun st => has st.tm [(0,.d (pS s)),(4,.d (pS (unsgn s))),(5,.d (pI (IntKind.wrap .i64 (dvL (unsgn s):Nat))))] /\ st.bx = []) ?_ ?_
 ·refine mP ?_
  refine zai ?_;refine zaz (RdI s) (unsgn s).length ⟨0,Nat.zero_le _,rfl,⟨rfl,rfl,rfl,rfl,trivial⟩,rfl⟩ ?_;rintro m tm bx nt live ⟨i,hi,rfl,ht,hbx⟩;obtain ⟨tm0,rfl⟩:=zah ht;simp only at hbx; subst hbx
  clear ht;refine zab (zab (zac ?_));(iterate 2 refine mS ?_);refine po_q (v:=.d (pI (unsgn s).length)) rfl rfl ?_;refine po_b rfl rfl (fun b hb => ?_);refine zaa ?_;refine zbe (p:=(i:Int) < (unsgn s).length) hb rfl (fun h _ => ?_) (fun h _ => ?_)
  ·have hil:i < (unsgn s).length:=by omega
   refine zak ?_;refine zab (zai (zab (zab (zac ?_))));(iterate 2 refine mS ?_);refine zex (k:=i) (b:=(unsgn s)[i]) rfl rfl rfl rfl (List.getElem?_eq_getElem hil) ?_;have hct:=((unsgn s)[i]).toNat_lt;refine zbs (n:=(((unsgn s)[i]).toNat:Int)) rfl rfl (by rw [IntKind.wrap_i64]; omega) ?_;refine zad rfl (zdR (T:=T) (hT:=hT) (((unsgn s)[i]).toNat:Int) 48 57) ?_;by_cases hd:48 <= (((unsgn s)[i]).toNat:Int) /\ (((unsgn s)[i]).toNat:Int) <= 57
   case neg =>
    rw [decide_eq_false hd];obtain ⟨e1,e2⟩:=no fun ⟨_,_,h⟩ => hd (by have:=h _ (List.getElem_mem hil); omega)
    (iterate 2 refine mS ?_)
    iterate 3 (refine zaf rfl ?_)
    refine mT ?_;refine mP ?_;rw [e1,e2];exact mR
   rw [decide_eq_true hd];(iterate 3 refine mS ?_);refine po_q (v:=.d (pI (unsgn s).length)) rfl rfl ?_;by_cases h19:(unsgn s).length <= 19
   case neg =>
    obtain ⟨e1,e2⟩:=no fun ⟨_,h,_⟩ => h19 h
    refine zaj rfl rfl (decide_eq_true (show (((unsgn s).length:Nat):Int) > 19 by omega)) ?_;refine mT ?_;refine mP ?_;rw [e1,e2];exact mR
   refine zan rfl rfl (decide_eq_false (show ¬ (((unsgn s).length:Nat):Int) > 19 by omega)) ?_;refine mK ?_;refine zac ?_;refine mS ?_;refine po_q (v:=.d (pI (IntKind.wrap .i64 (10 * IntKind.wrap .i64 (dvL ((unsgn s).take i):Nat))))) rfl rfl ?_;(iterate 2 refine mS ?_);refine zex (k:=i) (b:=(unsgn s)[i]) rfl rfl rfl rfl (List.getElem?_eq_getElem hil) ?_;refine zbs (n:=(((unsgn s)[i]).toNat:Int)) rfl rfl (by rw [IntKind.wrap_i64]; omega) ?_;refine po_q (v:=.d (pI (IntKind.wrap .i64 (IntKind.wrap .i64 (10 * IntKind.wrap .i64 (dvL ((unsgn s).take i):Nat)) + (((unsgn s)[i]).toNat:Int))))) rfl rfl ?_
   have hst:IntKind.wrap .i64 (IntKind.wrap .i64 (IntKind.wrap .i64 (10 * IntKind.wrap .i64 (dvL ((unsgn s).take i):Nat)) + (((unsgn s)[i]).toNat:Int)) - 48) = IntKind.wrap .i64 (dvL ((unsgn s).take (i + 1)):Nat):=by
    rw [rd_wrap _ _ (by omega),zc1 _ _ hil,dvL_snoc,Int.toNat_natCast]
   refine po_q (v:=.d (pI (IntKind.wrap .i64 (dvL ((unsgn s).take (i + 1)):Nat)))) rfl (by rw [<- hst]; rfl) ?_;refine mN ?_;refine zac ?_;refine mS ?_;refine zaq (n:=((i + 1:Nat):Int)) rfl rfl rfl (by omega) (by omega) ?_;refine mN ?_;refine ⟨_,?_,i + 1,by omega,rfl,⟨rfl,rfl,rfl,rfl,trivial⟩,rfl⟩;show (unsgn s).length - (i + 1) < (unsgn s).length - i;omega
  ·refine zaH ?_
   have hie:i = (unsgn s).length:=by omega
   subst hie;refine ⟨⟨rfl,rfl,?_,trivial⟩,rfl⟩;show PV.d (pI (IntKind.wrap .i64 (dvL ((unsgn s).take (unsgn s).length):Nat))) = _;rw [List.take_length]
 rintro tm bx nt live ⟨ht,hbx⟩;obtain ⟨tm0,rfl⟩:=zah ht;simp only at hbx; subst hbx
 clear ht;obtain ⟨n,hn⟩:∃ n,n = (if unsgn s = s then IntKind.wrap .i64 (dvL (unsgn s):Nat) else IntKind.wrap .i64 (0 - IntKind.wrap .i64 (dvL (unsgn s):Nat))):=⟨_,rfl⟩;have hnok:i64ok n:=by rw [hn]; split <;> exact wrap_ok _
 refine zau (fun st => has st.tm [(0,.d (pS s)),(4,.d (pS (unsgn s))),(5,.d (pI n))] /\ st.bx = []) ?_ ?_
 ·refine mO ?_
  (iterate 2 refine mS ?_);refine po_nes rfl rfl rfl ?_;by_cases hu:unsgn s = s
  ·rw [decide_eq_true hu]
   refine zaa ?_;refine mwF ?_;refine zak ?_;refine ⟨⟨rfl,rfl,?_,trivial⟩,rfl⟩;rw [hn,if_pos hu]; rfl
  ·rw [decide_eq_false hu]
   refine zaa ?_;refine mwT ?_;refine zac ?_;refine mS ?_;refine po_q (v:=.d (pI n)) rfl (by rw [hn,if_neg hu]; rfl) ?_;refine mN ?_;exact ⟨⟨rfl,rfl,rfl,trivial⟩,rfl⟩
 rintro tm bx nt live ⟨ht,hbx⟩;obtain ⟨tm0,rfl⟩:=zah ht;simp only at hbx; subst hbx
 clear ht;refine zab (zab (zac ?_));refine mS ?_;refine po_eqs (lb:=[]) rfl rfl rfl ?_;by_cases h0:unsgn s = []
 ·rw [decide_eq_true h0]
  obtain ⟨e1,e2⟩:=no fun ⟨h,_⟩ => h h0
  refine mS ?_
  iterate 4 (refine zaf rfl ?_)
  refine mT ?_;refine mP ?_;rw [e1,e2];exact mR
 rw [decide_eq_false h0];(iterate 2 refine mS ?_);refine zaE (b:=true) (args:=[.d (pI n)]) rfl (fun _ => rfl) (fun _ => decT_fn (T:=T) (hT:=hT) n hnok) ?_;refine mS ?_;refine po_nes rfl rfl rfl ?_;by_cases hi:Lib.itoa n = s
 ·obtain ⟨e1,e2⟩:=rd_yes hnok hi
  rw [decide_eq_true hi];refine mK ?_;refine mP ?_;rw [e1,e2];exact mR
 ·have hrd:rdN s = 0 /\ rdB s = false:=rd_no fun n' h1 h2 => hi (by
   have:=rd_loop h1 h2
   rw [<- hn] at this;rw [this]; exact h2)
  rw [decide_eq_false hi];refine mT ?_;refine mP ?_;rw [hrd.1,hrd.2];exact mR
/- St2 -/
def rlC (S:Rl):List (List PC):=S.map fun d => dC d.1.1 d.1.2
def lvC (S:Rl):List PC:=S.map fun d => pB d.2
theorem rlC_len (S:Rl):(rlC S).length = S.length:=by simp [rlC]
theorem zeP (S:Rl):(lvC S).length = S.length:=by simp [lvC]
theorem erLL_app (a b:List (List PC)):erLL (a ++ b) = erLL a ++ erLL b:=by simp only [zbb,List.map_append]
theorem rw_one {z cells:List PC} {m i:Nat} (hc:cells = z.take m) (hi:i < cells.length):(z.drop i).take 1 = [cells[i]]:=by
 subst hc;rw [List.length_take] at hi;rw [List.getElem_take,List.drop_eq_getElem_cons (by omega)]; rfl
theorem RwAt.mono2 {n lo nt:Nat} {live live':List Nat} {c:PC} {bx:List (List PC)} {cells:List PC} (h:RwAt n lo live c bx cells) (hc:∀ t es,c = .sl t es -> 2 <= t /\ t < nt) (hl:∀ t ∈ live,2 <= t -> t < nt -> t ∈ live'):RwAt n lo live' c bx cells :=
 ⟨h.1,h.2.imp (fun ⟨t,a,b,d⟩ => ⟨t,a,b.imp id fun hb => hl t hb (hc t [] a).1 (hc t [] a).2,d⟩) id⟩
def RdP (nt:Nat) (live:List Nat) (nt1:Nat) (l1:List Nat) (td:Nat) (rows:List (List PC)) (lvc:PC) (bx:List (List PC)) (S:Rl):Prop :=
 2 <= td /\ OwnL nt1 l1 ([] ++ .sl td rows :: []) /\ (∀ u ∈ toksL ([] ++ .sl td rows :: []),nt <= u) /\ nt <= nt1 /\ (∀ t ∈ live,2 <= t -> t < nt -> t ∈ l1) /\ erLL rows = rlC S /\ RwAt 1 0 l1 lvc bx (lvC S) /\ (∀ t es,lvc = .sl t es -> 2 <= t /\ t < nt1 /\ t ≠ td)
def RdR (log:List UInt8) (nt:Nat) (live:List Nat) (x:PV) (b:List (List PC)) (nt':Nat) (live':List Nat):Prop :=
 ∃ (td:Nat) (rows:List (List PC)) (lvc:PC) (S0:Rl),x = .tup [.d (.sl td rows),.d lvc,.d (pB (logR log).isSome)] /\ RdP nt live nt' live' td rows lvc b S0 /\ S0.length <= log.length /\ ∀ S,logR log = some S -> S0 = S
def RdJ (log:List UInt8) (nt:Nat) (live:List Nat) (m:Nat) (st:St):Prop:=∃ (i td:Nat) (rows:List (List PC)) (lvc:PC) (S:Rl),i <= (fcs log).length /\ m = (fcs log).length - i /\ rdL [] ((fcs log).take i) = some S /\
 has st.tm [(0,.d (pS log)),(5,.d (.sl td rows)),(6,.d lvc),(7,.d (.sl 0 (pSr (fcs log)))),(8,.d (pI (fend log))),(9,.d (pI i))] /\ RdP nt live st.nt st.live td rows lvc st.bx S
theorem zeQ (log:List UInt8):(fcs log).length <= log.length:=by
 have h1:=(zgT (l:=log) 0).2.2;have h2:=fend_le log;unfold fcs fend at *;rw [List.length_map]; omega
theorem fcs_el {log:List UInt8} {c:List UInt8} (h:c ∈ fcs log):c.length <= 100000:=by
 unfold fcs at h;obtain ⟨f,hf,rfl⟩:=List.mem_map.1 h;exact ((zgT (l:=log) 0).1 f hf).2.2
theorem rdP_S {log:List UInt8} {i:Nat} {S:Rl} (h:rdL [] ((fcs log).take i) = some S):S.length <= log.length:=by
 have h1:=zfT _ _ _ h;have h2:=zeQ log;rw [List.length_take] at h1;simp only [List.length_nil] at h1; omega
theorem rdP_push {nt nt1 n2 td:Nat} {live l1 l2:List Nat} {rows:List (List PC)} {lvc:PC} {bx:List (List PC)} {S:Rl} {c1 c2:PC} {d:Dc} (hP:RdP nt live nt1 l1 td rows lvc bx S) (hn:nt1 <= n2) (h22:2 <= n2) (hN:NewL nt1 n2 [c1,c2]) (hm:∀ t ∈ toksL [c1,c2],t ∈ l2) (hl:∀ t ∈ l1,2 <= t -> t < nt1 -> t ∈ l2) (he:erL [c1,c2] = dC d.1 d.2) :
  OwnL (n2 + 2) ((n2 + 1) :: (n2 :: l2).filter (· != td)) ([] ++ .sl (n2 + 1) (rows ++ [[c1,c2]]) :: []) /\ (∀ u ∈ toksL ([] ++ .sl (n2 + 1) (rows ++ [[c1,c2]]) :: []),nt <= u) /\ (∀ t ∈ live,2 <= t -> t < nt -> t ∈ (n2 + 1) :: (n2 :: l2).filter (· != td)) /\ erLL (rows ++ [[c1,c2]]) = rlC (S ++ [(d,true)]) /\
  RwAt 1 0 ((n2 + 1) :: (n2 :: l2).filter (· != td)) lvc bx (lvC S):=by
 obtain ⟨h2,hown,hge,hnt,hlv,her,hR,hlc⟩:=hP;obtain ⟨o1,o2⟩:=zd3 hown (.inr h2) hge hnt hn h22 hN hm hl;refine ⟨o1,o2,fun t ht ht2 hlt => ?_,?_,?_⟩
 ·have hne:t ≠ td:=fun e => by
   have:=hge td (by rw [List.nil_append]; show td ∈ PC.toks (.sl td rows) ++ _; rw [zaF h2]; simp)
   omega
  exact List.mem_cons_of_mem _ (List.mem_filter.2 ⟨List.mem_cons_of_mem _ (hl t (hlv t ht ht2 hlt) ht2 (by omega)),by simpa using hne⟩)
 ·rw [erLL_app,her]
  unfold rlC;rw [List.map_append]
  congr 1
  show [erL [c1,c2]] = [dC d.1 d.2];rw [he]
 ·refine ⟨hR.1,hR.2.imp (fun ⟨t,e,a,b⟩ => ⟨t,e,.inr ?_,b⟩) id⟩
  obtain ⟨k1,k2,k3⟩:=hlc t [] e;exact List.mem_cons_of_mem _ (List.mem_filter.2 ⟨List.mem_cons_of_mem _ (hl t (a.resolve_left (by omega)) k1 k2),by simpa using k3⟩)
theorem stp_no {S:Rl} {b:UInt8} {tl:List UInt8} (h1:(decide (b = 112) && (gdD tl).isSome) = false) (h2:(decide (b = 114) && (rdB tl && rlv S (rdN tl))) = false):stp S (b :: tl) = none:=by
 unfold stp;simp only;split
 ·rename_i h
  rw [decide_eq_true h,Bool.true_and] at h1;rw [Option.isSome_eq_false_iff,Option.isNone_iff_eq_none] at h1;rw [h1]; rfl
 ·split
  ·rename_i h
   rw [decide_eq_true h,Bool.true_and] at h2;rw [if_neg (by rw [h2]; decide)]
  ·rfl
theorem l14Read_g {log:List UInt8} (hs:log.length <= 2147483647) (nt:Nat) (live:List Nat) (hnt:2 <= nt) :
  FnG (env T hT) 102 [.d (pS log)] [] nt live (fun x b n' l => RdR log nt live x b n' l):=by
 refine zaZ (zal zgZ) (by show 1 <= 109; decide) fun B hB => ?_
 unfold m_s_l14Read;refine mP ?_;refine mO ?_;refine zay (es:=[]) rfl ?_;refine mN ?_;refine mO ?_;refine zay (es:=[]) rfl ?_;refine mN ?_;refine mQ ?_;refine zad rfl (zeO (T:=T) (hT:=hT) log hs) ?_;refine mN ?_;have hflen:=zeQ log;refine zau (fun st => ∃ m,RdJ log nt live m st /\ m = 0) ?_ ?_
 ·refine mP ?_
  refine zai ?_;refine zaz (RdJ log nt live) (fcs log).length ⟨0,nt,[],.sl (nt + 1) [],[],Nat.zero_le _,rfl,rfl,⟨rfl,rfl,rfl,rfl,rfl,rfl,trivial⟩,hnt,?_,?_,by show nt <= nt + 1 + 1; omega,fun t ht _ _ => List.mem_cons_of_mem _ (List.mem_cons_of_mem _ ht),rfl,⟨Nat.zero_le _,.inl ⟨nt + 1,rfl,.inr (List.mem_cons_self ..),rfl⟩⟩,?_⟩ ?_
  ·exact (zdz hnt live).1.mono2 (by show nt + 1 <= nt + 1 + 1; omega) fun t ht _ _ => List.mem_cons_of_mem _ ht
  ·exact (zdz hnt live).2
  ·intro t es h
   simp only [PC.sl.injEq] at h;obtain ⟨rfl,_⟩:=h;exact ⟨by omega,by show nt + 1 < nt + 1 + 1; omega,by omega⟩
  rintro m tm bx nt1 l1 ⟨i,td,rows,lvc,S,hi,rfl,hrd,ht,hP⟩;obtain ⟨tm0,rfl⟩:=zah ht;simp only at hP;clear ht;have hSl:=rdP_S hrd;obtain ⟨h2,hown,hge,hnt1,hlv,her,hR,hlc⟩:=id hP;have hrl:rows.length = S.length:=(zcx her).trans (rlC_len S);refine zab (zab (zac ?_));(iterate 2 refine mS ?_);refine zaI (n:=(fcs log).length) rfl rfl (zaY _) ?_;refine po_b rfl rfl (fun b hb => ?_);refine zaa ?_;refine zbe (p:=(i:Int) < (fcs log).length) hb rfl (fun h _ => ?_) (fun h _ => ?_)
  ·have hil:i < (fcs log).length:=by omega
   obtain ⟨c,hc⟩:∃ c,c = (fcs log)[i]:=⟨_,rfl⟩;have hcl:=fcs_el (log:=log) (c:=c) (by rw [hc]; exact List.getElem_mem hil);have hrd1:rdL [] ((fcs log).take (i + 1)) = stp S c:=by rw [List.take_succ_eq_append_getElem hil,zfS,hrd,hc]; rfl
   have hbad:stp S c = none -> logR log = none:=fun h => by
    unfold logR;split
    ·exact zhX _ _ (i + 1) (by rw [hrd1]; exact h)
    ·rfl
   have hget:(pSr (fcs log))[((i:Nat):Int).toNat]? = some [pS c]:=by rw [Int.toNat_natCast,hc]; exact zbA hil
   refine zak ?_;refine zab (zai (zab (zab (zac ?_))));(iterate 2 refine mS ?_);refine zaX (es:=pSr (fcs log)) (e:=[pS c]) rfl rfl rfl ⟨by omega,hget⟩ rfl ?_;refine mS ?_;refine po_eqs (lb:=[]) rfl rfl rfl ?_;refine zaa ?_
   cases c with
   | nil =>
    rw [decide_eq_true rfl];refine mwT ?_;refine mP ?_;have hno:=hbad rfl
    refine zag ⟨.inr rfl,[.d (.sl td rows),.d lvc,.d (pB false)],rfl,td,rows,lvc,S,by rw [hno]; rfl,hP,hSl,fun S' h => by rw [hno] at h; cases h⟩
   | cons b tl =>
   rw [decide_eq_false (by simp)];refine mwF ?_;refine zak ?_;refine mO ?_;(iterate 2 refine mS ?_);refine zaX (es:=pSr (fcs log)) (e:=[pS (b :: tl)]) rfl rfl rfl ⟨by omega,hget⟩ rfl ?_;refine mS ?_;have htl:tl.length <= 100000:=by simp only [List.length_cons] at hcl; omega
   refine zbB (a:=1) (b:=(b :: tl).length) (rs:=tl) rfl rfl rfl rfl (by simp only [List.length_cons]; omega) (by simp) ?_;refine zad rfl (readDec_fn (T:=T) (hT:=hT) tl (by omega)) ?_;refine mN ?_;refine mO ?_;(iterate 2 refine mS ?_);refine zaX (es:=pSr (fcs log)) (e:=[pS (b :: tl)]) rfl rfl rfl ⟨by omega,hget⟩ rfl ?_;refine mS ?_;refine zbB (a:=1) (b:=(b :: tl).length) (rs:=tl) rfl rfl rfl rfl (by simp only [List.length_cons]; omega) (by simp) ?_;refine po_g rfl (FnG.lift0 (getDict_g (T:=T) (hT:=hT) (s:=tl) (by omega) nt1 l1 (by omega)) (args:=[.d (pS tl)]) ⟨trivial,trivial⟩) ?_;rintro x b0 n2 l2 ⟨hb0,hD⟩;have hb0:=hb0.symm; subst hb0
   obtain ⟨c1,c2,d,rfl,hN,hm2,hl2,hn2,hed,hgd⟩:=hD.gd;(iterate 3 refine mS ?_);refine zcF (cs:=[c1,c2]) rfl rfl rfl rfl ?_;refine mN ?_;have hR1:RwAt 1 0 l2 lvc (bx ++ [[c1,c2]]) (lvC S):=(hR.mono2 (fun t es h => ⟨(hlc t es h).1,(hlc t es h).2.1⟩) hl2).cong (by simp) fun q _ hq => List.getElem?_append_left hq
   have hP1:RdP nt live n2 l2 td rows lvc (bx ++ [[c1,c2]]) S:=⟨h2,hown.mono2 hn2 hl2,hge,by omega,fun t ht h2 hlt => hl2 t (hlv t ht h2 hlt) h2 (by omega),her,hR1,fun t es h => ⟨(hlc t es h).1,by have:=(hlc t es h).2.1; omega,(hlc t es h).2.2⟩⟩;refine zai ?_;refine zau (fun st => has st.tm [(0,.d (pS log)),(5,.d (.sl td rows)),(6,.d lvc),(7,.d (.sl 0 (pSr (fcs log)))),(8,.d (pI (fend log))),(9,.d (pI i)),(10,.d (pI (rdN tl))),(11,.d (pB (rdB tl))),(12,.ref bx.length 0),(54,.d (pB (decide (b = 112) && (gdD tl).isSome)))] /\ st.bx = bx ++ [[c1,c2]] /\ n2 = st.nt /\ l2 = st.live) ?_ ?_
   ·refine zac ?_
    (iterate 2 refine mS ?_);refine zaX (es:=pSr (fcs log)) (e:=[pS (b :: tl)]) rfl rfl rfl ⟨by omega,hget⟩ rfl ?_;refine mS ?_;refine zex (k:=0) (b:=b) rfl rfl rfl rfl rfl ?_;by_cases hb:b = 112
    ·subst hb
     refine zaj rfl rfl rfl ?_;refine mN ?_;exact ⟨⟨rfl,rfl,rfl,rfl,rfl,rfl,rfl,rfl,rfl,rfl,trivial⟩,rfl,rfl,rfl⟩
    ·have hb':b.toNat ≠ 112:=fun h => hb (UInt8.toNat_inj.1 h)
     refine zan rfl rfl (by show ((b.toNat:Int) == 112) = false; rw [beq_eq_false_iff_ne]; omega) ?_;refine mS ?_;refine zaf rfl ?_;refine mN ?_;rw [decide_eq_false hb];exact ⟨⟨rfl,rfl,rfl,rfl,rfl,rfl,rfl,rfl,rfl,rfl,trivial⟩,rfl,rfl,rfl⟩
   rintro tm bx1 n3 l3 ⟨ht,rfl,rfl,rfl⟩;obtain ⟨tm1,rfl⟩:=zah ht;clear ht tm0
   cases hf:(decide (b = 112) && (gdD tl).isSome) with
   | true =>
    simp only [Bool.and_eq_true,decide_eq_true_eq] at hf;obtain ⟨rfl,hf⟩:=hf;obtain ⟨d',hd'⟩:=Option.isSome_iff_exists.1 hf;rw [hd'] at hgd;have hgd:d' = d:=hgd;subst hgd;have hst:stp S (112 :: tl) = some (S ++ [(d',true)]):=by unfold stp; simp only [if_true,hd',Option.map_some]
    refine mwT ?_;refine mQ ?_;refine zbi (cs:=[c1,c2]) rfl rfl (za1 _ _) (Nat.le_refl 2) rfl ?_;refine zay (es:=[[c1,c2]]) rfl ?_
    have hrw:∀ e ∈ rows,e.length = 2:=fun e he => by
     have h1:erL e ∈ erLL rows:=by rw [zbb]; exact List.mem_map_of_mem he
     rw [her] at h1;obtain ⟨d0,_,h3⟩:=List.mem_map.1 h1
     have:=congrArg List.length h3
     rw [zaU,List.length_map] at this; exact this.symm
    have htl1:td ∈ l2:=by
     obtain ⟨a1,a2⟩:=hown.mem td (by rw [List.nil_append]; show td ∈ PC.toks (.sl td rows) ++ _; rw [zaF h2]; simp);exact hl2 td a1 h2 a2
    refine zcJ (t:=td) (t':=n2) (es:=rows) (ds:=[[c1,c2]]) rfl rfl (.inr (List.mem_cons_of_mem _ htl1)) (by simp only [List.length_singleton]; omega) (fun e he => by simp only [List.mem_singleton] at he; subst he; rfl) hrw ?_;refine mN ?_;obtain ⟨o1,o2,o3,o4,o5⟩:=rdP_push (d:=d') hP hn2 (by omega) hN hm2 hl2 hed;refine zac ?_;refine mS ?_;refine zay (es:=[[pB true]]) rfl ?_
    have hR2:RwAt 1 0 ((n2 + 1 + 1) :: (n2 + 1) :: (n2 :: l2).filter (· != td)) lvc (bx ++ [[c1,c2]]) (lvC S):=⟨Nat.zero_le _,(hR1.2.imp (fun ⟨t,e,a,b⟩ => ⟨t,e,.inr (by
     obtain ⟨k1,k2,k3⟩:=hlc t [] e
     have:=o5.2
     refine List.mem_cons_of_mem _ ?_
     rcases this with ⟨t',e',a',_⟩ | ⟨_,_,_,_,e',_⟩
     ·rw [e] at e'; simp only [PC.sl.injEq,and_true] at e'; subst e'; exact a'.resolve_left (by omega)
     ·rw [e] at e'; cases e'),b⟩) id)⟩
    refine po_appR (m:=S.length) (ds:=[[pB true]]) hR2 (by simp) (by rw [zeP,Nat.one_mul]) (by decide) (by simp only [List.length_singleton]; omega) (fun e he => by simp only [List.mem_singleton] at he; subst he; rfl) rfl rfl ?_;intro lvc' bx' hR' _;refine mN ?_;refine zac ?_;refine mS ?_;refine zaq (n:=((i + 1:Nat):Int)) rfl rfl rfl (by omega) (by omega) ?_;refine mN ?_;have hne:lvC S ++ [[pB true]].flatten ≠ []:=by simp
    obtain ⟨p3,len3,cap3,z3,e3,_⟩:=hR'.row hne;refine ⟨_,?_,i + 1,n2 + 1,rows ++ [[c1,c2]],lvc',S ++ [(d',true)],by omega,rfl,by rw [hrd1]; exact hst,⟨rfl,rfl,rfl,rfl,rfl,rfl,trivial⟩,by omega,o1.mono2 (by show n2 + 2 <= n2 + 1 + 1 + 1; omega) (fun t ht _ _ => List.mem_cons_of_mem _ ht),o2,by show nt <= n2 + 1 + 1 + 1; omega,fun t ht h h' => List.mem_cons_of_mem _ (o3 t ht h h'),o4,?_,fun t es h => by rw [e3] at h; cases h⟩
    ·show (fcs log).length - (i + 1) < (fcs log).length - i
     omega
    ·have:lvC (S ++ [(d',true)]) = lvC S ++ [[pB true]].flatten:=by simp [lvC]
     rw [this]; exact hR'
   | false =>
   refine mwF ?_;refine zau (fun st => has st.tm [(0,.d (pS log)),(5,.d (.sl td rows)),(6,.d lvc),(7,.d (.sl 0 (pSr (fcs log)))),(8,.d (pI (fend log))),(9,.d (pI i)),(10,.d (pI (rdN tl))),(71,.d (pB (decide (b = 114) && (rdB tl && rlv S (rdN tl)))))] /\ st.bx = bx ++ [[c1,c2]] /\ n2 = st.nt /\ l2 = st.live) ?_ ?_
   ·refine zac ?_
    (iterate 2 refine mS ?_);refine zaX (es:=pSr (fcs log)) (e:=[pS (b :: tl)]) rfl rfl rfl ⟨by omega,hget⟩ rfl ?_;refine mS ?_;refine zex (k:=0) (b:=b) rfl rfl rfl rfl rfl ?_;by_cases hb:b = 114
    case neg =>
     have hb':b.toNat ≠ 114:=fun h => hb (UInt8.toNat_inj.1 h)
     refine zan rfl rfl (by show ((b.toNat:Int) == 114) = false; rw [beq_eq_false_iff_ne]; omega) ?_;refine mS ?_;refine zaf rfl ?_;(iterate 2 refine mS ?_)
     iterate 4 (refine zaf rfl ?_)
     (iterate 2 refine mS ?_)
     iterate 5 (refine zaf rfl ?_)
     refine mN ?_;rw [decide_eq_false hb];exact ⟨⟨rfl,rfl,rfl,rfl,rfl,rfl,rfl,rfl,trivial⟩,rfl,rfl,rfl⟩
    subst hb;refine zaj rfl rfl rfl ?_;(iterate 2 refine mS ?_)
    cases hrb:rdB tl with
    | false =>
     (iterate 2 refine mS ?_)
     iterate 4 (refine zaf rfl ?_)
     (iterate 2 refine mS ?_)
     iterate 5 (refine zaf rfl ?_)
     refine mN ?_
     exact ⟨⟨rfl,rfl,rfl,rfl,rfl,rfl,rfl,rfl,trivial⟩,rfl,rfl,rfl⟩
    | true =>
    (iterate 4 refine mS ?_);refine zaI (n:=S.length) rfl rfl hrl ?_;refine zaE (b:=true) (args:=[.d (pI (rdN tl)),.d (pI 1),.d (pI S.length)]) rfl (fun _ => rfl) (fun _ => zdR (T:=T) (hT:=hT) (rdN tl) 1 S.length) ?_;by_cases hin:1 <= rdN tl /\ rdN tl <= (S.length:Int)
    case neg =>
     have e1:rlv S (rdN tl) = false:=by unfold rlv; rw [decide_eq_false hin]; rfl
     rw [decide_eq_false hin,e1];(iterate 2 refine mS ?_)
     iterate 5 (refine zaf rfl ?_)
     refine mN ?_;exact ⟨⟨rfl,rfl,rfl,rfl,rfl,rfl,rfl,rfl,trivial⟩,rfl,rfl,rfl⟩
    obtain ⟨k,hk⟩:∃ k:Nat,rdN tl - 1 = k:=⟨(rdN tl - 1).toNat,by omega⟩;have hkS:k < S.length:=by omega
    have e1:rlv S (rdN tl) = S[k].2:=by
     unfold rlv;rw [decide_eq_true hin,hk,Int.toNat_natCast,zbC hkS]; rfl
    rw [decide_eq_true hin,e1];(iterate 4 refine mS ?_);refine zaR (n:=(k:Int)) rfl rfl rfl hk (by omega) ?_;refine po_ixR (i:=k) hR1 (by decide) rfl (by rw [zeP]; omega) rfl rfl rfl ?_;intro p len cap z e3 h3 h4 h5 h6 h7 h8 h9;have hone:=rw_one h7 (i:=k) (by rw [zeP]; exact hkS);have hlk:(lvC S)[k]'(by rw [zeP]; exact hkS) = pB S[k].2:=by simp [lvC]
    refine zbi (cs:=z) (v:=.d (pB S[k].2)) rfl rfl h4 h9 (by rw [Nat.one_mul,hone,hlk]; rfl) ?_;refine mN ?_;exact ⟨⟨rfl,rfl,rfl,rfl,rfl,rfl,rfl,rfl,trivial⟩,rfl,rfl,rfl⟩
   rintro tm bx1 n3 l3 ⟨ht,rfl,rfl,rfl⟩;obtain ⟨tm2,rfl⟩:=zah ht;clear ht tm1
   cases hf2:(decide (b = 114) && (rdB tl && rlv S (rdN tl))) with
   | false =>
    refine mwF ?_;refine mP ?_;have hno:=hbad (stp_no hf hf2)
    refine zag ⟨.inr rfl,[.d (.sl td rows),.d lvc,.d (pB false)],rfl,td,rows,lvc,S,by rw [hno]; rfl,hP1,hSl,fun S' h => by rw [hno] at h; cases h⟩
   | true =>
    simp only [Bool.and_eq_true,decide_eq_true_eq] at hf2;obtain ⟨rfl,hrb,hlvv⟩:=hf2
    have hin:1 <= rdN tl /\ rdN tl <= (S.length:Int):=by
     unfold rlv at hlvv;simp only [Bool.and_eq_true,decide_eq_true_eq] at hlvv; exact hlvv.1
    obtain ⟨k,hk⟩:∃ k:Nat,rdN tl - 1 = k:=⟨(rdN tl - 1).toNat,by omega⟩;have hkS:k < S.length:=by omega
    have hst:stp S (114 :: tl) = some (S.set k (S[k].1,false)):=by
     unfold stp;simp only;rw [if_neg (by decide),if_pos trivial,if_pos (by rw [hrb,hlvv]; rfl),hk,Int.toNat_natCast,zbC hkS]
    refine mwT ?_;refine zac ?_;(iterate 2 refine mS ?_);refine zaR (n:=(k:Int)) rfl rfl rfl hk (by omega) ?_;refine po_ixR (i:=k) hR1 (by decide) rfl (by rw [zeP]; omega) rfl rfl rfl ?_;intro p len cap z e3 h3 h4 h5 h6 h7 h8 h9;refine zaw (p:=p) (o':=1 * k) (cs:=[pB false]) (z:=z) rfl rfl h4 ⟨rfl,h9⟩ rfl ?_;refine zaa ?_;refine zac ?_;refine mS ?_;refine zaq (n:=((i + 1:Nat):Int)) rfl rfl rfl (by omega) (by omega) ?_;refine mN ?_;have hset:=RwAt.set (live:=l2) (o:=1 * k) (v:=pB false) hR1.1 h3 h4 h5 h6 (by omega);rw [<- h7,<- e3] at hset;refine ⟨_,?_,i + 1,td,rows,lvc,S.set k (S[k].1,false),by omega,rfl,by rw [hrd1]; exact hst,⟨rfl,rfl,rfl,rfl,rfl,rfl,trivial⟩,h2,hP1.2.1,hP1.2.2.1,hP1.2.2.2.1,hP1.2.2.2.2.1,?_,?_,hP1.2.2.2.2.2.2.2⟩
    ·show (fcs log).length - (i + 1) < (fcs log).length - i
     omega
    ·rw [her]
     unfold rlC;rw [List.map_set];refine (List.ext_getElem (by simp) fun j h1 h2 => ?_);rw [List.getElem_set];split
     ·rename_i hjk; subst hjk; simp
     ·rfl
    ·have:lvC (S.set k (S[k].1,false)) = (lvC S).set (1 * k) (pB false):=by unfold lvC; rw [List.map_set,Nat.one_mul]
     rw [this]; exact hset
  ·refine zaH ?_
   have hie:i = (fcs log).length:=by omega
   subst hie;exact ⟨0,⟨_,td,rows,lvc,S,Nat.le_refl _,by omega,hrd,⟨rfl,rfl,rfl,rfl,rfl,rfl,trivial⟩,hP⟩,rfl⟩
 rintro tm bx nt1 l1 ⟨_,⟨i,td,rows,lvc,S,hi,hm,hrd,ht,hP⟩,rfl⟩;obtain ⟨tm0,rfl⟩:=zah ht;simp only at hP;clear ht;have hie:i = (fcs log).length:=by omega
 subst hie;rw [List.take_length] at hrd;have hSl:S.length <= log.length:=rdP_S (i:=(fcs log).length) (by rw [List.take_length]; exact hrd);refine mO ?_;(iterate 4 refine mS ?_);refine po_q (v:=.d (pI log.length)) rfl rfl ?_;by_cases h1:fend log = log.length
 case neg =>
  have hno:logR log = none:=by unfold logR; rw [if_neg (fun h => h1 h.1)]
  refine zan rfl rfl (by show ((fend log:Int) == (log.length:Int)) = false; rw [beq_eq_false_iff_ne]; omega) ?_;refine mS ?_
  iterate 3 (refine zaf rfl ?_)
  refine mN ?_;refine zag ⟨.inr rfl,[.d (.sl td rows),.d lvc,.d (pB false)],rfl,td,rows,lvc,S,by rw [hno]; rfl,hP,hSl,fun S' h => by rw [hno] at h; cases h⟩
 refine zaj rfl rfl (by show ((fend log:Int) == (log.length:Int)) = true; rw [beq_iff_eq]; omega) ?_;(iterate 2 refine mS ?_);refine zaI (n:=(fcs log).length) rfl rfl (zaY _) ?_;by_cases h40:(fcs log).length <= 40
 ·have hyes:logR log = some S:=by unfold logR; rw [if_pos ⟨h1,h40⟩,hrd]
  refine zaj rfl rfl (decide_eq_true (show (((fcs log).length:Nat):Int) <= 40 by omega)) ?_;refine mN ?_;refine zag ⟨.inr rfl,[.d (.sl td rows),.d lvc,.d (pB true)],rfl,td,rows,lvc,S,by rw [hyes]; rfl,hP,hSl,fun S' h => by rw [hyes] at h; simpa using h⟩
 ·have hno:logR log = none:=by unfold logR; rw [if_neg (fun h => h40 h.2)]
  refine zan rfl rfl (decide_eq_false (show ¬ (((fcs log).length:Nat):Int) <= 40 by omega)) ?_;refine mN ?_;refine zag ⟨.inr rfl,[.d (.sl td rows),.d lvc,.d (pB false)],rfl,td,rows,lvc,S,by rw [hno]; rfl,hP,hSl,fun S' h => by rw [hno] at h; cases h⟩
/- St3 -/
def stC (log:List UInt8) (safe:Int):List PC:=[pS log,pI safe]
theorem lwL_map {α:Type} (f:α -> PC) (h:∀ a,(f a).lw 0):∀ l:List α,lwL 0 (l.map f)
 | [] => trivial
 | a :: l => ⟨h a,lwL_map f h l⟩
theorem lvC_lw (S:Rl):lwL 0 (lvC S):=lwL_map (fun d:Dc × Bool => pB d.2) (fun _ => by simp only [pB,PC.lw]) S
def RdL (log:List UInt8) (bx:List (List PC)) (nt:Nat) (live:List Nat) (x:PV) (b:List (List PC)) (nt':Nat) (live':List Nat):Prop :=
 ∃ (rest:List (List PC)) (td:Nat) (rows:List (List PC)) (lvc:PC) (S0:Rl),b = bx ++ rest /\ x = .tup [.d (.sl td rows),.d lvc,.d (pB (logR log).isSome)] /\ 2 <= td /\ NewL nt nt' [.sl td rows] /\ (∀ u ∈ toksL [.sl td rows],u ∈ live') /\ (∀ t ∈ live,2 <= t -> t < nt -> t ∈ live') /\ nt <= nt' /\
  erLL rows = rlC S0 /\ RwAt 1 bx.length live' lvc b (lvC S0) /\ S0.length <= log.length /\ ∀ S,logR log = some S -> S0 = S
theorem zg2 {log:List UInt8} (hs:log.length <= 2147483647) (bx:List (List PC)) (nt:Nat) (live:List Nat) (hnt:2 <= nt) :
  FnG (env T hT) 102 [.d (pS log)] bx nt live (RdL log bx nt live):=by
 refine (FnG.liftR (l14Read_g (T:=T) (hT:=hT) hs nt live hnt) ⟨trivial,trivial⟩).mono ?_;rintro x b n l ⟨x0,b0,rfl,rfl,td,rows,lvc,S0,rfl,⟨h2,hown,hge,hn,hlv,her,hR,hlc⟩,hSl,hS⟩;refine ⟨_,td,rows,lvc.shB bx.length,S0,rfl,?_,h2,⟨hown.own,hown.nd,fun u hu => ⟨hge u hu,(hown.mem u hu).2⟩⟩,fun u hu => (hown.mem u hu).1,hlv,hn,her,?_,hSl,hS⟩
 ·simp only [PV.shB,shBs]
  rw [zdp (c:=.sl td rows) (zaM (n:=0) hown.own).1,zdp (c:=pB (logR log).isSome) trivial]
 ·have:=hR.shB (bx:=bx) (lvC_lw S0) rfl
  rw [Nat.zero_add] at this; exact this
theorem logR_len {log:List UInt8} {S:Rl} (h:logR log = some S):S.length <= log.length /\ S.length <= 40 /\ (fcs log).length <= 40 /\ fend log = log.length:=by
 unfold logR at h
 split at h
 ·rename_i hh
  have h1:=zfT _ _ _ h;have h2:=zeQ log;simp only [List.length_nil] at h1;exact ⟨by omega,by omega,hh.2,hh.1⟩
 ·cases h
theorem zfU {log:List UInt8} {safe:Int} {S:Rl} (h:stR log safe = some S):logR log = some S /\ 0 <= safe /\ safe <= log.length /\ (safe = 0 \/ safe.toNat ∈ fes log):=by
 unfold stR at h
 split at h
 ·rename_i hh
  refine ⟨h,hh.1,?_,hh.2⟩
  rcases hh.2 with h0 | h0
  ·omega
  ·have:=fes_le h0; omega
 ·cases h
theorem stR_no {log:List UInt8} {safe:Int} (h:¬ (0 <= safe /\ safe <= log.length)):stR log safe = none:=by
 unfold stR;rw [if_neg];rintro ⟨h0,h1⟩
 rcases h1 with h1 | h1
 ·omega
 ·have:=fes_le h1; omega
theorem storeOk_fn (log:List UInt8) (safe:Int) (hs:log.length <= 2147483647):FnV (env T hT) 37 [.ag (stC log safe)] (.d (pB (stR log safe).isSome)):=by
 refine zaT (zal zgX) (by show 1 <= 39; decide) fun B hB => ?_
 unfold m_s_StoreOk;refine mO ?_;refine zbo (cs:=stC log safe) rfl ?_;refine mN ?_;refine mO ?_;(iterate 2 refine mS ?_);refine po_g rfl (zg2 (T:=T) (hT:=hT) hs _ _ _ (by decide)) ?_;rintro x b n l ⟨rest,td,rows,lvc,S0,rfl,rfl,h2,hN,hm,hlv,hn,her,hR,hSl,hS⟩;refine mN ?_;refine zab (zab (zac ?_))
 cases hl:logR log with
 | none =>
  have hno:stR log safe = none:=by unfold stR; rw [hl]; split <;> rfl
  (iterate 3 refine mS ?_)
  iterate 7 (refine zaf rfl ?_)
  refine mT ?_;refine mP ?_;rw [hno]
  exact mR
 | some S =>
 (iterate 5 refine mS ?_);(iterate 2 refine mS ?_);refine po_q (v:=.d (pI log.length)) rfl rfl ?_;refine zaE (b:=true) (args:=[.d (pI safe),.d (pI 0),.d (pI log.length)]) rfl (fun _ => rfl) (fun _ => zdR (T:=T) (hT:=hT) safe 0 log.length) ?_;by_cases hin:0 <= safe /\ safe <= (log.length:Int)
 case neg =>
  rw [decide_eq_false hin];refine mT ?_;refine mP ?_;rw [stR_no hin];exact mR
 rw [decide_eq_true hin];refine mK ?_;refine mO ?_;(iterate 4 refine mS ?_);refine zbB (a:=0) (b:=safe.toNat) (rs:=log.take safe.toNat) rfl rfl rfl (zaN (i:=safe) rfl (by omega)) (by omega) (by simp) ?_;refine zad rfl (zeO (T:=T) (hT:=hT) (log.take safe.toNat) (by rw [List.length_take]; omega)) ?_;refine mN ?_;refine mO ?_;(iterate 3 refine mS ?_);have hsafe:=stR_safe (l:=log) hin.1 hin.2;by_cases he:(fend (log.take safe.toNat):Int) = safe
 ·have hyes:stR log safe = some S:=by unfold stR; rw [if_pos ⟨hin.1,hsafe.1 he⟩,hl]
  refine zaj rfl rfl (by show ((fend (log.take safe.toNat):Int) == safe) = true; rw [beq_iff_eq]; exact he) ?_;refine mN ?_;rw [hyes];exact mR
 ·have hno:stR log safe = none:=by unfold stR; rw [if_neg (fun h => he (hsafe.2 h.2))]
  refine zan rfl rfl (by show ((fend (log.take safe.toNat):Int) == safe) = false; rw [beq_eq_false_iff_ne]; exact he) ?_;refine mN ?_;rw [hno];exact mR
theorem many_fn (log:List UInt8) (safe:Int) (hs:log.length <= 2147483647):FnV (env T hT) 106 [.ag (stC log safe)] (.d (pI (fcs log).length)):=by
 refine zaT (zal zg0) (by show 1 <= 13; decide) fun B hB => ?_
 unfold m_s_l14Many;refine mO ?_;refine zbo (cs:=stC log safe) rfl ?_;refine mN ?_;refine mO ?_;(iterate 2 refine mS ?_);refine zad rfl (zeO (T:=T) (hT:=hT) log hs) ?_;refine mN ?_;refine mQ ?_;refine zaI (n:=(fcs log).length) rfl rfl (zaY _) ?_;refine mN ?_;exact mR
theorem pframe_fn (l:List UInt8) (hl:l.length <= 2147483647):FnV (env T hT) 108 [.d (pS l)] (.d (pS (frame l))):=by
 refine FnV.old rfl fun w C vs hF _ _ hlen hv => ?_
 match vs,hlen with
 | [x],_ =>
  have h1:=zbW (hv 0 _ _ rfl rfl);subst h1;exact zdc l w (by omega)
noncomputable def pubS (log:List UInt8) (safe:Int) (d:Dc):Option Rl:=match stR log safe with
 | some S => if dictB d.1 d.2 = true /\ (fcs log).length < 40 then some S else none
 | none => none
noncomputable def pubL (log:List UInt8) (safe:Int) (d:Dc):List UInt8:=match pubS log safe d with
 | some _ => log ++ frame (112 :: dictT d.1 d.2)
 | none => log
noncomputable def pubN (log:List UInt8) (safe:Int) (d:Dc):Int:=match pubS log safe d with
 | some S => S.length + 1
 | none => 0
theorem dictB_T {ns:List (List UInt8)} {vs:List V} (h:dictB ns vs = true):dictP ns vs = dictT ns vs /\ (dictT ns vs).length <= 60000 /\ nmsB ns = true /\ tabB vs = true:=by
 unfold dictB at h;simp only [Bool.and_eq_true,decide_eq_true_eq] at h;unfold dictP;rw [if_pos (by simp [h.1])];exact ⟨rfl,h.2,h.1.1,h.1.2⟩
theorem zg3 (l:List UInt8):(frame l).length <= l.length + 13:=by
 unfold frame;split
 ·have:=za0 2 l.length
  simp only [List.length_append,zae]; omega
 ·simp
theorem publish_fn (log:List UInt8) (safe:Int) (ns:List (List UInt8)) (vs:List V) (hs:log.length <= 2000000000) (hD:DSm ns vs) :
  FnV (env T hT) 55 [.ag (stC log safe),.ag (dC ns vs)] (.tup [.ag (stC (pubL log safe (ns,vs)) safe),.d (pI (pubN log safe (ns,vs)))]):=by
 have hds:=dC_er ns vs;refine zaT (zal zgY) (by show 2 <= 42; decide) fun B hB => ?_
 unfold m_s_Publish;refine mO ?_;refine zbo (cs:=stC log safe) rfl ?_;refine zbo (cs:=dC ns vs) rfl ?_;refine mN ?_;refine zab (zau (fun st => has st.tm [(2,.ref 0 0),(3,.ref 1 0),(4,.ref 2 0),(21,.d (pB (pubS log safe (ns,vs)).isNone))] /\ st.bx = [stC log safe,dC ns vs,stC [] 0] /\ 2 = st.nt /\ [] = st.live) ?_ ?_)
 ·refine zac ?_
  refine mS ?_;refine zad (args:=[.ag (stC log safe)]) rfl (storeOk_fn (T:=T) (hT:=hT) log safe (by omega)) ?_
  cases hst:stR log safe with
  | none =>
   have hp:pubS log safe (ns,vs) = none:=by unfold pubS; rw [hst]
   rw [hp];(iterate 2 refine mS ?_)
   iterate 3 (refine zaf rfl ?_)
   (iterate 2 refine mS ?_)
   iterate 3 (refine zaf rfl ?_)
   refine mN ?_
   exact ⟨⟨rfl,rfl,rfl,rfl,trivial⟩,rfl,rfl,rfl⟩
  | some S =>
   (iterate 3 refine mS ?_);refine zaE (b:=true) (args:=[.ag (dC ns vs)]) rfl (fun _ => zdQ hds) (fun _ => zgu (T:=T) (hT:=hT) ns vs hD) ?_
   cases hd:dictB ns vs with
   | false =>
    have hp:pubS log safe (ns,vs) = none:=by unfold pubS; rw [hst]; simp only; rw [if_neg (by rw [hd]; simp)]
    rw [hp];(iterate 3 refine mS ?_)
    iterate 3 (refine zaf rfl ?_)
    refine mN ?_
    exact ⟨⟨rfl,rfl,rfl,rfl,trivial⟩,rfl,rfl,rfl⟩
   | true =>
    (iterate 4 refine mS ?_);refine zaE (b:=true) (args:=[.ag (stC log safe)]) rfl (fun _ => rfl) (fun _ => many_fn (T:=T) (hT:=hT) log safe (by omega)) ?_;by_cases h40:(fcs log).length < 40
    ·have hp:pubS log safe (ns,vs) = some S:=by unfold pubS; rw [hst]; simp only; rw [if_pos ⟨hd,h40⟩]
     rw [hp];refine zan rfl rfl (decide_eq_false (show ¬ (((fcs log).length:Nat):Int) ≥ 40 by omega)) ?_;refine mN ?_;exact ⟨⟨rfl,rfl,rfl,rfl,trivial⟩,rfl,rfl,rfl⟩
    ·have hp:pubS log safe (ns,vs) = none:=by unfold pubS; rw [hst]; simp only; rw [if_neg (fun h => h40 h.2)]
     rw [hp];refine zaj rfl rfl (decide_eq_true (show (((fcs log).length:Nat):Int) ≥ 40 by omega)) ?_;refine mN ?_;exact ⟨⟨rfl,rfl,rfl,rfl,trivial⟩,rfl,rfl,rfl⟩
 rintro tm bx n l ⟨ht,hbx,rfl,rfl⟩;obtain ⟨tm0,rfl⟩:=zah ht;simp only at hbx; subst hbx
 clear ht
 cases hp:pubS log safe (ns,vs) with
 | none =>
  have e1:pubL log safe (ns,vs) = log:=by unfold pubL; rw [hp]
  have e2:pubN log safe (ns,vs) = 0:=by unfold pubN; rw [hp]
  rw [e1,e2];refine mwT ?_;refine mQ ?_;refine zap (p:=2) (cs:=stC log safe) rfl rfl rfl rfl rfl rfl ?_;refine mN ?_
  exact zag ⟨.inr rfl,[.ag (stC log safe),.d (pI 0)],rfl,rfl⟩
 | some S =>
  have e1:pubL log safe (ns,vs) = log ++ frame (112 :: dictT ns vs):=by unfold pubL; rw [hp]
  have e2:pubN log safe (ns,vs) = S.length + 1:=by unfold pubN; rw [hp]
  rw [e1,e2]
  have hst:stR log safe = some S /\ dictB ns vs = true:=by
   unfold pubS at hp
   split at hp
   ·rename_i S' hst
    split at hp
    ·rename_i hh; simp only [Option.some.injEq] at hp; subst hp; exact ⟨hst,hh.1⟩
    ·cases hp
   ·cases hp
  obtain ⟨hst,hd⟩:=hst;obtain ⟨hl,_⟩:=zfU hst;obtain ⟨t1,t2,_⟩:=dictB_T hd;have hpd:=zdy (T:=T) (hT:=hT) ns vs hD;rw [t1] at hpd;have hfl:=zg3 (112 :: dictT ns vs);simp only [List.length_cons] at hfl;refine mwF ?_;refine zak ?_;refine mO ?_;(iterate 2 refine mS ?_);refine po_g rfl (zg2 (T:=T) (hT:=hT) (by omega) _ _ _ (by decide)) ?_;rintro x b n l ⟨rest,td,rows,lvc,S0,rfl,rfl,h2,hN,hm,hlv,hn,her,hR,hSl,hS⟩;have hS:=hS S hl;subst hS;refine mN ?_;refine mO ?_;(iterate 3 refine mS ?_);refine zad (args:=[.ag (dC ns vs)]) (zdQ hds) hpd ?_;refine zax (la:=[112]) (lb:=dictT ns vs) rfl rfl rfl (by simp only [List.length_singleton]; omega) ?_;refine zad rfl (pframe_fn (T:=T) (hT:=hT) (112 :: dictT ns vs) (by simp only [List.length_cons]; omega)) ?_;refine zax (la:=log) (lb:=frame (112 :: dictT ns vs)) rfl rfl rfl (by omega) ?_;refine mS ?_
  refine zaw (p:=0) (o':=0) (cs:=[pS (log ++ frame (112 :: dictT ns vs))]) (z:=stC log safe) rfl rfl rfl ⟨rfl,Nat.le_of_ble_eq_true rfl⟩ rfl ?_;refine zaa ?_;refine mO ?_;(iterate 2 refine mS ?_);refine zaI (n:=S0.length) rfl rfl ((zcx her).trans (rlC_len S0)) ?_;refine zaq (n:=(S0.length + 1:Int)) rfl rfl rfl rfl (by omega) ?_;refine zap (p:=2) (cs:=stC (log ++ frame (112 :: dictT ns vs)) safe) rfl rfl rfl rfl rfl rfl ?_;refine mN ?_;exact zag ⟨.inr rfl,[.ag (stC (log ++ frame (112 :: dictT ns vs)) safe),.d (pI (S0.length + 1))],rfl,rfl⟩
/- St4 -/
def pNr (ns:List Nat):List (List PC):=ns.map fun (n:Nat) => [pI n]
theorem pNr_er (ns:List Nat):erLL (pNr ns) = pNr ns:=by rw [zbb]; unfold pNr; rw [List.map_map]; rfl
theorem zcY (ns:List Nat):(pNr ns).length = ns.length:=by simp [pNr]
theorem pNr_wid (ns:List Nat):∀ e ∈ pNr ns,e.length = 1:=by
 intro e he; unfold pNr at he; obtain ⟨n,_,rfl⟩:=List.mem_map.1 he; rfl
theorem pNr_get {ns:List Nat} {k:Nat} (h:k < ns.length):(pNr ns)[k]? = some [pI (ns[k]:Int)]:=by unfold pNr; rw [List.getElem?_map,List.getElem?_eq_getElem h]; rfl
end
/- Errs -/
section
open Go.RowKit Go.Lib
def ErrTab (w : World) : Prop := (∃ tp p, w.var? Tryz.prog "strconv.ErrSyntax" = some #[.iface tp p]) ∧ ∃ tp p, w.var? Tryz.prog "strconv.ErrRange" = some #[.iface tp p]
theorem synG : Tryz.prog.globalNamed "strconv.ErrSyntax" = some 3 := by kernel_rfl
theorem rngG : Tryz.prog.globalNamed "strconv.ErrRange" = some 4 := by kernel_rfl
theorem zg4 (s:List UInt8) (w:World) (hs:s.length <= 281474976710656) (hT:TenTab w) (hE:ErrTab w) :
  Calls Tryz.prog 229 #[.string ⟨s.toArray⟩] w fun e w' => e = .returned (.tuple #[.int .i64 (rdN s),.bool (rdB s)]) /\ Below w.heap.size w w':=by
 obtain ⟨⟨t1,p1,e1⟩,t2,p2,e2⟩:=hE;have hsz:(⟨s.toArray⟩:ByteArray).size = s.length:=by simp [ByteArray.size]
 cases ha:atoiAll s
 case ok v =>
  have hv:=atoiAll_bounds ha;have hA:=Lib.hid (fun w => Tryz.strconv_Atoi_ok ⟨s.toArray⟩ (by rw [hsz]; omega) v (by simpa using ha) w);have hI:=Lib.hid (fun w hT => Tryz.strconv_Itoa v hv.1 hv.2 w hT);by_cases hi:itoa v = s
  ·have hr:=Lib.hid (rd_yes hv hi)
   have hi':=Lib.hid hi;clear hi
   go_enter Tryz.func229,Tryz.ntmps229
   go_wp2_with (first | (go_at_call 238; refine (hA.out _).mono ?_; rintro e w1 ⟨rfl,hw⟩; have hb1:Below w.heap.size w w1:=(by rcases hw with rfl | ⟨t,rfl⟩; exact Below.refl _ _; exact Lib.bytesWorld_below _ _ _); clear hw; have hT1:=hT.below hb1) | (go_at_call 158; refine (hI.out _ hT1).mono ?_; rw [hi'.out]; rintro e w2 ⟨rfl,k,os,rfl⟩))
   go_ret2
   exact ⟨by rw [hr.out.1,hr.out.2]; rfl,hb1.trans ((Lib.below_grow _ _ (Nat.le_refl _) _ _).mono hb1.size)⟩
  ·have hr:=Lib.hid (show rdN s = 0 /\ rdB s = false by simp [rdN,rdB,rdD,ha,hi])
   have hbe:(itoa v == s) = false:=by simpa using hi
   go_enter Tryz.func229,Tryz.ntmps229
   go_wp2_with (first | (go_at_call 238; refine (hA.out _).mono ?_; rintro e w1 ⟨rfl,hw⟩; have hb1:Below w.heap.size w w1:=(by rcases hw with rfl | ⟨t,rfl⟩; exact Below.refl _ _; exact Lib.bytesWorld_below _ _ _); clear hw; have hT1:=hT.below hb1) | (go_at_call 158; refine (hI.out _ hT1).mono ?_; rintro e w2 ⟨rfl,k,os,rfl⟩))
   all_goals first
    | (exfalso; rename_i hq; rw [hbe] at hq; cases hq)
    | (go_ret2; exact ⟨by rw [hr.out.1,hr.out.2]; rfl,hb1.trans ((Lib.below_grow _ _ (Nat.le_refl _) _ _).mono hb1.size)⟩)
 ·
  have hr:=Lib.hid (show rdN s = 0 /\ rdB s = false by simp [rdN,rdB,rdD,ha]);have hc:w.cell? ⟨3,0,none⟩ = some (.iface t1 p1):=by have:=World.var?_cell synG e1 0; simpa using this
  have hA:=Lib.hid (Tryz.strconv_Atoi_syntax ⟨s.toArray⟩ (by rw [hsz]; omega) (by simpa using ha) (.iface t1 p1) w hc (.inr ⟨_,_,rfl⟩))
  go_enter Tryz.func229,Tryz.ntmps229
  go_wp2_with (go_at_call 238; refine hA.out.mono ?_; rintro e w1 ⟨N,rfl,_,_,hb1⟩)
  go_ret2
  exact ⟨by rw [hr.out.1,hr.out.2]; rfl,hb1⟩
 ·
  have hr:=Lib.hid (show rdN s = 0 /\ rdB s = false by simp [rdN,rdB,rdD,ha]);have hc:w.cell? ⟨4,0,none⟩ = some (.iface t2 p2):=by have:=World.var?_cell rngG e2 0; simpa using this
  have hA:=Lib.hid (Tryz.strconv_Atoi_range ⟨s.toArray⟩ (by rw [hsz]; omega) (by simpa using ha) (.iface t2 p2) w hc (.inr ⟨_,_,rfl⟩));generalize atoiSat s = sat at hA
  go_enter Tryz.func229,Tryz.ntmps229
  go_wp2_with (go_at_call 238; refine hA.out.mono ?_; rintro e w1 ⟨N,rfl,_,_,hb1⟩)
  go_ret2
  exact ⟨by rw [hr.out.1,hr.out.2]; rfl,hb1⟩
theorem ErrTab.low {n:Nat} {w w':World} (h1:3 < n) (h2:4 < n) (hk:∀ k,k < n -> w'.heap[k]? = w.heap[k]?) (h:ErrTab w):ErrTab w':=by
 have key:∀ (nm:String) (g:Nat) (v:Array Value),Tryz.prog.globalNamed nm = some g -> g < n -> w.var? Tryz.prog nm = some v -> w'.var? Tryz.prog nm = some v:=by
  intro nm g v hg hlt hv;unfold World.var? at hv ⊢;simp only [hg,Option.bind_some] at hv ⊢;rw [hk g hlt];exact hv
 obtain ⟨⟨t1,p1,e1⟩,t2,p2,e2⟩:=h;exact ⟨⟨t1,p1,key _ _ _ synG h1 e1⟩,t2,p2,key _ _ _ rngG h2 e2⟩
end
/- Si1M -/
section
def m_i_Publish:M:=so [qo 2 (.box (.t 0)),qo 3 (.box (.t 1)),⟨some 4,.zero [.string ⟨[].toArray⟩,.int .i64 0],none,[]⟩,qo 5 (.mv (ci 0))] (so [qL 10 2 2,qc 11 105 [.t 10] 1,qm 9 11,qe 12 9 0,qe 13 9 1,qe 14 9 2,qm 6 12,qm 7 13,qm 8 14] (.seq (so [qm 15 8,qo 16 (.not (.t 15)),qm 17 16,⟨some 18,.load true 2 (.t 3),some (17,false),[]⟩,⟨some 19,.call 68 [.t 18],some (17,false),[.f 1]⟩,⟨some 20,.not (.t 19),some (17,false),[]⟩,qo 21 (.pick (.t 17) (cB true) (.t 20)),qm 22 21,qg 23 7 22 false,⟨some 24,.bin .eql false (.t 23) (ci 40),some (22,false),[]⟩,qo 25 (.pick (.t 22) (cB true) (.t 24))] (.cond (.t 25) (so [qL 26 2 2,qS 2 4 26,qo 5 (.mv (ci 0))] .ret) .skip)) (so [qF 27 0 2,ql 28 1 27,qL 29 2 3,⟨some 30,.call 69 [.t 29],none,[.f 0,.t 27]⟩,⟨some 31,.bin .add false (.c (.string ⟨[112].toArray⟩)) (.t 30),none,[]⟩,⟨some 32,.call 111 [.t 31],none,[.f 0,.t 27]⟩,qo 33 (.bin .add false (.t 28) (.t 32)),qF 34 0 2,qS 1 34 33] (so [qL 35 2 2,qm 36 6,qo 37 (.len (.t 36)),qo 38 (.bin .add false (.t 37) (ci 1)),qS 2 4 35,qm 5 38] .ret))))
theorem zg5:look Tryz.prog 57 = some (39,m_i_Publish,[.cell true 2 4,.tm 5]):=by kernel_rfl
def m_i_read:M:=so [qo 1 (.box (.t 0)),qo 2 (.mv (.c (.slice none 0 0))),qo 3 (.mv (ci 0)),qo 4 (.mv (cB false))] (so [qF 9 0 1,ql 10 1 9,qc 11 152 [.t 10] 1,qm 8 11,qe 12 8 0,qe 13 8 1,qe 14 8 2,qm 5 12,qm 6 13,qm 7 14] (.seq (so [qm 15 7,qo 16 (.not (.t 15)),qm 17 16,⟨some 18,.fld 1 (.t 1),some (17,false),[]⟩,⟨some 19,.load false 1 (.t 18),some (17,false),[]⟩,⟨some 20,.bin .neq false (.t 19) (ci 0),some (17,false),[]⟩,qg 21 20 17 false,qg 22 6 21 true,⟨some 23,.fld 1 (.t 1),some (21,true),[]⟩,⟨some 24,.load false 1 (.t 23),some (21,true),[]⟩,⟨some 25,.call 153 [.t 22,.t 24],some (21,true),[.f 1]⟩,⟨some 26,.not (.t 25),some (21,true),[]⟩,⟨some 27,.pick (.t 21) (.t 26) (cB false),some (17,false),[]⟩,qo 28 (.pick (.t 17) (cB true) (.t 27))] (.cond (.t 28) (so [qo 2 (.mv (.c (.slice none 0 0))),qo 3 (.mv (ci 0)),qo 4 (.mv (cB false))] .ret) .skip)) (so [qm 29 5,qm 30 6,qo 31 (.len (.t 30)),qm 2 29,qm 3 31,qo 4 (.mv (cB true))] .ret)))
theorem lk_i_read:look Tryz.prog 105 = some (32,m_i_read,[.tm 2,.tm 3,.tm 4]):=by kernel_rfl
def m_i_isLive:M:=so [qo 4 (.mv (cB false))] (so [qm 5 1,qm 6 0,qo 7 (.len (.t 6)),qc 8 126 [.t 5,ci 1,.t 7] 1,qm 9 8,qg 10 0 9 true,qg 11 1 9 true,⟨some 12,.bin .sub false (.t 11) (ci 1),some (9,true),[]⟩,⟨some 13,.ix 3 (.t 10) (.t 12),some (9,true),[]⟩,⟨some 14,.fld 2 (.t 13),some (9,true),[]⟩,⟨some 15,.load false 1 (.t 14),some (9,true),[]⟩,qo 16 (.pick (.t 9) (.t 15) (cB false)),qm 4 16] .ret)
theorem zhZ:look Tryz.prog 110 = some (17,m_i_isLive,[.tm 4]):=by kernel_rfl
def m_i_history:M:=so [qo 2 (.mv (.c (.slice none 0 0))),qo 3 (.mv (.c (.slice none 0 0))),qo 4 (.mv (cB false))] (so [qm 12 0,qc 13 159 [.t 12] 1,qm 11 13,qe 14 11 0,qe 15 11 1,qm 5 14,qm 6 15] (so [qo 16 (.lit 3 []),qo 7 (.zero [.slice none 0 0]),qS 1 7 16] (.seq (so [qm 17 5,qo 18 (.len (.t 17)),qo 19 (.mv (ci 0))] (.block 0 (.loop (so [qo 20 (.bin .lss false (.t 19) (.t 18))] (.seq (.cond (.t 20) .skip (.exit 0)) (.seq (.block 1 (so [qm 21 19,qo 22 (.ix 1 (.t 17) (.t 19)),ql 23 1 22,qm 8 21,qm 9 23] (so [qm 24 8,qo 25 (.bin .eql false (.t 24) (ci 40)),qm 26 25,qg 27 9 26 false,⟨some 28,.call 200 [.t 7,.t 27],some (26,false),[.f 1]⟩,⟨some 29,.not (.t 28),some (26,false),[]⟩,qo 30 (.pick (.t 26) (cB true) (.t 29))] (.cond (.t 30) (so [ql 31 1 7,qm 32 6,qm 33 8,qo 34 (.slc 1 (.t 32) none (some (.t 33))),qm 2 31,qm 3 34,qo 4 (.mv (cB false))] .ret) .skip)))) (.ops [qo 35 (.bin .add false (.t 19) (ci 1)),qm 19 35]))))))) (so [qo 10 (.mv (ci 0))] (.seq (so [qm 36 6,qo 37 (.len (.t 36)),qo 38 (.bin .gtr false (.t 37) (ci 0))] (.cond (.t 38) (.ops [qm 39 6,qm 40 6,qo 41 (.len (.t 40)),qo 42 (.bin .sub false (.t 41) (ci 1)),qo 43 (.ix 1 (.t 39) (.t 42)),ql 44 1 43,qm 10 44]) .skip)) (so [ql 45 1 7,qm 46 6,qm 47 10,qm 48 0,qo 49 (.lens (.t 48)),qo 50 (.bin .eql false (.t 47) (.t 49)),qm 2 45,qm 3 46,qm 4 50] .ret))))))
theorem zg6:look Tryz.prog 152 = some (51,m_i_history,[.tm 2,.tm 3,.tm 4]):=by kernel_rfl
def m_slices_Contains_int_int:M:=so [qo 4 (.mv (cB false))] (so [qm 5 0,qm 6 1,qc 7 201 [.t 5,.t 6] 1,qo 8 (.bin .geq false (.t 7) (ci 0)),qm 4 8] .ret)
theorem zbP:look Tryz.prog 153 = some (9,m_slices_Contains_int_int,[.tm 4]):=by kernel_rfl
def m_i_framesOf:M:=so [qo 2 (.mv (.c (.slice none 0 0))),qo 3 (.mv (.c (.slice none 0 0)))] (so [qo 9 (.lit 1 []),qo 10 (.lit 1 []),qm 4 9,qm 5 10] (so [qo 6 (.mv (ci 0))] (.block 0 (.loop (.block 1 (so [qm 12 0,qm 13 6,qc 14 203 [.t 12,.t 13] 1,qm 11 14,qe 15 11 0,qe 16 11 1,qm 7 15,qm 8 16] (.seq (so [qm 17 8,qo 18 (.bin .lss false (.t 17) (ci 0))] (.cond (.t 18) (so [qm 19 4,qm 20 5,qm 2 19,qm 3 20] .ret) .skip)) (so [qm 21 4,qm 22 7,qo 23 (.lit 1 [.t 22]),⟨some 24,.app 1 (.t 21) (.t 23),none,[.f 1]⟩,qm 25 5,qm 26 8,qo 27 (.lit 1 [.t 26]),⟨some 28,.app 1 (.t 25) (.t 27),none,[.f 1]⟩,qm 4 24,qm 5 28] (.ops [qm 29 8,qm 6 29])))))))))
theorem zfV:look Tryz.prog 159 = some (30,m_i_framesOf,[.tm 2,.tm 3]):=by kernel_rfl
def m_i_readRelease:M:=so [qo 4 (.mv (cB false))] (.seq (so [qm 14 1,⟨some 15,.call 228 [.t 14,.c (.string ⟨[112].toArray⟩)],none,[.f 1]⟩,qm 13 15,qe 16 13 0,qe 17 13 1,qm 5 16,qm 6 17] (so [qm 18 6] (.cond (.t 18) (so [qm 20 5,qc 21 15 [.t 20] 1,qm 19 21,qe 22 19 0,qe 23 19 1,qo 7 (.zero [.slice none 0 0,.slice none 0 0]),qS 2 7 22,qm 8 23] (so [qm 24 0,qm 25 0,qo 26 (.nilc (.t 25)),ql 27 1 26,qL 28 2 7,qm 29 8,qo 30 (.build [.slice none 0 0,.slice none 0 0,.bool false] [(0,2,.t 28),(2,1,.t 29)]),qo 31 (.litq 3 [.t 30]),⟨some 32,.app 3 (.t 27) (.t 31),none,[.f 0]⟩,qo 33 (.nilc (.t 24)),qS 1 33 32] (.seq (so [qm 34 8,qo 35 (.not (.t 34))] (.cond (.t 35) (.ops [qm 36 0,qm 37 0,qo 38 (.nilc (.t 37)),ql 39 1 38,qm 40 0,qo 41 (.nilc (.t 40)),ql 42 1 41,qo 43 (.len (.t 42)),qo 44 (.bin .sub false (.t 43) (ci 1)),qo 45 (.slc 3 (.t 39) none (some (.t 44))),qo 46 (.nilc (.t 36)),qS 1 46 45]) .skip)) (so [qm 47 8,qm 4 47] .ret)))) .skip))) (so [qm 49 1,⟨some 50,.call 228 [.t 49,.c (.string ⟨[114].toArray⟩)],none,[.f 1]⟩,qm 48 50,qe 51 48 0,qe 52 48 1,qm 9 51,qm 10 52] (so [qm 54 9,qc 55 229 [.t 54] 1,qm 53 55,qe 56 53 0,qe 57 53 1,qm 11 56,qm 12 57] (.seq (so [qm 58 10,qo 59 (.not (.t 58)),qm 60 59,qg 61 12 60 false,⟨some 62,.not (.t 61),some (60,false),[]⟩,qo 63 (.pick (.t 60) (cB true) (.t 62)),qm 64 63,qg 65 0 64 false,⟨some 66,.nilc (.t 65),some (64,false),[]⟩,⟨some 67,.load false 1 (.t 66),some (64,false),[]⟩,qg 68 11 64 false,⟨some 69,.call 110 [.t 67,.t 68],some (64,false),[.f 1]⟩,⟨some 70,.not (.t 69),some (64,false),[]⟩,qo 71 (.pick (.t 64) (cB true) (.t 70))] (.cond (.t 71) (so [qo 4 (.mv (cB false))] .ret) .skip)) (so [qm 72 0,qo 73 (.nilc (.t 72)),ql 74 1 73,qm 75 11,qo 76 (.bin .sub false (.t 75) (ci 1)),qo 77 (.ix 3 (.t 74) (.t 76)),qF 78 2 77,⟨none,.store 1 (.t 78) (cB false),none,[]⟩] (so [qo 4 (.mv (cB true))] .ret))))))
theorem zdS:look Tryz.prog 200 = some (79,m_i_readRelease,[.tm 4]):=by kernel_rfl
def m_slices_Index_int_int:M:=so [qo 4 (.mv (ci 0))] (.seq (so [qm 6 0,qo 7 (.len (.t 6)),qo 8 (.mv (ci 0))] (.block 0 (.loop (so [qo 9 (.bin .lss false (.t 8) (.t 7))] (.seq (.cond (.t 9) .skip (.exit 0)) (.seq (.block 1 (so [qm 10 8,qm 5 10] (so [qm 11 1,qm 12 0,qm 13 5,qo 14 (.ix 1 (.t 12) (.t 13)),ql 15 1 14,qo 16 (.bin .eql false (.t 11) (.t 15))] (.cond (.t 16) (so [qm 17 5,qm 4 17] .ret) .skip)))) (.ops [qo 18 (.bin .add false (.t 8) (ci 1)),qm 8 18]))))))) (so [qo 4 (.mv (ci (-1)))] .ret))
theorem zb9:look Tryz.prog 201 = some (19,m_slices_Index_int_int,[.tm 4]):=by kernel_rfl
def m_strings_CutPrefix:M:=so [⟨some 4,.mv (.c (.string ⟨[].toArray⟩)),none,[]⟩,qo 5 (.mv (cB false))] (so [qm 6 0,qm 7 1,qc 8 237 [.t 6,.t 7] 1,qe 9 8 0,qe 10 8 1,qm 4 9,qm 5 10] .ret)
theorem zcG:look Tryz.prog 228 = some (11,m_strings_CutPrefix,[.tm 4,.tm 5]):=by kernel_rfl
def m_internal_stringslite_CutPrefix:M:=so [⟨some 4,.mv (.c (.string ⟨[].toArray⟩)),none,[]⟩,qo 5 (.mv (cB false))] (.seq (so [qm 6 0,qm 7 1,qc 8 246 [.t 6,.t 7] 1,qo 9 (.not (.t 8))] (.cond (.t 9) (so [qm 10 0,qm 4 10,qo 5 (.mv (cB false))] .ret) .skip)) (so [qm 11 0,qm 12 1,qo 13 (.lens (.t 12)),qo 14 (.slcs (.t 11) (some (.t 13)) none),qm 4 14,qo 5 (.mv (cB true))] .ret))
theorem zbl:look Tryz.prog 237 = some (15,m_internal_stringslite_CutPrefix,[.tm 4,.tm 5]):=by kernel_rfl
def m_internal_stringslite_HasPrefix:M:=so [qo 4 (.mv (cB false))] (so [qm 5 0,qo 6 (.lens (.t 5)),qm 7 1,qo 8 (.lens (.t 7)),qo 9 (.bin .geq false (.t 6) (.t 8)),qm 10 9,qg 11 0 10 true,qg 12 1 10 true,⟨some 13,.lens (.t 12),some (10,true),[]⟩,⟨some 14,.slcs (.t 11) none (some (.t 13)),some (10,true),[]⟩,qg 15 1 10 true,⟨some 16,.bin .eql false (.t 14) (.t 15),some (10,true),[]⟩,qo 17 (.pick (.t 10) (.t 16) (cB false)),qm 4 17] .ret)
theorem zbm:look Tryz.prog 246 = some (18,m_internal_stringslite_HasPrefix,[.tm 4]):=by kernel_rfl
end
/- Si1 -/
section
variable {T:World -> Prop} {hT:Low ngl T}
attribute [local irreducible] po mw pt
def cutB (b:UInt8) (s:List UInt8):Bool:=decide (s.head? = some b)
def cutA (b:UInt8) (s:List UInt8):List UInt8:=if cutB b s = true then s.drop 1 else s
theorem hasP_fn (s:List UInt8) (b:UInt8) (hs:s.length <= 2147483647):FnV (env T hT) 246 [.d (pS s),.d (pS [b])] (.d (pB (cutB b s))):=by
 refine zaT (zal zbm) (by show 2 <= 18; decide) fun B hB => ?_
 unfold m_internal_stringslite_HasPrefix;refine mP ?_;refine mQ ?_;refine po_q (v:=.d (pI s.length)) rfl rfl ?_;refine mS ?_;refine po_q (v:=.d (pI 1)) rfl rfl ?_
 cases s with
 | nil =>
  refine zan rfl rfl rfl ?_;refine mS ?_
  iterate 6 (refine zaf rfl ?_)
  refine mN ?_
  exact mR
 | cons c r =>
  refine zaj rfl rfl (decide_eq_true (show (((c :: r).length:Nat):Int) ≥ 1 by simp only [List.length_cons]; omega)) ?_;(iterate 3 refine mS ?_);refine po_q (v:=.d (pI 1)) rfl rfl ?_;refine zbB (a:=0) (b:=1) (rs:=[c]) rfl rfl rfl (zaN (i:=1) rfl rfl) (by simp only [List.length_cons]; omega) rfl ?_;refine mS ?_;refine po_eqs (la:=[c]) (lb:=[b]) rfl rfl rfl ?_
  have:decide ([c] = [b]) = cutB b (c :: r):=by unfold cutB; simp
  rw [this];refine mN ?_;exact mR
theorem cutL_fn (s:List UInt8) (b:UInt8) (hs:s.length <= 2147483647):FnV (env T hT) 237 [.d (pS s),.d (pS [b])] (.tup [.d (pS (cutA b s)),.d (pB (cutB b s))]):=by
 refine zaT (zal zbl) (by show 2 <= 15; decide) fun B hB => ?_
 unfold m_internal_stringslite_CutPrefix;refine mP ?_;refine zab (zab (zac ?_));(iterate 2 refine mS ?_);refine zad rfl (hasP_fn (T:=T) (hT:=hT) s b hs) ?_
 cases hc:cutB b s with
 | false =>
  have e:cutA b s = s:=by unfold cutA; rw [hc]; rfl
  rw [e];refine mT ?_;refine mP ?_
  exact mR
 | true =>
  have e:cutA b s = s.drop 1:=by unfold cutA; rw [if_pos hc]
  have hl:1 <= s.length:=by
   cases s with
   | nil => simp [cutB] at hc
   | cons c r => simp only [List.length_cons]; omega
  rw [e];refine mK ?_;refine mO ?_;(iterate 2 refine mS ?_);refine po_q (v:=.d (pI 1)) rfl rfl ?_;refine zbB (a:=1) (b:=s.length) (rs:=s.drop 1) rfl rfl (zaN (i:=1) rfl rfl) rfl (by omega) (List.take_of_length_le (by rw [List.length_drop]; omega)) ?_;refine mN ?_;exact mR
theorem cutp_fn (s:List UInt8) (b:UInt8) (hs:s.length <= 2147483647):FnV (env T hT) 228 [.d (pS s),.d (pS [b])] (.tup [.d (pS (cutA b s)),.d (pB (cutB b s))]):=by
 refine zaT (zal zcG) (by show 2 <= 11; decide) fun B hB => ?_
 unfold m_strings_CutPrefix;refine mP ?_;refine mO ?_;(iterate 2 refine mS ?_);refine zad rfl (cutL_fn (T:=T) (hT:=hT) s b hs) ?_;refine mN ?_;exact mR
def ixZ:List Nat -> Int -> Nat -> Int
 | [],_,_ => -1
 | n :: r,v,k => if v = n then k else ixZ r v (k + 1)
theorem ixZ_mem (v:Int):∀ (ns:List Nat) (k:Nat),0 <= ixZ ns v k ↔ 0 <= v /\ v.toNat ∈ ns
 | [],k => by simp [ixZ]
 | n :: r,k => by
  simp only [ixZ];split
  ·rename_i h; subst h; simp
  ·rename_i h
   rw [ixZ_mem v r (k + 1),List.mem_cons]
   constructor
   ·rintro ⟨a,b⟩; exact ⟨a,.inr b⟩
   ·rintro ⟨a,b | b⟩
    ·omega
    ·exact ⟨a,b⟩
def IzI (ns:List Nat) (v:Int) (m:Nat) (st:St):Prop:=∃ i:Nat,i <= ns.length /\ m = ns.length - i /\ has st.tm [(0,.d (.sl 0 (pNr ns))),(1,.d (pI v)),(7,.d (pI ns.length)),(8,.d (pI i))] /\ ixZ ns v 0 = ixZ (ns.drop i) v i
theorem indexZ_fn (ns:List Nat) (v:Int) (hl:ns.length <= 2147483647):FnV (env T hT) 201 [.d (.sl 0 (pNr ns)),.d (pI v)] (.d (pI (ixZ ns v 0))):=by
 refine zaT (zal zb9) (by show 2 <= 19; decide) fun B hB => ?_
 unfold m_slices_Index_int_int;refine mP ?_;refine zau (fun st => ixZ ns v 0 = -1) ?_ ?_
 ·refine mQ ?_
  refine zaI (n:=ns.length) rfl rfl (zcY ns) ?_;refine mN ?_;refine zai ?_;refine zaz (IzI ns v) ns.length ⟨0,Nat.zero_le _,rfl,⟨rfl,rfl,rfl,rfl,trivial⟩,rfl⟩ ?_;rintro m tm bx nt live ⟨i,hi,rfl,ht,hx⟩;obtain ⟨tm0,rfl⟩:=zah ht;clear ht;refine mO ?_;by_cases hil:i < ns.length
  ·refine zaj rfl rfl (decide_eq_true (show (i:Int) < ns.length by omega)) ?_
   refine zaa ?_;refine zab ?_;refine mwT ?_;refine zak ?_;refine zab (zai (zab (zac ?_)));refine mN ?_;refine mO ?_;(iterate 3 refine mS ?_);refine zaX (es:=pNr ns) (e:=[pI (ns[i]:Int)]) rfl rfl rfl ⟨by omega,by rw [Int.toNat_natCast]; exact pNr_get hil⟩ rfl ?_;refine mS ?_;rw [List.drop_eq_getElem_cons hil] at hx;simp only [ixZ] at hx;by_cases hv:v = (ns[i]:Int)
   ·rw [if_pos hv] at hx
    refine zaj rfl rfl (by show (v == (ns[i]:Int)) = true; rw [beq_iff_eq]; exact hv) ?_;refine zaa ?_;refine mwT ?_;refine mP ?_;rw [hx];exact mR
   ·rw [if_neg hv] at hx
    refine zan rfl rfl (by show (v == (ns[i]:Int)) = false; rw [beq_eq_false_iff_ne]; exact hv) ?_;refine zaa ?_;refine mwF ?_;refine zak ?_;refine zac ?_;refine zaq (n:=((i + 1:Nat):Int)) rfl rfl rfl (by omega) (by omega) ?_;refine mN ?_;refine ⟨_,?_,i + 1,by omega,rfl,⟨rfl,rfl,rfl,rfl,trivial⟩,hx⟩;show ns.length - (i + 1) < ns.length - i;omega
  ·refine zan rfl rfl (decide_eq_false (show ¬ (i:Int) < ns.length by omega)) ?_
   refine zaa ?_;refine zab ?_;refine mwF ?_;refine zaH ?_
   have:i = ns.length:=by omega
   subst this;rw [List.drop_length] at hx;exact hx
 rintro tm bx nt live hx;refine mP ?_;rw [hx];exact mR
theorem pNr_arg (ns:List Nat) (v:Int):PV.dats [.d (.sl 0 (pNr ns)),.d (pI v)] = some [.d (.sl 0 (pNr ns)),.d (pI v)] :=
 congrArg (fun r => some [PV.d (.sl 0 r),.d (pI v)]) (pNr_er ns)
theorem zg7 (ns:List Nat) (v:Int) (hl:ns.length <= 2147483647):FnV (env T hT) 153 [.d (.sl 0 (pNr ns)),.d (pI v)] (.d (pB (decide (0 <= v /\ v.toNat ∈ ns)))):=by
 refine zaT (zal zbP) (by show 2 <= 9; decide) fun B hB => ?_
 unfold m_slices_Contains_int_int;refine mP ?_;refine mO ?_;(iterate 2 refine mS ?_);refine zad (pNr_arg ns v) (indexZ_fn ns v hl) ?_;refine po_b rfl rfl (fun b1 hb1 => ?_);refine mN ?_
 have:decide (0 <= v /\ v.toNat ∈ ns) = b1:=by rw [hb1]; exact decide_eq_decide.2 (ixZ_mem v ns 0).symm
 rw [this];exact mR
theorem gframeI_fn (s:List UInt8) (i:Nat) (hi:i <= 2147483647) (hs:s.length <= 2147483647):FnV (env T hT) 203 [.d (pS s),.d (pI i)] (.tup [.d (pS (fC (getFr s i))),.d (pI (fX (getFr s i)))]):=by
 refine FnV.oldT rfl rfl fun w C vs hF _ _ hlen hv => ?_
 match vs,hlen with
 | [x,y],_ =>
  have h1:=zbW (hv 0 _ _ rfl rfl); have h2:=zbp (hv 1 _ _ rfl rfl)
  subst h1; subst h2
  exact zfJ s i w (by unfold i64ok; omega) (by omega)
theorem pNr_snoc (ns:List Nat) (n:Nat):pNr (ns ++ [n]) = pNr ns ++ [[pI n]]:=by unfold pNr; rw [List.map_append]; rfl
def FrJ (l:List UInt8) (m:Nat) (st:St):Prop:=∃ (a t t2:Nat) (pre:List (List UInt8 × Nat)),frG l 0 = pre ++ frG l a /\ a <= l.length /\ pre.length <= a /\ m = l.length - a /\ has st.tm [(0,.d (pS l)),(4,.d (.sl t (pSr (pre.map (·.1))))),(5,.d (.sl t2 (pNr (pre.map (·.2))))),(6,.d (pI a))] /\ st.bx = [] /\ t ∈ st.live /\ t2 ∈ st.live /\ t ≠ t2 /\ t < st.nt /\ t2 < st.nt
theorem zh0 (l:List UInt8) (hl:l.length <= 2147483647):FnV (env T hT) 159 [.d (pS l)] (.tup [.d (.sl 0 (pSr (fcs l))),.d (.sl 0 (pNr (fes l)))]):=by
 refine zaT (zal zfV) (by show 1 <= 30; decide) fun B hB => ?_
 unfold m_i_framesOf;refine mP ?_;refine mO ?_;refine zay (es:=[]) rfl ?_;refine zay (es:=[]) rfl ?_;refine mN ?_;refine mP ?_;refine zai ?_;refine zaz (FrJ l) l.length ⟨0,2,3,[],rfl,Nat.zero_le _,Nat.le_refl _,rfl,⟨rfl,rfl,rfl,rfl,trivial⟩,rfl,List.mem_cons_of_mem _ (List.mem_cons_self ..),List.mem_cons_self ..,by decide,by show 2 < 4; decide,by show 3 < 4; decide⟩ ?_;rintro m tm bx nt live ⟨a,t,t2,pre,hp,hal,hpl,rfl,ht,hbx,hlv,hlv2,hne,hlt,hlt2⟩;obtain ⟨tm0,rfl⟩:=zah ht;simp only at hbx hlv hlv2 hlt hlt2; subst hbx
 clear ht;have hg:=gframeI_fn (T:=T) (hT:=hT) l a (by omega) hl;refine zai (zab (zac ?_));(iterate 2 refine mS ?_)
 cases hr:getFr l a with
 | none =>
  rw [hr] at hg;refine zad rfl hg ?_;refine mN ?_;refine zab (zab (zac ?_));refine mS ?_;refine zaj rfl rfl rfl ?_;refine mT ?_;refine mP ?_;refine zag ⟨.inr rfl,[.d (.sl t (pSr (pre.map (·.1)))),.d (.sl t2 (pNr (pre.map (·.2))))],rfl,?_⟩;have e1:fcs l = pre.map (·.1):=by unfold fcs; rw [hp,zbU hr,List.append_nil]
  have e2:fes l = pre.map (·.2):=by unfold fes; rw [hp,zbU hr,List.append_nil]
  rw [e1,e2];have q1:=zga (pre.map (·.1));have q2:=pNr_er (pre.map (·.2));show some (PV.tup [.d (.sl 0 (erLL (pSr (pre.map (·.1))))),.d (.sl 0 (erLL (pNr (pre.map (·.2)))))]) = _
  rw [q1,q2]
 | some r =>
  obtain ⟨c,e⟩:=r;rw [hr] at hg;obtain ⟨f1,f2,f3,f4,f5⟩:=zbc hr;refine zad rfl hg ?_;refine mN ?_;refine zab (zab (zac ?_));refine mS ?_;refine zan rfl rfl (decide_eq_false (show ¬ ((e:Nat):Int) < 0 by omega)) ?_;refine mK ?_;refine mO ?_;(iterate 2 refine mS ?_);refine zay (es:=[[pS c]]) rfl ?_;refine zcJ (t:=t) (t':=nt) (es:=pSr (pre.map (·.1))) (ds:=[[pS c]]) rfl rfl (.inr (List.mem_cons_of_mem _ hlv)) (by simp only [List.length_singleton,zaY,List.length_map]; omega) (fun e he => by simp only [List.mem_singleton] at he; subst he; rfl) (zeo _) ?_;(iterate 2 refine mS ?_);refine zay (es:=[[pI e]]) rfl ?_;refine zcJ (t:=t2) (t':=nt + 2) (es:=pNr (pre.map (·.2))) (ds:=[[pI e]]) rfl rfl (.inr (List.mem_cons_of_mem _ (List.mem_cons_of_mem _ (List.mem_filter.2 ⟨List.mem_cons_of_mem _ hlv2,by simpa using hne.symm⟩)))) (by simp only [List.length_singleton,zcY,List.length_map]; omega) (fun e he => by simp only [List.mem_singleton] at he; subst he; rfl) (pNr_wid _) ?_
  refine mN ?_;refine zac ?_;refine mN ?_;refine ⟨_,?_,e,nt + 1,nt + 3,pre ++ [(c,e)],?_,f5,by rw [List.length_append]; simp only [List.length_singleton]; omega,rfl,⟨rfl,?_,?_,rfl,trivial⟩,rfl,?_,List.mem_cons_self ..,by omega,by show nt + 1 < nt + 4; omega,by show nt + 3 < nt + 4; omega⟩
  ·show l.length - e < l.length - a
   omega
  ·rw [hp,zcD hr,List.append_assoc]; rfl
  ·rw [List.map_append,show List.map (·.1) [(c,e)] = [c] from rfl,pSr_snoc]; rfl
  ·rw [List.map_append,show List.map (·.2) [(c,e)] = [e] from rfl,pNr_snoc]; rfl
  ·refine List.mem_cons_of_mem _ (List.mem_filter.2 ⟨List.mem_cons_of_mem _ (List.mem_cons_self ..),?_⟩)
   have:nt + 1 ≠ t2:=by omega
   simpa using this
theorem fend_es (l:List UInt8):fend l = (fes l).getD ((fes l).length - 1) 0:=by
 unfold fend fes;rw [fes_endX,List.length_map]
end
/- Si2 -/
section
variable {T:World -> Prop} {hT:Low ngl T}
theorem po_gT {E:Env} {d:Nat} {k:Nat} {r:List MOpr} {K:St -> Prop} {tm:Nat -> PV} {bx:List (List PC)} {nt:Nat} {live:List Nat} {f:Nat} {xs:List X} {args:List PV} {g:Option (Nat × Bool)} {R:PV -> List (List PC) -> Nat -> List Nat -> Prop} (hg:gd g tm = some true) (hd:xs.map (ev tm) = args) (hF:FnG E f args bx nt live R)
  (h:∀ x bx' nt' live',R x bx' nt' live' -> po E r K ⟨up d x tm,bx',nt',live'⟩):po E (⟨some d,.call f xs,g,[.f k]⟩ :: r) K ⟨tm,bx,nt,live⟩:=by
 subst hd;refine ⟨true,hg,.inl ⟨rfl,.inr ⟨rfl,R,hF,fun x bx' nt' live' hR => ⟨fun y hy => by rw [List.mem_singleton] at hy; subst hy; exact zcN _ _ _ _,?_⟩⟩⟩⟩;rw [zbn]; exact h x bx' nt' live' hR
attribute [local irreducible] po mw pt
theorem po_slcR {E:Env} {d:Nat} {r:List MOpr} {K:St -> Prop} {tm:Nat -> PV} {bx:List (List PC)} {nt:Nat} {live:List Nat} {n p len cap h:Nat} {x:X} {hi:Option X} {g:Option (Nat × Bool)} {c:List X} (hg:gd g tm = some true) (hx:ev tm x = .d (.row p len cap)) (hhi:bound (ev tm) len hi = some h) (hle:h <= len)
  (hk:po E r K ⟨up d (.d (.row p h cap)) tm,bx,nt,live⟩):po E (⟨some d,.slc n x none hi,g,c⟩ :: r) K ⟨tm,bx,nt,live⟩:=by
 refine po_q hg ?_ hk;simp only [qf,hx];rw [hhi];exact if_pos hle
def rcE (d:Dc × Bool):List PC:=dC d.1.1 d.1.2 ++ [pB d.2]
def rcC (S:Rl):List PC:=(S.map rcE).flatten
theorem zca (d:Dc × Bool) (S:Rl):rcC (d :: S) = rcE d ++ rcC S:=rfl
theorem rcC_snoc (d:Dc × Bool) (S:Rl):rcC (S ++ [d]) = rcC S ++ rcE d:=by unfold rcC; simp
theorem zcs (d:Dc × Bool):(rcE d).length = 3:=rfl
theorem rcC_len:∀ S:Rl,(rcC S).length = 3 * S.length
 | [] => rfl
 | d :: S => by rw [zca,List.length_append,zcs,rcC_len S,List.length_cons]; omega
theorem zh1:∀ (S:Rl) (k:Nat) (h:k < S.length),(rcC S)[3 * k + 2]? = some (pB S[k].2) /\ ((rcC S).drop (3 * k)).take 2 = dC S[k].1.1 S[k].1.2
 | d :: S,0,_ => by rw [zca]; exact ⟨rfl,rfl⟩
 | d :: S,k + 1,h => by
  obtain ⟨h1,h2⟩:=zh1 S k (by simpa using h);rw [zca];refine ⟨?_,?_⟩
  ·rw [List.getElem?_append_right (by rw [zcs]; omega),zcs,show 3 * (k + 1) + 2 - 3 = 3 * k + 2 by omega]; exact h1
  ·rw [List.drop_append,zcs,List.drop_of_length_le (by rw [zcs]; omega),List.nil_append,show 3 * (k + 1) - 3 = 3 * k by omega]; exact h2
theorem rcC_set:∀ (S:Rl) (k:Nat) (h:k < S.length),rcC (S.set k (S[k].1,false)) = (rcC S).set (3 * k + 2) (pB false)
 | d :: S,0,_ => by
  rw [List.set_cons_zero,zca,zca,List.set_append_left _ _ (by rw [zcs]; omega)]; rfl
 | d :: S,k + 1,h => by
  have:=rcC_set S k (by simpa using h)
  rw [List.set_cons_succ,zca,zca,List.set_append_right _ _ (by rw [zcs]; omega),zcs,show 3 * (k + 1) + 2 - 3 = 3 * k + 2 by omega,<- this]; rfl
theorem zfg (a b:List PC):erL (a ++ b) = erL a ++ erL b:=by simp only [zaU,List.map_append]
theorem pB_er {c:PC} {b:Bool} (h:c.er = pB b):c = pB b:=by
 cases c with
 | v x => exact h
 | _ => simp [PC.er,pB] at h
theorem erL_get {cs:List PC} {j:Nat} {b:Bool} (h:(erL cs)[j]? = some (pB b)):cs[j]? = some (pB b):=by
 rw [zaU,List.getElem?_map] at h
 cases hc:cs[j]? with
 | none => rw [hc] at h; cases h
 | some c => rw [hc] at h; simp only [Option.map_some,Option.some.injEq] at h; rw [pB_er h]
theorem zfh:∀ (cs:List PC) (j:Nat) (b b':Bool),cs[j]? = some (pB b) -> toksL (cs.set j (pB b')) = toksL cs /\ ownedL (cs.set j (pB b')) = ownedL cs
 | c :: cs,0,b,b',h => by
  simp only [List.getElem?_cons_zero,Option.some.injEq] at h; subst h
  exact ⟨rfl,rfl⟩
 | c :: cs,j + 1,b,b',h => by
  obtain ⟨h1,h2⟩:=zfh cs j b b' (by simpa using h);rw [List.set_cons_succ,toksL,h1,ownedL,h2]; exact ⟨rfl,rfl⟩
theorem OwnL.addNew {n1 n2:Nat} {l1 l2:List Nat} {a cs:List PC} (h:OwnL n1 l1 a) (hN:NewL n1 n2 cs) (hn:n1 <= n2) (hm:∀ t ∈ toksL cs,t ∈ l2) (hl:∀ t ∈ l1,2 <= t -> t < n1 -> t ∈ l2):OwnL n2 l2 (a ++ cs):=by
 have h':=h.mono2 hn hl;refine ⟨by rw [zaV,h.own,hN.own]; rfl,?_,fun t ht => ?_⟩
 ·rw [zav]
  refine List.nodup_append.2 ⟨h.nd,hN.nd,fun x hx y hy e => ?_⟩;subst e
  have:=(h.mem x hx).2; have:=(hN.mem x hy).1; omega
 ·rw [zav] at ht
  rcases List.mem_append.1 ht with ht | ht
  ·exact h'.mem t ht
  ·exact ⟨hm t ht,(hN.mem t ht).2⟩
def HsQ (nt0 lo:Nat) (S:Rl) (c:PC) (b:List (List PC)) (n:Nat) (l:List Nat):Prop :=
 ∃ cells,RwAt 3 lo l c b cells /\ erL cells = rcC S /\ OwnL n l cells /\ (∀ t ∈ toksL cells,nt0 <= t) /\ ∀ t es,c = .sl t es -> 2 <= t /\ t < n
theorem zh2 {cs:List PC} {S:Rl} (h:erL cs = rcC S):cs.length = 3 * S.length:=by
 have:=congrArg List.length h
 rw [zaU,List.length_map,rcC_len] at this; exact this
theorem isLive_g {lo:Nat} {lv:List Nat} {c:PC} {bx:List (List PC)} {cells:List PC} {S:Rl} (hR:RwAt 3 lo lv c bx cells) (he:erL cells = rcC S) (hS:S.length <= 2147483647) (v:Int) (nt:Nat) (live:List Nat) :
  FnG (env T hT) 110 [.d c,.d (pI v)] bx nt live (fun x b n l => x = .d (pB (rlv S v)) /\ b = bx /\ n = nt /\ l = live):=by
 have hcl:=zh2 he;refine zaZ (zal zhZ) (by show 2 <= 17; decide) fun B hB => ?_
 unfold m_i_isLive;refine mP ?_;refine mO ?_;(iterate 2 refine mS ?_);refine zhO (k:=S.length) hR hcl (by decide) rfl rfl ?_;refine zad rfl (zb0 (T:=T) (hT:=hT) v 1 S.length) ?_;by_cases hin:1 <= v /\ v <= (S.length:Int)
 case neg =>
  have e1:rlv S v = false:=by unfold rlv; rw [decide_eq_false hin]; rfl
  rw [decide_eq_false hin];refine mS ?_
  iterate 6 (refine zaf rfl ?_)
  refine mN ?_;exact zag ⟨.inr rfl,[.d (pB false)],rfl,by rw [e1]; rfl,rfl,rfl,rfl⟩
 obtain ⟨k,hk⟩:∃ k:Nat,v - 1 = k:=⟨(v - 1).toNat,by omega⟩;have hkS:k < S.length:=by omega
 have e1:rlv S v = S[k].2:=by
  unfold rlv;rw [decide_eq_true hin,hk,Int.toNat_natCast,zbC hkS]; rfl
 rw [decide_eq_true hin];(iterate 3 refine mS ?_);refine zaR (n:=(k:Int)) rfl rfl rfl hk (by omega) ?_;refine po_ixR (i:=k) hR (by decide) rfl (by omega) rfl rfl rfl ?_;intro p len cap z e3 h3 h4 h5 h6 h7 h8 h9;refine mS ?_;have hi2:3 * k + 2 < cells.length:=by omega
 have hone:=rw_one h7 (i:=3 * k + 2) hi2;have hg:=erL_get (cs:=cells) (j:=3 * k + 2) (b:=S[k].2) (by rw [he]; exact (zh1 S k hkS).1);rw [List.getElem?_eq_getElem hi2,Option.some.injEq] at hg;refine zbi (cs:=z) (v:=.d (pB S[k].2)) rfl rfl h4 (by omega) (by rw [hone,hg]; rfl) ?_;refine mN ?_;exact zag ⟨.inr rfl,[.d (pB S[k].2)],rfl,by rw [e1]; rfl,rfl,rfl,rfl⟩
theorem zh3 (hTen:∀ w,T w -> TenTab w) (hErr:∀ w,T w -> ErrTab w) (s:List UInt8) (hs:s.length <= 2147483647):FnV (env T hT) 229 [.d (pS s)] (.tup [.d (pI (rdN s)),.d (pB (rdB s))]):=by
 refine FnV.oldT rfl rfl fun w C vs hF _ ht hlen hv => ?_
 match vs,hlen with
 | [x],_ =>
  have h1:=zbW (hv 0 _ _ rfl rfl);subst h1;exact zg4 s w (by omega) (hTen w ht) (hErr w ht)
def RlR (nt0:Nat) (S:Rl) (s:List UInt8) (nt:Nat) (live:List Nat) (x:PV) (b:List (List PC)) (n:Nat) (l:List Nat):Prop :=
 ∃ c' rest' ok,x = .d (pB ok) /\ b = [c'] :: rest' /\ nt <= n /\ (∀ t ∈ live,2 <= t -> t < nt -> t ∈ l) /\ ((ok = true /\ ∃ S',stp S s = some S' /\ HsQ nt0 1 S' c' b n l) \/ (ok = false /\ stp S s = none /\ ∃ S',HsQ nt0 1 S' c' b n l))
theorem cutB_yes {b:UInt8} {s:List UInt8} (h:cutB b s = true):∃ tl,s = b :: tl /\ cutA b s = tl:=by
 cases s with
 | nil => simp [cutB] at h
 | cons c r =>
  have hc:c = b:=by simpa [cutB] using h
  subst hc;exact ⟨r,rfl,by unfold cutA; rw [if_pos h]; rfl⟩
theorem readRel_g (hTab:∀ w,T w -> Tabs w) (hTen:∀ w,T w -> TenTab w) (hErr:∀ w,T w -> ErrTab w) {nt0 nt:Nat} {live:List Nat} {c:PC} {rest:List (List PC)} {S:Rl} {s:List UInt8} (hs:s.length <= 100000) (hS:S.length <= 2147483) (hnt:2 <= nt) (h0:nt0 <= nt) (hQ:HsQ nt0 1 S c ([c] :: rest) nt live) :
  FnG (env T hT) 200 [.ref 0 0,.d (pS s)] ([c] :: rest) nt live (RlR nt0 S s nt live):=by
 obtain ⟨cells,hR,he,hown,hge,hc⟩:=id hQ;have hcl:=zh2 he;refine zaZ (zal zdS) (by show 2 <= 79; decide) fun B hB => ?_
 unfold m_i_readRelease;refine mP ?_;refine zab (zab (zac ?_));refine mS ?_;refine zad rfl (cutp_fn (T:=T) (hT:=hT) s 112 (by omega)) ?_;refine mN ?_;refine mP ?_
 cases hp:cutB 112 s with
 | true =>
  obtain ⟨tl,rfl,hA⟩:=cutB_yes hp;rw [hA];have htl:tl.length <= 100000:=by simp only [List.length_cons] at hs; omega
  refine mwT ?_;refine mQ ?_;refine po_g rfl (FnG.lift0 (getDictI_g (T:=T) (hT:=hT) hTab (s:=tl) (by omega) nt live hnt) (args:=[.d (pS tl)]) ⟨trivial,trivial⟩) ?_;rintro x b0 n2 l2 ⟨rfl,hD⟩;obtain ⟨c1,c2,d,rfl,hN,hm2,hl2,hn2,hed,hgd⟩:=hD.gd;(iterate 3 refine mS ?_);refine zcF (cs:=[c1,c2]) rfl rfl rfl rfl ?_;refine mN ?_;have hR1:RwAt 3 1 l2 c (([c] :: rest) ++ [[c1,c2]]) cells:=(hR.mono2 hc hl2).cong (by simp) fun q _ hq => List.getElem?_append_left hq
  refine mO ?_;(iterate 4 refine mS ?_);refine zbi (cs:=[c1,c2]) rfl rfl (za1 _ _) (Nat.le_refl 2) rfl ?_;refine mS ?_;obtain ⟨ok,hok⟩:∃ ok,ok = (gdD tl).isSome:=⟨_,rfl⟩;rw [<- hok];refine po_q (v:=.ag [c1,c2,pB ok]) rfl rfl ?_;refine po_q (v:=.d (.sl 0 [[c1,c2,pB ok]])) rfl rfl ?_;refine po_appR (m:=S.length) (ds:=[[c1,c2,pB ok]]) hR1 (by simp) hcl (by decide) (by simp only [List.length_singleton]; omega) (fun e he => by simp only [List.mem_singleton] at he; subst he; rfl) rfl rfl ?_;intro c' bx' hR2 hlo;obtain ⟨rest1,rfl⟩:=lo_cons (b0:=[c]) (rest:=rest ++ [[c1,c2]]) hlo;have e3:cells ++ [[c1,c2,pB ok]].flatten = cells ++ [c1,c2] ++ [pB ok]:=by simp
  rw [e3] at hR2;refine mS ?_;refine zaw (p:=0) (o':=0) (cs:=[c']) (z:=[c]) rfl rfl rfl ⟨rfl,Nat.le_of_ble_eq_true rfl⟩ rfl ?_;refine zaa ?_
  have hR3:RwAt 3 1 l2 c' ([c'] :: rest1) (cells ++ [c1,c2] ++ [pB ok]):=hR2.cong (Nat.le_refl _) fun q h1 _ => by
   match q,h1 with
   | q + 1,_ => rfl
  obtain ⟨p,len,cap,z,rfl,r2,r3,r4,r5,r6,r7⟩:=hR3.row (by simp)
  have hlen:len = S.length + 1:=by
   simp only [List.length_append,List.length_cons,List.length_nil] at r7; omega
  subst hlen;refine zab (zab (zac ?_))
  cases hg:gdD tl with
  | some d' =>
   rw [hg] at hgd hok;have hgd:d' = d:=hgd;subst hgd;have hok:ok = true:=hok;subst hok;refine mK ?_;refine mP ?_;refine zag ⟨.inr rfl,[.d (pB true)],rfl,_,rest1,true,rfl,rfl,hn2,hl2,.inl ⟨rfl,S ++ [(d',true)],by unfold stp; simp only [if_true,hg,Option.map_some],cells ++ [c1,c2] ++ [pB true],hR3,?_,?_,?_,fun t es h => by cases h⟩⟩
   ·rw [rcC_snoc,<- he,List.append_assoc,zfg,zfg,hed]; rfl
   ·have:=hown.addNew hN hn2 hm2 hl2
    exact ⟨by rw [zaV,this.own]; rfl,by rw [zav]; simpa [toksL,PC.toks,pB] using this.nd,fun t ht => this.mem t (by rw [zav] at ht; simpa [toksL,PC.toks,pB] using ht)⟩
   ·intro t ht
    rw [zav,zav] at ht
    rcases List.mem_append.1 ht with ht | ht
    ·rcases List.mem_append.1 ht with ht | ht
     ·exact hge t ht
     ·have:=(hN.mem t ht).1; omega
    ·simp [toksL,PC.toks,pB] at ht
  | none =>
   rw [hg] at hok;have hok:ok = false:=hok;subst hok;refine mT ?_;refine zac ?_;(iterate 4 refine mS ?_);(iterate 3 refine mS ?_);refine zhO (k:=S.length + 1) hR3 r7 (by decide) rfl rfl ?_;refine zaR (n:=((S.length:Nat):Int)) rfl rfl rfl (by omega) (by omega) ?_;refine po_slcR (h:=S.length) rfl rfl (zaN rfl rfl) (by omega) ?_;refine mS ?_;refine zaw (p:=0) (o':=0) (cs:=[.row p S.length cap]) (z:=[.row p (S.length + 1) cap]) rfl rfl rfl ⟨rfl,Nat.le_of_ble_eq_true rfl⟩ rfl ?_;refine mN ?_;refine mP ?_;refine zag ⟨.inr rfl,[.d (pB false)],rfl,.row p S.length cap,rest1,false,rfl,rfl,hn2,hl2,.inr ⟨rfl,by unfold stp; simp only [if_true,hg,Option.map_none],S,cells,⟨Nat.le_add_left _ _,.inr ⟨p,S.length,cap,z,rfl,r2,?_,r4,by omega,?_⟩⟩,he,hown.mono2 hn2 hl2,hge,fun t es h => by cases h⟩⟩
   ·match p,r2 with
    | p + 1,_ => exact r3
   ·have:z.take (3 * S.length) = (z.take (3 * (S.length + 1))).take (3 * S.length):=by rw [List.take_take,Nat.min_eq_left (by omega)]
    rw [this,<- r6,List.append_assoc,List.take_left' hcl]
 | false =>
  refine mwF ?_;refine zak ?_;refine mQ ?_;refine zad rfl (cutp_fn (T:=T) (hT:=hT) s 114 (by omega)) ?_;refine mN ?_;have hal:(cutA 114 s).length <= s.length:=by unfold cutA; split; rw [List.length_drop]; omega; exact Nat.le_refl _
  refine mQ ?_;refine zad rfl (zh3 (T:=T) (hT:=hT) hTen hErr (cutA 114 s) (by omega)) ?_;refine mN ?_;have hno:stp S s = none -> HsQ nt0 1 S c ([c] :: rest) nt live -> RlR nt0 S s nt live (.d (pB false)) ([c] :: rest) nt live:=fun h1 h2 => ⟨c,rest,false,rfl,rfl,Nat.le_refl _,fun t ht _ _ => ht,.inr ⟨rfl,h1,S,h2⟩⟩
  refine zab (zab (zac ?_))
  cases h114:cutB 114 s with
  | false =>
   have hst:stp S s = none:=by
    unfold stp
    cases s with
    | nil => rfl
    | cons b r =>
     have n1:¬ b = 112:=by simpa [cutB] using hp
     have n2:¬ b = 114:=by simpa [cutB] using h114
     simp only; rw [if_neg n1,if_neg n2]
   (iterate 3 refine mS ?_)
   iterate 2 (refine zaf rfl ?_)
   (iterate 2 refine mS ?_)
   iterate 6 (refine zaf rfl ?_)
   refine mT ?_;refine mP ?_
   exact zag ⟨.inr rfl,[.d (pB false)],rfl,hno hst hQ⟩
  | true =>
   obtain ⟨tl,rfl,hA⟩:=cutB_yes h114;rw [hA]
   have hstp:stp S (114 :: tl) = if (rdB tl && rlv S (rdN tl)) = true then some (S.set (rdN tl - 1).toNat ((S.getD (rdN tl - 1).toNat (([],[]),false)).1,false)) else none:=by
    unfold stp; simp only; rw [if_neg (by decide),if_pos trivial]
   (iterate 4 refine mS ?_)
   cases hrb:rdB tl with
   | false =>
    have hst:stp S (114 :: tl) = none:=by rw [hstp,hrb]; rfl
    (iterate 3 refine mS ?_)
    iterate 6 (refine zaf rfl ?_)
    refine mT ?_;refine mP ?_
    exact zag ⟨.inr rfl,[.d (pB false)],rfl,hno hst hQ⟩
   | true =>
    (iterate 7 refine mS ?_);refine po_gT rfl rfl (isLive_g (T:=T) (hT:=hT) hR he (by omega) (rdN tl) nt live) ?_;rintro x b n l ⟨rfl,rfl,hn,hl⟩;have hn:=hn.symm; have hl:=hl.symm; subst hn; subst hl
    cases hlv:rlv S (rdN tl) with
    | false =>
     have hst:stp S (114 :: tl) = none:=by rw [hstp,hrb,hlv]; rfl
     refine mT ?_;refine mP ?_
     exact zag ⟨.inr rfl,[.d (pB false)],rfl,hno hst hQ⟩
    | true =>
     have hin:1 <= rdN tl /\ rdN tl <= (S.length:Int):=by
      unfold rlv at hlv;simp only [Bool.and_eq_true,decide_eq_true_eq] at hlv; exact hlv.1
     obtain ⟨k,hk⟩:∃ k:Nat,rdN tl - 1 = k:=⟨(rdN tl - 1).toNat,by omega⟩;have hkS:k < S.length:=by omega
     have hst:stp S (114 :: tl) = some (S.set k (S[k].1,false)):=by
      rw [hstp,hrb,hlv,hk,Int.toNat_natCast,zbC hkS]; rfl
     refine mK ?_;refine mO ?_;(iterate 4 refine mS ?_);refine zaR (n:=(k:Int)) rfl rfl rfl hk (by omega) ?_;refine po_ixR (i:=k) hR (by decide) rfl (by omega) rfl rfl rfl ?_;intro p len cap z e3 h3 h4 h5 h6 h7 h8 h9;refine mS ?_;refine zaw (p:=p) (o':=3 * k + 2) (cs:=[pB false]) (z:=z) rfl rfl h4 ⟨rfl,by omega⟩ rfl ?_;refine zaa ?_;refine mP ?_;have hi2:3 * k + 2 < cells.length:=by omega
     have hg:=erL_get (cs:=cells) (j:=3 * k + 2) (b:=S[k].2) (by rw [he]; exact (zh1 S k hkS).1);obtain ⟨s1,s2⟩:=zfh cells (3 * k + 2) _ false hg;have hset:=RwAt.set (live:=live) (o:=3 * k + 2) (v:=pB false) hR.1 h3 h4 h5 h6 (by omega);rw [<- h7,<- e3] at hset
     match p,h3 with
     | p + 1,_ =>
      refine zag ⟨.inr rfl,[.d (pB true)],rfl,c,rest.set p (spl z (3 * k + 2) [pB false]),true,rfl,rfl,Nat.le_refl _,fun t ht _ _ => ht,.inl ⟨rfl,_,hst,cells.set (3 * k + 2) (pB false),hset,?_,⟨by rw [s2]; exact hown.own,by rw [s1]; exact hown.nd,fun t ht => hown.mem t (by rw [s1] at ht; exact ht)⟩,fun t ht => hge t (by rw [s1] at ht; exact ht),hc⟩⟩;rw [rcC_set S k hkS,<- he,zaU,zaU,List.map_set]; rfl
end
/- Si3 -/
section
variable {T:World -> Prop} {hT:Low ngl T}
attribute [local irreducible] po mw pt
theorem po_slc1 {E:Env} {d n:Nat} {x:X} {lo hi:Option X} {c:List X} {r:List MOpr} {K:St -> Prop} {tm:Nat -> PV} {bx:List (List PC)} {nt:Nat} {live:List Nat} {t l h:Nat} {es rs:List (List PC)} (hx:ev tm x = .d (.sl t es)) (hl:bound (ev tm) 0 lo = some l) (hh:bound (ev tm) es.length hi = some h) (hle:l <= h /\ h <= es.length) (hw:∀ e ∈ es,e.length = n) (hr:(es.drop l).take (h - l) = rs)
  (k:po E r K ⟨up d (.d (.sl 0 rs)) tm,bx,nt,live⟩):po E (⟨some d,.slc n x lo hi,none,c⟩ :: r) K ⟨tm,bx,nt,live⟩:=by
 refine po_q rfl ?_ k;subst hr;simp only [qf,hx,hl,hh];rw [if_pos ⟨hle.1,hle.2,hw⟩]
theorem RwAt.lo {n lo lo':Nat} {live:List Nat} {c:PC} {bx:List (List PC)} {cells:List PC} (h:RwAt n lo live c bx cells) (hl:lo' <= lo):RwAt n lo' live c bx cells :=
 ⟨Nat.le_trans hl h.1,h.2.imp id fun ⟨p,len,cap,z,a1,a2,a3⟩ => ⟨p,len,cap,z,a1,Nat.le_trans hl a2,a3⟩⟩
def HsL (nt0 lo:Nat) (S:Rl) (c:PC) (b:List (List PC)) (n:Nat) (l:List Nat):Prop :=
 ∃ cells,RwAt 3 lo l c b cells /\ erL cells = rcC S /\ OwnL n l cells /\ (∀ t ∈ toksL cells,nt0 <= t) /\ ∀ t es,c = .sl t es -> t = 1 \/ 2 <= t /\ t < n
theorem HsQ.l {nt0 lo n:Nat} {S:Rl} {c:PC} {b:List (List PC)} {l:List Nat} (h:HsQ nt0 lo S c b n l):HsL nt0 0 S c b n l:=by
 obtain ⟨cells,h1,h2,h3,h4,h5⟩:=h;exact ⟨cells,h1.lo (Nat.zero_le _),h2,h3,h4,fun t es e => .inr (h5 t es e)⟩
theorem HsL.sh {nt0 n:Nat} {S:Rl} {c:PC} {b bx:List (List PC)} {l:List Nat} (h:HsL nt0 0 S c b n l):HsL nt0 bx.length S (c.shB bx.length) (bx ++ b.map (·.map (PC.shB bx.length))) n l:=by
 obtain ⟨cells,h1,h2,h3,h4,h5⟩:=h;have h6:=h1.shB (bx:=bx) (zaM (n:=0) h3.own) rfl;rw [Nat.zero_add] at h6;refine ⟨cells,h6,h2,h3,h4,fun t es e => ?_⟩
 rcases h1.2 with ⟨t',e',_⟩ | ⟨p,len,cap,z,e',_⟩
 ·subst e'
  rw [zdp (c:=.sl t' []) (by show lwLL 0 []; trivial)] at e;simp only [PC.sl.injEq] at e;obtain ⟨rfl,rfl⟩:=e;exact h5 _ _ rfl
 ·subst e'
  rw [shB_row] at e; cases e
theorem HsL.none {nt0 n:Nat} {l:List Nat} {b:List (List PC)}:HsL nt0 0 [] (.sl 1 []) b n l :=
 ⟨[],⟨Nat.zero_le _,.inl ⟨1,rfl,.inl rfl,rfl⟩⟩,rfl,⟨rfl,List.nodup_nil,fun t ht => by cases ht⟩,(fun t ht => by cases ht),fun t es e => by simp only [PC.sl.injEq] at e; exact .inl e.1.symm⟩
def HyR (log:List UInt8) (nt:Nat) (live:List Nat) (x:PV) (b:List (List PC)) (n:Nat) (l:List Nat):Prop :=
 ∃ c e S0,x = .tup [.d c,.d e,.d (pB (logR log).isSome)] /\ e.lw 0 /\ HsL nt 0 S0 c b n l /\ nt <= n /\ (∀ t ∈ live,2 <= t -> t < nt -> t ∈ l) /\ ∀ S,logR log = some S -> S0 = S /\ e = .sl 0 (pNr (fes log))
def HyJ (log:List UInt8) (nt:Nat) (live:List Nat) (m:Nat) (st:St):Prop:=∃ (i:Nat) (c:PC) (rest:List (List PC)) (S:Rl),i <= (fcs log).length /\ i <= 40 /\ m = (fcs log).length - i /\ rdL [] ((fcs log).take i) = some S /\
 has st.tm [(0,.d (pS log)),(6,.d (.sl 0 (pNr (fes log)))),(7,.ref 0 0),(17,.d (.sl 0 (pSr (fcs log)))),(18,.d (pI (fcs log).length)),(19,.d (pI i))] /\ st.bx = [c] :: rest /\ HsQ nt 1 S c st.bx st.nt st.live /\ nt <= st.nt /\ ∀ t ∈ live,2 <= t -> t < nt -> t ∈ st.live
theorem zfW:∀ ns:List Nat,lwLL 0 (pNr ns)
 | [] => trivial
 | _n :: ns => ⟨⟨trivial,trivial⟩,zfW ns⟩
theorem history_g (hTab:∀ w,T w -> Tabs w) (hTen:∀ w,T w -> TenTab w) (hErr:∀ w,T w -> ErrTab w) {log:List UInt8} (hs:log.length <= 2147483647) (nt:Nat) (live:List Nat) (hnt:2 <= nt) :
  FnG (env T hT) 152 [.d (pS log)] [] nt live (HyR log nt live):=by
 have hflen:=zeQ log;have hel:(fes log).length = (fcs log).length:=by simp [fes,fcs]
 refine zaZ (zal zg6) (by show 1 <= 51; decide) fun B hB => ?_
 unfold m_i_history;refine mP ?_;refine mQ ?_;refine zad rfl (zh0 (T:=T) (hT:=hT) log hs) ?_;refine mN ?_;refine mO ?_;refine zay (es:=[]) rfl ?_;refine zcF (cs:=[.sl nt []]) rfl rfl rfl rfl ?_;refine mN ?_;refine zau (fun st => ∃ m,HyJ log nt live m st /\ m = 0) ?_ ?_
 ·refine mQ ?_
  refine zaI (n:=(fcs log).length) rfl rfl (zaY _) ?_;refine mN ?_;refine zai ?_;refine zaz (HyJ log nt live) (fcs log).length ⟨0,.sl nt [],[],[],Nat.zero_le _,Nat.zero_le _,rfl,rfl,⟨rfl,rfl,rfl,rfl,rfl,rfl,trivial⟩,rfl,⟨[],⟨Nat.le_refl 1,.inl ⟨nt,rfl,.inr (List.mem_cons_self ..),rfl⟩⟩,rfl,⟨rfl,List.nodup_nil,fun t ht => by cases ht⟩,(fun t ht => by cases ht),fun t es e => ?_⟩,Nat.le_succ _,fun t ht _ _ => List.mem_cons_of_mem _ ht⟩ ?_
  ·simp only [PC.sl.injEq] at e
   obtain ⟨rfl,_⟩:=e;exact ⟨hnt,Nat.lt_succ_self _⟩
  rintro m tm bx nt1 l1 ⟨i,c,rest,S,hi,hi40,rfl,hrd,ht,hbx,hQ,hn1,hlv⟩;obtain ⟨tm0,rfl⟩:=zah ht;simp only at hbx hQ hn1 hlv; subst hbx
  clear ht
  have hSl:S.length <= 40:=by
   have:=zfT _ _ _ hrd
   rw [List.length_take] at this;simp only [List.length_nil] at this; omega
  refine mO ?_;refine po_b rfl rfl (fun b hb => ?_);refine zaa ?_;refine zab ?_;refine zbe (p:=(i:Int) < (fcs log).length) hb rfl (fun h _ => ?_) (fun h _ => ?_)
  ·have hil:i < (fcs log).length:=by omega
   obtain ⟨s,hsd⟩:∃ s,s = (fcs log)[i]:=⟨_,rfl⟩;have hcl:=fcs_el (log:=log) (c:=s) (by rw [hsd]; exact List.getElem_mem hil);have hrd1:rdL [] ((fcs log).take (i + 1)) = stp S s:=by rw [List.take_succ_eq_append_getElem hil,zfS,hrd,hsd]; rfl
   have hget:(pSr (fcs log))[((i:Nat):Int).toNat]? = some [pS s]:=by rw [Int.toNat_natCast,hsd]; exact zbA hil
   have fin:∀ (c':PC) (S':Rl) (b:List (List PC)) (n:Nat) (l:List Nat),logR log = none -> HsQ nt 1 S' c' b n l -> nt <= n -> (∀ t ∈ live,2 <= t -> t < nt -> t ∈ l) -> HyR log nt live (.tup [.d c',.d (.sl 0 ((pNr (fes log)).take i)),.d (pB false)]) b n l:=fun c' S' b n l h1 h2 h3 h4 =>
    ⟨c',_,S',by rw [h1]; rfl,by show lwLL 0 ((pNr (fes log)).take i); unfold pNr; rw [<- List.map_take]; exact zfW _,h2.l,h3,h4,fun S'' h => by rw [h1] at h; cases h⟩
   refine zak ?_;refine zab (zai (zab (zac ?_)));refine mS ?_;refine zaX (es:=pSr (fcs log)) (e:=[pS s]) rfl rfl rfl ⟨by omega,hget⟩ rfl ?_;refine mN ?_;refine zau (fun st => ∃ (c':PC) (rest':List (List PC)) (f:Bool),has st.tm [(0,.d (pS log)),(6,.d (.sl 0 (pNr (fes log)))),(7,.ref 0 0),(8,.d (pI i)),(17,.d (.sl 0 (pSr (fcs log)))),(18,.d (pI (fcs log).length)),(19,.d (pI i)),(30,.d (pB f))] /\ st.bx = [c'] :: rest' /\ nt <= st.nt /\ (∀ t ∈ live,2 <= t -> t < nt -> t ∈ st.live) /\ ((f = true /\ logR log = none /\ ∃ S',HsQ nt 1 S' c' st.bx st.nt st.live) \/ (f = false /\ i < 40 /\ ∃ S',stp S s = some S' /\ HsQ nt 1 S' c' st.bx st.nt st.live))) ?_ ?_
   ·refine zac ?_
    refine mS ?_;by_cases h40:i = 40
    ·subst h40
     refine zaj rfl rfl rfl ?_;refine mS ?_
     iterate 3 (refine zaf rfl ?_)
     refine mN ?_;exact ⟨c,rest,true,⟨rfl,rfl,rfl,rfl,rfl,rfl,rfl,rfl,trivial⟩,rfl,hn1,hlv,.inl ⟨rfl,by unfold logR; rw [if_neg (by omega)],S,hQ⟩⟩
    ·refine zan rfl rfl (by show (((i:Nat):Int) == 40) = false; rw [beq_eq_false_iff_ne]; omega) ?_
     (iterate 2 refine mS ?_);refine po_gT rfl rfl (readRel_g (T:=T) (hT:=hT) hTab hTen hErr hcl (by omega) (by omega) hn1 hQ) ?_;rintro x b n l ⟨c',rest',ok,rfl,rfl,hn2,hl2,hres⟩;have hlv2:∀ t ∈ live,2 <= t -> t < nt -> t ∈ l:=fun t ht h2 hlt => hl2 t (hlv t ht h2 hlt) h2 (by omega)
     rcases hres with ⟨rfl,S',hst,hQ'⟩ | ⟨rfl,hst,S',hQ'⟩
     ·refine mN ?_
      exact ⟨c',rest',false,⟨rfl,rfl,rfl,rfl,rfl,rfl,rfl,rfl,trivial⟩,rfl,by show nt <= n; omega,hlv2,.inr ⟨rfl,by omega,S',hst,hQ'⟩⟩
     ·have hno:logR log = none:=by
       unfold logR;split
       ·exact zhX _ _ (i + 1) (by rw [hrd1]; exact hst)
       ·rfl
      refine mN ?_;exact ⟨c',rest',true,⟨rfl,rfl,rfl,rfl,rfl,rfl,rfl,rfl,trivial⟩,rfl,by show nt <= n; omega,hlv2,.inl ⟨rfl,hno,S',hQ'⟩⟩
   rintro tm bx n l ⟨c',rest',f,ht,hbx,hn2,hl2,hres⟩;obtain ⟨tm1,rfl⟩:=zah ht;simp only at hbx hn2 hl2 hres; subst hbx
   clear ht tm0
   rcases hres with ⟨rfl,hno,S',hQ'⟩ | ⟨rfl,hi4,S',hst,hQ'⟩
   ·refine mwT ?_
    refine mO ?_;(iterate 3 refine mS ?_);refine po_slc1 (l:=0) (h:=i) (es:=pNr (fes log)) (rs:=(pNr (fes log)).take i) rfl rfl (zaN rfl rfl) (by rw [zcY]; omega) (pNr_wid _) (by simp) ?_;refine mN ?_;exact zag ⟨.inr rfl,[.d c',.d (.sl 0 ((pNr (fes log)).take i)),.d (pB false)],rfl,fin c' S' _ _ _ hno hQ' hn2 hl2⟩
   ·refine mwF ?_
    refine zak ?_;refine zac ?_;refine zaq (n:=((i + 1:Nat):Int)) rfl rfl rfl (by omega) (by omega) ?_;refine mN ?_;refine ⟨_,?_,i + 1,c',rest',S',by omega,by omega,rfl,by rw [hrd1]; exact hst,⟨rfl,rfl,rfl,rfl,rfl,rfl,trivial⟩,rfl,hQ',hn2,hl2⟩;show (fcs log).length - (i + 1) < (fcs log).length - i;omega
  ·refine zaH ?_
   exact ⟨_,⟨i,c,rest,S,hi,hi40,rfl,hrd,⟨rfl,rfl,rfl,rfl,rfl,rfl,trivial⟩,rfl,hQ,hn1,hlv⟩,by omega⟩
 rintro tm bx nt1 l1 ⟨_,⟨i,c,rest,S,hi,hi40,hm,hrd,ht,hbx,hQ,hn1,hlv⟩,rfl⟩;obtain ⟨tm0,rfl⟩:=zah ht;simp only at hbx hQ hn1 hlv; subst hbx
 clear ht;have hie:i = (fcs log).length:=by omega
 subst hie;rw [List.take_length] at hrd;refine mP ?_;refine zau (fun st => has st.tm [(0,.d (pS log)),(6,.d (.sl 0 (pNr (fes log)))),(7,.ref 0 0),(10,.d (pI (fend log)))] /\ st.bx = [c] :: rest /\ nt1 = st.nt /\ l1 = st.live) ?_ ?_
 ·refine mQ ?_
  refine zaI (n:=(fes log).length) rfl rfl (zcY _) ?_;by_cases h0:(fes log).length = 0
  ·have e:fend log = 0:=by rw [fend_es,List.length_eq_zero_iff.1 h0]; rfl
   refine zan rfl rfl (decide_eq_false (show ¬ (((fes log).length:Nat):Int) > 0 by omega)) ?_;refine zaa ?_;refine mwF ?_;refine zak ?_;exact ⟨⟨rfl,rfl,rfl,by rw [e]; rfl,trivial⟩,rfl,rfl,rfl⟩
  ·have hk:(fes log).length - 1 < (fes log).length:=by omega
   have e:fend log = (fes log)[(fes log).length - 1]:=by rw [fend_es,zbC hk]
   refine zaj rfl rfl (decide_eq_true (show (((fes log).length:Nat):Int) > 0 by omega)) ?_;refine zaa ?_;refine mwT ?_;refine zac ?_;(iterate 2 refine mS ?_);refine zaI (n:=(fes log).length) rfl rfl (zcY _) ?_;refine zaR (n:=(((fes log).length - 1:Nat):Int)) rfl rfl rfl (by omega) (by omega) ?_;refine zaX (es:=pNr (fes log)) (e:=[pI ((fes log)[(fes log).length - 1]:Int)]) rfl rfl rfl ⟨by omega,by rw [Int.toNat_natCast]; exact pNr_get hk⟩ rfl ?_;refine mN ?_;exact ⟨⟨rfl,rfl,rfl,by rw [e]; rfl,trivial⟩,rfl,rfl,rfl⟩
 rintro tm bx n l ⟨ht,hbx,rfl,rfl⟩;obtain ⟨tm1,rfl⟩:=zah ht;simp only at hbx; subst hbx
 clear ht;have hw:PC.lw 0 (.sl 0 (pNr (fes log))):=zfW _;refine mO ?_;(iterate 4 refine mS ?_);refine po_q (v:=.d (pI log.length)) rfl rfl ?_;by_cases h1:fend log = log.length
 ·have hyes:logR log = some S:=by unfold logR; rw [if_pos ⟨h1,hi40⟩,hrd]
  refine zaj rfl rfl (by show ((fend log:Int) == (log.length:Int)) = true; rw [beq_iff_eq]; omega) ?_;refine mN ?_;exact zag ⟨.inr rfl,[.d c,.d (.sl 0 (pNr (fes log))),.d (pB true)],rfl,c,_,S,by rw [hyes]; rfl,hw,hQ.l,hn1,hlv,fun S' h => ⟨by rw [hyes] at h; simpa using h,rfl⟩⟩
 ·have hno:logR log = none:=by unfold logR; rw [if_neg (fun h => h1 h.1)]
  refine zan rfl rfl (by show ((fend log:Int) == (log.length:Int)) = false; rw [beq_eq_false_iff_ne]; omega) ?_;refine mN ?_;exact zag ⟨.inr rfl,[.d c,.d (.sl 0 (pNr (fes log))),.d (pB false)],rfl,c,_,S,by rw [hno]; rfl,hw,hQ.l,hn1,hlv,fun S' h => by rw [hno] at h; cases h⟩
/- Si4 -/
theorem history_l (hTab:∀ w,T w -> Tabs w) (hTen:∀ w,T w -> TenTab w) (hErr:∀ w,T w -> ErrTab w) {log:List UInt8} (hs:log.length <= 2147483647) (bx:List (List PC)) (nt:Nat) (live:List Nat) (hnt:2 <= nt) :
  FnG (env T hT) 152 [.d (pS log)] bx nt live (fun x b n l => ∃ rest c e S0,b = bx ++ rest /\ x = .tup [.d c,.d e,.d (pB (logR log).isSome)] /\ HsL nt bx.length S0 c b n l /\ nt <= n /\ (∀ t ∈ live,2 <= t -> t < nt -> t ∈ l) /\ ∀ S,logR log = some S -> S0 = S /\ e = .sl 0 (pNr (fes log))):=by
 refine (FnG.liftR (history_g (T:=T) (hT:=hT) hTab hTen hErr hs nt live hnt) ⟨trivial,trivial⟩).mono ?_;rintro x b n l ⟨x0,b0,rfl,rfl,c,e,S0,rfl,he,hQ,hn,hlv,hS⟩;refine ⟨_,c.shB bx.length,e,S0,rfl,?_,hQ.sh,hn,hlv,hS⟩;simp only [PV.shB,shBs];rw [zdp he,zdp (c:=pB (logR log).isSome) trivial]
def ReR (log:List UInt8) (safe:Int) (nt:Nat) (live:List Nat) (x:PV) (b:List (List PC)) (n:Nat) (l:List Nat):Prop :=
 ∃ c fr S0,x = .tup [.d c,.d (pI fr),.d (pB (stR log safe).isSome)] /\ HsL nt 0 S0 c b n l /\ nt <= n /\ (∀ t ∈ live,2 <= t -> t < nt -> t ∈ l) /\ (∀ S,stR log safe = some S -> S0 = S /\ fr = ((fcs log).length:Int)) /\ (stR log safe = none -> S0 = [])
theorem HsL.lo {nt0 lo n:Nat} {S:Rl} {c:PC} {b:List (List PC)} {l:List Nat} (h:HsL nt0 lo S c b n l):HsL nt0 0 S c b n l:=by
 obtain ⟨cells,h1,h2⟩:=h;exact ⟨cells,h1.lo (Nat.zero_le _),h2⟩
theorem read_g (hTab:∀ w,T w -> Tabs w) (hTen:∀ w,T w -> TenTab w) (hErr:∀ w,T w -> ErrTab w) {log:List UInt8} {safe:Int} (hs:log.length <= 2147483647) (nt:Nat) (live:List Nat) (hnt:2 <= nt) :
  FnG (env T hT) 105 [.ag (stC log safe)] [] nt live (ReR log safe nt live):=by
 have hel:(fes log).length = (fcs log).length:=by simp [fes,fcs]
 have hflen:=zeQ log;refine zaZ (zal lk_i_read) (by show 1 <= 32; decide) fun B hB => ?_
 unfold m_i_read;refine mO ?_;refine zbo (cs:=stC log safe) rfl ?_;refine mN ?_;refine mO ?_;(iterate 2 refine mS ?_);refine po_g rfl (history_l (T:=T) (hT:=hT) hTab hTen hErr hs _ _ _ hnt) ?_;rintro x b n l ⟨rest,c,e,S0,rfl,rfl,hQ,hn,hlv,hS⟩;refine mN ?_
 have no:stR log safe = none -> ReR log safe nt live (.tup [.d (.sl 1 []),.d (pI 0),.d (pB false)]) ([stC log safe] ++ rest) n l:=fun h =>
  ⟨.sl 1 [],0,[],by rw [h]; rfl,.none,hn,hlv,(fun S h' => by rw [h] at h'; cases h'),fun _ => rfl⟩
 refine zab (zab (zac ?_))
 cases hl:logR log with
 | none =>
  have hno:stR log safe = none:=by unfold stR; rw [hl]; split <;> rfl
  (iterate 3 refine mS ?_)
  iterate 10 (refine zaf rfl ?_)
  refine mT ?_;refine mP ?_
  exact zag ⟨.inr rfl,[.d (.sl 1 []),.d (pI 0),.d (pB false)],rfl,no hno⟩
 | some S =>
  obtain ⟨rfl,rfl⟩:=hS S hl;have hst:stR log safe = if 0 <= safe /\ (safe = 0 \/ safe.toNat ∈ fes log) then some S0 else none:=by unfold stR; rw [hl]
  have yes:stR log safe = some S0 -> ReR log safe nt live (.tup [.d c,.d (pI (fes log).length),.d (pB true)]) ([stC log safe] ++ rest) n l:=fun h =>
   ⟨c,_,S0,by rw [h]; rfl,hQ.lo,hn,hlv,(fun S h' => by rw [h] at h'; exact ⟨by simpa using h',by rw [hel]⟩),fun h' => by rw [h] at h'; cases h'⟩
  (iterate 5 refine mS ?_);by_cases h0:safe = 0
  ·have hyes:stR log safe = some S0:=by rw [hst,if_pos ⟨by omega,.inl h0⟩]
   refine zan rfl rfl (by show (!(safe == 0)) = false; rw [h0]; rfl) ?_;refine mS ?_
   iterate 5 (refine zaf rfl ?_)
   refine mK ?_;refine mO ?_;(iterate 2 refine mS ?_);refine zaI (n:=(fes log).length) rfl rfl (zcY _) ?_;refine mN ?_;exact zag ⟨.inr rfl,[.d c,.d (pI (fes log).length),.d (pB true)],rfl,yes hyes⟩
  ·refine zaj rfl rfl (by show (!(safe == 0)) = true; rw [beq_eq_false_iff_ne.2 h0]; rfl) ?_
   (iterate 4 refine mS ?_);refine zaE (b:=true) (args:=[.d (.sl 0 (pNr (fes log))),.d (pI safe)]) rfl (fun _ => pNr_arg _ _) (fun _ => zg7 (T:=T) (hT:=hT) (fes log) safe (by omega)) ?_;by_cases hin:0 <= safe /\ safe.toNat ∈ fes log
   ·have hyes:stR log safe = some S0:=by rw [hst,if_pos ⟨hin.1,.inr hin.2⟩]
    rw [decide_eq_true hin];refine mK ?_;refine mO ?_;(iterate 2 refine mS ?_);refine zaI (n:=(fes log).length) rfl rfl (zcY _) ?_;refine mN ?_;exact zag ⟨.inr rfl,[.d c,.d (pI (fes log).length),.d (pB true)],rfl,yes hyes⟩
   ·have hno:stR log safe = none:=by rw [hst,if_neg (fun h => hin ⟨h.1,h.2.resolve_left h0⟩)]
    rw [decide_eq_false hin];refine mT ?_;refine mP ?_;exact zag ⟨.inr rfl,[.d (.sl 1 []),.d (pI 0),.d (pB false)],rfl,no hno⟩
def ReL (log:List UInt8) (safe:Int) (bx:List (List PC)) (nt:Nat) (live:List Nat) (x:PV) (b:List (List PC)) (n:Nat) (l:List Nat):Prop :=
 ∃ rest c fr S0,b = bx ++ rest /\ x = .tup [.d c,.d (pI fr),.d (pB (stR log safe).isSome)] /\ HsL nt bx.length S0 c b n l /\ nt <= n /\ (∀ t ∈ live,2 <= t -> t < nt -> t ∈ l) /\ (∀ S,stR log safe = some S -> S0 = S /\ fr = ((fcs log).length:Int)) /\ (stR log safe = none -> S0 = [])
theorem stC_lw (log:List UInt8) (safe:Int):lwVs 0 [.ag (stC log safe)]:=⟨⟨trivial,trivial,trivial⟩,trivial⟩
theorem read_l (hTab:∀ w,T w -> Tabs w) (hTen:∀ w,T w -> TenTab w) (hErr:∀ w,T w -> ErrTab w) {log:List UInt8} {safe:Int} (hs:log.length <= 2147483647) (bx:List (List PC)) (nt:Nat) (live:List Nat) (hnt:2 <= nt) :
  FnG (env T hT) 105 [.ag (stC log safe)] bx nt live (ReL log safe bx nt live):=by
 refine (FnG.liftR (read_g (T:=T) (hT:=hT) hTab hTen hErr hs nt live hnt) (stC_lw _ _)).mono ?_;rintro x b n l ⟨x0,b0,rfl,rfl,c,fr,S0,rfl,hQ,hn,hlv,h1,h2⟩;refine ⟨_,c.shB bx.length,fr,S0,rfl,?_,hQ.sh,hn,hlv,h1,h2⟩;simp only [PV.shB,shBs];rw [zdp (c:=pI fr) trivial,zdp (c:=pB (stR log safe).isSome) trivial]
theorem pframeI_fn (l:List UInt8) (hl:l.length <= 2147483647):FnV (env T hT) 111 [.d (pS l)] (.d (pS (frame l))):=by
 refine FnV.old rfl fun w C vs hF _ _ hlen hv => ?_
 match vs,hlen with
 | [x],_ =>
  have h1:=zbW (hv 0 _ _ rfl rfl);subst h1;exact zfv l w (by omega)
theorem zh4 (hTab:∀ w,T w -> Tabs w) (hTen:∀ w,T w -> TenTab w) (hErr:∀ w,T w -> ErrTab w) (log:List UInt8) (safe:Int) (ns:List (List UInt8)) (vs:List V) (hs:log.length <= 2000000000) (hD:DSm ns vs) :
  FnV (env T hT) 57 [.ag (stC log safe),.ag (dC ns vs)] (.tup [.ag (stC (pubL log safe (ns,vs)) safe),.d (pI (pubN log safe (ns,vs)))]):=by
 have hds:=dC_er ns vs;refine zaT (zal zg5) (by show 2 <= 39; decide) fun B hB => ?_
 unfold m_i_Publish;refine mO ?_;refine zbo (cs:=stC log safe) rfl ?_;refine zbo (cs:=dC ns vs) rfl ?_;refine mN ?_;refine mQ ?_;refine po_g (args:=[.ag (stC log safe)]) rfl (read_l (T:=T) (hT:=hT) hTab hTen hErr (by omega) _ _ _ (by decide)) ?_;rintro x b n l ⟨rest,c,fr,S0,rfl,rfl,hQ,hn,hlv,h1,h2⟩;refine mN ?_;refine zab (zau (fun st => has st.tm [(2,.ref 0 0),(3,.ref 1 0),(4,.ref 2 0),(6,.d c),(25,.d (pB (pubS log safe (ns,vs)).isNone))] /\ st.bx = [stC log safe,dC ns vs,stC [] 0] ++ rest /\ n = st.nt /\ l = st.live) ?_ ?_)
 ·refine zac ?_
  cases hst:stR log safe with
  | none =>
   have hp:pubS log safe (ns,vs) = none:=by unfold pubS; rw [hst]
   rw [hp];(iterate 3 refine mS ?_)
   iterate 3 (refine zaf rfl ?_)
   (iterate 2 refine mS ?_)
   iterate 2 (refine zaf rfl ?_)
   refine mN ?_
   exact ⟨⟨rfl,rfl,rfl,rfl,rfl,trivial⟩,rfl,rfl,rfl⟩
  | some S =>
   obtain ⟨rfl,rfl⟩:=h1 S hst;have h40:=(logR_len (zfU hst).1).2.2.1;(iterate 4 refine mS ?_);refine zaE (b:=true) (args:=[.ag (dC ns vs)]) rfl (fun _ => zdQ hds) (fun _ => zfe (T:=T) (hT:=hT) hTab ns vs hD) ?_
   cases hd:dictB ns vs with
   | false =>
    have hp:pubS log safe (ns,vs) = none:=by unfold pubS; rw [hst]; simp only; rw [if_neg (by rw [hd]; simp)]
    rw [hp];(iterate 3 refine mS ?_)
    iterate 2 (refine zaf rfl ?_)
    refine mN ?_
    exact ⟨⟨rfl,rfl,rfl,rfl,rfl,trivial⟩,rfl,rfl,rfl⟩
   | true =>
    (iterate 4 refine mS ?_);by_cases h4:(fcs log).length < 40
    ·have hp:pubS log safe (ns,vs) = some S0:=by unfold pubS; rw [hst]; simp only; rw [if_pos ⟨hd,h4⟩]
     rw [hp];refine zan rfl rfl (by show (((fcs log).length:Int) == 40) = false; rw [beq_eq_false_iff_ne]; omega) ?_;refine mN ?_;exact ⟨⟨rfl,rfl,rfl,rfl,rfl,trivial⟩,rfl,rfl,rfl⟩
    ·have hp:pubS log safe (ns,vs) = none:=by unfold pubS; rw [hst]; simp only; rw [if_neg (fun h => h4 h.2)]
     rw [hp];refine zaj rfl rfl (by show (((fcs log).length:Int) == 40) = true; rw [beq_iff_eq]; omega) ?_;refine mN ?_;exact ⟨⟨rfl,rfl,rfl,rfl,rfl,trivial⟩,rfl,rfl,rfl⟩
 rintro tm bx n1 l1 ⟨ht,hbx,rfl,rfl⟩;obtain ⟨tm0,rfl⟩:=zah ht;simp only at hbx; subst hbx
 clear ht
 cases hp:pubS log safe (ns,vs) with
 | none =>
  have e1:pubL log safe (ns,vs) = log:=by unfold pubL; rw [hp]
  have e2:pubN log safe (ns,vs) = 0:=by unfold pubN; rw [hp]
  rw [e1,e2];refine mwT ?_;refine mQ ?_;refine zap (p:=2) (cs:=stC log safe) rfl rfl rfl rfl rfl rfl ?_;refine mN ?_
  exact zag ⟨.inr rfl,[.ag (stC log safe),.d (pI 0)],rfl,rfl⟩
 | some S =>
  have e1:pubL log safe (ns,vs) = log ++ frame (112 :: dictT ns vs):=by unfold pubL; rw [hp]
  have e2:pubN log safe (ns,vs) = S.length + 1:=by unfold pubN; rw [hp]
  rw [e1,e2]
  have hst:stR log safe = some S /\ dictB ns vs = true:=by
   unfold pubS at hp
   split at hp
   ·rename_i S' hst
    split at hp
    ·rename_i hh; simp only [Option.some.injEq] at hp; subst hp; exact ⟨hst,hh.1⟩
    ·cases hp
   ·cases hp
  obtain ⟨hst,hd⟩:=hst;obtain ⟨rfl,rfl⟩:=h1 S hst;have hSl:=(logR_len (zfU hst).1).1;obtain ⟨t1,t2,t3,t4⟩:=dictB_T hd;have hpd:=zcX (T:=T) (hT:=hT) ns vs t3 t4 hD.2.2.2.1;have hfl:=zg3 (112 :: dictT ns vs);simp only [List.length_cons] at hfl;obtain ⟨cells,hR,he,_⟩:=hQ;refine mwF ?_;refine zak ?_;refine mO ?_;(iterate 3 refine mS ?_);refine zad (args:=[.ag (dC ns vs)]) (zdQ hds) hpd ?_;refine zax (la:=[112]) (lb:=dictT ns vs) rfl rfl rfl (by simp only [List.length_singleton]; omega) ?_;refine zad rfl (pframeI_fn (T:=T) (hT:=hT) (112 :: dictT ns vs) (by simp only [List.length_cons]; omega)) ?_;refine zax (la:=log) (lb:=frame (112 :: dictT ns vs)) rfl rfl rfl (by omega) ?_;refine mS ?_;refine zaw (p:=0) (o':=0) (cs:=[pS (log ++ frame (112 :: dictT ns vs))]) (z:=stC log safe) rfl rfl rfl ⟨rfl,Nat.le_of_ble_eq_true rfl⟩ rfl ?_;refine zaa ?_
  have hR1:RwAt 3 3 l c (stC (log ++ frame (112 :: dictT ns vs)) safe :: dC ns vs :: stC [] 0 :: rest) cells:=hR.cong (Nat.le_refl _) fun q h1 _ => by
   match q,h1 with
   | q + 3,_ => rfl
  refine mO ?_;(iterate 2 refine mS ?_);refine zhO (k:=S0.length) hR1 (zh2 he) (by decide) rfl rfl ?_;refine zaq (n:=(S0.length + 1:Int)) rfl rfl rfl rfl (by omega) ?_;refine zap (p:=2) (cs:=stC (log ++ frame (112 :: dictT ns vs)) safe) rfl rfl rfl rfl rfl rfl ?_;refine mN ?_;exact zag ⟨.inr rfl,[.ag (stC (log ++ frame (112 :: dictT ns vs)) safe),.d (pI (S0.length + 1))],rfl,rfl⟩
/- Si5 -/
end
/- StL1 -/
section
attribute [local irreducible] po mw pt
def TS (w:World):Prop:=Tabs w /\ TenTab w /\ ErrTab w
theorem TS.low:Low ngl TS:=by
 intro w w' h hs hk;have h1:2 < ngl:=of_decide_eq_true (by unfold ngl; kernel_rfl);have h2:3 < ngl:=of_decide_eq_true (by unfold ngl; kernel_rfl);have h3:4 < ngl:=of_decide_eq_true (by unfold ngl; kernel_rfl);refine ⟨Tabs.low w w' h.1 hs hk,?_,ErrTab.low h2 h3 hk h.2.2⟩;have ht:=h.2.1;unfold TenTab Lib.TabIs at ht ⊢;unfold World.var? at ht ⊢;simp only [tenG,Option.bind_some] at ht ⊢;rw [hk _ h1]; exact ht
theorem TS.a:∀ w,TS w -> Tabs w:=fun _ h => h.1
theorem TS.b:∀ w,TS w -> TenTab w:=fun _ h => h.2.1
theorem TS.c:∀ w,TS w -> ErrTab w:=fun _ h => h.2.2
section
variable {T:World -> Prop} {hT:Low ngl T}
theorem szSt_fn (log:List UInt8) (safe:Int) (hs:log.length <= 9223372036854775807):FnV (env T hT) 36 [.ag (stC log safe),.d (pI 1048576)] (.d (pI (if (log.length:Int) > 1048576 then -1 else 1048576 - log.length))):=by
 refine zaT (zal zgM) (by show 2 <= 13; decide) fun B hB => ?_
 unfold m_l_szStore;refine mO ?_;refine zbo (cs:=stC log safe) rfl ?_;refine mN ?_;refine mO ?_;(iterate 3 refine mS ?_);refine po_q (v:=.d (pI log.length)) rfl rfl ?_;refine zaR (n:=(1048576 - log.length:Int)) rfl rfl rfl rfl (by omega) ?_;refine mN ?_;refine zab (zab (zac ?_));refine mS ?_;by_cases h:(log.length:Int) > 1048576
 ·refine zaj rfl rfl (decide_eq_true (show (1048576 - log.length:Int) < 0 by omega)) ?_
  rw [if_pos h];refine mT ?_;refine mP ?_;exact mR
 ·refine zan rfl rfl (decide_eq_false (show ¬ (1048576 - log.length:Int) < 0 by omega)) ?_
  rw [if_neg h];refine mK ?_;refine mP ?_;exact mR
theorem toSt_fn (log:List UInt8) (safe:Int):FnV (env T hT) 38 [.ag (stC log safe)] (.ag (stC log safe)):=by
 refine zaT (zal zgN) (by show 1 <= 11; decide) fun B hB => ?_
 unfold m_l_toStore;refine mO ?_;refine zbo (cs:=stC log safe) rfl ?_;refine mN ?_;refine mP ?_;refine mO ?_;(iterate 3 refine mS ?_);refine zaw (p:=2) (o':=0) (cs:=[pS log]) (z:=stC [] 0) rfl rfl rfl ⟨rfl,Nat.le_of_ble_eq_true rfl⟩ rfl ?_;refine zaa ?_;refine mO ?_;(iterate 3 refine mS ?_);refine zaw (p:=2) (o':=1) (cs:=[pI safe]) (z:=[pS log,pI 0]) rfl rfl rfl ⟨rfl,Nat.le_of_ble_eq_true rfl⟩ rfl ?_;refine zaa ?_;refine mQ ?_;refine zap (p:=1) (cs:=stC log safe) rfl rfl rfl rfl rfl rfl ?_;refine zaa ?_;exact zag ⟨.inr rfl,[.ag (stC log safe)],rfl,rfl⟩
theorem eqSt_fn (log:List UInt8) (safe:Int):FnV (env T hT) 42 [.ag (stC log safe),.ag (stC log safe)] (.d (pB true)):=by
 refine zaT (zal zgO) (by show 2 <= 15; decide) fun B hB => ?_
 unfold m_l_eqStore;refine mO ?_;refine zbo (cs:=stC log safe) rfl ?_;refine zbo (cs:=stC log safe) rfl ?_;refine mN ?_;refine zab (zab (zac ?_));(iterate 4 refine mS ?_);refine po_nes (la:=log) (lb:=log) rfl rfl rfl ?_;rw [decide_eq_true rfl];refine mK ?_;refine zab (zab (zac ?_));(iterate 4 refine mS ?_);refine zan rfl rfl (by show (!(safe == safe)) = false; simp) ?_;refine mK ?_;refine mP ?_;exact mR
end
theorem stC_rp {w:World} (log:List UInt8) (safe:Int):RpV (C0 w) w (.ag (stC log safe)) (.agg #[.string ⟨log.toArray⟩,.int .i64 safe]):=by
 have:=RpV.ag (C:=C0 w) (w:=w) (stC log safe) [.string ⟨log.toArray⟩,.int .i64 safe] (.cons (.v _ rfl) (.cons (.v _ rfl) .nil))
 simpa using this
section
variable (log:List UInt8) (safe v:Int) (w:World) (hn:ngl <= w.heap.size) (hT:TS w)
include hn hT
end
section
variable (log:List UInt8) (safe v:Int) (w:World) (hn:ngl <= w.heap.size) (hT:TS w) (hs:strok log)
include hn hT hs
end
end
/- StL4M -/
section
def m_l_FnExactPublish:M:=so [qo 2 (.box (.t 0)),qo 3 (.box (.t 1)),qo 4 (.mv (cB false))] (so [qo 5 (.mv (ci 1048576))] (so [qL 11 2 2,qm 12 5,qc 13 36 [.t 11,.t 12] 1,qm 5 13] (.seq (so [qm 14 5,qo 15 (.bin .lss false (.t 14) (ci 0))] (.cond (.t 15) (so [qo 4 (.mv (cB true))] .ret) .skip)) (so [qL 16 2 3,qm 17 5,qc 18 54 [.t 16,.t 17] 1,qm 5 18] (.seq (so [qm 19 5,qo 20 (.bin .lss false (.t 19) (ci 0))] (.cond (.t 20) (so [qo 4 (.mv (cB true))] .ret) .skip)) (.seq (.tree (.node [qL 22 2 2,qL 24 2 3] (.alt ⟨some 23,.call 38 [.t 22],none,[.f 0,.t 3]⟩ (.node [] (.alt (qc 25 56 [.t 24] 0) (.node [] (.alt (qc 26 55 [.t 23,.t 25] 0) (.node [qm 21 26,qe 27 21 0,qe 28 21 1] (.alt ⟨some 6,.zero [.string ⟨[].toArray⟩,.int .i64 0],none,[]⟩ (.node [] (.alt (qS 2 6 27) (.node [qm 7 28] .leaf) .leaf)) .leaf)) (.alt ⟨some 6,.zero [.string ⟨[].toArray⟩,.int .i64 0],none,[]⟩ (.node [] (.alt (qc 26 55 [.t 23,.t 25] 0) (.node [qm 21 26,qe 27 21 0,qe 28 21 1] (.alt (qS 2 6 27) (.node [qm 7 28] .leaf) .leaf)) .leaf)) .leaf))) (.alt ⟨some 6,.zero [.string ⟨[].toArray⟩,.int .i64 0],none,[]⟩ (.node [] (.alt (qc 25 56 [.t 24] 0) (.node [] (.alt (qc 26 55 [.t 23,.t 25] 0) (.node [qm 21 26,qe 27 21 0,qe 28 21 1] (.alt (qS 2 6 27) (.node [qm 7 28] .leaf) .leaf)) .leaf)) .leaf)) .leaf))) (.alt ⟨some 6,.zero [.string ⟨[].toArray⟩,.int .i64 0],none,[]⟩ (.node [] (.alt ⟨some 23,.call 38 [.t 22],none,[.f 0,.t 3]⟩ (.node [] (.alt (qc 25 56 [.t 24] 0) (.node [] (.alt (qc 26 55 [.t 23,.t 25] 0) (.node [qm 21 26,qe 27 21 0,qe 28 21 1] (.alt (qS 2 6 27) (.node [qm 7 28] .leaf) .leaf)) .leaf)) .leaf)) .leaf)) .leaf)))) (so [qL 29 2 3,qc 30 56 [.t 29] 1,qo 8 (.zero [.slice none 0 0,.slice none 0 0]),qS 2 8 30] (.seq (.tree (.node [qL 32 2 2,qL 34 2 8] (.alt ⟨some 33,.call 38 [.t 32],none,[.f 0,.t 8]⟩ (.node [] (.alt (qc 35 57 [.t 33,.t 34] 0) (.node [qm 31 35,qe 36 31 0,qe 37 31 1] (.alt ⟨some 9,.zero [.string ⟨[].toArray⟩,.int .i64 0],none,[]⟩ (.node [] (.alt (qS 2 9 36) (.node [qm 10 37] .leaf) .leaf)) .leaf)) (.alt ⟨some 9,.zero [.string ⟨[].toArray⟩,.int .i64 0],none,[]⟩ (.node [] (.alt (qc 35 57 [.t 33,.t 34] 0) (.node [qm 31 35,qe 36 31 0,qe 37 31 1] (.alt (qS 2 9 36) (.node [qm 10 37] .leaf) .leaf)) .leaf)) .leaf))) (.alt ⟨some 9,.zero [.string ⟨[].toArray⟩,.int .i64 0],none,[]⟩ (.node [] (.alt ⟨some 33,.call 38 [.t 32],none,[.f 0,.t 8]⟩ (.node [] (.alt (qc 35 57 [.t 33,.t 34] 0) (.node [qm 31 35,qe 36 31 0,qe 37 31 1] (.alt (qS 2 9 36) (.node [qm 10 37] .leaf) .leaf)) .leaf)) .leaf)) .leaf)))) (.seq (so [qL 38 2 9,qL 39 2 6,qc 40 42 [.t 38,.t 39] 1,qo 41 (.not (.t 40)),qm 42 41,qg 43 10 42 false,qg 44 7 42 false,⟨some 45,.bin .neq false (.t 43) (.t 44),some (42,false),[]⟩,qo 46 (.pick (.t 42) (cB true) (.t 45))] (.cond (.t 46) (so [qo 4 (.mv (cB false))] .ret) .skip)) (.seq (so [qL 47 2 8,qL 48 2 3,⟨some 49,.call 56 [.t 48],none,[.f 0,.t 8]⟩,qc 50 16 [.t 47,.t 49] 0,qo 51 (.not (.t 50))] (.cond (.t 51) (so [qo 4 (.mv (cB false))] .ret) .skip)) (so [qo 4 (.mv (cB true))] .ret)))))))))))
theorem zcZ:look Tryz.prog 12 = some (52,m_l_FnExactPublish,[.tm 4]):=by kernel_rfl
end
/- StL4 -/
section
attribute [local irreducible] po mw pt
section
variable {T:World -> Prop} {hT:Low ngl T} {w:World} {hn:ngl <= w.heap.size}
theorem szD_fn {x:DcI} {cs:List Value} (hr:Rd w x.d cs) (hw:x.wf) {l:Int} (hl:0 <= l /\ l <= 1048576):FnV (envW T hT w hn) 54 [.ag (rawL cs),.d (pI l)] (.d (pI (take' (x.ns.length + ssBulk x.ns + (x.vs.length + V.bulks x.vs)) l))):=by
 refine FnV.old rfl fun W C vs _ _ hS hlen hv => ?_
 match vs,hlen with
 | [a,b],_ =>
  have ha:=rawL_inv (hv 0 _ _ rfl rfl);have hb:=int_inv (hv 1 _ _ rfl rfl)
  subst ha; subst hb
  exact szDict_any _ _ cs l W (Stay.rd hS hr) hw.1 hw.2.2.1 (by have:=hw.2.1; unfold maxLen at this; omega) (by have:=hw.2.2.2; unfold maxLen at this; omega) hl
theorem toD_fn {x:DcI} {cs:List Value} (hr:Rd w x.d cs) (h1:x.ns.length <= 1048576) (h2:x.vs.length + V.bulks x.vs <= 1048576):FnO (envW T hT w hn) 56 [.ag (rawL cs)] (.ag (dC x.ns x.vs)):=by
 rw [<- dD_pc];refine FnO.old (dD_wf _ _) fun W C vs _ _ hS hlen hv => ?_
 match vs,hlen with
 | [a],_ =>
  have ha:=rawL_inv (hv 0 _ _ rfl rfl);subst ha;exact toDict_any _ _ cs W (Stay.rd hS hr) h1 h2
end
theorem zfi:∀ {ns:List (List UInt8)} {n:List UInt8},n ∈ ns -> n.length <= ssBulk ns
 | m :: ns,n,h => by
  rcases List.mem_cons.1 h with rfl | h
  ·simp only [ssBulk]; omega
  ·have:=zfi h; simp only [ssBulk]; omega
theorem zeR:∀ {vs:List V} {v:V},v ∈ vs -> v.bulk <= V.bulks vs
 | m :: vs,v,h => by
  rcases List.mem_cons.1 h with rfl | h
  ·simp only [V.bulks]; omega
  ·have:=zeR h; simp only [V.bulks]; omega
theorem wfs_mem {vs:List V} (h:V.wfs vs) {v:V} (hv:v ∈ vs):v.wf:=by
 obtain ⟨i,hi,rfl⟩:=List.mem_iff_getElem.1 hv;exact V.wfs_get h i hi
def PuT (l:List UInt8) (safe n:Int) (b:List (List PC)) (nt:Nat) (live:List Nat) (st:St):Prop:=has st.tm [(2,.ref 0 0),(3,.ref 1 0),(6,.ref 2 0),(7,.d (pI n))] /\ st.bx = b ++ [stC l safe] /\ nt = st.nt /\ live = st.live
def PuU (l:List UInt8) (safe n:Int) (b:List (List PC)) (nt:Nat) (live:List Nat) (st:St):Prop:=has st.tm [(2,.ref 0 0),(3,.ref 1 0),(6,.ref 2 0),(7,.d (pI n)),(8,.ref 3 0),(9,.ref 4 0),(10,.d (pI n))] /\ st.bx = b ++ [stC l safe] /\ nt = st.nt /\ live = st.live
theorem zfX {w:World} {hn:ngl <= w.heap.size} (log:List UInt8) (safe:Int) (x:DcI) {v1 v2:Value} (hr:Rd w x.d [v1,v2]) (hw:x.wf) (hl:log.length <= 9223372036854775807) :
  FnV (envW TS TS.low w hn) 12 [.ag (stC log safe),.ag [.v v1,.v v2]] (.d (pB true)):=by
 refine zaT (E:=envW TS TS.low w hn) (by rw [show (envW TS TS.low w hn).P = Tryz.prog from rfl]; exact zcZ) (by show 2 <= 52; decide) fun B hB => ?_
 unfold m_l_FnExactPublish;refine mO ?_;refine zbo (cs:=stC log safe) rfl ?_;refine zbo (cs:=[.v v1,.v v2]) rfl ?_;refine mN ?_;refine mP ?_;refine mO ?_;(iterate 2 refine mS ?_);refine zad (args:=[.ag (stC log safe),.d (pI 1048576)]) rfl (szSt_fn log safe hl).toW ?_;refine mN ?_;refine zab (zab (zac ?_));refine mS ?_;by_cases h:(log.length:Int) > 1048576
 ·rw [if_pos h]
  refine zaj rfl rfl rfl ?_;refine mT ?_;refine mP ?_;exact mR
 rw [if_neg h];refine zan rfl rfl (decide_eq_false (show ¬ (1048576 - log.length:Int) < 0 by omega)) ?_;refine mK ?_;have hz:=szD_fn (T:=TS) (hT:=TS.low) (hn:=hn) hr hw (l:=1048576 - log.length) ⟨by omega,by omega⟩;generalize hq:take' (x.ns.length + ssBulk x.ns + (x.vs.length + V.bulks x.vs)) (1048576 - (log.length:Int)) = q at hz;refine mO ?_;(iterate 2 refine mS ?_);refine zad (args:=[.ag [.v v1,.v v2],.d (pI (1048576 - log.length))]) rfl hz ?_;refine mN ?_;refine zab (zab (zac ?_));refine mS ?_;by_cases h0:q < 0
 ·refine zaj rfl rfl (decide_eq_true h0) ?_
  refine mT ?_;refine mP ?_;exact mR
 refine zan rfl rfl (decide_eq_false h0) ?_;refine mK ?_
 have hbk:x.ns.length + ssBulk x.ns + (x.vs.length + V.bulks x.vs) <= 1048576:=by
  unfold take' at hq; split at hq <;> omega
 clear hz hq;have hs:log.length <= 2000000000:=by omega
 have hD:DSm x.ns x.vs:=⟨by omega,fun n h => by have:=zfi h; omega,by omega,fun v h => wfs_mem hw.2.2.1 h,fun v h => by have:=zeR h; omega⟩;have hS:=(toSt_fn (T:=TS) (hT:=TS.low) log safe).toW (w:=w) (hn:=hn);have t0:=toD_fn (T:=TS) (hT:=TS.low) (hn:=hn) hr (by omega) (by omega);have p1:=(publish_fn (T:=TS) (hT:=TS.low) log safe x.ns x.vs hs hD).toW (w:=w) (hn:=hn);have p2:=(zh4 (T:=TS) (hT:=TS.low) TS.a TS.b TS.c log safe x.ns x.vs hs hD).toW (w:=w) (hn:=hn);obtain ⟨l2,e2⟩:∃ l2,l2 = pubL log safe (x.ns,x.vs):=⟨_,rfl⟩;obtain ⟨n2,e3⟩:∃ n2,n2 = pubN log safe (x.ns,x.vs):=⟨_,rfl⟩;rw [<- e2,<- e3] at p1 p2;have hEq:=eqD_fn (E:=envW TS TS.low w hn) rfl x.ns x.vs (by omega) (by omega) fun v h => by have:=zeR h; omega
 have hES:=(eqSt_fn (T:=TS) (hT:=TS.low) l2 safe).toW (w:=w) (hn:=hn);obtain ⟨D0,hD0⟩:∃ D0,D0 = dC x.ns x.vs:=⟨_,rfl⟩;have lD0:D0.length = 2:=by rw [hD0]; rfl
 have eD0:erL D0 = D0:=by rw [hD0]; exact dC_er _ _
 rw [<- hD0] at t0 p1 p2 hEq;clear hD0 hD hr;refine zau (PuT l2 safe n2 [stC log safe,[.v v1,.v v2]] 2 []) ?_ ?_
 ·refine zbd (show pt _ (PuT l2 safe n2 [stC log safe,[.v v1,.v v2]] 2 []) _ _ from ?_)
  refine zam ?_;(iterate 2 refine mS ?_)
  repeat' (first
   | exact zar
   | refine zat ?_ ?_
   | refine zaa ?_
   | refine zas ?_
   | (refine zaJ ?_; exact ⟨⟨rfl,rfl,rfl,rfl,trivial⟩,rfl,rfl,rfl⟩)
   | refine zam ?_
   | refine zad (args:=[.ag (stC log safe)]) rfl hS ?_
   | refine zad (args:=[.ag [.v v1,.v v2]]) rfl t0.v ?_
   | refine zad (args:=[.ag (stC log safe),.ag D0]) (dats2 rfl eD0) p1 ?_
   | refine zbI ?_
   | refine zap (p:=2) (cs:=stC l2 safe) rfl rfl rfl rfl rfl rfl ?_
   | refine po_s rfl rfl rfl ?_)
 rintro tm bx nt live ⟨ht,hbx,hnt,hlv⟩;obtain ⟨tm0,rfl⟩:=zah ht;simp only at hbx hnt hlv; subst hbx; subst hnt; subst hlv
 clear ht;refine mQ ?_;refine po_ownN (n:=2) rfl t0 lD0 (fun c0 nt0 ec0 lc0 hn0 N0 => ?_);refine zbI ?_;refine zap (p:=3) rfl rfl rfl lc0 rfl rfl ?_;refine zaa ?_;refine zau (PuU l2 safe n2 [stC log safe,[.v v1,.v v2],stC l2 safe,c0] nt0 (toksL c0 ++ [])) ?_ ?_
 ·refine zbd (show pt _ (PuU l2 safe n2 [stC log safe,[.v v1,.v v2],stC l2 safe,c0] nt0 (toksL c0 ++ [])) _ _ from ?_)
  refine zam ?_;refine mS ?_;refine zbh (p:=3) (cs:=c0) rfl rfl rfl lc0 ?_
  repeat' (first
   | exact zar
   | refine zat ?_ ?_
   | refine zaa ?_
   | refine zas ?_
   | (refine zaJ ?_; exact ⟨⟨rfl,rfl,rfl,rfl,rfl,rfl,rfl,trivial⟩,rfl,rfl,rfl⟩)
   | refine zam ?_
   | refine zad (args:=[.ag (stC log safe)]) rfl hS ?_
   | refine zad (args:=[.ag (stC log safe),.ag D0]) (dats2 rfl ec0) p2 ?_
   | refine zbI ?_
   | refine zap (p:=4) (cs:=stC l2 safe) rfl rfl rfl rfl rfl rfl ?_
   | refine po_s rfl rfl rfl ?_)
 rintro tm bx nt live ⟨ht,hbx,hnt,hlv⟩;obtain ⟨tm0,rfl⟩:=zah ht;simp only at hbx hnt hlv; subst hbx; subst hnt; subst hlv
 clear ht;refine zab (zab (zac ?_));(iterate 2 refine mS ?_);refine zad (args:=[.ag (stC l2 safe),.ag (stC l2 safe)]) rfl hES ?_;(iterate 4 refine mS ?_);refine zan rfl rfl (by simp) ?_;refine mK ?_;refine zab (zab (zac ?_));refine zbh (p:=3) (cs:=c0) rfl rfl rfl lc0 ?_;refine mS ?_;refine zad (args:=[.ag [.v v1,.v v2]]) rfl t0.v ?_;refine zad (dats2 ec0 eD0) hEq ?_;refine mK ?_;refine mP ?_;exact mR
theorem zfY (log:List UInt8) (safe:Int) (x:DcI) (cs:List Value) (w:World) (hn:ngl <= w.heap.size) (hT:TS w) (hs:strok log) (hr:Rd w x.d cs) (hw:x.wf) :
  Calls Tryz.prog 12 #[.agg #[.string ⟨log.toArray⟩,.int .i64 safe],.agg cs.toArray] w fun e w' => e = .returned (.bool true) /\ Below w.heap.size w w':=by
 obtain ⟨v1,v2,rfl,_,_⟩:=dD_lay hr
 refine FnV.bool (zfX (hn:=hn) log safe x hr hw hs) (Nat.le_refl _) ⟨hT,Nat.le_refl _,fun _ _ => rfl⟩ (vs:=[.agg #[.string ⟨log.toArray⟩,.int .i64 safe],.agg #[v1,v2]]) rfl fun j x' y hx hy => by
  match j with
  | 0 => simp at hx hy; subst hx; subst hy; exact stC_rp log safe
  | 1 => simp at hx hy; subst hx; subst hy; exact rawL_rp hr (dD_wf _ _)
  | j + 2 => simp at hx
end
/- ErrTab -/
section
open Go.RowKit Go.Lib Go.Shelf
theorem err_of {w:World} {nm n2:String} {g:Nat} {d:DataW Unit} (h:VarReads Tryz.prog w nm (.iface n2 d)) (hg:Tryz.prog.globalNamed nm = some g) (ht:(Tryz.prog.globals[g]?).map (·.type) = some 154):∃ tp p,w.var? Tryz.prog nm = some #[.iface tp p]:=by
 obtain ⟨g',t',cs,fuel,p,hg',ht',hvar,hd⟩:=h
 obtain rfl:=Option.some.inj (hg.symm.trans hg')
 obtain rfl:=Option.some.inj (ht.symm.trans ht')
 obtain ⟨f1,u,v,e,_⟩:=iface_of_trod Tryz.underlying154 hd;refine ⟨u,v,?_⟩;rw [hvar,<- Array.toArray_toList (xs:=cs),e]
theorem errTab_of {w : World} (h1 : VarReads Tryz.prog w "strconv.ErrSyntax" Rows.laid_strconv_ErrSyntax) (h2 : VarReads Tryz.prog w "strconv.ErrRange" Rows.laid_strconv_ErrRange) : ErrTab w :=
 ⟨err_of h1 synG (by kernel_rfl),err_of h2 rngG (by kernel_rfl)⟩
end
end Go.Proofs.YtanlnhkagepniaaGreatDoor
namespace Go.Proofs.YtanlnhkagepniaaGreatDoor.FnExactPublish
open Go.ChangeShapes Go.WideShapes Go.ChangeAt Go.RowKit Go.Joins
open Go.ChangeMaps (open_string shut_string)
theorem own:ownKnob Tryz.prog.godebug = none:=by kernel_rfl
theorem laidOut:laidOutB Tryz.prog = true:=by kernel_rfl
set_option maxRecDepth 100000 in
theorem lifted (os:Os) (started:os.Started) (H:Type) (enc:TypeId × Value -> H) :
  ReturnsInHanded {} Tryz.checked os 12 .any (fun w args => (Rows.fnExactPublishSpec.pre enc Tryz.prog Tryz.f12 Rows.fnExactPublishRow.domain false w args /\ laidMetH Tryz.prog Rows.fnExactPublishRow.laid w) /\ sizedMet enc Tryz.prog Tryz.f12 (OpenSpec.ofChange Rows.fnExactPublishSpec) false w args) (Rows.fnExactPublishSpec.post enc Tryz.prog Tryz.f12 false true false false):=by
 refine laid_of (C:=Tryz.checked) Rows.fnExactPublishRow.laid own started (by kernel_rfl) Tryz.func12
  (ChangeSpec.witness_shaped (enc:=enc) (C:=Tryz.checked) (os:=os) (X:=fun w _ => laidMetH Tryz.prog Rows.fnExactPublishRow.laid w) false (World.laidAll Tryz.prog os Rows.fnExactPublishRow.laid) #[.agg #[.string ⟨#[]⟩,.int .i64 0],.agg #[.slice none 0 0,.slice none 0 0]] 8 (World.laidAll_os _ _ _)
   (World.shaped_of_ZipB (by kernel_rfl) (by kernel_rfl)) (by kernel_rfl) (by kernel_rfl) (by kernel_rfl)
   (by rw [MakeChecks.laidMetH_plain _ _ _ (by kernel_rfl)]; exact laidMet_laidAll _ (by kernel_rfl) (by kernel_rfl))) ?_
 intro W base args ds gs before hsh hL hval0 hW hcnd;have hval:∀ (j:Nat) t v,Tryz.f12.params[j]? = some t -> args[j]? = some v -> Value.okWide Tryz.prog W .any base t v:=hval0;have hW':=hW;obtain ⟨p,q,hA0,hV,rfl,hfz,hnd⟩:=hW;have hA:DataW.TrodAll enc Tryz.prog W 0 (fun _ => true) true Tryz.f12.params.toList args.toList ds p:=hA0;rw [Tryz.params12] at hA hval;obtain ⟨v0,vs0,d0,ds0,p0,q0,hargs,rfl,rfl,h0,r0⟩:=trodAll_cons hA;obtain ⟨v1,vs1,d1,ds1,p1,q1,rfl,rfl,rfl,h1,r1⟩:=trodAll_cons r0;obtain ⟨rfl,rfl,rfl⟩:=trodAll_nil r1
 obtain rfl:args = #[v0,v1]:=by cases args; simp_all
 obtain ⟨rfl,rfl⟩:=trodVars_none hV;have k0:=h0;have lt0:∀ x ∈ p0,x.block < W.heap.size:=by obtain ⟨m,hm⟩:=k0; exact DataW.trod_lt m _ _ _ hm
 have k1:=h1;have lt1:∀ x ∈ p1,x.block < W.heap.size:=by obtain ⟨m,hm⟩:=k1; exact DataW.trod_lt m _ _ _ hm
 obtain ⟨ca0,cb0,ya0,yb0,m0,rfl,_,_,hya0,hyb0⟩:=open_agg2 Tryz.underlying62 (by kernel_rfl) (by kernel_rfl) (hval 0 62 v0 rfl rfl) h0;obtain ⟨sl0,eq0,hs0⟩:=zfx Tryz.underlying9 hya0;obtain ⟨n0,er0,hn0⟩:=zdY Tryz.underlying3 hyb0;simp only [List.cons.injEq,and_true] at eq0 er0
 subst eq0 er0
 obtain ⟨a1,rfl,_⟩:=okWide_struct Tryz.underlying80 (hval 1 80 v1 rfl rfl);obtain ⟨fu1,hf1⟩:=h1;obtain ⟨x1,hr1,hw1⟩:=trod_dict fu1 _ _ hf1;obtain ⟨c1⟩:=a1;clear hA0 hval0;have hL2:=hL;rw [MakeChecks.laidMetH_plain _ _ _ (by kernel_rfl)] at hL2;have hT:TS W:=⟨tabs_of (Lib.laidMet.reads hL2 (.tail _ (.tail _ (.tail _ (.tail _ (.tail _ (.tail _ (.head _)))))))) (Lib.laidMet.reads hL2 (.tail _ (.tail _ (.tail _ (.head _))))),tenTab_of (Lib.laidMet.reads hL2 (.tail _ (.tail _ (.head _)))),errTab_of (Lib.laidMet.reads hL2 (.tail _ (.tail _ (.tail _ (.tail _ (.tail _ (.head _))))))) (Lib.laidMet.reads hL2 (.tail _ (.tail _ (.tail _ (.tail _ (.head _))))))⟩;refine (zfY sl0 n0 x1 c1 W (ngl_of hsh) hT hs0 hr1 hw1).mono fun e W' ⟨he,bel⟩ => ?_
 subst he;exact ⟨_,rfl,_,_,_,[],_,[],hW',trodAll_mk1 (shut_bool Tryz.underlying4 _),(trodAll_cons_mk (Below.trod laidOut (by kernel_rfl) (of_decide_eq_true (by kernel_rfl)) k0 bel lt0) (trodAll_cons_mk (Below.trod laidOut (by kernel_rfl) (of_decide_eq_true (by kernel_rfl)) k1 bel lt1) trodAll_mk0)),rfl,bel.frame _,fun h => by cases h⟩
set_option maxHeartbeats 8000000 in
theorem closed:joinedFacts Tryz.prog 12 Tryz.f12 Rows.fnExactPublishSpec Rows.fnExactPublishRow = true:=by
 unfold joinedFacts;simp only [Bool.and_eq_true];refine ⟨⟨⟨⟨⟨⟨⟨⟨⟨⟨⟨⟨⟨⟨⟨⟨⟨⟨⟨⟨⟨⟨⟨⟨⟨⟨⟨⟨⟨⟨⟨?_,?_⟩,?_⟩,?_⟩,?_⟩,?_⟩,?_⟩,?_⟩,?_⟩,?_⟩,?_⟩,?_⟩,?_⟩,?_⟩,?_⟩,?_⟩,?_⟩,?_⟩,?_⟩,?_⟩,?_⟩,?_⟩,?_⟩,?_⟩,?_⟩,?_⟩,?_⟩,?_⟩,?_⟩,?_⟩,?_⟩,?_⟩
 ·as_aux_lemma => kernel_rfl
 ·as_aux_lemma => kernel_rfl
 ·as_aux_lemma => kernel_rfl
 ·as_aux_lemma => kernel_rfl
 ·as_aux_lemma => kernel_rfl
 ·as_aux_lemma => kernel_rfl
 ·as_aux_lemma => kernel_rfl
 ·as_aux_lemma => kernel_rfl
 ·as_aux_lemma => kernel_rfl
 ·as_aux_lemma => kernel_rfl
 ·as_aux_lemma => kernel_rfl
 ·as_aux_lemma => kernel_rfl
 ·as_aux_lemma => kernel_rfl
 ·as_aux_lemma => kernel_rfl
 ·as_aux_lemma => kernel_rfl
 ·as_aux_lemma => kernel_rfl
 ·as_aux_lemma => kernel_rfl
 ·as_aux_lemma => kernel_rfl
 ·as_aux_lemma => kernel_rfl
 ·as_aux_lemma => kernel_rfl
 ·as_aux_lemma => kernel_rfl
 ·as_aux_lemma => kernel_rfl
 ·as_aux_lemma => kernel_rfl
 ·as_aux_lemma => kernel_rfl
 ·as_aux_lemma => kernel_rfl
 ·as_aux_lemma => kernel_rfl
 ·as_aux_lemma => kernel_rfl
 ·as_aux_lemma => kernel_rfl
 ·as_aux_lemma => kernel_rfl
 ·as_aux_lemma => kernel_rfl
 ·as_aux_lemma => kernel_rfl
 ·as_aux_lemma => kernel_rfl
theorem wf0:Rows.fnExactPublishRow.wfByText (OpenSpec.ofChange Rows.fnExactPublishSpec) = true:=by kernel_rfl
theorem main0:Tryz.prog.mainIs = some (Rows.fnExactPublishCard.stood.harness.1,Rows.fnExactPublishCard.stood.harness.2.toList):=by kernel_rfl
theorem looks0:true = Tryz.prog.looks []:=by kernel_rfl
theorem goes0:false = Rows.fnExactPublishRow.goesBy Tryz.prog:=by kernel_rfl
theorem held:Rows.FnExactPublishSaid :=
 OpenClaim.holds_of_wide 12 Tryz.f12 rfl rfl rfl rfl rfl rfl rfl ⟨rfl,rfl,rfl,rfl,rfl⟩ rfl rfl rfl rfl rfl (by kernel_rfl) Tryz.func12 closed
  (of_decide_eq_true (by kernel_rfl)) (by unfold Func.isWrapper; first | (rw [if_pos (by decide +kernel)]; kernel_rfl) | (rw [if_neg (by decide +kernel)]; exact ⟨rfl,rfl⟩))
  (fun os started H enc _ => lifted os started H enc)
theorem proved:Rows.FnExactPublishCardSaid :=
 Claim7.holds_tied_plain_at .later [] [.data,.data,.data,.data,.sentinel,.sentinel,.pinned] true Rows.fnExactPublishCard.stood.harness true
  held (fun _ h => by cases h) wf0 (fun _ h => by cases h) fnExactPublish_row_tie rfl ⟨rfl,rfl⟩ main0 rfl
  (fun f fn hf hfn => by
   obtain rfl : f = 12 := Option.some.inj ((show Tryz.prog.funcNamed "loop.example/g00421/laws.FnExactPublish" = some 12 by kernel_rfl).symm.trans hf) |>.symm
   obtain rfl:fn = Tryz.f12:=(Option.some.inj (Tryz.func12.symm.trans hfn)).symm
   refine ⟨looks0,fun j t ht => ?_⟩;rw [Tryz.params12] at ht;have hm:t ∈ [62,80]:=by simpa using Array.mem_of_getElem? ht
   have hall:([62,80].all fun u => !Tryz.prog.wantsStandIn u) = true:=by kernel_rfl
   exact (show Tryz.prog.wantsStandIn t = false by simpa using List.all_eq_true.1 hall t hm))
  goes0
end Go.Proofs.YtanlnhkagepniaaGreatDoor.FnExactPublish
