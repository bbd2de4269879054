/- For every store the program's SyncStore returns what the reference's SyncStore returns. -/
import Derived.Test.YtanlnhkagepniaaGreatDoorSb5
import Derived.Lib.AtoiAllCases
import Derived.Test.YtanlnhkagepniaaGreatDoorChecked
import Derived.KernelRfl
import Derived.LaidLaws
import Derived.Lib.LaidU8T
import Derived.ProofKit
import Derived.OpenShut
import Derived.ShutString
import Derived.ChangeOld
import Derived.Lib.SmallJoins
import Derived.Test.YtanlnhkagepniaaGreatDoorTie
import Derived.Test.YtanlnhkagepniaaGreatDoorCards
import Derived.SevenTiedAt
namespace Go.Proofs.YtanlnhkagepniaaGreatDoor
open Go.RowKit
/- Frs -/
section
theorem zao {l:List UInt8} {i:Nat} {c:List UInt8} {e:Nat} (h:getFr l i = some (c,e)):c.length <= 100000 /\ At l i (frame c) /\ e = i + (frame c).length /\ i < e /\ e <= l.length:=by
 unfold getFr at h
 split at h
 ·cases h
 ·rename_i m n x hg
  split at h
  ·rename_i hh
   simp only [Option.some.injEq,Prod.mk.injEq] at h;obtain ⟨rfl,rfl⟩:=h;obtain ⟨rfl,h1,h2,h3⟩:=hh;unfold getAt at hg;rw [if_neg (by omega),Int.toNat_natCast] at hg;obtain ⟨g1,g2,g3,g4,g5,g6⟩:=zb1 hg;have hl:((l.drop x).take n).length = n:=by rw [List.length_take,List.length_drop]; omega
   have hs:(l.drop i).take (x + n + 4 - i) = (l.drop i).take (x - i) ++ ((l.drop x).take n ++ (l.drop (x + n)).take 4):=by
    rw [show x + n + 4 - i = (x - i) + (n + 4) by omega,List.take_add,List.drop_drop,show i + (x - i) = x by omega,List.take_add,List.drop_drop]
   have hf:frame ((l.drop x).take n) = (l.drop i).take (x + n + 4 - i):=by
    unfold frame;rw [hl,if_pos h1,hs,<- g6,List.append_assoc,h3]
   have hfl:(frame ((l.drop x).take n)).length = x + n + 4 - i:=by rw [hf,List.length_take,List.length_drop]; omega
   refine ⟨by rw [hl]; exact h1,⟨(l.drop i).drop (x + n + 4 - i),by rw [hf,List.take_append_drop]⟩,by rw [hfl]; omega,by omega,by omega⟩
  ·cases h
theorem zbm {l:List UInt8} {i:Nat} {c:List UInt8} (hc:c.length <= 100000) (hi:i <= l.length) (h:At l i (frame c)):getFr l i = some (c,i + (frame c).length):=by
 have hlen:=h.len hi;have hf:frame c = hd 2 c.length ++ c ++ be 4 (crc c):=by unfold frame; rw [if_pos hc]
 rw [hf] at h hlen ⊢;simp only [List.length_append,zal] at hlen ⊢;obtain ⟨h1,h2⟩:=h.app;obtain ⟨h3,h4⟩:=h1.app;have hg:=zc5 (by omega) (by omega) hi h3;simp only [List.length_append] at h2;have t2:=h2.take;have t4:=h4.take;rw [zal,<- Nat.add_assoc] at t2;unfold getFr getAt;rw [if_neg (by omega),Int.toNat_natCast,hg];simp only;rw [t4,t2,if_pos ⟨trivial,hc,by omega,rfl⟩];simp only [Option.some.injEq,Prod.mk.injEq,true_and]; omega
def frF (l:List UInt8):Nat -> Nat -> List (List UInt8 × Nat)
 | 0,_ => []
 | k + 1,a => match getFr l a with
  | some (c,e) => (c,e) :: frF l k e
  | none => []
def frG (l:List UInt8) (a:Nat):List (List UInt8 × Nat):=frF l (l.length + 1 - a) a
theorem za5 {l:List UInt8}:∀ {k k' a:Nat},l.length < k + a -> l.length < k' + a -> frF l k a = frF l k' a
 | 0,k',a,h,h' => by
  cases k' with
  | zero => rfl
  | succ k' =>
   simp only [frF]
   cases hg:getFr l a with
   | none => rfl
   | some r => obtain ⟨c,e⟩:=r; have:=zao hg; omega
 | k + 1,0,a,h,h' => by
  simp only [frF]
  cases hg:getFr l a with
  | none => rfl
  | some r => obtain ⟨c,e⟩:=r; have:=zao hg; omega
 | k + 1,k' + 1,a,h,h' => by
  simp only [frF]
  cases hg:getFr l a with
  | none => rfl
  | some r => obtain ⟨c,e⟩:=r; have:=zao hg; simp only; rw [za5 (k:=k) (k':=k') (by omega) (by omega)]
theorem zaz {l:List UInt8} {a:Nat} (h:getFr l a = none):frG l a = []:=by
 unfold frG;rw [za5 (k':=l.length + 2) (by omega) (by omega)];simp only [frF,h]
theorem zaM {l:List UInt8} {a:Nat} {c:List UInt8} {e:Nat} (h:getFr l a = some (c,e)):frG l a = (c,e) :: frG l e:=by
 unfold frG;rw [za5 (k':=l.length + 1 + 1) (by omega) (by omega),frF];simp only [h];rw [za5 (k':=l.length + 1 - e) (by omega) (by omega)]
theorem zcv {l:List UInt8} {P:Nat -> Prop} (h0:∀ a:Nat,getFr l a = none -> P a) (h1:∀ (a:Nat) (c:List UInt8) (e:Nat),getFr l a = some (c,e) -> P e -> P a) (a:Nat):P a:=by
 have key:∀ (k a:Nat),l.length < k + a -> P a:=by
  intro k
  induction k with
  | zero =>
   intro a h;refine h0 a ?_
   cases hg:getFr l a with
   | none => rfl
   | some r => obtain ⟨c,e⟩:=r; have:=zao hg; omega
  | succ k ih =>
   intro a h
   cases hg:getFr l a with
   | none => exact h0 a hg
   | some r => obtain ⟨c,e⟩:=r; have:=zao hg; exact h1 a c e hg (ih e (by omega))
 exact key (l.length + 1) a (by omega)
def endX (a:Nat):List (List UInt8 × Nat) -> Nat
 | [] => a
 | (_,e) :: r => endX e r
theorem zby:∀ (a:Nat) (r:List (List UInt8 × Nat)) (c:List UInt8) (e:Nat),endX a (r ++ [(c,e)]) = e
 | _,[],_,_ => rfl
 | _,(_,x) :: r,c,e => zby x r c e
theorem zbz {l:List UInt8} (a:Nat):(∀ f ∈ frG l a,a < f.2 /\ f.2 <= l.length /\ f.1.length <= 100000) /\ (a <= l.length -> endX a (frG l a) <= l.length) /\ a + (frG l a).length <= endX a (frG l a):=by
 refine zcv (l:=l) (P:=fun a => (∀ f ∈ frG l a,a < f.2 /\ f.2 <= l.length /\ f.1.length <= 100000) /\ (a <= l.length -> endX a (frG l a) <= l.length) /\ a + (frG l a).length <= endX a (frG l a)) (fun a h => ?_) (fun a c e h ih => ?_) a
 ·rw [zaz h]; exact ⟨fun f hf => (by cases hf),fun h => h,Nat.le_refl _⟩
 ·obtain ⟨h1,h2,h3,h4,h5⟩:=zao h
  obtain ⟨i1,i2,i3⟩:=ih;rw [zaM h];refine ⟨fun f hf => ?_,fun _ => i2 h5,?_⟩
  ·rcases List.mem_cons.1 hf with rfl | hf
   ·exact ⟨h4,h5,h1⟩
   ·obtain ⟨j1,j2,j3⟩:=i1 f hf; exact ⟨by omega,j2,j3⟩
  ·simp only [List.length_cons,endX]; omega
theorem At.pre {l:List UInt8} {k i:Nat} {b:List UInt8} (hk:k <= l.length) (hi:i <= k):At (l.take k) i b ↔ At l i b /\ i + b.length <= k:=by
 constructor
 ·intro h
  have hl:=h.len (by rw [List.length_take]; omega);rw [List.length_take] at hl;obtain ⟨r,h⟩:=h;refine ⟨⟨r ++ l.drop k,?_⟩,by omega⟩;rw [<- List.append_assoc,<- h,<- List.drop_append_of_le_length (by rw [List.length_take]; omega),List.take_append_drop]
 ·rintro ⟨⟨r,h⟩,hl⟩
  refine ⟨r.take (k - i - b.length),?_⟩;rw [List.drop_take,h,List.take_append]
  congr 1
  exact List.take_of_length_le (by omega)
theorem zbA {l:List UInt8} {k a:Nat} (hk:k <= l.length) (ha:a <= k):getFr (l.take k) a = match getFr l a with | some (c,e) => if e <= k then some (c,e) else none | none => none:=by
 have hkl:(l.take k).length = k:=by rw [List.length_take]; omega
 cases hg:getFr l a with
 | some r =>
  obtain ⟨c,e⟩:=r;obtain ⟨h1,h2,h3,h4,h5⟩:=zao hg;simp only;split
  ·rename_i he
   rw [zbm h1 (by rw [hkl]; exact ha) ((At.pre hk ha).2 ⟨h2,by omega⟩),h3]
  ·rename_i he
   cases hg2:getFr (l.take k) a with
   | none => rfl
   | some r2 =>
    obtain ⟨c2,e2⟩:=r2;obtain ⟨k1,k2,k3,k4,k5⟩:=zao hg2;rw [hkl] at k5
    have:=zbm k1 (by omega) ((At.pre hk ha).1 k2).1
    rw [hg] at this;simp only [Option.some.injEq,Prod.mk.injEq] at this
    omega
 | none =>
  simp only
  cases hg2:getFr (l.take k) a with
  | none => rfl
  | some r2 =>
   obtain ⟨c2,e2⟩:=r2;obtain ⟨k1,k2,k3,k4,k5⟩:=zao hg2
   have:=zbm k1 (by omega) ((At.pre hk ha).1 k2).1
   rw [hg] at this; cases this
theorem zc9 {l:List UInt8} {k:Nat} (hk:k <= l.length) (a:Nat):a <= k -> (endX a (frG (l.take k) a) = k ↔ k = a \/ ∃ f ∈ frG l a,f.2 = k):=by
 refine zcv (l:=l) (P:=fun a => a <= k -> (endX a (frG (l.take k) a) = k ↔ k = a \/ ∃ f ∈ frG l a,f.2 = k)) (fun a h ha => ?_) (fun a c e h ih ha => ?_) a
 ·rw [zaz h,zaz (by rw [zbA hk ha,h])]
  simp only [endX,List.not_mem_nil,false_and,exists_false,or_false];exact eq_comm
 ·obtain ⟨h1,h2,h3,h4,h5⟩:=zao h
  have hp:=zbA (l:=l) hk ha;rw [h] at hp;simp only at hp;by_cases he:e <= k
  ·rw [if_pos he] at hp
   rw [zaM h,zaM hp];simp only [endX,List.mem_cons,exists_eq_or_imp];rw [ih he]
   constructor
   ·rintro (h | h)
    ·exact .inr (.inl h.symm)
    ·exact .inr (.inr h)
   ·rintro (h | h | h)
    ·omega
    ·exact .inl h.symm
    ·exact .inr h
  ·rw [if_neg he] at hp
   rw [zaz hp,zaM h];simp only [endX]
   constructor
   ·intro h; exact .inl h.symm
   ·rintro (h | ⟨f,hf,hfk⟩)
    ·exact h.symm
    ·rcases List.mem_cons.1 hf with rfl | hf
     ·exact absurd (show e = k from hfk) (by omega)
     ·have:=(zbz (l:=l) e).1 f hf; omega
end
/- RdDec -/
section
open Go.RowKit Go.Lib
theorem zaN {u:Nat} (h:u < 10):decDigits u = [UInt8.ofNat (48 + u)]:=decDigits_one h
theorem zaY {u:Nat} (h:¬ u < 10):decDigits u = decDigits (u / 10) ++ [UInt8.ofNat (48 + u % 10)]:=by
 conv => lhs; rw [decDigits,dif_neg h]
 try rfl
theorem za8 {d:Nat} (h:d < 10):(UInt8.ofNat (48 + d)).toNat = 48 + d:=by
 rw [UInt8.toNat_ofNat']; omega
theorem zbn {P:Nat -> Prop} (h0:∀ u,u < 10 -> P u) (h1:∀ u,¬ u < 10 -> P (u / 10) -> P u) (u:Nat):P u:=by
 induction u using Nat.strongRecOn with
 | ind u ih =>
  by_cases h:u < 10
  ·exact h0 u h
  ·exact h1 u h (ih (u / 10) (by omega))
theorem zbo (u:Nat):decDigits u ≠ []:=by
 by_cases h:u < 10
 ·rw [zaN h]; simp
 ·rw [zaY h]; simp
theorem zbp (u:Nat):∀ c ∈ decDigits u,48 <= c.toNat /\ c.toNat <= 57:=by
 refine zbn (P:=fun u => ∀ c ∈ decDigits u,48 <= c.toNat /\ c.toNat <= 57) (fun u h c hc => ?_) (fun u h ih c hc => ?_) u
 ·rw [zaN h,List.mem_singleton] at hc; subst hc; rw [za8 h]; omega
 ·rw [zaY h,List.mem_append,List.mem_singleton] at hc
  rcases hc with hc | rfl
  ·exact ih c hc
  ·rw [za8 (by omega)]; omega
def dvL (l:List UInt8):Nat:=l.foldl (fun a c => a * 10 + (c.toNat - 48)) 0
theorem zb5 (l:List UInt8) (c:UInt8):dvL (l ++ [c]) = dvL l * 10 + (c.toNat - 48):=by simp [dvL]
theorem zdW (u:Nat):dvL (decDigits u) = u:=by
 refine zbn (P:=fun u => dvL (decDigits u) = u) (fun u h => ?_) (fun u h ih => ?_) u
 ·rw [zaN h]; simp only [dvL,List.foldl_cons,List.foldl_nil]; rw [za8 h]; omega
 ·rw [zaY h,zb5,ih,za8 (by omega)]; omega
theorem zbB:∀ (l r:List UInt8) (a m:Nat),parseUint10 a l = .ok m -> parseUint10 a (l ++ r) = parseUint10 m r
 | [],r,a,m,h => by simp only [parseUint10] at h; injection h with h; subst h; rfl
 | c :: l,r,a,m,h => by
  simp only [parseUint10] at h;simp only [List.cons_append,parseUint10]
  split at h
  ·rename_i h1
   rw [if_pos h1]
   split at h
   ·cases h
   ·rename_i h2
    rw [if_neg h2]
    split at h
    ·cases h
    ·rename_i h3
     rw [if_neg h3];exact zbB l r _ m h
  ·cases h
theorem zbC {a d:Nat} (hd:d < 10) (h:a * 10 + d < 18446744073709551616):parseUint10 a [UInt8.ofNat (48 + d)] = .ok (a * 10 + d):=by
 simp only [parseUint10,za8 hd];rw [if_pos (by omega),if_neg (by omega),if_neg (by omega)]
 congr 1; omega
theorem zcw (u:Nat):u < 18446744073709551616 -> parseUint10 0 (decDigits u) = .ok u:=by
 refine zbn (P:=fun u => u < 18446744073709551616 -> parseUint10 0 (decDigits u) = .ok u) (fun u h hu => ?_) (fun u h ih hu => ?_) u
 ·rw [zaN h,zbC h (by omega),Nat.zero_mul,Nat.zero_add]
 ·rw [zaY h,zbB _ _ _ _ (ih (by omega)),zbC (by omega) (by omega)]
  congr 1; omega
theorem zcx {u:Nat} (h:u < 18446744073709551616):parseMag (decDigits u) = .ok u:=by
 unfold parseMag; rw [if_neg (zbo u)]; exact zcw u h
theorem zcy {n:Int} (h:i64ok n):atoiAll (itoa n) = .ok n:=by
 obtain ⟨h1,h2⟩:=h;by_cases hn:n < 0
 ·obtain ⟨u,rfl⟩:∃ u:Nat,n = -(u:Int):=⟨n.natAbs,by omega⟩
  rw [itoa_neg u (by omega),atoiAll_minus,zcx (by omega)];simp only [signed];rw [if_neg (by omega)]
 ·obtain ⟨u,rfl⟩:∃ u:Nat,n = (u:Int):=⟨n.toNat,by omega⟩
  rw [itoa_nonneg];have hd:=zbp u;have hm:=zcx (u:=u) (by omega)
  cases hl:decDigits u with
  | nil => exact absurd hl (zbo u)
  | cons c r =>
   have:=hd c (by rw [hl]; simp)
   rw [hl] at hm;rw [atoiAll_plain c r (by omega) (by omega),hm];simp only [signless];rw [if_neg (by omega)]
def rdD (s:List UInt8):Option Int:=match atoiAll s with
 | .ok v => if itoa v = s then some v else none
 | _ => none
theorem zda {n:Int} (h:i64ok n):rdD (itoa n) = some n:=by unfold rdD; rw [zcy h]; simp
theorem zdb {s:List UInt8} {n:Int} (h:rdD s = some n):i64ok n /\ itoa n = s:=by
 unfold rdD at h
 split at h
 ·rename_i v hv
  split at h
  ·simp only [Option.some.injEq] at h; subst h
   exact ⟨atoiAll_bounds hv,‹_›⟩
  ·cases h
 ·cases h
def rdN (s:List UInt8):Int:=match rdD s with | some n => n | none => 0
def rdB (s:List UInt8):Bool:=(rdD s).isSome
theorem zdy {n:Int} {s:List UInt8} (h:i64ok n) (hs:itoa n = s):rdN s = n /\ rdB s = true:=by subst hs; simp [rdN,rdB,zda h]
theorem zeI {s:List UInt8} (h:∀ n,i64ok n -> itoa n ≠ s):rdN s = 0 /\ rdB s = false:=by
 cases hr:rdD s with
 | none => simp [rdN,rdB,hr]
 | some n => obtain ⟨h1,h2⟩:=zdb hr; exact absurd h2 (h n h1)
def unsgn (s:List UInt8):List UInt8:=if s.head? = some 45 then s.drop 1 else s
theorem zbj (n:Int):unsgn (itoa n) = decDigits n.natAbs:=by
 by_cases hn:n < 0
 ·obtain ⟨u,rfl⟩:∃ u:Nat,n = -(u:Int):=⟨n.natAbs,by omega⟩
  rw [itoa_neg u (by omega)]; simp [unsgn]
 ·obtain ⟨u,rfl⟩:∃ u:Nat,n = (u:Int):=⟨n.toNat,by omega⟩
  rw [itoa_nonneg];unfold unsgn;rw [if_neg]
  ·simp
  ·intro h
   have hd:=zbp u
   cases hl:decDigits u with
   | nil => exact absurd hl (zbo u)
   | cons c r =>
    rw [hl] at h; simp at h; subst h
    have:=hd 45 (by rw [hl]; simp)
    revert this; decide
theorem za9:∀ (k u:Nat),u < 10 ^ (k + 1) -> nDigits u <= k + 1
 | 0,u,h => by rw [nDigits_small (by simpa using h)]; exact Nat.le_refl _
 | k + 1,u,h => by
  by_cases h1:u < 10
  ·rw [nDigits_small h1]; omega
  ·rw [nDigits_big h1]
   have:=za9 k (u / 10) (by rw [Nat.pow_succ] at h; omega)
   omega
theorem zdX {s:List UInt8} {n:Int} (hn:i64ok n) (hs:itoa n = s):(if unsgn s = s then IntKind.wrap .i64 (dvL (unsgn s)) else IntKind.wrap .i64 (0 - IntKind.wrap .i64 (dvL (unsgn s)))) = n:=by
 subst hs;obtain ⟨h1,h2⟩:=hn;rw [zbj,zdW];simp only [IntKind.wrap_i64];by_cases hn:n < 0
 ·obtain ⟨u,rfl⟩:∃ u:Nat,n = -(u:Int):=⟨n.natAbs,by omega⟩
  rw [if_neg]
  ·simp only [Int.natAbs_neg,Int.natAbs_natCast]; omega
  ·rw [itoa_neg u (by omega)]
   intro h
   have:=congrArg List.length h
   simp at this
 ·obtain ⟨u,rfl⟩:∃ u:Nat,n = (u:Int):=⟨n.toNat,by omega⟩
  rw [if_pos]
  ·simp only [Int.natAbs_natCast]; omega
  ·rw [itoa_nonneg]; simp
theorem zcz {s:List UInt8} {n:Int} (hn:i64ok n) (hs:itoa n = s):unsgn s ≠ [] /\ (unsgn s).length <= 19 /\ ∀ c ∈ unsgn s,48 <= c.toNat /\ c.toNat <= 57:=by
 subst hs;rw [zbj];refine ⟨zbo _,?_,zbp _⟩;rw [decDigits_length];obtain ⟨h1,h2⟩:=hn
 have:n.natAbs < 10000000000000000000:=by omega
 exact za9 18 _ (by simpa using this)
end
/- StoreDef -/
section
abbrev Dc:=List (List UInt8) × List V
open Classical in
noncomputable def gdD (s:List UInt8):Option Dc:=if h:∃ p:Dc,Good s p.1 p.2 then some h.choose else none
theorem zdc {s:List UInt8} {d:Dc} (h:gdD s = some d):Good s d.1 d.2:=by
 unfold gdD at h
 split at h
 ·rename_i hh; simp only [Option.some.injEq] at h; subst h; exact hh.choose_spec
 ·cases h
theorem zdd {s:List UInt8} (h:∀ (ns:List (List UInt8)) (vs:List V),¬ Good s ns vs):gdD s = none:=by
 unfold gdD;rw [dif_neg];rintro ⟨p,hp⟩; exact h _ _ hp
theorem zde {s:List UInt8} {ns:List (List UInt8)} {vs:List V} (h:Good s ns vs) (hu:∀ (ns':List (List UInt8)) (vs':List V),Good s ns' vs' -> ns' = ns /\ vs' = vs):gdD s = some (ns,vs):=by
 cases hg:gdD s with
 | some d =>
  obtain ⟨h1,h2⟩:=hu _ _ (zdc hg);obtain ⟨a,b⟩:=d
  simp only at h1 h2; subst h1; subst h2; rfl
 | none =>
  unfold gdD at hg
  split at hg
  ·cases hg
  ·rename_i hh; exact absurd ⟨(ns,vs),h⟩ hh
theorem DictR.gd {s:List UInt8} {nt nt':Nat} {live live':List Nat} {x:PV} (h:DictR s nt live x nt' live') :
  ∃ c1 c2 d,x = .tup [.ag [c1,c2],.d (pB (gdD s).isSome)] /\ NewL nt nt' [c1,c2] /\ (∀ t ∈ toksL [c1,c2],t ∈ live') /\ (∀ t ∈ live,2 <= t -> t < nt -> t ∈ live') /\ nt <= nt' /\ erL [c1,c2] = dC d.1 d.2 /\ (gdD s).getD ([],[]) = d:=by
 obtain ⟨cs,ok,rfl,h1,h2,h3,h4,h5,ns,vs,h6,h7,h8,h9⟩:=h
 match cs,h1 with
 | [c1,c2],_ =>
  cases ok with
  | true =>
   have hg:=zde (h7 rfl) fun ns' vs' h => (h9 ns' vs' h).2
   exact ⟨c1,c2,(ns,vs),by rw [hg]; rfl,h2,h3,h4,h5,h6,by rw [hg]; rfl⟩
  | false =>
   have hg:=zdd (s:=s) fun ns' vs' h => by have:=(h9 ns' vs' h).1; cases this
   obtain ⟨rfl,rfl⟩:=h8 rfl;exact ⟨c1,c2,([],[]),by rw [hg]; rfl,h2,h3,h4,h5,h6,by rw [hg]; rfl⟩
abbrev Rl:=List (Dc × Bool)
def rlv (st:Rl) (n:Int):Bool:=decide (1 <= n /\ n <= (st.length:Int)) && (st.getD (n - 1).toNat (([],[]),false)).2
noncomputable def stp (st:Rl) (c:List UInt8):Option Rl :=
 match c with
 | [] => none
 | b :: t =>
  if b = 112 then (gdD t).map fun d => st ++ [(d,true)]
  else if b = 114 then
   if (rdB t && rlv st (rdN t)) = true then some (st.set (rdN t - 1).toNat ((st.getD (rdN t - 1).toNat (([],[]),false)).1,false)) else none
  else none
noncomputable def rdL:Rl -> List (List UInt8) -> Option Rl
 | st,[] => some st
 | st,c :: cs => match stp st c with
  | some st' => rdL st' cs
  | none => none
theorem zbq:∀ (cs:List (List UInt8)) (st:Rl) (c:List UInt8),rdL st (cs ++ [c]) = (rdL st cs).bind fun st' => stp st' c
 | [],st,c => by
  simp only [List.nil_append,rdL,Option.bind_some]
  cases stp st c <;> rfl
 | b :: cs,st,c => by
  simp only [List.cons_append,rdL]
  cases stp st b with
  | none => rfl
  | some st' => exact zbq cs st' c
theorem zbW:∀ (cs:List (List UInt8)) (st:Rl) (k:Nat),rdL st (cs.take k) = none -> rdL st cs = none
 | [],st,k,h => by simpa using h
 | c :: cs,st,0,h => by simp [rdL] at h
 | c :: cs,st,k + 1,h => by
  simp only [List.take_succ_cons,rdL] at h ⊢
  cases hs:stp st c with
  | none => rfl
  | some st' => rw [hs] at h; exact zbW cs st' k h
theorem zdY {st st':Rl} {c:List UInt8} (h:stp st c = some st'):st'.length <= st.length + 1:=by
 unfold stp at h
 split at h
 ·cases h
 ·split at h
  ·cases hg:gdD _ with
   | none => rw [hg] at h; cases h
   | some d => rw [hg] at h; simp only [Option.map_some,Option.some.injEq] at h; subst h; simp
  ·split at h
   ·split at h
    ·simp only [Option.some.injEq] at h; subst h; simp
    ·cases h
   ·cases h
theorem zbD:∀ (cs:List (List UInt8)) (st st':Rl),rdL st cs = some st' -> st'.length <= st.length + cs.length
 | [],st,st',h => by simp only [rdL,Option.some.injEq] at h; subst h; simp
 | c :: cs,st,st',h => by
  simp only [rdL] at h
  cases hs:stp st c with
  | none => rw [hs] at h; cases h
  | some s1 =>
   rw [hs] at h;have h1:=zbD cs s1 st' h;have h2:=zdY hs;simp only [List.length_cons]; omega
def fcs (l:List UInt8):List (List UInt8):=(frG l 0).map (·.1)
def fes (l:List UInt8):List Nat:=(frG l 0).map (·.2)
def fend (l:List UInt8):Nat:=endX 0 (frG l 0)
noncomputable def logR (l:List UInt8):Option Rl:=if fend l = l.length /\ (fcs l).length <= 40 then rdL [] (fcs l) else none
noncomputable def stR (l:List UInt8) (safe:Int):Option Rl:=if 0 <= safe /\ (safe = 0 \/ safe.toNat ∈ fes l) then logR l else none
theorem fes_mem {l:List UInt8} {k:Nat}:k ∈ fes l ↔ ∃ f ∈ frG l 0,f.2 = k:=by unfold fes; rw [List.mem_map]
theorem zdZ {l:List UInt8} {k:Nat} (h:k ∈ fes l):k <= l.length:=by
 obtain ⟨f,hf,rfl⟩:=fes_mem.1 h;exact ((zbz (l:=l) 0).1 f hf).2.1
theorem zdr (l:List UInt8):fend l <= l.length:=(zbz (l:=l) 0).2.1 (Nat.zero_le _)
theorem zdf {l:List UInt8} {safe:Int} (h0:0 <= safe) (h1:safe <= l.length):((fend (l.take safe.toNat):Int) = safe) ↔ (safe = 0 \/ safe.toNat ∈ fes l):=by
 have:=zc9 (l:=l) (k:=safe.toNat) (by omega) 0 (Nat.zero_le _)
 unfold fend;rw [fes_mem]
 constructor
 ·intro h
  rcases this.1 (by omega) with h | h
  ·exact .inl (by omega)
  ·exact .inr h
 ·intro h
  have:=this.2 (h.imp (fun h => by omega) id)
  omega
theorem zb6:∀ (l:List (List UInt8 × Nat)) (a:Nat),endX a l = (l.map (·.2)).getD (l.length - 1) a
 | [],a => rfl
 | [(c,e)],a => rfl
 | (c,e) :: f :: r,a => by
  show endX e (f :: r) = _;rw [zb6 (f :: r) e];simp
end
/- St1M -/
section
set_option maxRecDepth 100000
def m_s_StoreOk:M:=.seq (.ops [qo 1 (.box (.t 0)),
 qo 2 (.mv (.c (.bool false)))])
 (.seq (.ops [qo 9 (.fld 0 (.t 1)),
 qo 10 (.load false 1 (.t 9)),
 ⟨some 11,.call 102 [.t 10],none,[.f 1]⟩,
 qo 8 (.mv (.t 11)),
 qo 12 (.ext (.t 8) 0),
 qo 13 (.ext (.t 8) 1),
 qo 14 (.ext (.t 8) 2),
 qo 3 (.mv (.t 12)),
 qo 4 (.mv (.t 13)),
 qo 5 (.mv (.t 14))])
 (.seq (.seq (.ops [qo 15 (.mv (.t 5)),
 qo 16 (.not (.t 15)),
 qo 17 (.mv (.t 16)),
 ⟨some 18,.fld 1 (.t 1),some (17,false),[]⟩,
 ⟨some 19,.load false 1 (.t 18),some (17,false),[]⟩,
 ⟨some 20,.fld 0 (.t 1),some (17,false),[]⟩,
 ⟨some 21,.load false 1 (.t 20),some (17,false),[]⟩,
 ⟨some 22,.lens (.t 21),some (17,false),[]⟩,
 ⟨some 23,.call 103 [.t 19,ci 0,.t 22],some (17,false),[.f 1]⟩,
 ⟨some 24,.not (.t 23),some (17,false),[]⟩,
 qo 25 (.pick (.t 17) (.c (.bool true)) (.t 24))])
 (.cond (.t 25) (.seq (.ops [qo 2 (.mv (.c (.bool false)))])
 (.ret))
 (.skip)))
 (.seq (.ops [qo 27 (.fld 0 (.t 1)),
 qo 28 (.load false 1 (.t 27)),
 qo 29 (.fld 1 (.t 1)),
 qo 30 (.load false 1 (.t 29)),
 qo 31 (.slcs (.t 28) none (some (.t 30))),
 ⟨some 32,.call 104 [.t 31],none,[.f 1]⟩,
 qo 26 (.mv (.t 32)),
 qo 33 (.ext (.t 26) 0),
 qo 34 (.ext (.t 26) 1),
 qo 6 (.mv (.t 33)),
 qo 7 (.mv (.t 34))])
 (.seq (.ops [qo 35 (.mv (.t 7)),
 qo 36 (.fld 1 (.t 1)),
 qo 37 (.load false 1 (.t 36)),
 qo 38 (.bin .eql false (.t 35) (.t 37)),
 qo 2 (.mv (.t 38))])
 (.ret)))))
theorem zbE:look Tryz.prog 37 = some (39,m_s_StoreOk,[.tm 2]):=by kernel_rfl
def m_s_SyncStore:M:=.seq (.ops [qo 1 (.box (.t 0)),
 ⟨some 2,.zero [.string ⟨[].toArray⟩,.int .i64 0],none,[]⟩])
 (.seq (.seq (.ops [qo 3 (.load true 2 (.t 1)),
 ⟨some 4,.call 37 [.t 3],none,[.f 1]⟩])
 (.cond (.t 4) (.ops [qo 5 (.fld 0 (.t 1)),
 qo 6 (.load false 1 (.t 5)),
 qo 7 (.lens (.t 6)),
 qo 8 (.fld 1 (.t 1)),
 ⟨none,.store 1 (.t 8) (.t 7),none,[]⟩])
 (.skip)))
 (.seq (.ops [qo 9 (.load true 2 (.t 1)),
 ⟨none,.store 2 (.t 2) (.t 9),none,[]⟩])
 (.ret)))
theorem zg8:look Tryz.prog 40 = some (10,m_s_SyncStore,[.cell true 2 2]):=by kernel_rfl
def m_s_l14Read:M:=.seq (.ops [qo 2 (.mv (.c (.slice none 0 0))),
 qo 3 (.mv (.c (.slice none 0 0))),
 qo 4 (.mv (.c (.bool false)))])
 (.seq (.ops [qo 14 (.lit 2 []),
 qo 5 (.mv (.t 14))])
 (.seq (.ops [qo 15 (.lit 1 []),
 qo 6 (.mv (.t 15))])
 (.seq (.ops [qo 17 (.mv (.t 0)),
 ⟨some 18,.call 104 [.t 17],none,[.f 1]⟩,
 qo 16 (.mv (.t 18)),
 qo 19 (.ext (.t 16) 0),
 qo 20 (.ext (.t 16) 1),
 qo 7 (.mv (.t 19)),
 qo 8 (.mv (.t 20))])
 (.seq (.seq (.ops [qo 9 (.mv (ci 0))])
 (.block 0 (.loop (.seq (.seq (.ops [qo 21 (.mv (.t 9)),
 qo 22 (.mv (.t 7)),
 qo 23 (.len (.t 22)),
 qo 24 (.bin .lss false (.t 21) (.t 23))])
 (.cond (.t 24) (.skip)
 (.exit 0)))
 (.seq (.block 1 (.seq (.seq (.ops [qo 27 (.mv (.t 7)),
 qo 28 (.mv (.t 9)),
 qo 29 (.ix 1 (.t 27) (.t 28)),
 qo 30 (.load false 1 (.t 29)),
 ⟨some 31,.bin .eql false (.t 30) (.c (.string ⟨[].toArray⟩)),none,[]⟩])
 (.cond (.t 31) (.seq (.ops [qo 32 (.mv (.t 5)),
 qo 33 (.mv (.t 6)),
 qo 2 (.mv (.t 32)),
 qo 3 (.mv (.t 33)),
 qo 4 (.mv (.c (.bool false)))])
 (.ret))
 (.skip)))
 (.seq (.ops [qo 35 (.mv (.t 7)),
 qo 36 (.mv (.t 9)),
 qo 37 (.ix 1 (.t 35) (.t 36)),
 qo 38 (.load false 1 (.t 37)),
 qo 39 (.slcs (.t 38) (some (ci 1)) none),
 ⟨some 40,.call 150 [.t 39],none,[.f 1]⟩,
 qo 34 (.mv (.t 40)),
 qo 41 (.ext (.t 34) 0),
 qo 42 (.ext (.t 34) 1),
 qo 10 (.mv (.t 41)),
 qo 11 (.mv (.t 42))])
 (.seq (.ops [qo 44 (.mv (.t 7)),
 qo 45 (.mv (.t 9)),
 qo 46 (.ix 1 (.t 44) (.t 45)),
 qo 47 (.load false 1 (.t 46)),
 qo 48 (.slcs (.t 47) (some (ci 1)) none),
 ⟨some 49,.call 14 [.t 48],none,[.f 1]⟩,
 qo 43 (.mv (.t 49)),
 qo 50 (.ext (.t 43) 0),
 qo 51 (.ext (.t 43) 1),
 qo 12 (.zero [.slice none 0 0,.slice none 0 0]),
 ⟨none,.store 2 (.t 12) (.t 50),none,[]⟩,
 qo 13 (.mv (.t 51))])
 (.block 2 (.seq (.ops [qo 55 (.mv (.t 7)),
 qo 56 (.mv (.t 9)),
 qo 57 (.ix 1 (.t 55) (.t 56)),
 qo 58 (.load false 1 (.t 57)),
 qo 59 (.ixs (.t 58) (ci 0)),
 qo 60 (.bin .eql false (.t 59) (.c (.int .u8 112))),
 qo 61 (.mv (.t 60)),
 ⟨some 62,.mv (.t 13),some (61,true),[]⟩,
 qo 63 (.pick (.t 61) (.t 62) (.c (.bool false))),
 qo 54 (.mv (.t 63))])
 (.cond (.t 54) (.seq (.ops [qo 64 (.mv (.t 5)),
 qo 65 (.load true 2 (.t 12)),
 qo 66 (.lit 2 [.t 65]),
 ⟨some 67,.app 2 (.t 64) (.t 66),none,[.f 1]⟩,
 qo 5 (.mv (.t 67))])
 (.ops [qo 68 (.mv (.t 6)),
 qo 69 (.lit 1 [.c (.bool true)]),
 ⟨some 70,.app 1 (.t 68) (.t 69),none,[.f 1]⟩,
 qo 6 (.mv (.t 70))]))
 (.seq (.ops [qo 72 (.mv (.t 7)),
 qo 73 (.mv (.t 9)),
 qo 74 (.ix 1 (.t 72) (.t 73)),
 qo 75 (.load false 1 (.t 74)),
 qo 76 (.ixs (.t 75) (ci 0)),
 qo 77 (.bin .eql false (.t 76) (.c (.int .u8 114))),
 qo 78 (.mv (.t 77)),
 ⟨some 79,.mv (.t 11),some (78,true),[]⟩,
 qo 80 (.pick (.t 78) (.t 79) (.c (.bool false))),
 qo 81 (.mv (.t 80)),
 ⟨some 82,.mv (.t 10),some (81,true),[]⟩,
 ⟨some 83,.mv (.t 5),some (81,true),[]⟩,
 ⟨some 84,.len (.t 83),some (81,true),[]⟩,
 ⟨some 85,.call 103 [.t 82,ci 1,.t 84],some (81,true),[.f 1]⟩,
 qo 86 (.pick (.t 81) (.t 85) (.c (.bool false))),
 qo 87 (.mv (.t 86)),
 ⟨some 88,.mv (.t 6),some (87,true),[]⟩,
 ⟨some 89,.mv (.t 10),some (87,true),[]⟩,
 ⟨some 90,.bin .sub false (.t 89) (ci 1),some (87,true),[]⟩,
 ⟨some 91,.ix 1 (.t 88) (.t 90),some (87,true),[]⟩,
 ⟨some 92,.load false 1 (.t 91),some (87,true),[]⟩,
 qo 93 (.pick (.t 87) (.t 92) (.c (.bool false))),
 qo 71 (.mv (.t 93))])
 (.cond (.t 71) (.ops [qo 94 (.mv (.t 6)),
 qo 95 (.mv (.t 10)),
 qo 96 (.bin .sub false (.t 95) (ci 1)),
 qo 97 (.ix 1 (.t 94) (.t 96)),
 ⟨none,.store 1 (.t 97) (.c (.bool false)),none,[]⟩])
 (.seq (.ops [qo 52 (.mv (.t 5)),
 qo 53 (.mv (.t 6)),
 qo 2 (.mv (.t 52)),
 qo 3 (.mv (.t 53)),
 qo 4 (.mv (.c (.bool false)))])
 (.ret)))))))))))
 (.ops [qo 25 (.mv (.t 9)),
 qo 26 (.bin .add false (.t 25) (ci 1)),
 qo 9 (.mv (.t 26))]))))))
 (.seq (.ops [qo 98 (.mv (.t 5)),
 qo 99 (.mv (.t 6)),
 qo 100 (.mv (.t 8)),
 qo 101 (.mv (.t 0)),
 qo 102 (.lens (.t 101)),
 qo 103 (.bin .eql false (.t 100) (.t 102)),
 qo 104 (.mv (.t 103)),
 ⟨some 105,.mv (.t 7),some (104,true),[]⟩,
 ⟨some 106,.len (.t 105),some (104,true),[]⟩,
 ⟨some 107,.bin .leq false (.t 106) (ci 40),some (104,true),[]⟩,
 qo 108 (.pick (.t 104) (.t 107) (.c (.bool false))),
 qo 2 (.mv (.t 98)),
 qo 3 (.mv (.t 99)),
 qo 4 (.mv (.t 108))])
 (.ret))))))
theorem zbF:look Tryz.prog 102 = some (109,m_s_l14Read,[.tm 2,.tm 3,.tm 4]):=by kernel_rfl
def m_s_Frames:M:=.seq (.ops [qo 2 (.mv (.c (.slice none 0 0))),
 qo 3 (.mv (ci 0))])
 (.seq (.ops [qo 8 (.lit 1 []),
 qo 4 (.mv (.t 8))])
 (.seq (.ops [qo 5 (.mv (ci 0))])
 (.block 0 (.loop (.block 1 (.seq (.ops [qo 10 (.mv (.t 0)),
 qo 11 (.mv (.t 5)),
 ⟨some 12,.call 151 [.t 10,.t 11],none,[.f 1]⟩,
 qo 9 (.mv (.t 12)),
 qo 13 (.ext (.t 9) 0),
 qo 14 (.ext (.t 9) 1),
 qo 6 (.mv (.t 13)),
 qo 7 (.mv (.t 14))])
 (.seq (.seq (.ops [qo 15 (.mv (.t 7)),
 qo 16 (.bin .lss false (.t 15) (ci 0))])
 (.cond (.t 16) (.seq (.ops [qo 17 (.mv (.t 4)),
 qo 18 (.mv (.t 5)),
 qo 2 (.mv (.t 17)),
 qo 3 (.mv (.t 18))])
 (.ret))
 (.skip)))
 (.seq (.ops [qo 19 (.mv (.t 4)),
 qo 20 (.mv (.t 6)),
 qo 21 (.lit 1 [.t 20]),
 ⟨some 22,.app 1 (.t 19) (.t 21),none,[.f 1]⟩,
 qo 4 (.mv (.t 22))])
 (.ops [qo 23 (.mv (.t 7)),
 qo 5 (.mv (.t 23))])))))))))
theorem zbX:look Tryz.prog 104 = some (24,m_s_Frames,[.tm 2,.tm 3]):=by kernel_rfl
def m_s_ReadDec:M:=.seq (.ops [qo 2 (.mv (ci 0)),
 qo 3 (.mv (.c (.bool false)))])
 (.seq (.ops [qo 7 (.mv (.t 0)),
 qo 4 (.mv (.t 7))])
 (.seq (.seq (.ops [qo 8 (.mv (.t 4)),
 qo 9 (.lens (.t 8)),
 qo 10 (.bin .gtr false (.t 9) (ci 0)),
 qo 11 (.mv (.t 10)),
 ⟨some 12,.mv (.t 4),some (11,true),[]⟩,
 ⟨some 13,.ixs (.t 12) (ci 0),some (11,true),[]⟩,
 ⟨some 14,.bin .eql false (.t 13) (.c (.int .u8 45)),some (11,true),[]⟩,
 qo 15 (.pick (.t 11) (.t 14) (.c (.bool false)))])
 (.cond (.t 15) (.ops [qo 16 (.mv (.t 4)),
 qo 17 (.slcs (.t 16) (some (ci 1)) none),
 qo 4 (.mv (.t 17))])
 (.skip)))
 (.seq (.ops [qo 5 (.mv (ci 0))])
 (.seq (.seq (.ops [qo 6 (.mv (ci 0))])
 (.block 0 (.loop (.seq (.seq (.ops [qo 18 (.mv (.t 6)),
 qo 19 (.mv (.t 4)),
 qo 20 (.lens (.t 19)),
 qo 21 (.bin .lss false (.t 18) (.t 20))])
 (.cond (.t 21) (.skip)
 (.exit 0)))
 (.seq (.block 1 (.seq (.seq (.ops [qo 24 (.mv (.t 4)),
 qo 25 (.mv (.t 6)),
 qo 26 (.ixs (.t 24) (.t 25)),
 qo 27 (.conv .i64 (.t 26)),
 ⟨some 28,.call 103 [.t 27,ci 48,ci 57],none,[.f 1]⟩,
 qo 29 (.not (.t 28)),
 qo 30 (.mv (.t 29)),
 ⟨some 31,.mv (.t 4),some (30,false),[]⟩,
 ⟨some 32,.lens (.t 31),some (30,false),[]⟩,
 ⟨some 33,.bin .gtr false (.t 32) (ci 19),some (30,false),[]⟩,
 qo 34 (.pick (.t 30) (.c (.bool true)) (.t 33))])
 (.cond (.t 34) (.seq (.ops [qo 2 (.mv (ci 0)),
 qo 3 (.mv (.c (.bool false)))])
 (.ret))
 (.skip)))
 (.ops [qo 35 (.mv (.t 5)),
 qo 36 (.bin .mul false (ci 10) (.t 35)),
 qo 37 (.mv (.t 4)),
 qo 38 (.mv (.t 6)),
 qo 39 (.ixs (.t 37) (.t 38)),
 qo 40 (.conv .i64 (.t 39)),
 qo 41 (.bin .add false (.t 36) (.t 40)),
 qo 42 (.bin .sub false (.t 41) (ci 48)),
 qo 5 (.mv (.t 42))])))
 (.ops [qo 22 (.mv (.t 6)),
 qo 23 (.bin .add false (.t 22) (ci 1)),
 qo 6 (.mv (.t 23))]))))))
 (.seq (.seq (.ops [qo 43 (.mv (.t 4)),
 qo 44 (.mv (.t 0)),
 qo 45 (.bin .neq false (.t 43) (.t 44))])
 (.cond (.t 45) (.ops [qo 46 (.mv (.t 5)),
 qo 47 (.neg (.t 46)),
 qo 5 (.mv (.t 47))])
 (.skip)))
 (.seq (.seq (.ops [qo 48 (.mv (.t 4)),
 ⟨some 49,.bin .eql false (.t 48) (.c (.string ⟨[].toArray⟩)),none,[]⟩,
 qo 50 (.mv (.t 49)),
 ⟨some 51,.mv (.t 5),some (50,false),[]⟩,
 ⟨some 52,.call 109 [.t 51],some (50,false),[.f 1]⟩,
 ⟨some 53,.mv (.t 0),some (50,false),[]⟩,
 ⟨some 54,.bin .neq false (.t 52) (.t 53),some (50,false),[]⟩,
 qo 55 (.pick (.t 50) (.c (.bool true)) (.t 54))])
 (.cond (.t 55) (.seq (.ops [qo 2 (.mv (ci 0)),
 qo 3 (.mv (.c (.bool false)))])
 (.ret))
 (.skip)))
 (.seq (.ops [qo 56 (.mv (.t 5)),
 qo 2 (.mv (.t 56)),
 qo 3 (.mv (.c (.bool true)))])
 (.ret))))))))
theorem zbG:look Tryz.prog 150 = some (57,m_s_ReadDec,[.tm 2,.tm 3]):=by kernel_rfl
end
/- St1 -/
section
variable {T:World -> Prop} {hT:Low ngl T}
attribute [local irreducible] po mw pt
theorem zc2 {E:Env} {K:St -> Prop} {tm:Nat -> PV} {bx:List (List PC)} {nt d:Nat} {live:List Nat} {r:List MOpr} {g:Option (Nat × Bool)} {c:List X} {x y:X} {la lb:List UInt8} {f:Bool} (hg:gd g tm = some true) (hx:ev tm x = .d (pS la)) (hy:ev tm y = .d (pS lb)) (h:po E r K ⟨up d (.d (pB (!decide (la = lb)))) tm,bx,nt,live⟩):po E (⟨some d,.bin .neq f x y,g,c⟩ :: r) K ⟨tm,bx,nt,live⟩:=by
 refine po_q hg ?_ h;simp only [qf,hx,hy,pS];show some (PV.d (.v (.bool (!((ByteArray.mk la.toArray).toList == (ByteArray.mk lb.toArray).toList))))) = _;rw [ByteArray.toList_eq,ByteArray.toList_eq];show some (PV.d (.v (.bool (!(la == lb))))) = some (PV.d (.v (.bool (!decide (la = lb)))));have e:(la == lb) = decide (la = lb):=by by_cases h:la = lb <;> simp [h]
 rw [e]
theorem zcA (s:List UInt8) (i:Nat) (hi:i <= 2147483647) (hs:s.length <= 2147483647):FnV (env T hT) 151 [.d (pS s),.d (pI i)] (.tup [.d (pS (fC (getFr s i))),.d (pI (fX (getFr s i)))]):=by
 refine FnV.oldT rfl rfl fun w C vs hF _ _ hlen hv => ?_
 match vs,hlen with
 | [x,y],_ =>
  have h1:=zbM (hv 0 _ _ rfl rfl); have h2:=zbK (hv 1 _ _ rfl rfl)
  subst h1; subst h2
  exact zcP s i w (by unfold i64ok; omega) (by omega)
theorem zb7 (ns:List (List UInt8)) (n:List UInt8):pSr (ns ++ [n]) = pSr ns ++ [[pS n]]:=by unfold pSr; rw [List.map_append]; rfl
def FrI (l:List UInt8) (m:Nat) (st:St):Prop:=∃ (a t:Nat) (pre:List (List UInt8 × Nat)),frG l 0 = pre ++ frG l a /\ endX 0 pre = a /\ a <= l.length /\ pre.length <= a /\ m = l.length - a /\ has st.tm [(0,.d (pS l)),(4,.d (.sl t (pSr (pre.map (·.1))))),(5,.d (pI a))] /\ st.bx = [] /\ t ∈ st.live
theorem zbr (l:List UInt8) (hl:l.length <= 2147483647):FnV (env T hT) 104 [.d (pS l)] (.tup [.d (.sl 0 (pSr (fcs l))),.d (pI (fend l))]):=by
 refine zaC (zag zbX) (by show 1 <= 24; decide) fun B hB => ?_
 unfold m_s_Frames;refine mP ?_;refine mO ?_;refine zat (es:=[]) rfl ?_;refine mN ?_;refine mP ?_;refine zai ?_;refine zav (FrI l) l.length ⟨0,_,[],rfl,rfl,Nat.zero_le _,Nat.le_refl _,rfl,⟨rfl,rfl,rfl,trivial⟩,rfl,List.mem_cons_self ..⟩ ?_;rintro m tm bx nt live ⟨a,t,pre,hp,he,hal,hpl,rfl,ht,hbx,hlv⟩;obtain ⟨tm0,rfl⟩:=zaj ht;simp only at hbx hlv; subst hbx
 clear ht;have hg:=zcA (T:=T) (hT:=hT) l a (by omega) hl;refine zai (zaa (zad ?_));(iterate 2 refine mS ?_)
 cases hr:getFr l a with
 | none =>
  rw [hr] at hg;refine zaf rfl hg ?_;refine mN ?_;refine zaa (zaa (zad ?_));refine mS ?_;refine zak rfl rfl rfl ?_;refine mN ?_;refine mwT ?_;refine mP ?_;refine zab ⟨.inr rfl,[.d (.sl t (pSr (pre.map (·.1)))),.d (pI a)],rfl,?_⟩;have e1:fcs l = pre.map (·.1):=by unfold fcs; rw [hp,zaz hr,List.append_nil]
  have e2:fend l = a:=by unfold fend; rw [hp,zaz hr,List.append_nil]; exact he
  rw [e1,e2]
  exact congrArg (fun r => some (PV.tup [.d (.sl 0 r),.d (pI a)])) (zdG _)
 | some r =>
  obtain ⟨c,e⟩:=r;rw [hr] at hg;obtain ⟨f1,f2,f3,f4,f5⟩:=zao hr;refine zaf rfl hg ?_;refine mN ?_;refine zaa (zaa (zad ?_));refine mS ?_;refine zam rfl rfl (decide_eq_false (show ¬ ((e:Nat):Int) < 0 by omega)) ?_;refine mN ?_;refine mwF ?_;refine zae ?_;refine mO ?_;(iterate 2 refine mS ?_);refine zat (es:=[[pS c]]) rfl ?_;refine zbP (t:=t) (t':=nt) (es:=pSr (pre.map (·.1))) (ds:=[[pS c]]) rfl rfl (.inr (List.mem_cons_of_mem _ hlv)) (by simp only [List.length_singleton,za0,List.length_map]; omega) (fun e he => by simp only [List.mem_singleton] at he; subst he; rfl) (zcX _) ?_;refine mN ?_;refine zad ?_;refine mN ?_;refine ⟨_,?_,e,nt + 1,pre ++ [(c,e)],?_,zby _ _ _ _,f5,by rw [List.length_append]; simp only [List.length_singleton]; omega,rfl,⟨rfl,?_,rfl,trivial⟩,rfl,List.mem_cons_self ..⟩
  ·show l.length - e < l.length - a
   omega
  ·rw [hp,zaM hr,List.append_assoc]; rfl
  ·rw [List.map_append,show List.map (·.1) [(c,e)] = [c] from rfl,zb7]; rfl
theorem zdF (n:Int) (hn:i64ok n):FnV (env T hT) 109 [.d (pI n)] (.d (pS (Lib.itoa n))):=by
 refine FnV.old rfl fun w C vs hF _ _ hlen hv => ?_
 match vs,hlen with
 | [x],_ =>
  have h1:=zbK (hv 0 _ _ rfl rfl);subst h1;exact zcZ n w hn
def RdI (s:List UInt8) (m:Nat) (st:St):Prop:=∃ i:Nat,i <= (unsgn s).length /\ m = (unsgn s).length - i /\ has st.tm [(0,.d (pS s)),(4,.d (pS (unsgn s))),(5,.d (pI (IntKind.wrap .i64 (dvL ((unsgn s).take i):Nat)))),(6,.d (pI i))] /\ st.bx = []
theorem zd0 (a:Nat) (c:Int) (h:48 <= c /\ c <= 57):IntKind.wrap .i64 (IntKind.wrap .i64 (IntKind.wrap .i64 (10 * IntKind.wrap .i64 (a:Int)) + c) - 48) = IntKind.wrap .i64 ((a * 10 + (c.toNat - 48):Nat):Int):=by
 simp only [IntKind.wrap_i64]; omega
theorem zd1 (a:Int):i64ok (IntKind.wrap .i64 a):=by unfold i64ok; rw [IntKind.wrap_i64]; omega
set_option maxHeartbeats 1000000 in
theorem zcd (s:List UInt8) (hs:s.length <= 2147483647):FnV (env T hT) 150 [.d (pS s)] (.tup [.d (pI (rdN s)),.d (pB (rdB s))]):=by
 refine zaC (zag zbG) (by show 1 <= 57; decide) fun B hB => ?_
 unfold m_s_ReadDec;have hul:(unsgn s).length <= s.length:=by unfold unsgn; split; rw [List.length_drop]; omega; exact Nat.le_refl _
 refine mP ?_;refine mP ?_;refine zaq (fun st => has st.tm [(0,.d (pS s)),(4,.d (pS (unsgn s)))] /\ st.bx = []) ?_ ?_
 ·refine mQ ?_
  refine po_q (v:=.d (pI s.length)) rfl rfl ?_
  cases s with
  | nil =>
   refine zam rfl rfl rfl ?_;refine mS ?_
   iterate 3 (refine zah rfl ?_)
   refine mN ?_;refine mwF ?_;refine zae ?_
   exact ⟨⟨rfl,rfl,trivial⟩,rfl⟩
  | cons c r =>
   refine zak rfl rfl (decide_eq_true (show (((c :: r).length:Nat):Int) > 0 by simp only [List.length_cons]; omega)) ?_;(iterate 2 refine mS ?_);refine zbT (k:=0) (b:=c) rfl rfl rfl rfl rfl ?_;by_cases hc:c = 45
   ·subst hc
    refine zak rfl rfl rfl ?_;refine mN ?_;refine mwT ?_;refine zad ?_;refine mS ?_;refine zaU (a:=1) (b:=(((45:UInt8) :: r).length)) (rs:=unsgn (45 :: r)) rfl rfl rfl rfl (by simp only [List.length_cons]; omega) (by simp [unsgn]) ?_;refine mN ?_;exact ⟨⟨rfl,rfl,trivial⟩,rfl⟩
   ·have hc':c.toNat ≠ 45:=fun h => hc (UInt8.toNat_inj.1 h)
    refine zam rfl rfl (by show ((c.toNat:Int) == 45) = false; rw [beq_eq_false_iff_ne]; omega) ?_;refine mN ?_;refine mwF ?_;refine zae ?_;refine ⟨⟨rfl,?_,trivial⟩,rfl⟩
    have:unsgn (c :: r) = c :: r:=by unfold unsgn; rw [if_neg (by simpa using hc)]
    rw [this]; rfl
 rintro tm bx nt live ⟨ht,hbx⟩;obtain ⟨tm0,rfl⟩:=zaj ht;simp only at hbx; subst hbx
 clear ht;obtain ⟨t,htu⟩:∃ t,t = unsgn s:=⟨_,rfl⟩;have no:(¬ (unsgn s ≠ [] /\ (unsgn s).length <= 19 /\ ∀ c ∈ unsgn s,48 <= c.toNat /\ c.toNat <= 57)) -> rdN s = 0 /\ rdB s = false:=fun h => zeI fun n h1 h2 => h (zcz h1 h2)
 refine mP ?_;refine zaq (fun st => has st.tm [(0,.d (pS s)),(4,.d (pS (unsgn s))),(5,.d (pI (IntKind.wrap .i64 (dvL (unsgn s):Nat))))] /\ st.bx = []) ?_ ?_
 ·refine mP ?_
  refine zai ?_;refine zav (RdI s) (unsgn s).length ⟨0,Nat.zero_le _,rfl,⟨rfl,rfl,rfl,rfl,trivial⟩,rfl⟩ ?_;rintro m tm bx nt live ⟨i,hi,rfl,ht,hbx⟩;obtain ⟨tm0,rfl⟩:=zaj ht;simp only at hbx; subst hbx
  clear ht;refine zaa (zaa (zad ?_));(iterate 2 refine mS ?_);refine po_q (v:=.d (pI (unsgn s).length)) rfl rfl ?_;refine po_b rfl rfl (fun b hb => ?_);refine zac ?_;refine zb4 (p:=(i:Int) < (unsgn s).length) hb rfl (fun h _ => ?_) (fun h _ => ?_)
  ·have hil:i < (unsgn s).length:=by omega
   refine zae ?_;refine zaa (zai (zaa (zaa (zad ?_))));(iterate 2 refine mS ?_);refine zbT (k:=i) (b:=(unsgn s)[i]) rfl rfl rfl rfl (List.getElem?_eq_getElem hil) ?_;have hct:=((unsgn s)[i]).toNat_lt;refine zcn (n:=(((unsgn s)[i]).toNat:Int)) rfl rfl (by rw [IntKind.wrap_i64]; omega) ?_;refine zaf rfl (zdk (T:=T) (hT:=hT) (((unsgn s)[i]).toNat:Int) 48 57) ?_;by_cases hd:48 <= (((unsgn s)[i]).toNat:Int) /\ (((unsgn s)[i]).toNat:Int) <= 57
   case neg =>
    rw [decide_eq_false hd];obtain ⟨e1,e2⟩:=no fun ⟨_,_,h⟩ => hd (by have:=h _ (List.getElem_mem hil); omega)
    (iterate 2 refine mS ?_)
    iterate 3 (refine zah rfl ?_)
    refine mN ?_;refine mwT ?_;refine mP ?_;rw [e1,e2];exact zab ⟨.inr rfl,_,rfl,rfl⟩
   rw [decide_eq_true hd];(iterate 3 refine mS ?_);refine po_q (v:=.d (pI (unsgn s).length)) rfl rfl ?_;by_cases h19:(unsgn s).length <= 19
   case neg =>
    obtain ⟨e1,e2⟩:=no fun ⟨_,h,_⟩ => h19 h
    refine zak rfl rfl (decide_eq_true (show (((unsgn s).length:Nat):Int) > 19 by omega)) ?_;refine mN ?_;refine mwT ?_;refine mP ?_;rw [e1,e2];exact zab ⟨.inr rfl,_,rfl,rfl⟩
   refine zam rfl rfl (decide_eq_false (show ¬ (((unsgn s).length:Nat):Int) > 19 by omega)) ?_;refine mN ?_;refine mwF ?_;refine zae ?_;refine zad ?_;refine mS ?_;refine po_q (v:=.d (pI (IntKind.wrap .i64 (10 * IntKind.wrap .i64 (dvL ((unsgn s).take i):Nat))))) rfl rfl ?_;(iterate 2 refine mS ?_);refine zbT (k:=i) (b:=(unsgn s)[i]) rfl rfl rfl rfl (List.getElem?_eq_getElem hil) ?_;refine zcn (n:=(((unsgn s)[i]).toNat:Int)) rfl rfl (by rw [IntKind.wrap_i64]; omega) ?_;refine po_q (v:=.d (pI (IntKind.wrap .i64 (IntKind.wrap .i64 (10 * IntKind.wrap .i64 (dvL ((unsgn s).take i):Nat)) + (((unsgn s)[i]).toNat:Int))))) rfl rfl ?_
   have hst:IntKind.wrap .i64 (IntKind.wrap .i64 (IntKind.wrap .i64 (10 * IntKind.wrap .i64 (dvL ((unsgn s).take i):Nat)) + (((unsgn s)[i]).toNat:Int)) - 48) = IntKind.wrap .i64 (dvL ((unsgn s).take (i + 1)):Nat):=by
    rw [zd0 _ _ (by omega),zc4 _ _ hil,zb5,Int.toNat_natCast]
   refine po_q (v:=.d (pI (IntKind.wrap .i64 (dvL ((unsgn s).take (i + 1)):Nat)))) rfl (by rw [<- hst]; rfl) ?_;refine mN ?_;refine zad ?_;refine mS ?_;refine zau (n:=((i + 1:Nat):Int)) rfl rfl rfl (by omega) (by omega) ?_;refine mN ?_;refine ⟨_,?_,i + 1,by omega,rfl,⟨rfl,rfl,rfl,rfl,trivial⟩,rfl⟩;show (unsgn s).length - (i + 1) < (unsgn s).length - i;omega
  ·refine zaH ?_
   have hie:i = (unsgn s).length:=by omega
   subst hie;refine ⟨⟨rfl,rfl,?_,trivial⟩,rfl⟩;show PV.d (pI (IntKind.wrap .i64 (dvL ((unsgn s).take (unsgn s).length):Nat))) = _;rw [List.take_length]
 rintro tm bx nt live ⟨ht,hbx⟩;obtain ⟨tm0,rfl⟩:=zaj ht;simp only at hbx; subst hbx
 clear ht;obtain ⟨n,hn⟩:∃ n,n = (if unsgn s = s then IntKind.wrap .i64 (dvL (unsgn s):Nat) else IntKind.wrap .i64 (0 - IntKind.wrap .i64 (dvL (unsgn s):Nat))):=⟨_,rfl⟩;have hnok:i64ok n:=by rw [hn]; split <;> exact zd1 _
 refine zaq (fun st => has st.tm [(0,.d (pS s)),(4,.d (pS (unsgn s))),(5,.d (pI n))] /\ st.bx = []) ?_ ?_
 ·refine mO ?_
  (iterate 2 refine mS ?_);refine zc2 rfl rfl rfl ?_;by_cases hu:unsgn s = s
  ·rw [decide_eq_true hu]
   refine zac ?_;refine mwF ?_;refine zae ?_;refine ⟨⟨rfl,rfl,?_,trivial⟩,rfl⟩;rw [hn,if_pos hu]; rfl
  ·rw [decide_eq_false hu]
   refine zac ?_;refine mwT ?_;refine zad ?_;refine mS ?_;refine po_q (v:=.d (pI n)) rfl (by rw [hn,if_neg hu]; rfl) ?_;refine mN ?_;exact ⟨⟨rfl,rfl,rfl,trivial⟩,rfl⟩
 rintro tm bx nt live ⟨ht,hbx⟩;obtain ⟨tm0,rfl⟩:=zaj ht;simp only at hbx; subst hbx
 clear ht;refine zaa (zaa (zad ?_));refine mS ?_;refine zc7 (lb:=[]) rfl rfl rfl ?_;by_cases h0:unsgn s = []
 ·rw [decide_eq_true h0]
  obtain ⟨e1,e2⟩:=no fun ⟨h,_⟩ => h h0
  refine mS ?_
  iterate 4 (refine zah rfl ?_)
  refine mN ?_;refine mwT ?_;refine mP ?_;rw [e1,e2];exact zab ⟨.inr rfl,_,rfl,rfl⟩
 rw [decide_eq_false h0];(iterate 2 refine mS ?_);refine zaD (b:=true) (args:=[.d (pI n)]) rfl (fun _ => rfl) (fun _ => zdF (T:=T) (hT:=hT) n hnok) ?_;refine mS ?_;refine zc2 rfl rfl rfl ?_;by_cases hi:Lib.itoa n = s
 ·obtain ⟨e1,e2⟩:=zdy hnok hi
  rw [decide_eq_true hi];refine mN ?_;refine mwF ?_;refine zae ?_;refine mP ?_;rw [e1,e2];exact zab ⟨.inr rfl,_,rfl,rfl⟩
 ·have hrd:rdN s = 0 /\ rdB s = false:=zeI fun n' h1 h2 => hi (by
   have:=zdX h1 h2
   rw [<- hn] at this;rw [this]; exact h2)
  rw [decide_eq_false hi];refine mN ?_;refine mwT ?_;refine mP ?_;rw [hrd.1,hrd.2];exact zab ⟨.inr rfl,_,rfl,rfl⟩
end
/- St2 -/
section
variable {T:World -> Prop} {hT:Low ngl T}
attribute [local irreducible] po mw pt
def rlC (S:Rl):List (List PC):=S.map fun d => dC d.1.1 d.1.2
def lvC (S:Rl):List PC:=S.map fun d => pB d.2
theorem zd2 (S:Rl):(rlC S).length = S.length:=by simp [rlC]
theorem zaT (S:Rl):(lvC S).length = S.length:=by simp [lvC]
theorem zdg (a b:List (List PC)):erLL (a ++ b) = erLL a ++ erLL b:=by simp only [zbb,List.map_append]
theorem zcU {z cells:List PC} {m i:Nat} (hc:cells = z.take m) (hi:i < cells.length):(z.drop i).take 1 = [cells[i]]:=by
 subst hc;rw [List.length_take] at hi;rw [List.getElem_take,List.drop_eq_getElem_cons (by omega)]; rfl
theorem RwAt.mono2 {n lo nt:Nat} {live live':List Nat} {c:PC} {bx:List (List PC)} {cells:List PC} (h:RwAt n lo live c bx cells) (hc:∀ t es,c = .sl t es -> 2 <= t /\ t < nt) (hl:∀ t ∈ live,2 <= t -> t < nt -> t ∈ live'):RwAt n lo live' c bx cells :=
 ⟨h.1,h.2.imp (fun ⟨t,a,b,d⟩ => ⟨t,a,b.imp id fun hb => hl t hb (hc t [] a).1 (hc t [] a).2,d⟩) id⟩
def RdP (nt:Nat) (live:List Nat) (nt1:Nat) (l1:List Nat) (td:Nat) (rows:List (List PC)) (lvc:PC) (bx:List (List PC)) (S:Rl):Prop :=
 2 <= td /\ OwnL nt1 l1 ([] ++ .sl td rows :: []) /\ (∀ u ∈ toksL ([] ++ .sl td rows :: []),nt <= u) /\ nt <= nt1 /\ (∀ t ∈ live,2 <= t -> t < nt -> t ∈ l1) /\ erLL rows = rlC S /\ RwAt 1 0 l1 lvc bx (lvC S) /\ (∀ t es,lvc = .sl t es -> 2 <= t /\ t < nt1 /\ t ≠ td)
def RdR (log:List UInt8) (nt:Nat) (live:List Nat) (x:PV) (b:List (List PC)) (nt':Nat) (live':List Nat):Prop :=
 ∃ (td:Nat) (rows:List (List PC)) (lvc:PC) (S0:Rl),x = .tup [.d (.sl td rows),.d lvc,.d (pB (logR log).isSome)] /\ RdP nt live nt' live' td rows lvc b S0 /\ S0.length <= log.length /\ ∀ S,logR log = some S -> S0 = S
def RdJ (log:List UInt8) (nt:Nat) (live:List Nat) (m:Nat) (st:St):Prop:=∃ (i td:Nat) (rows:List (List PC)) (lvc:PC) (S:Rl),i <= (fcs log).length /\ m = (fcs log).length - i /\ rdL [] ((fcs log).take i) = some S /\
 has st.tm [(0,.d (pS log)),(5,.d (.sl td rows)),(6,.d lvc),(7,.d (.sl 0 (pSr (fcs log)))),(8,.d (pI (fend log))),(9,.d (pI i))] /\ RdP nt live st.nt st.live td rows lvc st.bx S
theorem zbc (log:List UInt8):(fcs log).length <= log.length:=by
 have h1:=(zbz (l:=log) 0).2.2;have h2:=zdr log;unfold fcs fend at *;rw [List.length_map]; omega
theorem zdz {log:List UInt8} {c:List UInt8} (h:c ∈ fcs log):c.length <= 100000:=by
 unfold fcs at h;obtain ⟨f,hf,rfl⟩:=List.mem_map.1 h;exact ((zbz (l:=log) 0).1 f hf).2.2
theorem zeJ {log:List UInt8} {i:Nat} {S:Rl} (h:rdL [] ((fcs log).take i) = some S):S.length <= log.length:=by
 have h1:=zbD _ _ _ h;have h2:=zbc log;rw [List.length_take] at h1;simp only [List.length_nil] at h1; omega
theorem zdh {nt nt1 n2 td:Nat} {live l1 l2:List Nat} {rows:List (List PC)} {lvc:PC} {bx:List (List PC)} {S:Rl} {c1 c2:PC} {d:Dc} (hP:RdP nt live nt1 l1 td rows lvc bx S) (hn:nt1 <= n2) (h22:2 <= n2) (hN:NewL nt1 n2 [c1,c2]) (hm:∀ t ∈ toksL [c1,c2],t ∈ l2) (hl:∀ t ∈ l1,2 <= t -> t < nt1 -> t ∈ l2) (he:erL [c1,c2] = dC d.1 d.2) :
  OwnL (n2 + 2) ((n2 + 1) :: (n2 :: l2).filter (· != td)) ([] ++ .sl (n2 + 1) (rows ++ [[c1,c2]]) :: []) /\ (∀ u ∈ toksL ([] ++ .sl (n2 + 1) (rows ++ [[c1,c2]]) :: []),nt <= u) /\ (∀ t ∈ live,2 <= t -> t < nt -> t ∈ (n2 + 1) :: (n2 :: l2).filter (· != td)) /\ erLL (rows ++ [[c1,c2]]) = rlC (S ++ [(d,true)]) /\
  RwAt 1 0 ((n2 + 1) :: (n2 :: l2).filter (· != td)) lvc bx (lvC S):=by
 obtain ⟨h2,hown,hge,hnt,hlv,her,hR,hlc⟩:=hP;obtain ⟨o1,o2⟩:=zdL hown (.inr h2) hge hnt hn h22 hN hm hl;refine ⟨o1,o2,fun t ht ht2 hlt => ?_,?_,?_⟩
 ·have hne:t ≠ td:=fun e => by
   have:=hge td (by rw [List.nil_append]; show td ∈ PC.toks (.sl td rows) ++ _; rw [zaE h2]; simp)
   omega
  exact List.mem_cons_of_mem _ (List.mem_filter.2 ⟨List.mem_cons_of_mem _ (hl t (hlv t ht ht2 hlt) ht2 (by omega)),by simpa using hne⟩)
 ·rw [zdg,her]
  unfold rlC;rw [List.map_append]
  congr 1
  show [erL [c1,c2]] = [dC d.1 d.2];rw [he]
 ·refine ⟨hR.1,hR.2.imp (fun ⟨t,e,a,b⟩ => ⟨t,e,.inr ?_,b⟩) id⟩
  obtain ⟨k1,k2,k3⟩:=hlc t [] e;exact List.mem_cons_of_mem _ (List.mem_filter.2 ⟨List.mem_cons_of_mem _ (hl t (a.resolve_left (by omega)) k1 k2),by simpa using k3⟩)
theorem zeK {S:Rl} {b:UInt8} {tl:List UInt8} (h1:(decide (b = 112) && (gdD tl).isSome) = false) (h2:(decide (b = 114) && (rdB tl && rlv S (rdN tl))) = false):stp S (b :: tl) = none:=by
 unfold stp;simp only;split
 ·rename_i h
  rw [decide_eq_true h,Bool.true_and] at h1;rw [Option.isSome_eq_false_iff,Option.isNone_iff_eq_none] at h1;rw [h1]; rfl
 ·split
  ·rename_i h
   rw [decide_eq_true h,Bool.true_and] at h2;rw [if_neg (by rw [h2]; decide)]
  ·rfl
set_option maxHeartbeats 4000000 in
theorem zcB {log:List UInt8} (hs:log.length <= 2147483647) (nt:Nat) (live:List Nat) (hnt:2 <= nt) :
  FnG (env T hT) 102 [.d (pS log)] [] nt live (fun x b n' l => RdR log nt live x b n' l):=by
 refine za1 (zag zbF) (by show 1 <= 109; decide) fun B hB => ?_
 unfold m_s_l14Read;refine mP ?_;refine mO ?_;refine zat (es:=[]) rfl ?_;refine mN ?_;refine mO ?_;refine zat (es:=[]) rfl ?_;refine mN ?_;refine mQ ?_;refine zaf rfl (zbr (T:=T) (hT:=hT) log hs) ?_;refine mN ?_;have hflen:=zbc log;refine zaq (fun st => ∃ m,RdJ log nt live m st /\ m = 0) ?_ ?_
 ·refine mP ?_
  refine zai ?_;refine zav (RdJ log nt live) (fcs log).length ⟨0,nt,[],.sl (nt + 1) [],[],Nat.zero_le _,rfl,rfl,⟨rfl,rfl,rfl,rfl,rfl,rfl,trivial⟩,hnt,?_,?_,by show nt <= nt + 1 + 1; omega,fun t ht _ _ => List.mem_cons_of_mem _ (List.mem_cons_of_mem _ ht),rfl,⟨Nat.zero_le _,.inl ⟨nt + 1,rfl,.inr (List.mem_cons_self ..),rfl⟩⟩,?_⟩ ?_
  ·exact (zcQ hnt live).1.mono2 (by show nt + 1 <= nt + 1 + 1; omega) fun t ht _ _ => List.mem_cons_of_mem _ ht
  ·exact (zcQ hnt live).2
  ·intro t es h
   simp only [PC.sl.injEq] at h;obtain ⟨rfl,_⟩:=h;exact ⟨by omega,by show nt + 1 < nt + 1 + 1; omega,by omega⟩
  rintro m tm bx nt1 l1 ⟨i,td,rows,lvc,S,hi,rfl,hrd,ht,hP⟩;obtain ⟨tm0,rfl⟩:=zaj ht;simp only at hP;clear ht;have hSl:=zeJ hrd;obtain ⟨h2,hown,hge,hnt1,hlv,her,hR,hlc⟩:=id hP;have hrl:rows.length = S.length:=(zdt her).trans (zd2 S);refine zaa (zaa (zad ?_));(iterate 2 refine mS ?_);refine zaB (n:=(fcs log).length) rfl rfl (za0 _) ?_;refine po_b rfl rfl (fun b hb => ?_);refine zac ?_;refine zb4 (p:=(i:Int) < (fcs log).length) hb rfl (fun h _ => ?_) (fun h _ => ?_)
  ·have hil:i < (fcs log).length:=by omega
   obtain ⟨c,hc⟩:∃ c,c = (fcs log)[i]:=⟨_,rfl⟩;have hcl:=zdz (log:=log) (c:=c) (by rw [hc]; exact List.getElem_mem hil);have hrd1:rdL [] ((fcs log).take (i + 1)) = stp S c:=by rw [List.take_succ_eq_append_getElem hil,zbq,hrd,hc]; rfl
   have hbad:stp S c = none -> logR log = none:=fun h => by
    unfold logR;split
    ·exact zbW _ _ (i + 1) (by rw [hrd1]; exact h)
    ·rfl
   have hget:(pSr (fcs log))[((i:Nat):Int).toNat]? = some [pS c]:=by rw [Int.toNat_natCast,hc]; exact zcc hil
   refine zae ?_;refine zaa (zai (zaa (zaa (zad ?_))));(iterate 2 refine mS ?_);refine za3 (es:=pSr (fcs log)) (e:=[pS c]) rfl rfl rfl ⟨by omega,hget⟩ rfl ?_;refine mS ?_;refine zc7 (lb:=[]) rfl rfl rfl ?_;refine zac ?_
   cases c with
   | nil =>
    rw [decide_eq_true rfl];refine mwT ?_;refine mP ?_;have hno:=hbad rfl
    refine zab ⟨.inr rfl,[.d (.sl td rows),.d lvc,.d (pB false)],rfl,td,rows,lvc,S,by rw [hno]; rfl,hP,hSl,fun S' h => by rw [hno] at h; cases h⟩
   | cons b tl =>
   rw [decide_eq_false (by simp)];refine mwF ?_;refine zae ?_;refine mO ?_;(iterate 2 refine mS ?_);refine za3 (es:=pSr (fcs log)) (e:=[pS (b :: tl)]) rfl rfl rfl ⟨by omega,hget⟩ rfl ?_;refine mS ?_;have htl:tl.length <= 100000:=by simp only [List.length_cons] at hcl; omega
   refine zaU (a:=1) (b:=(b :: tl).length) (rs:=tl) rfl rfl rfl rfl (by simp only [List.length_cons]; omega) (by simp) ?_;refine zaf rfl (zcd (T:=T) (hT:=hT) tl (by omega)) ?_;refine mN ?_;refine mO ?_;(iterate 2 refine mS ?_);refine za3 (es:=pSr (fcs log)) (e:=[pS (b :: tl)]) rfl rfl rfl ⟨by omega,hget⟩ rfl ?_;refine mS ?_;refine zaU (a:=1) (b:=(b :: tl).length) (rs:=tl) rfl rfl rfl rfl (by simp only [List.length_cons]; omega) (by simp) ?_;refine po_g rfl (FnG.lift0 (zec (T:=T) (hT:=hT) (s:=tl) (by omega) nt1 l1 (by omega)) (args:=[.d (pS tl)]) ⟨trivial,trivial⟩) ?_;rintro x b0 n2 l2 ⟨hb0,hD⟩;have hb0:=hb0.symm; subst hb0
   obtain ⟨c1,c2,d,rfl,hN,hm2,hl2,hn2,hed,hgd⟩:=hD.gd;(iterate 3 refine mS ?_);refine zco (cs:=[c1,c2]) rfl rfl rfl rfl ?_;refine mN ?_;have hR1:RwAt 1 0 l2 lvc (bx ++ [[c1,c2]]) (lvC S):=(hR.mono2 (fun t es h => ⟨(hlc t es h).1,(hlc t es h).2.1⟩) hl2).cong (by simp) fun q _ hq => List.getElem?_append_left hq
   have hP1:RdP nt live n2 l2 td rows lvc (bx ++ [[c1,c2]]) S:=⟨h2,hown.mono2 hn2 hl2,hge,by omega,fun t ht h2 hlt => hl2 t (hlv t ht h2 hlt) h2 (by omega),her,hR1,fun t es h => ⟨(hlc t es h).1,by have:=(hlc t es h).2.1; omega,(hlc t es h).2.2⟩⟩;refine zai ?_;refine zaq (fun st => has st.tm [(0,.d (pS log)),(5,.d (.sl td rows)),(6,.d lvc),(7,.d (.sl 0 (pSr (fcs log)))),(8,.d (pI (fend log))),(9,.d (pI i)),(10,.d (pI (rdN tl))),(11,.d (pB (rdB tl))),(12,.ref bx.length 0),(54,.d (pB (decide (b = 112) && (gdD tl).isSome)))] /\ st.bx = bx ++ [[c1,c2]] /\ n2 = st.nt /\ l2 = st.live) ?_ ?_
   ·refine zad ?_
    (iterate 2 refine mS ?_);refine za3 (es:=pSr (fcs log)) (e:=[pS (b :: tl)]) rfl rfl rfl ⟨by omega,hget⟩ rfl ?_;refine mS ?_;refine zbT (k:=0) (b:=b) rfl rfl rfl rfl rfl ?_;by_cases hb:b = 112
    ·subst hb
     refine zak rfl rfl rfl ?_;refine mN ?_;exact ⟨⟨rfl,rfl,rfl,rfl,rfl,rfl,rfl,rfl,rfl,rfl,trivial⟩,rfl,rfl,rfl⟩
    ·have hb':b.toNat ≠ 112:=fun h => hb (UInt8.toNat_inj.1 h)
     refine zam rfl rfl (by show ((b.toNat:Int) == 112) = false; rw [beq_eq_false_iff_ne]; omega) ?_;refine mS ?_;refine zah rfl ?_;refine mN ?_;rw [decide_eq_false hb];exact ⟨⟨rfl,rfl,rfl,rfl,rfl,rfl,rfl,rfl,rfl,rfl,trivial⟩,rfl,rfl,rfl⟩
   rintro tm bx1 n3 l3 ⟨ht,rfl,rfl,rfl⟩;obtain ⟨tm1,rfl⟩:=zaj ht;clear ht tm0
   cases hf:(decide (b = 112) && (gdD tl).isSome) with
   | true =>
    simp only [Bool.and_eq_true,decide_eq_true_eq] at hf;obtain ⟨rfl,hf⟩:=hf;obtain ⟨d',hd'⟩:=Option.isSome_iff_exists.1 hf;rw [hd'] at hgd;have hgd:d' = d:=hgd;subst hgd;have hst:stp S (112 :: tl) = some (S ++ [(d',true)]):=by unfold stp; simp only [if_true,hd',Option.map_some]
    refine mwT ?_;refine mQ ?_;refine za7 (cs:=[c1,c2]) rfl rfl (zbf _ _) (Nat.le_refl 2) rfl ?_;refine zat (es:=[[c1,c2]]) rfl ?_
    have hrw:∀ e ∈ rows,e.length = 2:=fun e he => by
     have h1:erL e ∈ erLL rows:=by rw [zbb]; exact List.mem_map_of_mem he
     rw [her] at h1;obtain ⟨d0,_,h3⟩:=List.mem_map.1 h1
     have:=congrArg List.length h3
     rw [zaO,List.length_map] at this; exact this.symm
    have htl1:td ∈ l2:=by
     obtain ⟨a1,a2⟩:=hown.mem td (by rw [List.nil_append]; show td ∈ PC.toks (.sl td rows) ++ _; rw [zaE h2]; simp);exact hl2 td a1 h2 a2
    refine zbP (t:=td) (t':=n2) (es:=rows) (ds:=[[c1,c2]]) rfl rfl (.inr (List.mem_cons_of_mem _ htl1)) (by simp only [List.length_singleton]; omega) (fun e he => by simp only [List.mem_singleton] at he; subst he; rfl) hrw ?_;refine mN ?_;obtain ⟨o1,o2,o3,o4,o5⟩:=zdh (d:=d') hP hn2 (by omega) hN hm2 hl2 hed;refine zad ?_;refine mS ?_;refine zat (es:=[[pB true]]) rfl ?_
    have hR2:RwAt 1 0 ((n2 + 1 + 1) :: (n2 + 1) :: (n2 :: l2).filter (· != td)) lvc (bx ++ [[c1,c2]]) (lvC S):=⟨Nat.zero_le _,(hR1.2.imp (fun ⟨t,e,a,b⟩ => ⟨t,e,.inr (by
     obtain ⟨k1,k2,k3⟩:=hlc t [] e
     have:=o5.2
     refine List.mem_cons_of_mem _ ?_
     rcases this with ⟨t',e',a',_⟩ | ⟨_,_,_,_,e',_⟩
     ·rw [e] at e'; simp only [PC.sl.injEq,and_true] at e'; subst e'; exact a'.resolve_left (by omega)
     ·rw [e] at e'; cases e'),b⟩) id)⟩
    refine zdp (m:=S.length) (ds:=[[pB true]]) hR2 (by simp) (by rw [zaT,Nat.one_mul]) (by decide) (by simp only [List.length_singleton]; omega) (fun e he => by simp only [List.mem_singleton] at he; subst he; rfl) rfl rfl ?_;intro lvc' bx' hR' _;refine mN ?_;refine zad ?_;refine mS ?_;refine zau (n:=((i + 1:Nat):Int)) rfl rfl rfl (by omega) (by omega) ?_;refine mN ?_;have hne:lvC S ++ [[pB true]].flatten ≠ []:=by simp
    obtain ⟨p3,len3,cap3,z3,e3,_⟩:=hR'.row hne;refine ⟨_,?_,i + 1,n2 + 1,rows ++ [[c1,c2]],lvc',S ++ [(d',true)],by omega,rfl,by rw [hrd1]; exact hst,⟨rfl,rfl,rfl,rfl,rfl,rfl,trivial⟩,by omega,o1.mono2 (by show n2 + 2 <= n2 + 1 + 1 + 1; omega) (fun t ht _ _ => List.mem_cons_of_mem _ ht),o2,by show nt <= n2 + 1 + 1 + 1; omega,fun t ht h h' => List.mem_cons_of_mem _ (o3 t ht h h'),o4,?_,fun t es h => by rw [e3] at h; cases h⟩
    ·show (fcs log).length - (i + 1) < (fcs log).length - i
     omega
    ·have:lvC (S ++ [(d',true)]) = lvC S ++ [[pB true]].flatten:=by simp [lvC]
     rw [this]; exact hR'
   | false =>
   refine mwF ?_;refine zaq (fun st => has st.tm [(0,.d (pS log)),(5,.d (.sl td rows)),(6,.d lvc),(7,.d (.sl 0 (pSr (fcs log)))),(8,.d (pI (fend log))),(9,.d (pI i)),(10,.d (pI (rdN tl))),(71,.d (pB (decide (b = 114) && (rdB tl && rlv S (rdN tl)))))] /\ st.bx = bx ++ [[c1,c2]] /\ n2 = st.nt /\ l2 = st.live) ?_ ?_
   ·refine zad ?_
    (iterate 2 refine mS ?_);refine za3 (es:=pSr (fcs log)) (e:=[pS (b :: tl)]) rfl rfl rfl ⟨by omega,hget⟩ rfl ?_;refine mS ?_;refine zbT (k:=0) (b:=b) rfl rfl rfl rfl rfl ?_;by_cases hb:b = 114
    case neg =>
     have hb':b.toNat ≠ 114:=fun h => hb (UInt8.toNat_inj.1 h)
     refine zam rfl rfl (by show ((b.toNat:Int) == 114) = false; rw [beq_eq_false_iff_ne]; omega) ?_;refine mS ?_;refine zah rfl ?_;(iterate 2 refine mS ?_)
     iterate 4 (refine zah rfl ?_)
     (iterate 2 refine mS ?_)
     iterate 5 (refine zah rfl ?_)
     refine mN ?_;rw [decide_eq_false hb];exact ⟨⟨rfl,rfl,rfl,rfl,rfl,rfl,rfl,rfl,trivial⟩,rfl,rfl,rfl⟩
    subst hb;refine zak rfl rfl rfl ?_;(iterate 2 refine mS ?_)
    cases hrb:rdB tl with
    | false =>
     (iterate 2 refine mS ?_)
     iterate 4 (refine zah rfl ?_)
     (iterate 2 refine mS ?_)
     iterate 5 (refine zah rfl ?_)
     refine mN ?_
     exact ⟨⟨rfl,rfl,rfl,rfl,rfl,rfl,rfl,rfl,trivial⟩,rfl,rfl,rfl⟩
    | true =>
    (iterate 4 refine mS ?_);refine zaB (n:=S.length) rfl rfl hrl ?_;refine zaD (b:=true) (args:=[.d (pI (rdN tl)),.d (pI 1),.d (pI S.length)]) rfl (fun _ => rfl) (fun _ => zdk (T:=T) (hT:=hT) (rdN tl) 1 S.length) ?_;by_cases hin:1 <= rdN tl /\ rdN tl <= (S.length:Int)
    case neg =>
     have e1:rlv S (rdN tl) = false:=by unfold rlv; rw [decide_eq_false hin]; rfl
     rw [decide_eq_false hin,e1];(iterate 2 refine mS ?_)
     iterate 5 (refine zah rfl ?_)
     refine mN ?_;exact ⟨⟨rfl,rfl,rfl,rfl,rfl,rfl,rfl,rfl,trivial⟩,rfl,rfl,rfl⟩
    obtain ⟨k,hk⟩:∃ k:Nat,rdN tl - 1 = k:=⟨(rdN tl - 1).toNat,by omega⟩;have hkS:k < S.length:=by omega
    have e1:rlv S (rdN tl) = S[k].2:=by
     unfold rlv;rw [decide_eq_true hin,hk,Int.toNat_natCast,za2 hkS]; rfl
    rw [decide_eq_true hin,e1];(iterate 4 refine mS ?_);refine zaJ (n:=(k:Int)) rfl rfl rfl hk (by omega) ?_;refine zbU (i:=k) hR1 (by decide) rfl (by rw [zaT]; omega) rfl rfl rfl ?_;intro p len cap z e3 h3 h4 h5 h6 h7 h8 h9;have hone:=zcU h7 (i:=k) (by rw [zaT]; exact hkS);have hlk:(lvC S)[k]'(by rw [zaT]; exact hkS) = pB S[k].2:=by simp [lvC]
    refine za7 (cs:=z) (v:=.d (pB S[k].2)) rfl rfl h4 h9 (by rw [Nat.one_mul,hone,hlk]; rfl) ?_;refine mN ?_;exact ⟨⟨rfl,rfl,rfl,rfl,rfl,rfl,rfl,rfl,trivial⟩,rfl,rfl,rfl⟩
   rintro tm bx1 n3 l3 ⟨ht,rfl,rfl,rfl⟩;obtain ⟨tm2,rfl⟩:=zaj ht;clear ht tm1
   cases hf2:(decide (b = 114) && (rdB tl && rlv S (rdN tl))) with
   | false =>
    refine mwF ?_;refine mP ?_;have hno:=hbad (zeK hf hf2)
    refine zab ⟨.inr rfl,[.d (.sl td rows),.d lvc,.d (pB false)],rfl,td,rows,lvc,S,by rw [hno]; rfl,hP1,hSl,fun S' h => by rw [hno] at h; cases h⟩
   | true =>
    simp only [Bool.and_eq_true,decide_eq_true_eq] at hf2;obtain ⟨rfl,hrb,hlvv⟩:=hf2
    have hin:1 <= rdN tl /\ rdN tl <= (S.length:Int):=by
     unfold rlv at hlvv;simp only [Bool.and_eq_true,decide_eq_true_eq] at hlvv; exact hlvv.1
    obtain ⟨k,hk⟩:∃ k:Nat,rdN tl - 1 = k:=⟨(rdN tl - 1).toNat,by omega⟩;have hkS:k < S.length:=by omega
    have hst:stp S (114 :: tl) = some (S.set k (S[k].1,false)):=by
     unfold stp;simp only;rw [if_neg (by decide),if_pos trivial,if_pos (by rw [hrb,hlvv]; rfl),hk,Int.toNat_natCast,za2 hkS]
    refine mwT ?_;refine zad ?_;(iterate 2 refine mS ?_);refine zaJ (n:=(k:Int)) rfl rfl rfl hk (by omega) ?_;refine zbU (i:=k) hR1 (by decide) rfl (by rw [zaT]; omega) rfl rfl rfl ?_;intro p len cap z e3 h3 h4 h5 h6 h7 h8 h9;refine zap (p:=p) (o':=1 * k) (cs:=[pB false]) (z:=z) rfl rfl h4 ⟨rfl,h9⟩ rfl ?_;refine zac ?_;refine zad ?_;refine mS ?_;refine zau (n:=((i + 1:Nat):Int)) rfl rfl rfl (by omega) (by omega) ?_;refine mN ?_;have hset:=RwAt.set (live:=l2) (o:=1 * k) (v:=pB false) hR1.1 h3 h4 h5 h6 (by omega);rw [<- h7,<- e3] at hset;refine ⟨_,?_,i + 1,td,rows,lvc,S.set k (S[k].1,false),by omega,rfl,by rw [hrd1]; exact hst,⟨rfl,rfl,rfl,rfl,rfl,rfl,trivial⟩,h2,hP1.2.1,hP1.2.2.1,hP1.2.2.2.1,hP1.2.2.2.2.1,?_,?_,hP1.2.2.2.2.2.2.2⟩
    ·show (fcs log).length - (i + 1) < (fcs log).length - i
     omega
    ·rw [her]
     unfold rlC;rw [List.map_set];refine (List.ext_getElem (by simp) fun j h1 h2 => ?_);rw [List.getElem_set];split
     ·rename_i hjk; subst hjk; simp
     ·rfl
    ·have:lvC (S.set k (S[k].1,false)) = (lvC S).set (1 * k) (pB false):=by unfold lvC; rw [List.map_set,Nat.one_mul]
     rw [this]; exact hset
  ·refine zaH ?_
   have hie:i = (fcs log).length:=by omega
   subst hie;exact ⟨0,⟨_,td,rows,lvc,S,Nat.le_refl _,by omega,hrd,⟨rfl,rfl,rfl,rfl,rfl,rfl,trivial⟩,hP⟩,rfl⟩
 rintro tm bx nt1 l1 ⟨_,⟨i,td,rows,lvc,S,hi,hm,hrd,ht,hP⟩,rfl⟩;obtain ⟨tm0,rfl⟩:=zaj ht;simp only at hP;clear ht;have hie:i = (fcs log).length:=by omega
 subst hie;rw [List.take_length] at hrd;have hSl:S.length <= log.length:=zeJ (i:=(fcs log).length) (by rw [List.take_length]; exact hrd);refine mO ?_;(iterate 4 refine mS ?_);refine po_q (v:=.d (pI log.length)) rfl rfl ?_;by_cases h1:fend log = log.length
 case neg =>
  have hno:logR log = none:=by unfold logR; rw [if_neg (fun h => h1 h.1)]
  refine zam rfl rfl (by show ((fend log:Int) == (log.length:Int)) = false; rw [beq_eq_false_iff_ne]; omega) ?_;refine mS ?_
  iterate 3 (refine zah rfl ?_)
  refine mN ?_;refine zab ⟨.inr rfl,[.d (.sl td rows),.d lvc,.d (pB false)],rfl,td,rows,lvc,S,by rw [hno]; rfl,hP,hSl,fun S' h => by rw [hno] at h; cases h⟩
 refine zak rfl rfl (by show ((fend log:Int) == (log.length:Int)) = true; rw [beq_iff_eq]; omega) ?_;(iterate 2 refine mS ?_);refine zaB (n:=(fcs log).length) rfl rfl (za0 _) ?_;by_cases h40:(fcs log).length <= 40
 ·have hyes:logR log = some S:=by unfold logR; rw [if_pos ⟨h1,h40⟩,hrd]
  refine zak rfl rfl (decide_eq_true (show (((fcs log).length:Nat):Int) <= 40 by omega)) ?_;refine mN ?_;refine zab ⟨.inr rfl,[.d (.sl td rows),.d lvc,.d (pB true)],rfl,td,rows,lvc,S,by rw [hyes]; rfl,hP,hSl,fun S' h => by rw [hyes] at h; simpa using h⟩
 ·have hno:logR log = none:=by unfold logR; rw [if_neg (fun h => h40 h.2)]
  refine zam rfl rfl (decide_eq_false (show ¬ (((fcs log).length:Nat):Int) <= 40 by omega)) ?_;refine mN ?_;refine zab ⟨.inr rfl,[.d (.sl td rows),.d lvc,.d (pB false)],rfl,td,rows,lvc,S,by rw [hno]; rfl,hP,hSl,fun S' h => by rw [hno] at h; cases h⟩
end
/- St3 -/
section
variable {T:World -> Prop} {hT:Low ngl T}
attribute [local irreducible] po mw pt
def stC (log:List UInt8) (safe:Int):List PC:=[pS log,pI safe]
theorem zcr {α:Type} (f:α -> PC) (h:∀ a,(f a).lw 0):∀ l:List α,lwL 0 (l.map f)
 | [] => trivial
 | a :: l => ⟨h a,zcr f h l⟩
theorem zeL (S:Rl):lwL 0 (lvC S):=zcr (fun d:Dc × Bool => pB d.2) (fun _ => by simp only [pB,PC.lw]) S
def RdL (log:List UInt8) (bx:List (List PC)) (nt:Nat) (live:List Nat) (x:PV) (b:List (List PC)) (nt':Nat) (live':List Nat):Prop :=
 ∃ (rest:List (List PC)) (td:Nat) (rows:List (List PC)) (lvc:PC) (S0:Rl),b = bx ++ rest /\ x = .tup [.d (.sl td rows),.d lvc,.d (pB (logR log).isSome)] /\ 2 <= td /\ NewL nt nt' [.sl td rows] /\ (∀ u ∈ toksL [.sl td rows],u ∈ live') /\ (∀ t ∈ live,2 <= t -> t < nt -> t ∈ live') /\ nt <= nt' /\
  erLL rows = rlC S0 /\ RwAt 1 bx.length live' lvc b (lvC S0) /\ S0.length <= log.length /\ ∀ S,logR log = some S -> S0 = S
theorem zb8 {log:List UInt8} (hs:log.length <= 2147483647) (bx:List (List PC)) (nt:Nat) (live:List Nat) (hnt:2 <= nt) :
  FnG (env T hT) 102 [.d (pS log)] bx nt live (RdL log bx nt live):=by
 refine (FnG.liftR (zcB (T:=T) (hT:=hT) hs nt live hnt) ⟨trivial,trivial⟩).mono ?_;rintro x b n l ⟨x0,b0,rfl,rfl,td,rows,lvc,S0,rfl,⟨h2,hown,hge,hn,hlv,her,hR,hlc⟩,hSl,hS⟩;refine ⟨_,td,rows,lvc.shB bx.length,S0,rfl,?_,h2,⟨hown.own,hown.nd,fun u hu => ⟨hge u hu,(hown.mem u hu).2⟩⟩,fun u hu => (hown.mem u hu).1,hlv,hn,her,?_,hSl,hS⟩
 ·simp only [PV.shB,shBs]
  rw [zbe (c:=.sl td rows) (zaZ (n:=0) hown.own).1,zbe (c:=pB (logR log).isSome) trivial]
 ·have:=hR.shB (bx:=bx) (zeL S0) rfl
  rw [Nat.zero_add] at this; exact this
theorem zeM {log:List UInt8} {safe:Int} (h:¬ (0 <= safe /\ safe <= log.length)):stR log safe = none:=by
 unfold stR;rw [if_neg];rintro ⟨h0,h1⟩
 rcases h1 with h1 | h1
 ·omega
 ·have:=zdZ h1; omega
theorem zbL (log:List UInt8) (safe:Int) (hs:log.length <= 2147483647):FnV (env T hT) 37 [.ag (stC log safe)] (.d (pB (stR log safe).isSome)):=by
 refine zaC (zag zbE) (by show 1 <= 39; decide) fun B hB => ?_
 unfold m_s_StoreOk;refine mO ?_;refine zaQ (cs:=stC log safe) rfl ?_;refine mN ?_;refine mO ?_;(iterate 2 refine mS ?_);refine po_g rfl (zb8 (T:=T) (hT:=hT) hs _ _ _ (by decide)) ?_;rintro x b n l ⟨rest,td,rows,lvc,S0,rfl,rfl,h2,hN,hm,hlv,hn,her,hR,hSl,hS⟩;refine mN ?_;refine zaa (zaa (zad ?_))
 cases hl:logR log with
 | none =>
  have hno:stR log safe = none:=by unfold stR; rw [hl]; split <;> rfl
  (iterate 3 refine mS ?_)
  iterate 7 (refine zah rfl ?_)
  refine mN ?_;refine mwT ?_;refine mP ?_;rw [hno]
  exact zab ⟨.inr rfl,_,rfl,rfl⟩
 | some S =>
 (iterate 5 refine mS ?_);(iterate 2 refine mS ?_);refine po_q (v:=.d (pI log.length)) rfl rfl ?_;refine zaD (b:=true) (args:=[.d (pI safe),.d (pI 0),.d (pI log.length)]) rfl (fun _ => rfl) (fun _ => zdk (T:=T) (hT:=hT) safe 0 log.length) ?_;by_cases hin:0 <= safe /\ safe <= (log.length:Int)
 case neg =>
  rw [decide_eq_false hin];refine mN ?_;refine mwT ?_;refine mP ?_;rw [zeM hin];exact zab ⟨.inr rfl,_,rfl,rfl⟩
 rw [decide_eq_true hin];refine mN ?_;refine mwF ?_;refine zae ?_;refine mO ?_;(iterate 4 refine mS ?_);refine zaU (a:=0) (b:=safe.toNat) (rs:=log.take safe.toNat) rfl rfl rfl (zax (i:=safe) rfl (by omega)) (by omega) (by simp) ?_;refine zaf rfl (zbr (T:=T) (hT:=hT) (log.take safe.toNat) (by rw [List.length_take]; omega)) ?_;refine mN ?_;refine mO ?_;(iterate 3 refine mS ?_);have hsafe:=zdf (l:=log) hin.1 hin.2;by_cases he:(fend (log.take safe.toNat):Int) = safe
 ·have hyes:stR log safe = some S:=by unfold stR; rw [if_pos ⟨hin.1,hsafe.1 he⟩,hl]
  refine zak rfl rfl (by show ((fend (log.take safe.toNat):Int) == safe) = true; rw [beq_iff_eq]; exact he) ?_;refine mN ?_;rw [hyes];exact zab ⟨.inr rfl,_,rfl,rfl⟩
 ·have hno:stR log safe = none:=by unfold stR; rw [if_neg (fun h => he (hsafe.2 h.2))]
  refine zam rfl rfl (by show ((fend (log.take safe.toNat):Int) == safe) = false; rw [beq_eq_false_iff_ne]; exact he) ?_;refine mN ?_;rw [hno];exact zab ⟨.inr rfl,_,rfl,rfl⟩
end
/- St4 -/
section
variable {T:World -> Prop} {hT:Low ngl T}
attribute [local irreducible] po mw pt
noncomputable def retS (log:List UInt8) (safe v:Int):Bool:=match stR log safe with
 | some S => decide ((fcs log).length < 40) && rlv S v
 | none => false
theorem NewL.row {nt nt' td:Nat} {rows:List (List PC)} (h2:2 <= td) (h:NewL nt nt' [.sl td rows]) (k:Nat) (hk:k < rows.length):NewL nt nt' rows[k] /\ ∀ t ∈ toksL rows[k],t ∈ toksL [.sl td rows]:=by
 have e:toksL [.sl td rows] = td :: (toksLL (rows.take k) ++ (toksL rows[k] ++ toksLL (rows.drop (k + 1)))):=by
  show PC.toks (.sl td rows) ++ [] = _;rw [zaE h2,List.append_nil]
  conv => lhs; rw [<- List.take_append_drop k rows,List.drop_eq_getElem_cons hk,zbh,toksLL]
 have ho:ownedL rows[k] = true:=by
  have h1:(PC.owned (.sl td rows) && true) = true:=h.own;rw [zb3 h2,Bool.and_true] at h1;rw [<- List.take_append_drop k rows,List.drop_eq_getElem_cons hk,zbS,ownedLL,Bool.and_eq_true,Bool.and_eq_true] at h1;exact h1.2.1
 have hsub:∀ t ∈ toksL rows[k],t ∈ toksL [.sl td rows]:=fun t ht => by rw [e]; simp [ht]
 refine ⟨⟨ho,?_,fun t ht => h.mem t (hsub t ht)⟩,hsub⟩;have hn:=h.nd;rw [e] at hn;exact (List.nodup_append.1 (List.nodup_append.1 (List.nodup_cons.1 hn).2).2.1).1
def pNr (ns:List Nat):List (List PC):=ns.map fun (n:Nat) => [pI n]
theorem zc3 (ns:List Nat):erLL (pNr ns) = pNr ns:=by rw [zbb]; unfold pNr; rw [List.map_map]; rfl
theorem zaI (ns:List Nat):(pNr ns).length = ns.length:=by simp [pNr]
theorem zce (ns:List Nat):∀ e ∈ pNr ns,e.length = 1:=by
 intro e he; unfold pNr at he; obtain ⟨n,_,rfl⟩:=List.mem_map.1 he; rfl
theorem zca {ns:List Nat} {k:Nat} (h:k < ns.length):(pNr ns)[k]? = some [pI (ns[k]:Int)]:=by unfold pNr; rw [List.getElem?_map,List.getElem?_eq_getElem h]; rfl
noncomputable def syncS (log:List UInt8) (safe:Int):Int:=match stR log safe with
 | some _ => log.length
 | none => safe
theorem sync_fn (log:List UInt8) (safe:Int) (hs:log.length <= 2147483647):FnV (env T hT) 40 [.ag (stC log safe)] (.ag (stC log (syncS log safe))):=by
 refine zaC (zag zg8) (by show 1 <= 10; decide) fun B hB => ?_
 unfold m_s_SyncStore;refine mO ?_;refine zaQ (cs:=stC log safe) rfl ?_;refine mN ?_;refine zaq (fun st => has st.tm [(1,.ref 0 0),(2,.ref 1 0)] /\ st.bx = [stC log (syncS log safe),stC [] 0]) ?_ ?_
 ·refine mQ ?_
  refine zaf (args:=[.ag (stC log safe)]) rfl (zbL (T:=T) (hT:=hT) log safe hs) ?_;refine zac ?_
  cases hst:stR log safe with
  | none =>
   have e:syncS log safe = safe:=by unfold syncS; rw [hst]
   rw [e];refine mwF ?_;refine zae ?_
   exact ⟨⟨rfl,rfl,trivial⟩,rfl⟩
  | some S =>
   have e:syncS log safe = log.length:=by unfold syncS; rw [hst]
   rw [e];refine mwT ?_;refine zad ?_;(iterate 2 refine mS ?_);refine po_q (v:=.d (pI log.length)) rfl rfl ?_;refine mS ?_;refine zap (p:=0) (o':=1) (cs:=[pI log.length]) (z:=stC log safe) rfl rfl rfl ⟨rfl,Nat.le_of_ble_eq_true rfl⟩ rfl ?_;refine zac ?_;exact ⟨⟨rfl,rfl,trivial⟩,rfl⟩
 rintro tm bx n l ⟨ht,hbx⟩;obtain ⟨tm0,rfl⟩:=zaj ht;simp only at hbx; subst hbx
 clear ht;refine mQ ?_;refine zaA (p:=1) (cs:=stC log (syncS log safe)) rfl rfl rfl rfl rfl rfl ?_;refine zac ?_;exact zab ⟨.inr rfl,[.ag (stC log (syncS log safe))],rfl,rfl⟩
end
/- Errs -/
section
open Go.RowKit Go.Lib
def ErrTab (w : World) : Prop := (∃ tp p, w.var? Tryz.prog "strconv.ErrSyntax" = some #[.iface tp p]) ∧ ∃ tp p, w.var? Tryz.prog "strconv.ErrRange" = some #[.iface tp p]
theorem synG : Tryz.prog.globalNamed "strconv.ErrSyntax" = some 3 := by kernel_rfl
theorem rngG : Tryz.prog.globalNamed "strconv.ErrRange" = some 4 := by kernel_rfl
set_option maxHeartbeats 1000000 in
theorem zbH (s:List UInt8) (w:World) (hs:s.length <= 281474976710656) (hT:TenTab w) (hE:ErrTab w) :
  Calls Tryz.prog 229 #[.string ⟨s.toArray⟩] w fun e w' => e = .returned (.tuple #[.int .i64 (rdN s),.bool (rdB s)]) /\ Below w.heap.size w w':=by
 obtain ⟨⟨t1,p1,e1⟩,t2,p2,e2⟩:=hE;have hsz:(⟨s.toArray⟩:ByteArray).size = s.length:=by simp [ByteArray.size]
 cases ha:atoiAll s
 case ok v =>
  have hv:=atoiAll_bounds ha;have hA:=Lib.hid (fun w => Tryz.strconv_Atoi_ok ⟨s.toArray⟩ (by rw [hsz]; omega) v (by simpa using ha) w);have hI:=Lib.hid (fun w hT => Tryz.strconv_Itoa v hv.1 hv.2 w hT);by_cases hi:itoa v = s
  ·have hr:=Lib.hid (zdy hv hi)
   have hi':=Lib.hid hi;clear hi
   go_enter Tryz.func229,Tryz.ntmps229
   go_wp2_with (first | (go_at_call 238; refine (hA.out _).mono ?_; rintro e w1 ⟨rfl,hw⟩; have hb1:Below w.heap.size w w1:=(by rcases hw with rfl | ⟨t,rfl⟩; exact Below.refl _ _; exact Lib.bytesWorld_below _ _ _); clear hw; have hT1:=hT.below hb1) | (go_at_call 158; refine (hI.out _ hT1).mono ?_; rw [hi'.out]; rintro e w2 ⟨rfl,k,os,rfl⟩))
   go_ret2
   exact ⟨by rw [hr.out.1,hr.out.2]; rfl,hb1.trans ((Lib.below_grow _ _ (Nat.le_refl _) _ _).mono hb1.size)⟩
  ·have hr:=Lib.hid (show rdN s = 0 /\ rdB s = false by simp [rdN,rdB,rdD,ha,hi])
   have hbe:(itoa v == s) = false:=by simpa using hi
   go_enter Tryz.func229,Tryz.ntmps229
   go_wp2_with (first | (go_at_call 238; refine (hA.out _).mono ?_; rintro e w1 ⟨rfl,hw⟩; have hb1:Below w.heap.size w w1:=(by rcases hw with rfl | ⟨t,rfl⟩; exact Below.refl _ _; exact Lib.bytesWorld_below _ _ _); clear hw; have hT1:=hT.below hb1) | (go_at_call 158; refine (hI.out _ hT1).mono ?_; rintro e w2 ⟨rfl,k,os,rfl⟩))
   all_goals first
    | (exfalso; rename_i hq; rw [hbe] at hq; cases hq)
    | (go_ret2; exact ⟨by rw [hr.out.1,hr.out.2]; rfl,hb1.trans ((Lib.below_grow _ _ (Nat.le_refl _) _ _).mono hb1.size)⟩)
 ·
  have hr:=Lib.hid (show rdN s = 0 /\ rdB s = false by simp [rdN,rdB,rdD,ha]);have hc:w.cell? ⟨3,0,none⟩ = some (.iface t1 p1):=by have:=World.var?_cell synG e1 0; simpa using this
  have hA:=Lib.hid (Tryz.strconv_Atoi_syntax ⟨s.toArray⟩ (by rw [hsz]; omega) (by simpa using ha) (.iface t1 p1) w hc (.inr ⟨_,_,rfl⟩))
  go_enter Tryz.func229,Tryz.ntmps229
  go_wp2_with (go_at_call 238; refine hA.out.mono ?_; rintro e w1 ⟨N,rfl,_,_,hb1⟩)
  go_ret2
  exact ⟨by rw [hr.out.1,hr.out.2]; rfl,hb1⟩
 ·
  have hr:=Lib.hid (show rdN s = 0 /\ rdB s = false by simp [rdN,rdB,rdD,ha]);have hc:w.cell? ⟨4,0,none⟩ = some (.iface t2 p2):=by have:=World.var?_cell rngG e2 0; simpa using this
  have hA:=Lib.hid (Tryz.strconv_Atoi_range ⟨s.toArray⟩ (by rw [hsz]; omega) (by simpa using ha) (.iface t2 p2) w hc (.inr ⟨_,_,rfl⟩));generalize atoiSat s = sat at hA
  go_enter Tryz.func229,Tryz.ntmps229
  go_wp2_with (go_at_call 238; refine hA.out.mono ?_; rintro e w1 ⟨N,rfl,_,_,hb1⟩)
  go_ret2
  exact ⟨by rw [hr.out.1,hr.out.2]; rfl,hb1⟩
theorem ErrTab.low {n:Nat} {w w':World} (h1:3 < n) (h2:4 < n) (hk:∀ k,k < n -> w'.heap[k]? = w.heap[k]?) (h:ErrTab w):ErrTab w':=by
 have key:∀ (nm:String) (g:Nat) (v:Array Value),Tryz.prog.globalNamed nm = some g -> g < n -> w.var? Tryz.prog nm = some v -> w'.var? Tryz.prog nm = some v:=by
  intro nm g v hg hlt hv;unfold World.var? at hv ⊢;simp only [hg,Option.bind_some] at hv ⊢;rw [hk g hlt];exact hv
 obtain ⟨⟨t1,p1,e1⟩,t2,p2,e2⟩:=h;exact ⟨⟨t1,p1,key _ _ _ synG h1 e1⟩,t2,p2,key _ _ _ rngG h2 e2⟩
end
/- Si1M -/
section
set_option maxRecDepth 100000
def m_i_StoreOk:M:=.seq (.ops [qo 1 (.box (.t 0)),
 qo 2 (.mv (.c (.bool false)))])
 (.seq (.ops [qo 7 (.load true 2 (.t 1)),
 ⟨some 8,.call 105 [.t 7],none,[.f 1]⟩,
 qo 6 (.mv (.t 8)),
 qo 9 (.ext (.t 6) 0),
 qo 10 (.ext (.t 6) 1),
 qo 11 (.ext (.t 6) 2),
 qo 3 (.mv (.t 9)),
 qo 4 (.mv (.t 10)),
 qo 5 (.mv (.t 11))])
 (.seq (.ops [qo 12 (.mv (.t 5)),
 qo 2 (.mv (.t 12))])
 (.ret)))
theorem zcC:look Tryz.prog 39 = some (13,m_i_StoreOk,[.tm 2]):=by kernel_rfl
def m_i_SyncStore:M:=.seq (.ops [qo 1 (.box (.t 0)),
 ⟨some 2,.zero [.string ⟨[].toArray⟩,.int .i64 0],none,[]⟩])
 (.seq (.seq (.ops [qo 3 (.load true 2 (.t 1)),
 ⟨some 4,.call 39 [.t 3],none,[.f 1]⟩])
 (.cond (.t 4) (.ops [qo 5 (.fld 0 (.t 1)),
 qo 6 (.load false 1 (.t 5)),
 qo 7 (.lens (.t 6)),
 qo 8 (.fld 1 (.t 1)),
 ⟨none,.store 1 (.t 8) (.t 7),none,[]⟩])
 (.skip)))
 (.seq (.ops [qo 9 (.load true 2 (.t 1)),
 ⟨none,.store 2 (.t 2) (.t 9),none,[]⟩])
 (.ret)))
theorem zg9:look Tryz.prog 41 = some (10,m_i_SyncStore,[.cell true 2 2]):=by kernel_rfl
def m_i_read:M:=.seq (.ops [qo 1 (.box (.t 0)),
 qo 2 (.mv (.c (.slice none 0 0))),
 qo 3 (.mv (ci 0)),
 qo 4 (.mv (.c (.bool false)))])
 (.seq (.ops [qo 9 (.fld 0 (.t 1)),
 qo 10 (.load false 1 (.t 9)),
 ⟨some 11,.call 152 [.t 10],none,[.f 1]⟩,
 qo 8 (.mv (.t 11)),
 qo 12 (.ext (.t 8) 0),
 qo 13 (.ext (.t 8) 1),
 qo 14 (.ext (.t 8) 2),
 qo 5 (.mv (.t 12)),
 qo 6 (.mv (.t 13)),
 qo 7 (.mv (.t 14))])
 (.seq (.seq (.ops [qo 15 (.mv (.t 7)),
 qo 16 (.not (.t 15)),
 qo 17 (.mv (.t 16)),
 ⟨some 18,.fld 1 (.t 1),some (17,false),[]⟩,
 ⟨some 19,.load false 1 (.t 18),some (17,false),[]⟩,
 ⟨some 20,.bin .neq false (.t 19) (ci 0),some (17,false),[]⟩,
 ⟨some 21,.mv (.t 20),some (17,false),[]⟩,
 ⟨some 22,.mv (.t 6),some (21,true),[]⟩,
 ⟨some 23,.fld 1 (.t 1),some (21,true),[]⟩,
 ⟨some 24,.load false 1 (.t 23),some (21,true),[]⟩,
 ⟨some 25,.call 153 [.t 22,.t 24],some (21,true),[.f 1]⟩,
 ⟨some 26,.not (.t 25),some (21,true),[]⟩,
 ⟨some 27,.pick (.t 21) (.t 26) (.c (.bool false)),some (17,false),[]⟩,
 qo 28 (.pick (.t 17) (.c (.bool true)) (.t 27))])
 (.cond (.t 28) (.seq (.ops [qo 2 (.mv (.c (.slice none 0 0))),
 qo 3 (.mv (ci 0)),
 qo 4 (.mv (.c (.bool false)))])
 (.ret))
 (.skip)))
 (.seq (.ops [qo 29 (.mv (.t 5)),
 qo 30 (.mv (.t 6)),
 qo 31 (.len (.t 30)),
 qo 2 (.mv (.t 29)),
 qo 3 (.mv (.t 31)),
 qo 4 (.mv (.c (.bool true)))])
 (.ret))))
theorem zcD:look Tryz.prog 105 = some (32,m_i_read,[.tm 2,.tm 3,.tm 4]):=by kernel_rfl
def m_i_isLive:M:=.seq (.ops [qo 4 (.mv (.c (.bool false)))])
 (.seq (.ops [qo 5 (.mv (.t 1)),
 qo 6 (.mv (.t 0)),
 qo 7 (.len (.t 6)),
 ⟨some 8,.call 126 [.t 5,ci 1,.t 7],none,[.f 1]⟩,
 qo 9 (.mv (.t 8)),
 ⟨some 10,.mv (.t 0),some (9,true),[]⟩,
 ⟨some 11,.mv (.t 1),some (9,true),[]⟩,
 ⟨some 12,.bin .sub false (.t 11) (ci 1),some (9,true),[]⟩,
 ⟨some 13,.ix 3 (.t 10) (.t 12),some (9,true),[]⟩,
 ⟨some 14,.fld 2 (.t 13),some (9,true),[]⟩,
 ⟨some 15,.load false 1 (.t 14),some (9,true),[]⟩,
 qo 16 (.pick (.t 9) (.t 15) (.c (.bool false))),
 qo 4 (.mv (.t 16))])
 (.ret))
theorem zbY:look Tryz.prog 110 = some (17,m_i_isLive,[.tm 4]):=by kernel_rfl
def m_i_history:M:=.seq (.ops [qo 2 (.mv (.c (.slice none 0 0))),
 qo 3 (.mv (.c (.slice none 0 0))),
 qo 4 (.mv (.c (.bool false)))])
 (.seq (.ops [qo 12 (.mv (.t 0)),
 ⟨some 13,.call 159 [.t 12],none,[.f 1]⟩,
 qo 11 (.mv (.t 13)),
 qo 14 (.ext (.t 11) 0),
 qo 15 (.ext (.t 11) 1),
 qo 5 (.mv (.t 14)),
 qo 6 (.mv (.t 15))])
 (.seq (.ops [qo 16 (.lit 3 []),
 qo 7 (.zero [.slice none 0 0]),
 ⟨none,.store 1 (.t 7) (.t 16),none,[]⟩])
 (.seq (.seq (.ops [qo 17 (.mv (.t 5)),
 qo 18 (.len (.t 17)),
 qo 19 (.mv (ci 0))])
 (.block 0 (.loop (.seq (.ops [qo 20 (.bin .lss false (.t 19) (.t 18))])
 (.seq (.cond (.t 20) (.skip)
 (.exit 0))
 (.seq (.block 1 (.seq (.ops [qo 21 (.mv (.t 19)),
 qo 22 (.ix 1 (.t 17) (.t 19)),
 qo 23 (.load false 1 (.t 22)),
 qo 8 (.mv (.t 21)),
 qo 9 (.mv (.t 23))])
 (.seq (.ops [qo 24 (.mv (.t 8)),
 qo 25 (.bin .eql false (.t 24) (ci 40)),
 qo 26 (.mv (.t 25)),
 ⟨some 27,.mv (.t 9),some (26,false),[]⟩,
 ⟨some 28,.call 200 [.t 7,.t 27],some (26,false),[.f 1]⟩,
 ⟨some 29,.not (.t 28),some (26,false),[]⟩,
 qo 30 (.pick (.t 26) (.c (.bool true)) (.t 29))])
 (.cond (.t 30) (.seq (.ops [qo 31 (.load false 1 (.t 7)),
 qo 32 (.mv (.t 6)),
 qo 33 (.mv (.t 8)),
 qo 34 (.slc 1 (.t 32) none (some (.t 33))),
 qo 2 (.mv (.t 31)),
 qo 3 (.mv (.t 34)),
 qo 4 (.mv (.c (.bool false)))])
 (.ret))
 (.skip)))))
 (.ops [qo 35 (.bin .add false (.t 19) (ci 1)),
 qo 19 (.mv (.t 35))])))))))
 (.seq (.ops [qo 10 (.mv (ci 0))])
 (.seq (.seq (.ops [qo 36 (.mv (.t 6)),
 qo 37 (.len (.t 36)),
 qo 38 (.bin .gtr false (.t 37) (ci 0))])
 (.cond (.t 38) (.ops [qo 39 (.mv (.t 6)),
 qo 40 (.mv (.t 6)),
 qo 41 (.len (.t 40)),
 qo 42 (.bin .sub false (.t 41) (ci 1)),
 qo 43 (.ix 1 (.t 39) (.t 42)),
 qo 44 (.load false 1 (.t 43)),
 qo 10 (.mv (.t 44))])
 (.skip)))
 (.seq (.ops [qo 45 (.load false 1 (.t 7)),
 qo 46 (.mv (.t 6)),
 qo 47 (.mv (.t 10)),
 qo 48 (.mv (.t 0)),
 qo 49 (.lens (.t 48)),
 qo 50 (.bin .eql false (.t 47) (.t 49)),
 qo 2 (.mv (.t 45)),
 qo 3 (.mv (.t 46)),
 qo 4 (.mv (.t 50))])
 (.ret)))))))
theorem zbI:look Tryz.prog 152 = some (51,m_i_history,[.tm 2,.tm 3,.tm 4]):=by kernel_rfl
def m_slices_Contains_int_int:M:=.seq (.ops [qo 4 (.mv (.c (.bool false)))])
 (.seq (.ops [qo 5 (.mv (.t 0)),
 qo 6 (.mv (.t 1)),
 ⟨some 7,.call 201 [.t 5,.t 6],none,[.f 1]⟩,
 qo 8 (.bin .geq false (.t 7) (ci 0)),
 qo 4 (.mv (.t 8))])
 (.ret))
theorem zay:look Tryz.prog 153 = some (9,m_slices_Contains_int_int,[.tm 4]):=by kernel_rfl
def m_i_framesOf:M:=.seq (.ops [qo 2 (.mv (.c (.slice none 0 0))),
 qo 3 (.mv (.c (.slice none 0 0)))])
 (.seq (.ops [qo 9 (.lit 1 []),
 qo 10 (.lit 1 []),
 qo 4 (.mv (.t 9)),
 qo 5 (.mv (.t 10))])
 (.seq (.ops [qo 6 (.mv (ci 0))])
 (.block 0 (.loop (.block 1 (.seq (.ops [qo 12 (.mv (.t 0)),
 qo 13 (.mv (.t 6)),
 ⟨some 14,.call 203 [.t 12,.t 13],none,[.f 1]⟩,
 qo 11 (.mv (.t 14)),
 qo 15 (.ext (.t 11) 0),
 qo 16 (.ext (.t 11) 1),
 qo 7 (.mv (.t 15)),
 qo 8 (.mv (.t 16))])
 (.seq (.seq (.ops [qo 17 (.mv (.t 8)),
 qo 18 (.bin .lss false (.t 17) (ci 0))])
 (.cond (.t 18) (.seq (.ops [qo 19 (.mv (.t 4)),
 qo 20 (.mv (.t 5)),
 qo 2 (.mv (.t 19)),
 qo 3 (.mv (.t 20))])
 (.ret))
 (.skip)))
 (.seq (.ops [qo 21 (.mv (.t 4)),
 qo 22 (.mv (.t 7)),
 qo 23 (.lit 1 [.t 22]),
 ⟨some 24,.app 1 (.t 21) (.t 23),none,[.f 1]⟩,
 qo 25 (.mv (.t 5)),
 qo 26 (.mv (.t 8)),
 qo 27 (.lit 1 [.t 26]),
 ⟨some 28,.app 1 (.t 25) (.t 27),none,[.f 1]⟩,
 qo 4 (.mv (.t 24)),
 qo 5 (.mv (.t 28))])
 (.ops [qo 29 (.mv (.t 8)),
 qo 6 (.mv (.t 29))])))))))))
theorem zbs:look Tryz.prog 159 = some (30,m_i_framesOf,[.tm 2,.tm 3]):=by kernel_rfl
def m_i_readRelease:M:=.seq (.ops [qo 4 (.mv (.c (.bool false)))])
 (.seq (.seq (.ops [qo 14 (.mv (.t 1)),
 ⟨some 15,.call 228 [.t 14,.c (.string ⟨[112].toArray⟩)],none,[.f 1]⟩,
 qo 13 (.mv (.t 15)),
 qo 16 (.ext (.t 13) 0),
 qo 17 (.ext (.t 13) 1),
 qo 5 (.mv (.t 16)),
 qo 6 (.mv (.t 17))])
 (.seq (.ops [qo 18 (.mv (.t 6))])
 (.cond (.t 18) (.seq (.ops [qo 20 (.mv (.t 5)),
 ⟨some 21,.call 15 [.t 20],none,[.f 1]⟩,
 qo 19 (.mv (.t 21)),
 qo 22 (.ext (.t 19) 0),
 qo 23 (.ext (.t 19) 1),
 qo 7 (.zero [.slice none 0 0,.slice none 0 0]),
 ⟨none,.store 2 (.t 7) (.t 22),none,[]⟩,
 qo 8 (.mv (.t 23))])
 (.seq (.ops [qo 24 (.mv (.t 0)),
 qo 25 (.mv (.t 0)),
 qo 26 (.nilc (.t 25)),
 qo 27 (.load false 1 (.t 26)),
 qo 28 (.load true 2 (.t 7)),
 qo 29 (.mv (.t 8)),
 qo 30 (.build [.slice none 0 0,.slice none 0 0,.bool false] [(0,2,.t 28),(2,1,.t 29)]),
 qo 31 (.litq 3 [.t 30]),
 ⟨some 32,.app 3 (.t 27) (.t 31),none,[.f 0]⟩,
 qo 33 (.nilc (.t 24)),
 ⟨none,.store 1 (.t 33) (.t 32),none,[]⟩])
 (.seq (.seq (.ops [qo 34 (.mv (.t 8)),
 qo 35 (.not (.t 34))])
 (.cond (.t 35) (.ops [qo 36 (.mv (.t 0)),
 qo 37 (.mv (.t 0)),
 qo 38 (.nilc (.t 37)),
 qo 39 (.load false 1 (.t 38)),
 qo 40 (.mv (.t 0)),
 qo 41 (.nilc (.t 40)),
 qo 42 (.load false 1 (.t 41)),
 qo 43 (.len (.t 42)),
 qo 44 (.bin .sub false (.t 43) (ci 1)),
 qo 45 (.slc 3 (.t 39) none (some (.t 44))),
 qo 46 (.nilc (.t 36)),
 ⟨none,.store 1 (.t 46) (.t 45),none,[]⟩])
 (.skip)))
 (.seq (.ops [qo 47 (.mv (.t 8)),
 qo 4 (.mv (.t 47))])
 (.ret)))))
 (.skip))))
 (.seq (.ops [qo 49 (.mv (.t 1)),
 ⟨some 50,.call 228 [.t 49,.c (.string ⟨[114].toArray⟩)],none,[.f 1]⟩,
 qo 48 (.mv (.t 50)),
 qo 51 (.ext (.t 48) 0),
 qo 52 (.ext (.t 48) 1),
 qo 9 (.mv (.t 51)),
 qo 10 (.mv (.t 52))])
 (.seq (.ops [qo 54 (.mv (.t 9)),
 ⟨some 55,.call 229 [.t 54],none,[.f 1]⟩,
 qo 53 (.mv (.t 55)),
 qo 56 (.ext (.t 53) 0),
 qo 57 (.ext (.t 53) 1),
 qo 11 (.mv (.t 56)),
 qo 12 (.mv (.t 57))])
 (.seq (.seq (.ops [qo 58 (.mv (.t 10)),
 qo 59 (.not (.t 58)),
 qo 60 (.mv (.t 59)),
 ⟨some 61,.mv (.t 12),some (60,false),[]⟩,
 ⟨some 62,.not (.t 61),some (60,false),[]⟩,
 qo 63 (.pick (.t 60) (.c (.bool true)) (.t 62)),
 qo 64 (.mv (.t 63)),
 ⟨some 65,.mv (.t 0),some (64,false),[]⟩,
 ⟨some 66,.nilc (.t 65),some (64,false),[]⟩,
 ⟨some 67,.load false 1 (.t 66),some (64,false),[]⟩,
 ⟨some 68,.mv (.t 11),some (64,false),[]⟩,
 ⟨some 69,.call 110 [.t 67,.t 68],some (64,false),[.f 1]⟩,
 ⟨some 70,.not (.t 69),some (64,false),[]⟩,
 qo 71 (.pick (.t 64) (.c (.bool true)) (.t 70))])
 (.cond (.t 71) (.seq (.ops [qo 4 (.mv (.c (.bool false)))])
 (.ret))
 (.skip)))
 (.seq (.ops [qo 72 (.mv (.t 0)),
 qo 73 (.nilc (.t 72)),
 qo 74 (.load false 1 (.t 73)),
 qo 75 (.mv (.t 11)),
 qo 76 (.bin .sub false (.t 75) (ci 1)),
 qo 77 (.ix 3 (.t 74) (.t 76)),
 qo 78 (.fld 2 (.t 77)),
 ⟨none,.store 1 (.t 78) (.c (.bool false)),none,[]⟩])
 (.seq (.ops [qo 4 (.mv (.c (.bool true)))])
 (.ret)))))))
theorem za4:look Tryz.prog 200 = some (79,m_i_readRelease,[.tm 4]):=by kernel_rfl
def m_slices_Index_int_int:M:=.seq (.ops [qo 4 (.mv (ci 0))])
 (.seq (.seq (.ops [qo 6 (.mv (.t 0)),
 qo 7 (.len (.t 6)),
 qo 8 (.mv (ci 0))])
 (.block 0 (.loop (.seq (.ops [qo 9 (.bin .lss false (.t 8) (.t 7))])
 (.seq (.cond (.t 9) (.skip)
 (.exit 0))
 (.seq (.block 1 (.seq (.ops [qo 10 (.mv (.t 8)),
 qo 5 (.mv (.t 10))])
 (.seq (.ops [qo 11 (.mv (.t 1)),
 qo 12 (.mv (.t 0)),
 qo 13 (.mv (.t 5)),
 qo 14 (.ix 1 (.t 12) (.t 13)),
 qo 15 (.load false 1 (.t 14)),
 qo 16 (.bin .eql false (.t 11) (.t 15))])
 (.cond (.t 16) (.seq (.ops [qo 17 (.mv (.t 5)),
 qo 4 (.mv (.t 17))])
 (.ret))
 (.skip)))))
 (.ops [qo 18 (.bin .add false (.t 8) (ci 1)),
 qo 8 (.mv (.t 18))])))))))
 (.seq (.ops [qo 4 (.mv (ci (-1)))])
 (.ret)))
theorem zaF:look Tryz.prog 201 = some (19,m_slices_Index_int_int,[.tm 4]):=by kernel_rfl
def m_strings_CutPrefix:M:=.seq (.ops [⟨some 4,.mv (.c (.string ⟨[].toArray⟩)),none,[]⟩,
 qo 5 (.mv (.c (.bool false)))])
 (.seq (.ops [qo 6 (.mv (.t 0)),
 qo 7 (.mv (.t 1)),
 ⟨some 8,.call 237 [.t 6,.t 7],none,[.f 1]⟩,
 qo 9 (.ext (.t 8) 0),
 qo 10 (.ext (.t 8) 1),
 qo 4 (.mv (.t 9)),
 qo 5 (.mv (.t 10))])
 (.ret))
theorem zaP:look Tryz.prog 228 = some (11,m_strings_CutPrefix,[.tm 4,.tm 5]):=by kernel_rfl
def m_internal_stringslite_CutPrefix:M:=.seq (.ops [⟨some 4,.mv (.c (.string ⟨[].toArray⟩)),none,[]⟩,
 qo 5 (.mv (.c (.bool false)))])
 (.seq (.seq (.ops [qo 6 (.mv (.t 0)),
 qo 7 (.mv (.t 1)),
 ⟨some 8,.call 246 [.t 6,.t 7],none,[.f 1]⟩,
 qo 9 (.not (.t 8))])
 (.cond (.t 9) (.seq (.ops [qo 10 (.mv (.t 0)),
 qo 4 (.mv (.t 10)),
 qo 5 (.mv (.c (.bool false)))])
 (.ret))
 (.skip)))
 (.seq (.ops [qo 11 (.mv (.t 0)),
 qo 12 (.mv (.t 1)),
 qo 13 (.lens (.t 12)),
 qo 14 (.slcs (.t 11) (some (.t 13)) none),
 qo 4 (.mv (.t 14)),
 qo 5 (.mv (.c (.bool true)))])
 (.ret)))
theorem zar:look Tryz.prog 237 = some (15,m_internal_stringslite_CutPrefix,[.tm 4,.tm 5]):=by kernel_rfl
def m_internal_stringslite_HasPrefix:M:=.seq (.ops [qo 4 (.mv (.c (.bool false)))])
 (.seq (.ops [qo 5 (.mv (.t 0)),
 qo 6 (.lens (.t 5)),
 qo 7 (.mv (.t 1)),
 qo 8 (.lens (.t 7)),
 qo 9 (.bin .geq false (.t 6) (.t 8)),
 qo 10 (.mv (.t 9)),
 ⟨some 11,.mv (.t 0),some (10,true),[]⟩,
 ⟨some 12,.mv (.t 1),some (10,true),[]⟩,
 ⟨some 13,.lens (.t 12),some (10,true),[]⟩,
 ⟨some 14,.slcs (.t 11) none (some (.t 13)),some (10,true),[]⟩,
 ⟨some 15,.mv (.t 1),some (10,true),[]⟩,
 ⟨some 16,.bin .eql false (.t 14) (.t 15),some (10,true),[]⟩,
 qo 17 (.pick (.t 10) (.t 16) (.c (.bool false))),
 qo 4 (.mv (.t 17))])
 (.ret))
theorem zas:look Tryz.prog 246 = some (18,m_internal_stringslite_HasPrefix,[.tm 4]):=by kernel_rfl
end
/- Si1 -/
section
variable {T:World -> Prop} {hT:Low ngl T}
attribute [local irreducible] po mw pt
def cutB (b:UInt8) (s:List UInt8):Bool:=decide (s.head? = some b)
def cutA (b:UInt8) (s:List UInt8):List UInt8:=if cutB b s = true then s.drop 1 else s
theorem zd3 (s:List UInt8) (b:UInt8) (hs:s.length <= 2147483647):FnV (env T hT) 246 [.d (pS s),.d (pS [b])] (.d (pB (cutB b s))):=by
 refine zaC (zag zas) (by show 2 <= 18; decide) fun B hB => ?_
 unfold m_internal_stringslite_HasPrefix;refine mP ?_;refine mQ ?_;refine po_q (v:=.d (pI s.length)) rfl rfl ?_;refine mS ?_;refine po_q (v:=.d (pI 1)) rfl rfl ?_
 cases s with
 | nil =>
  refine zam rfl rfl rfl ?_;refine mS ?_
  iterate 6 (refine zah rfl ?_)
  refine mN ?_
  exact zab ⟨.inr rfl,_,rfl,rfl⟩
 | cons c r =>
  refine zak rfl rfl (decide_eq_true (show (((c :: r).length:Nat):Int) ≥ 1 by simp only [List.length_cons]; omega)) ?_;(iterate 3 refine mS ?_);refine po_q (v:=.d (pI 1)) rfl rfl ?_;refine zaU (a:=0) (b:=1) (rs:=[c]) rfl rfl rfl (zax (i:=1) rfl rfl) (by simp only [List.length_cons]; omega) rfl ?_;refine mS ?_;refine zc7 (la:=[c]) (lb:=[b]) rfl rfl rfl ?_
  have:decide ([c] = [b]) = cutB b (c :: r):=by unfold cutB; simp
  rw [this];refine mN ?_;exact zab ⟨.inr rfl,_,rfl,rfl⟩
theorem zd4 (s:List UInt8) (b:UInt8) (hs:s.length <= 2147483647):FnV (env T hT) 237 [.d (pS s),.d (pS [b])] (.tup [.d (pS (cutA b s)),.d (pB (cutB b s))]):=by
 refine zaC (zag zar) (by show 2 <= 15; decide) fun B hB => ?_
 unfold m_internal_stringslite_CutPrefix;refine mP ?_;refine zaa (zaa (zad ?_));(iterate 2 refine mS ?_);refine zaf rfl (zd3 (T:=T) (hT:=hT) s b hs) ?_
 cases hc:cutB b s with
 | false =>
  have e:cutA b s = s:=by unfold cutA; rw [hc]; rfl
  rw [e];refine mN ?_;refine mwT ?_;refine mP ?_
  exact zab ⟨.inr rfl,_,rfl,rfl⟩
 | true =>
  have e:cutA b s = s.drop 1:=by unfold cutA; rw [if_pos hc]
  have hl:1 <= s.length:=by
   cases s with
   | nil => simp [cutB] at hc
   | cons c r => simp only [List.length_cons]; omega
  rw [e];refine mN ?_;refine mwF ?_;refine zae ?_;refine mO ?_;(iterate 2 refine mS ?_);refine po_q (v:=.d (pI 1)) rfl rfl ?_;refine zaU (a:=1) (b:=s.length) (rs:=s.drop 1) rfl rfl (zax (i:=1) rfl rfl) rfl (by omega) (List.take_of_length_le (by rw [List.length_drop]; omega)) ?_;refine mN ?_;exact zab ⟨.inr rfl,_,rfl,rfl⟩
theorem zcE (s:List UInt8) (b:UInt8) (hs:s.length <= 2147483647):FnV (env T hT) 228 [.d (pS s),.d (pS [b])] (.tup [.d (pS (cutA b s)),.d (pB (cutB b s))]):=by
 refine zaC (zag zaP) (by show 2 <= 11; decide) fun B hB => ?_
 unfold m_strings_CutPrefix;refine mP ?_;refine mO ?_;(iterate 2 refine mS ?_);refine zaf rfl (zd4 (T:=T) (hT:=hT) s b hs) ?_;refine mN ?_;exact zab ⟨.inr rfl,_,rfl,rfl⟩
def ixZ:List Nat -> Int -> Nat -> Int
 | [],_,_ => -1
 | n :: r,v,k => if v = n then k else ixZ r v (k + 1)
theorem zcF (v:Int):∀ (ns:List Nat) (k:Nat),0 <= ixZ ns v k ↔ 0 <= v /\ v.toNat ∈ ns
 | [],k => by simp [ixZ]
 | n :: r,k => by
  simp only [ixZ];split
  ·rename_i h; subst h; simp
  ·rename_i h
   rw [zcF v r (k + 1),List.mem_cons]
   constructor
   ·rintro ⟨a,b⟩; exact ⟨a,.inr b⟩
   ·rintro ⟨a,b | b⟩
    ·omega
    ·exact ⟨a,b⟩
def IzI (ns:List Nat) (v:Int) (m:Nat) (st:St):Prop:=∃ i:Nat,i <= ns.length /\ m = ns.length - i /\ has st.tm [(0,.d (.sl 0 (pNr ns))),(1,.d (pI v)),(7,.d (pI ns.length)),(8,.d (pI i))] /\ ixZ ns v 0 = ixZ (ns.drop i) v i
theorem zcG (ns:List Nat) (v:Int) (hl:ns.length <= 2147483647):FnV (env T hT) 201 [.d (.sl 0 (pNr ns)),.d (pI v)] (.d (pI (ixZ ns v 0))):=by
 refine zaC (zag zaF) (by show 2 <= 19; decide) fun B hB => ?_
 unfold m_slices_Index_int_int;refine mP ?_;refine zaq (fun st => ixZ ns v 0 = -1) ?_ ?_
 ·refine mQ ?_
  refine zaB (n:=ns.length) rfl rfl (zaI ns) ?_;refine mN ?_;refine zai ?_;refine zav (IzI ns v) ns.length ⟨0,Nat.zero_le _,rfl,⟨rfl,rfl,rfl,rfl,trivial⟩,rfl⟩ ?_;rintro m tm bx nt live ⟨i,hi,rfl,ht,hx⟩;obtain ⟨tm0,rfl⟩:=zaj ht;clear ht;refine mO ?_;by_cases hil:i < ns.length
  ·refine zak rfl rfl (decide_eq_true (show (i:Int) < ns.length by omega)) ?_
   refine zac ?_;refine zaa ?_;refine mwT ?_;refine zae ?_;refine zaa (zai (zaa (zad ?_)));refine mN ?_;refine mO ?_;(iterate 3 refine mS ?_);refine za3 (es:=pNr ns) (e:=[pI (ns[i]:Int)]) rfl rfl rfl ⟨by omega,by rw [Int.toNat_natCast]; exact zca hil⟩ rfl ?_;refine mS ?_;rw [List.drop_eq_getElem_cons hil] at hx;simp only [ixZ] at hx;by_cases hv:v = (ns[i]:Int)
   ·rw [if_pos hv] at hx
    refine zak rfl rfl (by show (v == (ns[i]:Int)) = true; rw [beq_iff_eq]; exact hv) ?_;refine zac ?_;refine mwT ?_;refine mP ?_;rw [hx];exact zab ⟨.inr rfl,_,rfl,rfl⟩
   ·rw [if_neg hv] at hx
    refine zam rfl rfl (by show (v == (ns[i]:Int)) = false; rw [beq_eq_false_iff_ne]; exact hv) ?_;refine zac ?_;refine mwF ?_;refine zae ?_;refine zad ?_;refine zau (n:=((i + 1:Nat):Int)) rfl rfl rfl (by omega) (by omega) ?_;refine mN ?_;refine ⟨_,?_,i + 1,by omega,rfl,⟨rfl,rfl,rfl,rfl,trivial⟩,hx⟩;show ns.length - (i + 1) < ns.length - i;omega
  ·refine zam rfl rfl (decide_eq_false (show ¬ (i:Int) < ns.length by omega)) ?_
   refine zac ?_;refine zaa ?_;refine mwF ?_;refine zaH ?_
   have:i = ns.length:=by omega
   subst this;rw [List.drop_length] at hx;exact hx
 rintro tm bx nt live hx;refine mP ?_;rw [hx];exact zab ⟨.inr rfl,_,rfl,rfl⟩
theorem zcH (ns:List Nat) (v:Int):PV.dats [.d (.sl 0 (pNr ns)),.d (pI v)] = some [.d (.sl 0 (pNr ns)),.d (pI v)] :=
 congrArg (fun r => some [PV.d (.sl 0 r),.d (pI v)]) (zc3 ns)
theorem zbJ (ns:List Nat) (v:Int) (hl:ns.length <= 2147483647):FnV (env T hT) 153 [.d (.sl 0 (pNr ns)),.d (pI v)] (.d (pB (decide (0 <= v /\ v.toNat ∈ ns)))):=by
 refine zaC (zag zay) (by show 2 <= 9; decide) fun B hB => ?_
 unfold m_slices_Contains_int_int;refine mP ?_;refine mO ?_;(iterate 2 refine mS ?_);refine zaf (zcH ns v) (zcG ns v hl) ?_;refine po_b rfl rfl (fun b1 hb1 => ?_);refine mN ?_
 have:decide (0 <= v /\ v.toNat ∈ ns) = b1:=by rw [hb1]; exact decide_eq_decide.2 (zcF v ns 0).symm
 rw [this];exact zab ⟨.inr rfl,_,rfl,rfl⟩
theorem zcf (s:List UInt8) (i:Nat) (hi:i <= 2147483647) (hs:s.length <= 2147483647):FnV (env T hT) 203 [.d (pS s),.d (pI i)] (.tup [.d (pS (fC (getFr s i))),.d (pI (fX (getFr s i)))]):=by
 refine FnV.oldT rfl rfl fun w C vs hF _ _ hlen hv => ?_
 match vs,hlen with
 | [x,y],_ =>
  have h1:=zbM (hv 0 _ _ rfl rfl); have h2:=zbK (hv 1 _ _ rfl rfl)
  subst h1; subst h2
  exact zcO s i w (by unfold i64ok; omega) (by omega)
theorem zcV (ns:List Nat) (n:Nat):pNr (ns ++ [n]) = pNr ns ++ [[pI n]]:=by unfold pNr; rw [List.map_append]; rfl
def FrJ (l:List UInt8) (m:Nat) (st:St):Prop:=∃ (a t t2:Nat) (pre:List (List UInt8 × Nat)),frG l 0 = pre ++ frG l a /\ a <= l.length /\ pre.length <= a /\ m = l.length - a /\ has st.tm [(0,.d (pS l)),(4,.d (.sl t (pSr (pre.map (·.1))))),(5,.d (.sl t2 (pNr (pre.map (·.2))))),(6,.d (pI a))] /\ st.bx = [] /\ t ∈ st.live /\ t2 ∈ st.live /\ t ≠ t2 /\ t < st.nt /\ t2 < st.nt
theorem zbN (l:List UInt8) (hl:l.length <= 2147483647):FnV (env T hT) 159 [.d (pS l)] (.tup [.d (.sl 0 (pSr (fcs l))),.d (.sl 0 (pNr (fes l)))]):=by
 refine zaC (zag zbs) (by show 1 <= 30; decide) fun B hB => ?_
 unfold m_i_framesOf;refine mP ?_;refine mO ?_;refine zat (es:=[]) rfl ?_;refine zat (es:=[]) rfl ?_;refine mN ?_;refine mP ?_;refine zai ?_;refine zav (FrJ l) l.length ⟨0,2,3,[],rfl,Nat.zero_le _,Nat.le_refl _,rfl,⟨rfl,rfl,rfl,rfl,trivial⟩,rfl,List.mem_cons_of_mem _ (List.mem_cons_self ..),List.mem_cons_self ..,by decide,by show 2 < 4; decide,by show 3 < 4; decide⟩ ?_;rintro m tm bx nt live ⟨a,t,t2,pre,hp,hal,hpl,rfl,ht,hbx,hlv,hlv2,hne,hlt,hlt2⟩;obtain ⟨tm0,rfl⟩:=zaj ht;simp only at hbx hlv hlv2 hlt hlt2; subst hbx
 clear ht;have hg:=zcf (T:=T) (hT:=hT) l a (by omega) hl;refine zai (zaa (zad ?_));(iterate 2 refine mS ?_)
 cases hr:getFr l a with
 | none =>
  rw [hr] at hg;refine zaf rfl hg ?_;refine mN ?_;refine zaa (zaa (zad ?_));refine mS ?_;refine zak rfl rfl rfl ?_;refine mN ?_;refine mwT ?_;refine mP ?_;refine zab ⟨.inr rfl,[.d (.sl t (pSr (pre.map (·.1)))),.d (.sl t2 (pNr (pre.map (·.2))))],rfl,?_⟩;have e1:fcs l = pre.map (·.1):=by unfold fcs; rw [hp,zaz hr,List.append_nil]
  have e2:fes l = pre.map (·.2):=by unfold fes; rw [hp,zaz hr,List.append_nil]
  rw [e1,e2];have q1:=zdG (pre.map (·.1));have q2:=zc3 (pre.map (·.2));show some (PV.tup [.d (.sl 0 (erLL (pSr (pre.map (·.1))))),.d (.sl 0 (erLL (pNr (pre.map (·.2)))))]) = _
  rw [q1,q2]
 | some r =>
  obtain ⟨c,e⟩:=r;rw [hr] at hg;obtain ⟨f1,f2,f3,f4,f5⟩:=zao hr;refine zaf rfl hg ?_;refine mN ?_;refine zaa (zaa (zad ?_));refine mS ?_;refine zam rfl rfl (decide_eq_false (show ¬ ((e:Nat):Int) < 0 by omega)) ?_;refine mN ?_;refine mwF ?_;refine zae ?_;refine mO ?_;(iterate 2 refine mS ?_);refine zat (es:=[[pS c]]) rfl ?_;refine zbP (t:=t) (t':=nt) (es:=pSr (pre.map (·.1))) (ds:=[[pS c]]) rfl rfl (.inr (List.mem_cons_of_mem _ hlv)) (by simp only [List.length_singleton,za0,List.length_map]; omega) (fun e he => by simp only [List.mem_singleton] at he; subst he; rfl) (zcX _) ?_;(iterate 2 refine mS ?_);refine zat (es:=[[pI e]]) rfl ?_;refine zbP (t:=t2) (t':=nt + 2) (es:=pNr (pre.map (·.2))) (ds:=[[pI e]]) rfl rfl (.inr (List.mem_cons_of_mem _ (List.mem_cons_of_mem _ (List.mem_filter.2 ⟨List.mem_cons_of_mem _ hlv2,by simpa using hne.symm⟩)))) (by simp only [List.length_singleton,zaI,List.length_map]; omega) (fun e he => by simp only [List.mem_singleton] at he; subst he; rfl) (zce _) ?_
  refine mN ?_;refine zad ?_;refine mN ?_;refine ⟨_,?_,e,nt + 1,nt + 3,pre ++ [(c,e)],?_,f5,by rw [List.length_append]; simp only [List.length_singleton]; omega,rfl,⟨rfl,?_,?_,rfl,trivial⟩,rfl,?_,List.mem_cons_self ..,by omega,by show nt + 1 < nt + 4; omega,by show nt + 3 < nt + 4; omega⟩
  ·show l.length - e < l.length - a
   omega
  ·rw [hp,zaM hr,List.append_assoc]; rfl
  ·rw [List.map_append,show List.map (·.1) [(c,e)] = [c] from rfl,zb7]; rfl
  ·rw [List.map_append,show List.map (·.2) [(c,e)] = [e] from rfl,zcV]; rfl
  ·refine List.mem_cons_of_mem _ (List.mem_filter.2 ⟨List.mem_cons_of_mem _ (List.mem_cons_self ..),?_⟩)
   have:nt + 1 ≠ t2:=by omega
   simpa using this
theorem zci (l:List UInt8):fend l = (fes l).getD ((fes l).length - 1) 0:=by
 unfold fend fes;rw [zb6,List.length_map]
end
/- Si2 -/
section
variable {T:World -> Prop} {hT:Low ngl T}
theorem zeu {E:Env} {d:Nat} {k:Nat} {r:List MOpr} {K:St -> Prop} {tm:Nat -> PV} {bx:List (List PC)} {nt:Nat} {live:List Nat} {f:Nat} {xs:List X} {args:List PV} {g:Option (Nat × Bool)} {R:PV -> List (List PC) -> Nat -> List Nat -> Prop} (hg:gd g tm = some true) (hd:xs.map (ev tm) = args) (hF:FnG E f args bx nt live R)
  (h:∀ x bx' nt' live',R x bx' nt' live' -> po E r K ⟨up d x tm,bx',nt',live'⟩):po E (⟨some d,.call f xs,g,[.f k]⟩ :: r) K ⟨tm,bx,nt,live⟩:=by
 subst hd;refine ⟨true,hg,.inl ⟨rfl,.inr ⟨rfl,R,hF,fun x bx' nt' live' hR => ⟨fun y hy => by rw [List.mem_singleton] at hy; subst hy; exact zdE _ _ _ _,?_⟩⟩⟩⟩;rw [zcR]; exact h x bx' nt' live' hR
attribute [local irreducible] po mw pt
theorem zd5 {E:Env} {d:Nat} {r:List MOpr} {K:St -> Prop} {tm:Nat -> PV} {bx:List (List PC)} {nt:Nat} {live:List Nat} {n p len cap h:Nat} {x:X} {hi:Option X} {g:Option (Nat × Bool)} {c:List X} (hg:gd g tm = some true) (hx:ev tm x = .d (.row p len cap)) (hhi:bound (ev tm) len hi = some h) (hle:h <= len)
  (hk:po E r K ⟨up d (.d (.row p h cap)) tm,bx,nt,live⟩):po E (⟨some d,.slc n x none hi,g,c⟩ :: r) K ⟨tm,bx,nt,live⟩:=by
 refine po_q hg ?_ hk;simp only [qf,hx];rw [hhi];exact if_pos hle
def rcE (d:Dc × Bool):List PC:=dC d.1.1 d.1.2 ++ [pB d.2]
def rcC (S:Rl):List PC:=(S.map rcE).flatten
theorem zaG (d:Dc × Bool) (S:Rl):rcC (d :: S) = rcE d ++ rcC S:=rfl
theorem zdi (d:Dc × Bool) (S:Rl):rcC (S ++ [d]) = rcC S ++ rcE d:=by unfold rcC; simp
theorem zaK (d:Dc × Bool):(rcE d).length = 3:=rfl
theorem zcI:∀ S:Rl,(rcC S).length = 3 * S.length
 | [] => rfl
 | d :: S => by rw [zaG,List.length_append,zaK,zcI S,List.length_cons]; omega
theorem zbO:∀ (S:Rl) (k:Nat) (h:k < S.length),(rcC S)[3 * k + 2]? = some (pB S[k].2) /\ ((rcC S).drop (3 * k)).take 2 = dC S[k].1.1 S[k].1.2
 | d :: S,0,_ => by rw [zaG]; exact ⟨rfl,rfl⟩
 | d :: S,k + 1,h => by
  obtain ⟨h1,h2⟩:=zbO S k (by simpa using h);rw [zaG];refine ⟨?_,?_⟩
  ·rw [List.getElem?_append_right (by rw [zaK]; omega),zaK,show 3 * (k + 1) + 2 - 3 = 3 * k + 2 by omega]; exact h1
  ·rw [List.drop_append,zaK,List.drop_of_length_le (by rw [zaK]; omega),List.nil_append,show 3 * (k + 1) - 3 = 3 * k by omega]; exact h2
theorem zcJ:∀ (S:Rl) (k:Nat) (h:k < S.length),rcC (S.set k (S[k].1,false)) = (rcC S).set (3 * k + 2) (pB false)
 | d :: S,0,_ => by
  rw [List.set_cons_zero,zaG,zaG,List.set_append_left _ _ (by rw [zaK]; omega)]; rfl
 | d :: S,k + 1,h => by
  have:=zcJ S k (by simpa using h)
  rw [List.set_cons_succ,zaG,zaG,List.set_append_right _ _ (by rw [zaK]; omega),zaK,show 3 * (k + 1) + 2 - 3 = 3 * k + 2 by omega,<- this]; rfl
theorem zbk (a b:List PC):erL (a ++ b) = erL a ++ erL b:=by simp only [zaO,List.map_append]
theorem zgV {c:PC} {b:Bool} (h:c.er = pB b):c = pB b:=by
 cases c with
 | v x => exact h
 | _ => simp [PC.er,pB] at h
theorem zcj {cs:List PC} {j:Nat} {b:Bool} (h:(erL cs)[j]? = some (pB b)):cs[j]? = some (pB b):=by
 rw [zaO,List.getElem?_map] at h
 cases hc:cs[j]? with
 | none => rw [hc] at h; cases h
 | some c => rw [hc] at h; simp only [Option.map_some,Option.some.injEq] at h; rw [zgV h]
theorem zbl:∀ (cs:List PC) (j:Nat) (b b':Bool),cs[j]? = some (pB b) -> toksL (cs.set j (pB b')) = toksL cs /\ ownedL (cs.set j (pB b')) = ownedL cs
 | c :: cs,0,b,b',h => by
  simp only [List.getElem?_cons_zero,Option.some.injEq] at h; subst h
  exact ⟨rfl,rfl⟩
 | c :: cs,j + 1,b,b',h => by
  obtain ⟨h1,h2⟩:=zbl cs j b b' (by simpa using h);rw [List.set_cons_succ,toksL,h1,ownedL,h2]; exact ⟨rfl,rfl⟩
theorem OwnL.addNew {n1 n2:Nat} {l1 l2:List Nat} {a cs:List PC} (h:OwnL n1 l1 a) (hN:NewL n1 n2 cs) (hn:n1 <= n2) (hm:∀ t ∈ toksL cs,t ∈ l2) (hl:∀ t ∈ l1,2 <= t -> t < n1 -> t ∈ l2):OwnL n2 l2 (a ++ cs):=by
 have h':=h.mono2 hn hl;refine ⟨by rw [zaL,h.own,hN.own]; rfl,?_,fun t ht => ?_⟩
 ·rw [zan]
  refine List.nodup_append.2 ⟨h.nd,hN.nd,fun x hx y hy e => ?_⟩;subst e
  have:=(h.mem x hx).2; have:=(hN.mem x hy).1; omega
 ·rw [zan] at ht
  rcases List.mem_append.1 ht with ht | ht
  ·exact h'.mem t ht
  ·exact ⟨hm t ht,(hN.mem t ht).2⟩
def HsQ (nt0 lo:Nat) (S:Rl) (c:PC) (b:List (List PC)) (n:Nat) (l:List Nat):Prop :=
 ∃ cells,RwAt 3 lo l c b cells /\ erL cells = rcC S /\ OwnL n l cells /\ (∀ t ∈ toksL cells,nt0 <= t) /\ ∀ t es,c = .sl t es -> 2 <= t /\ t < n
theorem zcg {cs:List PC} {S:Rl} (h:erL cs = rcC S):cs.length = 3 * S.length:=by
 have:=congrArg List.length h
 rw [zaO,List.length_map,zcI] at this; exact this
theorem zcW {lo:Nat} {lv:List Nat} {c:PC} {bx:List (List PC)} {cells:List PC} {S:Rl} (hR:RwAt 3 lo lv c bx cells) (he:erL cells = rcC S) (hS:S.length <= 2147483647) (v:Int) (nt:Nat) (live:List Nat) :
  FnG (env T hT) 110 [.d c,.d (pI v)] bx nt live (fun x b n l => x = .d (pB (rlv S v)) /\ b = bx /\ n = nt /\ l = live):=by
 have hcl:=zcg he;refine za1 (zag zbY) (by show 2 <= 17; decide) fun B hB => ?_
 unfold m_i_isLive;refine mP ?_;refine mO ?_;(iterate 2 refine mS ?_);refine zb0 (k:=S.length) hR hcl (by decide) rfl rfl ?_;refine zaf rfl (zct (T:=T) (hT:=hT) v 1 S.length) ?_;by_cases hin:1 <= v /\ v <= (S.length:Int)
 case neg =>
  have e1:rlv S v = false:=by unfold rlv; rw [decide_eq_false hin]; rfl
  rw [decide_eq_false hin];refine mS ?_
  iterate 6 (refine zah rfl ?_)
  refine mN ?_;exact zab ⟨.inr rfl,[.d (pB false)],rfl,by rw [e1]; rfl,rfl,rfl,rfl⟩
 obtain ⟨k,hk⟩:∃ k:Nat,v - 1 = k:=⟨(v - 1).toNat,by omega⟩;have hkS:k < S.length:=by omega
 have e1:rlv S v = S[k].2:=by
  unfold rlv;rw [decide_eq_true hin,hk,Int.toNat_natCast,za2 hkS]; rfl
 rw [decide_eq_true hin];(iterate 3 refine mS ?_);refine zaJ (n:=(k:Int)) rfl rfl rfl hk (by omega) ?_;refine zbU (i:=k) hR (by decide) rfl (by omega) rfl rfl rfl ?_;intro p len cap z e3 h3 h4 h5 h6 h7 h8 h9;refine mS ?_;have hi2:3 * k + 2 < cells.length:=by omega
 have hone:=zcU h7 (i:=3 * k + 2) hi2;have hg:=zcj (cs:=cells) (j:=3 * k + 2) (b:=S[k].2) (by rw [he]; exact (zbO S k hkS).1);rw [List.getElem?_eq_getElem hi2,Option.some.injEq] at hg;refine za7 (cs:=z) (v:=.d (pB S[k].2)) rfl rfl h4 (by omega) (by rw [hone,hg]; rfl) ?_;refine mN ?_;exact zab ⟨.inr rfl,[.d (pB S[k].2)],rfl,by rw [e1]; rfl,rfl,rfl,rfl⟩
theorem zbZ (hTen:∀ w,T w -> TenTab w) (hErr:∀ w,T w -> ErrTab w) (s:List UInt8) (hs:s.length <= 2147483647):FnV (env T hT) 229 [.d (pS s)] (.tup [.d (pI (rdN s)),.d (pB (rdB s))]):=by
 refine FnV.oldT rfl rfl fun w C vs hF _ ht hlen hv => ?_
 match vs,hlen with
 | [x],_ =>
  have h1:=zbM (hv 0 _ _ rfl rfl);subst h1;exact zbH s w (by omega) (hTen w ht) (hErr w ht)
def RlR (nt0:Nat) (S:Rl) (s:List UInt8) (nt:Nat) (live:List Nat) (x:PV) (b:List (List PC)) (n:Nat) (l:List Nat):Prop :=
 ∃ c' rest' ok,x = .d (pB ok) /\ b = [c'] :: rest' /\ nt <= n /\ (∀ t ∈ live,2 <= t -> t < nt -> t ∈ l) /\ ((ok = true /\ ∃ S',stp S s = some S' /\ HsQ nt0 1 S' c' b n l) \/ (ok = false /\ stp S s = none /\ ∃ S',HsQ nt0 1 S' c' b n l))
theorem zb9 {b:UInt8} {s:List UInt8} (h:cutB b s = true):∃ tl,s = b :: tl /\ cutA b s = tl:=by
 cases s with
 | nil => simp [cutB] at h
 | cons c r =>
  have hc:c = b:=by simpa [cutB] using h
  subst hc;exact ⟨r,rfl,by unfold cutA; rw [if_pos h]; rfl⟩
set_option maxHeartbeats 2000000 in
theorem zcK (hTab:∀ w,T w -> Tabs w) (hTen:∀ w,T w -> TenTab w) (hErr:∀ w,T w -> ErrTab w) {nt0 nt:Nat} {live:List Nat} {c:PC} {rest:List (List PC)} {S:Rl} {s:List UInt8} (hs:s.length <= 100000) (hS:S.length <= 2147483) (hnt:2 <= nt) (h0:nt0 <= nt) (hQ:HsQ nt0 1 S c ([c] :: rest) nt live) :
  FnG (env T hT) 200 [.ref 0 0,.d (pS s)] ([c] :: rest) nt live (RlR nt0 S s nt live):=by
 obtain ⟨cells,hR,he,hown,hge,hc⟩:=id hQ;have hcl:=zcg he;refine za1 (zag za4) (by show 2 <= 79; decide) fun B hB => ?_
 unfold m_i_readRelease;refine mP ?_;refine zaa (zaa (zad ?_));refine mS ?_;refine zaf rfl (zcE (T:=T) (hT:=hT) s 112 (by omega)) ?_;refine mN ?_;refine mP ?_
 cases hp:cutB 112 s with
 | true =>
  obtain ⟨tl,rfl,hA⟩:=zb9 hp;rw [hA];have htl:tl.length <= 100000:=by simp only [List.length_cons] at hs; omega
  refine mwT ?_;refine mQ ?_;refine po_g rfl (FnG.lift0 (zdO (T:=T) (hT:=hT) hTab (s:=tl) (by omega) nt live hnt) (args:=[.d (pS tl)]) ⟨trivial,trivial⟩) ?_;rintro x b0 n2 l2 ⟨rfl,hD⟩;obtain ⟨c1,c2,d,rfl,hN,hm2,hl2,hn2,hed,hgd⟩:=hD.gd;(iterate 3 refine mS ?_);refine zco (cs:=[c1,c2]) rfl rfl rfl rfl ?_;refine mN ?_;have hR1:RwAt 3 1 l2 c (([c] :: rest) ++ [[c1,c2]]) cells:=(hR.mono2 hc hl2).cong (by simp) fun q _ hq => List.getElem?_append_left hq
  refine mO ?_;(iterate 4 refine mS ?_);refine za7 (cs:=[c1,c2]) rfl rfl (zbf _ _) (Nat.le_refl 2) rfl ?_;refine mS ?_;obtain ⟨ok,hok⟩:∃ ok,ok = (gdD tl).isSome:=⟨_,rfl⟩;rw [<- hok];refine po_q (v:=.ag [c1,c2,pB ok]) rfl rfl ?_;refine po_q (v:=.d (.sl 0 [[c1,c2,pB ok]])) rfl rfl ?_;refine zdp (m:=S.length) (ds:=[[c1,c2,pB ok]]) hR1 (by simp) hcl (by decide) (by simp only [List.length_singleton]; omega) (fun e he => by simp only [List.mem_singleton] at he; subst he; rfl) rfl rfl ?_;intro c' bx' hR2 hlo;obtain ⟨rest1,rfl⟩:=zfg (b0:=[c]) (rest:=rest ++ [[c1,c2]]) hlo;have e3:cells ++ [[c1,c2,pB ok]].flatten = cells ++ [c1,c2] ++ [pB ok]:=by simp
  rw [e3] at hR2;refine mS ?_;refine zap (p:=0) (o':=0) (cs:=[c']) (z:=[c]) rfl rfl rfl ⟨rfl,Nat.le_of_ble_eq_true rfl⟩ rfl ?_;refine zac ?_
  have hR3:RwAt 3 1 l2 c' ([c'] :: rest1) (cells ++ [c1,c2] ++ [pB ok]):=hR2.cong (Nat.le_refl _) fun q h1 _ => by
   match q,h1 with
   | q + 1,_ => rfl
  obtain ⟨p,len,cap,z,rfl,r2,r3,r4,r5,r6,r7⟩:=hR3.row (by simp)
  have hlen:len = S.length + 1:=by
   simp only [List.length_append,List.length_cons,List.length_nil] at r7; omega
  subst hlen;refine zaa (zaa (zad ?_))
  cases hg:gdD tl with
  | some d' =>
   rw [hg] at hgd hok;have hgd:d' = d:=hgd;subst hgd;have hok:ok = true:=hok;subst hok;refine mN ?_;refine mwF ?_;refine zae ?_;refine mP ?_;refine zab ⟨.inr rfl,[.d (pB true)],rfl,_,rest1,true,rfl,rfl,hn2,hl2,.inl ⟨rfl,S ++ [(d',true)],by unfold stp; simp only [if_true,hg,Option.map_some],cells ++ [c1,c2] ++ [pB true],hR3,?_,?_,?_,fun t es h => by cases h⟩⟩
   ·rw [zdi,<- he,List.append_assoc,zbk,zbk,hed]; rfl
   ·have:=hown.addNew hN hn2 hm2 hl2
    exact ⟨by rw [zaL,this.own]; rfl,by rw [zan]; simpa [toksL,PC.toks,pB] using this.nd,fun t ht => this.mem t (by rw [zan] at ht; simpa [toksL,PC.toks,pB] using ht)⟩
   ·intro t ht
    rw [zan,zan] at ht
    rcases List.mem_append.1 ht with ht | ht
    ·rcases List.mem_append.1 ht with ht | ht
     ·exact hge t ht
     ·have:=(hN.mem t ht).1; omega
    ·simp [toksL,PC.toks,pB] at ht
  | none =>
   rw [hg] at hok;have hok:ok = false:=hok;subst hok;refine mN ?_;refine mwT ?_;refine zad ?_;(iterate 4 refine mS ?_);(iterate 3 refine mS ?_);refine zb0 (k:=S.length + 1) hR3 r7 (by decide) rfl rfl ?_;refine zaJ (n:=((S.length:Nat):Int)) rfl rfl rfl (by omega) (by omega) ?_;refine zd5 (h:=S.length) rfl rfl (zax rfl rfl) (by omega) ?_;refine mS ?_;refine zap (p:=0) (o':=0) (cs:=[.row p S.length cap]) (z:=[.row p (S.length + 1) cap]) rfl rfl rfl ⟨rfl,Nat.le_of_ble_eq_true rfl⟩ rfl ?_;refine mN ?_;refine mP ?_;refine zab ⟨.inr rfl,[.d (pB false)],rfl,.row p S.length cap,rest1,false,rfl,rfl,hn2,hl2,.inr ⟨rfl,by unfold stp; simp only [if_true,hg,Option.map_none],S,cells,⟨Nat.le_add_left _ _,.inr ⟨p,S.length,cap,z,rfl,r2,?_,r4,by omega,?_⟩⟩,he,hown.mono2 hn2 hl2,hge,fun t es h => by cases h⟩⟩
   ·match p,r2 with
    | p + 1,_ => exact r3
   ·have:z.take (3 * S.length) = (z.take (3 * (S.length + 1))).take (3 * S.length):=by rw [List.take_take,Nat.min_eq_left (by omega)]
    rw [this,<- r6,List.append_assoc,List.take_left' hcl]
 | false =>
  refine mwF ?_;refine zae ?_;refine mQ ?_;refine zaf rfl (zcE (T:=T) (hT:=hT) s 114 (by omega)) ?_;refine mN ?_;have hal:(cutA 114 s).length <= s.length:=by unfold cutA; split; rw [List.length_drop]; omega; exact Nat.le_refl _
  refine mQ ?_;refine zaf rfl (zbZ (T:=T) (hT:=hT) hTen hErr (cutA 114 s) (by omega)) ?_;refine mN ?_;have hno:stp S s = none -> HsQ nt0 1 S c ([c] :: rest) nt live -> RlR nt0 S s nt live (.d (pB false)) ([c] :: rest) nt live:=fun h1 h2 => ⟨c,rest,false,rfl,rfl,Nat.le_refl _,fun t ht _ _ => ht,.inr ⟨rfl,h1,S,h2⟩⟩
  refine zaa (zaa (zad ?_))
  cases h114:cutB 114 s with
  | false =>
   have hst:stp S s = none:=by
    unfold stp
    cases s with
    | nil => rfl
    | cons b r =>
     have n1:¬ b = 112:=by simpa [cutB] using hp
     have n2:¬ b = 114:=by simpa [cutB] using h114
     simp only; rw [if_neg n1,if_neg n2]
   (iterate 3 refine mS ?_)
   iterate 2 (refine zah rfl ?_)
   (iterate 2 refine mS ?_)
   iterate 6 (refine zah rfl ?_)
   refine mN ?_;refine mwT ?_;refine mP ?_
   exact zab ⟨.inr rfl,[.d (pB false)],rfl,hno hst hQ⟩
  | true =>
   obtain ⟨tl,rfl,hA⟩:=zb9 h114;rw [hA]
   have hstp:stp S (114 :: tl) = if (rdB tl && rlv S (rdN tl)) = true then some (S.set (rdN tl - 1).toNat ((S.getD (rdN tl - 1).toNat (([],[]),false)).1,false)) else none:=by
    unfold stp; simp only; rw [if_neg (by decide),if_pos trivial]
   (iterate 4 refine mS ?_)
   cases hrb:rdB tl with
   | false =>
    have hst:stp S (114 :: tl) = none:=by rw [hstp,hrb]; rfl
    (iterate 3 refine mS ?_)
    iterate 6 (refine zah rfl ?_)
    refine mN ?_;refine mwT ?_;refine mP ?_
    exact zab ⟨.inr rfl,[.d (pB false)],rfl,hno hst hQ⟩
   | true =>
    (iterate 7 refine mS ?_);refine zeu rfl rfl (zcW (T:=T) (hT:=hT) hR he (by omega) (rdN tl) nt live) ?_;rintro x b n l ⟨rfl,rfl,hn,hl⟩;have hn:=hn.symm; have hl:=hl.symm; subst hn; subst hl
    cases hlv:rlv S (rdN tl) with
    | false =>
     have hst:stp S (114 :: tl) = none:=by rw [hstp,hrb,hlv]; rfl
     refine mN ?_;refine mwT ?_;refine mP ?_
     exact zab ⟨.inr rfl,[.d (pB false)],rfl,hno hst hQ⟩
    | true =>
     have hin:1 <= rdN tl /\ rdN tl <= (S.length:Int):=by
      unfold rlv at hlv;simp only [Bool.and_eq_true,decide_eq_true_eq] at hlv; exact hlv.1
     obtain ⟨k,hk⟩:∃ k:Nat,rdN tl - 1 = k:=⟨(rdN tl - 1).toNat,by omega⟩;have hkS:k < S.length:=by omega
     have hst:stp S (114 :: tl) = some (S.set k (S[k].1,false)):=by
      rw [hstp,hrb,hlv,hk,Int.toNat_natCast,za2 hkS]; rfl
     refine mN ?_;refine mwF ?_;refine zae ?_;refine mO ?_;(iterate 4 refine mS ?_);refine zaJ (n:=(k:Int)) rfl rfl rfl hk (by omega) ?_;refine zbU (i:=k) hR (by decide) rfl (by omega) rfl rfl rfl ?_;intro p len cap z e3 h3 h4 h5 h6 h7 h8 h9;refine mS ?_;refine zap (p:=p) (o':=3 * k + 2) (cs:=[pB false]) (z:=z) rfl rfl h4 ⟨rfl,by omega⟩ rfl ?_;refine zac ?_;refine mP ?_;have hi2:3 * k + 2 < cells.length:=by omega
     have hg:=zcj (cs:=cells) (j:=3 * k + 2) (b:=S[k].2) (by rw [he]; exact (zbO S k hkS).1);obtain ⟨s1,s2⟩:=zbl cells (3 * k + 2) _ false hg;have hset:=RwAt.set (live:=live) (o:=3 * k + 2) (v:=pB false) hR.1 h3 h4 h5 h6 (by omega);rw [<- h7,<- e3] at hset
     match p,h3 with
     | p + 1,_ =>
      refine zab ⟨.inr rfl,[.d (pB true)],rfl,c,rest.set p (spl z (3 * k + 2) [pB false]),true,rfl,rfl,Nat.le_refl _,fun t ht _ _ => ht,.inl ⟨rfl,_,hst,cells.set (3 * k + 2) (pB false),hset,?_,⟨by rw [s2]; exact hown.own,by rw [s1]; exact hown.nd,fun t ht => hown.mem t (by rw [s1] at ht; exact ht)⟩,fun t ht => hge t (by rw [s1] at ht; exact ht),hc⟩⟩;rw [zcJ S k hkS,<- he,zaO,zaO,List.map_set]; rfl
end
/- Si3 -/
section
variable {T:World -> Prop} {hT:Low ngl T}
attribute [local irreducible] po mw pt
theorem zd6 {E:Env} {d n:Nat} {x:X} {lo hi:Option X} {c:List X} {r:List MOpr} {K:St -> Prop} {tm:Nat -> PV} {bx:List (List PC)} {nt:Nat} {live:List Nat} {t l h:Nat} {es rs:List (List PC)} (hx:ev tm x = .d (.sl t es)) (hl:bound (ev tm) 0 lo = some l) (hh:bound (ev tm) es.length hi = some h) (hle:l <= h /\ h <= es.length) (hw:∀ e ∈ es,e.length = n) (hr:(es.drop l).take (h - l) = rs)
  (k:po E r K ⟨up d (.d (.sl 0 rs)) tm,bx,nt,live⟩):po E (⟨some d,.slc n x lo hi,none,c⟩ :: r) K ⟨tm,bx,nt,live⟩:=by
 refine po_q rfl ?_ k;subst hr;simp only [qf,hx,hl,hh];rw [if_pos ⟨hle.1,hle.2,hw⟩]
theorem RwAt.lo {n lo lo':Nat} {live:List Nat} {c:PC} {bx:List (List PC)} {cells:List PC} (h:RwAt n lo live c bx cells) (hl:lo' <= lo):RwAt n lo' live c bx cells :=
 ⟨Nat.le_trans hl h.1,h.2.imp id fun ⟨p,len,cap,z,a1,a2,a3⟩ => ⟨p,len,cap,z,a1,Nat.le_trans hl a2,a3⟩⟩
def HsL (nt0 lo:Nat) (S:Rl) (c:PC) (b:List (List PC)) (n:Nat) (l:List Nat):Prop :=
 ∃ cells,RwAt 3 lo l c b cells /\ erL cells = rcC S /\ OwnL n l cells /\ (∀ t ∈ toksL cells,nt0 <= t) /\ ∀ t es,c = .sl t es -> t = 1 \/ 2 <= t /\ t < n
theorem HsQ.l {nt0 lo n:Nat} {S:Rl} {c:PC} {b:List (List PC)} {l:List Nat} (h:HsQ nt0 lo S c b n l):HsL nt0 0 S c b n l:=by
 obtain ⟨cells,h1,h2,h3,h4,h5⟩:=h;exact ⟨cells,h1.lo (Nat.zero_le _),h2,h3,h4,fun t es e => .inr (h5 t es e)⟩
theorem HsL.sh {nt0 n:Nat} {S:Rl} {c:PC} {b bx:List (List PC)} {l:List Nat} (h:HsL nt0 0 S c b n l):HsL nt0 bx.length S (c.shB bx.length) (bx ++ b.map (·.map (PC.shB bx.length))) n l:=by
 obtain ⟨cells,h1,h2,h3,h4,h5⟩:=h;have h6:=h1.shB (bx:=bx) (zaZ (n:=0) h3.own) rfl;rw [Nat.zero_add] at h6;refine ⟨cells,h6,h2,h3,h4,fun t es e => ?_⟩
 rcases h1.2 with ⟨t',e',_⟩ | ⟨p,len,cap,z,e',_⟩
 ·subst e'
  rw [zbe (c:=.sl t' []) (by show lwLL 0 []; trivial)] at e;simp only [PC.sl.injEq] at e;obtain ⟨rfl,rfl⟩:=e;exact h5 _ _ rfl
 ·subst e'
  rw [zff] at e; cases e
theorem HsL.none {nt0 n:Nat} {l:List Nat} {b:List (List PC)}:HsL nt0 0 [] (.sl 1 []) b n l :=
 ⟨[],⟨Nat.zero_le _,.inl ⟨1,rfl,.inl rfl,rfl⟩⟩,rfl,⟨rfl,List.nodup_nil,fun t ht => by cases ht⟩,(fun t ht => by cases ht),fun t es e => by simp only [PC.sl.injEq] at e; exact .inl e.1.symm⟩
def HyR (log:List UInt8) (nt:Nat) (live:List Nat) (x:PV) (b:List (List PC)) (n:Nat) (l:List Nat):Prop :=
 ∃ c e S0,x = .tup [.d c,.d e,.d (pB (logR log).isSome)] /\ e.lw 0 /\ HsL nt 0 S0 c b n l /\ nt <= n /\ (∀ t ∈ live,2 <= t -> t < nt -> t ∈ l) /\ ∀ S,logR log = some S -> S0 = S /\ e = .sl 0 (pNr (fes log))
def HyJ (log:List UInt8) (nt:Nat) (live:List Nat) (m:Nat) (st:St):Prop:=∃ (i:Nat) (c:PC) (rest:List (List PC)) (S:Rl),i <= (fcs log).length /\ i <= 40 /\ m = (fcs log).length - i /\ rdL [] ((fcs log).take i) = some S /\
 has st.tm [(0,.d (pS log)),(6,.d (.sl 0 (pNr (fes log)))),(7,.ref 0 0),(17,.d (.sl 0 (pSr (fcs log)))),(18,.d (pI (fcs log).length)),(19,.d (pI i))] /\ st.bx = [c] :: rest /\ HsQ nt 1 S c st.bx st.nt st.live /\ nt <= st.nt /\ ∀ t ∈ live,2 <= t -> t < nt -> t ∈ st.live
theorem zbt:∀ ns:List Nat,lwLL 0 (pNr ns)
 | [] => trivial
 | _n :: ns => ⟨⟨trivial,trivial⟩,zbt ns⟩
set_option maxHeartbeats 2000000 in
theorem zcL (hTab:∀ w,T w -> Tabs w) (hTen:∀ w,T w -> TenTab w) (hErr:∀ w,T w -> ErrTab w) {log:List UInt8} (hs:log.length <= 2147483647) (nt:Nat) (live:List Nat) (hnt:2 <= nt) :
  FnG (env T hT) 152 [.d (pS log)] [] nt live (HyR log nt live):=by
 have hflen:=zbc log;have hel:(fes log).length = (fcs log).length:=by simp [fes,fcs]
 refine za1 (zag zbI) (by show 1 <= 51; decide) fun B hB => ?_
 unfold m_i_history;refine mP ?_;refine mQ ?_;refine zaf rfl (zbN (T:=T) (hT:=hT) log hs) ?_;refine mN ?_;refine mO ?_;refine zat (es:=[]) rfl ?_;refine zco (cs:=[.sl nt []]) rfl rfl rfl rfl ?_;refine mN ?_;refine zaq (fun st => ∃ m,HyJ log nt live m st /\ m = 0) ?_ ?_
 ·refine mQ ?_
  refine zaB (n:=(fcs log).length) rfl rfl (za0 _) ?_;refine mN ?_;refine zai ?_;refine zav (HyJ log nt live) (fcs log).length ⟨0,.sl nt [],[],[],Nat.zero_le _,Nat.zero_le _,rfl,rfl,⟨rfl,rfl,rfl,rfl,rfl,rfl,trivial⟩,rfl,⟨[],⟨Nat.le_refl 1,.inl ⟨nt,rfl,.inr (List.mem_cons_self ..),rfl⟩⟩,rfl,⟨rfl,List.nodup_nil,fun t ht => by cases ht⟩,(fun t ht => by cases ht),fun t es e => ?_⟩,Nat.le_succ _,fun t ht _ _ => List.mem_cons_of_mem _ ht⟩ ?_
  ·simp only [PC.sl.injEq] at e
   obtain ⟨rfl,_⟩:=e;exact ⟨hnt,Nat.lt_succ_self _⟩
  rintro m tm bx nt1 l1 ⟨i,c,rest,S,hi,hi40,rfl,hrd,ht,hbx,hQ,hn1,hlv⟩;obtain ⟨tm0,rfl⟩:=zaj ht;simp only at hbx hQ hn1 hlv; subst hbx
  clear ht
  have hSl:S.length <= 40:=by
   have:=zbD _ _ _ hrd
   rw [List.length_take] at this;simp only [List.length_nil] at this; omega
  refine mO ?_;refine po_b rfl rfl (fun b hb => ?_);refine zac ?_;refine zaa ?_;refine zb4 (p:=(i:Int) < (fcs log).length) hb rfl (fun h _ => ?_) (fun h _ => ?_)
  ·have hil:i < (fcs log).length:=by omega
   obtain ⟨s,hsd⟩:∃ s,s = (fcs log)[i]:=⟨_,rfl⟩;have hcl:=zdz (log:=log) (c:=s) (by rw [hsd]; exact List.getElem_mem hil);have hrd1:rdL [] ((fcs log).take (i + 1)) = stp S s:=by rw [List.take_succ_eq_append_getElem hil,zbq,hrd,hsd]; rfl
   have hget:(pSr (fcs log))[((i:Nat):Int).toNat]? = some [pS s]:=by rw [Int.toNat_natCast,hsd]; exact zcc hil
   have fin:∀ (c':PC) (S':Rl) (b:List (List PC)) (n:Nat) (l:List Nat),logR log = none -> HsQ nt 1 S' c' b n l -> nt <= n -> (∀ t ∈ live,2 <= t -> t < nt -> t ∈ l) -> HyR log nt live (.tup [.d c',.d (.sl 0 ((pNr (fes log)).take i)),.d (pB false)]) b n l:=fun c' S' b n l h1 h2 h3 h4 =>
    ⟨c',_,S',by rw [h1]; rfl,by show lwLL 0 ((pNr (fes log)).take i); unfold pNr; rw [<- List.map_take]; exact zbt _,h2.l,h3,h4,fun S'' h => by rw [h1] at h; cases h⟩
   refine zae ?_;refine zaa (zai (zaa (zad ?_)));refine mS ?_;refine za3 (es:=pSr (fcs log)) (e:=[pS s]) rfl rfl rfl ⟨by omega,hget⟩ rfl ?_;refine mN ?_;refine zaq (fun st => ∃ (c':PC) (rest':List (List PC)) (f:Bool),has st.tm [(0,.d (pS log)),(6,.d (.sl 0 (pNr (fes log)))),(7,.ref 0 0),(8,.d (pI i)),(17,.d (.sl 0 (pSr (fcs log)))),(18,.d (pI (fcs log).length)),(19,.d (pI i)),(30,.d (pB f))] /\ st.bx = [c'] :: rest' /\ nt <= st.nt /\ (∀ t ∈ live,2 <= t -> t < nt -> t ∈ st.live) /\ ((f = true /\ logR log = none /\ ∃ S',HsQ nt 1 S' c' st.bx st.nt st.live) \/ (f = false /\ i < 40 /\ ∃ S',stp S s = some S' /\ HsQ nt 1 S' c' st.bx st.nt st.live))) ?_ ?_
   ·refine zad ?_
    refine mS ?_;by_cases h40:i = 40
    ·subst h40
     refine zak rfl rfl rfl ?_;refine mS ?_
     iterate 3 (refine zah rfl ?_)
     refine mN ?_;exact ⟨c,rest,true,⟨rfl,rfl,rfl,rfl,rfl,rfl,rfl,rfl,trivial⟩,rfl,hn1,hlv,.inl ⟨rfl,by unfold logR; rw [if_neg (by omega)],S,hQ⟩⟩
    ·refine zam rfl rfl (by show (((i:Nat):Int) == 40) = false; rw [beq_eq_false_iff_ne]; omega) ?_
     (iterate 2 refine mS ?_);refine zeu rfl rfl (zcK (T:=T) (hT:=hT) hTab hTen hErr hcl (by omega) (by omega) hn1 hQ) ?_;rintro x b n l ⟨c',rest',ok,rfl,rfl,hn2,hl2,hres⟩;have hlv2:∀ t ∈ live,2 <= t -> t < nt -> t ∈ l:=fun t ht h2 hlt => hl2 t (hlv t ht h2 hlt) h2 (by omega)
     rcases hres with ⟨rfl,S',hst,hQ'⟩ | ⟨rfl,hst,S',hQ'⟩
     ·refine mN ?_
      exact ⟨c',rest',false,⟨rfl,rfl,rfl,rfl,rfl,rfl,rfl,rfl,trivial⟩,rfl,by show nt <= n; omega,hlv2,.inr ⟨rfl,by omega,S',hst,hQ'⟩⟩
     ·have hno:logR log = none:=by
       unfold logR;split
       ·exact zbW _ _ (i + 1) (by rw [hrd1]; exact hst)
       ·rfl
      refine mN ?_;exact ⟨c',rest',true,⟨rfl,rfl,rfl,rfl,rfl,rfl,rfl,rfl,trivial⟩,rfl,by show nt <= n; omega,hlv2,.inl ⟨rfl,hno,S',hQ'⟩⟩
   rintro tm bx n l ⟨c',rest',f,ht,hbx,hn2,hl2,hres⟩;obtain ⟨tm1,rfl⟩:=zaj ht;simp only at hbx hn2 hl2 hres; subst hbx
   clear ht tm0
   rcases hres with ⟨rfl,hno,S',hQ'⟩ | ⟨rfl,hi4,S',hst,hQ'⟩
   ·refine mwT ?_
    refine mO ?_;(iterate 3 refine mS ?_);refine zd6 (l:=0) (h:=i) (es:=pNr (fes log)) (rs:=(pNr (fes log)).take i) rfl rfl (zax rfl rfl) (by rw [zaI]; omega) (zce _) (by simp) ?_;refine mN ?_;exact zab ⟨.inr rfl,[.d c',.d (.sl 0 ((pNr (fes log)).take i)),.d (pB false)],rfl,fin c' S' _ _ _ hno hQ' hn2 hl2⟩
   ·refine mwF ?_
    refine zae ?_;refine zad ?_;refine zau (n:=((i + 1:Nat):Int)) rfl rfl rfl (by omega) (by omega) ?_;refine mN ?_;refine ⟨_,?_,i + 1,c',rest',S',by omega,by omega,rfl,by rw [hrd1]; exact hst,⟨rfl,rfl,rfl,rfl,rfl,rfl,trivial⟩,rfl,hQ',hn2,hl2⟩;show (fcs log).length - (i + 1) < (fcs log).length - i;omega
  ·refine zaH ?_
   exact ⟨_,⟨i,c,rest,S,hi,hi40,rfl,hrd,⟨rfl,rfl,rfl,rfl,rfl,rfl,trivial⟩,rfl,hQ,hn1,hlv⟩,by omega⟩
 rintro tm bx nt1 l1 ⟨_,⟨i,c,rest,S,hi,hi40,hm,hrd,ht,hbx,hQ,hn1,hlv⟩,rfl⟩;obtain ⟨tm0,rfl⟩:=zaj ht;simp only at hbx hQ hn1 hlv; subst hbx
 clear ht;have hie:i = (fcs log).length:=by omega
 subst hie;rw [List.take_length] at hrd;refine mP ?_;refine zaq (fun st => has st.tm [(0,.d (pS log)),(6,.d (.sl 0 (pNr (fes log)))),(7,.ref 0 0),(10,.d (pI (fend log)))] /\ st.bx = [c] :: rest /\ nt1 = st.nt /\ l1 = st.live) ?_ ?_
 ·refine mQ ?_
  refine zaB (n:=(fes log).length) rfl rfl (zaI _) ?_;by_cases h0:(fes log).length = 0
  ·have e:fend log = 0:=by rw [zci,List.length_eq_zero_iff.1 h0]; rfl
   refine zam rfl rfl (decide_eq_false (show ¬ (((fes log).length:Nat):Int) > 0 by omega)) ?_;refine zac ?_;refine mwF ?_;refine zae ?_;exact ⟨⟨rfl,rfl,rfl,by rw [e]; rfl,trivial⟩,rfl,rfl,rfl⟩
  ·have hk:(fes log).length - 1 < (fes log).length:=by omega
   have e:fend log = (fes log)[(fes log).length - 1]:=by rw [zci,za2 hk]
   refine zak rfl rfl (decide_eq_true (show (((fes log).length:Nat):Int) > 0 by omega)) ?_;refine zac ?_;refine mwT ?_;refine zad ?_;(iterate 2 refine mS ?_);refine zaB (n:=(fes log).length) rfl rfl (zaI _) ?_;refine zaJ (n:=(((fes log).length - 1:Nat):Int)) rfl rfl rfl (by omega) (by omega) ?_;refine za3 (es:=pNr (fes log)) (e:=[pI ((fes log)[(fes log).length - 1]:Int)]) rfl rfl rfl ⟨by omega,by rw [Int.toNat_natCast]; exact zca hk⟩ rfl ?_;refine mN ?_;exact ⟨⟨rfl,rfl,rfl,by rw [e]; rfl,trivial⟩,rfl,rfl,rfl⟩
 rintro tm bx n l ⟨ht,hbx,rfl,rfl⟩;obtain ⟨tm1,rfl⟩:=zaj ht;simp only at hbx; subst hbx
 clear ht;have hw:PC.lw 0 (.sl 0 (pNr (fes log))):=zbt _;refine mO ?_;(iterate 4 refine mS ?_);refine po_q (v:=.d (pI log.length)) rfl rfl ?_;by_cases h1:fend log = log.length
 ·have hyes:logR log = some S:=by unfold logR; rw [if_pos ⟨h1,hi40⟩,hrd]
  refine zak rfl rfl (by show ((fend log:Int) == (log.length:Int)) = true; rw [beq_iff_eq]; omega) ?_;refine mN ?_;exact zab ⟨.inr rfl,[.d c,.d (.sl 0 (pNr (fes log))),.d (pB true)],rfl,c,_,S,by rw [hyes]; rfl,hw,hQ.l,hn1,hlv,fun S' h => ⟨by rw [hyes] at h; simpa using h,rfl⟩⟩
 ·have hno:logR log = none:=by unfold logR; rw [if_neg (fun h => h1 h.1)]
  refine zam rfl rfl (by show ((fend log:Int) == (log.length:Int)) = false; rw [beq_eq_false_iff_ne]; omega) ?_;refine mN ?_;exact zab ⟨.inr rfl,[.d c,.d (.sl 0 (pNr (fes log))),.d (pB false)],rfl,c,_,S,by rw [hno]; rfl,hw,hQ.l,hn1,hlv,fun S' h => by rw [hno] at h; cases h⟩
end
/- Si4 -/
section
variable {T:World -> Prop} {hT:Low ngl T}
attribute [local irreducible] po mw pt
theorem zcM (hTab:∀ w,T w -> Tabs w) (hTen:∀ w,T w -> TenTab w) (hErr:∀ w,T w -> ErrTab w) {log:List UInt8} (hs:log.length <= 2147483647) (bx:List (List PC)) (nt:Nat) (live:List Nat) (hnt:2 <= nt) :
  FnG (env T hT) 152 [.d (pS log)] bx nt live (fun x b n l => ∃ rest c e S0,b = bx ++ rest /\ x = .tup [.d c,.d e,.d (pB (logR log).isSome)] /\ HsL nt bx.length S0 c b n l /\ nt <= n /\ (∀ t ∈ live,2 <= t -> t < nt -> t ∈ l) /\ ∀ S,logR log = some S -> S0 = S /\ e = .sl 0 (pNr (fes log))):=by
 refine (FnG.liftR (zcL (T:=T) (hT:=hT) hTab hTen hErr hs nt live hnt) ⟨trivial,trivial⟩).mono ?_;rintro x b n l ⟨x0,b0,rfl,rfl,c,e,S0,rfl,he,hQ,hn,hlv,hS⟩;refine ⟨_,c.shB bx.length,e,S0,rfl,?_,hQ.sh,hn,hlv,hS⟩;simp only [PV.shB,shBs];rw [zbe he,zbe (c:=pB (logR log).isSome) trivial]
def ReR (log:List UInt8) (safe:Int) (nt:Nat) (live:List Nat) (x:PV) (b:List (List PC)) (n:Nat) (l:List Nat):Prop :=
 ∃ c fr S0,x = .tup [.d c,.d (pI fr),.d (pB (stR log safe).isSome)] /\ HsL nt 0 S0 c b n l /\ nt <= n /\ (∀ t ∈ live,2 <= t -> t < nt -> t ∈ l) /\ (∀ S,stR log safe = some S -> S0 = S /\ fr = ((fcs log).length:Int)) /\ (stR log safe = none -> S0 = [])
theorem HsL.lo {nt0 lo n:Nat} {S:Rl} {c:PC} {b:List (List PC)} {l:List Nat} (h:HsL nt0 lo S c b n l):HsL nt0 0 S c b n l:=by
 obtain ⟨cells,h1,h2⟩:=h;exact ⟨cells,h1.lo (Nat.zero_le _),h2⟩
theorem zeN (hTab:∀ w,T w -> Tabs w) (hTen:∀ w,T w -> TenTab w) (hErr:∀ w,T w -> ErrTab w) {log:List UInt8} {safe:Int} (hs:log.length <= 2147483647) (nt:Nat) (live:List Nat) (hnt:2 <= nt) :
  FnG (env T hT) 105 [.ag (stC log safe)] [] nt live (ReR log safe nt live):=by
 have hel:(fes log).length = (fcs log).length:=by simp [fes,fcs]
 have hflen:=zbc log;refine za1 (zag zcD) (by show 1 <= 32; decide) fun B hB => ?_
 unfold m_i_read;refine mO ?_;refine zaQ (cs:=stC log safe) rfl ?_;refine mN ?_;refine mO ?_;(iterate 2 refine mS ?_);refine po_g rfl (zcM (T:=T) (hT:=hT) hTab hTen hErr hs _ _ _ hnt) ?_;rintro x b n l ⟨rest,c,e,S0,rfl,rfl,hQ,hn,hlv,hS⟩;refine mN ?_
 have no:stR log safe = none -> ReR log safe nt live (.tup [.d (.sl 1 []),.d (pI 0),.d (pB false)]) ([stC log safe] ++ rest) n l:=fun h =>
  ⟨.sl 1 [],0,[],by rw [h]; rfl,.none,hn,hlv,(fun S h' => by rw [h] at h'; cases h'),fun _ => rfl⟩
 refine zaa (zaa (zad ?_))
 cases hl:logR log with
 | none =>
  have hno:stR log safe = none:=by unfold stR; rw [hl]; split <;> rfl
  (iterate 3 refine mS ?_)
  iterate 10 (refine zah rfl ?_)
  refine mN ?_;refine mwT ?_;refine mP ?_
  exact zab ⟨.inr rfl,[.d (.sl 1 []),.d (pI 0),.d (pB false)],rfl,no hno⟩
 | some S =>
  obtain ⟨rfl,rfl⟩:=hS S hl;have hst:stR log safe = if 0 <= safe /\ (safe = 0 \/ safe.toNat ∈ fes log) then some S0 else none:=by unfold stR; rw [hl]
  have yes:stR log safe = some S0 -> ReR log safe nt live (.tup [.d c,.d (pI (fes log).length),.d (pB true)]) ([stC log safe] ++ rest) n l:=fun h =>
   ⟨c,_,S0,by rw [h]; rfl,hQ.lo,hn,hlv,(fun S h' => by rw [h] at h'; exact ⟨by simpa using h',by rw [hel]⟩),fun h' => by rw [h] at h'; cases h'⟩
  (iterate 5 refine mS ?_);by_cases h0:safe = 0
  ·have hyes:stR log safe = some S0:=by rw [hst,if_pos ⟨by omega,.inl h0⟩]
   refine zam rfl rfl (by show (!(safe == 0)) = false; rw [h0]; rfl) ?_;refine mS ?_
   iterate 5 (refine zah rfl ?_)
   refine mN ?_;refine mwF ?_;refine zae ?_;refine mO ?_;(iterate 2 refine mS ?_);refine zaB (n:=(fes log).length) rfl rfl (zaI _) ?_;refine mN ?_;exact zab ⟨.inr rfl,[.d c,.d (pI (fes log).length),.d (pB true)],rfl,yes hyes⟩
  ·refine zak rfl rfl (by show (!(safe == 0)) = true; rw [beq_eq_false_iff_ne.2 h0]; rfl) ?_
   (iterate 4 refine mS ?_);refine zaD (b:=true) (args:=[.d (.sl 0 (pNr (fes log))),.d (pI safe)]) rfl (fun _ => zcH _ _) (fun _ => zbJ (T:=T) (hT:=hT) (fes log) safe (by omega)) ?_;by_cases hin:0 <= safe /\ safe.toNat ∈ fes log
   ·have hyes:stR log safe = some S0:=by rw [hst,if_pos ⟨hin.1,.inr hin.2⟩]
    rw [decide_eq_true hin];refine mN ?_;refine mwF ?_;refine zae ?_;refine mO ?_;(iterate 2 refine mS ?_);refine zaB (n:=(fes log).length) rfl rfl (zaI _) ?_;refine mN ?_;exact zab ⟨.inr rfl,[.d c,.d (pI (fes log).length),.d (pB true)],rfl,yes hyes⟩
   ·have hno:stR log safe = none:=by rw [hst,if_neg (fun h => hin ⟨h.1,h.2.resolve_left h0⟩)]
    rw [decide_eq_false hin];refine mN ?_;refine mwT ?_;refine mP ?_;exact zab ⟨.inr rfl,[.d (.sl 1 []),.d (pI 0),.d (pB false)],rfl,no hno⟩
def ReL (log:List UInt8) (safe:Int) (bx:List (List PC)) (nt:Nat) (live:List Nat) (x:PV) (b:List (List PC)) (n:Nat) (l:List Nat):Prop :=
 ∃ rest c fr S0,b = bx ++ rest /\ x = .tup [.d c,.d (pI fr),.d (pB (stR log safe).isSome)] /\ HsL nt bx.length S0 c b n l /\ nt <= n /\ (∀ t ∈ live,2 <= t -> t < nt -> t ∈ l) /\ (∀ S,stR log safe = some S -> S0 = S /\ fr = ((fcs log).length:Int)) /\ (stR log safe = none -> S0 = [])
theorem zer (log:List UInt8) (safe:Int):lwVs 0 [.ag (stC log safe)]:=⟨⟨trivial,trivial,trivial⟩,trivial⟩
theorem zef (hTab:∀ w,T w -> Tabs w) (hTen:∀ w,T w -> TenTab w) (hErr:∀ w,T w -> ErrTab w) {log:List UInt8} {safe:Int} (hs:log.length <= 2147483647) (bx:List (List PC)) (nt:Nat) (live:List Nat) (hnt:2 <= nt) :
  FnG (env T hT) 105 [.ag (stC log safe)] bx nt live (ReL log safe bx nt live):=by
 refine (FnG.liftR (zeN (T:=T) (hT:=hT) hTab hTen hErr hs nt live hnt) (zer _ _)).mono ?_;rintro x b n l ⟨x0,b0,rfl,rfl,c,fr,S0,rfl,hQ,hn,hlv,h1,h2⟩;refine ⟨_,c.shB bx.length,fr,S0,rfl,?_,hQ.sh,hn,hlv,h1,h2⟩;simp only [PV.shB,shBs];rw [zbe (c:=pI fr) trivial,zbe (c:=pB (stR log safe).isSome) trivial]
theorem zck (hTab:∀ w,T w -> Tabs w) (hTen:∀ w,T w -> TenTab w) (hErr:∀ w,T w -> ErrTab w) (log:List UInt8) (safe:Int) (hs:log.length <= 2147483647):FnV (env T hT) 39 [.ag (stC log safe)] (.d (pB (stR log safe).isSome)):=by
 refine zaC (zag zcC) (by show 1 <= 13; decide) fun B hB => ?_
 unfold m_i_StoreOk;refine mO ?_;refine zaQ (cs:=stC log safe) rfl ?_;refine mN ?_;refine mQ ?_;refine po_g (args:=[.ag (stC log safe)]) rfl (zef (T:=T) (hT:=hT) hTab hTen hErr hs _ _ _ (by decide)) ?_;rintro x b n l ⟨rest,c,fr,S0,rfl,rfl,hQ,hn,hlv,h1,h2⟩;refine mN ?_;refine mP ?_;exact zab ⟨.inr rfl,_,rfl,rfl⟩
end
/- Si5 -/
section
variable {T:World -> Prop} {hT:Low ngl T}
attribute [local irreducible] po mw pt
theorem syncI_fn (hTab:∀ w,T w -> Tabs w) (hTen:∀ w,T w -> TenTab w) (hErr:∀ w,T w -> ErrTab w) (log:List UInt8) (safe:Int) (hs:log.length <= 2147483647):FnV (env T hT) 41 [.ag (stC log safe)] (.ag (stC log (syncS log safe))):=by
 refine zaC (zag zg9) (by show 1 <= 10; decide) fun B hB => ?_
 unfold m_i_SyncStore;refine mO ?_;refine zaQ (cs:=stC log safe) rfl ?_;refine mN ?_;refine zaq (fun st => has st.tm [(1,.ref 0 0),(2,.ref 1 0)] /\ st.bx = [stC log (syncS log safe),stC [] 0]) ?_ ?_
 ·refine mQ ?_
  refine zaf (args:=[.ag (stC log safe)]) rfl (zck (T:=T) (hT:=hT) hTab hTen hErr log safe hs) ?_;refine zac ?_
  cases hst:stR log safe with
  | none =>
   have e:syncS log safe = safe:=by unfold syncS; rw [hst]
   rw [e];refine mwF ?_;refine zae ?_
   exact ⟨⟨rfl,rfl,trivial⟩,rfl⟩
  | some S =>
   have e:syncS log safe = log.length:=by unfold syncS; rw [hst]
   rw [e];refine mwT ?_;refine zad ?_;(iterate 2 refine mS ?_);refine po_q (v:=.d (pI log.length)) rfl rfl ?_;refine mS ?_;refine zap (p:=0) (o':=1) (cs:=[pI log.length]) (z:=stC log safe) rfl rfl rfl ⟨rfl,Nat.le_of_ble_eq_true rfl⟩ rfl ?_;refine zac ?_;exact ⟨⟨rfl,rfl,trivial⟩,rfl⟩
 rintro tm bx n l ⟨ht,hbx⟩;obtain ⟨tm0,rfl⟩:=zaj ht;simp only at hbx; subst hbx
 clear ht;refine mQ ?_;refine zaA (p:=1) (cs:=stC log (syncS log safe)) rfl rfl rfl rfl rfl rfl ?_;refine zac ?_;exact zab ⟨.inr rfl,[.ag (stC log (syncS log safe))],rfl,rfl⟩
end
/- StL1 -/
section
attribute [local irreducible] po mw pt
def TS (w:World):Prop:=Tabs w /\ TenTab w /\ ErrTab w
theorem TS.low:Low ngl TS:=by
 intro w w' h hs hk;have h1:2 < ngl:=of_decide_eq_true (by unfold ngl; kernel_rfl);have h2:3 < ngl:=of_decide_eq_true (by unfold ngl; kernel_rfl);have h3:4 < ngl:=of_decide_eq_true (by unfold ngl; kernel_rfl);refine ⟨Tabs.low w w' h.1 hs hk,?_,ErrTab.low h2 h3 hk h.2.2⟩;have ht:=h.2.1;unfold TenTab Lib.TabIs at ht ⊢;unfold World.var? at ht ⊢;simp only [tenG,Option.bind_some] at ht ⊢;rw [hk _ h1]; exact ht
theorem TS.a:∀ w,TS w -> Tabs w:=fun _ h => h.1
theorem TS.b:∀ w,TS w -> TenTab w:=fun _ h => h.2.1
theorem TS.c:∀ w,TS w -> ErrTab w:=fun _ h => h.2.2
section
variable {T:World -> Prop} {hT:Low ngl T}
theorem zdj (log:List UInt8) (safe:Int) (hs:log.length <= 9223372036854775807):FnV (env T hT) 36 [.ag (stC log safe),.d (pI 1048576)] (.d (pI (if (log.length:Int) > 1048576 then -1 else 1048576 - log.length))):=by
 refine zaC (zag zc0) (by show 2 <= 13; decide) fun B hB => ?_
 unfold m_l_szStore;refine mO ?_;refine zaQ (cs:=stC log safe) rfl ?_;refine mN ?_;refine mO ?_;(iterate 3 refine mS ?_);refine po_q (v:=.d (pI log.length)) rfl rfl ?_;refine zaJ (n:=(1048576 - log.length:Int)) rfl rfl rfl rfl (by omega) ?_;refine mN ?_;refine zaa (zaa (zad ?_));refine mS ?_;by_cases h:(log.length:Int) > 1048576
 ·refine zak rfl rfl (decide_eq_true (show (1048576 - log.length:Int) < 0 by omega)) ?_
  rw [if_pos h];refine mN ?_;refine mwT ?_;refine mP ?_;exact zab ⟨.inr rfl,_,rfl,rfl⟩
 ·refine zam rfl rfl (decide_eq_false (show ¬ (1048576 - log.length:Int) < 0 by omega)) ?_
  rw [if_neg h];refine mN ?_;refine mwF ?_;refine zae ?_;refine mP ?_;exact zab ⟨.inr rfl,_,rfl,rfl⟩
theorem zbQ (log:List UInt8) (safe:Int):FnV (env T hT) 38 [.ag (stC log safe)] (.ag (stC log safe)):=by
 refine zaC (zag zc1) (by show 1 <= 11; decide) fun B hB => ?_
 unfold m_l_toStore;refine mO ?_;refine zaQ (cs:=stC log safe) rfl ?_;refine mN ?_;refine mP ?_;refine mO ?_;(iterate 3 refine mS ?_);refine zap (p:=2) (o':=0) (cs:=[pS log]) (z:=stC [] 0) rfl rfl rfl ⟨rfl,Nat.le_of_ble_eq_true rfl⟩ rfl ?_;refine zac ?_;refine mO ?_;(iterate 3 refine mS ?_);refine zap (p:=2) (o':=1) (cs:=[pI safe]) (z:=[pS log,pI 0]) rfl rfl rfl ⟨rfl,Nat.le_of_ble_eq_true rfl⟩ rfl ?_;refine zac ?_;refine mQ ?_;refine zaA (p:=1) (cs:=stC log safe) rfl rfl rfl rfl rfl rfl ?_;refine zac ?_;exact zab ⟨.inr rfl,[.ag (stC log safe)],rfl,rfl⟩
theorem zgZ (log:List UInt8) (safe:Int):FnV (env T hT) 42 [.ag (stC log safe),.ag (stC log safe)] (.d (pB true)):=by
 refine zaC (zag zeH) (by show 2 <= 15; decide) fun B hB => ?_
 unfold m_l_eqStore;refine mO ?_;refine zaQ (cs:=stC log safe) rfl ?_;refine zaQ (cs:=stC log safe) rfl ?_;refine mN ?_;refine zaa (zaa (zad ?_));(iterate 4 refine mS ?_);refine zc2 (la:=log) (lb:=log) rfl rfl rfl ?_;rw [decide_eq_true rfl];refine mN ?_;refine mwF ?_;refine zae ?_;refine zaa (zaa (zad ?_));(iterate 4 refine mS ?_);refine zam rfl rfl (by show (!(safe == safe)) = false; simp) ?_;refine mN ?_;refine mwF ?_;refine zae ?_;refine mP ?_;exact zab ⟨.inr rfl,_,rfl,rfl⟩
end
noncomputable abbrev TE:Env:=env TS TS.low
theorem zdM (log:List UInt8) (safe:Int) (hl:log.length <= 9223372036854775807):FnV TE 6 [.ag (stC log safe)] (.d (pB true)):=by
 refine zaC (zag zch) (by show 1 <= 20; decide) fun B hB => ?_
 unfold m_l_FnExactStoreOk;refine mO ?_;refine zaQ (cs:=stC log safe) rfl ?_;refine mN ?_;refine mP ?_;refine mO ?_;(iterate 2 refine mS ?_);refine zaf (args:=[.ag (stC log safe),.d (pI 1048576)]) rfl (zdj log safe hl) ?_;refine mN ?_;refine zaa (zaa (zad ?_));refine mS ?_;by_cases h:(log.length:Int) > 1048576
 ·rw [if_pos h]
  refine zak rfl rfl rfl ?_;refine mN ?_;refine mwT ?_;refine mP ?_;exact zab ⟨.inr rfl,_,rfl,rfl⟩
 rw [if_neg h];have hs:log.length <= 2147483647:=by omega
 refine zam rfl rfl (decide_eq_false (show ¬ (1048576 - log.length:Int) < 0 by omega)) ?_;refine mN ?_;refine mwF ?_;refine zae ?_;refine mQ ?_;refine zaf (args:=[.ag (stC log safe)]) rfl (zbQ log safe) ?_;refine zaf (args:=[.ag (stC log safe)]) rfl (zbL log safe hs) ?_;refine mN ?_;refine mQ ?_;refine zaf (args:=[.ag (stC log safe)]) rfl (zbQ log safe) ?_;refine zaf (args:=[.ag (stC log safe)]) rfl (zck TS.a TS.b TS.c log safe hs) ?_;refine mN ?_;refine zaa (zaa (zad ?_));(iterate 2 refine mS ?_);refine zam rfl rfl (by cases (stR log safe).isSome <;> rfl) ?_;refine mN ?_;refine mwF ?_;refine zae ?_;refine mP ?_;exact zab ⟨.inr rfl,_,rfl,rfl⟩
theorem lawSync_fn (log:List UInt8) (safe:Int) (hl:log.length <= 9223372036854775807):FnV TE 7 [.ag (stC log safe)] (.d (pB true)):=by
 refine zaC (zag zeG) (by show 1 <= 21; decide) fun B hB => ?_
 unfold m_l_FnExactSyncStore;refine mO ?_;refine zaQ (cs:=stC log safe) rfl ?_;refine mN ?_;refine mP ?_;refine mO ?_;(iterate 2 refine mS ?_);refine zaf (args:=[.ag (stC log safe),.d (pI 1048576)]) rfl (zdj log safe hl) ?_;refine mN ?_;refine zaa (zaa (zad ?_));refine mS ?_;by_cases h:(log.length:Int) > 1048576
 ·rw [if_pos h]
  refine zak rfl rfl rfl ?_;refine mN ?_;refine mwT ?_;refine mP ?_;exact zab ⟨.inr rfl,_,rfl,rfl⟩
 rw [if_neg h];have hs:log.length <= 2147483647:=by omega
 refine zam rfl rfl (decide_eq_false (show ¬ (1048576 - log.length:Int) < 0 by omega)) ?_;refine mN ?_;refine mwF ?_;refine zae ?_;refine mQ ?_;refine zaf (args:=[.ag (stC log safe)]) rfl (zbQ log safe) ?_;refine zaf (args:=[.ag (stC log safe)]) rfl (sync_fn log safe hs) ?_;refine zco (cs:=stC log (syncS log safe)) rfl rfl rfl rfl ?_;refine mN ?_;refine mQ ?_;refine zaf (args:=[.ag (stC log safe)]) rfl (zbQ log safe) ?_;refine zaf (args:=[.ag (stC log safe)]) rfl (syncI_fn TS.a TS.b TS.c log safe hs) ?_;refine zco (cs:=stC log (syncS log safe)) rfl rfl rfl rfl ?_;refine mN ?_;refine zaa (zaa (zad ?_));(iterate 2 refine mS ?_);refine zaf (args:=[.ag (stC log (syncS log safe)),.ag (stC log (syncS log safe))]) rfl (zgZ _ _) ?_;refine mN ?_;refine mwF ?_;refine zae ?_;refine mP ?_;exact zab ⟨.inr rfl,_,rfl,rfl⟩
theorem zeO {w:World} (log:List UInt8) (safe:Int):RpV (C0 w) w (.ag (stC log safe)) (.agg #[.string ⟨log.toArray⟩,.int .i64 safe]):=by
 have:=RpV.ag (C:=C0 w) (w:=w) (stC log safe) [.string ⟨log.toArray⟩,.int .i64 safe] (.cons (.v _ rfl) (.cons (.v _ rfl) .nil))
 simpa using this
section
variable (log:List UInt8) (safe v:Int) (w:World) (hn:ngl <= w.heap.size) (hT:TS w)
include hn hT
theorem zel {f:Nat} (h:FnV TE f [.ag (stC log safe)] (.d (pB true))):Calls Tryz.prog f #[.agg #[.string ⟨log.toArray⟩,.int .i64 safe]] w fun e w' => e = .returned (.bool true) /\ Below w.heap.size w w' :=
 FnV.bool h hn hT (vs:=[.agg #[.string ⟨log.toArray⟩,.int .i64 safe]]) rfl fun j x y hx hy => by
  match j with
  | 0 => simp at hx hy; subst hx; subst hy; exact zeO log safe
  | j + 1 => simp at hx
end
section
variable (log:List UInt8) (safe v:Int) (w:World) (hn:ngl <= w.heap.size) (hT:TS w) (hs:strok log)
include hn hT hs
theorem zg2:Calls Tryz.prog 7 #[.agg #[.string ⟨log.toArray⟩,.int .i64 safe]] w fun e w' => e = .returned (.bool true) /\ Below w.heap.size w w':=zel log safe w hn hT (lawSync_fn log safe hs)
end
end
/- ErrTab -/
section
open Go.RowKit Go.Lib Go.Shelf
theorem zdA {w:World} {nm n2:String} {g:Nat} {d:DataW Unit} (h:VarReads Tryz.prog w nm (.iface n2 d)) (hg:Tryz.prog.globalNamed nm = some g) (ht:(Tryz.prog.globals[g]?).map (·.type) = some 154):∃ tp p,w.var? Tryz.prog nm = some #[.iface tp p]:=by
 obtain ⟨g',t',cs,fuel,p,hg',ht',hvar,hd⟩:=h
 obtain rfl:=Option.some.inj (hg.symm.trans hg')
 obtain rfl:=Option.some.inj (ht.symm.trans ht')
 obtain ⟨f1,u,v,e,_⟩:=iface_of_trod Tryz.underlying154 hd;refine ⟨u,v,?_⟩;rw [hvar,<- Array.toArray_toList (xs:=cs),e]
theorem zcN {w : World} (h1 : VarReads Tryz.prog w "strconv.ErrSyntax" Rows.laid_strconv_ErrSyntax) (h2 : VarReads Tryz.prog w "strconv.ErrRange" Rows.laid_strconv_ErrRange) : ErrTab w :=
 ⟨zdA h1 synG (by kernel_rfl),zdA h2 rngG (by kernel_rfl)⟩
end
end Go.Proofs.YtanlnhkagepniaaGreatDoor
namespace Go.Proofs.YtanlnhkagepniaaGreatDoor.FnExactSyncStore
open Go.ChangeShapes Go.WideShapes Go.ChangeAt Go.RowKit Go.Joins
open Go.ChangeMaps (open_string shut_string)
theorem own:ownKnob Tryz.prog.godebug = none:=by kernel_rfl
theorem zds:laidOutB Tryz.prog = true:=by kernel_rfl
set_option maxRecDepth 100000 in
theorem zeP (os:Os) (started:os.Started) (H:Type) (enc:TypeId × Value -> H) :
  ReturnsInHanded {} Tryz.checked os 7 .any (fun w args => (Rows.fnExactSyncStoreSpec.pre enc Tryz.prog Tryz.f7 Rows.fnExactSyncStoreRow.domain false w args /\ laidMetH Tryz.prog Rows.fnExactSyncStoreRow.laid w) /\ sizedMet enc Tryz.prog Tryz.f7 (OpenSpec.ofChange Rows.fnExactSyncStoreSpec) false w args) (Rows.fnExactSyncStoreSpec.post enc Tryz.prog Tryz.f7 false true false false):=by
 refine zfV (C:=Tryz.checked) Rows.fnExactSyncStoreRow.laid own started (by kernel_rfl) Tryz.func7
  (ChangeSpec.witness_shaped (enc:=enc) (C:=Tryz.checked) (os:=os) (X:=fun w _ => laidMetH Tryz.prog Rows.fnExactSyncStoreRow.laid w) false (World.laidAll Tryz.prog os Rows.fnExactSyncStoreRow.laid) #[.agg #[.string ⟨#[]⟩,.int .i64 0]] 8 (World.laidAll_os _ _ _)
   (World.shaped_of_ZipB (by kernel_rfl) (by kernel_rfl)) (by kernel_rfl) (by kernel_rfl) (by kernel_rfl)
   (by rw [MakeChecks.laidMetH_plain _ _ _ (by kernel_rfl)]; exact laidMet_laidAll _ (by kernel_rfl) (by kernel_rfl))) ?_
 intro W base args ds gs before hsh hL hval0 hW hcnd;have hval:∀ (j:Nat) t v,Tryz.f7.params[j]? = some t -> args[j]? = some v -> Value.okWide Tryz.prog W .any base t v:=hval0;have hW':=hW;obtain ⟨p,q,hA0,hV,rfl,hfz,hnd⟩:=hW;have hA:DataW.TrodAll enc Tryz.prog W 0 (fun _ => true) true Tryz.f7.params.toList args.toList ds p:=hA0;rw [Tryz.params7] at hA hval;obtain ⟨v0,vs0,d0,ds0,p0,q0,hargs,rfl,rfl,h0,r0⟩:=trodAll_cons hA;obtain ⟨rfl,rfl,rfl⟩:=trodAll_nil r0
 obtain rfl:args = #[v0]:=by cases args; simp_all
 obtain ⟨rfl,rfl⟩:=trodVars_none hV;have k0:=h0;have lt0:∀ x ∈ p0,x.block < W.heap.size:=by obtain ⟨m,hm⟩:=k0; exact DataW.trod_lt m _ _ _ hm
 obtain ⟨ca0,cb0,ya0,yb0,m0,rfl,_,_,hya0,hyb0⟩:=open_agg2 Tryz.underlying62 (by kernel_rfl) (by kernel_rfl) (hval 0 62 v0 rfl rfl) h0;obtain ⟨sl0,eq0,hs0⟩:=zeV Tryz.underlying9 hya0;obtain ⟨n0,er0,hn0⟩:=zeU Tryz.underlying3 hyb0;simp only [List.cons.injEq,and_true] at eq0 er0
 subst eq0 er0
 clear hA0 hval0;have hL2:=hL;rw [MakeChecks.laidMetH_plain _ _ _ (by kernel_rfl)] at hL2;have hT:TS W:=⟨zfW (Lib.laidMet.reads hL2 (.tail _ (.tail _ (.tail _ (.tail _ (.tail _ (.tail _ (.head _)))))))) (Lib.laidMet.reads hL2 (.tail _ (.tail _ (.tail _ (.head _))))),zee (Lib.laidMet.reads hL2 (.tail _ (.tail _ (.head _)))),zcN (Lib.laidMet.reads hL2 (.tail _ (.tail _ (.tail _ (.tail _ (.tail _ (.head _))))))) (Lib.laidMet.reads hL2 (.tail _ (.tail _ (.tail _ (.tail _ (.head _))))))⟩;refine (zg2 sl0 n0 W (zhv hsh) hT hs0).mono fun e W' ⟨he,bel⟩ => ?_
 subst he;exact ⟨_,rfl,_,_,_,[],_,[],hW',trodAll_mk1 (shut_bool Tryz.underlying4 _),(trodAll_cons_mk (Below.trod zds (by kernel_rfl) (of_decide_eq_true (by kernel_rfl)) k0 bel lt0) trodAll_mk0),rfl,bel.frame _,fun h => by cases h⟩
set_option maxHeartbeats 8000000 in
theorem closed:joinedFacts Tryz.prog 7 Tryz.f7 Rows.fnExactSyncStoreSpec Rows.fnExactSyncStoreRow = true:=by
 unfold joinedFacts;simp only [Bool.and_eq_true];refine ⟨⟨⟨⟨⟨⟨⟨⟨⟨⟨⟨⟨⟨⟨⟨⟨⟨⟨⟨⟨⟨⟨⟨⟨⟨⟨⟨⟨⟨⟨⟨?_,?_⟩,?_⟩,?_⟩,?_⟩,?_⟩,?_⟩,?_⟩,?_⟩,?_⟩,?_⟩,?_⟩,?_⟩,?_⟩,?_⟩,?_⟩,?_⟩,?_⟩,?_⟩,?_⟩,?_⟩,?_⟩,?_⟩,?_⟩,?_⟩,?_⟩,?_⟩,?_⟩,?_⟩,?_⟩,?_⟩,?_⟩
 ·as_aux_lemma => kernel_rfl
 ·as_aux_lemma => kernel_rfl
 ·as_aux_lemma => kernel_rfl
 ·as_aux_lemma => kernel_rfl
 ·as_aux_lemma => kernel_rfl
 ·as_aux_lemma => kernel_rfl
 ·as_aux_lemma => kernel_rfl
 ·as_aux_lemma => kernel_rfl
 ·as_aux_lemma => kernel_rfl
 ·as_aux_lemma => kernel_rfl
 ·as_aux_lemma => kernel_rfl
 ·as_aux_lemma => kernel_rfl
 ·as_aux_lemma => kernel_rfl
 ·as_aux_lemma => kernel_rfl
 ·as_aux_lemma => kernel_rfl
 ·as_aux_lemma => kernel_rfl
 ·as_aux_lemma => kernel_rfl
 ·as_aux_lemma => kernel_rfl
 ·as_aux_lemma => kernel_rfl
 ·as_aux_lemma => kernel_rfl
 ·as_aux_lemma => kernel_rfl
 ·as_aux_lemma => kernel_rfl
 ·as_aux_lemma => kernel_rfl
 ·as_aux_lemma => kernel_rfl
 ·as_aux_lemma => kernel_rfl
 ·as_aux_lemma => kernel_rfl
 ·as_aux_lemma => kernel_rfl
 ·as_aux_lemma => kernel_rfl
 ·as_aux_lemma => kernel_rfl
 ·as_aux_lemma => kernel_rfl
 ·as_aux_lemma => kernel_rfl
 ·as_aux_lemma => kernel_rfl
theorem wf0:Rows.fnExactSyncStoreRow.wfByText (OpenSpec.ofChange Rows.fnExactSyncStoreSpec) = true:=by kernel_rfl
theorem zgW:Tryz.prog.mainIs = some (Rows.fnExactSyncStoreCard.stood.harness.1,Rows.fnExactSyncStoreCard.stood.harness.2.toList):=by kernel_rfl
theorem zeQ:true = Tryz.prog.looks []:=by kernel_rfl
theorem zgX:false = Rows.fnExactSyncStoreRow.goesBy Tryz.prog:=by kernel_rfl
theorem held:Rows.FnExactSyncStoreSaid :=
 OpenClaim.holds_of_wide 7 Tryz.f7 rfl rfl rfl rfl rfl rfl rfl ⟨rfl,rfl,rfl,rfl,rfl⟩ rfl rfl rfl rfl rfl (by kernel_rfl) Tryz.func7 closed
  (of_decide_eq_true (by kernel_rfl)) (by unfold Func.isWrapper; first | (rw [if_pos (by decide +kernel)]; kernel_rfl) | (rw [if_neg (by decide +kernel)]; exact ⟨rfl,rfl⟩))
  (fun os started H enc _ => zeP os started H enc)
theorem ziR:Rows.FnExactSyncStoreCardSaid :=
 Claim7.holds_tied_plain_at .later [] [.data,.data,.data,.data,.sentinel,.sentinel,.pinned] true Rows.fnExactSyncStoreCard.stood.harness true
  held (fun _ h => by cases h) wf0 (fun _ h => by cases h) fnExactSyncStore_row_tie rfl ⟨rfl,rfl⟩ zgW rfl
  (fun f fn hf hfn => by
   obtain rfl : f = 7 := Option.some.inj ((show Tryz.prog.funcNamed "loop.example/g00421/laws.FnExactSyncStore" = some 7 by kernel_rfl).symm.trans hf) |>.symm
   obtain rfl:fn = Tryz.f7:=(Option.some.inj (Tryz.func7.symm.trans hfn)).symm
   refine ⟨zeQ,fun j t ht => ?_⟩;rw [Tryz.params7] at ht;have hm:t ∈ [62]:=by simpa using Array.mem_of_getElem? ht
   have hall:([62].all fun u => !Tryz.prog.wantsStandIn u) = true:=by kernel_rfl
   exact (show Tryz.prog.wantsStandIn t = false by simpa using List.all_eq_true.1 hall t hm))
  zgX
end Go.Proofs.YtanlnhkagepniaaGreatDoor.FnExactSyncStore
