/- Part 3 of a proof: Drw0, Drw1M, IntM, Drw1, Drw2, Drw3, Lcg2, Drw4, Drw5, Drw6, Drw7, Drw8, AtR, PvBl, RowArg, PvB3, PthFn, PthM, FindI, DecDef, Dec, RdDec, Errs, PvOldT, RdcI, WthI, KidI, TabsLow, TS, PutG, PrefS0, AppS, CloneS, ClnF, NrE, VEq0, TagDef, PlainDef, VOk, Vfm, PthL, DecT, PthsS, PthsI, GetPath, Rep2, OldSB, BoxV, GpS, Part, GetPI, Read -/
import Derived.Test.YtanjncmokckjiaaGreatDoorPb2
import Derived.Lib.ItoaLen
import Derived.Lib.AppendIntMem
import Derived.Lib.LazyBuf
import Derived.ProofKit
namespace Go.Proofs.YtanjncmokckjiaaGreatDoor
open Go.RowKit
set_option maxHeartbeats 4000000
set_option maxRecDepth 100000
open List
section
structure NR (nt:Nat) (live:List Nat) (n:Nat) (l:List Nat) (cs:List PC):Prop where
 own:ownedL cs = true
 nd:(toksL cs).Nodup
 mem:∀ t ∈ toksL cs,nt <= t /\ t < n /\ t ∈ l
 keep:∀ t ∈ live,2 <= t -> t < nt -> t ∈ l
 le:nt <= n
theorem NR.refl (nt:Nat) (live:List Nat):NR nt live nt live []:=⟨rfl,nodup_nil,fun t h => (by cases h),fun t h _ _ => h,lR⟩
theorem NR.trans {nt n1 n2:Nat} {live l1 l2:List Nat} {a b:List PC} (h:NR nt live n1 l1 a) (k:NR n1 l1 n2 l2 b):NR nt live n2 l2 (a ++ b):=by
 refine ⟨by rw [zaB,h.own,k.own]; rfl,?_,fun t ht => ?_,fun t ht h2 hlt => k.keep t (h.keep t ht h2 hlt) h2 (by have:=h.le; omega),Nat.le_trans h.le k.le⟩
 ·rw [zas]
  refine nodup_append.2 ⟨h.nd,k.nd,fun x hx y hy e => ?_⟩;subst e
  have:=h.mem x hx; have:=k.mem x hy; omega
 ·rw [zas] at ht
  rcases mem_append.1 ht with ht | ht
  ·obtain ⟨a1,a2,a3⟩:=h.mem t ht
   exact ⟨a1,by have:=k.le; omega,k.keep t a3 (zbb _ t ht) a2⟩
  ·obtain ⟨a1,a2,a3⟩:=k.mem t ht
   exact ⟨by have:=h.le; omega,a2,a3⟩
theorem NR.plain {nt n:Nat} {live l:List Nat} {cs ds:List PC} (h:NR nt live n l cs) (ho:ownedL ds = true) (ht:toksL ds = toksL cs):NR nt live n l ds:=⟨ho,by rw [ht]; exact h.nd,fun t h' => h.mem t (by rw [ht] at h'; exact h'),h.keep,h.le⟩
theorem NR.mono {nt n n':Nat} {live l l':List Nat} {cs:List PC} (h:NR nt live n l cs) (hn:n <= n') (hl:∀ t ∈ l,2 <= t -> t < n -> t ∈ l'):NR nt live n' l' cs :=
 ⟨h.own,h.nd,fun t ht => by obtain ⟨a,b,c⟩:=h.mem t ht; exact ⟨a,by omega,hl t c (zbb _ t ht) b⟩,fun t ht h2 hlt => hl t (h.keep t ht h2 hlt) h2 (by have:=h.le; omega),Nat.le_trans h.le hn⟩
theorem NR.forget {nt n:Nat} {live l:List Nat} {cs:List PC} (h:NR nt live n l cs):NR nt live n l []:=⟨rfl,nodup_nil,fun t h => (by cases h),h.keep,h.le⟩
theorem zbd:∀ es:LP PC,toksLL es = toksL es.flatten
 | [] => rfl
 | e :: es => by rw [toksLL,flatten_cons,zas,zbd es]
theorem zbj:∀ es:LP PC,ownedLL es = ownedL es.flatten
 | [] => rfl
 | e :: es => by rw [ownedLL,flatten_cons,zaB,zbj es]
theorem NR.lit {nt n:Nat} {live l:List Nat} {es:LP PC} (h2:2 <= nt) (h:NR nt live n l es.flatten):NR nt live (n + 1) (n :: l) [.sl n es]:=by
 have hn:=h.le;refine ⟨?_,?_,fun t ht => ?_,fun t ht a b => mem_cons_of_mem _ (h.keep t ht a b),by omega⟩
 ·rw [ownedL,zbS (by omega),zbj,h.own]; rfl
 ·rw [toksL,zaV (by omega),zbd]
  simp only [toksL,append_nil];exact nodup_cons.2 ⟨fun hm => by have:=h.mem n hm; omega,h.nd⟩
 ·rw [toksL,zaV (by omega),zbd] at ht
  simp only [toksL,append_nil] at ht
  rcases mem_cons.1 ht with rfl | ht
  ·exact ⟨hn,by omega,mem_cons_self ..⟩
  ·obtain ⟨a,b,c⟩:=h.mem t ht
   exact ⟨a,by omega,mem_cons_of_mem _ c⟩
theorem NR.app {nt n t:Nat} {live l:List Nat} {a b:List PC} {rows ds:LP PC} (h2:2 <= nt) (ht:t = 1 /\ rows = [] \/ 2 <= t) (h:NR nt live n l (a ++ .sl t rows :: b ++ ds.flatten)) :
  NR nt live (n + 1) (n :: l.filter (· != t)) (a ++ .sl n (rows ++ ds) :: b):=by
 have hn:=h.le;obtain ⟨o1,o2,o3,o4,_⟩:=h
 have hO:ownedL a = true /\ ownedLL rows = true /\ ownedL b = true /\ ownedL ds.flatten = true:=by
  rw [zaB,zaB,ownedL] at o1;simp only [Bool.and_eq_true] at o1;refine ⟨o1.1.1,?_,o1.1.2.2,o1.2⟩
  rcases ht with ⟨_,rfl⟩ | ht
  ·rfl
  ·rw [zbS ht] at o1; exact o1.1.2.1
 have hT:∃ L,toksL (a ++ .sl t rows :: b ++ ds.flatten) = toksL a ++ ((L ++ toksLL rows) ++ toksL b) ++ toksL ds.flatten /\ (2 <= t -> t ∈ L):=by
  rcases ht with ⟨rfl,rfl⟩ | ht
  ·exact ⟨[],by rw [zas,zas,toksL]; rfl,fun h => by omega⟩
  ·exact ⟨[t],by rw [zas,zas,toksL,zaV ht]; rfl,fun _ => by simp⟩
 obtain ⟨L,hT,hL⟩:=hT;rw [hT] at o2 o3
 have hne:∀ x,x ∈ toksL a \/ x ∈ toksLL rows \/ x ∈ toksL b \/ x ∈ toksL ds.flatten -> x ≠ t:=fun x hx e => by
  subst e
  have h2x:2 <= x:=by
   rcases hx with hx | hx | hx | hx
   ·exact zbb _ x hx
   ·exact toksLL_ge _ x hx
   ·exact zbb _ x hx
   ·exact zbb _ x hx
  have:=hL h2x
  simp only [nodup_append,mem_append] at o2
  rcases hx with hx | hx | hx | hx
  ·exact o2.1.2.2 x hx x (.inl (.inl this)) rfl
  ·exact o2.1.2.1.1.2.2 x this x hx rfl
  ·exact o2.1.2.1.2.2 x (.inl this) x hx rfl
  ·exact o2.2.2 x (.inr (.inl (.inl this))) x hx rfl
 have hmem:∀ x,x ∈ toksL a \/ x ∈ toksLL rows \/ x ∈ toksL b \/ x ∈ toksL ds.flatten -> nt <= x /\ x < n /\ x ∈ l:=fun x hx => o3 x (by
  simp only [mem_append]
  rcases hx with hx | hx | hx | hx
  ·exact .inl (.inl hx)
  ·exact .inl (.inr (.inl (.inr hx)))
  ·exact .inl (.inr (.inr hx))
  ·exact .inr hx)
 have eT:toksL (a ++ .sl n (rows ++ ds) :: b) = toksL a ++ (n :: (toksLL rows ++ toksL ds.flatten) ++ toksL b):=by
  rw [zas,toksL,zaV (by omega),zbR,zbd ds]
 refine ⟨?_,?_,fun x hx => ?_,fun x hx hx2 hlt => ?_,by omega⟩
 ·rw [zaB,ownedL,zbS (by omega),zbz,zbj ds,hO.1,hO.2.1,hO.2.2.1,hO.2.2.2]; rfl
 ·rw [eT]
  simp only [nodup_append,mem_append,nodup_cons,mem_cons,cons_append] at o2 ⊢;refine ⟨o2.1.1,⟨fun hx => ?_,⟨o2.1.2.1.1.2.1,o2.2.1,fun x hx y hy e => o2.2.2 x (.inr (.inl (.inr hx))) y hy e⟩,o2.1.2.1.2.1,fun x hx y hy e => ?_⟩,fun x hx y hy e => ?_⟩
  ·have:=hmem n (by rcases hx with (hx | hx) | hx <;> simp [hx]); omega
  ·rcases hx with hx | hx
   ·exact o2.1.2.1.2.2 x (.inr hx) y hy e
   ·exact o2.2.2 y (.inr (.inr hy)) x hx e.symm
  ·rcases hy with rfl | (hy | hy) | hy
   ·have:=hmem x (.inl hx); omega
   ·exact o2.1.2.2 x hx y (.inl (.inr hy)) e
   ·exact o2.2.2 x (.inl hx) y hy e
   ·exact o2.1.2.2 x hx y (.inr hy) e
 ·rw [eT] at hx
  simp only [mem_append,mem_cons,cons_append] at hx
  have old:x ∈ toksL a \/ x ∈ toksLL rows \/ x ∈ toksL b \/ x ∈ toksL ds.flatten -> nt <= x /\ x < n + 1 /\ x ∈ n :: l.filter (· != t):=fun h => by
   obtain ⟨a1,a2,a3⟩:=hmem x h;exact ⟨a1,by omega,mem_cons_of_mem _ (mem_filter.2 ⟨a3,by simpa using hne x h⟩)⟩
  rcases hx with hx | rfl | (hx | hx) | hx
  ·exact old (.inl hx)
  ·exact ⟨hn,by omega,mem_cons_self ..⟩
  ·exact old (.inr (.inl hx))
  ·exact old (.inr (.inr (.inr hx)))
  ·exact old (.inr (.inr (.inl hx)))
 ·refine mem_cons_of_mem _ (mem_filter.2 ⟨o4 x hx hx2 hlt,?_⟩)
  simp only [bne_iff_ne,ne_eq];rintro rfl
  have:=o3 x (by have:=hL hx2; simp [this]); omega
theorem NR.lw {nt n k:Nat} {live l:List Nat} {cs:List PC} (h:NR nt live n l cs):lwL k cs:=zcS h.own
theorem po_gt {E:Env} {d:Nat} {k:Nat} {r:List MOpr} {K:St -> Prop} {tm:Nat -> PV} {bx:LP PC} {nt:Nat} {live:List Nat} {f:Nat} {xs:List X} {args:List PV} {g:Option (Nat × Bool)} {R:PV -> LP PC -> Nat -> List Nat -> Prop} (hg:gd g tm = some true) (hd:xs.map (ev tm) = args) (hF:FnG E f args bx nt live R)
  (h:∀ x bx' nt' live',R x bx' nt' live' -> po E r K ⟨up d x tm,bx',nt',live'⟩):po E (⟨some d,.call f xs,g,[.f k]⟩ :: r) K ⟨tm,bx,nt,live⟩:=by
 subst hd;refine ⟨true,hg,.inl ⟨rfl,.inr ⟨rfl,R,hF,fun x bx' nt' live' hR => ⟨fun y hy => by rw [mem_singleton] at hy; subst hy; exact zb4 _ _ _ _,?_⟩⟩⟩⟩;rw [zaT]; exact h x bx' nt' live' hR
/-! ### the cursor -/
def cuC (b:L8) (i h:Int):List PC:=[.sl 0 (pcB b),pI i,pI h]
def Cu (b:L8) (c:List PC):Prop:=∃ (i:Nat) (h:Int),i <= b.length /\ i64ok h /\ c = cuC b i h
theorem ze0 {b:L8} {k:Nat} {x:UInt8} (h:b[k]? = some x):(pcB b)[k]? = some [.v (.int .u8 x.toNat)]:=by simp [pcB,h]
theorem pcB_lw (n:Nat):∀ b:L8,lwLL n (pcB b)
 | [] => by simp only [pcB,map_nil,lwLL]
 | x :: b => by
  have:=pcB_lw n b
  simp only [pcB,map_cons,lwLL,lwL,PC.lw] at this ⊢;exact ⟨⟨trivial,trivial⟩,this⟩
theorem cuC_lw (b:L8) (i h:Int) (n:Nat):lwL n (cuC b i h):=by
 simp only [cuC,lwL,PC.lw,pI,and_true]; exact pcB_lw n b
theorem Cu.lw {b:L8} {c:List PC} (h:Cu b c):lwL 0 c:=by obtain ⟨i,q,_,_,rfl⟩:=h; exact cuC_lw ..
def Drw (E:Env) (b:L8) (f:Nat) (args:List PV) (Q:Nat -> List Nat -> PV -> Nat -> List Nat -> Prop):Prop :=
 ∀ (c:List PC) (nt:Nat) (live:List Nat),Cu b c -> 2 <= nt -> FnG E f (.ref 0 0 :: args) [c] nt live (fun x bx n l => ∃ c' rest,bx = c' :: rest /\ x.lw 0 /\ lwL 0 c' /\ Cu b c' /\ Q nt live x n l)
theorem Drw.use {E:Env} {b:L8} {f:Nat} {args:List PV} {Q:Nat -> List Nat -> PV -> Nat -> List Nat -> Prop} (h:Drw E b f args Q) (ha:lwVs 0 args) {c:List PC} {bx:LP PC} {p nt:Nat} {live:List Nat} (hc:Cu b c) (hn:2 <= nt) (hp:bx[p]? = some c) :
  FnG E f (.ref p 0 :: args) bx nt live (fun x b' n l => ∃ c',b' = bx.set p c' /\ Cu b c' /\ Q nt live x n l) :=
 FnG.lift1 (R:=fun x c' n l => Cu b c' /\ Q nt live x n l) (h c nt live hc hn) ha hc.lw hp
theorem NR.pass {nt n1 n2:Nat} {live l1 l2:List Nat} {cs:List PC} (h:NR nt live n1 l1 cs) (k:NR n1 l1 n2 l2 []):NR nt live n2 l2 cs:=by
 have:=h.trans k
 rwa [append_nil] at this
def QN (lo hi:Int):Nat -> List Nat -> PV -> Nat -> List Nat -> Prop:=fun nt live x n l => ∃ r:Int,x = .d (pI r) /\ lo <= r /\ r <= hi /\ NR nt live n l []
def QT (P:L8 -> Prop):Nat -> List Nat -> PV -> Nat -> List Nat -> Prop:=fun nt live x n l => ∃ s,x = .d (pS s) /\ P s /\ NR nt live n l []
def QB:Nat -> List Nat -> PV -> Nat -> List Nat -> Prop:=fun nt live x n l => ∃ r:Bool,x = .d (pB r) /\ NR nt live n l []
/-! ### values that are drawn -/
mutual
def V.few:V -> Prop
 | .mk k _ _ _ kids => (k = 8 -> kids.length <= 8) /\ V.fews kids
def V.fews:List V -> Prop
 | [] => True
 | v :: vs => v.few /\ V.fews vs
end
theorem V.fews_all:∀ {vs:List V},V.fews vs ↔ ∀ v ∈ vs,v.few
 | [] => by simp [V.fews]
 | v :: vs => by simp only [V.fews,mem_cons,forall_eq_or_imp,V.fews_all (vs:=vs)]
theorem V.wfs_all:∀ {vs:List V},V.wfs vs ↔ ∀ v ∈ vs,v.wf
 | [] => by simp [V.wfs]
 | v :: vs => by simp only [V.wfs,mem_cons,forall_eq_or_imp,V.wfs_all (vs:=vs)]
structure Gd (B:Nat) (v:V):Prop where
 wf:v.wf
 few:v.few
 bulk:v.bulk <= B
theorem Gd.mono {B B':Nat} {v:V} (h:Gd B v) (k:B <= B'):Gd B' v:=⟨h.wf,h.few,Nat.le_trans h.bulk k⟩
def RowT (cs:List PC):Prop:=∃ (a b c d:PC) (t:Nat) (rows:LP PC),cs = [a,b,c,d,.sl t rows] /\ (t = 1 /\ rows = [] \/ 2 <= t)
def QV (K B:Nat):Nat -> List Nat -> PV -> Nat -> List Nat -> Prop:=fun nt live x n l => ∃ cs v,x = .ag cs /\ NR nt live n l cs /\ erL cs = vC v /\ Gd B v /\ RowT cs /\ v.kids.length <= K
end
section
def m_s_l01New:M:=so [qo 2 (.mv (.c (.pointer none)))] (so [qm 5 0,qo 6 (.len 5),qo 7 (.bin .add false (ci 421421) 6),qm 3 7] (.seq (so [qo 4 (.mv (ci 0))] (.block 0 (.loop (.seq (so [qm 8 4,qm 9 0,qo 10 (.len 9),qo 11 (.bin .lss false 8 10),qm 12 11,qg 13 4 12 true,⟨some 14,.bin .lss false 13 (ci 4000),some (12,true),[]⟩,qo 15 (.pick 12 14 (cB false))] (.cond 15 .skip (.exit 0))) (.seq (.block 1 (.ops [qm 18 3,qo 19 (.bin .mul false 18 (ci 131)),qm 20 0,qm 21 4,qo 22 (.ix 1 20 21),ql 23 1 22,qo 24 (.conv .i64 23),qo 25 (.bin .add false 19 24),qo 26 (.bin .add false 25 (ci 7)),qo 27 (.bin .and false 26 (ci 1073741823)),qm 3 27])) (.ops [qm 16 4,qo 17 (.bin .add false 16 (ci 1)),qm 4 17])))))) (so [qm 28 0,qm 29 3,qo 30 (.build [.slice none 0 0,.int .i64 0,.int .i64 0] [(0,1,28),(2,1,29)]),qo 31 (.box 30),qm 2 31] .ret)))
theorem ze1:look Tryz.prog 17 = some (32,m_s_l01New,[.tm 2]):=by kernel_rfl
def m_s_l01Below:M:=so [qo 4 (.mv (ci 0))] (.seq (so [qm 9 1,qo 10 (.bin .leq false 9 (ci 0))] (.cond 10 (so [qo 4 (.mv (ci 0))] .ret) .skip)) (.seq (so [qm 11 1,qo 12 (.bin .leq false 11 (ci 256))] (.cond 12 (so [qm 13 0,qc 14 36 [13] 1,qm 15 1,qo 16 (.bin .rem false 14 15),qm 4 16] .ret) .skip)) (so [qm 17 0,qc 18 36 [17] 1,qm 5 18] (so [qm 19 0,qc 20 36 [19] 1,qm 6 20] (so [qm 21 0,qc 22 36 [21] 1,qm 7 22] (so [qm 23 0,qc 24 36 [23] 1,qm 8 24] (so [qm 25 5,qo 26 (.bin .mul false 25 (ci 16777216)),qm 27 6,qo 28 (.bin .mul false 27 (ci 65536)),qo 29 (.bin .add false 26 28),qm 30 7,qo 31 (.bin .mul false 30 (ci 256)),qo 32 (.bin .add false 29 31),qm 33 8,qo 34 (.bin .add false 32 33),qm 35 1,qo 36 (.bin .rem false 34 35),qm 4 36] .ret)))))))
theorem zbW:look Tryz.prog 18 = some (37,m_s_l01Below,[.tm 4]):=by kernel_rfl
def m_s_l01Once:M:=so [qo 4 (.mv (cB false))] (so [qm 5 0,qm 6 1,qc 7 18 [5,6] 1,qo 8 (.bin .eql false 7 (ci 0)),qm 4 8] .ret)
theorem zeh:look Tryz.prog 19 = some (9,m_s_l01Once,[.tm 4]):=by kernel_rfl
def m_s_l01Pick:M:=so [⟨some 4,.mv (.c (.string ⟨[].toArray⟩)),none,[]⟩] (so [qm 5 1,qm 6 0,qm 7 1,qo 8 (.len 7),qc 9 18 [6,8] 1,qo 10 (.ix 1 5 9),ql 11 1 10,qm 4 11] .ret)
theorem zei:look Tryz.prog 20 = some (12,m_s_l01Pick,[.tm 4]):=by kernel_rfl
def m_s_l01Byte:M:=so [qo 2 (.mv (ci 0))] (so [qm 4 0,qm 5 0,qo 6 (.nilc 5),qF 7 2 6,ql 8 1 7,qo 9 (.bin .mul false 8 (ci 6364136223846793005)),qo 10 (.bin .add false 9 (ci 1442695040888963407)),qo 11 (.nilc 4),qF 12 2 11,qS 1 12 10] (so [qm 13 0,qo 14 (.nilc 13),qF 15 2 14,ql 16 1 15,qo 17 (.bin .shr false 16 (.c (.int .u64 33))),qm 18 0,qo 19 (.nilc 18),qF 20 2 19,ql 21 1 20,qo 22 (.bin .shr false 21 (.c (.int .u64 45))),qo 23 (.bin .xor false 17 22),qo 24 (.bin .and false 23 (ci 255)),qm 3 24] (.seq (so [qm 25 0,qo 26 (.nilc 25),qF 27 1 26,ql 28 1 27,qm 29 0,qo 30 (.nilc 29),qF 31 0 30,ql 32 1 31,qo 33 (.len 32),qo 34 (.bin .lss false 28 33)] (.cond 34 (so [qm 35 3,qm 36 0,qo 37 (.nilc 36),qF 38 0 37,ql 39 1 38,qm 40 0,qo 41 (.nilc 40),qF 42 1 41,ql 43 1 42,qo 44 (.ix 1 39 43),ql 45 1 44,qo 46 (.conv .i64 45),qo 47 (.bin .add false 35 46),qo 48 (.bin .and false 47 (ci 255)),qm 3 48] (.ops [qm 49 0,qm 50 0,qo 51 (.nilc 50),qF 52 1 51,ql 53 1 52,qo 54 (.bin .add false 53 (ci 1)),qo 55 (.nilc 49),qF 56 1 55,qS 1 56 54])) .skip)) (so [qm 57 3,qm 2 57] .ret))))
theorem zej:look Tryz.prog 36 = some (58,m_s_l01Byte,[.tm 2]):=by kernel_rfl
def m_s_l02Any:M:=so [⟨some 2,.zero [.int .i64 0,.int .i64 0,.int .i64 0,.string ⟨[].toArray⟩,.slice none 0 0],none,[]⟩] (so [qm 8 0,qm 9 0,qc 10 19 [9,ci 3] 1,qc 11 44 [8,ci 3,10] 1,⟨some 3,.zero [.int .i64 0,.int .i64 0,.int .i64 0,.string ⟨[].toArray⟩,.slice none 0 0],none,[]⟩,qS 5 3 11] (.seq (so [qm 12 0,qc 13 18 [12,ci 24] 1] (.block 0 (so [qo 15 (.bin .eql false 13 (ci 0)),qm 14 15] (.cond 14 (.ops [qm 16 0,qc 17 18 [16,ci 12] 1,qo 18 (.bin .sub false 17 (ci 1)),qF 19 0 3,qS 1 19 18]) (so [qo 21 (.bin .eql false 13 (ci 1)),qm 20 21] (.cond 20 (.ops [qm 22 0,qo 23 (.lit 1 [ci 1,ci 10,ci (-1),ci 1000001]),qc 24 60 [22,23] 1,qF 25 1 3,qS 1 25 24]) (so [qo 27 (.bin .eql false 13 (ci 2)),qm 26 27] (.cond 26 (.ops [qF 28 4 3,ql 29 1 28,qm 30 0,⟨some 31,.call 61 [30,cB false],none,[.f 0,28]⟩,qo 32 (.litq 5 [31]),⟨some 33,.app 5 29 32,none,[.f 0]⟩,qF 34 4 3,qS 1 34 33]) (so [qo 36 (.bin .eql false 13 (ci 3)),qm 35 36] (.cond 35 (so [⟨some 37,.call 62 [.c (.string ⟨[97].toArray⟩)],none,[.f 1]⟩,qc 38 63 [ci 1] 1,⟨some 39,.call 62 [.c (.string ⟨[97].toArray⟩)],none,[.f 1]⟩,qc 40 63 [ci 2] 1,qo 41 (.lit 5 [37,38,39,40]),⟨some 42,.build [.int .i64 0,.int .i64 0,.int .i64 0,.string ⟨[].toArray⟩,.slice none 0 0] [(0,1,ci 8),(4,1,41)],none,[]⟩,qS 5 2 42] .ret) (so [qo 44 (.bin .eql false 13 (ci 4)),qm 43 44] (.cond 43 (so [qm 45 0,qc 46 18 [45,ci 3] 1,qo 47 (.bin .add false (ci 11) 46),qm 4 47] (so [qo 5 (.mv (ci 0))] (.block 1 (.loop (.seq (so [qm 48 5,qm 49 4,qo 50 (.bin .lss false 48 49)] (.cond 50 .skip (.exit 1))) (.seq (.block 2 (.ops [qL 53 5 3,qo 54 (.lit 5 [53]),⟨some 55,.build [.int .i64 0,.int .i64 0,.int .i64 0,.string ⟨[].toArray⟩,.slice none 0 0] [(0,1,ci 7),(4,1,54)],none,[]⟩,qS 5 3 55])) (.ops [qm 51 5,qo 52 (.bin .add false 51 (ci 1)),qm 5 52]))))))) (so [qo 57 (.bin .eql false 13 (ci 5)),qm 56 57] (.cond 56 (so [qm 58 0,qc 59 18 [58,ci 3] 1,qo 60 (.bin .add false (ci 298) 59),qm 6 60] (so [⟨some 61,.build [.int .i64 0,.int .i64 0,.int .i64 0,.string ⟨[].toArray⟩,.slice none 0 0] [(0,1,ci 7)],none,[]⟩,qS 5 3 61] (so [qo 7 (.mv (ci 0))] (.block 3 (.loop (.seq (so [qm 62 7,qm 63 6,qo 64 (.bin .lss false 62 63)] (.cond 64 .skip (.exit 3))) (.seq (.block 4 (.ops [qF 67 4 3,ql 68 1 67,⟨some 69,.build [.int .i64 0,.int .i64 0,.int .i64 0,.string ⟨[].toArray⟩,.slice none 0 0] [],none,[]⟩,qo 70 (.lit 5 [69]),⟨some 71,.app 5 68 70,none,[.f 1]⟩,qF 72 4 3,qS 1 72 71])) (.ops [qm 65 7,qo 66 (.bin .add false 65 (ci 1)),qm 7 66])))))))) .skip)))))))))))))) (so [qL 73 5 3,qS 5 2 73] .ret)))
theorem ze2:look Tryz.prog 43 = some (74,m_s_l02Any,[.cell true 5 2]):=by kernel_rfl
def m_s_l02Make:M:=so [⟨some 6,.zero [.int .i64 0,.int .i64 0,.int .i64 0,.string ⟨[].toArray⟩,.slice none 0 0],none,[]⟩] (.seq (so [qm 12 1,qo 13 (.bin .leq false 12 (ci 0)),qm 14 13,qg 15 0 14 false,⟨some 16,.call 19 [15,ci 3],some (14,false),[.f 1]⟩,qo 17 (.pick 14 (cB true) 16)] (.cond 17 (so [qm 18 0,qm 19 2,qc 20 61 [18,19] 1,qS 5 6 20] .ret) .skip)) (so [⟨some 21,.build [.int .i64 0,.int .i64 0,.int .i64 0,.string ⟨[].toArray⟩,.slice none 0 0] [(0,1,ci 7)],none,[]⟩,⟨some 7,.zero [.int .i64 0,.int .i64 0,.int .i64 0,.string ⟨[].toArray⟩,.slice none 0 0],none,[]⟩,qS 5 7 21] (so [qm 22 0,qc 23 18 [22,ci 4] 1,qm 8 23] (.seq (so [qm 24 0,qc 25 18 [24,ci 5] 1] (.block 0 (so [qo 27 (.bin .eql false 25 (ci 0)),qm 26 27] (.cond 26 (so [qm 28 2,qo 29 (.not 28)] (.cond 29 (so [qm 30 0,qo 31 (.lit 1 [ci 0,ci 1,ci 24,ci 1000,ci 1000000]),qc 32 60 [30,31] 1,qm 33 0,qm 34 1,qo 35 (.bin .sub false 34 (ci 1)),qm 36 2,qc 37 44 [33,35,36] 1,qo 38 (.lit 5 [37]),⟨some 39,.build [.int .i64 0,.int .i64 0,.int .i64 0,.string ⟨[].toArray⟩,.slice none 0 0] [(0,1,ci 9),(1,1,32),(4,1,38)],none,[]⟩,qS 5 6 39] .ret) .skip)) (.seq (so [qo 41 (.bin .eql false 25 (ci 1)),qm 40 41] (.cond 40 .skip (.ops [qo 42 (.bin .eql false 25 (ci 2)),qm 40 42]))) (.cond 40 (so [qF 43 0 7,⟨none,.store 1 43 (ci 8),none,[]⟩] (.seq (so [qo 9 (.mv (ci 0))] (.block 1 (.loop (.seq (so [qm 44 9,qm 45 8,qo 46 (.bin .lss false 44 45)] (.cond 46 .skip (.exit 1))) (.seq (.block 2 (so [⟨some 49,.lit 1 [.c (.string ⟨[110,97,109,101].toArray⟩),.c (.string ⟨[105,100].toArray⟩),.c (.string ⟨[108,105,115,116].toArray⟩),.c (.string ⟨[99,111,109,109,111,110,32,107,101,121].toArray⟩)],none,[]⟩,qm 50 9,qo 51 (.ix 1 49 50),ql 52 1 51,qc 53 62 [52] 1,⟨some 10,.zero [.int .i64 0,.int .i64 0,.int .i64 0,.string ⟨[].toArray⟩,.slice none 0 0],none,[]⟩,qS 5 10 53] (.seq (so [qm 54 0,qc 55 19 [54,ci 8] 1,qm 56 55,qg 57 2 56 true,⟨some 58,.not 57,some (56,true),[]⟩,qo 59 (.pick 56 58 (cB false))] (.cond 59 (.ops [qm 60 9,qc 61 63 [60] 1,qS 5 10 61]) .skip)) (.ops [qF 62 4 7,ql 63 1 62,qL 64 5 10,qm 65 0,qm 66 1,qo 67 (.bin .sub false 66 (ci 1)),qm 68 2,⟨some 69,.call 44 [65,67,68],none,[.f 0,62,10]⟩,qo 70 (.litq 5 [64,69]),⟨some 71,.app 5 63 70,none,[.f 0]⟩,qF 72 4 7,qS 1 72 71])))) (.ops [qm 47 9,qo 48 (.bin .add false 47 (ci 1)),qm 9 48])))))) (so [qL 73 5 7,qS 5 6 73] .ret))) .skip)))))) (.seq (so [qo 11 (.mv (ci 0))] (.block 3 (.loop (.seq (so [qm 74 11,qm 75 8,qo 76 (.bin .lss false 74 75)] (.cond 76 .skip (.exit 3))) (.seq (.block 4 (.ops [qF 79 4 7,ql 80 1 79,qm 81 0,qm 82 1,qo 83 (.bin .sub false 82 (ci 1)),qm 84 2,⟨some 85,.call 44 [81,83,84],none,[.f 0,79]⟩,qo 86 (.litq 5 [85]),⟨some 87,.app 5 80 86,none,[.f 0]⟩,qF 88 4 7,qS 1 88 87])) (.ops [qm 77 11,qo 78 (.bin .add false 77 (ci 1)),qm 11 78])))))) (so [qL 89 5 7,qS 5 6 89] .ret))))))
theorem zcn:look Tryz.prog 44 = some (90,m_s_l02Make,[.cell true 5 6]):=by kernel_rfl
def m_s_l01PickInt:M:=so [qo 4 (.mv (ci 0))] (so [qm 5 1,qm 6 0,qm 7 1,qo 8 (.len 7),qc 9 18 [6,8] 1,qo 10 (.ix 1 5 9),ql 11 1 10,qm 4 11] .ret)
theorem zcU:look Tryz.prog 60 = some (12,m_s_l01PickInt,[.tm 4]):=by kernel_rfl
def m_s_l02Leaf:M:=so [⟨some 4,.zero [.int .i64 0,.int .i64 0,.int .i64 0,.string ⟨[].toArray⟩,.slice none 0 0],none,[]⟩] (.seq (so [qm 5 0,qc 6 18 [5,ci 9] 1] (.block 0 (so [qo 8 (.bin .eql false 6 (ci 0)),qm 7 8] (.cond 7 (so [qm 9 0,qc 10 18 [9,ci 3] 1,⟨some 11,.build [.int .i64 0,.int .i64 0,.int .i64 0,.string ⟨[].toArray⟩,.slice none 0 0] [(0,1,10)],none,[]⟩,qS 5 4 11] .ret) (so [qo 13 (.bin .eql false 6 (ci 1)),qm 12 13] (.cond 12 (so [qm 14 0,qo 15 (.lit 1 [ci 15,ci (-3),ci 1,ci 9007199254740993,ci (-999999999999999999)]),qc 16 60 [14,15] 1,qm 17 0,qo 18 (.lit 1 [ci (-1),ci (-2),ci 19,ci 20,ci (-20)]),qc 19 60 [17,18] 1,⟨some 20,.build [.int .i64 0,.int .i64 0,.int .i64 0,.string ⟨[].toArray⟩,.slice none 0 0] [(0,1,ci 4),(1,1,16),(2,1,19)],none,[]⟩,qS 5 4 20] .ret) (so [qo 22 (.bin .eql false 6 (ci 2)),qm 21 22] (.cond 21 (so [qm 23 1,qo 24 (.not 23)] (.cond 24 (so [qm 25 0,qm 26 0,qc 27 18 [26,ci 8] 1,qc 28 81 [25,27] 1,⟨some 29,.build [.int .i64 0,.int .i64 0,.int .i64 0,.string ⟨[].toArray⟩,.slice none 0 0] [(0,1,ci 6),(3,1,28)],none,[]⟩,qS 5 4 29] .ret) .skip)) (.seq (so [qo 31 (.bin .eql false 6 (ci 3)),qm 30 31] (.cond 30 .skip (.ops [qo 32 (.bin .eql false 6 (ci 4)),qm 30 32]))) (.cond 30 (so [qm 33 0,⟨some 34,.lit 1 [.c (.string ⟨[99,111,109,109,111,110,32,118,97,108,117,101].toArray⟩),.c (.string ⟨[99,111,109,109,111,110,32,118,97,108].toArray⟩),.c (.string ⟨[97,110,111,116,104,101,114,32,99,111,109,109,111,110,32,118,97,108,117,101].toArray⟩),.c (.string ⟨[120].toArray⟩),.c (.string ⟨[].toArray⟩)],none,[]⟩,qc 35 20 [33,34] 1,qc 36 62 [35] 1,qS 5 4 36] .ret) (so [qo 38 (.bin .eql false 6 (ci 5)),qm 37 38] (.cond 37 (so [qm 39 0,qc 40 82 [39] 1,qc 41 62 [40] 1,qS 5 4 41] .ret) .skip)))))))))))) (so [qm 42 0,qm 43 0,qc 44 18 [43,ci 1000] 1,qo 45 (.lit 1 [ci 0,ci 1,ci 23,ci 24,ci 255,ci 256,ci 65535,ci 65536,ci 4294967295,ci 4294967296,ci (-1),ci (-24),ci (-25),ci (-256),ci (-257),ci 9223372036854775807,ci (-9223372036854775808),44]),qc 46 60 [42,45] 1,qc 47 63 [46] 1,qS 5 4 47] .ret))
theorem zek:look Tryz.prog 61 = some (48,m_s_l02Leaf,[.cell true 5 4]):=by kernel_rfl
def m_s_l02Str:M:=so [⟨some 2,.zero [.int .i64 0,.int .i64 0,.int .i64 0,.string ⟨[].toArray⟩,.slice none 0 0],none,[]⟩] (so [qm 3 0,⟨some 4,.build [.int .i64 0,.int .i64 0,.int .i64 0,.string ⟨[].toArray⟩,.slice none 0 0] [(0,1,ci 5),(3,1,3)],none,[]⟩,qS 5 2 4] .ret)
theorem zcV:look Tryz.prog 62 = some (5,m_s_l02Str,[.cell true 5 2]):=by kernel_rfl
def m_s_l01Text:M:=so [⟨some 4,.mv (.c (.string ⟨[].toArray⟩)),none,[]⟩] (so [qo 12 (.lit 1 []),qm 5 12] (.seq (.block 0 (.loop (.seq (so [qm 13 5,qo 14 (.len 13),qm 15 1,qo 16 (.bin .lss false 14 15)] (.cond 16 .skip (.exit 0))) (.block 1 (so [qm 17 0,qc 18 18 [17,ci 5] 1] (.block 2 (so [qo 27 (.bin .eql false 18 (ci 0)),qm 26 27] (.cond 26 (.ops [qm 28 5,qm 29 0,qc 30 36 [29] 1,qo 31 (.conv .u8 30),qo 32 (.lit 1 [31]),⟨some 33,.app 1 28 32,none,[.f 1]⟩,qm 5 33]) (so [qo 35 (.bin .eql false 18 (ci 1)),qm 34 35] (.cond 34 (so [qm 36 0,qc 37 18 [36,ci 9] 1,qm 6 37] (so [qm 38 0,qc 39 18 [38,ci 4] 1,qo 40 (.bin .add false (ci 97) 39),qo 41 (.conv .u8 40),qm 7 41] (so [qo 8 (.mv (ci 0))] (.block 3 (.loop (.seq (so [qm 42 8,qm 43 6,qo 44 (.bin .lss false 42 43)] (.cond 44 .skip (.exit 3))) (.seq (.block 4 (.ops [qm 47 5,qm 48 7,qo 49 (.lit 1 [48]),⟨some 50,.app 1 47 49,none,[.f 1]⟩,qm 5 50])) (.ops [qm 45 8,qo 46 (.bin .add false 45 (ci 1)),qm 8 46])))))))) (so [qo 52 (.bin .eql false 18 (ci 2)),qm 51 52] (.cond 51 (so [qm 53 5,qo 54 (.len 53),qo 55 (.bin .gtr false 54 (ci 0))] (.cond 55 (so [qm 56 0,qm 57 5,qo 58 (.len 57),qc 59 18 [56,58] 1,qm 9 59] (so [qm 60 0,qc 61 18 [60,ci 20] 1,qm 10 61] (so [qo 11 (.mv (ci 0))] (.block 5 (.loop (.seq (so [qm 62 11,qm 63 10,qo 64 (.bin .lss false 62 63),qm 65 64,qg 66 9 65 true,qg 67 11 65 true,⟨some 68,.bin .add false 66 67,some (65,true),[]⟩,qg 69 5 65 true,⟨some 70,.len 69,some (65,true),[]⟩,⟨some 71,.bin .lss false 68 70,some (65,true),[]⟩,qo 72 (.pick 65 71 (cB false))] (.cond 72 .skip (.exit 5))) (.seq (.block 6 (.ops [qm 75 5,qm 76 5,qm 77 9,qm 78 11,qo 79 (.bin .add false 77 78),qo 80 (.ix 1 76 79),ql 81 1 80,qo 82 (.lit 1 [81]),⟨some 83,.app 1 75 82,none,[.f 1]⟩,qm 5 83])) (.ops [qm 73 11,qo 74 (.bin .add false 73 (ci 1)),qm 11 74])))))))) .skip)) (.ops [qm 19 5,qm 20 0,qc 21 18 [20,ci 26] 1,qo 22 (.bin .add false (ci 97) 21),qo 23 (.conv .u8 22),qo 24 (.lit 1 [23]),⟨some 25,.app 1 19 24,none,[.f 1]⟩,qm 5 25]))))))))))))) (so [qm 84 5,qm 85 1,qo 86 (.slc 1 84 none (some 85)),qo 87 (.b2s 86),qm 4 87] .ret)))
theorem zel:look Tryz.prog 81 = some (88,m_s_l01Text,[.tm 4]):=by kernel_rfl
def m_s_l01Some:M:=so [⟨some 2,.mv (.c (.string ⟨[].toArray⟩)),none,[]⟩] (so [⟨some 3,.mv (.c (.string ⟨[].toArray⟩)),none,[]⟩] (so [qm 6 0,qc 7 18 [6,ci 5] 1,qm 4 7] (.seq (so [qo 5 (.mv (ci 0))] (.block 0 (.loop (.seq (so [qm 8 5,qm 9 4,qo 10 (.bin .lss false 8 9)] (.cond 10 .skip (.exit 0))) (.seq (.block 1 (.ops [qm 13 3,qm 14 0,⟨some 15,.lit 1 [.c (.string ⟨[97].toArray⟩),.c (.string ⟨[98].toArray⟩),.c (.string ⟨[110,97,109,101].toArray⟩),.c (.string ⟨[34].toArray⟩),.c (.string ⟨[92].toArray⟩),.c (.string ⟨[10].toArray⟩),.c (.string ⟨[1].toArray⟩),.c (.string ⟨[195,169].toArray⟩),.c (.string ⟨[226,130,172].toArray⟩),.c (.string ⟨[240,159,152,128].toArray⟩),.c (.string ⟨[47].toArray⟩),.c (.string ⟨[48].toArray⟩),.c (.string ⟨[32].toArray⟩)],none,[]⟩,qc 16 20 [14,15] 1,qo 17 (.bin .add false 13 16),qm 3 17])) (.ops [qm 11 5,qo 12 (.bin .add false 11 (ci 1)),qm 5 12])))))) (so [qm 18 3,qm 2 18] .ret))))
theorem zem:look Tryz.prog 82 = some (19,m_s_l01Some,[.tm 2]):=by kernel_rfl
end
section
def m_s_l02Int:M:=so [⟨some 2,.zero [.int .i64 0,.int .i64 0,.int .i64 0,.string ⟨[].toArray⟩,.slice none 0 0],none,[]⟩] (so [qm 3 0,⟨some 4,.build [.int .i64 0,.int .i64 0,.int .i64 0,.string ⟨[].toArray⟩,.slice none 0 0] [(0,1,ci 3),(1,1,3)],none,[]⟩,qS 5 2 4] .ret)
theorem zcW:look Tryz.prog 63 = some (5,m_s_l02Int,[.cell true 5 2]):=by kernel_rfl
end
section
variable {T:World -> Prop} {hT:Low ngl T}
attribute [local irreducible] po mw pt
def andR (a b:Int):Int:=IntKind.i64.wrap (BitVec.ofInt 64 a &&& BitVec.ofInt 64 b).toNat
def xorR (a b:Int):Int:=IntKind.i64.wrap (BitVec.ofInt 64 a ^^^ BitVec.ofInt 64 b).toNat
theorem wrap_okD (x:Int):i64ok (IntKind.i64.wrap x):=by
 rw [IntKind.wrap_i64]; unfold i64ok; omega
theorem zca {m:Nat} (a:Int) (hm:m <= 1073741823):0 <= andR a m /\ andR a m <= m:=by
 unfold andR;rw [BitVec.toNat_and]
 have h1:(BitVec.ofInt 64 (m:Int)).toNat = m:=by
  rw [BitVec.toNat_ofInt]; omega
 have h2:=Nat.and_le_right (n:=(BitVec.ofInt 64 a).toNat) (m:=(BitVec.ofInt 64 (m:Int)).toNat);rw [h1] at h2;rw [h1,IntKind.wrap_i64];omega
def lcM (h:Int):Int:=IntKind.i64.wrap (IntKind.i64.wrap (h * 6364136223846793005) + 1442695040888963407)
def lcX (h:Int):Int:=andR (xorR (h.fdiv (2 ^ 33)) (h.fdiv (2 ^ 45))) 255
theorem zcX (h:Int):i64ok (lcM h):=wrap_okD _
theorem lcX_bd (h:Int):0 <= lcX h /\ lcX h <= 255:=zca (m:=255) _ (by decide)
def ByR (b:L8) (i:Nat) (h:Int) (nt:Nat) (live:List Nat) (x:PV) (bx:LP PC) (n:Nat) (l:List Nat):Prop :=
 ∃ (r:Int) (i':Nat),bx = [cuC b i' (lcM h)] /\ x = .d (pI r) /\ 0 <= r /\ r <= 255 /\ i' <= b.length /\ (i < b.length -> i' = i + 1) /\ (i = b.length -> i' = i /\ r = lcX (lcM h)) /\ n = nt /\ l = live
theorem byte_g {b:L8} (hb:b.length <= 2147483647) {i:Nat} (hi:i <= b.length) (h:Int) (nt:Nat) (live:List Nat) :
  FnG (env T hT) 36 [.ref 0 0] [cuC b i h] nt live (ByR b i h nt live):=by
 refine zaO (zag zej) (by show 1 <= 58; decide) fun B hB => ?_
 unfold m_s_l01Byte;refine mP ?_;refine mO ?_;(iterate 4 refine mS ?_);refine za7 (cs:=cuC b i h) (v:=.d (pI h)) rfl rfl rfl (Nat.le_refl 3) rfl ?_;refine po_q rfl rfl ?_;refine po_q rfl rfl ?_;(iterate 2 refine mS ?_);refine zaL (p:=0) (o':=2) (cs:=[pI (lcM h)]) (z:=cuC b i h) rfl rfl rfl ⟨rfl,Nat.le_refl 3⟩ rfl ?_;refine zai ?_;refine mO ?_;(iterate 3 refine mS ?_);refine za7 (cs:=cuC b i (lcM h)) (v:=.d (pI (lcM h))) rfl rfl rfl (Nat.le_refl 3) rfl ?_;refine po_q rfl rfl ?_;(iterate 3 refine mS ?_);refine za7 (cs:=cuC b i (lcM h)) (v:=.d (pI (lcM h))) rfl rfl rfl (Nat.le_refl 3) rfl ?_;refine po_q rfl rfl ?_;refine po_q rfl rfl ?_;refine po_q (v:=.d (pI (lcX (lcM h)))) rfl rfl ?_;refine mN ?_;obtain ⟨hx0,hx1⟩:=lcX_bd (lcM h);generalize hz:lcX (lcM h) = z at hx0 hx1;refine mM ?_;(iterate 3 refine mS ?_);refine za7 (cs:=cuC b i (lcM h)) (v:=.d (pI i)) rfl rfl rfl (by show 1 + 1 <= 3; decide) rfl ?_
 (iterate 3 refine mS ?_);refine za7 (cs:=cuC b i (lcM h)) (v:=.d (.sl 0 (pcB b))) rfl rfl rfl (by show 0 + 1 <= 3; decide) rfl ?_;refine zaK (n:=b.length) rfl rfl (zaQ b) ?_;by_cases hlt:i < b.length
 ·refine zah rfl rfl (decide_eq_true (by omega)) ?_
  refine zai ?_;have hg:b[i]? = some b[i]:=getElem?_eq_getElem hlt;have hbt:=(b[i]).toNat_lt;refine mwT ?_;refine mO ?_;(iterate 4 refine mS ?_);refine za7 (cs:=cuC b i (lcM h)) (v:=.d (.sl 0 (pcB b))) rfl rfl rfl (by show 0 + 1 <= 3; decide) rfl ?_;(iterate 3 refine mS ?_);refine za7 (cs:=cuC b i (lcM h)) (v:=.d (pI i)) rfl rfl rfl (by show 1 + 1 <= 3; decide) rfl ?_;refine za9 (es:=pcB b) (e:=[.v (.int .u8 (b[i]).toNat)]) rfl rfl rfl ⟨by omega,by rw [Int.toNat_natCast]; exact ze0 hg⟩ rfl ?_;refine mS ?_;refine po_cv (n:=((b[i]).toNat:Int)) rfl rfl (by rw [IntKind.wrap_i64]; omega) ?_;refine zan (n:=z + ((b[i]).toNat:Int)) rfl rfl rfl rfl (by omega) ?_;refine po_q (v:=.d (pI (andR (z + ((b[i]).toNat:Int)) 255))) rfl rfl ?_;refine mN ?_;obtain ⟨hw0,hw1⟩:=zca (m:=255) (z + ((b[i]).toNat:Int)) (by decide);refine zae ?_;(iterate 4 refine mS ?_);refine za7 (cs:=cuC b i (lcM h)) (v:=.d (pI i)) rfl rfl rfl (by show 1 + 1 <= 3; decide) rfl ?_
  refine zan (n:=((i + 1:Nat):Int)) rfl rfl rfl (by omega) (by omega) ?_;(iterate 2 refine mS ?_);refine zaL (p:=0) (o':=1) (cs:=[pI ((i + 1:Nat):Int)]) (z:=cuC b i (lcM h)) rfl rfl rfl ⟨rfl,by show 1 + 1 <= 3; decide⟩ rfl ?_;refine zai ?_;refine mP ?_;exact zad ⟨.inr rfl,[.d (pI (andR (z + ((b[i]).toNat:Int)) 255))],rfl,_,i + 1,rfl,rfl,hw0,hw1,hlt,fun _ => rfl,fun he => absurd he (by omega),rfl,rfl⟩
 ·refine zaq rfl rfl (decide_eq_false (by omega)) ?_
  refine zai ?_;refine mwF ?_;refine zam ?_;refine mP ?_;exact zad ⟨.inr rfl,[.d (pI z)],rfl,z,i,rfl,rfl,hx0,hx1,hi,fun h => absurd h hlt,fun _ => ⟨rfl,hz.symm⟩,rfl,rfl⟩
theorem byte_drw {b:L8} (hb:b.length <= 2147483647):Drw (env T hT) b 36 [] (QN 0 255):=by
 rintro c nt live ⟨i,h,hi,hh,rfl⟩ hn;refine (byte_g hb hi h nt live).mono ?_;rintro x bx n l ⟨r,i',rfl,rfl,h0,h1,hi',_,_,rfl,rfl⟩;exact ⟨_,[],rfl,trivial,cuC_lw ..,⟨i',_,hi',zcX h,rfl⟩,r,rfl,h0,h1,NR.refl _ _⟩
section
variable {E:Env} {K:St -> Prop} {tm:Nat -> PV} {bx:LP PC} {nt d:Nat} {live:List Nat} {r:List MOpr} {g:Option (Nat × Bool)} {c:List X} {x y:X}
theorem po_rem {a b n:Int} (hg:gd g tm = some true) (hx:ev tm x = .d (pI a)) (hy:ev tm y = .d (pI b)) (hb:b ≠ 0) (hn:a.tmod b = n) (h:po E r K ⟨up d (.d (pI n)) tm,bx,nt,live⟩):po E (⟨some d,.bin .rem false x y,g,c⟩ :: r) K ⟨tm,bx,nt,live⟩:=by
 refine po_q hg ?_ h;subst hn
 have e:binV .rem false (.int .i64 a) (.int .i64 b) = some (.int .i64 (a.tmod b)):=by
  show (if IntKind.i64 = IntKind.i64 then (if b = 0 then none else some (Value.int .i64 (a.tmod b))) else none) = _;rw [if_pos rfl,if_neg hb]
 simp only [qf,hx,hy,pI,e,Option.map_some]
theorem ze3 {a b:Int} (hg:gd g tm = some true) (hx:ev tm x = .d (pI a)) (hy:ev tm y = .d (pI b)) (ha:0 <= a) (hb:0 < b) (h:∀ n,n = a.tmod b -> 0 <= n -> n < b -> po E r K ⟨up d (.d (pI n)) tm,bx,nt,live⟩):po E (⟨some d,.bin .rem false x y,g,c⟩ :: r) K ⟨tm,bx,nt,live⟩ :=
 po_rem hg hx hy (by omega) rfl (h _ rfl (Int.tmod_nonneg b ha) (Int.tmod_lt_of_pos a hb))
end
def BlR (b:L8) (i:Nat) (h m:Int) (nt:Nat) (live:List Nat) (x:PV) (bx:LP PC) (n:Nat) (l:List Nat):Prop :=
 ∃ (r:Int) (i':Nat),bx = [cuC b i' (lcM h)] /\ x = .d (pI r) /\ 0 <= r /\ r < m /\ i' <= b.length /\ (i < b.length -> i' = i + 1) /\ (i = b.length -> i' = i /\ r = (lcX (lcM h)).tmod m) /\ n = nt /\ l = live
theorem below_g {b:L8} (hb:b.length <= 2147483647) {i:Nat} (hi:i <= b.length) (h:Int) {m:Int} (hm:1 <= m /\ m <= 256) (nt:Nat) (live:List Nat) :
  FnG (env T hT) 18 [.ref 0 0,.d (pI m)] [cuC b i h] nt live (BlR b i h m nt live):=by
 refine zaO (zag zbW) (by show 2 <= 37; decide) fun B hB => ?_
 unfold m_s_l01Below;refine mP ?_;refine mM ?_;refine mS ?_;refine zaq rfl rfl (decide_eq_false (by omega)) ?_;refine zai ?_;refine mwF ?_;refine zam ?_;refine mM ?_;refine mS ?_;refine zah rfl rfl (decide_eq_true (by omega)) ?_;refine zai ?_;refine mwT ?_;refine mQ ?_;refine po_g rfl (byte_g (T:=T) (hT:=hT) hb hi h nt live) ?_;rintro x bx n l ⟨r,i',rfl,rfl,h0,h1,hi',e1,e2,rfl,rfl⟩;refine mS ?_;refine ze3 rfl rfl rfl h0 (by omega) fun q hq q0 q1 => ?_
 refine mN ?_;exact zad ⟨.inr rfl,[.d (pI q)],rfl,q,i',rfl,rfl,q0,q1,hi',e1,fun he => ⟨(e2 he).1,by rw [hq,(e2 he).2]⟩,rfl,rfl⟩
theorem zaG {b:L8} (hb:b.length <= 2147483647) (m:Int):Drw (env T hT) b 18 [.d (pI m)] (QN 0 (max (m - 1) 0)):=by
 rintro c nt live hc hn;have hB:=byte_drw (T:=T) (hT:=hT) hb;refine zaO (R:=fun x bx n l => ∃ c' rest,bx = c' :: rest /\ x.lw 0 /\ lwL 0 c' /\ Cu b c' /\ QN 0 (max (m - 1) 0) nt live x n l) (zag zbW) (by show 2 <= 37; decide) fun B hB' => ?_
 unfold m_s_l01Below;refine mP ?_;refine mM ?_;refine mS ?_;by_cases hm0:m <= 0
 ·refine zah rfl rfl (decide_eq_true (by omega)) ?_
  refine zai ?_;refine mwT ?_;refine mP ?_;exact zad ⟨.inr rfl,[.d (pI 0)],rfl,c,[],rfl,trivial,hc.lw,hc,0,rfl,by omega,by omega,NR.refl _ _⟩
 refine zaq rfl rfl (decide_eq_false (by omega)) ?_;refine zai ?_;refine mwF ?_;refine zam ?_;refine mM ?_;refine mS ?_;by_cases hm1:m <= 256
 ·refine zah rfl rfl (decide_eq_true (by omega)) ?_
  refine zai ?_;refine mwT ?_;refine mQ ?_;refine po_g rfl (hB.use trivial hc hn (p:=0) rfl) ?_;rintro x bx n l ⟨c',rfl,hc',r,rfl,h0,h1,hN⟩;refine mS ?_;refine ze3 rfl rfl rfl h0 (by omega) fun q hq q0 q1 => ?_
  refine mN ?_;exact zad ⟨.inr rfl,[.d (pI q)],rfl,c',[],rfl,trivial,hc'.lw,hc',q,rfl,q0,by omega,hN⟩
 refine zaq rfl rfl (decide_eq_false (by omega)) ?_;refine zai ?_;refine mwF ?_;refine zam ?_;refine mQ ?_;refine po_g rfl (hB.use trivial hc hn (p:=0) rfl) ?_;rintro x bx n1 l1 ⟨c1,rfl,hc1,r1,rfl,h10,h11,hN1⟩;refine mN ?_;refine mQ ?_;refine po_g rfl (hB.use trivial hc1 (by have:=hN1.le; omega) (p:=0) rfl) ?_;rintro x bx n2 l2 ⟨c2,rfl,hc2,r2,rfl,h20,h21,hN2⟩;refine mN ?_;refine mQ ?_;refine po_g rfl (hB.use trivial hc2 (by have:=hN1.le; have:=hN2.le; omega) (p:=0) rfl) ?_;rintro x bx n3 l3 ⟨c3,rfl,hc3,r3,rfl,h30,h31,hN3⟩;refine mN ?_;refine mQ ?_;refine po_g rfl (hB.use trivial hc3 (by have:=hN1.le; have:=hN2.le; have:=hN3.le; omega) (p:=0) rfl) ?_;rintro x bx n4 l4 ⟨c4,rfl,hc4,r4,rfl,h40,h41,hN4⟩;refine mN ?_;refine mQ ?_;refine po_mul (n:=r1 * 16777216) rfl rfl rfl rfl (by omega) ?_;refine mS ?_;refine po_mul (n:=r2 * 65536) rfl rfl rfl rfl (by omega) ?_;refine zan (n:=r1 * 16777216 + r2 * 65536) rfl rfl rfl rfl (by omega) ?_
 refine mS ?_;refine po_mul (n:=r3 * 256) rfl rfl rfl rfl (by omega) ?_;refine zan (n:=r1 * 16777216 + r2 * 65536 + r3 * 256) rfl rfl rfl rfl (by omega) ?_;refine mS ?_;refine zan (n:=r1 * 16777216 + r2 * 65536 + r3 * 256 + r4) rfl rfl rfl rfl (by omega) ?_;refine mS ?_;refine ze3 rfl rfl rfl (by omega) (by omega) fun q hq q0 q1 => ?_
 refine mN ?_;exact zad ⟨.inr rfl,[.d (pI q)],rfl,c4,[],rfl,trivial,hc4.lw,hc4,q,rfl,q0,by omega,((hN1.pass hN2).pass hN3).pass hN4⟩
theorem zbX {b:L8} (hb:b.length <= 2147483647) (m:Int):Drw (env T hT) b 19 [.d (pI m)] QB:=by
 rintro c nt live hc hn;refine zaO (R:=fun x bx n l => ∃ c' rest,bx = c' :: rest /\ x.lw 0 /\ lwL 0 c' /\ Cu b c' /\ QB nt live x n l) (zag zeh) (by show 2 <= 9; decide) fun B hB' => ?_
 unfold m_s_l01Once;refine mP ?_;refine mO ?_;(iterate 2 refine mS ?_);refine po_g rfl ((zaG (T:=T) (hT:=hT) hb m).use ⟨trivial,trivial⟩ hc hn (p:=0) rfl) ?_;rintro x bx n l ⟨c',rfl,hc',r,rfl,h0,h1,hN⟩;refine po_b rfl rfl (fun q hq => ?_);refine mN ?_;exact zad ⟨.inr rfl,[.d (pB q)],rfl,c',[],rfl,trivial,hc'.lw,hc',q,rfl,hN⟩
def allS (p:L8 -> Bool):LP PC -> Bool
 | [] => true
 | [.v (.string s)] :: r => p s.data.toList && allS p r
 | _ :: _ => false
def allI (p:Int -> Bool):LP PC -> Bool
 | [] => true
 | [.v (.int .i64 s)] :: r => p s && allI p r
 | _ :: _ => false
theorem ze4 {p:L8 -> Bool}:∀ {es:LP PC} {k:Nat},allS p es = true -> (hk:k < es.length) -> ∃ s,es[k] = [pS s] /\ p s = true
 | [.v (.string s)] :: r,0,h,_ => by
  simp only [allS,Bool.and_eq_true] at h
  exact ⟨s.data.toList,by simp [pS],h.1⟩
 | [.v (.string s)] :: r,k + 1,h,hk => by
  simp only [allS,Bool.and_eq_true] at h;exact ze4 (es:=r) (k:=k) h.2 (by simpa using hk)
theorem allI_at {p:Int -> Bool}:∀ {es:LP PC} {k:Nat},allI p es = true -> (hk:k < es.length) -> ∃ s,es[k] = [pI s] /\ p s = true
 | [.v (.int .i64 s)] :: r,0,h,_ => by
  simp only [allI,Bool.and_eq_true] at h
  exact ⟨s,rfl,h.1⟩
 | [.v (.int .i64 s)] :: r,k + 1,h,hk => by
  simp only [allI,Bool.and_eq_true] at h;exact allI_at (es:=r) (k:=k) h.2 (by simpa using hk)
theorem zcb {p:L8 -> Bool}:∀ {es:LP PC},allS p es = true -> lwLL 0 es
 | [],_ => by simp only [lwLL]
 | [.v (.string s)] :: r,h => by
  simp only [allS,Bool.and_eq_true] at h;simp only [lwLL,lwL,PC.lw,and_true,true_and]; exact zcb h.2
theorem zcc {p:Int -> Bool}:∀ {es:LP PC},allI p es = true -> lwLL 0 es
 | [],_ => by simp only [lwLL]
 | [.v (.int .i64 s)] :: r,h => by
  simp only [allI,Bool.and_eq_true] at h;simp only [lwLL,lwL,PC.lw,and_true,true_and]; exact zcc h.2
theorem zbY {b:L8} (hb:b.length <= 2147483647) (p:L8 -> Bool) {t:Nat} {es:LP PC} (hp:allS p es = true) (h0:0 < es.length):Drw (env T hT) b 20 [.d (.sl t es)] (QT fun s => p s = true):=by
 rintro c nt live hc hn;refine zaO (R:=fun x bx n l => ∃ c' rest,bx = c' :: rest /\ x.lw 0 /\ lwL 0 c' /\ Cu b c' /\ QT (fun s => p s = true) nt live x n l) (zag zei) (by show 2 <= 12; decide) fun B hB' => ?_
 unfold m_s_l01Pick;refine mP ?_;refine mO ?_;(iterate 3 refine mS ?_);refine zaK (n:=es.length) rfl rfl rfl ?_;refine po_g rfl ((zaG (T:=T) (hT:=hT) hb (es.length:Int)).use ⟨trivial,trivial⟩ hc hn (p:=0) rfl) ?_;rintro x bx n l ⟨c',rfl,hc',r,rfl,r0,r1,hN⟩;obtain ⟨k,rfl⟩:∃ k:Nat,r = k:=⟨r.toNat,by omega⟩;have hk:k < es.length:=by omega
 obtain ⟨s,hs,hps⟩:=ze4 hp hk;refine za9 (es:=es) (e:=[pS s]) rfl rfl rfl ⟨r0,by rw [Int.toNat_natCast,getElem?_eq_getElem hk,hs]⟩ rfl ?_;refine mN ?_;exact zad ⟨.inr rfl,[.d (pS s)],rfl,c',[],rfl,trivial,hc'.lw,hc',s,rfl,hps,hN⟩
def QM (p:Int -> Bool):Nat -> List Nat -> PV -> Nat -> List Nat -> Prop:=fun nt live x n l => ∃ r:Int,x = .d (pI r) /\ p r = true /\ NR nt live n l []
theorem zbk {b:L8} (hb:b.length <= 2147483647) (p:Int -> Bool) {t:Nat} {es:LP PC} (hp:allI p es = true) (h0:0 < es.length):Drw (env T hT) b 60 [.d (.sl t es)] (QM p):=by
 rintro c nt live hc hn;refine zaO (R:=fun x bx n l => ∃ c' rest,bx = c' :: rest /\ x.lw 0 /\ lwL 0 c' /\ Cu b c' /\ QM p nt live x n l) (zag zcU) (by show 2 <= 12; decide) fun B hB' => ?_
 unfold m_s_l01PickInt;refine mP ?_;refine mO ?_;(iterate 3 refine mS ?_);refine zaK (n:=es.length) rfl rfl rfl ?_;refine po_g rfl ((zaG (T:=T) (hT:=hT) hb (es.length:Int)).use ⟨trivial,trivial⟩ hc hn (p:=0) rfl) ?_;rintro x bx n l ⟨c',rfl,hc',r,rfl,r0,r1,hN⟩;obtain ⟨k,rfl⟩:∃ k:Nat,r = k:=⟨r.toNat,by omega⟩;have hk:k < es.length:=by omega
 obtain ⟨s,hs,hps⟩:=allI_at hp hk;refine za9 (es:=es) (e:=[pI s]) rfl rfl rfl ⟨r0,by rw [Int.toNat_natCast,getElem?_eq_getElem hk,hs]⟩ rfl ?_;refine mN ?_;exact zad ⟨.inr rfl,[.d (pI s)],rfl,c',[],rfl,trivial,hc'.lw,hc',s,rfl,hps,hN⟩
def NewI (b:L8) (m:Nat) (st:St):Prop:=∃ (i:Nat) (h:Int),i <= b.length /\ m = b.length - i /\ i64ok h /\ has st.tm [(0,.d (.sl 0 (pcB b))),(3,.d (pI h)),(4,.d (pI i))] /\ st.bx = []
theorem new_g {b:L8} (hb:b.length <= 2147483647) (nt:Nat) (live:List Nat):FnG (env T hT) 17 [.d (.sl 0 (pcB b))] [] nt live (fun x bx n l => ∃ c,x = .ref 0 0 /\ bx = [c] /\ Cu b c /\ n = nt /\ l = live):=by
 refine zaO (zag ze1) (by show 1 <= 32; decide) fun B hB => ?_
 unfold m_s_l01New;refine mP ?_;refine mQ ?_;refine zaK (n:=b.length) rfl rfl (zaQ b) ?_;refine zan (n:=421421 + (b.length:Int)) rfl rfl rfl rfl (by omega) ?_;refine mN ?_;refine zax (fun st => ∃ h,i64ok h /\ has st.tm [(0,.d (.sl 0 (pcB b))),(3,.d (pI h))] /\ st.bx = [] /\ st.nt = nt /\ st.live = live) ?_ ?_
 ·refine mP ?_
  refine zab ?_;refine zaA (fun m st => NewI b m st /\ st.nt = nt /\ st.live = live) b.length ⟨⟨0,421421 + (b.length:Int),Nat.zero_le _,rfl,by unfold i64ok; omega,⟨rfl,rfl,rfl,trivial⟩,rfl⟩,rfl,rfl⟩ ?_;rintro m tm bx n l ⟨⟨i,h,hi,rfl,hh,ht,hbx⟩,hn,hl⟩;obtain ⟨tm0,rfl⟩:=zaf ht;simp only at hbx hn hl; subst hbx; subst hn; subst hl
  clear ht;refine zav (zax (fun st => has st.tm [(0,.d (.sl 0 (pcB b))),(3,.d (pI h)),(4,.d (pI i)),(15,.d (pB (decide (i < b.length /\ i < 4000))))] /\ st.bx = [] /\ st.nt = n /\ st.live = l) ?_ ?_)
  ·refine zae ?_
   (iterate 2 refine mS ?_);refine zaK (n:=b.length) rfl rfl (zaQ b) ?_;by_cases c1:i < b.length
   ·refine zah rfl rfl (decide_eq_true (by omega)) ?_
    (iterate 2 refine mS ?_);by_cases c2:i < 4000
    ·refine zah rfl rfl (decide_eq_true (by omega)) ?_
     refine mN ?_;exact ⟨⟨rfl,rfl,rfl,by rw [decide_eq_true ⟨c1,c2⟩]; rfl,trivial⟩,rfl,rfl,rfl⟩
    ·refine zaq rfl rfl (decide_eq_false (by omega)) ?_
     refine mN ?_;exact ⟨⟨rfl,rfl,rfl,by rw [decide_eq_false (by omega)]; rfl,trivial⟩,rfl,rfl,rfl⟩
   ·refine zaq rfl rfl (decide_eq_false (by omega)) ?_
    refine mS ?_;refine mZ ?_;refine mN ?_;exact ⟨⟨rfl,rfl,rfl,by rw [decide_eq_false (by omega)]; rfl,trivial⟩,rfl,rfl,rfl⟩
  rintro tm bx n1 l1 ⟨ht,hbx,hn,hl⟩;obtain ⟨tm1,rfl⟩:=zaf ht;simp only at hbx hn hl; subst hbx; subst hn; subst hl
  clear ht tm0;refine zeg (p:=i < b.length /\ i < 4000) rfl (fun hc => ?_) (fun hc => ?_)
  ·have hg:b[i]? = some b[i]:=getElem?_eq_getElem hc.1
   have hbt:=(b[i]).toNat_lt;refine zam ?_;refine zav (zab (zae ?_));refine mS ?_;refine po_q rfl rfl ?_;(iterate 2 refine mS ?_);refine za9 (es:=pcB b) (e:=[.v (.int .u8 (b[i]).toNat)]) rfl rfl rfl ⟨by omega,by rw [Int.toNat_natCast]; exact ze0 hg⟩ rfl ?_;refine mS ?_;refine po_cv (n:=((b[i]).toNat:Int)) rfl rfl (by rw [IntKind.wrap_i64]; omega) ?_;refine po_q rfl rfl ?_;refine po_q rfl rfl ?_;refine po_q (v:=.d (pI (andR (IntKind.i64.wrap (IntKind.i64.wrap (IntKind.i64.wrap (h * 131) + ((b[i]).toNat:Int)) + 7)) 1073741823))) rfl rfl ?_;obtain ⟨hw0,hw1⟩:=zca (m:=1073741823) (IntKind.i64.wrap (IntKind.i64.wrap (IntKind.i64.wrap (h * 131) + ((b[i]).toNat:Int)) + 7)) (by decide);generalize andR (IntKind.i64.wrap (IntKind.i64.wrap (IntKind.i64.wrap (h * 131) + ((b[i]).toNat:Int)) + 7)) 1073741823 = h2 at hw0 hw1;refine mN ?_;refine zae ?_;refine mS ?_;refine zan (n:=((i + 1:Nat):Int)) rfl rfl rfl (by omega) (by omega) ?_
   refine mN ?_;exact ⟨_,by show b.length - (i + 1) < b.length - i; omega,⟨i + 1,h2,by omega,rfl,by unfold i64ok; omega,⟨rfl,rfl,rfl,trivial⟩,rfl⟩,rfl,rfl⟩
  ·refine zay ?_
   exact ⟨h,hh,⟨rfl,rfl,trivial⟩,rfl,rfl,rfl⟩
 rintro tm bx n l ⟨h,hh,ht,hbx,hn,hl⟩;obtain ⟨tm0,rfl⟩:=zaf ht;simp only at hbx hn hl; subst hbx; subst hn; subst hl
 clear ht;refine mO ?_;(iterate 2 refine mS ?_);refine po_s (v:=.ag (cuC b 0 h)) rfl rfl rfl ?_;refine zby (cs:=cuC b 0 h) rfl ?_;refine mN ?_;exact zad ⟨.inr rfl,[.ref 0 0],rfl,cuC b 0 h,rfl,rfl,⟨0,h,Nat.zero_le _,hh,rfl⟩,rfl,rfl⟩
theorem NR.up {nt n:Nat} {live l cs:_} (h:NR nt live n l cs):NR nt live (n + 1) (n :: l) cs:=h.mono (Nat.le_succ _) fun _t ht _ _ => mem_cons_of_mem _ ht
theorem NR.n2 {nt n:Nat} {live l cs:_} (h:NR nt live n l cs) (h2:2 <= nt):2 <= n:=Nat.le_trans h2 h.le
def SmI (b:L8) (nt:Nat) (live:List Nat) (m k:Nat) (st:St):Prop:=∃ (i:Nat) (s:L8) (c:List PC),i <= m /\ k = m - i /\ s.length <= 4 * i /\ Cu b c /\ has st.tm [(0,.ref 0 0),(3,.d (pS s)),(4,.d (pI m)),(5,.d (pI i))] /\ st.bx = [c] /\ NR nt live st.nt st.live []
theorem some_drw {b:L8} (hb:b.length <= 2147483647):Drw (env T hT) b 82 [] (QT fun s => s.length <= 16):=by
 rintro c nt live hc hn;refine zaO (R:=fun x bx n l => ∃ c' rest,bx = c' :: rest /\ x.lw 0 /\ lwL 0 c' /\ Cu b c' /\ QT (fun s => s.length <= 16) nt live x n l) (zag zem) (by show 1 <= 19; decide) fun B hB' => ?_
 unfold m_s_l01Some;refine mP ?_;refine mP ?_;refine mQ ?_;refine po_g rfl ((zaG (T:=T) (hT:=hT) hb 5).use ⟨trivial,trivial⟩ hc hn (p:=0) rfl) ?_;rintro x bx n1 l1 ⟨c1,rfl,hc1,r,rfl,r0,r1,hN⟩;obtain ⟨m,rfl⟩:∃ m:Nat,r = m:=⟨r.toNat,by omega⟩;have hm:m <= 4:=by omega
 refine mN ?_;refine zax (fun st => ∃ (s:L8) (c:List PC),s.length <= 16 /\ Cu b c /\ has st.tm [(3,.d (pS s))] /\ st.bx = [c] /\ NR nt live st.nt st.live []) ?_ ?_
 ·refine mP ?_
  refine zab ?_;refine zaA (SmI b nt live m) m ⟨0,[],c1,Nat.zero_le _,rfl,lR,hc1,⟨rfl,rfl,rfl,rfl,trivial⟩,rfl,hN⟩ ?_;rintro k tm bx n l ⟨i,s,c2,hi,rfl,hs,hc2,ht,hbx,hN2⟩;obtain ⟨tm0,rfl⟩:=zaf ht;simp only at hbx hN2; subst hbx
  clear ht;refine mM ?_;(iterate 2 refine mS ?_);refine po_b rfl rfl (fun q hq => ?_);refine zai ?_;refine zbM (p:=(i:Int) < m) hq rfl (fun h _ => ?_) (fun h _ => ?_)
  ·refine zam ?_
   refine zav (zab (zae ?_));(iterate 2 refine mS ?_);refine zaz rfl ?_;refine po_g rfl ((zbY (T:=T) (hT:=hT) hb (fun s => decide (s.length <= 4)) rfl (by show 0 < 13; decide)).use ⟨by simp only [PV.lw,PC.lw]; exact zcb (p:=fun s => decide (s.length <= 4)) rfl,trivial⟩ hc2 (by have:=hN2.n2 hn; omega) (p:=0) rfl) ?_;rintro x bx n3 l3 ⟨c3,rfl,hc3,q2,rfl,hq2,hN3⟩;have hq2:q2.length <= 4:=of_decide_eq_true hq2;refine zdn rfl rfl rfl (by omega) ?_;refine mN ?_;refine zae ?_;refine mS ?_;refine zan (n:=((i + 1:Nat):Int)) rfl rfl rfl (by omega) (by omega) ?_;refine mN ?_;exact ⟨_,by show m - (i + 1) < m - i; omega,i + 1,s ++ q2,c3,by omega,rfl,by rw [length_append]; omega,hc3,⟨rfl,rfl,rfl,rfl,trivial⟩,rfl,hN2.up.pass hN3⟩
  ·refine zay ?_
   exact ⟨s,c2,by omega,hc2,⟨rfl,trivial⟩,rfl,hN2⟩
 rintro tm bx n l ⟨s,c2,hs,hc2,ht,hbx,hN2⟩;obtain ⟨tm0,rfl⟩:=zaf ht;simp only at hbx hN2; subst hbx
 clear ht;refine mP ?_;exact zad ⟨.inr rfl,[.d (pS s)],rfl,c2,[],rfl,trivial,hc2.lw,hc2,s,rfl,hs,hN2⟩
end
section
def lcI:Nat -> Int -> Int
 | 0,h => h
 | n + 1,h => lcI n (lcM h)
def lcU (h:Int):Nat:=(h % 18446744073709551616).toNat
theorem wrap_mod (z:Int):IntKind.i64.wrap z % 18446744073709551616 = z % 18446744073709551616:=by
 rw [IntKind.wrap_i64]; omega
theorem lcM_mod (h:Int):lcM h % 18446744073709551616 = (h * 6364136223846793005 + 1442695040888963407) % 18446744073709551616:=by
 unfold lcM;rw [wrap_mod,Int.add_emod,wrap_mod,<- Int.add_emod]
theorem lcU_M (h:Int):lcU (lcM h) = lgN (lcU h) % 18446744073709551616:=by
 unfold lcU;rw [lcM_mod,Int.add_emod,Int.mul_emod,<- Int.add_emod];have h0:0 <= h % 18446744073709551616:=Int.emod_nonneg _ (by decide);obtain ⟨u,hu⟩:∃ u:Nat,h % 18446744073709551616 = u:=⟨(h % 18446744073709551616).toNat,by omega⟩;rw [hu,Int.toNat_natCast];unfold lgN lgA lgC
 have e:(((u:Int) * (6364136223846793005 % 18446744073709551616) + 1442695040888963407) % 18446744073709551616) = ((6364136223846793005 * u + 1442695040888963407:Nat):Int) % 18446744073709551616:=by
  rw [show (6364136223846793005:Int) % 18446744073709551616 = 6364136223846793005 from rfl]
  congr 1
  omega
 rw [e];generalize 6364136223846793005 * u + 1442695040888963407 = z;omega
theorem zdM (M:Nat):∀ (j x:Nat),lgI j (x % M) % M = lgI j x % M
 | 0,x => Nat.mod_mod x M
 | j + 1,x => by
  have e:lgN (x % M) % M = lgN x % M:=by
   unfold lgN;rw [Nat.add_mod,Nat.mul_mod,Nat.mod_mod,<- Nat.mul_mod,<- Nat.add_mod]
  have h1:=zdM M j (lgN (x % M));have h2:=zdM M j (lgN x);rw [e] at h1;exact h1.symm.trans h2
theorem lgI_mod (j x:Nat):lgI j (x % 18446744073709551616) % 18446744073709551616 = lgI j x % 18446744073709551616:=zdM _ j x
theorem lcU_I:∀ (j:Nat) (h:Int),lcU (lcI j h) = lgI j (lcU h) % 18446744073709551616
 | 0,h => by simp only [lcI,lgI]; unfold lcU; omega
 | j + 1,h => by
  have h1:=lcU_I j (lcM h);rw [lcU_M,lgI_mod] at h1;exact h1
theorem lcI_ok:∀ (j:Nat) {h:Int},i64ok h -> i64ok (lcI j h)
 | 0,_,h => h
 | j + 1,_,_ => lcI_ok j (zcX _)
theorem lc_reach {h:Int} (hh:i64ok h):∃ j,j <= 18446744073709551616 /\ lcI j h = 9:=by
 obtain ⟨j,hj,he⟩:=lg_reach (lcU h) 9 64;refine ⟨j,Nat.le_of_lt hj,?_⟩;have h1:=lcU_I j h;have h2:=lcI_ok j hh;have he:lgI j (lcU h) % 18446744073709551616 = 9:=he;rw [he] at h1;unfold lcU at h1;unfold i64ok at h2;omega
def Dfl (h:Int):Prop:=3 <= (lcX (lcM h)).tmod 5
def Prg:Nat -> Int -> Prop
 | 0,h => Dfl h
 | n + 1,h => Dfl h \/ (Prg n (lcM h) /\ Prg n (lcM (lcM h)) /\ Prg n (lcM (lcM (lcM h))))
theorem Prg.mono:∀ {n:Nat} {h:Int},Prg n h -> Prg (n + 1) h
 | 0,_,h => .inl h
 | n + 1,_,h => by
  rcases h with h | ⟨a,b,c⟩
  ·exact .inl h
  ·exact .inr ⟨Prg.mono a,Prg.mono b,Prg.mono c⟩
theorem Prg.dfl:∀ {n:Nat} {h:Int},Dfl h -> Prg n h
 | 0,_,h => h
 | _ + 1,_,h => .inl h
theorem dfl9:Dfl 9 /\ Dfl (lcM 9) /\ Dfl (lcM (lcM 9)):=by
 unfold Dfl; decide
theorem zbB:∀ (j:Nat) (h:Int),(lcI j h = 9 \/ h = 9 \/ h = lcM 9 \/ h = lcM (lcM 9)) -> Prg j h
 | j,h,.inr (.inl e) => by subst e; exact Prg.dfl dfl9.1
 | j,h,.inr (.inr (.inl e)) => by subst e; exact Prg.dfl dfl9.2.1
 | j,h,.inr (.inr (.inr e)) => by subst e; exact Prg.dfl dfl9.2.2
 | 0,h,.inl e => by have e:h = 9:=e; subst e; exact dfl9.1
 | 1,h,.inl e => by
  have e:lcM h = 9:=e
  exact .inr ⟨zbB 0 _ (.inr (.inl e)),zbB 0 _ (.inr (.inr (.inl (by rw [e])))),zbB 0 _ (.inr (.inr (.inr (by rw [e]))))⟩
 | 2,h,.inl e => by
  have e:lcM (lcM h) = 9:=e
  exact .inr ⟨zbB 1 _ (.inl e),zbB 1 _ (.inr (.inl e)),zbB 1 _ (.inr (.inr (.inl (by rw [e]))))⟩
 | j + 3,h,.inl e => by
  have e:lcI j (lcM (lcM (lcM h))) = 9:=e;exact .inr ⟨zbB (j + 2) _ (.inl e),(zbB (j + 1) _ (.inl e)).mono,(zbB j _ (.inl e)).mono.mono⟩
theorem prg_all {h:Int} (hh:i64ok h):∃ n,n <= 18446744073709551616 /\ Prg n h:=by
 obtain ⟨j,hj,e⟩:=lc_reach hh;exact ⟨j,hj,zbB j h (.inl e)⟩
end
section
variable {T:World -> Prop} {hT:Low ngl T}
attribute [local irreducible] po mw pt
theorem zen:∀ l:L8,byteL (pcB l) = some l
 | [] => rfl
 | x :: l => by
  have:=zen l
  simp only [pcB,map_cons] at this ⊢;simp only [byteL,this,Option.map_some,Int.toNat_natCast,UInt8.ofNat_toNat]
theorem zcY (a b:L8):pcB (a ++ b) = pcB a ++ pcB b:=by simp [pcB]
theorem NR.byte {nt n t:Nat} {live l:List Nat} {out:L8} (h2:2 <= nt) (ht:2 <= t) (h:NR nt live n l [.sl t (pcB out)]) (x:UInt8):NR nt live (n + 1 + 1) ((n + 1) :: (n :: l).filter (· != t)) [.sl (n + 1) (pcB (out ++ [x]))]:=by
 have:=NR.app (a:=[]) (b:=[]) (ds:=[[.v (.int .u8 x.toNat)]]) h2 (.inr ht) (h.up.plain (ds:=[] ++ .sl t (pcB out) :: [] ++ [[PC.v (.int .u8 x.toNat)]].flatten) (by
  have:=h.own
  simp only [nil_append,cons_append,flatten_cons,List.flatten_nil,ownedL,Bool.and_true,PC.owned] at this ⊢;exact this) (by simp [toksL,PC.toks]))
 rw [zcY]; exact this
theorem po_slx {E:Env} {d n:Nat} {x:X} {g:Option (Nat × Bool)} {lo hi:Option X} {c:List X} {r:List MOpr} {K:St -> Prop} {tm:Nat -> PV} {bx:LP PC} {nt:Nat} {live:List Nat} {t l h:Nat} {es rs:LP PC} (hg:gd g tm = some true) (hx:ev tm x = .d (.sl t es)) (hl:bound (ev tm) 0 lo = some l) (hh:bound (ev tm) es.length hi = some h) (hle:l <= h /\ h <= es.length) (hw:∀ e ∈ es,e.length = n) (hr:(es.drop l).take (h - l) = rs)
  (k:po E r K ⟨up d (.d (.sl 0 rs)) tm,bx,nt,live⟩):po E (⟨some d,.slc n x lo hi,g,c⟩ :: r) K ⟨tm,bx,nt,live⟩:=by
 refine po_q hg ?_ k;subst hr;simp only [qf,hx,hl,hh];rw [if_pos ⟨hle.1,hle.2,hw⟩]
theorem NR.mem1 {nt n t:Nat} {live l:List Nat} {es:LP PC} (ht:2 <= t) (h:NR nt live n l [.sl t es]):t ∈ l:=(h.mem t (by rw [toksL,zaV ht]; simp)).2.2
theorem lex1 {a a' n n' K:Nat} (h:a' < a) (hn:n' <= K):a' * (K + 1) + n' < a * (K + 1) + n:=by
 have:=Nat.mul_le_mul_right (K + 1) (show a' + 1 <= a from h)
 rw [Nat.add_mul] at this; omega
theorem lex2 {D D' L i i':Nat} (h:D' < D) (hi:L - i' <= L):D' * (L + 1) + (L - i') < D * (L + 1) + (L - i):=by
 have:=Nat.mul_le_mul_right (L + 1) (show D' + 1 <= D from h)
 rw [Nat.add_mul] at this; omega
def DtxS (b:L8) (N nt:Nat) (live:List Nat) (i:Nat) (h:Int) (out:L8) (t:Nat) (st:St):Prop :=
 has st.tm [(0,.ref 0 0),(1,.d (pI N)),(5,.d (.sl t (pcB out)))] /\ st.bx = [cuC b i h] /\ NR nt live st.nt st.live [.sl t (pcB out)] /\ 2 <= t /\ i <= b.length /\ i64ok h /\ out.length <= N + 20
def DtxI (b:L8) (N K nt:Nat) (live:List Nat) (m:Nat) (st:St):Prop :=
 ∃ (i:Nat) (h:Int) (out:L8) (t n:Nat),DtxS b N nt live i h out t st /\ n <= K /\ (i = b.length -> Prg n h) /\ m = ((N - out.length) * (b.length + 1) + (b.length - i)) * (K + 1) + n
theorem text_drw {b:L8} (hb:b.length <= 2147483647) (N:Nat) (hN:N <= 200):Drw (env T hT) b 81 [.d (pI N)] (QT fun s => s.length = N):=by
 rintro c nt live ⟨i0,h0,hi0,hh0,rfl⟩ hn;obtain ⟨K,hK⟩:∃ K,∀ h,i64ok h -> ∃ n,n <= K /\ Prg n h:=⟨_,fun h hh => prg_all hh⟩;have hBy:=fun (i:Nat) (hi:i <= b.length) h nt live => byte_g (T:=T) (hT:=hT) hb hi h nt live
 have hBl:=fun (i:Nat) (hi:i <= b.length) h m (hm:1 <= m /\ m <= 256) nt live => below_g (T:=T) (hT:=hT) hb hi h hm nt live
 refine zaO (R:=fun x bx n l => ∃ c' rest,bx = c' :: rest /\ x.lw 0 /\ lwL 0 c' /\ Cu b c' /\ QT (fun s => s.length = N) nt live x n l) (zag zel) (by show 2 <= 88; decide) fun B hB' => ?_
 unfold m_s_l01Text;refine mP ?_;refine mO ?_;refine zaz (es:=[]) rfl ?_;refine mN ?_;refine zax (fun st => ∃ (i:Nat) (h:Int) (out:L8) (t:Nat),DtxS b N nt live i h out t st /\ N <= out.length) ?_ ?_
 ·refine zab ?_
  obtain ⟨n0,hn0,hp0⟩:=hK h0 hh0;refine zaA (DtxI b N K nt live) _ ⟨i0,h0,[],nt,n0,⟨⟨rfl,rfl,rfl,trivial⟩,rfl,NR.lit (es:=[]) hn (NR.refl nt live),hn,hi0,hh0,Nat.zero_le _⟩,hn0,fun _ => hp0,rfl⟩ ?_;rintro m tm bx n1 l1 ⟨i,h,out,t,n,⟨ht,hbx,hNR,ht2,hi,hh,hol⟩,hnK,hpr,rfl⟩
  have fin:∀ (i':Nat) (h':Int) (out':L8) (t':Nat) (st':St),DtxS b N nt live i' h' out' t' st' -> out.length < N -> (out.length < out'.length \/ (out'.length = out.length /\ (i < b.length -> i < i') /\ (i = b.length -> i' = i /\ ∃ n',n' < n /\ Prg n' h'))) -> ∃ m',m' < ((N - out.length) * (b.length + 1) + (b.length - i)) * (K + 1) + n /\ DtxI b N K nt live m' st':=by
   intro i' h' out' t' st' hS hlt hp
   rcases hp with hp | ⟨he,hp1,hp2⟩
   ·obtain ⟨n',hn',hp'⟩:=hK h' hS.2.2.2.2.2.1
    exact ⟨_,lex1 (lex2 (by omega) (by omega)) hn',i',h',out',t',n',hS,hn',fun _ => hp',rfl⟩
   ·by_cases hil:i < b.length
    ·obtain ⟨n',hn',hp'⟩:=hK h' hS.2.2.2.2.2.1
     have:=hp1 hil
     refine ⟨_,lex1 ?_ hn',i',h',out',t',n',hS,hn',fun _ => hp',rfl⟩;rw [he]
     have:=hS.2.2.2.2.1
     omega
    ·obtain ⟨e1,n',hn',hp'⟩:=hp2 (by omega)
     refine ⟨_,?_,i',h',out',t',n',hS,by omega,fun _ => hp',rfl⟩;rw [he,e1]; omega
  have stuck:∀ r:Int,(i = b.length -> r = (lcX (lcM h)).tmod 5) -> r < 3 -> i = b.length -> ∃ n',n' < n /\ Prg n' (lcM h) /\ Prg n' (lcM (lcM h)) /\ Prg n' (lcM (lcM (lcM h))):=by
   intro r hr hr3 he;have hp:=hpr he;have hr:=hr he
   cases n with
   | zero => exact absurd (show 3 <= (lcX (lcM h)).tmod 5 from hp) (by omega)
   | succ n =>
    rcases hp with hp | hp
    ·exact absurd (show 3 <= (lcX (lcM h)).tmod 5 from hp) (by omega)
    ·exact ⟨n,Nat.lt_succ_self _,hp⟩
  obtain ⟨tm0,rfl⟩:=zaf ht;simp only at hbx hNR; subst hbx
  clear ht hpr;refine mM ?_;refine mS ?_;refine zaK (n:=out.length) rfl rfl (zaQ out) ?_;refine mS ?_;refine po_b rfl rfl (fun q hq => ?_);refine zai ?_;refine zbM (p:=(out.length:Int) < N) hq rfl (fun hlt _ => ?_) (fun hlt _ => ?_)
  rotate_left
  ·refine zay ?_
   exact ⟨i,h,out,t,⟨⟨rfl,rfl,rfl,trivial⟩,rfl,hNR,ht2,hi,hh,hol⟩,by omega⟩
  have hlt:out.length < N:=by omega
  clear hq;refine zam ?_;refine zab ?_;refine mQ ?_;refine po_g rfl (hBl i hi h 5 (by decide) n1 l1) ?_;rintro x bx n2 l2 ⟨r,i1,rfl,rfl,r0,r5,hi1,e1,e2,rfl,rfl⟩;refine zai ?_;refine zab ?_;refine mO ?_;by_cases k0:r = 0
  ·refine zah rfl rfl (beq_iff_eq.2 k0) ?_
   refine mT ?_;refine zae ?_;(iterate 2 refine mS ?_);refine po_g rfl (hBy i1 hi1 (lcM h) n2 l2) ?_;rintro x bx n3 l3 ⟨v,i2,rfl,rfl,v0,v1,hi2,_,_,rfl,rfl⟩;refine po_cv (n:=((UInt8.ofNat v.toNat).toNat:Int)) rfl rfl (by rw [IntKind.wrap_u8]; simp; omega) ?_;refine zaz (es:=[[.v (.int .u8 ((UInt8.ofNat v.toNat).toNat:Int))]]) rfl ?_;refine za1 (t:=t) (es:=pcB out) (ds:=[[.v (.int .u8 ((UInt8.ofNat v.toNat).toNat:Int))]]) rfl rfl (.inr (mem_cons_of_mem _ (hNR.mem1 ht2))) (by rw [zaQ]; simp only [length_singleton]; omega) (fun e he => by simp only [mem_singleton] at he; subst he; rfl) (zcC out) ?_;refine mN ?_;exact fin i2 (lcM (lcM h)) (out ++ [UInt8.ofNat v.toNat]) _ _ ⟨⟨rfl,rfl,by rw [zcY]; rfl,trivial⟩,rfl,hNR.byte hn ht2 _,by have:=hNR.n2 hn; omega,hi2,zcX _,by rw [length_append,length_singleton]; omega⟩ hlt (.inl (by rw [length_append,length_singleton]; omega))
  refine zaq rfl rfl (beq_eq_false_iff_ne.2 k0) ?_;refine mF ?_;refine mO ?_;by_cases k1:r = 1
  ·refine zah rfl rfl (beq_iff_eq.2 k1) ?_
   refine mT ?_;refine mQ ?_;refine po_g rfl (hBl i1 hi1 (lcM h) 9 (by decide) n2 l2) ?_;rintro x bx n3 l3 ⟨k,i2,rfl,rfl,kk0,kk1,hi2,f1,f2,rfl,rfl⟩;obtain ⟨k,rfl⟩:∃ k':Nat,k = k':=⟨k.toNat,by omega⟩;refine mN ?_;refine mQ ?_;refine po_g rfl (hBl i2 hi2 (lcM (lcM h)) 4 (by decide) n3 l3) ?_;rintro x bx n4 l4 ⟨v,i3,rfl,rfl,v0,v1,hi3,g1,g2,rfl,rfl⟩;refine zan (n:=97 + v) rfl rfl rfl rfl (by omega) ?_;refine po_cv (n:=((UInt8.ofNat (97 + v).toNat).toNat:Int)) rfl rfl (by rw [IntKind.wrap_u8]; simp; omega) ?_;refine mN ?_;refine mP ?_;refine zab ?_;refine zaA (fun m st => ∃ (j:Nat) (out':L8) (t':Nat),j <= k /\ m = k - j /\ out'.length = out.length + j /\ has st.tm [(0,.ref 0 0),(1,.d (pI N)),(5,.d (.sl t' (pcB out'))),(6,.d (pI k)),(7,.d (.v (.int .u8 ((UInt8.ofNat (97 + v).toNat).toNat:Int)))),(8,.d (pI j))] /\ st.bx = [cuC b i3 (lcM (lcM (lcM h)))] /\ NR nt live st.nt st.live [.sl t' (pcB out')] /\ 2 <= t') k ⟨0,out,t,Nat.zero_le _,rfl,rfl,⟨rfl,rfl,rfl,rfl,rfl,rfl,trivial⟩,rfl,hNR,ht2⟩ ?_
   rintro m tm bx n5 l5 ⟨j,out',t',hj,rfl,hlen,ht,hbx,hNR',ht2'⟩;obtain ⟨tm1,rfl⟩:=zaf ht;simp only at hbx hNR'; subst hbx
   clear ht;refine mM ?_;(iterate 2 refine mS ?_);refine po_b rfl rfl (fun q hq => ?_);refine zai ?_;refine zbM (p:=(j:Int) < k) hq rfl (fun hjk _ => ?_) (fun hjk _ => ?_)
   ·refine zam ?_
    refine zav (zab (zae ?_));(iterate 2 refine mS ?_);refine zaz (es:=[[.v (.int .u8 ((UInt8.ofNat (97 + v).toNat).toNat:Int))]]) rfl ?_;refine za1 (t:=t') (es:=pcB out') (ds:=[[.v (.int .u8 ((UInt8.ofNat (97 + v).toNat).toNat:Int))]]) rfl rfl (.inr (mem_cons_of_mem _ (hNR'.mem1 ht2'))) (by rw [zaQ]; simp only [length_singleton]; omega) (fun e he => by simp only [mem_singleton] at he; subst he; rfl) (zcC out') ?_;refine mN ?_;refine zae ?_;refine mS ?_;refine zan (n:=((j + 1:Nat):Int)) rfl rfl rfl (by omega) (by omega) ?_;refine mN ?_;exact ⟨_,by show k - (j + 1) < k - j; omega,j + 1,out' ++ [UInt8.ofNat (97 + v).toNat],_,by omega,rfl,by rw [length_append,length_singleton]; omega,⟨rfl,rfl,by rw [zcY]; rfl,rfl,rfl,rfl,trivial⟩,rfl,hNR'.byte hn ht2' _,by have:=hNR'.n2 hn; omega⟩
   ·refine zay ?_
    refine fin i3 (lcM (lcM (lcM h))) out' t' _ ⟨⟨rfl,rfl,rfl,trivial⟩,rfl,hNR',ht2',hi3,zcX _,by omega⟩ hlt ?_;by_cases hk:k = 0
    ·right
     refine ⟨by omega,fun hil => ?_,fun hil => ?_⟩
     ·have:=e1 hil
      by_cases c1:i1 < b.length
      ·have:=f1 c1
       by_cases c2:i2 < b.length
       ·have:=g1 c2; omega
       ·have:=(g2 (by omega)).1; omega
      ·have:=(f2 (by omega)).1
       have:=(g2 (by omega)).1; omega
     ·have q1:=(e2 hil).1
      have q2:=(f2 (by omega)).1;have q3:=(g2 (by omega)).1;obtain ⟨n',hn',_,_,hp⟩:=stuck r (fun h => (e2 h).2) (by omega) hil;exact ⟨by omega,n',hn',hp⟩
    ·left; omega
  refine zaq rfl rfl (beq_eq_false_iff_ne.2 k1) ?_;refine mF ?_;refine mO ?_;by_cases k2:r = 2
  ·refine zah rfl rfl (beq_iff_eq.2 k2) ?_
   refine mT ?_;refine mQ ?_;refine zaK (n:=out.length) rfl rfl (zaQ out) ?_;by_cases hz:out.length = 0
   ·refine zaq rfl rfl (decide_eq_false (by omega)) ?_
    refine zai ?_;refine mwF ?_;refine zam ?_;refine fin i1 (lcM h) out t _ ⟨⟨rfl,rfl,rfl,trivial⟩,rfl,hNR,ht2,hi1,zcX _,hol⟩ hlt (.inr ⟨rfl,fun hil => by have:=e1 hil; omega,fun hil => ?_⟩);obtain ⟨n',hn',hp,_,_⟩:=stuck r (fun h => (e2 h).2) (by omega) hil;exact ⟨(e2 hil).1,n',hn',hp⟩
   refine zah rfl rfl (decide_eq_true (by omega)) ?_;refine zai ?_;refine mwT ?_;refine mO ?_;(iterate 2 refine mS ?_);refine zaK (n:=out.length) rfl rfl (zaQ out) ?_;refine po_g rfl (hBl i1 hi1 (lcM h) (out.length:Int) (by omega) n2 l2) ?_;rintro x bx n3 l3 ⟨f,i2,rfl,rfl,ff0,ff1,hi2,f1,f2,rfl,rfl⟩;obtain ⟨f,rfl⟩:∃ k':Nat,f = k':=⟨f.toNat,by omega⟩;refine mN ?_;refine mQ ?_;refine po_g rfl (hBl i2 hi2 (lcM (lcM h)) 20 (by decide) n3 l3) ?_;rintro x bx n4 l4 ⟨k,i3,rfl,rfl,v0,v1,hi3,g1,g2,rfl,rfl⟩;obtain ⟨k,rfl⟩:∃ k':Nat,k = k':=⟨k.toNat,by omega⟩;refine mN ?_;refine mP ?_;refine zab ?_;refine zaA (fun m st => ∃ (j:Nat) (out':L8) (t':Nat),j <= k /\ m = k - j /\ out'.length = out.length + j /\ has st.tm [(0,.ref 0 0),(1,.d (pI N)),(5,.d (.sl t' (pcB out'))),(9,.d (pI f)),(10,.d (pI k)),(11,.d (pI j))] /\ st.bx = [cuC b i3 (lcM (lcM (lcM h)))] /\ NR nt live st.nt st.live [.sl t' (pcB out')] /\ 2 <= t') k ⟨0,out,t,Nat.zero_le _,rfl,rfl,⟨rfl,rfl,rfl,rfl,rfl,rfl,trivial⟩,rfl,hNR,ht2⟩ ?_
   rintro m tm bx n5 l5 ⟨j,out',t',hj,rfl,hlen,ht,hbx,hNR',ht2'⟩;obtain ⟨tm1,rfl⟩:=zaf ht;simp only at hbx hNR'; subst hbx
   clear ht;refine zav (zax (fun st => has st.tm [(0,.ref 0 0),(1,.d (pI N)),(5,.d (.sl t' (pcB out'))),(9,.d (pI f)),(10,.d (pI k)),(11,.d (pI j)),(72,.d (pB (decide (j < k))))] /\ st.bx = [cuC b i3 (lcM (lcM (lcM h)))] /\ st.nt = n5 /\ st.live = l5) ?_ ?_)
   ·refine zae ?_
    (iterate 2 refine mS ?_);by_cases c1:j < k
    ·refine zah rfl rfl (decide_eq_true (by omega)) ?_
     (iterate 3 refine mS ?_);refine zan (n:=((f + j:Nat):Int)) rfl rfl rfl (by omega) (by omega) ?_;refine mS ?_;refine zaK (n:=out'.length) rfl rfl (zaQ out') ?_;refine zah rfl rfl (decide_eq_true (by omega)) ?_;refine mN ?_;exact ⟨⟨rfl,rfl,rfl,rfl,rfl,rfl,by rw [decide_eq_true c1]; rfl,trivial⟩,rfl,rfl,rfl⟩
    ·refine zaq rfl rfl (decide_eq_false (by omega)) ?_
     refine mS ?_;refine mZ ?_;refine mN ?_;exact ⟨⟨rfl,rfl,rfl,rfl,rfl,rfl,by rw [decide_eq_false c1]; rfl,trivial⟩,rfl,rfl,rfl⟩
   rintro tm bx n6 l6 ⟨ht,hbx,hn6,hl6⟩;obtain ⟨tm2,rfl⟩:=zaf ht;simp only at hbx hn6 hl6; subst hbx; subst hn6; subst hl6
   clear ht tm1;refine zeg (p:=j < k) rfl (fun hjk => ?_) (fun hjk => ?_)
   ·have hfj:f + j < out'.length:=by omega
    have hg:out'[f + j]? = some out'[f + j]:=getElem?_eq_getElem hfj;generalize out'[f + j] = y at hg;refine zam ?_;refine zav (zab (zae ?_));(iterate 4 refine mS ?_);refine zan (n:=((f + j:Nat):Int)) rfl rfl rfl (by omega) (by omega) ?_;refine za9 (es:=pcB out') (e:=[.v (.int .u8 y.toNat)]) rfl rfl rfl ⟨by omega,by rw [Int.toNat_natCast]; exact ze0 hg⟩ rfl ?_;refine mS ?_;refine zaz (es:=[[.v (.int .u8 y.toNat)]]) rfl ?_;refine za1 (t:=t') (es:=pcB out') (ds:=[[.v (.int .u8 y.toNat)]]) rfl rfl (.inr (mem_cons_of_mem _ (hNR'.mem1 ht2'))) (by rw [zaQ]; simp only [length_singleton]; omega) (fun e he => by simp only [mem_singleton] at he; subst he; rfl) (zcC out') ?_;refine mN ?_;refine zae ?_;refine mS ?_;refine zan (n:=((j + 1:Nat):Int)) rfl rfl rfl (by omega) (by omega) ?_;refine mN ?_;exact ⟨_,by show k - (j + 1) < k - j; omega,j + 1,out' ++ [y],_,by omega,rfl,by rw [length_append,length_singleton]; omega,⟨rfl,rfl,by rw [zcY]; rfl,rfl,rfl,rfl,trivial⟩,rfl,hNR'.byte hn ht2' _,by have:=hNR'.n2 hn; omega⟩
   ·refine zay ?_
    refine fin i3 (lcM (lcM (lcM h))) out' t' _ ⟨⟨rfl,rfl,rfl,trivial⟩,rfl,hNR',ht2',hi3,zcX _,by omega⟩ hlt ?_;by_cases hk:k = 0
    ·right
     refine ⟨by omega,fun hil => ?_,fun hil => ?_⟩
     ·have:=e1 hil
      by_cases c1:i1 < b.length
      ·have:=f1 c1
       by_cases c2:i2 < b.length
       ·have:=g1 c2; omega
       ·have:=(g2 (by omega)).1; omega
      ·have:=(f2 (by omega)).1
       have:=(g2 (by omega)).1; omega
     ·have q1:=(e2 hil).1
      have q2:=(f2 (by omega)).1;have q3:=(g2 (by omega)).1;obtain ⟨n',hn',_,_,hp⟩:=stuck r (fun h => (e2 h).2) (by omega) hil;exact ⟨by omega,n',hn',hp⟩
    ·left; omega
  refine zaq rfl rfl (beq_eq_false_iff_ne.2 k2) ?_;refine mF ?_;refine zae ?_;(iterate 2 refine mS ?_);refine po_g rfl (hBl i1 hi1 (lcM h) 26 (by decide) n2 l2) ?_;rintro x bx n3 l3 ⟨v,i2,rfl,rfl,v0,v1,hi2,_,_,rfl,rfl⟩;refine zan (n:=97 + v) rfl rfl rfl rfl (by omega) ?_;refine po_cv (n:=((UInt8.ofNat (97 + v).toNat).toNat:Int)) rfl rfl (by rw [IntKind.wrap_u8]; simp; omega) ?_;refine zaz (es:=[[.v (.int .u8 ((UInt8.ofNat (97 + v).toNat).toNat:Int))]]) rfl ?_;refine za1 (t:=t) (es:=pcB out) (ds:=[[.v (.int .u8 ((UInt8.ofNat (97 + v).toNat).toNat:Int))]]) rfl rfl (.inr (mem_cons_of_mem _ (hNR.mem1 ht2))) (by rw [zaQ]; simp only [length_singleton]; omega) (fun e he => by simp only [mem_singleton] at he; subst he; rfl) (zcC out) ?_;refine mN ?_;exact fin i2 (lcM (lcM h)) (out ++ [UInt8.ofNat (97 + v).toNat]) _ _ ⟨⟨rfl,rfl,by rw [zcY]; rfl,trivial⟩,rfl,hNR.byte hn ht2 _,by have:=hNR.n2 hn; omega,hi2,zcX _,by rw [length_append,length_singleton]; omega⟩ hlt (.inl (by rw [length_append,length_singleton]; omega))
 rintro tm bx n1 l1 ⟨i,h,out,t,⟨ht,hbx,hNR,ht2,hi,hh,hol⟩,hlen⟩;obtain ⟨tm0,rfl⟩:=zaf ht;simp only at hbx hNR; subst hbx
 clear ht;refine mO ?_;(iterate 2 refine mS ?_);refine po_slx (es:=pcB out) (l:=0) (h:=N) (rs:=pcB (out.take N)) rfl rfl rfl (zaS rfl rfl) ⟨Nat.zero_le _,by rw [zaQ]; exact hlen⟩ (zcC out) (by simp [pcB,map_take]) ?_;refine po_q (v:=.d (pS (out.take N))) rfl ?_ ?_
 ·show (byteL (pcB (out.take N))).map _ = _
  rw [zen]; rfl
 refine mN ?_;exact zad ⟨.inr rfl,[.d (pS (out.take N))],rfl,cuC b i h,[],rfl,trivial,cuC_lw ..,⟨i,h,hi,hh,rfl⟩,out.take N,rfl,by show (out.take N).length = N; rw [length_take]; omega,hNR.forget⟩
def DvR (b:L8) (K B nt:Nat) (live:List Nat) (x:PV) (bx:LP PC) (n:Nat) (l:List Nat):Prop:=∃ c' rest,bx = c' :: rest /\ x.lw 0 /\ lwL 0 c' /\ Cu b c' /\ QV K B nt live x n l
theorem zaX {b:L8} {K B nt n:Nat} {live l:List Nat} {c:List PC} {rest:LP PC} {cs:List PC} {v:V} (hc:Cu b c) (hN:NR nt live n l cs) (he:erL cs = vC v) (hg:Gd B v) (hR:RowT cs) (hk:v.kids.length <= K):DvR b K B nt live (.ag cs) (c :: rest) n l :=
 ⟨c,rest,rfl,hN.lw,hc.lw,hc,cs,v,rfl,hN,he,hg,hR,hk⟩
theorem rowT1 {a b c d:PC}:RowT [a,b,c,d,.sl 1 []]:=⟨a,b,c,d,1,[],rfl,.inl ⟨rfl,rfl⟩⟩
theorem za4 {k n e:Int} {s:L8} {B:Nat} (hk:i64ok k) (hn:i64ok n) (he:i64ok e) (hs:s.length <= B) (hB:B <= 1048576):Gd B (.mk k n e s []) :=
 ⟨⟨hk,hn,he,by unfold strok; omega,by simp,trivial⟩,⟨fun _ => Nat.zero_le _,trivial⟩,by simp only [V.bulk,V.bulks,length_nil]; omega⟩
theorem zbv {nt n:Nat} {live l:List Nat} {k m e:Int} {s:L8} (h:NR nt live n l []):NR nt live n l [pI k,pI m,pI e,pS s,.sl 1 []]:=h.plain rfl rfl
theorem zbl {k m e:Int} {s:L8}:erL [pI k,pI m,pI e,pS s,.sl 1 []] = vC (.mk k m e s []):=rfl
theorem str_fn (s:L8):FnV (env T hT) 62 [.d (pS s)] (.ag (vC (.mk 5 0 0 s []))):=by
 refine zbw (zag zcV) (by show 1 <= 5; decide) fun B hB => ?_
 unfold m_s_l02Str;refine mP ?_;refine mO ?_;(iterate 2 refine mS ?_);refine zaC (p:=0) (cs:=[pI 5,pI 0,pI 0,pS s,.sl 1 []]) rfl rfl rfl rfl rfl rfl ?_;refine mN ?_;exact zad ⟨.inr rfl,[.ag [pI 5,pI 0,pI 0,pS s,.sl 1 []]],rfl,rfl⟩
theorem intD_fn (n:Int):FnV (env T hT) 63 [.d (pI n)] (.ag (vC (.mk 3 n 0 [] []))):=by
 refine zbw (zag zcW) (by show 1 <= 5; decide) fun B hB => ?_
 unfold m_s_l02Int;refine mP ?_;refine mO ?_;(iterate 2 refine mS ?_);refine zaC (p:=0) (cs:=[pI 3,pI n,pI 0,pS [],.sl 1 []]) rfl rfl rfl rfl rfl rfl ?_;refine mN ?_;exact zad ⟨.inr rfl,[.ag [pI 3,pI n,pI 0,pS [],.sl 1 []]],rfl,rfl⟩
def vL (k n e:Int) (s:L8):List PC:=[pI k,pI n,pI e,pS s,.sl 1 []]
theorem lstr_g (s:L8) {bx:LP PC} {nt:Nat} {live:List Nat}:FnG (env T hT) 62 [.d (pS s)] bx nt live (fun x b n l => b = bx /\ x = .ag (vL 5 0 0 s) /\ n = nt /\ l = live):=by
 refine FnG.lift0 (args:=[.d (pS s)]) (R:=fun x n l => x = .ag (vL 5 0 0 s) /\ n = nt /\ l = live) ?_ ⟨trivial,trivial⟩;refine zaO (zag zcV) (by show 1 <= 5; decide) fun B hB => ?_
 unfold m_s_l02Str;refine mP ?_;refine mO ?_;(iterate 2 refine mS ?_);refine zaC (p:=0) (cs:=vL 5 0 0 s) rfl rfl rfl rfl rfl rfl ?_;refine mN ?_;exact zad ⟨.inr rfl,[.ag (vL 5 0 0 s)],rfl,⟨trivial,trivial,trivial,trivial,trivial,trivial⟩,rfl,rfl,rfl⟩
theorem int_g (m:Int) {bx:LP PC} {nt:Nat} {live:List Nat}:FnG (env T hT) 63 [.d (pI m)] bx nt live (fun x b n l => b = bx /\ x = .ag (vL 3 m 0 []) /\ n = nt /\ l = live):=by
 refine FnG.lift0 (args:=[.d (pI m)]) (R:=fun x n l => x = .ag (vL 3 m 0 []) /\ n = nt /\ l = live) ?_ ⟨trivial,trivial⟩;refine zaO (zag zcW) (by show 1 <= 5; decide) fun B hB => ?_
 unfold m_s_l02Int;refine mP ?_;refine mO ?_;(iterate 2 refine mS ?_);refine zaC (p:=0) (cs:=vL 3 m 0 []) rfl rfl rfl rfl rfl rfl ?_;refine mN ?_;exact zad ⟨.inr rfl,[.ag (vL 3 m 0 [])],rfl,⟨trivial,trivial,trivial,trivial,trivial,trivial⟩,rfl,rfl,rfl⟩
def i64B (n:Int):Bool:=decide (-9223372036854775808 <= n) && decide (n <= 9223372036854775807)
theorem zdN {n:Int} (h:i64B n = true):i64ok n:=by
 unfold i64B at h;simp only [Bool.and_eq_true,decide_eq_true_eq] at h;exact ⟨h.1,h.2⟩
theorem zaa {n:Int} (h:-1000 <= n /\ n <= 2000000):i64ok n:=by unfold i64ok; omega
theorem zdO {b:L8} (hb:b.length <= 2147483647) (pl:Bool):Drw (env T hT) b 61 [.d (pB pl)] (QV 0 20):=by
 rintro c nt live hc hn;refine zaO (R:=DvR b 0 20 nt live) (zag zek) (by show 2 <= 48; decide) fun B hB' => ?_
 have hBl:=fun m => zaG (T:=T) (hT:=hT) hb m
 unfold m_s_l02Leaf;refine mP ?_;refine zax (fun st => ∃ c1,Cu b c1 /\ has st.tm [(0,.ref 0 0),(4,.ref 1 0)] /\ st.bx = [c1,[pI 0,pI 0,pI 0,pS [],.sl 1 []]] /\ NR nt live st.nt st.live []) ?_ ?_
 ·refine mQ ?_
  refine po_g rfl ((hBl 9).use ⟨trivial,trivial⟩ hc hn (p:=0) rfl) ?_;rintro x bx n1 l1 ⟨c1,rfl,hc1,r,rfl,r0,r1,hN1⟩;have hn1:=hN1.n2 hn;refine zai ?_;refine zab ?_;refine mO ?_;by_cases k0:r = 0
  ·refine zah rfl rfl (beq_iff_eq.2 k0) ?_
   refine mT ?_;refine mQ ?_;refine po_g rfl ((hBl 3).use ⟨trivial,trivial⟩ hc1 hn1 (p:=0) rfl) ?_;rintro x bx n2 l2 ⟨c2,rfl,hc2,v,rfl,v0,v1,hN2⟩;refine mS ?_;refine zaC (p:=1) (cs:=[pI v,pI 0,pI 0,pS [],.sl 1 []]) rfl rfl rfl rfl rfl rfl ?_;refine mN ?_;exact zad ⟨.inr rfl,[.ag [pI v,pI 0,pI 0,pS [],.sl 1 []]],rfl,zaX hc2 (zbv (hN1.pass hN2)) zbl (za4 (zaa (by omega)) (zaa (by omega)) (zaa (by omega)) (Nat.zero_le _) (by decide)) rowT1 (Nat.zero_le _)⟩
  refine zaq rfl rfl (beq_eq_false_iff_ne.2 k0) ?_;refine mF ?_;refine mO ?_;by_cases k1:r = 1
  ·refine zah rfl rfl (beq_iff_eq.2 k1) ?_
   refine mT ?_;refine mQ ?_;refine zaz rfl ?_;refine po_g rfl ((zbk (T:=T) (hT:=hT) hb i64B rfl (by show 0 < 5; decide)).use ⟨by simp only [PV.lw,PC.lw]; exact zcc (p:=i64B) rfl,trivial⟩ hc1 (by omega) (p:=0) rfl) ?_;rintro x bx n2 l2 ⟨c2,rfl,hc2,v,rfl,hv,hN2⟩;have hN12:=hN1.up.pass hN2;refine mS ?_;refine zaz rfl ?_;refine po_g rfl ((zbk (T:=T) (hT:=hT) hb i64B rfl (by show 0 < 5; decide)).use ⟨by simp only [PV.lw,PC.lw]; exact zcc (p:=i64B) rfl,trivial⟩ hc2 (by have:=hN12.n2 hn; omega) (p:=0) rfl) ?_;rintro x bx n3 l3 ⟨c3,rfl,hc3,e,rfl,he,hN3⟩;refine mS ?_;refine zaC (p:=1) (cs:=[pI 4,pI v,pI e,pS [],.sl 1 []]) rfl rfl rfl rfl rfl rfl ?_;refine mN ?_;exact zad ⟨.inr rfl,[.ag [pI 4,pI v,pI e,pS [],.sl 1 []]],rfl,zaX hc3 (zbv (hN12.up.pass hN3)) zbl (za4 (zaa (by omega)) (zdN hv) (zdN he) (Nat.zero_le _) (by decide)) rowT1 (Nat.zero_le _)⟩
  refine zaq rfl rfl (beq_eq_false_iff_ne.2 k1) ?_;refine mF ?_;refine mO ?_;by_cases k2:r = 2
  ·refine zah rfl rfl (beq_iff_eq.2 k2) ?_
   refine mT ?_;refine mP ?_
   cases pl with
   | true =>
    refine mwF ?_;refine zam ?_
    exact ⟨c1,hc1,⟨rfl,rfl,trivial⟩,rfl,hN1⟩
   | false =>
   refine mwT ?_;refine mO ?_;(iterate 2 refine mS ?_);refine po_g rfl ((hBl 8).use ⟨trivial,trivial⟩ hc1 hn1 (p:=0) rfl) ?_;rintro x bx n2 l2 ⟨c2,rfl,hc2,v,rfl,v0,v1,hN2⟩;obtain ⟨v,rfl⟩:∃ k':Nat,v = k':=⟨v.toNat,by omega⟩;have hN12:=hN1.pass hN2;refine po_g rfl ((text_drw (T:=T) (hT:=hT) hb v (by omega)).use ⟨trivial,trivial⟩ hc2 (hN12.n2 hn) (p:=0) rfl) ?_;rintro x bx n3 l3 ⟨c3,rfl,hc3,s,rfl,hs,hN3⟩;refine mS ?_;refine zaC (p:=1) (cs:=[pI 6,pI 0,pI 0,pS s,.sl 1 []]) rfl rfl rfl rfl rfl rfl ?_;refine mN ?_;exact zad ⟨.inr rfl,[.ag [pI 6,pI 0,pI 0,pS s,.sl 1 []]],rfl,zaX hc3 (zbv (hN12.pass hN3)) zbl (za4 (zaa (by omega)) (zaa (by omega)) (zaa (by omega)) (by omega) (by decide)) rowT1 (Nat.zero_le _)⟩
  refine zaq rfl rfl (beq_eq_false_iff_ne.2 k2) ?_;refine mF ?_;refine zax (fun st => has st.tm [(0,.ref 0 0),(4,.ref 1 0),(6,.d (pI r)),(30,.d (pB (decide (r = 3 \/ r = 4))))] /\ st.bx = [c1,[pI 0,pI 0,pI 0,pS [],.sl 1 []]] /\ st.nt = n1 /\ st.live = l1) ?_ ?_
  ·refine mO ?_
   by_cases k3:r = 3
   ·refine zah rfl rfl (beq_iff_eq.2 k3) ?_
    refine mT ?_;refine zam ?_;exact ⟨⟨rfl,rfl,rfl,by rw [decide_eq_true (.inl k3)]; rfl,trivial⟩,rfl,rfl,rfl⟩
   ·refine zaq rfl rfl (beq_eq_false_iff_ne.2 k3) ?_
    refine mF ?_;refine zae ?_;by_cases k4:r = 4
    ·refine zah rfl rfl (beq_iff_eq.2 k4) ?_
     refine mN ?_;exact ⟨⟨rfl,rfl,rfl,by rw [decide_eq_true (.inr k4)]; rfl,trivial⟩,rfl,rfl,rfl⟩
    ·refine zaq rfl rfl (beq_eq_false_iff_ne.2 k4) ?_
     refine mN ?_;exact ⟨⟨rfl,rfl,rfl,by rw [decide_eq_false (by omega)]; rfl,trivial⟩,rfl,rfl,rfl⟩
  rintro tm bx n2 l2 ⟨ht,hbx,hn2,hl2⟩;obtain ⟨tm0,rfl⟩:=zaf ht;simp only at hbx hn2 hl2; subst hbx; subst hn2; subst hl2
  clear ht;refine zeg (p:=r = 3 \/ r = 4) rfl (fun k => ?_) (fun k => ?_)
  ·refine mQ ?_
   refine zaz rfl ?_;refine po_g rfl ((zbY (T:=T) (hT:=hT) hb (fun s => decide (s.length <= 20)) rfl (by show 0 < 5; decide)).use ⟨by simp only [PV.lw,PC.lw]; exact zcb (p:=fun s => decide (s.length <= 20)) rfl,trivial⟩ hc1 (by omega) (p:=0) rfl) ?_;rintro x bx n3 l3 ⟨c3,rfl,hc3,s,rfl,hs,hN3⟩;refine po_g rfl (lstr_g (T:=T) (hT:=hT) s) ?_;rintro x b' n4 l4 ⟨hb4,rfl,hn4,hl4⟩
   subst hb4; subst hn4; subst hl4
   refine zaC (p:=1) (cs:=vL 5 0 0 s) rfl rfl rfl rfl rfl rfl ?_;refine mN ?_;exact zad ⟨.inr rfl,[.ag (vL 5 0 0 s)],rfl,zaX hc3 (zbv (hN1.up.pass hN3)) zbl (za4 (zaa (by omega)) (zaa (by omega)) (zaa (by omega)) (of_decide_eq_true hs) (by decide)) rowT1 (Nat.zero_le _)⟩
  ·refine mO ?_
   by_cases k5:r = 5
   ·refine zah rfl rfl (beq_iff_eq.2 k5) ?_
    refine mT ?_;refine mQ ?_;refine po_g rfl ((some_drw (T:=T) (hT:=hT) hb).use trivial hc1 hn1 (p:=0) rfl) ?_;rintro x bx n3 l3 ⟨c3,rfl,hc3,s,rfl,hs,hN3⟩;refine po_g rfl (lstr_g (T:=T) (hT:=hT) s) ?_;rintro x b' n4 l4 ⟨hb4,rfl,hn4,hl4⟩
    subst hb4; subst hn4; subst hl4
    refine zaC (p:=1) (cs:=vL 5 0 0 s) rfl rfl rfl rfl rfl rfl ?_;refine mN ?_;exact zad ⟨.inr rfl,[.ag (vL 5 0 0 s)],rfl,zaX hc3 (zbv (hN1.pass hN3)) zbl (za4 (zaa (by omega)) (zaa (by omega)) (zaa (by omega)) (by omega) (by decide)) rowT1 (Nat.zero_le _)⟩
   ·refine zaq rfl rfl (beq_eq_false_iff_ne.2 k5) ?_
    refine mK ?_;exact ⟨c1,hc1,⟨rfl,rfl,trivial⟩,rfl,hN1⟩
 rintro tm bx n1 l1 ⟨c1,hc1,ht,hbx,hN1⟩;obtain ⟨tm0,rfl⟩:=zaf ht;simp only at hbx hN1; subst hbx
 clear ht;refine mO ?_;(iterate 2 refine mS ?_);refine po_g rfl ((hBl 1000).use ⟨trivial,trivial⟩ hc1 (hN1.n2 hn) (p:=0) rfl) ?_;rintro x bx n2 l2 ⟨c2,rfl,hc2,v,rfl,v0,v1,hN2⟩;have hN12:=hN1.pass hN2;have hv:i64B v = true:=by unfold i64B; rw [decide_eq_true (by omega),decide_eq_true (by omega)]; rfl
 have hal:allI i64B [[pI 0],[pI 1],[pI 23],[pI 24],[pI 255],[pI 256],[pI 65535],[pI 65536],[pI 4294967295],[pI 4294967296],[pI (-1)],[pI (-24)],[pI (-25)],[pI (-256)],[pI (-257)],[pI 9223372036854775807],[pI (-9223372036854775808)],[pI v]] = true:=by
  show (true && (true && (true && (true && (true && (true && (true && (true && (true && (true && (true && (true && (true && (true && (true && (true && (true && (i64B v && true)))))))))))))))))) = true;rw [hv]; rfl
 refine zaz (es:=[[pI 0],[pI 1],[pI 23],[pI 24],[pI 255],[pI 256],[pI 65535],[pI 65536],[pI 4294967295],[pI 4294967296],[pI (-1)],[pI (-24)],[pI (-25)],[pI (-256)],[pI (-257)],[pI 9223372036854775807],[pI (-9223372036854775808)],[pI v]]) rfl ?_;refine po_g rfl ((zbk (T:=T) (hT:=hT) hb i64B hal (by show 0 < 18; decide)).use ⟨by simp only [PV.lw,PC.lw]; exact zcc hal,trivial⟩ hc2 (by have:=hN12.n2 hn; omega) (p:=0) rfl) ?_;rintro x bx n3 l3 ⟨c3,rfl,hc3,q,rfl,hq,hN3⟩;refine po_g rfl (int_g (T:=T) (hT:=hT) q) ?_;rintro x b' n4 l4 ⟨hb4,rfl,hn4,hl4⟩
 subst hb4; subst hn4; subst hl4
 refine zaC (p:=1) (cs:=vL 3 q 0 []) rfl rfl rfl rfl rfl rfl ?_;refine mN ?_;exact zad ⟨.inr rfl,[.ag (vL 3 q 0 [])],rfl,zaX hc3 (zbv (hN12.up.pass hN3)) zbl (za4 (zaa (by omega)) (zdN hq) (zaa (by omega)) (Nat.zero_le _) (by decide)) rowT1 (Nat.zero_le _)⟩
def mkB:Nat -> Nat
 | 0 => 20
 | d + 1 => 40 + 3 * mkB d
structure Kd (B:Nat) (rows:LP PC) (ks:List V):Prop where
 er:erLL rows = vK ks
 wf:V.wfs ks
 few:V.fews ks
 bulk:V.bulks ks <= B
theorem Kd.nil:Kd 0 [] []:=⟨rfl,trivial,trivial,lR⟩
theorem Kd.len {B:Nat} {rows:LP PC} {ks:List V} (h:Kd B rows ks):rows.length = ks.length:=by
 have:=congrArg length h.er
 rw [zaH,length_map,zdk] at this; exact this
theorem Kd.wid {B:Nat} {rows:LP PC} {ks:List V} (h:Kd B rows ks):∀ e ∈ rows,e.length = 5:=fun e he => by
 have h1:erL e ∈ vK ks:=by rw [<- h.er,zaH]; exact mem_map_of_mem he
 have:=vK_wid ks _ h1
 rw [zaJ,length_map] at this; exact this
theorem zeo:∀ a b:List V,V.bulks (a ++ b) = V.bulks a + V.bulks b
 | [],b => by simp [V.bulks]
 | x :: a,b => by simp only [cons_append,V.bulks,zeo a b]; omega
theorem Kd.app {B B':Nat} {rows ds:LP PC} {ks ls:List V} (h:Kd B rows ks) (k:Kd B' ds ls):Kd (B + B') (rows ++ ds) (ks ++ ls):=by
 refine ⟨?_,?_,?_,?_⟩
 ·rw [zaH,map_append,<- zaH,<- zaH,h.er,k.er]; simp [vK]
 ·rw [V.wfs_all] at *
  have h1:=V.wfs_all.1 h.wf; have h2:=V.wfs_all.1 k.wf
  intro v hv; exact (mem_append.1 hv).elim (h1 v) (h2 v)
 ·have h1:=V.fews_all.1 h.few; have h2:=V.fews_all.1 k.few
  rw [V.fews_all];intro v hv; exact (mem_append.1 hv).elim (h1 v) (h2 v)
 ·rw [zeo]; have:=h.bulk; have:=k.bulk; omega
theorem Kd.one {B:Nat} {cs:List PC} {v:V} (he:erL cs = vC v) (hg:Gd B v):Kd B [cs] [v]:=by
 refine ⟨?_,⟨hg.wf,trivial⟩,⟨hg.few,trivial⟩,by simp only [V.bulks]; have:=hg.bulk; omega⟩;show [erL cs] = [v.d.pc];rw [he,V.pc_eq]
theorem Kd.mono {B B':Nat} {rows:LP PC} {ks:List V} (h:Kd B rows ks) (k:B <= B'):Kd B' rows ks:=⟨h.er,h.wf,h.few,Nat.le_trans h.bulk k⟩
theorem Kd.gd {B B':Nat} {rows:LP PC} {ks:List V} (h:Kd B rows ks) {k n e:Int} {s:L8} (hk:i64ok k) (hn:i64ok n) (he:i64ok e) (h8:k = 8 -> ks.length <= 8) (hl:ks.length <= 4294967295) (hs:s.length <= 4294967295) (hb:s.length + ks.length + B <= B'):Gd B' (.mk k n e s ks) :=
 ⟨⟨hk,hn,he,by unfold strok; omega,by omega,h.wf⟩,⟨h8,h.few⟩,by simp only [V.bulk]; have:=h.bulk; omega⟩
theorem zdo {B:Nat} {t:Nat} {rows:LP PC} {ks:List V} (h:Kd B rows ks) (k n e:Int) (s:L8):erL [pI k,pI n,pI e,pS s,.sl t rows] = vC (.mk k n e s ks):=by
 show [pI k,pI n,pI e,pS s,.sl 0 (erLL rows)] = _;rw [h.er]; rfl
theorem zaY {cs:List PC} {v:V} (h:erL cs = vC v):cs.length = 5:=by
 have:=congrArg length h
 rw [zaJ,length_map] at this; exact this
theorem keep_t {tm:Nat -> PV} {c c':List PC} {r:LP PC} {k p o:Nat} (h:ev tm (.t k) = .ref (p + 1) o):keepX (ev tm) (c :: r) ((c :: r).set 0 c') (.t k):=by
 unfold keepX; rw [h]; rfl
def zV:List PC:=[pI 0,pI 0,pI 0,pS [],.sl 1 []]
def vRow (k t:Nat) (rows:LP PC):List PC:=[pI k,pI 0,pI 0,pS [],.sl t rows]
theorem NR.row0 {nt n:Nat} {live l:List Nat} {k:Nat} (h:NR nt live n l []):NR nt live n l (vRow k 1 []):=h.plain rfl rfl
theorem NR.kids {nt n n2 t k:Nat} {live l l2:List Nat} {rows ds:LP PC} (h2:2 <= nt) (ht:t = 1 /\ rows = [] \/ 2 <= t) (h:NR nt live n l (vRow k t rows)) (hd:NR n l n2 l2 ds.flatten):NR nt live (n2 + 1) (n2 :: l2.filter (· != t)) (vRow k n2 (rows ++ ds)):=by
 have:=NR.app (a:=[pI k,pI 0,pI 0,pS []]) (b:=[]) (rows:=rows) (ds:=ds) h2 ht (h.trans hd)
 exact this
theorem NR.rowt {nt n t k:Nat} {live l:List Nat} {rows:LP PC} (ht:t = 1 /\ rows = [] \/ 2 <= t) (h:NR nt live n l (vRow k t rows)):t = 1 \/ t ∈ l:=by
 rcases ht with ⟨h1,_⟩ | h2
 ·exact .inl h1
 ·exact .inr (h.mem t (by unfold vRow; simp [toksL,PC.toks,pI,pS,h2])).2.2
theorem NR.rowt2 {nt n n2 t k:Nat} {live l l2:List Nat} {rows:LP PC} {cs:List PC} (ht:t = 1 /\ rows = [] \/ 2 <= t) (h:NR nt live n l (vRow k t rows)) (h2:NR n l n2 l2 cs):t = 1 \/ t ∈ l2:=by
 rcases ht with ⟨h1,_⟩ | h3
 ·exact .inl h1
 ·obtain ⟨a,b,c⟩:=h.mem t (by unfold vRow; simp [toksL,PC.toks,pI,pS,h3])
  exact .inr (h2.keep t c h3 b)
theorem litP1 {e:X -> PV} {x:X} {a:List PC} {n:Nat} (hx:pcells (e x) = some a) (ha:a.length = n):litP e n [x] = some [a]:=by simp only [litP,hx,ha,if_true]
theorem litP2 {e:X -> PV} {x y:X} {a b:List PC} {n:Nat} (hx:pcells (e x) = some a) (hy:pcells (e y) = some b) (ha:a.length = n) (hb:b.length = n):litP e n [x,y] = some [a,b]:=by simp only [litP,hx,hy,ha,hb,if_true]
section
variable {E:Env} {K:St -> Prop} {tm:Nat -> PV} {bx:LP PC} {nt d:Nat} {live:List Nat} {r:List MOpr} {c:List X}
theorem zcZ {n:Nat} {xs:List X} {es:LP PC} (hq:litP (ev tm) n xs = some es) (h:po E r K ⟨up d (.d (.sl 0 es)) tm,bx,nt,live⟩):po E (⟨some d,.litq n xs,none,c⟩ :: r) K ⟨tm,bx,nt,live⟩ :=
 po_q rfl (by show (litP (ev tm) n xs).map _ = _; rw [hq]; rfl) h
end
def MkM (b:L8) (d:Nat) (pl:Bool) (m nt:Nat) (live:List Nat) (k:Nat) (st:St):Prop :=
 ∃ (i t:Nat) (rows:LP PC) (ks:List V) (c:List PC) (rest:LP PC),i <= m /\ k = m - i /\ Cu b c /\ has st.tm [(0,.ref 0 0),(1,.d (pI ((d + 1:Nat):Int))),(2,.d (pB pl)),(6,.ref 1 0),(7,.ref 2 0),(8,.d (pI m)),(9,.d (pI i))] /\
  st.bx = c :: zV :: vRow 8 t rows :: rest /\ NR nt live st.nt st.live (vRow 8 t rows) /\ (t = 1 /\ rows = [] \/ 2 <= t) /\ ks.length = 2 * i /\ Kd (i * (10 + mkB d)) rows ks
def MkL (b:L8) (d:Nat) (pl:Bool) (m nt:Nat) (live:List Nat) (k:Nat) (st:St):Prop :=
 ∃ (i t:Nat) (rows:LP PC) (ks:List V) (c:List PC) (rest:LP PC),i <= m /\ k = m - i /\ Cu b c /\ has st.tm [(0,.ref 0 0),(1,.d (pI ((d + 1:Nat):Int))),(2,.d (pB pl)),(6,.ref 1 0),(7,.ref 2 0),(8,.d (pI m)),(11,.d (pI i))] /\
  st.bx = c :: zV :: vRow 7 t rows :: rest /\ NR nt live st.nt st.live (vRow 7 t rows) /\ (t = 1 /\ rows = [] \/ 2 <= t) /\ ks.length = i /\ Kd (i * mkB d) rows ks
theorem leafC (v:V) (h:v.kids = []):ownedL (vC v) = true /\ toksL (vC v) = []:=by
 obtain ⟨k,n,e,s,kids⟩:=v;have h:kids = []:=h
 subst h; exact ⟨rfl,rfl⟩
theorem make_drw {b:L8} (hb:b.length <= 2147483647) (pl:Bool):∀ (d:Nat),d <= 3 -> Drw (env T hT) b 44 [.d (pI d),.d (pB pl)] (QV 6 (mkB d)):=by
 intro d
 induction d with
 | zero =>
  intro _ c nt live hc hn;refine zaO (R:=DvR b 6 (mkB 0) nt live) (zag zcn) (by show 3 <= 90; decide) fun B hB' => ?_
  unfold m_s_l02Make;refine mP ?_;refine mM ?_;refine mS ?_;refine zah rfl rfl (decide_eq_true (by omega)) ?_;(iterate 1 refine mS ?_);refine mZ ?_;refine mT ?_;refine mO ?_;(iterate 2 refine mS ?_);refine po_g rfl ((zdO (T:=T) (hT:=hT) hb pl).use ⟨trivial,trivial⟩ hc hn (p:=0) rfl) ?_;rintro x bx n l ⟨c1,rfl,hc1,cs,v,rfl,hN,he,hg,hRT,hkl⟩;refine zaC (p:=1) (cs:=cs) rfl rfl rfl (zaY he) rfl rfl ?_;refine mN ?_
  exact zad ⟨.inr rfl,[.ag cs],zbV rfl rfl (zaY he),zaX hc1 hN he hg hRT (by omega)⟩
 | succ d ih =>
  intro hd c nt live hc hn;have ih:=ih (by omega);refine zaO (R:=DvR b 6 (mkB (d + 1)) nt live) (zag zcn) (by show 3 <= 90; decide) fun B hB' => ?_
  have hBl:=fun m => zaG (T:=T) (hT:=hT) hb m
  unfold m_s_l02Make;refine mP ?_;refine zax (fun st => ∃ c1,Cu b c1 /\ has st.tm [(0,.ref 0 0),(1,.d (pI ((d + 1:Nat):Int))),(2,.d (pB pl)),(6,.ref 1 0)] /\ st.bx = [c1,zV] /\ NR nt live st.nt st.live []) ?_ ?_
  ·refine mQ ?_
   refine zaq rfl rfl (decide_eq_false (by omega)) ?_;(iterate 2 refine mS ?_);refine po_gt rfl rfl ((zbX (T:=T) (hT:=hT) hb 3).use ⟨trivial,trivial⟩ hc hn (p:=0) rfl) ?_;rintro x bx n1 l1 ⟨c1,rfl,hc1,q,rfl,hN1⟩;refine mN ?_
   cases q with
   | false =>
    refine mwF ?_;refine zam ?_
    exact ⟨c1,hc1,⟨rfl,rfl,rfl,rfl,trivial⟩,rfl,hN1⟩
   | true =>
   refine mwT ?_;refine mO ?_;(iterate 2 refine mS ?_);refine po_g rfl ((zdO (T:=T) (hT:=hT) hb pl).use ⟨trivial,trivial⟩ hc1 (hN1.n2 hn) (p:=0) rfl) ?_;rintro x bx n l ⟨c2,rfl,hc2,cs,v,rfl,hN,he,hg,hRT,hkl⟩;refine zaC (p:=1) (cs:=cs) rfl rfl rfl (zaY he) rfl rfl ?_;refine mN ?_;exact zad ⟨.inr rfl,[.ag cs],zbV rfl rfl (zaY he),zaX hc2 (hN1.trans hN) he (hg.mono (by show 20 <= 40 + 3 * mkB d; omega)) hRT (by omega)⟩
  rintro tm bx n1 l1 ⟨c1,hc1,ht,hbx,hN1⟩;obtain ⟨tm0,rfl⟩:=zaf ht;simp only at hbx hN1; subst hbx
  clear ht;have hn1:=hN1.n2 hn;refine mO ?_;refine po_s (v:=.ag (vRow 7 1 [])) rfl rfl rfl ?_;refine po_nw (cs:=vRow 7 1 []) rfl rfl rfl rfl ?_;refine mN ?_;refine mQ ?_;refine po_g rfl ((hBl 4).use ⟨trivial,trivial⟩ hc1 hn1 (p:=0) rfl) ?_;rintro x bx n2 l2 ⟨c2,rfl,hc2,m,rfl,m0,m1,hN2⟩;obtain ⟨m,rfl⟩:∃ k':Nat,m = k':=⟨m.toNat,by omega⟩;have hm:m <= 3:=by omega
  have hN12:=hN1.pass hN2;have hn2:=hN12.n2 hn;refine mN ?_;refine zax (fun st => ∃ c1,Cu b c1 /\ has st.tm [(0,.ref 0 0),(1,.d (pI ((d + 1:Nat):Int))),(2,.d (pB pl)),(6,.ref 1 0),(7,.ref 2 0),(8,.d (pI m))] /\ st.bx = [c1,zV,vRow 7 1 []] /\ NR nt live st.nt st.live []) ?_ ?_
  ·refine mQ ?_
   refine po_g rfl ((hBl 5).use ⟨trivial,trivial⟩ hc2 hn2 (p:=0) rfl) ?_;rintro x bx n3 l3 ⟨c3,rfl,hc3,r,rfl,r0,r1,hN3⟩;have hN13:=hN12.pass hN3;have hn3:=hN13.n2 hn;refine zai ?_;refine zab ?_;refine mO ?_;by_cases k0:r = 0
   ·refine zah rfl rfl (beq_iff_eq.2 k0) ?_
    refine mT ?_;refine mP ?_
    cases pl with
    | true =>
     refine mwF ?_;refine zam ?_
     exact ⟨c3,hc3,⟨rfl,rfl,rfl,rfl,rfl,rfl,trivial⟩,rfl,hN13⟩
    | false =>
    refine mwT ?_;refine mQ ?_;refine zaz rfl ?_;refine po_g rfl ((zbk (T:=T) (hT:=hT) hb (fun r => decide (0 <= r) && decide (r <= 1000000)) rfl (by show 0 < 5; decide)).use ⟨by simp only [PV.lw,PC.lw]; exact zcc (p:=fun r => decide (0 <= r) && decide (r <= 1000000)) rfl,trivial⟩ hc3 (by omega) (p:=0) rfl) ?_;rintro x bx n4 l4 ⟨c4,rfl,hc4,v,rfl,hv,hN4⟩;simp only [Bool.and_eq_true,decide_eq_true_eq] at hv;have hN14:=hN13.up.pass hN4;have hn4:=hN14.n2 hn;(iterate 2 refine mS ?_);refine zbA (n:=(d:Int)) rfl rfl rfl (by omega) (by omega) ?_;refine mS ?_;refine po_g rfl (ih.use ⟨trivial,trivial,trivial⟩ hc4 hn4 (p:=0) rfl) ?_;rintro x bx n5 l5 ⟨c5,rfl,hc5,cs,w,rfl,hN5,he,hg,hRT,hkl⟩;have hcl:=zaY he;refine zaz (es:=[cs]) (by show (if cs.length = 5 then some [cs] else none) = some [cs]; rw [if_pos hcl]) ?_;refine po_s (v:=.ag [pI 9,pI v,pI 0,pS [],.sl n5 [cs]]) rfl rfl rfl ?_
    refine zaC (p:=1) (cs:=[pI 9,pI v,pI 0,pS [],.sl n5 [cs]]) rfl rfl rfl rfl rfl rfl ?_;refine mN ?_;have hNl:=NR.lit (es:=[cs]) hn (by simpa using (hN14.trans hN5));exact zad ⟨.inr rfl,[.ag [pI 9,pI v,pI 0,pS [],.sl n5 [cs]]],rfl,zaX hc5 (hNl.plain (by simpa [ownedL,PC.owned,pI,pS] using hNl.own) (by simp [toksL,PC.toks,pI,pS])) (zdo (Kd.one he hg) 9 v 0 []) ((Kd.one he hg).gd (zaa (by omega)) (zaa (by omega)) (zaa (by omega)) (fun h => by cases h) (by simp) (by simp) (by show 0 + 1 + mkB d <= 40 + 3 * mkB d; omega)) ⟨_,_,_,_,n5,[cs],rfl,.inr (by have:=hN5.n2 hn4; omega)⟩ (by show 1 <= 6; decide)⟩
   refine zaq rfl rfl (beq_eq_false_iff_ne.2 k0) ?_;refine mF ?_;refine zax (fun st => has st.tm [(0,.ref 0 0),(1,.d (pI ((d + 1:Nat):Int))),(2,.d (pB pl)),(6,.ref 1 0),(7,.ref 2 0),(8,.d (pI m)),(40,.d (pB (decide (r = 1 \/ r = 2))))] /\ st.bx = [c3,zV,vRow 7 1 []] /\ st.nt = n3 /\ st.live = l3) ?_ ?_
   ·refine mO ?_
    by_cases k3:r = 1
    ·refine zah rfl rfl (beq_iff_eq.2 k3) ?_
     refine mT ?_;refine zam ?_;exact ⟨⟨rfl,rfl,rfl,rfl,rfl,rfl,by rw [decide_eq_true (.inl k3)]; rfl,trivial⟩,rfl,rfl,rfl⟩
    ·refine zaq rfl rfl (beq_eq_false_iff_ne.2 k3) ?_
     refine mF ?_;refine zae ?_;by_cases k4:r = 2
     ·refine zah rfl rfl (beq_iff_eq.2 k4) ?_
      refine mN ?_;exact ⟨⟨rfl,rfl,rfl,rfl,rfl,rfl,by rw [decide_eq_true (.inr k4)]; rfl,trivial⟩,rfl,rfl,rfl⟩
     ·refine zaq rfl rfl (beq_eq_false_iff_ne.2 k4) ?_
      refine mN ?_;exact ⟨⟨rfl,rfl,rfl,rfl,rfl,rfl,by rw [decide_eq_false (by omega)]; rfl,trivial⟩,rfl,rfl,rfl⟩
   rintro tm bx n4 l4 ⟨ht,hbx,hn4,hl4⟩;obtain ⟨tm1,rfl⟩:=zaf ht;simp only at hbx hn4 hl4; subst hbx; subst hn4; subst hl4
   clear ht tm0;refine zeg (p:=r = 1 \/ r = 2) rfl (fun k => ?_) (fun k => ?_)
   rotate_left
   ·refine zam ?_
    exact ⟨c3,hc3,⟨rfl,rfl,rfl,rfl,rfl,rfl,trivial⟩,rfl,hN13⟩
   refine mQ ?_;refine zaL (p:=2) (o':=0) (cs:=[pI 8]) (z:=vRow 7 1 []) rfl rfl rfl ⟨rfl,by show 0 + 1 <= 5; decide⟩ rfl ?_;refine zai ?_;refine zax (fun st => ∃ (t:Nat) (rows:LP PC) (ks:List V) (c:List PC) (rest:LP PC),Cu b c /\ has st.tm [(6,.ref 1 0),(7,.ref 2 0)] /\ st.bx = c :: zV :: vRow 8 t rows :: rest /\ NR nt live st.nt st.live (vRow 8 t rows) /\ (t = 1 /\ rows = [] \/ 2 <= t) /\ ks.length <= 6 /\ Kd (3 * (10 + mkB d)) rows ks) ?_ ?_
   ·refine mP ?_
    refine zab ?_;refine zaA (MkM b d pl m nt live) m ⟨0,1,[],[],c3,[],Nat.zero_le _,rfl,hc3,⟨rfl,rfl,rfl,rfl,rfl,rfl,rfl,trivial⟩,rfl,hN13.row0,.inl ⟨rfl,rfl⟩,rfl,by rw [Nat.zero_mul]; exact Kd.nil⟩ ?_;rintro k' tm bx n4 l4 ⟨i,t,rows,ks,c4,rest,hi,rfl,hc4,ht,hbx,hN4,ht2,hks,hKd⟩;obtain ⟨tm0,rfl⟩:=zaf ht;simp only at hbx hN4; subst hbx
    clear ht;have hn4:=hN4.n2 hn;refine mM ?_;(iterate 2 refine mS ?_);refine po_b rfl rfl (fun q hq => ?_);refine zai ?_;refine zbM (p:=(i:Int) < m) hq rfl (fun him _ => ?_) (fun him _ => ?_)
    rotate_left
    ·refine zay ?_
     have hmul:i * (10 + mkB d) <= 3 * (10 + mkB d):=Nat.mul_le_mul_right _ (by omega);exact ⟨t,rows,ks,c4,rest,hc4,⟨rfl,rfl,trivial⟩,rfl,hN4,ht2,by omega,hKd.mono hmul⟩
    refine zam ?_;refine zav (zab ?_);refine mO ?_;refine zaz rfl ?_;refine mS ?_;have hi3:i < [[pS [110,97,109,101]],[pS [105,100]],[pS [108,105,115,116]],[pS [99,111,109,109,111,110,32,107,101,121]]].length:=by show i < 4; omega
    obtain ⟨s,hs,hsl⟩:=ze4 (p:=fun s => decide (s.length <= 10)) rfl hi3;have hsl:=of_decide_eq_true hsl;refine za9 (es:=[[pS [110,97,109,101]],[pS [105,100]],[pS [108,105,115,116]],[pS [99,111,109,109,111,110,32,107,101,121]]]) (e:=[pS s]) rfl rfl rfl ⟨by omega,by rw [Int.toNat_natCast,getElem?_eq_getElem hi3,hs]⟩ rfl ?_;refine mS ?_;refine zao rfl (str_fn (T:=T) (hT:=hT) s) ?_;refine po_nw (cs:=vC (.mk 5 0 0 s [])) rfl rfl rfl rfl ?_;refine mN ?_;refine zax (fun st => ∃ (c:List PC) (kv:V),Cu b c /\ (Gd 10 kv /\ kv.kids = []) /\ NR nt live st.nt st.live (vRow 8 t rows) /\ has st.tm [(0,.ref 0 0),(1,.d (pI ((d + 1:Nat):Int))),(2,.d (pB pl)),(6,.ref 1 0),(7,.ref 2 0),(8,.d (pI m)),(9,.d (pI i)),(10,.ref (rest.length + 3) 0)] /\ st.bx = c :: zV :: vRow 8 t rows :: (rest ++ [vC kv])) ?_ ?_
    ·refine zax (fun st => ∃ (c:List PC) (q:Bool),Cu b c /\ NR nt live st.nt st.live (vRow 8 t rows) /\ has st.tm [(0,.ref 0 0),(1,.d (pI ((d + 1:Nat):Int))),(2,.d (pB pl)),(6,.ref 1 0),(7,.ref 2 0),(8,.d (pI m)),(9,.d (pI i)),(10,.ref (rest.length + 3) 0),(59,.d (pB q))] /\ st.bx = c :: zV :: vRow 8 t rows :: (rest ++ [vC (.mk 5 0 0 s [])])) ?_ ?_
     ·refine zae ?_
      refine mS ?_;refine po_g rfl ((zbX (T:=T) (hT:=hT) hb 8).use ⟨trivial,trivial⟩ hc4 (by omega) (p:=0) rfl) ?_;rintro x bx n5 l5 ⟨c5,rfl,hc5,q,rfl,hN5⟩;have hN45:=(hN4.up.trans hN5);rw [append_nil] at hN45;refine mS ?_
      cases q with
      | true =>
       (iterate 2 refine mS ?_);refine mN ?_
       exact ⟨c5,!pl,hc5,hN45,⟨rfl,rfl,rfl,rfl,rfl,rfl,rfl,rfl,rfl,trivial⟩,rfl⟩
      | false =>
       refine mZ ?_;refine mN ?_;exact ⟨c5,false,hc5,hN45,⟨rfl,rfl,rfl,rfl,rfl,rfl,rfl,rfl,rfl,trivial⟩,rfl⟩
     rintro tm bx n5 l5 ⟨c5,q,hc5,hN5,ht,hbx⟩;obtain ⟨tm1,rfl⟩:=zaf ht;simp only at hbx hN5; subst hbx
     clear ht
     cases q with
     | false =>
      refine mwF ?_;refine zam ?_
      exact ⟨c5,.mk 5 0 0 s [],hc5,⟨za4 (zaa (by omega)) (zaa (by omega)) (zaa (by omega)) hsl (by decide),rfl⟩,hN5,⟨rfl,rfl,rfl,rfl,rfl,rfl,rfl,rfl,trivial⟩,rfl⟩
     | true =>
      refine mwT ?_;refine zae ?_;refine mS ?_;refine zao rfl (intD_fn (T:=T) (hT:=hT) (i:Int)) ?_;refine zaC (p:=rest.length + 3) (cs:=vC (.mk 3 i 0 [] [])) (z:=vC (.mk 5 0 0 s [])) rfl rfl (zb9 rest _) rfl rfl rfl ?_;refine mN ?_;refine ⟨c5,.mk 3 i 0 [] [],hc5,⟨za4 (zaa (by omega)) (zaa (by omega)) (zaa (by omega)) (Nat.zero_le _) (by decide),rfl⟩,hN5,⟨rfl,rfl,rfl,rfl,rfl,rfl,rfl,rfl,trivial⟩,?_⟩;show c5 :: zV :: vRow 8 t rows :: ((rest ++ [vC (.mk 5 0 0 s [])]).set rest.length _) = _;rw [set_append_right _ _ lR,Nat.sub_self]; rfl
    rintro tm bx n5 l5 ⟨c5,kv,hc5,⟨hkv,hkk⟩,hN5,ht,hbx⟩;obtain ⟨tm1,rfl⟩:=zaf ht;simp only at hbx hN5; subst hbx
    clear ht tm0;have hn5:=hN5.n2 hn;refine zae ?_;refine mS ?_;refine za7 (cs:=vRow 8 t rows) (v:=.d (.sl t rows)) rfl rfl rfl (by show 4 + 1 <= 5; decide) rfl ?_;refine zaN (p:=rest.length + 3) (cs:=vC kv) rfl rfl (zb9 rest _) rfl ?_;(iterate 2 refine mS ?_);refine zbA (n:=(d:Int)) rfl rfl rfl (by omega) (by omega) ?_;refine mS ?_;refine po_gk rfl (ih.use ⟨trivial,trivial,trivial⟩ hc5 hn5 (p:=0) rfl) ?_ ?_
    ·rintro x bx n l ⟨c',rfl,_⟩ y hy
     simp only [mem_cons,not_mem_nil,or_false] at hy
     rcases hy with rfl | rfl
     ·exact keep_t (p:=1) (o:=4) rfl
     ·exact keep_t (p:=rest.length + 2) (o:=0) rfl
    rintro x bx n6 l6 ⟨c6,rfl,hc6,cs,w,rfl,hN6,he,hg,hRT,hkl⟩;have hcl:=zaY he;refine zcZ (litP2 (a:=vC kv) (b:=cs) rfl rfl rfl hcl) ?_;refine za1 (t:=t) (t':=0) (es:=rows) (ds:=[vC kv,cs]) rfl rfl (NR.rowt2 ht2 hN5 hN6) (by rw [hKd.len]; simp only [length_cons,length_nil]; omega) (fun e he => by simp only [mem_cons,not_mem_nil,or_false] at he; rcases he with rfl | rfl; rfl; exact hcl) hKd.wid ?_;refine mS ?_;refine zaL (p:=2) (o':=4) (cs:=[.sl n6 (rows ++ [vC kv,cs])]) (z:=vRow 8 t rows) rfl rfl rfl ⟨rfl,by show 4 + 1 <= 5; decide⟩ rfl ?_;refine zai ?_;refine zae ?_;refine mS ?_;refine zan (n:=((i + 1:Nat):Int)) rfl rfl rfl (by omega) (by omega) ?_;refine mN ?_
    have hds:NR n5 l5 n6 l6 [vC kv,cs].flatten:=by
     obtain ⟨o1,o2⟩:=leafC kv hkk;exact hN6.plain (by show ownedL (vC kv ++ (cs ++ [])) = true; rw [zaB,o1,append_nil,hN6.own]; rfl) (by show toksL (vC kv ++ (cs ++ [])) = _; rw [zas,o2,append_nil]; rfl)
    exact ⟨_,by show m - (i + 1) < m - i; omega,i + 1,n6,rows ++ [vC kv,cs],ks ++ [kv,w],c6,rest ++ [vC kv],by omega,rfl,hc6,⟨rfl,rfl,rfl,rfl,rfl,rfl,rfl,trivial⟩,rfl,NR.kids hn ht2 hN5 hds,.inr (by have:=hN6.n2 hn5; omega),by rw [length_append]; simp only [length_cons,length_nil]; omega,by rw [Nat.succ_mul]; exact hKd.app ((Kd.one (zcr kv) hkv).app (Kd.one he hg))⟩
   rintro tm bx n4 l4 ⟨t,rows,ks,c4,rest,hc4,ht,hbx,hN4,ht2,hks,hKd⟩;obtain ⟨tm1,rfl⟩:=zaf ht;simp only at hbx hN4; subst hbx
   clear ht;refine mO ?_;refine zaN (p:=2) (cs:=vRow 8 t rows) rfl rfl rfl rfl ?_;refine zaC (p:=1) (cs:=vRow 8 t rows) rfl rfl rfl rfl rfl rfl ?_;refine mN ?_;exact zad ⟨.inr rfl,[.ag (vRow 8 t rows)],rfl,zaX hc4 hN4 (zdo hKd 8 0 0 []) (hKd.gd (zaa (by omega)) (zaa (by omega)) (zaa (by omega)) (fun _ => by omega) (by omega) (by simp) (by show 0 + ks.length + 3 * (10 + mkB d) <= 40 + 3 * mkB d; omega)) ⟨_,_,_,_,t,rows,rfl,ht2⟩ (by show ks.length <= 6; omega)⟩
  rintro tm bx n3 l3 ⟨c3,hc3,ht,hbx,hN3⟩;obtain ⟨tm1,rfl⟩:=zaf ht;simp only at hbx hN3; subst hbx
  clear ht;refine zax (fun st => ∃ (t:Nat) (rows:LP PC) (ks:List V) (c:List PC) (rest:LP PC),Cu b c /\ has st.tm [(6,.ref 1 0),(7,.ref 2 0)] /\ st.bx = c :: zV :: vRow 7 t rows :: rest /\ NR nt live st.nt st.live (vRow 7 t rows) /\ (t = 1 /\ rows = [] \/ 2 <= t) /\ ks.length <= 3 /\ Kd (3 * mkB d) rows ks) ?_ ?_
  ·refine mP ?_
   refine zab ?_;refine zaA (MkL b d pl m nt live) m ⟨0,1,[],[],c3,[],Nat.zero_le _,rfl,hc3,⟨rfl,rfl,rfl,rfl,rfl,rfl,rfl,trivial⟩,rfl,hN3.row0,.inl ⟨rfl,rfl⟩,rfl,by rw [Nat.zero_mul]; exact Kd.nil⟩ ?_;rintro k' tm bx n4 l4 ⟨i,t,rows,ks,c4,rest,hi,rfl,hc4,ht,hbx,hN4,ht2,hks,hKd⟩;obtain ⟨tm2,rfl⟩:=zaf ht;simp only at hbx hN4; subst hbx
   clear ht;have hn4:=hN4.n2 hn;refine mM ?_;(iterate 2 refine mS ?_);refine po_b rfl rfl (fun q hq => ?_);refine zai ?_;refine zbM (p:=(i:Int) < m) hq rfl (fun him _ => ?_) (fun him _ => ?_)
   rotate_left
   ·refine zay ?_
    have hmul:i * mkB d <= 3 * mkB d:=Nat.mul_le_mul_right _ (by omega);exact ⟨t,rows,ks,c4,rest,hc4,⟨rfl,rfl,trivial⟩,rfl,hN4,ht2,by omega,hKd.mono hmul⟩
   refine zam ?_;refine zav (zab (zae ?_));refine mS ?_;refine za7 (cs:=vRow 7 t rows) (v:=.d (.sl t rows)) rfl rfl rfl (by show 4 + 1 <= 5; decide) rfl ?_;(iterate 2 refine mS ?_);refine zbA (n:=(d:Int)) rfl rfl rfl (by omega) (by omega) ?_;refine mS ?_;refine po_gk rfl (ih.use ⟨trivial,trivial,trivial⟩ hc4 hn4 (p:=0) rfl) ?_ ?_
   ·rintro x bx n l ⟨c',rfl,_⟩ y hy
    simp only [mem_cons,not_mem_nil,or_false] at hy;subst hy;exact keep_t (p:=1) (o:=4) rfl
   rintro x bx n6 l6 ⟨c6,rfl,hc6,cs,w,rfl,hN6,he,hg,hRT,hkl⟩;have hcl:=zaY he;refine zcZ (litP1 (a:=cs) rfl hcl) ?_;refine za1 (t:=t) (t':=0) (es:=rows) (ds:=[cs]) rfl rfl (NR.rowt2 ht2 hN4 hN6) (by rw [hKd.len]; simp only [length_cons,length_nil]; omega) (fun e he => by simp only [mem_singleton] at he; subst he; exact hcl) hKd.wid ?_;refine mS ?_;refine zaL (p:=2) (o':=4) (cs:=[.sl n6 (rows ++ [cs])]) (z:=vRow 7 t rows) rfl rfl rfl ⟨rfl,by show 4 + 1 <= 5; decide⟩ rfl ?_;refine zai ?_;refine zae ?_;refine mS ?_;refine zan (n:=((i + 1:Nat):Int)) rfl rfl rfl (by omega) (by omega) ?_;refine mN ?_;have hds:NR n4 l4 n6 l6 [cs].flatten:=by simpa using hN6
   exact ⟨_,by show m - (i + 1) < m - i; omega,i + 1,n6,rows ++ [cs],ks ++ [w],c6,rest,by omega,rfl,hc6,⟨rfl,rfl,rfl,rfl,rfl,rfl,rfl,trivial⟩,rfl,NR.kids hn ht2 hN4 hds,.inr (by have:=hN6.n2 hn4; omega),by rw [length_append,length_singleton]; omega,by rw [Nat.succ_mul]; exact hKd.app (Kd.one he hg)⟩
  rintro tm bx n4 l4 ⟨t,rows,ks,c4,rest,hc4,ht,hbx,hN4,ht2,hks,hKd⟩;obtain ⟨tm2,rfl⟩:=zaf ht;simp only at hbx hN4; subst hbx
  clear ht;refine mO ?_;refine zaN (p:=2) (cs:=vRow 7 t rows) rfl rfl rfl rfl ?_;refine zaC (p:=1) (cs:=vRow 7 t rows) rfl rfl rfl rfl rfl rfl ?_;refine mN ?_;exact zad ⟨.inr rfl,[.ag (vRow 7 t rows)],rfl,zaX hc4 hN4 (zdo hKd 7 0 0 []) (hKd.gd (zaa (by omega)) (zaa (by omega)) (zaa (by omega)) (fun h => by cases h) (by omega) (by simp) (by show 0 + ks.length + 3 * mkB d <= 40 + 3 * mkB d; omega)) ⟨_,_,_,_,t,rows,rfl,ht2⟩ (by show ks.length <= 6; omega)⟩
theorem er_v {c:PC} {x:Value} (h:c.er = .v x):c = .v x:=by
 cases c <;> simp [PC.er] at h
 rw [h]
theorem qv_form {cs:List PC} {v:V} (he:erL cs = vC v) (hR:RowT cs):∃ (t:Nat) (rows:LP PC),cs = [pI v.kind,pI v.num,pI v.exp,pS v.text,.sl t rows] /\ (t = 1 /\ rows = [] \/ 2 <= t) /\ erLL rows = vK v.kids:=by
 obtain ⟨a,b,c,d,t,rows,rfl,ht⟩:=hR;simp only [erL,vC,cons.injEq,and_true,PC.er,PC.sl.injEq,true_and] at he;obtain ⟨h1,h2,h3,h4,h5⟩:=he;refine ⟨t,rows,?_,ht,h5⟩;rw [er_v h1,er_v h2,er_v h3,er_v h4]; rfl
def vcs (k n e:Int) (s:L8) (t:Nat) (rows:LP PC):List PC:=[pI k,pI n,pI e,pS s,.sl t rows]
def AnP (b:L8) (B nt:Nat) (live:List Nat) (st:St):Prop :=
 ∃ (c:List PC) (k n e:Int) (s:L8) (t:Nat) (rows:LP PC) (ks:List V) (rest:LP PC),Cu b c /\ has st.tm [(0,.ref 0 0),(2,.ref 1 0),(3,.ref 2 0)] /\ st.bx = c :: zV :: vcs k n e s t rows :: rest /\
  NR nt live st.nt st.live (vcs k n e s t rows) /\ (t = 1 /\ rows = [] \/ 2 <= t) /\ erLL rows = vK ks /\ Gd B (.mk k n e s ks) /\ ks.length <= 302
theorem Gd.kd {B:Nat} {k n e:Int} {s:L8} {ks:List V} (h:Gd B (.mk k n e s ks)) {rows:LP PC} (he:erLL rows = vK ks):Kd (V.bulks ks) rows ks:=⟨he,h.wf.2.2.2.2.2,h.few.2,lR⟩
theorem NR.recell {nt n t:Nat} {live l:List Nat} {k m e k' m' e':Int} {s s':L8} {rows:LP PC} (h:NR nt live n l (vcs k m e s t rows)):NR nt live n l (vcs k' m' e' s' t rows):=h.plain h.own rfl
theorem NR.row7 {nt n t:Nat} {live l:List Nat} {k m e:Int} {s:L8} {rows:LP PC} (h:NR nt live n l (vcs k m e s t rows)) (q:Nat):NR nt live n l (vRow q t rows):=h.plain h.own rfl
theorem NR.vcs {nt n t q:Nat} {live l:List Nat} {k m e:Int} {s:L8} {rows:LP PC} (h:NR nt live n l (vRow q t rows)):NR nt live n l (vcs k m e s t rows):=h.plain h.own rfl
theorem bulk_len {k n e:Int} {s:L8} {ks:List V} {B:Nat} (h:Gd B (.mk k n e s ks)):ks.length <= B /\ s.length + ks.length + V.bulks ks <= B:=by
 have:=h.bulk
 simp only [V.bulk] at this; omega
theorem any_drw {b:L8} (hb:b.length <= 2147483647):Drw (env T hT) b 43 [] (QV 302 4000):=by
 rintro c nt live hc hn;refine zaO (R:=DvR b 302 4000 nt live) (zag ze2) (by show 1 <= 74; decide) fun B hB' => ?_
 have hBl:=fun m => zaG (T:=T) (hT:=hT) hb m
 unfold m_s_l02Any;refine mP ?_;refine mO ?_;(iterate 2 refine mS ?_);refine po_g rfl ((zbX (T:=T) (hT:=hT) hb 3).use ⟨trivial,trivial⟩ hc hn (p:=0) rfl) ?_;rintro x bx n1 l1 ⟨c1,rfl,hc1,q,rfl,hN1⟩;refine po_g rfl ((make_drw (T:=T) (hT:=hT) hb q 3 lR).use ⟨trivial,trivial,trivial⟩ hc1 (hN1.n2 hn) (p:=0) rfl) ?_;rintro x bx n2 l2 ⟨c2,rfl,hc2,cs,v,rfl,hN2,he,hg,hR,hk6⟩;have hN12:NR nt live n2 l2 cs:=by simpa using hN1.trans hN2
 obtain ⟨t,rows,hcs,ht2,hrows⟩:=qv_form he hR;obtain ⟨k,n,e,s,ks⟩:=v;simp only [V.kind,V.num,V.exp,V.text,V.kids] at hcs hrows hk6;subst hcs;have hg:Gd 1500 (.mk k n e s ks):=hg.mono (by decide);clear he hR hN1 hN2;refine po_nw (cs:=vcs k n e s t rows) rfl rfl rfl rfl ?_;refine mN ?_;have hbl:=bulk_len hg;have hwf:=hg.wf;refine zax (fun st => AnP b 4000 nt live st) ?_ ?_
 ·have keep:∀ (c3:List PC) (hc3:Cu b c3) (st:St),has st.tm [(0,.ref 0 0),(2,.ref 1 0),(3,.ref 2 0)] -> st.bx = c3 :: zV :: vcs k n e s t rows :: [] -> NR nt live st.nt st.live (vcs k n e s t rows) -> AnP b 4000 nt live st:=fun c3 hc3 st h1 h2 h3 => ⟨c3,k,n,e,s,t,rows,ks,[],hc3,h1,h2,h3,ht2,hrows,hg.mono (by decide),by omega⟩
  refine mQ ?_;refine po_g rfl ((hBl 24).use ⟨trivial,trivial⟩ hc2 (hN12.n2 hn) (p:=0) rfl) ?_;rintro x bx n3 l3 ⟨c3,rfl,hc3,r,rfl,r0,r1,hN3⟩;have hN13:=hN12.pass hN3;have hn3:=hN13.n2 hn;refine zai ?_;refine zab ?_;refine mO ?_;by_cases k0:r = 0
  ·refine zah rfl rfl (beq_iff_eq.2 k0) ?_
   refine mT ?_;refine zae ?_;refine mS ?_;refine po_g rfl ((hBl 12).use ⟨trivial,trivial⟩ hc3 hn3 (p:=0) rfl) ?_;rintro x bx n4 l4 ⟨c4,rfl,hc4,v,rfl,v0,v1,hN4⟩;refine zbA (n:=v - 1) rfl rfl rfl rfl (by omega) ?_;refine mS ?_;refine zaL (p:=2) (o':=0) (cs:=[pI (v - 1)]) (z:=vcs k n e s t rows) rfl rfl rfl ⟨rfl,by show 0 + 1 <= 5; decide⟩ rfl ?_;refine zai ?_;refine ⟨c4,v - 1,n,e,s,t,rows,ks,[],hc4,⟨rfl,rfl,rfl,trivial⟩,rfl,(hN13.pass hN4).recell,ht2,hrows,⟨⟨zaa (by omega),hwf.2⟩,⟨fun _ => by omega,hg.few.2⟩,by simp only [V.bulk]; omega⟩,by omega⟩
  refine zaq rfl rfl (beq_eq_false_iff_ne.2 k0) ?_;refine mF ?_;refine mO ?_;by_cases k1:r = 1
  ·refine zah rfl rfl (beq_iff_eq.2 k1) ?_
   refine mT ?_;refine zae ?_;refine mS ?_;refine zaz rfl ?_;refine po_g rfl ((zbk (T:=T) (hT:=hT) hb i64B rfl (by show 0 < 4; decide)).use ⟨by simp only [PV.lw,PC.lw]; exact zcc (p:=i64B) rfl,trivial⟩ hc3 (by omega) (p:=0) rfl) ?_;rintro x bx n4 l4 ⟨c4,rfl,hc4,v,rfl,hv,hN4⟩;refine mS ?_;refine zaL (p:=2) (o':=1) (cs:=[pI v]) (z:=vcs k n e s t rows) rfl rfl rfl ⟨rfl,by show 1 + 1 <= 5; decide⟩ rfl ?_;refine zai ?_;refine ⟨c4,k,v,e,s,t,rows,ks,[],hc4,⟨rfl,rfl,rfl,trivial⟩,rfl,(hN13.up.pass hN4).recell,ht2,hrows,⟨⟨hwf.1,zdN hv,hwf.2.2⟩,hg.few,by simp only [V.bulk]; omega⟩,by omega⟩
  refine zaq rfl rfl (beq_eq_false_iff_ne.2 k1) ?_;refine mF ?_;refine mO ?_;by_cases k2:r = 2
  ·refine zah rfl rfl (beq_iff_eq.2 k2) ?_
   refine mT ?_;refine zae ?_;refine mS ?_;refine za7 (cs:=vcs k n e s t rows) (v:=.d (.sl t rows)) rfl rfl rfl (by show 4 + 1 <= 5; decide) rfl ?_;refine mS ?_;refine po_gk rfl ((zdO (T:=T) (hT:=hT) hb false).use ⟨trivial,trivial⟩ hc3 hn3 (p:=0) rfl) ?_ ?_
   ·rintro x bx n l ⟨c',rfl,_⟩ y hy
    simp only [mem_cons,not_mem_nil,or_false] at hy;subst hy;exact keep_t (p:=1) (o:=4) rfl
   rintro x bx n4 l4 ⟨c4,rfl,hc4,cs,w,rfl,hN4,he,hgw,_,_⟩;have hcl:=zaY he;refine zcZ (litP1 (a:=cs) rfl hcl) ?_;have hK:=(hg.kd hrows).app (Kd.one he hgw);refine za1 (t:=t) (t':=0) (es:=rows) (ds:=[cs]) rfl rfl (NR.rowt2 ht2 (hN13.row7 7) hN4) (by rw [(hg.kd hrows).len]; simp only [length_cons,length_nil]; omega) (fun e he => by simp only [mem_singleton] at he; subst he; exact hcl) (hg.kd hrows).wid ?_;refine mS ?_;refine zaL (p:=2) (o':=4) (cs:=[.sl n4 (rows ++ [cs])]) (z:=vcs k n e s t rows) rfl rfl rfl ⟨rfl,by show 4 + 1 <= 5; decide⟩ rfl ?_;refine zai ?_;have hds:NR n3 l3 n4 l4 [cs].flatten:=by simpa using hN4
   exact ⟨c4,k,n,e,s,n4,rows ++ [cs],ks ++ [w],[],hc4,⟨rfl,rfl,rfl,trivial⟩,rfl,(NR.kids hn ht2 (hN13.row7 7) hds).vcs,.inr (by have:=hN4.n2 hn3; omega),hK.er,hK.gd hwf.1 hwf.2.1 hwf.2.2.1 (fun h8 => by rw [length_append,length_singleton]; omega) (by rw [length_append,length_singleton]; omega) (by omega) (by rw [length_append,length_singleton]; omega),by rw [length_append,length_singleton]; omega⟩
  refine zaq rfl rfl (beq_eq_false_iff_ne.2 k2) ?_;refine mF ?_;refine mO ?_;by_cases k3:r = 3
  ·refine zah rfl rfl (beq_iff_eq.2 k3) ?_
   refine mT ?_;refine mO ?_;refine po_g rfl (lstr_g (T:=T) (hT:=hT) [97]) ?_;rintro x b' n4 l4 ⟨hb4,rfl,hn4,hl4⟩
   subst hb4; subst hn4; subst hl4
   refine po_g rfl (int_g (T:=T) (hT:=hT) 1) ?_;rintro x b' n4 l4 ⟨hb4,rfl,hn4,hl4⟩
   subst hb4; subst hn4; subst hl4
   refine po_g rfl (lstr_g (T:=T) (hT:=hT) [97]) ?_;rintro x b' n4 l4 ⟨hb4,rfl,hn4,hl4⟩
   subst hb4; subst hn4; subst hl4
   refine po_g rfl (int_g (T:=T) (hT:=hT) 2) ?_;rintro x b' n4 l4 ⟨hb4,rfl,hn4,hl4⟩
   subst hb4; subst hn4; subst hl4
   refine zaz (es:=[vL 5 0 0 [97],vL 3 1 0 [],vL 5 0 0 [97],vL 3 2 0 []]) rfl ?_;refine po_s (v:=.ag (vcs 8 0 0 [] n4 [vL 5 0 0 [97],vL 3 1 0 [],vL 5 0 0 [97],vL 3 2 0 []])) rfl rfl rfl ?_;refine zaC (p:=1) (cs:=vcs 8 0 0 [] n4 [vL 5 0 0 [97],vL 3 1 0 [],vL 5 0 0 [97],vL 3 2 0 []]) rfl rfl rfl rfl rfl rfl ?_;refine mN ?_;have hNl:=NR.lit (es:=[vL 5 0 0 [97],vL 3 1 0 [],vL 5 0 0 [97],vL 3 2 0 []]) hn (hN13.forget.plain rfl rfl)
   have hK:Kd 10 [vL 5 0 0 [97],vL 3 1 0 [],vL 5 0 0 [97],vL 3 2 0 []] [.mk 5 0 0 [97] [],.mk 3 1 0 [] [],.mk 5 0 0 [97] [],.mk 3 2 0 [] []]:=by
    have one:∀ (a m:Int) (z:L8),i64ok a -> i64ok m -> z.length <= 1 -> Kd 1 [vL a m 0 z] [.mk a m 0 z []]:=fun a m z ha hm hz => Kd.one zbl (za4 ha hm (zaa (by omega)) hz (by decide))
    exact ((one 5 0 [97] (zaa (by omega)) (zaa (by omega)) lR).app ((one 3 1 [] (zaa (by omega)) (zaa (by omega)) (Nat.zero_le _)).app ((one 5 0 [97] (zaa (by omega)) (zaa (by omega)) lR).app (one 3 2 [] (zaa (by omega)) (zaa (by omega)) (Nat.zero_le _))))).mono (by decide)
   exact zad ⟨.inr rfl,[.ag (vcs 8 0 0 [] n4 [vL 5 0 0 [97],vL 3 1 0 [],vL 5 0 0 [97],vL 3 2 0 []])],rfl,zaX hc3 (hNl.plain (by simpa [ownedL,vcs,PC.owned,pI,pS] using hNl.own) rfl) (zdo hK 8 0 0 []) (hK.gd (zaa (by omega)) (zaa (by omega)) (zaa (by omega)) (fun _ => by decide) (by decide) (by decide) (by decide)) ⟨_,_,_,_,n4,_,rfl,.inr hn3⟩ (by show 4 <= 302; decide)⟩
  refine zaq rfl rfl (beq_eq_false_iff_ne.2 k3) ?_;refine mF ?_;refine mO ?_;by_cases k4:r = 4
  ·refine zah rfl rfl (beq_iff_eq.2 k4) ?_
   refine mT ?_;refine mQ ?_;refine po_g rfl ((hBl 3).use ⟨trivial,trivial⟩ hc3 hn3 (p:=0) rfl) ?_;rintro x bx n4 l4 ⟨c4,rfl,hc4,v,rfl,v0,v1,hN4⟩;obtain ⟨v,rfl⟩:∃ k':Nat,v = k':=⟨v.toNat,by omega⟩;refine zan (n:=((11 + v:Nat):Int)) rfl rfl rfl (by omega) (by omega) ?_;refine mN ?_;refine mP ?_;refine zab ?_;refine zaA (fun m st => ∃ (i t:Nat) (k n e:Int) (s:L8) (rows:LP PC) (ks:List V),i <= 11 + v /\ m = 11 + v - i /\ has st.tm [(0,.ref 0 0),(2,.ref 1 0),(3,.ref 2 0),(4,.d (pI ((11 + v:Nat):Int))),(5,.d (pI i))] /\ st.bx = c4 :: zV :: vcs k n e s t rows :: [] /\ NR nt live st.nt st.live (vcs k n e s t rows) /\ (t = 1 /\ rows = [] \/ 2 <= t) /\ erLL rows = vK ks /\ Gd (1500 + i) (.mk k n e s ks) /\ ks.length <= 302) (11 + v) ⟨0,t,k,n,e,s,rows,ks,Nat.zero_le _,rfl,⟨rfl,rfl,rfl,rfl,rfl,trivial⟩,rfl,hN13.pass hN4,ht2,hrows,hg,by omega⟩ ?_
   rintro m tm bx n5 l5 ⟨i,t,k,n,e,s,rows,ks,hi,rfl,ht,hbx,hN5,ht2,hrows,hg,hk302⟩;obtain ⟨tm1,rfl⟩:=zaf ht;simp only at hbx hN5; subst hbx
   clear ht;refine mM ?_;(iterate 2 refine mS ?_);refine po_b rfl rfl (fun q hq => ?_);refine zai ?_;refine zbM (p:=(i:Int) < ((11 + v:Nat):Int)) hq rfl (fun him _ => ?_) (fun him _ => ?_)
   rotate_left
   ·refine zay ?_
    exact ⟨c4,k,n,e,s,t,rows,ks,[],hc4,⟨rfl,rfl,rfl,trivial⟩,rfl,hN5,ht2,hrows,hg.mono (by omega),hk302⟩
   refine zam ?_;refine zav (zab (zae ?_));refine zaN (p:=2) (cs:=vcs k n e s t rows) rfl rfl rfl rfl ?_;refine zaz (es:=[vcs k n e s t rows]) rfl ?_;refine po_s (v:=.ag (vcs 7 0 0 [] n5 [vcs k n e s t rows])) rfl rfl rfl ?_;refine zaC (p:=2) (cs:=vcs 7 0 0 [] n5 [vcs k n e s t rows]) rfl rfl rfl rfl rfl rfl ?_;refine zai ?_;refine zae ?_;refine mS ?_;refine zan (n:=((i + 1:Nat):Int)) rfl rfl rfl (by omega) (by omega) ?_;refine mN ?_;have hNl:=NR.lit (es:=[vcs k n e s t rows]) hn (by simpa using hN5);have hK:Kd (1500 + i) [vcs k n e s t rows] [.mk k n e s ks]:=Kd.one (zdo (hg.kd hrows) k n e s) hg;exact ⟨_,by show 11 + v - (i + 1) < 11 + v - i; omega,i + 1,n5,7,0,0,[],[vcs k n e s t rows],[.mk k n e s ks],by omega,rfl,⟨rfl,rfl,rfl,rfl,rfl,trivial⟩,rfl,hNl.plain (by simpa [ownedL,vcs,PC.owned,pI,pS] using hNl.own) rfl,.inr (by have:=hN5.n2 hn; omega),hK.er,hK.gd (zaa (by omega)) (zaa (by omega)) (zaa (by omega)) (fun h => by cases h) (by simp) (by simp) (by simp only [length_nil,length_singleton]; omega),by simp⟩
  refine zaq rfl rfl (beq_eq_false_iff_ne.2 k4) ?_;refine mF ?_;refine mO ?_;by_cases k5:r = 5
  ·refine zah rfl rfl (beq_iff_eq.2 k5) ?_
   refine mT ?_;refine mQ ?_;refine po_g rfl ((hBl 3).use ⟨trivial,trivial⟩ hc3 hn3 (p:=0) rfl) ?_;rintro x bx n4 l4 ⟨c4,rfl,hc4,v,rfl,v0,v1,hN4⟩;obtain ⟨v,rfl⟩:∃ k':Nat,v = k':=⟨v.toNat,by omega⟩;refine zan (n:=((298 + v:Nat):Int)) rfl rfl rfl (by omega) (by omega) ?_;refine mN ?_;refine mO ?_;refine po_s (v:=.ag (vRow 7 1 [])) rfl rfl rfl ?_;refine zaC (p:=2) (cs:=vRow 7 1 []) rfl rfl rfl rfl rfl rfl ?_;refine zai ?_;refine mP ?_;refine zab ?_;refine zaA (fun m st => ∃ (i t:Nat) (rows:LP PC) (ks:List V),i <= 298 + v /\ m = 298 + v - i /\ has st.tm [(0,.ref 0 0),(2,.ref 1 0),(3,.ref 2 0),(6,.d (pI ((298 + v:Nat):Int))),(7,.d (pI i))] /\ st.bx = c4 :: zV :: vRow 7 t rows :: [] /\ NR nt live st.nt st.live (vRow 7 t rows) /\ (t = 1 /\ rows = [] \/ 2 <= t) /\ Kd 0 rows ks /\ ks.length = i) (298 + v) ⟨0,1,[],[],Nat.zero_le _,rfl,⟨rfl,rfl,rfl,rfl,rfl,trivial⟩,rfl,(hN13.pass hN4).forget.row0,.inl ⟨rfl,rfl⟩,Kd.nil,rfl⟩ ?_
   rintro m tm bx n5 l5 ⟨i,t,rows,ks,hi,rfl,ht,hbx,hN5,ht2,hK,hkl⟩;obtain ⟨tm1,rfl⟩:=zaf ht;simp only at hbx hN5; subst hbx
   clear ht;refine mM ?_;(iterate 2 refine mS ?_);refine po_b rfl rfl (fun q hq => ?_);refine zai ?_;refine zbM (p:=(i:Int) < ((298 + v:Nat):Int)) hq rfl (fun him _ => ?_) (fun him _ => ?_)
   rotate_left
   ·refine zay ?_
    exact ⟨c4,7,0,0,[],t,rows,ks,[],hc4,⟨rfl,rfl,rfl,trivial⟩,rfl,hN5,ht2,hK.er,hK.gd (zaa (by omega)) (zaa (by omega)) (zaa (by omega)) (fun h => by cases h) (by omega) (by simp) (by simp only [length_nil]; omega),by omega⟩
   refine zam ?_;refine zav (zab (zae ?_));refine mS ?_;refine za7 (cs:=vRow 7 t rows) (v:=.d (.sl t rows)) rfl rfl rfl (by show 4 + 1 <= 5; decide) rfl ?_;refine po_s (v:=.ag (vL 0 0 0 [])) rfl rfl rfl ?_;refine zaz (es:=[vL 0 0 0 []]) rfl ?_;refine za1 (t:=t) (t':=n5) (es:=rows) (ds:=[vL 0 0 0 []]) rfl rfl ((NR.rowt ht2 hN5).imp id fun h => mem_cons_of_mem _ h) (by rw [hK.len]; simp only [length_cons,length_nil]; omega) (fun e he => by simp only [mem_singleton] at he; subst he; rfl) hK.wid ?_;refine mS ?_;refine zaL (p:=2) (o':=4) (cs:=[.sl (n5 + 1) (rows ++ [vL 0 0 0 []])]) (z:=vRow 7 t rows) rfl rfl rfl ⟨rfl,by show 4 + 1 <= 5; decide⟩ rfl ?_;refine zai ?_;refine zae ?_;refine mS ?_;refine zan (n:=((i + 1:Nat):Int)) rfl rfl rfl (by omega) (by omega) ?_;refine mN ?_;exact ⟨_,by show 298 + v - (i + 1) < 298 + v - i; omega,i + 1,n5 + 1,rows ++ [vL 0 0 0 []],ks ++ [.mk 0 0 0 [] []],by omega,rfl,⟨rfl,rfl,rfl,rfl,rfl,trivial⟩,rfl,NR.kids hn ht2 hN5 (ds:=[vL 0 0 0 []]) ((NR.refl n5 l5).up.plain rfl rfl),.inr (by have:=hN5.n2 hn; omega),(hK.app (Kd.one (cs:=vL 0 0 0 []) (v:=.mk 0 0 0 [] []) zbl (za4 (B:=0) (k:=0) (n:=0) (e:=0) (s:=[]) (zaa (by omega)) (zaa (by omega)) (zaa (by omega)) (Nat.le_refl 0) (by decide)))).mono lR,by rw [length_append,length_singleton]; omega⟩
  refine zaq rfl rfl (beq_eq_false_iff_ne.2 k5) ?_;refine mK ?_;exact keep c3 hc3 _ ⟨rfl,rfl,rfl,trivial⟩ rfl hN13
 rintro tm bx n3 l3 ⟨c3,k,n,e,s,t,rows,ks,rest,hc3,ht,hbx,hN3,ht2,hrows,hg,hk⟩;obtain ⟨tm1,rfl⟩:=zaf ht;simp only at hbx hN3; subst hbx
 clear ht;refine mO ?_;refine zaN (p:=2) (cs:=vcs k n e s t rows) rfl rfl rfl rfl ?_;refine zaC (p:=1) (cs:=vcs k n e s t rows) rfl rfl rfl rfl rfl rfl ?_;refine mN ?_;exact zad ⟨.inr rfl,[.ag (vcs k n e s t rows)],rfl,zaX hc3 hN3 (zdo (hg.kd hrows) k n e s) hg ⟨_,_,_,_,t,rows,rfl,ht2⟩ hk⟩
end
section
def aR (L:List Value):LP PC:=L.map fun v => [.v v]
theorem zbC (L:List Value):(aR L).length = L.length:=by simp [aR]
theorem aR_wid (L:List Value):∀ e ∈ aR L,e.length = 1:=fun e he => by
 obtain ⟨v,_,rfl⟩:=mem_map.1 he; rfl
theorem aR_get {L:List Value} {i:Nat} (h:i < L.length):(aR L)[i]? = some [.v L[i]]:=by simp [aR,getElem?_eq_getElem h]
theorem aR_er (L:List Value):erLL (aR L) = aR L:=by
 rw [zaH]; unfold aR; rw [map_map]; rfl
end
section
section
variable {P:Program} {NG:Nat} {T:World -> Prop}
end
end
section
theorem row_cells {C:Cx} {w:World} {z:List PC} {us:List Value} {L:List Value} (h:RpL C w z us) (hz:z.take L.length = L.map PC.v):L.length <= us.length /\ ∀ i,i < L.length -> us[i]? = some (L.getD i undef) /\ RpC C w (.v (L.getD i undef)) (L.getD i undef):=by
 have hzl:L.length <= z.length:=by
  have:=congrArg length hz
  rw [length_take,length_map] at this; omega
 refine ⟨by rw [h.1]; exact hzl,fun i hi => ?_⟩
 have h1:z[i]? = some (.v (L.getD i undef)):=by
  have h2:=congrArg (·[i]?) hz;simp only [getElem?_take,if_pos hi,getElem?_map,getElem?_eq_getElem hi,Option.map_some] at h2;rw [h2,getD_eq_getElem?_getD,getElem?_eq_getElem hi]; rfl
 have hlt:i < us.length:=by rw [h.1]; omega
 have h3:us[i]? = some us[i]:=getElem?_eq_getElem hlt;have h4:=h.2 i _ _ h1 h3;generalize us[i] = q at h3 h4;generalize L.getD i undef = y at h4 ⊢
 cases h4 with
 | v _ hv => exact ⟨h3,.v _ hv⟩
theorem row_data {C C2:Cx} {w:World} {b cap:Nat} {us:List Value} {e:TypeId} {L:List Value} (hh:w.heap[b]? = some (.cells us.toArray e (0,0))) (hc:∀ i,i < L.length -> us[i]? = some (L.getD i undef) /\ RpC C w (.v (L.getD i undef)) (L.getD i undef))
  (hF:∀ i,i < L.length -> C2.F b i) (hlc:L.length <= cap) (hcm:cap <= maxLen):RpC C2 w (.sl 0 (aR L)) (.slice (some ⟨b,0,none⟩) L.length cap):=by
 have hra:RowAt C2 w b 0 1 (aR L) (fun i _ => L.getD i undef):=by
  refine ⟨by decide,fun e he => aR_wid L e he,fun i j hi hj => ?_,fun i j hi hj => ?_⟩
  ·rw [zbC] at hi
   have:0 + (1 * i + j) = i:=by omega
   rw [this];have h5:=(hc i hi).1;simp only [World.cell?,hh,getElem?_toArray,h5];rfl
  ·rw [zbC] at hi
   have:0 + (1 * i + j) = i:=by omega
   rw [this]; exact hF i hi
 have:=RpC.rd (C:=C2) (w:=w) (aR L) b 0 1 cap (fun i _ => L.getD i undef) (by rw [zbC]; exact hlc) hcm hra (fun i j e y he hy => by
  have hi:i < L.length:=by have:=(List.getElem?_eq_some_iff.1 he).1; rw [zbC] at this; exact this
  rw [aR_get hi] at he;simp only [sI] at he; subst he
  match j,hy with
  | 0,hy =>
   simp only [getElem?_cons_zero,sI] at hy; subst hy
   have h9:=(hc i hi).2;rw [getD_eq_getElem?_getD,getElem?_eq_getElem hi] at h9 ⊢
   cases h9 with
   | v _ h => exact .v _ h
  | j + 1,hy => simp at hy)
 rw [zbC] at this;exact this
theorem FnG.ofRow {E:Env} {f:Nat} {L:List Value} {y:Value} {p cap:Nat} {z:List PC} {bx:LP PC} (hz:bx[p]? = some z) (hzt:z.take L.length = L.map PC.v) (h:FnV E f [.d (.sl 0 (aR L))] (.d (.v y))) (nt:Nat) (live:List Nat) :
  FnG E f [.d (.row p L.length cap)] bx nt live (fun x b n l => x = .d (.v y) /\ b = bx /\ n = nt /\ l = live):=by
 intro C w vs hI hnt hold hn2 hl hv
 match vs,hl with
 | [v],_ =>
  have hv0:=hv 0 _ _ rfl rfl
  cases hv0 with
  | d _ _ h0 =>
  cases h0 with
  | row _ _ _ hpn hlc hcm =>
  obtain ⟨us,e0,hh,hus⟩:=hI.box p z hz;obtain ⟨_,hc⟩:=row_cells hus hzt;obtain ⟨C2,hC2⟩:∃ C2:Cx,C2 = { C.sub with F:=fun b o => C.F b o \/ (b = C.bx p /\ o < L.length) }:=⟨_,rfl⟩
  have hI2:Inv E.NG E.T C2 [] (fun _ => False) w:=by
   rw [hC2]
   exact ⟨rfl,fun q cs hq => by simp at hq,fun q hq => by simp at hq,fun q hq => by simp at hq,fun q r hq => by simp at hq,fun t ht => ht.elim,fun t s b ht => ht.elim,
    fun b o h => h.elim (hI.fin b o) (fun h => by rw [h.1]; exact zak hh),hI.ng,hI.t⟩
  have hnt2:C2.nt = 2:=by rw [hC2]; rfl
  have hold2:∀ t,¬ C2.old t:=fun t ht => by rw [hC2] at ht; exact ht
  have hnb2:C2.nb = 0:=by rw [hC2]; rfl
  have hd:RpC C2 w (.sl 0 (aR L)) (.slice (some ⟨C.bx p,0,none⟩) L.length cap):=row_data hh hc (fun i hi => by rw [hC2]; exact .inr ⟨rfl,hi⟩) hlc hcm
  refine (h C2 w [_] hI2 hnt2 hold2 rfl (fun j x y hx hy => by
   match j with
   | 0 =>
    simp only [getElem?_cons_zero,sI] at hx hy
    subst hx; subst hy; exact .d _ _ hd
   | j + 1 => simp at hx)).mono ?_
  rintro e w' ⟨u,x,bx0,live0,C',rfl,hR,hJ,hE,hx⟩;have hu:=hx.toDat (C':=C') (fun _ _ h => h) hR;have blk:∀ k,k < w.heap.size -> w'.heap[k]? = w.heap[k]?:=fun k hk => hE.block0 hold2 k hk (fun q hq => by rw [hnb2] at hq; omega)
  have hF:Fix C w w':=.of (fun b o hF => World.cell?_of_block (a:=⟨b,o,none⟩) (blk b (hI.fin b o hF))) blk;refine ⟨u,.d (.v y),bx,nt,live,C,rfl,⟨rfl,rfl,rfl,rfl⟩,?_,hnt,?_,?_⟩
  ·refine ⟨hI.nb,fun q cs hq => ?_,hI.boxF,hI.boxG,hI.inj,fun t ht => ?_,hI.tinj,fun b o h => Nat.lt_of_lt_of_le (hI.fin b o h) hE.size,Nat.le_trans hI.ng hE.size,E.low w w' hI.t hE.size (fun k hk => blk k (Nat.lt_of_lt_of_le hk hI.ng))⟩
   ·obtain ⟨vs,e,h1,h2⟩:=hI.box q cs hq
    exact ⟨vs,e,by rw [blk _ (zak h1)]; exact h1,h2.frame (CxLe.refl C) hF⟩
   ·obtain ⟨a,b,c⟩:=hI.tok t ht
    exact ⟨a,b,c.imp id fun ⟨b,cur,e,k1,k2,k3,rest⟩ => ⟨b,cur,e,k1,k2,by rw [blk _ (zak k3)]; exact k3,rest⟩⟩
  ·exact ⟨hE.os,hE.tape,hE.output,hE.size,fun _ _ h => h,hF,fun k hk _ _ => blk k hk,⟨lR,fun _ _ => rfl⟩,fun _ _ h => .inl h,(fun t b ht hb => .inr ⟨t,by rw [hold]; exact ht,hb⟩),(fun q hq hq2 => by have h1:=hI.nb; omega),⟨lR,fun _ _ => ⟨rfl,rfl,rfl,rfl⟩⟩⟩
  ·cases hu with
   | d _ _ hu => cases hu with
    | v _ hy => exact .d _ _ (.v _ hy)
end
section
theorem pSr_flat (ks:List (L8)):(pSr ks).flatten = ks.map pS:=by
 induction ks with
 | nil => rfl
 | cons k ks ih => simp only [pSr,map_cons,flatten_cons] at ih ⊢; rw [ih]; rfl
theorem FnO.oldR {E:Env} {f:Nat} {args:List PV} {ks:List (L8)} {te:TypeId} (h:∀ (w:World) (C:Cx) (vs:List Value),(∀ b o,C.F b o -> b < w.heap.size) -> E.NG <= w.heap.size -> E.T w -> vs.length = args.length -> (∀ (j:Nat) (x:PV) (y:Value),args[j]? = some x -> vs[j]? = some y -> RpV C w x y) ->
  Calls E.P f vs.toArray w fun e w' => ∃ v',e = .returned v' /\ Below w.heap.size w w' /\ OwnR w' w.heap.size te v' (ks.map fun k => .string ⟨k.toArray⟩)):FnO E f args (.d (pSs ks)):=by
 intro C w vs hI hnt hold hl hv;have hI0:Inv E.NG E.T C [] (· ∈ ([]:List Nat)) w:=⟨hI.nb,hI.box,hI.boxF,hI.boxG,hI.inj,(fun t ht => by cases ht),(fun t s b ht => by cases ht),hI.fin,hI.ng,hI.t⟩;refine (h w C vs hI.fin hI.ng hI.t hl hv).mono ?_;rintro e w' ⟨v',rfl,hb,hlen,hO⟩;have hF:Fix C w w':=.of (fun b o hF => World.cell?_of_block (a:=⟨b,o,none⟩) (hb.block b (hI.fin b o hF))) hb.block
 have hemp:∀ (a:Option Addr) (c:Nat),ks = [] -> v' = .slice a 0 c -> ∃ u x bx live C',Ending.returned v' = .returned u /\ (fun (x:PV) lv => x.dat = some (.d (pSs ks)) /\ x.toks.Nodup /\ (∀ t ∈ x.toks,lv t) /\ match x with
   | .d c => c.owned = true
   | .ag cs => ownedL cs = true
   | _ => False) x live /\ Inv E.NG E.T C' bx live w' /\ Ext C w C' bx.length live w' /\ RpV C' w' x u:=by
  rintro a c rfl rfl
  refine ⟨.slice a 0 c,.d (.sl 0 []),[],fun _ => False,C,rfl,⟨rfl,by show ([]:List Nat).Nodup; simp,fun t ht => absurd (show t ∈ ([]:List Nat) from ht) (by simp),rfl⟩,⟨hI.nb,fun p cs hp => by simp at hp,fun p hp => by simp at hp,fun p hp => by simp at hp,fun p q hp => by simp at hp,fun t ht => ht.elim,fun t s b ht => ht.elim,fun b o h => Nat.lt_of_lt_of_le (hI.fin b o h) hb.size,Nat.le_trans hI.ng hb.size,E.low w w' hI.t hb.size (fun k hk => hb.block k (Nat.lt_of_lt_of_le hk hI.ng))⟩,
   ⟨hb.os,hb.tape,hb.output,hb.size,fun _ _ h => h,hF,fun k hk _ _ => hb.block k hk,⟨lR,fun _ _ => rfl⟩,fun _ _ h => .inl h,fun t b ht => ht.elim,(fun p hp hp2 => by simp at hp2),⟨lR,fun _ _ => ⟨rfl,rfl,rfl,rfl⟩⟩⟩,.d _ _ (.emp a c)⟩
 rcases hO with ⟨rfl,h0⟩ | ⟨g,cap,cur,rfl,hg,hblk,hn,hm,hsz,htk⟩
 ·exact hemp none 0 (by simpa using h0) rfl
 by_cases hks:ks = []
 ·exact hemp _ _ hks (by rw [hks]; rfl)
 have hpos:0 < ks.length:=by cases ks with | nil => exact absurd rfl hks | cons => simp
 rw [length_map] at hn htk hlen ⊢;rw [Nat.mul_one] at htk hsz
 obtain ⟨hI',hF'⟩:=hI0.newTok (w':=w') E.low (by omega) 0 (some g) cap ks.length 1 hb.size (fun k hk _ => hb.block k hk) (fun h => by cases h) (fun b hb2 => by
  simp only [sI] at hb2; subst hb2
  exact ⟨.inl hg,⟨cur,te,hblk,by omega⟩,hn,hm,by decide,fun h => by omega⟩) (fun b hb2 hlt => by simp only [sI] at hb2; omega) (fun b hb2 o hFo => by
  simp only [sI] at hb2; have:=hI.fin b o hFo; omega) (fun b hb2 T cs fz hh => by simp only [sI] at hb2; have:=zak hh; omega)
 have hcell:∀ (q:Nat) (y:Value),(ks.map fun k => Value.string ⟨k.toArray⟩)[q]? = some y -> w'.cell? ⟨g,q,none⟩ = some y:=by
  intro q y hq;rw [zaj hblk];rw [<- htk,getElem?_take] at hq
  split at hq
  ·simpa using hq
  ·cases hq
 have hown:=zb3 (C:=C) (w:=w) (w':=w') (b:=g) (cap:=cap) (n:=1) (es:=pSr ks) (fl:=ks.map fun k => Value.string ⟨k.toArray⟩) (by omega) (by decide) (fun e he => by obtain ⟨k,_,rfl⟩:=mem_map.1 he; rfl) ⟨by rw [pSr_flat,length_map,length_map],fun j c y h1 h2 => by
  rw [pSr_flat,getElem?_map] at h1;rw [getElem?_map] at h2
  cases hk:ks[j]? with
  | none => rw [hk] at h1; cases h1
  | some k => rw [hk] at h1 h2; simp only [Option.map_some,sI] at h1 h2; subst h1; subst h2; exact .v _ rfl⟩ hcell (by simp [pSr]; exact hn) hm hF'
 have hle:=Cx.tok_le C (some g) cap ks.length 1;have htokn:=Cx.tok_new C (some g) cap ks.length 1;have hl2:(pSr ks).length = ks.length:=by simp [pSr]
 rw [hl2] at hown;rw [hnt] at hown htokn;have hown2:RpV (C.tok (some g) cap ks.length 1) w' (.d (.sl 2 (pSr ks))) (.slice (some ⟨g,0,none⟩) ks.length cap):=.d _ _ hown;refine ⟨_,.d (.sl 2 (pSr ks)),[],(· ∈ C.nt :: ([]:List Nat).filter (· != 0)),C.tok (some g) cap ks.length 1,rfl,⟨congrArg (fun l => some (PV.d (.sl 0 l))) (zaR ks),?_,?_,?_⟩,hI',?_,hown2⟩
 ·show (PC.toks (.sl 2 (pSr ks))).Nodup
  rw [zaV (by decide),pSr_tok]; simp
 ·intro t ht
  have:t ∈ PC.toks (.sl 2 (pSr ks)):=ht
  rw [zaV (by decide),pSr_tok,mem_singleton] at this
  subst this; rw [hnt]; exact mem_cons_self
 ·show PC.owned (.sl 2 (pSr ks)) = true
  rw [zbS (by decide)]; exact pSr_own ks
 ·refine ⟨hb.os,hb.tape,hb.output,hb.size,hle.F,hF',fun k hk _ _ => hb.block k hk,⟨hle.nb,hle.bx⟩,?_,?_,(fun p hp hp2 => by simp at hp2),⟨hle.nt,hle.tk⟩⟩
  ·rintro b o (h | ⟨h,_⟩)
   ·exact .inl h
   ·simp only [sI] at h; subst h; exact .inr (.inl hg)
  ·intro t b ht hb2
   have:t = 2:=by rw [hnt] at ht; simpa using ht
   subst this;rw [htokn.1] at hb2; simp only [sI] at hb2; subst hb2; exact .inl hg
end
section
variable {T:World -> Prop} {hT:Low ngl T}
def sV (k:L8):Value:=.string ⟨k.toArray⟩
theorem pSr_aR (st:List (L8)):pSr st = aR (st.map sV):=by unfold pSr aR sV; rw [map_map]; rfl
theorem zbZ {C:Cx} {w:World} {st:List (L8)} {v:Value} (h:RpV C w (.d (pSs st)) v):StrRow w v st:=by
 obtain ⟨es,hes⟩:∃ es,es = pSr st:=⟨_,rfl⟩;have hl:es.length = st.length:=by rw [hes,zaE]
 have h:RpV C w (.d (.sl 0 es)) v:=by rw [hes]; exact h
 cases h with
 | d _ _ h =>
  cases h with
  | emp a c =>
   have hb:st = []:=length_eq_zero_iff.1 (by rw [<- hl]; rfl);subst hb
   exact ⟨a,c,rfl,fun h => absurd rfl h⟩
  | nilo _ h2 _ _ => omega
  | own _ _ _ _ h2 _ _ _ _ _ _ _ => omega
  | rd _ k o n c u h1 h2 hr h3 =>
   refine ⟨some ⟨k,o,none⟩,c,by rw [hl],fun _ => ⟨k,o,rfl,fun j hj => ?_⟩⟩;have he:es[j]? = some [pS st[j]]:=by rw [hes]; exact zb6 hj
   have hn:n = 1:=by
    have:=hr.wid _ (mem_of_getElem? he)
    rw [<- this]; rfl
   subst hn;have hc:=hr.cell j 0 (by omega) (by omega);have hv:=h3 j 0 _ _ he rfl
   have hu:u j 0 = .string ⟨st[j].toArray⟩:=by
    generalize u j 0 = z at hv
    cases hv; rfl
   rw [hu,Nat.one_mul,Nat.add_zero] at hc;exact hc
theorem zcy (st:List (L8)) (hl:st.length <= 4294967295) (hs:∀ s ∈ st,s.length <= 4294967295):FnV (env T hT) 12 [.d (pSs st)] (.d (pS (putPath st))):=by
 refine FnV.old rfl fun w C vs hF _ _ hlen hv => ?_
 match vs,hlen with
 | [x],_ => exact zef st x w (zbZ (hv 0 _ _ rfl rfl)) hl hs
section
variable {E:Env} {K:St -> Prop} {tm:Nat -> PV} {bx:LP PC} {nt d k lo f:Nat} {live live':List Nat} {r:List MOpr} {x:X} {L:List Value} {c:PC} {y:Value}
theorem po_rowC (hR:RwAt 1 lo live' c bx (L.map PC.v)) (hx:ev tm x = .d c) (hF:FnV E f [.d (.sl 0 (aR L))] (.d (.v y))) (h:po E r K ⟨up d (.d (.v y)) tm,bx,nt,live⟩):po E (⟨some d,.call f [x],none,[.f k]⟩ :: r) K ⟨tm,bx,nt,live⟩:=by
 rcases hR.2 with ⟨t,rfl,_,hL⟩ | ⟨p,len,cap,z,rfl,hlo,hz,hzl,hlc,hzt⟩
 ·have:L = []:=by simpa using hL
  subst this;exact zao (args:=[.d (.sl 0 [])]) (by show PV.dats [ev tm x] = _; rw [hx]; rfl) hF h
 ·have hlen:len = L.length:=by
   have:=congrArg length hzt
   rw [length_map,length_take] at this; omega
  subst hlen;refine po_g (args:=[.d (.row p L.length cap)]) (by show [ev tm x] = _; rw [hx]) (FnG.ofRow hz (by rw [hzt,Nat.one_mul]) hF nt live) ?_;rintro x b n l ⟨rfl,rfl,rfl,rfl⟩;exact h
end
end
section
def m_l_FnPaths:M:=so [qo 2 (.mv (cB false))] (.seq (so [qm 19 0,qc 20 4 [19] 1] (.cond 20 (so [qo 2 (.mv (cB true))] .ret) .skip)) (so [qm 21 0,qc 22 5 [21] 1,qm 3 22] (so [qm 23 3,qc 24 6 [23] 1,qm 4 24] (so [qm 25 0,qc 26 7 [25] 1,qm 5 26] (so [qm 28 5,qc 29 8 [28] 1,qm 27 29,qe 30 27 0,qe 31 27 1,qm 6 30,qm 7 31] (so [qm 33 5,qc 34 9 [33] 1,qm 32 34,qe 35 32 0,qe 36 32 1,qm 8 35,qm 9 36] (so [qm 37 0,qc 38 10 [37] 1,⟨some 10,.zero [.int .i64 0,.int .i64 0,.int .i64 0,.string ⟨[].toArray⟩,.slice none 0 0],none,[]⟩,qS 5 10 38] (so [qL 39 5 10,qc 40 11 [39] 1,qm 11 40] (.seq (so [qm 41 4,qm 42 3,qc 43 12 [42] 1,qo 44 (.bin .neq false 41 43),qm 45 44,qg 46 6 45 false,qg 47 8 45 false,⟨some 48,.call 13 [46,47],some (45,false),[.f 1]⟩,⟨some 49,.not 48,some (45,false),[]⟩,qo 50 (.pick 45 (cB true) 49),qm 51 50,qg 52 7 51 false,qg 53 9 51 false,⟨some 54,.bin .neq true 52 53,some (51,false),[]⟩,qo 55 (.pick 51 (cB true) 54),qm 56 55,qg 57 11 56 false,⟨some 58,.load true 5 10,some (56,false),[]⟩,⟨some 59,.call 14 [58],some (56,false),[.f 1]⟩,⟨some 60,.call 13 [57,59],some (56,false),[.f 1]⟩,⟨some 61,.not 60,some (56,false),[]⟩,qo 62 (.pick 56 (cB true) 61),qm 63 62,qg 64 7 63 false,qg 65 64 63 false,qg 66 6 65 true,⟨some 67,.call 6 [66],some (65,true),[.f 1]⟩,qg 68 5 65 true,⟨some 69,.bin .neq false 67 68,some (65,true),[]⟩,⟨some 70,.pick 65 69 (cB false),some (63,false),[]⟩,qo 71 (.pick 63 (cB true) 70)] (.cond 71 (so [qo 2 (.mv (cB false))] .ret) .skip)) (.seq (so [qm 72 4,⟨some 73,.bin .neq false 72 (.c (.string ⟨[].toArray⟩)),none,[]⟩] (.cond 73 (so [qm 75 4,qc 76 8 [75] 1,qm 74 76,qe 77 74 0,qe 78 74 1,qm 12 77,qm 13 78] (so [qm 79 13,qo 80 (.not 79),qm 81 80,qg 82 12 81 false,qg 83 3 81 false,⟨some 84,.call 13 [82,83],some (81,false),[.f 1]⟩,⟨some 85,.not 84,some (81,false),[]⟩,qo 86 (.pick 81 (cB true) 85)] (.cond 86 (so [qo 2 (.mv (cB false))] .ret) .skip))) .skip)) (.seq (so [qo 14 (.mv (ci 0))] (.block 0 (.loop (.seq (so [qm 87 14,qm 88 11,qo 89 (.len 88),qo 90 (.bin .lss false 87 89)] (.cond 90 .skip (.exit 0))) (.seq (.block 1 (so [qm 94 11,qm 95 14,qo 96 (.ix 1 94 95),ql 97 1 96,qc 98 8 [97] 1,qm 93 98,qe 99 93 0,qe 100 93 1,qm 15 99,qm 16 100] (so [qL 102 5 10,qm 103 15,qc 104 15 [102,103] 1,qm 101 104,qe 105 101 0,qe 106 101 1,⟨some 17,.zero [.int .i64 0,.int .i64 0,.int .i64 0,.string ⟨[].toArray⟩,.slice none 0 0],none,[]⟩,qS 5 17 105,qm 18 106] (so [qm 107 16,qo 108 (.not 107),qm 109 108,qg 110 18 109 false,⟨some 111,.not 110,some (109,false),[]⟩,qo 112 (.pick 109 (cB true) 111)] (.cond 112 (so [qo 2 (.mv (cB false))] .ret) .skip))))) (.ops [qm 91 14,qo 92 (.bin .add false 91 (ci 1)),qm 14 92])))))) (so [qm 113 11,qo 114 (.len 113),qo 115 (.bin .gtr false 114 (ci 0)),qL 116 5 10,qc 117 16 [116] 1,qo 118 (.bin .eql true 115 117),qm 2 118] .ret))))))))))))
theorem zep:look Tryz.prog 3 = some (119,m_l_FnPaths,[.tm 2]):=by kernel_rfl
def m_s_DrawPutPath:M:=so [qo 2 (.mv (.c (.slice none 0 0)))] (so [qm 7 0,qc 8 17 [7] 1,qm 3 8] (so [qo 9 (.lit 1 []),qm 4 9] (so [qm 10 3,qc 11 18 [10,ci 4] 1,qm 5 11] (.seq (so [qm 12 3,qc 13 19 [12,ci 8] 1] (.cond 13 (.ops [qm 14 3,qc 15 18 [14,ci 2] 1,qo 16 (.bin .add false (ci 12) 15),qm 5 16]) .skip)) (.seq (so [qo 6 (.mv (ci 0))] (.block 0 (.loop (.seq (so [qm 17 6,qm 18 5,qo 19 (.bin .lss false 17 18)] (.cond 19 .skip (.exit 0))) (.seq (.block 1 (.ops [qm 22 4,qm 23 3,⟨some 24,.lit 1 [.c (.string ⟨[97].toArray⟩),.c (.string ⟨[].toArray⟩),.c (.string ⟨[126].toArray⟩),.c (.string ⟨[47].toArray⟩),.c (.string ⟨[126,49].toArray⟩),.c (.string ⟨[48].toArray⟩),.c (.string ⟨[255].toArray⟩),.c (.string ⟨[195,169].toArray⟩)],none,[]⟩,qc 25 20 [23,24] 1,qo 26 (.lit 1 [25]),⟨some 27,.app 1 22 26,none,[.f 1]⟩,qm 4 27])) (.ops [qm 20 6,qo 21 (.bin .add false 20 (ci 1)),qm 6 21])))))) (so [qm 28 4,qm 2 28] .ret))))))
theorem zcs:look Tryz.prog 5 = some (29,m_s_DrawPutPath,[.tm 2]):=by kernel_rfl
def m_s_DrawGetPath:M:=so [⟨some 2,.mv (.c (.string ⟨[].toArray⟩)),none,[]⟩] (so [qm 4 0,qc 5 17 [4] 1,qm 3 5] (so [qm 6 3,qm 7 0,qc 8 5 [7] 1,qc 9 12 [8] 1,qc 10 25 [6,9] 1,qm 2 10] .ret))
theorem zct:look Tryz.prog 7 = some (11,m_s_DrawGetPath,[.tm 2]):=by kernel_rfl
def m_s_GetPath:M:=so [qo 2 (.mv (.c (.slice none 0 0))),qo 3 (.mv (cB false))] (so [qo 7 (.lit 1 []),qm 4 7] (.seq (so [qo 5 (.mv (ci 0))] (.block 0 (.loop (.seq (so [qm 8 5,qm 9 0,qo 10 (.lens 9),qo 11 (.bin .lss false 8 10)] (.cond 11 .skip (.exit 0))) (.seq (.block 1 (.seq (so [qm 14 0,qm 15 5,qo 16 (.ixs 14 15),qo 17 (.bin .eql false 16 (.c (.int .u8 47)))] (.cond 17 (so [qm 18 4,⟨some 19,.lit 1 [.c (.string ⟨[].toArray⟩)],none,[]⟩,⟨some 20,.app 1 18 19,none,[.f 1]⟩,qm 4 20] (.exit 1)) .skip)) (.seq (so [qm 21 4,qo 22 (.len 21),qo 23 (.bin .eql false 22 (ci 0))] (.cond 23 (so [qo 24 (.lit 1 []),qm 2 24,qo 3 (.mv (cB false))] .ret) .skip)) (so [qm 25 0,qm 26 5,qm 27 5,qo 28 (.bin .add false 27 (ci 1)),qo 29 (.slcs 25 (some 26) (some 28)),qm 6 29] (.seq (so [qm 30 6,⟨some 31,.bin .eql false 30 (.c (.string ⟨[126].toArray⟩)),none,[]⟩,qm 32 31,qg 33 5 32 true,⟨some 34,.bin .add false 33 (ci 1),some (32,true),[]⟩,qg 35 0 32 true,⟨some 36,.lens 35,some (32,true),[]⟩,⟨some 37,.bin .lss false 34 36,some (32,true),[]⟩,qo 38 (.pick 32 37 (cB false))] (.cond 38 (so [qm 39 5,qo 40 (.bin .add false 39 (ci 1)),qm 5 40] (so [⟨some 6,.mv (.c (.string ⟨[126].toArray⟩)),none,[]⟩] (so [qm 41 0,qm 42 5,qo 43 (.ixs 41 42),qo 44 (.bin .eql false 43 (.c (.int .u8 49)))] (.cond 44 (.ops [⟨some 6,.mv (.c (.string ⟨[47].toArray⟩)),none,[]⟩]) .skip)))) .skip)) (.ops [qm 45 4,qm 46 4,qo 47 (.len 46),qo 48 (.bin .sub false 47 (ci 1)),qm 49 4,qm 50 4,qo 51 (.len 50),qo 52 (.bin .sub false 51 (ci 1)),qo 53 (.ix 1 49 52),ql 54 1 53,qm 55 6,qo 56 (.bin .add false 54 55),qo 57 (.ix 1 45 48),qS 1 57 56])))))) (.ops [qm 12 5,qo 13 (.bin .add false 12 (ci 1)),qm 5 13])))))) (.seq (so [qm 58 4,qc 59 12 [58] 1,qm 60 0,qo 61 (.bin .neq false 59 60)] (.cond 61 (so [qo 62 (.lit 1 []),qm 2 62,qo 3 (.mv (cB false))] .ret) .skip)) (so [qm 63 4,qm 2 63,qo 3 (.mv (cB true))] .ret))))
theorem zeq:look Tryz.prog 9 = some (64,m_s_GetPath,[.tm 2,.tm 3]):=by kernel_rfl
def m_s_DrawPaths:M:=so [⟨some 2,.zero [.int .i64 0,.int .i64 0,.int .i64 0,.string ⟨[].toArray⟩,.slice none 0 0],none,[]⟩] (so [qm 3 0,qc 4 17 [3] 1,qc 5 27 [4] 1,qS 5 2 5] .ret)
theorem zde:look Tryz.prog 10 = some (6,m_s_DrawPaths,[.cell true 5 2]):=by kernel_rfl
def m_i_Paths:M:=so [qo 1 (.box 0),qo 2 (.mv (.c (.slice none 0 0)))] (.seq (so [qL 3 5 1,qc 4 28 [3] 1,qo 5 (.not 4)] (.cond 5 (so [qo 2 (.mv (.c (.slice none 0 0)))] .ret) .skip)) (so [qL 6 5 1,qc 7 29 [6,.c (.slice none 0 0),.c (.slice none 0 0)] 1,qm 2 7] .ret))
theorem lk_i_Paths:look Tryz.prog 11 = some (8,m_i_Paths,[.tm 2]):=by kernel_rfl
def m_s_Paths:M:=so [qo 1 (.box 0),qo 2 (.mv (.c (.slice none 0 0)))] (.seq (so [qL 3 5 1,qc 4 16 [3] 1,qo 5 (.not 4)] (.cond 5 (so [qo 6 (.lit 1 []),qm 2 6] .ret) .skip)) (so [qL 7 5 1,qo 8 (.lit 1 []),qc 9 31 [7,8] 1,qm 2 9] .ret))
theorem lk_s_Paths:look Tryz.prog 14 = some (10,m_s_Paths,[.tm 2]):=by kernel_rfl
def m_i_At:M:=so [qo 2 (.box 0),⟨some 4,.zero [.int .i64 0,.int .i64 0,.int .i64 0,.string ⟨[].toArray⟩,.slice none 0 0],none,[]⟩,qo 5 (.mv (cB false))] (.seq (so [qm 8 1,qc 9 21 [8] 1,qo 10 (.not 9)] (.cond 10 (so [⟨some 11,.build [.int .i64 0,.int .i64 0,.int .i64 0,.string ⟨[].toArray⟩,.slice none 0 0] [],none,[]⟩,qS 5 4 11,qo 5 (.mv (cB false))] .ret) .skip)) (so [qL 13 5 2,qm 14 1,qc 15 32 [13,14] 1,qm 12 15,qe 16 12 0,qe 17 12 1,⟨some 6,.zero [.int .i64 0,.int .i64 0,.int .i64 0,.string ⟨[].toArray⟩,.slice none 0 0],none,[]⟩,qS 5 6 16,qm 7 17] (so [qL 18 5 6,qc 19 33 [18] 1,qm 20 7,qS 5 4 19,qm 5 20] .ret)))
theorem lk_i_At:look Tryz.prog 15 = some (21,m_i_At,[.cell true 5 4,.tm 5]):=by kernel_rfl
def m_i_pathsFrom:M:=so [qo 3 (.box 0),qo 6 (.mv (.c (.slice none 0 0)))] (so [qm 10 2,qm 11 1,qc 12 6 [11] 1,qo 13 (.lit 1 [12]),⟨some 14,.app 1 10 13,none,[.f 1]⟩,qm 2 14] (.seq (so [qF 15 4 3,ql 16 1 15,qo 17 (.len 16),qo 18 (.mv (ci 0))] (.block 0 (.loop (so [qo 19 (.bin .lss false 18 17)] (.seq (.cond 19 .skip (.exit 0)) (.seq (.block 1 (so [qm 20 18,qo 21 (.ix 5 16 18),qL 22 5 21,⟨some 8,.zero [.int .i64 0,.int .i64 0,.int .i64 0,.string ⟨[].toArray⟩,.slice none 0 0],none,[]⟩,qm 7 20,qS 5 8 22] (so [⟨some 9,.mv (.c (.string ⟨[116,97,103].toArray⟩)),none,[]⟩] (.seq (so [qF 23 0 3,ql 24 1 23] (.block 2 (so [qo 26 (.bin .eql false 24 (ci 7)),qm 25 26] (.cond 25 (.ops [qm 27 7,qc 28 46 [27] 1,qm 9 28]) (so [qo 30 (.bin .eql false 24 (ci 8)),qm 29 30] (.cond 29 (.seq (so [qm 31 7,qo 32 (.bin .rem false 31 (ci 2)),qo 33 (.bin .eql false 32 (ci 0)),qm 34 33,⟨some 35,.fld 4 3,some (34,false),[]⟩,⟨some 36,.load false 1 35,some (34,false),[]⟩,qg 37 7 34 false,⟨some 38,.bin .sub false 37 (ci 1),some (34,false),[]⟩,⟨some 39,.ix 5 36 38,some (34,false),[]⟩,⟨some 40,.fld 0 39,some (34,false),[]⟩,⟨some 41,.load false 1 40,some (34,false),[]⟩,⟨some 42,.bin .neq false 41 (ci 5),some (34,false),[]⟩,qo 43 (.pick 34 (cB true) 42)] (.cond 43 (.exit 1) .skip)) (.ops [qF 44 4 3,ql 45 1 44,qm 46 7,qo 47 (.bin .sub false 46 (ci 1)),qo 48 (.ix 5 45 47),qF 49 3 48,ql 50 1 49,qm 9 50])) .skip)))))) (.ops [qL 51 5 8,qm 52 1,qm 54 9,qo 55 (.litq 1 [54]),qm 57 2,⟨some 53,.call 47 [52],none,[.f 0,8]⟩,qo 56 (.app 1 53 55),qc 58 29 [51,56,57] 0,qm 2 58]))))) (.ops [qo 59 (.bin .add false 18 (ci 1)),qm 18 59]))))))) (so [qm 60 2,qm 6 60] .ret)))
theorem zdf:look Tryz.prog 29 = some (61,m_i_pathsFrom,[.tm 6]):=by kernel_rfl
def m_s_l08Paths:M:=so [qo 2 (.box 0),qo 4 (.mv (.c (.slice none 0 0)))] (so [qm 8 1,qc 9 12 [8] 1,qo 10 (.lit 1 [9]),qm 5 10] (.seq (so [qo 6 (.mv (ci 0))] (.block 0 (.loop (.seq (so [qm 11 6,qF 12 4 2,ql 13 1 12,qo 14 (.len 13),qo 15 (.bin .lss false 11 14)] (.cond 15 .skip (.exit 0))) (.seq (.block 1 (so [qm 18 6,qc 19 49 [18] 1,qm 7 19] (.seq (so [qF 20 0 2,ql 21 1 20,qo 22 (.bin .eql false 21 (ci 9))] (.cond 22 (.ops [⟨some 7,.mv (.c (.string ⟨[116,97,103].toArray⟩)),none,[]⟩]) .skip)) (.seq (so [qF 23 0 2,ql 24 1 23,qo 25 (.bin .eql false 24 (ci 8))] (.cond 25 (.seq (so [qm 26 6,qo 27 (.bin .rem false 26 (ci 2)),qo 28 (.bin .eql false 27 (ci 0)),qm 29 28,⟨some 30,.fld 4 2,some (29,false),[]⟩,⟨some 31,.load false 1 30,some (29,false),[]⟩,qg 32 6 29 false,⟨some 33,.bin .sub false 32 (ci 1),some (29,false),[]⟩,⟨some 34,.ix 5 31 33,some (29,false),[]⟩,⟨some 35,.fld 0 34,some (29,false),[]⟩,⟨some 36,.load false 1 35,some (29,false),[]⟩,⟨some 37,.bin .neq false 36 (ci 5),some (29,false),[]⟩,qo 38 (.pick 29 (cB true) 37)] (.cond 38 (.exit 1) .skip)) (.ops [qF 39 4 2,ql 40 1 39,qm 41 6,qo 42 (.bin .sub false 41 (ci 1)),qo 43 (.ix 5 40 42),qF 44 3 43,ql 45 1 44,qm 7 45])) .skip)) (.ops [qm 46 5,qF 47 4 2,ql 48 1 47,qm 49 6,qo 50 (.ix 5 48 49),qL 51 5 50,qm 53 1,qm 55 7,qo 56 (.litq 1 [55]),qo 52 (.lit 1 []),qo 54 (.app 1 52 53),qo 57 (.app 1 54 56),qc 58 31 [51,57] 0,⟨some 59,.app 1 46 58,none,[.f 0]⟩,qm 5 59]))))) (.ops [qm 16 6,qo 17 (.bin .add false 16 (ci 1)),qm 6 17])))))) (so [qm 60 5,qm 4 60] .ret)))
theorem zdP:look Tryz.prog 31 = some (61,m_s_l08Paths,[.tm 4]):=by kernel_rfl
def m_i_at:M:=so [qo 2 (.box 0),⟨some 4,.zero [.int .i64 0,.int .i64 0,.int .i64 0,.string ⟨[].toArray⟩,.slice none 0 0],none,[]⟩,qo 5 (.mv (cB false))] (.seq (so [qm 9 1,qo 10 (.len 9),qo 11 (.mv (ci 0))] (.block 0 (.loop (so [qo 12 (.bin .lss false 11 10)] (.seq (.cond 12 .skip (.exit 0)) (.seq (.block 1 (so [qo 13 (.ix 1 9 11),ql 14 1 13,qm 7 14] (so [qL 15 5 2,qm 16 7,qc 17 50 [15,16] 1,qm 8 17] (.seq (so [qm 18 8,qo 19 (.bin .lss false 18 (ci 0))] (.cond 19 (so [⟨some 20,.build [.int .i64 0,.int .i64 0,.int .i64 0,.string ⟨[].toArray⟩,.slice none 0 0] [],none,[]⟩,qS 5 4 20,qo 5 (.mv (cB false))] .ret) .skip)) (.ops [qF 21 4 2,ql 22 1 21,qm 23 8,qo 24 (.ix 5 22 23),qL 25 5 24,qS 5 2 25]))))) (.ops [qo 26 (.bin .add false 11 (ci 1)),qm 11 26]))))))) (so [qL 27 5 2,qS 5 4 27,qo 5 (.mv (cB true))] .ret))
theorem lk_i_at:look Tryz.prog 32 = some (28,m_i_at,[.cell true 5 4,.tm 5]):=by kernel_rfl
def m_i_kidAt:M:=so [qo 2 (.box 0),qo 4 (.mv (ci 0))] (.seq (so [qF 7 0 2,ql 8 1 7] (.block 0 (so [qo 10 (.bin .eql false 8 (ci 7)),qm 9 10] (.cond 9 (so [qm 11 1,qc 12 70 [11] 1,qm 5 12] (so [qm 13 5,qF 14 4 2,ql 15 1 14,qo 16 (.len 15),qo 17 (.bin .lss false 13 16)] (.cond 17 (so [qm 18 5,qm 4 18] .ret) .skip))) (so [qo 20 (.bin .eql false 8 (ci 8)),qm 19 20] (.cond 19 (so [qL 21 5 2,qm 22 1,qc 23 71 [21,22] 1,qm 6 23] (so [qm 24 6,qo 25 (.bin .geq false 24 (ci 0))] (.cond 25 (so [qm 26 6,qo 27 (.bin .add false 26 (ci 1)),qm 4 27] .ret) .skip))) (so [qo 29 (.bin .eql false 8 (ci 9)),qm 28 29] (.cond 28 (so [qm 30 1,⟨some 31,.bin .eql false 30 (.c (.string ⟨[116,97,103].toArray⟩)),none,[]⟩,qm 32 31,⟨some 33,.fld 4 2,some (32,true),[]⟩,⟨some 34,.load false 1 33,some (32,true),[]⟩,⟨some 35,.len 34,some (32,true),[]⟩,⟨some 36,.bin .gtr false 35 (ci 0),some (32,true),[]⟩,qo 37 (.pick 32 36 (cB false))] (.cond 37 (so [qo 4 (.mv (ci 0))] .ret) .skip)) .skip)))))))) (so [qo 4 (.mv (ci (-1)))] .ret))
theorem lk_i_kidAt:look Tryz.prog 50 = some (38,m_i_kidAt,[.tm 4]):=by kernel_rfl
def m_i_indexOf:M:=so [qo 2 (.mv (ci 0))] (so [qm 6 0,qc 7 91 [6] 1,qm 5 7,qe 8 5 0,qe 9 5 1,qm 3 8,qm 4 9] (.seq (so [qm 10 4,qo 11 (.not 10),qm 12 11,qg 13 3 12 false,⟨some 14,.call 84 [13,ci 0,ci 999999],some (12,false),[.f 1]⟩,⟨some 15,.not 14,some (12,false),[]⟩,qo 16 (.pick 12 (cB true) 15)] (.cond 16 (so [qo 2 (.mv (ci (-1)))] .ret) .skip)) (so [qm 17 3,qm 2 17] .ret)))
theorem zer:look Tryz.prog 70 = some (18,m_i_indexOf,[.tm 2]):=by kernel_rfl
def m_i_find:M:=so [qo 2 (.box 0),qo 4 (.mv (ci 0))] (.seq (so [qo 5 (.mv (ci 0))] (.block 0 (.loop (.seq (so [qF 6 0 2,ql 7 1 6,qo 8 (.bin .eql false 7 (ci 8)),qm 9 8,qg 10 5 9 true,⟨some 11,.bin .add false 10 (ci 1),some (9,true),[]⟩,⟨some 12,.fld 4 2,some (9,true),[]⟩,⟨some 13,.load false 1 12,some (9,true),[]⟩,⟨some 14,.len 13,some (9,true),[]⟩,⟨some 15,.bin .lss false 11 14,some (9,true),[]⟩,qo 16 (.pick 9 15 (cB false))] (.cond 16 .skip (.exit 0))) (.seq (.block 1 (so [qF 19 4 2,ql 20 1 19,qm 21 5,qo 22 (.ix 5 20 21),qF 23 0 22,ql 24 1 23,qo 25 (.bin .eql false 24 (ci 5)),qm 26 25,⟨some 27,.fld 4 2,some (26,true),[]⟩,⟨some 28,.load false 1 27,some (26,true),[]⟩,qg 29 5 26 true,⟨some 30,.ix 5 28 29,some (26,true),[]⟩,⟨some 31,.fld 3 30,some (26,true),[]⟩,⟨some 32,.load false 1 31,some (26,true),[]⟩,qg 33 1 26 true,⟨some 34,.bin .eql false 32 33,some (26,true),[]⟩,qo 35 (.pick 26 34 (cB false))] (.cond 35 (so [qm 36 5,qm 4 36] .ret) .skip))) (.ops [qm 17 5,qo 18 (.bin .add false 17 (ci 2)),qm 5 18])))))) (so [qo 4 (.mv (ci (-1)))] .ret))
theorem lk_i_find:look Tryz.prog 71 = some (37,m_i_find,[.tm 4]):=by kernel_rfl
end
section
variable {T:World -> Prop} {hT:Low ngl T}
attribute [local irreducible] po mw pt
def findK (key:L8):List V -> Nat -> Int
 | a :: _ :: r,i => if a.kind = 5 /\ a.text = key then i else findK key r (i + 2)
 | _,_ => -1
def findV (v:V) (key:L8):Int:=if v.kind = 8 then findK key v.kids 0 else -1
theorem findK_end {key:L8} {l:List V} (h:l.length < 2) (i:Nat):findK key l i = -1:=by
 match l,h with
 | [],_ => rfl
 | [_],_ => rfl
theorem zdQ {key:L8} {l:List V} {j:Nat} (h:j + 1 < l.length) (i:Nat):findK key (l.drop j) i = if l[j].kind = 5 /\ l[j].text = key then (i:Int) else findK key (l.drop (j + 2)) (i + 2):=by
 rw [drop_eq_getElem_cons (show j < l.length by omega),drop_eq_getElem_cons (show j + 1 < l.length by omega),findK]
def FnI (v:V) (key:L8) (m:Nat) (st:St):Prop :=
 ∃ i:Nat,i <= v.kids.length + 1 /\ m = v.kids.length + 1 - i /\ has st.tm [(1,.d (pS key)),(2,.ref 0 0),(5,.d (pI i))] /\ st.bx = [vC v] /\ (v.kind = 8 -> findV v key = findK key (v.kids.drop i) i)
theorem find_fn (v:V) (key:L8) (hl:v.kids.length <= 4294967295):FnV (env T hT) 71 [.ag (vC v),.d (pS key)] (.d (pI (findV v key))):=by
 refine zbw (zag lk_i_find) (by show 2 <= 37; decide) fun B hB => ?_
 unfold m_i_find;refine mO ?_;refine zby (cs:=vC v) rfl ?_;refine mN ?_;refine zax (fun st => findV v key = -1) ?_ ?_
 ·refine mP ?_
  refine zab ?_;refine zaA (FnI v key) (v.kids.length + 1) ⟨0,Nat.zero_le _,rfl,⟨rfl,rfl,rfl,trivial⟩,rfl,fun h => by unfold findV; rw [if_pos h,drop_zero]⟩ ?_;rintro m tm bx nt live ⟨i,hi,rfl,ht,hbx,hf⟩;obtain ⟨tm1,rfl⟩:=zaf ht;simp only at hbx; subst hbx
  clear ht;refine mM ?_;(iterate 2 refine mS ?_);by_cases h8:v.kind = 8
  ·refine zah rfl rfl (beq_iff_eq.2 h8) ?_
   (iterate 2 refine mS ?_);refine zan (n:=((i + 1:Nat):Int)) rfl rfl rfl (by omega) (by omega) ?_;(iterate 2 refine mS ?_);refine zaK (n:=v.kids.length) rfl rfl (zdk _) ?_;by_cases hil:i + 1 < v.kids.length
   ·refine zah rfl rfl (decide_eq_true (by omega)) ?_
    refine mT ?_;refine zam ?_;have hat:=zdQ (key:=key) hil i;refine zav (zab (zav (zae ?_)));(iterate 3 refine mS ?_);refine za9 (es:=vK v.kids) (e:=vC v.kids[i]) rfl rfl rfl ⟨by omega,by rw [Int.toNat_natCast]; exact zbT (by omega)⟩ rfl ?_;(iterate 2 refine mS ?_);by_cases h5:v.kids[i].kind = 5
    ·refine zah rfl rfl (beq_iff_eq.2 h5) ?_
     (iterate 4 refine mS ?_);refine za9 (es:=vK v.kids) (e:=vC v.kids[i]) rfl rfl rfl ⟨by omega,by rw [Int.toNat_natCast]; exact zbT (by omega)⟩ rfl ?_;(iterate 3 refine mS ?_);refine po_eqs (la:=v.kids[i].text) (lb:=key) rfl rfl rfl ?_;by_cases hk:v.kids[i].text = key
     ·rw [decide_eq_true hk]
      refine mT ?_;refine mP ?_;refine zad ⟨.inr rfl,[.d (pI i)],rfl,?_⟩;rw [hf h8,hat,if_pos ⟨h5,hk⟩]; rfl
     ·rw [decide_eq_false hk]
      refine mK ?_;refine zae ?_;refine mS ?_;refine zan (n:=((i + 2:Nat):Int)) rfl rfl rfl (by omega) (by omega) ?_;refine mN ?_;exact ⟨v.kids.length + 1 - (i + 2),by omega,i + 2,by omega,rfl,⟨rfl,rfl,rfl,trivial⟩,rfl,fun _ => by rw [hf h8,hat,if_neg (fun h => hk h.2)]⟩
    ·refine zaq rfl rfl (beq_eq_false_iff_ne.2 h5) ?_
     refine mS ?_;refine mZ ?_;refine mK ?_;refine zae ?_;refine mS ?_;refine zan (n:=((i + 2:Nat):Int)) rfl rfl rfl (by omega) (by omega) ?_;refine mN ?_;exact ⟨v.kids.length + 1 - (i + 2),by omega,i + 2,by omega,rfl,⟨rfl,rfl,rfl,trivial⟩,rfl,fun _ => by rw [hf h8,hat,if_neg (fun h => h5 h.1)]⟩
   ·refine zaq rfl rfl (decide_eq_false (by omega)) ?_
    refine mF ?_;refine zay ?_;show findV v key = -1;rw [hf h8,findK_end (by rw [length_drop]; omega)]
  ·refine zaq rfl rfl (beq_eq_false_iff_ne.2 h8) ?_
   refine mS ?_;refine mZ ?_;refine mF ?_;refine zay ?_;show findV v key = -1;unfold findV;rw [if_neg h8]
 rintro tm bx nt live h;refine mP ?_;exact zad ⟨.inr rfl,[.d (pI (-1))],rfl,by rw [h]; rfl⟩
end
section
def decOn (u:Nat) (l:L8):L8:=if u = 0 then l else Lib.decDigits u ++ l
theorem decOn_step {u:Nat} (h:u ≠ 0) (l:L8):decOn (u / 10) (UInt8.ofNat (48 + u % 10) :: l) = decOn u l:=by
 unfold decOn;rw [if_neg h];by_cases h1:u < 10
 ·rw [if_pos (by omega),Lib.decDigits_one h1,Nat.mod_eq_of_lt h1]; rfl
 ·rw [if_neg (by omega)]
  conv => rhs; rw [Lib.decDigits,dif_neg h1]
  simp
def digs:L8:=[48,49,50,51,52,53,54,55,56,57]
theorem digs_piece:∀ d:Fin 10,(digs.drop d.val).take 1 = [UInt8.ofNat (48 + d.val)]:=by decide
theorem digs_at {d:Nat} (h:d < 10):(([48,49,50,51,52,53,54,55,56,57]:L8).drop d).take 1 = [UInt8.ofNat (48 + d)]:=digs_piece ⟨d,h⟩
theorem tdivAbs (m:Int):(Int.tdiv m 10).natAbs = m.natAbs / 10:=by rw [Int.natAbs_tdiv]; rfl
theorem tmodAbs (m:Int):(Int.tmod m 10).natAbs = m.natAbs % 10:=by rw [Int.natAbs_tmod]; rfl
theorem zc0 {u:Nat} (h:u <= 9223372036854775808):(Lib.decDigits u).length <= 20:=by rw [Lib.decDigits_length]; exact Lib.nDigits_le20 u (by omega)
end
section
theorem zes (n:Int) (w:World) (hn:i64ok n) :
  Calls Tryz.prog 49 #[.int .i64 n] w fun e w' => e = .returned (.string ⟨(Lib.itoa n).toArray⟩) /\ Below w.heap.size w w':=by
 obtain ⟨h1,h2⟩:=hn;by_cases h0:n = 0
 ·subst h0
  have HZ:=Lib.hid (show Lib.itoa 0 = [48] by rw [show (0:Int) = ((0:Nat):Int) from rfl,Lib.itoa_nonneg,Lib.decDigits_one (by decide)]; rfl)
  go_enter Tryz.func49,Tryz.ntmps49
  go_wp2;go_ret;exact ⟨zbE HZ.out.symm,Below.refl _ _⟩
 have g0:(n == 0) = false:=by simpa using h0
 obtain ⟨res,hres⟩:∃ res,Lib.decDigits n.natAbs = res:=⟨_,rfl⟩;have hrl:res.length <= 20:=by rw [<- hres]; exact zc0 (by omega)
 go_enter Tryz.func49,Tryz.ntmps49
 go_wp2
 go_loopw [3,4,5] (fun o m d wr => ∃ (l:L8) (q:Int),o = .string ⟨l.toArray⟩ /\ m = .int .i64 q /\ -9223372036854775808 <= q /\ q <= 9223372036854775807 /\ decOn q.natAbs l = res /\ (0 <= n -> 0 <= q) /\ (n <= 0 -> q <= 0) /\ wr = w) (fun _ m _ _ => (intOf m).natAbs)
 case atStart => exact ⟨[],n,rfl,rfl,h1,h2,by unfold decOn; rw [if_neg (by omega),hres]; simp,fun h => h,fun h => h,rfl⟩
 case round =>
  obtain ⟨l,q,rfl,rfl,hq1,hq2,hd,hs1,hs2,rfl⟩:=hrel;have HD:=Lib.hid hd;by_cases hq:q = 0
  ·subst hq
   have hl:l = res:=by rw [<- hd]; rfl
   subst hl;clear hd;by_cases hneg:n < 0
   ·have HR:=Lib.hid (show Lib.itoa n = 45 :: l by unfold Lib.itoa; rw [if_pos hneg]; exact congrArg _ hres)
    go_wp2;go_ret;exact ⟨by rw [HR.out]; rfl,Below.refl _ _⟩
   ·have HR:=Lib.hid (show Lib.itoa n = l by unfold Lib.itoa; rw [if_neg hneg,show n.toNat = n.natAbs by omega]; exact hres)
    go_wp2;go_ret;exact ⟨by rw [HR.out]; rfl,Below.refl _ _⟩
  ·have gq:(q != 0) = true:=by simpa using hq
   have hu:q.natAbs ≠ 0:=by omega
   have ll:l.length <= 20:=by
    have:=congrArg length hd; unfold decOn at this; rw [if_neg hu,length_append] at this; omega
   have st:=decOn_step hu l;rw [hd] at st;clear hd;have ta:=tdivAbs q;have tm:=tmodAbs q;have hb1:-9223372036854775808 <= Int.tdiv q 10:=by omega
   have hb2:Int.tdiv q 10 <= 9223372036854775807:=by omega
   obtain ⟨r,hr⟩:∃ r,Int.tmod q 10 = r:=⟨_,rfl⟩;obtain ⟨t,ht⟩:∃ t,Int.tdiv q 10 = t:=⟨_,rfl⟩;have hz1:0 <= q -> 0 <= t:=fun h => by rw [<- ht]; exact Int.tdiv_nonneg h (by decide)
   have hz2:q <= 0 -> t <= 0:=fun h => by rw [<- ht]; (have hh:=Int.tdiv_nonneg (a:=-q) (b:=10) (by omega) (by decide); rw [Int.neg_tdiv] at hh; omega)
   rw [hr] at tm;rw [ht] at ta hb1 hb2;have hd10:r.natAbs < 10:=by omega
   have P:=digs_at hd10;rw [<- ta,<- tm] at st;have HST:=Lib.hid st;have hmeas:t.natAbs < q.natAbs:=by omega
   clear st tm ta;by_cases hr0:r < 0
   ·obtain ⟨d,rfl⟩:∃ d:Nat,r = -(d:Int):=⟨r.natAbs,by omega⟩
    have e1:(-(d:Int)).natAbs = d:=by omega
    rw [e1] at P hd10 HST;have i1:(0:Int) <= d:=by omega
    have i2:(d:Int) + 1 <= 10:=by omega
    go_wp2;go_roundw
    case rel => exact ⟨_,t,rfl,rfl,hb1,hb2,by simpa using HST.out,fun h => hz1 (hs1 h),fun h => hz2 (hs2 h),by first | rfl | trivial⟩
    case measure => simp only [intOf]; exact hmeas
   ·obtain ⟨d,rfl⟩:∃ d:Nat,r = (d:Int):=⟨r.natAbs,by omega⟩
    have e1:((d:Int)).natAbs = d:=by omega
    rw [e1] at P hd10 HST;have i1:(0:Int) <= d:=by omega
    have i2:(d:Int) + 1 <= 10:=by omega
    go_wp2;go_roundw
    case rel => exact ⟨_,t,rfl,rfl,hb1,hb2,by simpa using HST.out,fun h => hz1 (hs1 h),fun h => hz2 (hs2 h),by first | rfl | trivial⟩
    case measure => simp only [intOf]; exact hmeas
def TenTab (w : World) : Prop := Lib.TabIs Tryz.prog w "internal/strconv.uint64pow10" .u64 Lib.pow10Tab
theorem tenG : Tryz.prog.globalNamed "internal/strconv.uint64pow10" = some 3 := by kernel_rfl
theorem TenTab.lt {w:World} (h:TenTab w):3 < w.heap.size:=zba (Lib.TabIs.cell h tenG 0 (by decide))
theorem TenTab.below' {B:Nat} {w w':World} (h:TenTab w) (hb:Below B w w') (hB:3 < B):TenTab w':=var?_below hb tenG hB h
theorem TenTab.below {w w':World} (h:TenTab w) (hb:Below w.heap.size w w'):TenTab w':=h.below' hb h.lt
theorem zet (n:Int) (w:World) (hn:i64ok n) (hT:TenTab w) :
  Calls Tryz.prog 46 #[.int .i64 n] w fun e w' => e = .returned (.string ⟨(Lib.itoa n).toArray⟩) /\ Below w.heap.size w w':=by
 have H:=Lib.hid (Tryz.strconv_Itoa n hn.1 hn.2 w hT)
 go_enter Tryz.func46,Tryz.ntmps46
 go_wp2_with (go_at_call 68; refine H.out.mono ?_; rintro e w' ⟨rfl,k,os,rfl⟩)
 go_ret;exact ⟨rfl,Lib.below_grow _ _ lR _ _⟩
end
section
open Go.RowKit Go.Lib
theorem zcd {u:Nat} (h:u < 10):decDigits u = [UInt8.ofNat (48 + u)]:=decDigits_one h
theorem zc1 {u:Nat} (h:¬ u < 10):decDigits u = decDigits (u / 10) ++ [UInt8.ofNat (48 + u % 10)]:=by
 conv => lhs; rw [decDigits,dif_neg h]
 try rfl
theorem ze5 {d:Nat} (h:d < 10):(UInt8.ofNat (48 + d)).toNat = 48 + d:=by
 rw [UInt8.toNat_ofNat']; omega
theorem decD_ind {P:Nat -> Prop} (h0:∀ u,u < 10 -> P u) (h1:∀ u,¬ u < 10 -> P (u / 10) -> P u) (u:Nat):P u:=by
 induction u using Nat.strongRecOn with
 | ind u ih =>
  by_cases h:u < 10
  ·exact h0 u h
  ·exact h1 u h (ih (u / 10) (by omega))
theorem decD_ne (u:Nat):decDigits u ≠ []:=by
 by_cases h:u < 10
 ·rw [zcd h]; simp
 ·rw [zc1 h]; simp
theorem decD_dig (u:Nat):∀ c ∈ decDigits u,48 <= c.toNat /\ c.toNat <= 57:=by
 refine decD_ind (P:=fun u => ∀ c ∈ decDigits u,48 <= c.toNat /\ c.toNat <= 57) (fun u h c hc => ?_) (fun u h ih c hc => ?_) u
 ·rw [zcd h,mem_singleton] at hc; subst hc; rw [ze5 h]; omega
 ·rw [zc1 h,mem_append,mem_singleton] at hc
  rcases hc with hc | rfl
  ·exact ih c hc
  ·rw [ze5 (by omega)]; omega
theorem zeu:∀ (l r:L8) (a m:Nat),parseUint10 a l = .ok m -> parseUint10 a (l ++ r) = parseUint10 m r
 | [],r,a,m,h => by simp only [parseUint10] at h; injection h with h; subst h; rfl
 | c :: l,r,a,m,h => by
  simp only [parseUint10] at h;simp only [cons_append,parseUint10]
  split at h
  ·rename_i h1
   rw [if_pos h1]
   split at h
   ·cases h
   ·rename_i h2
    rw [if_neg h2]
    split at h
    ·cases h
    ·rename_i h3
     rw [if_neg h3];exact zeu l r _ m h
  ·cases h
theorem zev {a d:Nat} (hd:d < 10) (h:a * 10 + d < 18446744073709551616):parseUint10 a [UInt8.ofNat (48 + d)] = .ok (a * 10 + d):=by
 simp only [parseUint10,ze5 hd];rw [if_pos (by omega),if_neg (by omega),if_neg (by omega)]
 congr 1; omega
theorem parse_dec (u:Nat):u < 18446744073709551616 -> parseUint10 0 (decDigits u) = .ok u:=by
 refine decD_ind (P:=fun u => u < 18446744073709551616 -> parseUint10 0 (decDigits u) = .ok u) (fun u h hu => ?_) (fun u h ih hu => ?_) u
 ·rw [zcd h,zev h (by omega),Nat.zero_mul,Nat.zero_add]
 ·rw [zc1 h,zeu _ _ _ _ (ih (by omega)),zev (by omega) (by omega)]
  congr 1; omega
theorem mag_dec {u:Nat} (h:u < 18446744073709551616):parseMag (decDigits u) = .ok u:=by
 unfold parseMag; rw [if_neg (decD_ne u)]; exact parse_dec u h
theorem atoi_itoa {n:Int} (h:i64ok n):atoiAll (itoa n) = .ok n:=by
 obtain ⟨h1,h2⟩:=h;by_cases hn:n < 0
 ·obtain ⟨u,rfl⟩:∃ u:Nat,n = -(u:Int):=⟨n.natAbs,by omega⟩
  rw [itoa_neg u (by omega),atoiAll_minus,mag_dec (by omega)];simp only [signed];rw [if_neg (by omega)]
 ·obtain ⟨u,rfl⟩:∃ u:Nat,n = (u:Int):=⟨n.toNat,by omega⟩
  rw [itoa_nonneg];have hd:=decD_dig u;have hm:=mag_dec (u:=u) (by omega)
  cases hl:decDigits u with
  | nil => exact absurd hl (decD_ne u)
  | cons c r =>
   have:=hd c (by rw [hl]; simp)
   rw [hl] at hm;rw [atoiAll_plain c r (by omega) (by omega),hm];simp only [signless];rw [if_neg (by omega)]
def rdD (s:L8):Option Int:=match atoiAll s with
 | .ok v => if itoa v = s then some v else none
 | _ => none
theorem rdD_itoa {n:Int} (h:i64ok n):rdD (itoa n) = some n:=by unfold rdD; rw [atoi_itoa h]; simp
def rdN (s:L8):Int:=match rdD s with | some n => n | none => 0
def rdB (s:L8):Bool:=(rdD s).isSome
theorem rd_yes {n:Int} {s:L8} (h:i64ok n) (hs:itoa n = s):rdN s = n /\ rdB s = true:=by subst hs; simp [rdN,rdB,rdD_itoa h]
end
section
open Go.RowKit Go.Lib
def ErrTab (w : World) : Prop := (∃ tp p, w.var? Tryz.prog "strconv.ErrSyntax" = some #[.iface tp p]) ∧ ∃ tp p, w.var? Tryz.prog "strconv.ErrRange" = some #[.iface tp p]
theorem synG : Tryz.prog.globalNamed "strconv.ErrSyntax" = some 4 := by kernel_rfl
theorem rngG : Tryz.prog.globalNamed "strconv.ErrRange" = some 5 := by kernel_rfl
theorem zew (s:L8) (w:World) (hs:s.length <= 281474976710656) (hT:TenTab w) (hE:ErrTab w) :
  Calls Tryz.prog 91 #[.string ⟨s.toArray⟩] w fun e w' => e = .returned (.tuple #[.int .i64 (rdN s),.bool (rdB s)]) /\ Below w.heap.size w w':=by
 obtain ⟨⟨t1,p1,e1⟩,t2,p2,e2⟩:=hE;have hsz:(⟨s.toArray⟩:ByteArray).size = s.length:=by simp [ByteArray.size]
 cases ha:atoiAll s
 case ok v =>
  have hv:=atoiAll_bounds ha;have hA:=Lib.hid (fun w => Tryz.strconv_Atoi_ok ⟨s.toArray⟩ (by rw [hsz]; omega) v (by simpa using ha) w);have hI:=Lib.hid (fun w hT => Tryz.strconv_Itoa v hv.1 hv.2 w hT);by_cases hi:itoa v = s
  ·have hr:=Lib.hid (rd_yes hv hi)
   have hi':=Lib.hid hi;clear hi
   go_enter Tryz.func91,Tryz.ntmps91
   go_wp2_with (first | (go_at_call 100; refine (hA.out _).mono ?_; rintro e w1 ⟨rfl,hw⟩; have hb1:Below w.heap.size w w1:=(by rcases hw with rfl | ⟨t,rfl⟩; exact Below.refl _ _; exact Lib.bytesWorld_below _ _ _); clear hw; have hT1:=hT.below hb1) | (go_at_call 68; refine (hI.out _ hT1).mono ?_; rw [hi'.out]; rintro e w2 ⟨rfl,k,os,rfl⟩))
   go_ret2
   exact ⟨by rw [hr.out.1,hr.out.2]; rfl,hb1.trans ((Lib.below_grow _ _ lR _ _).mono hb1.size)⟩
  ·have hr:=Lib.hid (show rdN s = 0 /\ rdB s = false by simp [rdN,rdB,rdD,ha,hi])
   have hbe:(itoa v == s) = false:=by simpa using hi
   go_enter Tryz.func91,Tryz.ntmps91
   go_wp2_with (first | (go_at_call 100; refine (hA.out _).mono ?_; rintro e w1 ⟨rfl,hw⟩; have hb1:Below w.heap.size w w1:=(by rcases hw with rfl | ⟨t,rfl⟩; exact Below.refl _ _; exact Lib.bytesWorld_below _ _ _); clear hw; have hT1:=hT.below hb1) | (go_at_call 68; refine (hI.out _ hT1).mono ?_; rintro e w2 ⟨rfl,k,os,rfl⟩))
   all_goals first
    | (exfalso; rename_i hq; rw [hbe] at hq; cases hq)
    | (go_ret2; exact ⟨by rw [hr.out.1,hr.out.2]; rfl,hb1.trans ((Lib.below_grow _ _ lR _ _).mono hb1.size)⟩)
 case range =>
  have hr:=Lib.hid (show rdN s = 0 /\ rdB s = false by simp [rdN,rdB,rdD,ha]);have hc:w.cell? ⟨5,0,none⟩ = some (.iface t2 p2):=by have:=World.var?_cell rngG e2 0; simpa using this
  have hA:=Lib.hid (Tryz.strconv_Atoi_range ⟨s.toArray⟩ (by rw [hsz]; omega) (by simpa using ha) (.iface t2 p2) w hc (.inr ⟨_,_,rfl⟩));generalize atoiSat s = sat at hA
  go_enter Tryz.func91,Tryz.ntmps91
  go_wp2_with (go_at_call 100; refine hA.out.mono ?_; rintro e w1 ⟨N,rfl,_,_,hb1⟩)
  go_ret2
  exact ⟨by rw [hr.out.1,hr.out.2]; rfl,hb1⟩
 have hr:=Lib.hid (show rdN s = 0 /\ rdB s = false by simp [rdN,rdB,rdD,ha]);have hc:w.cell? ⟨4,0,none⟩ = some (.iface t1 p1):=by have:=World.var?_cell synG e1 0; simpa using this
 have hA:=Lib.hid (Tryz.strconv_Atoi_syntax ⟨s.toArray⟩ (by rw [hsz]; omega) (by simpa using ha) (.iface t1 p1) w hc (.inr ⟨_,_,rfl⟩))
 go_enter Tryz.func91,Tryz.ntmps91
 go_wp2_with (go_at_call 100; refine hA.out.mono ?_; rintro e w1 ⟨N,rfl,_,_,hb1⟩)
 go_ret2
 exact ⟨by rw [hr.out.1,hr.out.2]; rfl,hb1⟩
theorem ErrTab.low {n:Nat} {w w':World} (h1:4 < n) (h2:5 < n) (hk:∀ k,k < n -> w'.heap[k]? = w.heap[k]?) (h:ErrTab w):ErrTab w':=by
 have key:∀ (nm:String) (g:Nat) (v:Array Value),Tryz.prog.globalNamed nm = some g -> g < n -> w.var? Tryz.prog nm = some v -> w'.var? Tryz.prog nm = some v:=by
  intro nm g v hg hlt hv;unfold World.var? at hv ⊢;simp only [hg,Option.bind_some] at hv ⊢;rw [hk g hlt];exact hv
 obtain ⟨⟨t1,p1,e1⟩,t2,p2,e2⟩:=h;exact ⟨⟨t1,p1,key _ _ _ synG h1 e1⟩,t2,p2,key _ _ _ rngG h2 e2⟩
end
section
theorem FnV.oldT {E:Env} {f:Nat} {args:List PV} {a b:Value} (ha:a.oneCell' = true) (hb1:b.oneCell' = true) (h:∀ (w:World) (C:Cx) (vs:List Value),(∀ b o,C.F b o -> b < w.heap.size) -> E.NG <= w.heap.size -> E.T w -> vs.length = args.length -> (∀ (j:Nat) (x:PV) (y:Value),args[j]? = some x -> vs[j]? = some y -> RpV C w x y) ->
  Calls E.P f vs.toArray w fun e w' => e = .returned (.tuple #[a,b]) /\ Below w.heap.size w w'):FnV E f args (.tup [.d (.v a),.d (.v b)]):=by
 intro C w vs hI hnt hold hl hv;refine (h w C vs hI.fin hI.ng hI.t hl hv).mono ?_;rintro e w' ⟨rfl,hb⟩;have hF:Fix C w w':=.of (fun b o hF => World.cell?_of_block (a:=⟨b,o,none⟩) (hb.block b (hI.fin b o hF))) hb.block
 refine ⟨_,.tup [.d (.v a),.d (.v b)],[],fun _ => False,C,rfl,rfl,⟨hI.nb,fun p cs hp => by simp at hp,fun p hp => by simp at hp,fun p hp => by simp at hp,fun p q hp => by simp at hp,fun t ht => ht.elim,fun t s b ht => ht.elim,fun b o h => Nat.lt_of_lt_of_le (hI.fin b o h) hb.size,Nat.le_trans hI.ng hb.size,E.low w w' hI.t hb.size (fun k hk => hb.block k (Nat.lt_of_lt_of_le hk hI.ng))⟩,
  ⟨hb.os,hb.tape,hb.output,hb.size,fun _ _ h => h,hF,fun k hk _ _ => hb.block k hk,⟨lR,fun _ _ => rfl⟩,fun _ _ h => .inl h,fun t b ht => ht.elim,(fun p hp hp2 => by simp at hp2),⟨lR,fun _ _ => ⟨rfl,rfl,rfl,rfl⟩⟩⟩,.tup _ [a,b] rfl ?_⟩
 intro j x y hx hy
 match j with
 | 0 => simp at hx hy; subst hx; subst hy; exact .d _ _ (.v a ha)
 | 1 => simp at hx hy; subst hx; subst hy; exact .d _ _ (.v b hb1)
 | j + 2 => simp at hx
end
section
variable {T:World -> Prop} {hT:Low ngl T}
theorem ze6 (hTen:∀ w,T w -> TenTab w) (hErr:∀ w,T w -> ErrTab w) (s:L8) (hs:s.length <= 2147483647):FnV (env T hT) 91 [.d (pS s)] (.tup [.d (pI (rdN s)),.d (pB (rdB s))]):=by
 refine FnV.oldT rfl rfl fun w C vs hF _ ht hlen hv => ?_
 match vs,hlen with
 | [x],_ =>
  have h1:x = .string ⟨s.toArray⟩:=by
   have h:=hv 0 _ _ rfl rfl
   cases h with
   | d _ _ h => cases h; rfl
  subst h1;exact zew s w (by omega) (hTen w ht) (hErr w ht)
theorem zc2 {C:Cx} {W:World} {n:Int} {y:Value} (h:RpV C W (.d (pI n)) y):y = .int .i64 n:=by
 cases h with
 | d _ _ h => cases h; rfl
theorem within_fn (n a b:Int):FnV (env T hT) 84 [.d (pI n),.d (pI a),.d (pI b)] (.d (pB (decide (a <= n /\ n <= b)))):=by
 refine FnV.old rfl fun w C vs hF _ _ hlen hv => ?_
 match vs,hlen with
 | [x,y,z],_ =>
  have h1:=zc2 (hv 0 _ _ rfl rfl); have h2:=zc2 (hv 1 _ _ rfl rfl); have h3:=zc2 (hv 2 _ _ rfl rfl)
  subst h1; subst h2; subst h3
  refine (zbs n a b w).mono ?_;rintro e w' ⟨rfl,rfl⟩;refine ⟨?_,Below.refl _ _⟩;by_cases h:a <= n /\ n <= b
  ·rw [zat h,decide_eq_true h]
  ·rw [zaM h,decide_eq_false h]
end
section
variable {T:World -> Prop} {hT:Low ngl T}
attribute [local irreducible] po mw pt
def ixI (s:L8):Int:=if rdB s = true /\ 0 <= rdN s /\ rdN s <= 999999 then rdN s else -1
theorem indexOf_fn (hTen:∀ w,T w -> TenTab w) (hErr:∀ w,T w -> ErrTab w) (s:L8) (hs:s.length <= 2147483647):FnV (env T hT) 70 [.d (pS s)] (.d (pI (ixI s))):=by
 refine zbw (zag zer) (by show 1 <= 18; decide) fun B hB => ?_
 unfold m_i_indexOf;refine mP ?_;refine mQ ?_;refine zao (args:=[.d (pS s)]) rfl (ze6 (T:=T) (hT:=hT) hTen hErr s hs) ?_;refine mN ?_;refine mM ?_;refine mS ?_
 cases hb:rdB s with
 | false =>
  (iterate 2 refine mS ?_);refine mZ ?_;refine mT ?_;refine mP ?_;refine zad ⟨.inr rfl,[.d (pI (-1))],rfl,?_⟩
  unfold ixI; rw [hb,if_neg (fun h => by cases h.1)]; rfl
 | true =>
  (iterate 3 refine mS ?_);refine zbr (b:=true) (args:=[.d (pI (rdN s)),.d (pI 0),.d (pI 999999)]) rfl (fun _ => rfl) (fun _ => within_fn (T:=T) (hT:=hT) (rdN s) 0 999999) ?_;by_cases hw:0 <= rdN s /\ rdN s <= 999999
  ·rw [decide_eq_true hw]
   refine mK ?_;refine mP ?_;refine zad ⟨.inr rfl,[.d (pI (rdN s))],rfl,?_⟩;unfold ixI; rw [hb,if_pos ⟨rfl,hw⟩]; rfl
  ·rw [decide_eq_false hw]
   refine mT ?_;refine mP ?_;refine zad ⟨.inr rfl,[.d (pI (-1))],rfl,?_⟩;unfold ixI; rw [hb,if_neg (fun h => hw h.2)]; rfl
def kidI (v:V) (s:L8):Int :=
 if v.kind = 7 then (if ixI s < v.kids.length then ixI s else -1)
 else if v.kind = 8 then (if 0 <= findV v s then findV v s + 1 else -1)
 else if v.kind = 9 then (if s = [116,97,103] /\ 0 < v.kids.length then 0 else -1) else -1
theorem findK_le (key:L8):∀ (l:List V) (i:Nat),-1 <= findK key l i /\ (findK key l i:Int) <= i + l.length
 | [],i => by simp only [findK]; omega
 | [_],i => by simp only [findK]; omega
 | a :: b :: r,i => by
  have ih:=findK_le key r (i + 2);simp only [findK];split
  ·simp only [length_cons]; omega
  ·simp only [length_cons]; omega
theorem findV_le (v:V) (key:L8):-1 <= findV v key /\ findV v key <= v.kids.length:=by
 unfold findV;split
 ·have:=findK_le key v.kids 0; omega
 ·omega
theorem kidAt_fn (hTen:∀ w,T w -> TenTab w) (hErr:∀ w,T w -> ErrTab w) (v:V) (s:L8) (hl:v.kids.length <= 4294967295) (hs:s.length <= 2147483647):FnV (env T hT) 50 [.ag (vC v),.d (pS s)] (.d (pI (kidI v s))):=by
 have hfl:=findV_le v s;refine zbw (zag lk_i_kidAt) (by show 2 <= 38; decide) fun B hB => ?_
 unfold m_i_kidAt;refine mO ?_;refine zby (cs:=vC v) rfl ?_;refine mN ?_;refine zax (fun _ => kidI v s = -1) ?_ ?_
 ·refine mO ?_
  (iterate 2 refine mS ?_);refine zai ?_;refine zab ?_;refine mO ?_;by_cases h7:v.kind = 7
  ·refine zah rfl rfl (beq_iff_eq.2 h7) ?_
   refine mT ?_;refine mQ ?_;refine zao (args:=[.d (pS s)]) rfl (indexOf_fn (T:=T) (hT:=hT) hTen hErr s hs) ?_;refine mN ?_;refine mO ?_;(iterate 3 refine mS ?_);refine zaK (n:=v.kids.length) rfl rfl (zdk _) ?_;by_cases hi:ixI s < v.kids.length
   ·refine zah rfl rfl (decide_eq_true hi) ?_
    refine mT ?_;refine mP ?_;refine zad ⟨.inr rfl,[.d (pI (ixI s))],rfl,?_⟩;unfold kidI; rw [if_pos h7,if_pos hi]; rfl
   ·refine zaq rfl rfl (decide_eq_false hi) ?_
    refine mK ?_;show kidI v s = -1;unfold kidI; rw [if_pos h7,if_neg hi]
  refine zaq rfl rfl (beq_eq_false_iff_ne.2 h7) ?_;refine mF ?_;refine mO ?_;by_cases h8:v.kind = 8
  ·refine zah rfl rfl (beq_iff_eq.2 h8) ?_
   refine mT ?_;refine mO ?_;refine zaN (p:=0) (cs:=vC v) rfl rfl rfl rfl ?_;refine mS ?_;refine zao (args:=[.ag (vC v),.d (pS s)]) (congrArg (fun l => some [PV.ag l,PV.d (pS s)]) (zcr v)) (find_fn (T:=T) (hT:=hT) v s hl) ?_;refine mN ?_;refine mQ ?_;by_cases hi:0 <= findV v s
   ·refine zah rfl rfl (decide_eq_true hi) ?_
    refine mT ?_;refine mQ ?_;refine zan (n:=findV v s + 1) rfl rfl rfl (by omega) (by omega) ?_;refine mN ?_;refine zad ⟨.inr rfl,[.d (pI (findV v s + 1))],rfl,?_⟩;unfold kidI; rw [if_neg h7,if_pos h8,if_pos hi]; rfl
   ·refine zaq rfl rfl (decide_eq_false hi) ?_
    refine mK ?_;show kidI v s = -1;unfold kidI; rw [if_neg h7,if_pos h8,if_neg hi]
  refine zaq rfl rfl (beq_eq_false_iff_ne.2 h8) ?_;refine mF ?_;refine mO ?_;by_cases h9:v.kind = 9
  ·refine zah rfl rfl (beq_iff_eq.2 h9) ?_
   refine mT ?_;refine mQ ?_;refine po_eqs (la:=s) (lb:=[116,97,103]) rfl rfl rfl ?_;by_cases ht:s = [116,97,103]
   ·rw [decide_eq_true ht]
    (iterate 3 refine mS ?_);refine zaK (n:=v.kids.length) rfl rfl (zdk _) ?_;by_cases hk:0 < v.kids.length
    ·refine zah rfl rfl (decide_eq_true (by omega)) ?_
     refine mT ?_;refine mP ?_;refine zad ⟨.inr rfl,[.d (pI 0)],rfl,?_⟩;unfold kidI; rw [if_neg h7,if_neg h8,if_pos h9,if_pos ⟨ht,hk⟩]; rfl
    ·refine zaq rfl rfl (decide_eq_false (by omega)) ?_
     refine mK ?_;show kidI v s = -1;unfold kidI; rw [if_neg h7,if_neg h8,if_pos h9,if_neg (fun h => hk h.2)]
   ·rw [decide_eq_false ht]
    refine mS ?_;refine mZ ?_;refine mK ?_;show kidI v s = -1;unfold kidI; rw [if_neg h7,if_neg h8,if_pos h9,if_neg (fun h => ht h.1)]
  refine zaq rfl rfl (beq_eq_false_iff_ne.2 h9) ?_;refine mK ?_;show kidI v s = -1;unfold kidI; rw [if_neg h7,if_neg h8,if_neg h9]
 rintro tm bx nt live h;refine mP ?_;exact zad ⟨.inr rfl,[.d (pI (-1))],rfl,by rw [h]; rfl⟩
end
section
theorem Tabs.low:Low ngl Tabs:=by
 intro w w' h hs hk;have h1:0 < ngl:=of_decide_eq_true (by unfold ngl; kernel_rfl);have h2:1 < ngl:=of_decide_eq_true (by unfold ngl; kernel_rfl);refine ⟨fun c hc => ?_,fun i hi => ?_⟩
 ·rw [World.cell?_of_block (a:=⟨_,_,none⟩) (hk _ h1)]; exact h.1 c hc
 ·rw [World.cell?_of_block (a:=⟨_,_,none⟩) (hk _ h2),World.cell?_of_block (a:=⟨_,_,none⟩) (hk _ h2)]; exact h.2 i hi
end
section
def TS (w:World):Prop:=Tabs w /\ TenTab w /\ ErrTab w
theorem TS.low:Low ngl TS:=by
 intro w w' h hs hk;have h1:3 < ngl:=of_decide_eq_true (by unfold ngl; kernel_rfl);have h2:4 < ngl:=of_decide_eq_true (by unfold ngl; kernel_rfl);have h3:5 < ngl:=of_decide_eq_true (by unfold ngl; kernel_rfl);refine ⟨Tabs.low w w' h.1 hs hk,?_,ErrTab.low h2 h3 hk h.2.2⟩;have ht:=h.2.1;unfold TenTab Lib.TabIs at ht ⊢;unfold World.var? at ht ⊢;simp only [tenG,Option.bind_some] at ht ⊢;rw [hk _ h1]; exact ht
theorem TS.c:∀ w,TS w -> ErrTab w:=fun _ h => h.2.2
end
section
variable {T:World -> Prop} {hT:Low ngl T}
def TP (w:World):Prop:=TS w /\ ∃ m,MaxCell m w
theorem TP.low:Low ngl TP:=by
 intro w w' h hs hk;have h1:2 < ngl:=of_decide_eq_true (by unfold ngl; kernel_rfl);obtain ⟨h0,m,hm⟩:=h;refine ⟨TS.low w w' h0 hs hk,m,?_⟩;unfold MaxCell at hm ⊢;rw [World.cell?_of_block (hk _ h1)]; exact hm
theorem ze7 (hP:∀ w,T w -> TP w) (st:List (L8)) (hl:st.length <= 4294967295) (hs:∀ s ∈ st,s.length <= 4294967295):FnV (env T hT) 6 [.d (pSs st)] (.d (pS (putPath st))):=by
 refine FnV.old rfl fun w C vs hF _ ht hlen hv => ?_
 match vs,hlen with
 | [x],_ =>
  obtain ⟨⟨h1,_⟩,m,h2⟩:=hP w ht;exact zcm st x m w (zbZ (hv 0 _ _ rfl rfl)) hl hs h1 h2
theorem areSt_fn (hP:∀ w,T w -> TP w) (st:List (L8)) (hl:st.length <= 4294967295) (hs:∀ s ∈ st,s.length <= 4294967295):FnV (env T hT) 21 [.d (pSs st)] (.d (pB (stepsOk st))):=by
 refine FnV.old rfl fun w C vs hF _ ht hlen hv => ?_
 match vs,hlen with
 | [x],_ =>
  obtain ⟨⟨h1,_⟩,_⟩:=hP w ht;exact zcl st x w (zbZ (hv 0 _ _ rfl rfl)) hl hs h1
end
section
theorem tyStr:ElemTy Tryz.prog 24 9 1 16:=ElemTy.mk' (z:=.string ⟨#[]⟩) Tryz.underlying24 (by kernel_rfl) rfl (by decide)
def strV (l:L8):Value:=.string ⟨l.toArray⟩
end
section
theorem strV_one (st:List (L8)):∀ u ∈ st.map strV,u.oneCell' = true:=by
 intro u hu; rw [mem_map] at hu; obtain ⟨b,_,rfl⟩:=hu; rfl
theorem zex {P:Program} {w:World} (base:Nat) (t ty e:TypeId) (i:TypeInfo) (size:Nat) (ht:P.underlying t = some (.slice e)) (hi:P.info? e = some i)
  (v:Value) (n:Nat) (xs:List Value) (hown:w.ownsRow base e size v n xs) (c:Nat) :
  (Builtin.append_ #[t,t] ty #[v,.slice none 0 c]).run P w = .ok v w:=by
 rcases hown.2 with ⟨rfl,rfl⟩ | ⟨g,cap,cur,rfl,_,_,hnc,_⟩
 ·simp [Builtin.append_,run_underlying ht,sizeOf,typeInfo,hi,Builtin.lenOf,Builtin.firstCells]
 ·simp [Builtin.append_,run_underlying ht,sizeOf,typeInfo,hi,Builtin.lenOf,Builtin.firstCells,hnc,storeCells]
theorem wp_appS {P:Program} {ops:Array Oper} {rest:List Oper} {o:Oper} {a:Act} {w:World} {Q:Exit -> Act -> World -> Prop} {t e:TypeId} {bytes:Nat} {s x:Operand} {v v2:Value} {xs:List Value} {ls:List (L8)}
  (T:ElemTy P t e 1 bytes) (hgd:o.guard = none) (ho:o.op = .call { callee:=.builtin .append,args:=#[s,x],argTypes:=#[t,t] })
  (B:Nat) (hown:OwnR w B e v xs) (hs:a.eval s = v) (hsrc:StrRow w v2 ls) (hx:a.eval x = v2)
  (h63:xs.length + ls.length <= 4294967296) (hby:bytes <= 32768) (hB:B <= w.heap.size)
  (h:∀ v' w',OwnR w' B e v' (xs ++ ls.map strV) -> w.grownBy w' v.ownBlock -> (v' = .slice none 0 0 -> v = .slice none 0 0) -> wpList P ops Q rest (a.put o.dst v') w'):wpList P ops Q (o :: rest) a w:=by
 obtain ⟨ao,c,rfl,hg⟩:=hsrc;have hlen:(ls.map strV).length = ls.length:=length_map _
 cases ao with
 | some ad =>
  refine wp_appR (ys:=ls.map strV) T hgd ho B hown hs ad c (by rw [hx,hlen]) ?_ (strV_one ls) (by rw [hlen]; exact h63) hby hB h;intro j u hj;rw [getElem?_map] at hj;by_cases hl:j < ls.length
  ·obtain ⟨b,o',hb,hc⟩:=hg (by intro e; rw [e] at hl; simp at hl)
   simp only [sI] at hb; subst hb
   rw [getElem?_eq_getElem hl] at hj; simp at hj; subst hj
   rw [zaw]; exact hc j hl
  ·rw [getElem?_eq_none (by omega)] at hj; simp at hj
 | none =>
  have h0:ls = []:=by
   by_cases h0:ls = []
   ·exact h0
   ·obtain ⟨b,o',hb,_⟩:=hg h0; cases hb
  subst h0;obtain ⟨i,z,g1,g2,g3,g4,g5⟩:=T.info;refine wpList_plain hgd fun K hK => ?_
  have hrun:=zex (P:=P) (w:=w) B t o.type e i 1 T.under g1 v xs.length xs hown c;unfold Oper.wp;have hx':a.eval x = .slice none 0 c:=hx;simp [execOp,ho,resolve,invoke,builtin,hs,hx',hrun,Result.andThen];exact hK _ _ (h v w (by simpa using hown) ⟨rfl,rfl,rfl,lR,fun _ _ _ => rfl⟩ id)
end
section
theorem cloneS_any (ks:List (L8)) (v:Value) (w:World) (h:StrRow w v ks) (hl:ks.length <= 4294967290) :
  Calls Tryz.prog 47 #[v] w fun e w' => ∃ v',e = .returned v' /\ Below w.heap.size w w' /\ OwnR w' w.heap.size 9 v' (ks.map strV):=by
 have q24:∀ (w:World) (a:Option Addr) (n c:Nat),(binOp .eql 24 (.slice a n c) (.slice none 0 0)).run Tryz.prog w = .ok (.bool a.isNone) w:=fun w a n c => Lib.run_eql_slice_nil w _ _ a n c 0 0 Tryz.underlying24
 have hrow:=h.below ((Below.refl w.heap.size w).alloc lR (.cells #[] 9));obtain ⟨ao,c,rfl,hg⟩:=h
 cases ao with
 | none =>
  have h0:ks = []:=by
   by_cases h0:ks = []
   ·exact h0
   ·obtain ⟨b,o',hb,_⟩:=hg h0; cases hb
  subst h0;clear hrow hg
  go_enter Tryz.func47,Tryz.ntmps47
  go_wp2;go_ret
  exact ⟨_,rfl,Below.refl _ _,OwnR.nil⟩
 | some ad =>
  clear hg
  go_enter Tryz.func47,Tryz.ntmps47
  go_wp2_with (at_builtin; refine wp_appS tyStr rfl rfl w.heap.size OwnR.start rfl hrow rfl (by simp; omega) (by decide) (by simp) ?_)
  intro v1 w1 hown1 hgr1 hn1;have hb1:=OwnR.grown OwnR.start ((Below.refl w.heap.size w).alloc lR _) hgr1 (by simp);go_wp2;go_ret;exact ⟨_,rfl,hb1,by simpa using hown1⟩
end
section
variable {T:World -> Prop} {hT:Low ngl T}
theorem FnG.oldSame {E:Env} {f:Nat} {args:List PV} {bx:LP PC} {nt:Nat} {live:List Nat} {v:PV} (h:∀ (w:World) (C:Cx) (vs:List Value),E.T w -> vs.length = args.length -> (∀ (j:Nat) (x:PV) (y:Value),args[j]? = some x -> vs[j]? = some y -> RpV C w x y) ->
  Calls E.P f vs.toArray w fun e w' => ∃ u,e = .returned u /\ Below w.heap.size w w' /\ ∀ (C:Cx) w',RpV C w' v u):FnG E f args bx nt live (fun x b n l => x = v /\ b = bx /\ n = nt /\ l = live):=by
 intro C w vs hI hnt hold hn2 hl hv;refine (h w C vs hI.t hl hv).mono ?_;rintro e w' ⟨u,rfl,hb,hu⟩;have blk:∀ k,k < w.heap.size -> w'.heap[k]? = w.heap[k]?:=hb.block;have hF:Fix C w w':=.of (fun b o hF => World.cell?_of_block (a:=⟨b,o,none⟩) (blk b (hI.fin b o hF))) blk;refine ⟨u,v,bx,nt,live,C,rfl,⟨rfl,rfl,rfl,rfl⟩,?_,hnt,?_,hu C w'⟩
 ·refine ⟨hI.nb,fun q cs hq => ?_,hI.boxF,hI.boxG,hI.inj,fun t ht => ?_,hI.tinj,fun b o h => Nat.lt_of_lt_of_le (hI.fin b o h) hb.size,Nat.le_trans hI.ng hb.size,E.low w w' hI.t hb.size (fun k hk => blk k (Nat.lt_of_lt_of_le hk hI.ng))⟩
  ·obtain ⟨vs,e,h1,h2⟩:=hI.box q cs hq
   exact ⟨vs,e,by rw [blk _ (zak h1)]; exact h1,h2.frame (CxLe.refl C) hF⟩
  ·obtain ⟨a,b,c⟩:=hI.tok t ht
   exact ⟨a,b,c.imp id fun ⟨b,cur,e,k1,k2,k3,rest⟩ => ⟨b,cur,e,k1,k2,by rw [blk _ (zak k3)]; exact k3,rest⟩⟩
 ·exact ⟨hb.os,hb.tape,hb.output,hb.size,fun _ _ h => h,hF,fun k hk _ _ => blk k hk,⟨lR,fun _ _ => rfl⟩,fun _ _ h => .inl h,(fun t b ht hb => .inr ⟨t,by rw [hold]; exact ht,hb⟩),(fun q hq hq2 => by have h1:=hI.nb; omega),⟨lR,fun _ _ => ⟨rfl,rfl,rfl,rfl⟩⟩⟩
theorem clone_o (ks:List (L8)) (hl:ks.length <= 4294967290):FnO (env T hT) 47 [.d (pSs ks)] (.d (pSs ks)):=by
 refine FnO.oldR (te:=9) ?_;intro w C vs hF hng hT hl2 hv
 match vs,hl2 with
 | [v],_ => exact (cloneS_any ks v w (zbZ (hv 0 _ _ rfl rfl)) hl).mono fun e w' h => h
theorem clone_nil (bx:LP PC) (nt:Nat) (live:List Nat):FnG (env T hT) 47 [.d (.sl 1 [])] bx nt live (fun x b n l => x = .d (.sl 1 []) /\ b = bx /\ n = nt /\ l = live):=by
 refine FnG.oldSame fun w C vs ht hlen hv => ?_
 match vs,hlen with
 | [x],_ =>
  have h0:=hv 0 _ _ rfl rfl
  cases h0 with
  | d _ _ h0 =>
  cases h0 with
  | own _ _ _ _ h2 _ _ _ _ _ _ _ => omega
  | nilo _ h2 _ _ => omega
  | nil =>
  refine (show Calls Tryz.prog 47 #[.slice none 0 0] w fun e w' => e = .returned (.slice none 0 0) /\ w' = w from ?_).mono ?_
  ·go_enter Tryz.func47,Tryz.ntmps47
   have q24:∀ (w:World) (a:Option Addr) (n c:Nat),(binOp .eql 24 (.slice a n c) (.slice none 0 0)).run Tryz.prog w = .ok (.bool a.isNone) w:=fun w a n c => Lib.run_eql_slice_nil w _ _ a n c 0 0 Tryz.underlying24
   go_wp2;go_ret;exact ⟨rfl,rfl⟩
  ·rintro e w' ⟨rfl,rfl⟩
   exact ⟨_,rfl,Below.refl _ _,fun C w' => .d _ _ .nil⟩
theorem er_sv {c:PC} {x:Value} (h:c.er = .v x):c = .v x:=by
 cases c <;> simp [PC.er] at h
 exact congrArg PC.v h
theorem rows_pS:∀ {rows:LP PC} {ks:List (L8)},erLL rows = pSr ks -> rows = pSr ks
 | [],[],_ => rfl
 | [],k :: ks,h => by simp [erLL,pSr] at h
 | r :: rows,[],h => by simp [erLL,pSr] at h
 | r :: rows,k :: ks,h => by
  simp only [erLL,pSr,map_cons,cons.injEq] at h;obtain ⟨h1,h2⟩:=h
  have:=rows_pS (ks:=ks) h2
  match r,h1 with
  | [],h1 => simp [erL] at h1
  | _ :: _ :: _,h1 => simp [erL] at h1
  | [c],h1 =>
   simp only [erL,cons.injEq,and_true] at h1;rw [er_sv (x:=sV k) h1,this]; rfl
section
variable {K:St -> Prop} {tm:Nat -> PV} {bx:LP PC} {nt d k:Nat} {live:List Nat} {r:List MOpr} {xs ys:List X}
theorem po_clone {ks:List (L8)} {ts:Nat} (hd:xs.map (ev tm) = [.d (.sl ts (pSr ks))]) (hts:ks = [] -> ts = 1) (hl:ks.length <= 4294967290)
  (h:∀ t nt' live',(t = 1 \/ nt <= t /\ t ∈ live') -> (∀ u ∈ live,u ∈ live') -> nt <= nt' -> t < nt' -> po (env T hT) r K ⟨up d (.d (.sl t (pSr ks))) tm,bx,nt',live'⟩) (hn:2 <= nt):po (env T hT) (⟨some d,.call 47 xs,none,.f k :: ys⟩ :: r) K ⟨tm,bx,nt,live⟩:=by
 by_cases h0:ks = []
 ·subst h0
  obtain rfl:=hts rfl
  refine po_gk hd (clone_nil bx nt live) ?_ ?_
  ·rintro x b n l ⟨rfl,rfl,rfl,rfl⟩ y _
   exact zbp _ _ _
  ·rintro x b n l ⟨rfl,rfl,rfl,rfl⟩
   exact h 1 n l (.inl rfl) (fun u hu => hu) lR (by omega)
 refine po_own (args:=[.d (pSs ks)]) (by rw [hd]; exact congrArg (fun r => some [PV.d (.sl 0 r)]) (zaR ks)) (clone_o ks hl) ?_;rintro (c | cs | _ | _ | _ | _) nt2 hx hnd hmem hnt2 hown <;> try exact hown.elim
 ·simp only [PV.dat,sI,PV.d.injEq] at hx
  cases c <;> simp [PC.er,pSs] at hx
  rename_i t rows
  obtain rfl:=rows_pS hx
  have hne:pSr ks ≠ []:=fun e => h0 (length_eq_zero_iff.1 (by rw [<- zaE,e]; rfl))
  by_cases h1:t = 1
  ·subst h1
   refine h 1 nt2 _ (.inl rfl) (fun u hu => mem_append.2 (.inr hu)) (by omega) (by omega)
  ·have h2:2 <= t:=by
    rcases Nat.lt_or_ge t 2 with h | h
    ·have:t = 0:=by omega
     subst this
     have:PC.owned (.sl 0 (pSr ks)) = true:=hown
     simp [PC.owned,hne] at this
    ·exact h
   have htk:t ∈ PV.toks (.d (.sl t (pSr ks))):=by
    show t ∈ PC.toks (.sl t (pSr ks));rw [zaV h2]; exact mem_cons_self ..
   have hm:=hmem t htk;exact h t nt2 _ (.inr ⟨hm.1,mem_append.2 (.inl htk)⟩) (fun u hu => mem_append.2 (.inr hu)) (by omega) hm.2
 ·simp [PV.dat,pSs] at hx
end
end
section
theorem NR.appE {nt n q:Nat} {live l:List Nat} (h2:2 <= nt) (h:NR nt live n l [.sl q []]) (hq:2 <= q):NR nt live (n + 1) (n :: l.filter (· != q)) [.sl n []]:=by
 have:=NR.app (a:=[]) (b:=[]) (rows:=[]) (ds:=[]) h2 (.inr hq) (by simpa using h)
 simpa using this
theorem sl_tokA {q:Nat} {es:LP PC} (h:2 <= q):q ∈ toksL [PC.sl q es]:=by
 simp only [toksL,zaV h,append_nil]; exact mem_cons_self ..
end
section
theorem V.bulk_get {ls:List V} {m:Nat} (h:ls.length + V.bulks ls <= m) (k:Nat) (hk:k < ls.length):ls[k].bulk <= m:=by
 have h1:=V.bulks_snoc ls k hk; have h2:=V.bulks_take ls (k + 1); omega
theorem V.ne_mk {k m e k' m' e':Int} {s s':L8} {kids kids':List V} (h:¬ (k = k' /\ m = m' /\ e = e' /\ s = s' /\ kids = kids')) :
  decide (V.mk k m e s kids = V.mk k' m' e' s' kids') = false:=decide_eq_false (by simpa using h)
end
section
end
end Go.Proofs.YtanjncmokckjiaaGreatDoor
/- What JSON holds of a value. No program in sight. -/
namespace Go.Proofs.YtanjncmokckjiaaGreatDoor
open Go.RowKit
end Go.Proofs.YtanjncmokckjiaaGreatDoor
/- What JSON holds of a right value: sizes and steps. No program in sight. -/
namespace Go.Proofs.YtanjncmokckjiaaGreatDoor
open Go.RowKit
open Go.Lib (validD)
end Go.Proofs.YtanjncmokckjiaaGreatDoor
/- What JSON holds of any value. No program in sight. -/
namespace Go.Proofs.YtanjncmokckjiaaGreatDoor
open Go.RowKit
end Go.Proofs.YtanjncmokckjiaaGreatDoor
/- How big what JSON holds of a value is. No program in sight. -/
namespace Go.Proofs.YtanjncmokckjiaaGreatDoor
open Go.RowKit
end Go.Proofs.YtanjncmokckjiaaGreatDoor
namespace Go.Proofs.YtanjncmokckjiaaGreatDoor
open Go.RowKit
set_option maxHeartbeats 4000000
set_option maxRecDepth 100000
open List
section
theorem V.wf_kid {v:V} (h:v.wf) (i:Nat) (hi:i < v.kids.length):v.kids[i].wf:=by
 obtain ⟨k,n,e,s,kids⟩:=v;exact V.wfs_get h.2.2.2.2.2 i hi
theorem V.nodes_kid {v:V} {n:Nat} (h:v.nodes <= n + 1) (i:Nat) (hi:i < v.kids.length):v.kids[i].nodes <= n:=by
 obtain ⟨k,m,e,s,kids⟩:=v;have hi':i < kids.length:=hi
 have:=V.nodes_get kids i hi'
 simp only [V.nodes] at h;show kids[i].nodes <= n; omega
end
section
theorem er_sl {c:PC} {x:LP PC} (h:c.er = .sl 0 x):∃ t rows,c = .sl t rows /\ erLL rows = x:=by
 cases c <;> simp [PC.er] at h
 exact ⟨_,_,rfl,h⟩
theorem vform {cs:List PC} {v:V} (he:erL cs = vC v):∃ (t:Nat) (rows:LP PC),cs = vcs v.kind v.num v.exp v.text t rows /\ erLL rows = vK v.kids:=by
 have hl:=zaY he
 match cs,hl with
 | [a,b,c,d,e],_ =>
  simp only [erL,vC,cons.injEq,and_true] at he;obtain ⟨h1,h2,h3,h4,h5⟩:=he;obtain ⟨t,rows,rfl,h6⟩:=er_sl h5;refine ⟨t,rows,?_,h6⟩;rw [er_v h1,er_v h2,er_v h3,er_v h4]; rfl
theorem vlw_aux:∀ (N:Nat) (v:V),v.nodes <= N -> ∀ (cs:List PC),erL cs = vC v -> lwL 0 cs:=by
 intro N
 induction N with
 | zero => intro v hv; have:=v.nodes_pos; omega
 | succ N ih =>
  intro v hv cs he;obtain ⟨t,rows,rfl,hr⟩:=vform he
  have:∀ (ls:List V) (rs:LP PC),(∀ x ∈ ls,x.nodes <= N) -> erLL rs = vK ls -> lwLL 0 rs:=by
   intro ls
   induction ls with
   | nil => intro rs _ h; match rs,h with | [],_ => simp only [lwLL]
   | cons x ls ih2 =>
    intro rs hx h
    match rs,h with
    | r :: rs,h =>
     simp only [erLL,vK,map_cons,cons.injEq] at h;simp only [lwLL];exact ⟨ih x (hx x (by simp)) r (by rw [h.1,V.pc_eq]),ih2 rs (fun y hy => hx y (by simp [hy])) h.2⟩
  have h2:=this v.kids rows (fun x hx => by
   obtain ⟨i,hi,rfl⟩:=List.getElem_of_mem hx;exact V.nodes_kid hv i hi) hr
  simp only [vcs,lwL,PC.lw,pI,pS,and_true,true_and];exact h2
theorem vlw {v:V} {cs:List PC} (h:erL cs = vC v):lwL 0 cs:=vlw_aux v.nodes v lR cs h
end
section
def stepOf (v:V) (i:Nat):Option (L8) :=
 if v.kind = 9 then some [116,97,103]
 else if v.kind = 8 then (if i % 2 = 0 then none else match v.kids[i - 1]? with
  | some k => if k.kind = 5 then some k.text else none
  | none => none)
 else some (Lib.itoa i)
def pthG (f:V -> List (L8) -> List (L8)) (v:V) (st:List (L8)) (i:Nat):List (L8):=match stepOf v i,v.kids[i]? with
 | some s,some k => f k (st ++ [s])
 | _,_ => []
def pthS:Nat -> V -> List (L8) -> List (L8)
 | 0,_,_ => []
 | n + 1,v,st => putPath st :: ((range v.kids.length).map (pthG (pthS n) v st)).flatten
theorem zb0 {α:Type} (g:Nat -> List α) (i:Nat):((range (i + 1)).map g).flatten = ((range i).map g).flatten ++ g i:=by
 rw [List.range_succ,map_append,flatten_append]; simp
theorem zdp {ks:List V} {i:Nat} (h:i < ks.length):V.nodess (ks.take (i + 1)) = V.nodess (ks.take i) + ks[i].nodes:=by
 have app:∀ a b:List V,V.nodess (a ++ b) = V.nodess a + V.nodess b:=by
  intro a b
  induction a with
  | nil => simp [V.nodess]
  | cons x a ih => simp only [cons_append,V.nodess,ih]; omega
 rw [take_succ_eq_append_getElem h,app]; simp [V.nodess]
theorem zcz {n:Nat} (ih:∀ v st,(pthS n v st).length <= v.nodes) (v:V) (st:List (L8)):∀ i,i <= v.kids.length -> (((range i).map (pthG (pthS n) v st)).flatten).length <= V.nodess (v.kids.take i)
 | 0,_ => Nat.zero_le _
 | i + 1,h => by
  have h1:=zcz ih v st i (by omega);have hi:i < v.kids.length:=by omega
  rw [zb0,length_append,zdp hi]
  have h2:(pthG (pthS n) v st i).length <= v.kids[i].nodes:=by
   unfold pthG;rw [getElem?_eq_getElem hi]
   cases stepOf v i with
   | none => exact Nat.zero_le _
   | some s => exact ih _ _
  omega
theorem zb1:∀ (n:Nat) (v:V) (st:List (L8)),(pthS n v st).length <= v.nodes
 | 0,v,_ => Nat.zero_le _
 | n + 1,v,st => by
  have h:=zcz (zb1 n) v st v.kids.length lR;rw [take_length] at h;rw [pthS,length_cons];obtain ⟨k,m,e,s,kids⟩:=v;simp only [V.nodes,V.kids] at h ⊢; omega
end
section
variable {T:World -> Prop} {hT:Low ngl T}
theorem decT_fn (n:Int) (hn:i64ok n):FnV (env T hT) 49 [.d (pI n)] (.d (pS (Lib.itoa n))):=by
 refine FnV.old rfl fun w C vs hF _ _ hlen hv => ?_
 match vs,hlen with
 | [x],_ =>
  have h1:=zc2 (hv 0 _ _ rfl rfl);subst h1;exact zes n w hn
theorem decTI_fn (hTen:∀ w,T w -> TenTab w) (n:Int) (hn:i64ok n):FnV (env T hT) 46 [.d (pI n)] (.d (pS (Lib.itoa n))):=by
 refine FnV.old rfl fun w C vs hF _ ht hlen hv => ?_
 match vs,hlen with
 | [x],_ =>
  have h1:=zc2 (hv 0 _ _ rfl rfl);subst h1;exact zet n w hn (hTen w ht)
end
section
variable {T:World -> Prop} {hT:Low ngl T}
attribute [local irreducible] po mw pt
theorem zdR (a:List (L8)) (s:L8):pSr (a ++ [s]) = pSr a ++ [[pS s]]:=by simp [pSr]
theorem pSr_app (a b:List (L8)):pSr (a ++ b) = pSr a ++ pSr b:=by simp [pSr]
theorem kids_lt (v:V):v.kids.length < v.nodes:=by
 have key:∀ l:List V,l.length <= V.nodess l:=by
  intro l
  induction l with
  | nil => exact Nat.zero_le _
  | cons x l ih => have:=x.nodes_pos; simp only [length_cons,V.nodess]; omega
 obtain ⟨k,m,e,s,kids⟩:=v
 have:=key kids
 simp only [V.kids,V.nodes]; omega
theorem zc3:∀ (l:List V) (i:Nat),V.nodess (l.take i) <= V.nodess l
 | [],i => by rw [List.take_nil]; exact lR
 | x :: l,0 => Nat.zero_le _
 | x :: l,i + 1 => by have:=zc3 l i; simp only [take_succ_cons,V.nodess]; omega
def P8I (n:Nat) (v:V) (st:List (L8)) (m:Nat) (s:St):Prop :=
 ∃ (i q:Nat) (out:List (L8)),i <= v.kids.length /\ m = v.kids.length - i /\ has s.tm [(1,.d (pSs st)),(2,.ref 0 0),(5,.d (.sl q (pSr out))),(6,.d (pI i))] /\ s.bx = [vC v] /\ q ∈ s.live /\ q < s.nt /\ out = putPath st :: ((range i).map (pthG (pthS n) v st)).flatten
theorem l08_fn {P:V -> Prop} (hP:∀ v,P v -> v.text.length <= 100000 /\ ∀ k ∈ v.kids,P k):∀ (n:Nat) (v:V) (st:List (L8)),v.nodes <= n -> n <= 1000000 -> P v -> st.length + n <= 2000000 -> (∀ s ∈ st,s.length <= 100000) ->
  FnV (env T hT) 31 [.ag (vC v),.d (pSs st)] (.d (pSs (pthS n v st))):=by
 intro n
 induction n with
 | zero => intro v st h; have:=v.nodes_pos; omega
 | succ n ih =>
 intro v st hn hn1 hPv hsl hst;obtain ⟨hvt,hvk⟩:=hP v hPv
 have hkl:v.kids.length <= n:=by
  have:=kids_lt v; omega
 refine zbw (zag zdP) (by show 2 <= 61; decide) fun B hB => ?_
 unfold m_s_l08Paths;refine mO ?_;refine zby (cs:=vC v) rfl ?_;refine mN ?_;refine mQ ?_;refine zao (args:=[.d (pSs st)]) (congrArg (fun r => some [PV.d (.sl 0 r)]) (zaR st)) (zcy (T:=T) (hT:=hT) st (by omega) (fun k hk => by have:=hst k hk; omega)) ?_;refine zaz (es:=[[pS (putPath st)]]) rfl ?_;refine mN ?_;refine zax (fun s => ∃ (q:Nat),has s.tm [(5,.d (.sl q (pSr (pthS (n + 1) v st))))]) ?_ ?_
 ·refine mP ?_
  refine zab ?_;refine zaA (P8I n v st) v.kids.length ⟨0,2,[putPath st],Nat.zero_le _,rfl,⟨rfl,rfl,rfl,rfl,trivial⟩,rfl,mem_singleton.2 rfl,Nat.lt_succ_self 2,rfl⟩ ?_;rintro m tm bx nt live ⟨i,q,out,hi,rfl,ht,hbx,hql,hqn,ho⟩;obtain ⟨tm1,rfl⟩:=zaf ht;simp only at hbx hql hqn; subst hbx
  clear ht;refine mM ?_;(iterate 3 refine mS ?_);refine zaK (n:=v.kids.length) rfl rfl (zdk _) ?_;refine po_b rfl rfl (fun p hp => ?_);refine zai ?_;refine zbM (p:=(i:Int) < v.kids.length) hp rfl (fun him _ => ?_) (fun him _ => ?_)
  rotate_left
  ·refine zay ?_
   obtain rfl:i = v.kids.length:=by omega
   exact ⟨q,by show PV.d (.sl q (pSr out)) = _; rw [ho]; rfl,trivial⟩
  have hil:i < v.kids.length:=by omega
  refine zam ?_;refine zav (zab (zav (zae ?_)));refine mS ?_;refine zao (args:=[.d (pI i)]) rfl (decT_fn (T:=T) (hT:=hT) (i:Int) (by unfold i64ok; omega)) ?_;refine mN ?_;refine zax (fun s => has s.tm [(1,.d (pSs st)),(2,.ref 0 0),(5,.d (.sl q (pSr out))),(6,.d (pI i)),(7,.d (pS (if v.kind = 9 then [116,97,103] else Lib.itoa i)))] /\ s.bx = [vC v] /\ s.nt = nt /\ s.live = live) ?_ ?_
  ·refine mO ?_
   (iterate 2 refine mS ?_);by_cases h9:v.kind = 9
   ·refine zah rfl rfl (beq_iff_eq.2 h9) ?_
    refine mT ?_;refine zae ?_;refine mN ?_;rw [if_pos h9];exact ⟨⟨rfl,rfl,rfl,rfl,rfl,trivial⟩,rfl,rfl,rfl⟩
   ·refine zaq rfl rfl (beq_eq_false_iff_ne.2 h9) ?_
    refine mK ?_;rw [if_neg h9];exact ⟨⟨rfl,rfl,rfl,rfl,rfl,trivial⟩,rfl,rfl,rfl⟩
  rintro tm bx nt1 live1 ⟨ht,hbx,rfl,rfl⟩;obtain ⟨tm2,rfl⟩:=zaf ht;simp only at hbx; subst hbx
  clear ht;refine zax (fun s => ∃ sp:L8,stepOf v i = some sp /\ sp.length <= 100000 /\ has s.tm [(1,.d (pSs st)),(2,.ref 0 0),(5,.d (.sl q (pSr out))),(6,.d (pI i)),(7,.d (pS sp))] /\ s.bx = [vC v] /\ s.nt = nt1 /\ s.live = live1) ?_ ?_
  ·refine mO ?_
   (iterate 2 refine mS ?_);by_cases h8:v.kind = 8
   ·refine zah rfl rfl (beq_iff_eq.2 h8) ?_
    refine mT ?_;refine mM ?_;refine mS ?_;refine po_rem (n:=((i % 2:Nat):Int)) rfl rfl rfl (by decide) (by rw [Int.tmod_eq_emod_of_nonneg (by omega)]; omega) ?_
    have hnone:∀ h:stepOf v i = none,out = putPath st :: ((range (i + 1)).map (pthG (pthS n) v st)).flatten:=fun h => by
     rw [ho,zb0]
     have:pthG (pthS n) v st i = []:=by unfold pthG; rw [h]
     rw [this,append_nil]
    by_cases hev:i % 2 = 0
    ·refine zah rfl rfl (beq_iff_eq.2 (by omega)) ?_
     refine mS ?_;refine mZ ?_;refine mT ?_;refine zay ?_;refine zae ?_;refine mS ?_;refine zan (n:=((i + 1:Nat):Int)) rfl rfl rfl (by omega) (by omega) ?_;refine mN ?_;exact ⟨v.kids.length - (i + 1),by omega,i + 1,q,out,hil,rfl,⟨rfl,rfl,rfl,rfl,trivial⟩,rfl,hql,hqn,hnone (by unfold stepOf; rw [if_neg (by omega),if_pos h8,if_pos hev])⟩
    have hi1:i - 1 < v.kids.length:=by omega
    refine zaq rfl rfl (beq_eq_false_iff_ne.2 (by omega)) ?_;(iterate 4 refine mS ?_);refine zbA (n:=((i - 1:Nat):Int)) rfl rfl rfl (by omega) (by omega) ?_;refine za9 (es:=vK v.kids) (e:=vC v.kids[i - 1]) rfl rfl rfl ⟨by omega,by rw [Int.toNat_natCast]; exact zbT hi1⟩ rfl ?_;(iterate 2 refine mS ?_)
    have hso:stepOf v i = if v.kids[i - 1].kind = 5 then some v.kids[i - 1].text else none:=by
     unfold stepOf; rw [if_neg (by omega),if_pos h8,if_neg hev,getElem?_eq_getElem hi1]
    by_cases h5:v.kids[i - 1].kind = 5
    ·refine zaq rfl rfl (by rw [h5]; rfl) ?_
     refine mK ?_;refine zae ?_;(iterate 3 refine mS ?_);refine zbA (n:=((i - 1:Nat):Int)) rfl rfl rfl (by omega) (by omega) ?_;refine za9 (es:=vK v.kids) (e:=vC v.kids[i - 1]) rfl rfl rfl ⟨by omega,by rw [Int.toNat_natCast]; exact zbT hi1⟩ rfl ?_;refine mN ?_;exact ⟨v.kids[i - 1].text,by rw [hso,if_pos h5],(hP _ (hvk _ (getElem_mem hi1))).1,⟨rfl,rfl,rfl,rfl,rfl,trivial⟩,rfl,rfl,rfl⟩
    ·refine zah rfl rfl (by simp [bne,h5]) ?_
     refine mT ?_;refine zay ?_;refine zae ?_;refine mS ?_;refine zan (n:=((i + 1:Nat):Int)) rfl rfl rfl (by omega) (by omega) ?_;refine mN ?_;exact ⟨v.kids.length - (i + 1),by omega,i + 1,q,out,hil,rfl,⟨rfl,rfl,rfl,rfl,trivial⟩,rfl,hql,hqn,hnone (by rw [hso,if_neg h5])⟩
   ·refine zaq rfl rfl (beq_eq_false_iff_ne.2 h8) ?_
    refine mK ?_;refine ⟨_,?_,?_,⟨rfl,rfl,rfl,rfl,rfl,trivial⟩,rfl,rfl,rfl⟩
    ·unfold stepOf
     by_cases h9:v.kind = 9
     ·rw [if_pos h9,if_pos h9]
     ·rw [if_neg h9,if_neg h8,if_neg h9]
    ·split
     ·exact Nat.le_of_ble_eq_true rfl
     ·have:=Lib.itoa_length_le (i:Int) (by omega) (by omega); omega
  rintro tm bx nt2 live2 ⟨sp,hsp,hspl,ht,hbx,rfl,rfl⟩;obtain ⟨tm3,rfl⟩:=zaf ht;simp only at hbx; subst hbx
  clear ht;have hkn:=V.nodes_get v.kids i hil;have hvn:v.nodes = 1 + V.nodess v.kids:=by cases v; rfl
  have hol:out.length <= 1 + V.nodess v.kids:=by
   have h1:=zcz (zb1 n) v st i hi;have h2:=zc3 v.kids i;rw [ho,length_cons]; omega
  have hpl:=zb1 n v.kids[i] (st ++ [sp]);refine zae ?_;(iterate 4 refine mS ?_);refine za9 (es:=vK v.kids) (e:=vC v.kids[i]) rfl rfl rfl ⟨by omega,by rw [Int.toNat_natCast]; exact zbT hil⟩ rfl ?_;(iterate 3 refine mS ?_);refine zcZ (es:=[[pS sp]]) rfl ?_;refine zaz (es:=[]) rfl ?_;refine za1 (t:=nt2) (t':=0) (es:=[]) (ds:=pSr st) rfl rfl (.inr (mem_cons_self ..)) (by rw [zaE]; simp only [length_nil]; omega) (zbI st) (fun e he => by cases he) ?_;refine za1 (t:=nt2 + 1) (t':=0) (es:=[] ++ pSr st) (ds:=[[pS sp]]) rfl rfl (.inr (mem_cons_self ..)) (by rw [nil_append,zaE]; simp only [length_singleton]; omega) (fun e he => by rw [mem_singleton] at he; subst he; rfl) (fun e he => by rw [nil_append] at he; exact zbI st e he) ?_
  refine zao (args:=[.ag (vC v.kids[i]),.d (pSs (st ++ [sp]))]) (by
   show some [PV.ag (erL (vC v.kids[i])),PV.d (.sl 0 (erLL ([] ++ pSr st ++ [[pS sp]])))] = _
   rw [zcr,nil_append,<- zdR,zaR]; rfl) (ih v.kids[i] (st ++ [sp]) (by omega) (by omega) (hvk _ (getElem_mem hil)) (by rw [length_append,length_singleton]; omega) (fun s hs => by
    rcases mem_append.1 hs with hs | hs
    ·exact hst s hs
    ·rw [mem_singleton] at hs; subst hs; exact hspl)) ?_
  have hqm:q ∈ (nt2 + 1 + 1) :: filter (fun x => x != nt2 + 1) ((nt2 + 1) :: filter (fun x => x != nt2) (nt2 :: live2)):=by
   have hqn2:q < nt2:=hqn;have hql2:q ∈ live2:=hql;have h1:q ≠ nt2:=by omega
   have h2:q ≠ nt2 + 1:=by omega
   simp [h1,h2,hql2]
  refine za1 (t:=q) (t':=0) (es:=pSr out) (ds:=pSr (pthS n v.kids[i] (st ++ [sp]))) rfl rfl (.inr hqm) (by rw [zaE,zaE]; omega) (zbI _) (zbI _) ?_;refine mN ?_;refine zae ?_;refine mS ?_;refine zan (n:=((i + 1:Nat):Int)) rfl rfl rfl (by omega) (by omega) ?_;refine mN ?_;refine ⟨v.kids.length - (i + 1),by omega,i + 1,nt2 + 1 + 1 + 1,out ++ pthS n v.kids[i] (st ++ [sp]),hil,rfl,⟨rfl,rfl,?_,rfl,trivial⟩,rfl,mem_cons_self ..,Nat.lt_succ_self _,?_⟩
  ·show PV.d (.sl (nt2 + 1 + 1 + 1) (pSr out ++ pSr (pthS n v.kids[i] (st ++ [sp])))) = _
   rw [pSr_app]
  ·rw [ho,zb0]
   have:pthG (pthS n) v st i = pthS n v.kids[i] (st ++ [sp]):=by unfold pthG; rw [hsp,getElem?_eq_getElem hil]
   rw [this]; rfl
 rintro tm bx nt live ⟨q,ht⟩;obtain ⟨tm1,rfl⟩:=zaf ht;refine mP ?_;exact zad ⟨.inr rfl,[.d (.sl q (pSr (pthS (n + 1) v st)))],rfl,congrArg (fun r => some (PV.d (.sl 0 r))) (zaR _)⟩
theorem setLast {α:Type} (l:List α) (a b:α):(l ++ [a]).set l.length b = l ++ [b]:=by
 rw [set_append_right _ _ lR,Nat.sub_self]; rfl
theorem zey (ss:List (L8)) (q:Nat):PC.lw 0 (.sl q (pSr ss)):=ownedLL_lw (pSr_own ss)
def PfI (v:V) (n:Nat) (st:List (L8)) (ts:Nat) (out:List (L8)) (m:Nat) (s:St):Prop :=
 ∃ (i q:Nat) (o:List (L8)) (rest:LP PC),i <= v.kids.length /\ m = v.kids.length - i /\ has s.tm [(1,.d (.sl ts (pSr st))),(2,.d (.sl q (pSr o))),(3,.ref 0 0),(16,.d (.sl 0 (vK v.kids))),(17,.d (pI v.kids.length)),(18,.d (pI i))] /\ s.bx = vC v :: rest /\ 2 <= q /\ q ∈ s.live /\ q < s.nt /\ o = out ++ putPath st :: ((range i).map (pthG (pthS n) v st)).flatten
theorem ze8 (hTP:∀ w,T w -> TP w) {P:V -> Prop} (hP:∀ v,P v -> v.text.length <= 100000 /\ (v.kids ≠ [] -> v.kind = 7 \/ v.kind = 8 \/ v.kind = 9) /\ ∀ k ∈ v.kids,P k):∀ (n:Nat) (v:V) (st:List (L8)) (ts:Nat) (out:List (L8)) (t nt:Nat) (live:List Nat),v.nodes <= n -> n <= 1000000 -> P v -> st.length + n <= 2000000 -> (∀ s ∈ st,s.length <= 100000) -> out.length + v.nodes <= 2000000 -> (st = [] -> ts = 1) -> (t = 1 \/ t ∈ live) -> 2 <= nt ->
  FnG (env T hT) 29 [.ag (vC v),.d (.sl ts (pSr st)),.d (.sl t (pSr out))] [] nt live (fun x _ n' l => x.lw 0 /\ ∃ q,x = .d (.sl q (pSr (out ++ pthS n v st))) /\ q ∈ l /\ 2 <= q /\ q < n'):=by
 intro n
 induction n with
 | zero => intro v st ts out t nt live h; have:=v.nodes_pos; omega
 | succ n ih =>
 intro v st ts out t nt live hn hn1 hPv hsl hst hol hts ht h2;obtain ⟨hvt,hvf,hvk⟩:=hP v hPv
 have hkl:v.kids.length <= n:=by
  have:=kids_lt v; omega
 refine zaO (zag zdf) (by show 3 <= 61; decide) fun B hB => ?_
 unfold m_i_pathsFrom;refine mO ?_;refine zby (cs:=vC v) rfl ?_;refine mN ?_;refine mO ?_;(iterate 2 refine mS ?_);refine zao (args:=[.d (pSs st)]) (congrArg (fun r => some [PV.d (.sl 0 r)]) (zaR st)) (ze7 (T:=T) (hT:=hT) hTP st (by omega) (fun k hk => by have:=hst k hk; omega)) ?_;refine zaz (es:=[[pS (putPath st)]]) rfl ?_;have hvn:=v.nodes_pos;refine za1 (t:=t) (t':=nt) (es:=pSr out) (ds:=[[pS (putPath st)]]) rfl rfl (ht.imp id (mem_cons_of_mem _)) (by rw [zaE]; simp only [length_singleton]; omega) (fun e he => by rw [mem_singleton] at he; subst he; rfl) (zbI out) ?_;rw [<- zdR];refine mN ?_;refine zax (fun s => ∃ (q:Nat),has s.tm [(2,.d (.sl q (pSr (out ++ pthS (n + 1) v st))))] /\ q ∈ s.live /\ 2 <= q /\ q < s.nt) ?_ ?_
 ·refine mO ?_
  (iterate 2 refine mS ?_);refine zaK (n:=v.kids.length) rfl rfl (zdk _) ?_;refine mN ?_;refine zab ?_;refine zaA (PfI v n st ts out) v.kids.length ⟨0,nt + 1,out ++ [putPath st],[],Nat.zero_le _,rfl,⟨rfl,rfl,rfl,rfl,rfl,rfl,trivial⟩,rfl,by omega,mem_cons_self ..,Nat.lt_succ_self _,rfl⟩ ?_;clear ht;rintro m tm bx nt live ⟨i,q,o,rest,hi,rfl,ht,hbx,hq2,hql,hqn,ho⟩;obtain ⟨tm1,rfl⟩:=zaf ht;simp only at hbx hql hqn; subst hbx
  clear ht;refine mO ?_;refine po_b rfl rfl (fun p hp => ?_);refine zai ?_;refine zav ?_;refine zbM (p:=(i:Int) < v.kids.length) hp rfl (fun him _ => ?_) (fun him _ => ?_)
  rotate_left
  ·refine zay ?_
   obtain rfl:i = v.kids.length:=by omega
   exact ⟨q,⟨by show PV.d (.sl q (pSr o)) = _; rw [ho]; rfl,trivial⟩,hql,hq2,hqn⟩
  have hil:i < v.kids.length:=by omega
  refine zam ?_;refine zav (zab (zav (zae ?_)));refine mS ?_;refine za9 (es:=vK v.kids) (e:=vC v.kids[i]) rfl rfl rfl ⟨by omega,by rw [Int.toNat_natCast]; exact zbT hil⟩ rfl ?_;refine mS ?_;refine zbH ?_;refine mS ?_;refine zaC (cs:=vC v.kids[i]) (z:=[pI 0,pI 0,pI 0,pS [],.sl 1 []]) rfl rfl (zb9 _ _) rfl rfl rfl ?_;refine zai ?_;rw [setLast];refine mP ?_;refine zax (fun s => ∃ sp:L8,stepOf v i = some sp /\ sp.length <= 100000 /\ has s.tm [(1,.d (.sl ts (pSr st))),(2,.d (.sl q (pSr o))),(3,.ref 0 0),(8,.ref (vC v :: rest).length 0),(9,.d (pS sp)),(16,.d (.sl 0 (vK v.kids))),(17,.d (pI v.kids.length)),(18,.d (pI i))] /\ s.bx = (vC v :: rest) ++ [vC v.kids[i]] /\ s.nt = nt /\ s.live = live) ?_ ?_
  ·refine mO ?_
   (iterate 2 refine mS ?_);refine zai ?_;refine zab ?_;refine mO ?_;by_cases h7:v.kind = 7
   ·refine zah rfl rfl (beq_iff_eq.2 h7) ?_
    refine mT ?_;refine zae ?_;refine mS ?_;refine zao (args:=[.d (pI i)]) rfl (decTI_fn (T:=T) (hT:=hT) (fun w hw => (hTP w hw).1.2.1) (i:Int) (by unfold i64ok; omega)) ?_;refine mN ?_;refine ⟨Lib.itoa i,?_,?_,⟨rfl,rfl,rfl,rfl,rfl,rfl,rfl,rfl,trivial⟩,rfl,rfl,rfl⟩
    ·unfold stepOf; rw [if_neg (by omega),if_neg (by omega)]
    ·have:=Lib.itoa_length_le (i:Int) (by omega) (by omega); omega
   refine zaq rfl rfl (beq_eq_false_iff_ne.2 h7) ?_;refine mF ?_;refine mO ?_;by_cases h8:v.kind = 8
   ·refine zah rfl rfl (beq_iff_eq.2 h8) ?_
    refine mT ?_;refine mM ?_;refine mS ?_;refine po_rem (n:=((i % 2:Nat):Int)) rfl rfl rfl (by decide) (by rw [Int.tmod_eq_emod_of_nonneg (by omega)]; omega) ?_
    have hnone:∀ h:stepOf v i = none,o = out ++ putPath st :: ((range (i + 1)).map (pthG (pthS n) v st)).flatten:=fun h => by
     rw [ho,zb0]
     have:pthG (pthS n) v st i = []:=by unfold pthG; rw [h]
     rw [this,append_nil]
    by_cases hev:i % 2 = 0
    ·refine zah rfl rfl (beq_iff_eq.2 (by omega)) ?_
     refine mS ?_;refine mZ ?_;refine mT ?_;refine zay ?_;refine zae ?_;refine zan (n:=((i + 1:Nat):Int)) rfl rfl rfl (by omega) (by omega) ?_;refine mN ?_;exact ⟨v.kids.length - (i + 1),by omega,i + 1,q,o,rest ++ [vC v.kids[i]],hil,rfl,⟨rfl,rfl,rfl,rfl,rfl,rfl,trivial⟩,rfl,hq2,hql,hqn,hnone (by unfold stepOf; rw [if_neg (by omega),if_pos h8,if_pos hev])⟩
    have hi1:i - 1 < v.kids.length:=by omega
    refine zaq rfl rfl (beq_eq_false_iff_ne.2 (by omega)) ?_;(iterate 4 refine mS ?_);refine zbA (n:=((i - 1:Nat):Int)) rfl rfl rfl (by omega) (by omega) ?_;refine za9 (es:=vK v.kids) (e:=vC v.kids[i - 1]) rfl rfl rfl ⟨by omega,by rw [Int.toNat_natCast]; exact zbT hi1⟩ rfl ?_;(iterate 2 refine mS ?_)
    have hso:stepOf v i = if v.kids[i - 1].kind = 5 then some v.kids[i - 1].text else none:=by
     unfold stepOf; rw [if_neg (by omega),if_pos h8,if_neg hev,getElem?_eq_getElem hi1]
    by_cases h5:v.kids[i - 1].kind = 5
    ·refine zaq rfl rfl (by rw [h5]; rfl) ?_
     refine mK ?_;refine zae ?_;(iterate 3 refine mS ?_);refine zbA (n:=((i - 1:Nat):Int)) rfl rfl rfl (by omega) (by omega) ?_;refine za9 (es:=vK v.kids) (e:=vC v.kids[i - 1]) rfl rfl rfl ⟨by omega,by rw [Int.toNat_natCast]; exact zbT hi1⟩ rfl ?_;refine mN ?_;exact ⟨v.kids[i - 1].text,by rw [hso,if_pos h5],(hP _ (hvk _ (getElem_mem hi1))).1,⟨rfl,rfl,rfl,rfl,rfl,rfl,rfl,rfl,trivial⟩,rfl,rfl,rfl⟩
    ·refine zah rfl rfl (by simp [bne,h5]) ?_
     refine mT ?_;refine zay ?_;refine zae ?_;refine zan (n:=((i + 1:Nat):Int)) rfl rfl rfl (by omega) (by omega) ?_;refine mN ?_;exact ⟨v.kids.length - (i + 1),by omega,i + 1,q,o,rest ++ [vC v.kids[i]],hil,rfl,⟨rfl,rfl,rfl,rfl,rfl,rfl,trivial⟩,rfl,hq2,hql,hqn,hnone (by rw [hso,if_neg h5])⟩
   ·refine zaq rfl rfl (beq_eq_false_iff_ne.2 h8) ?_
    refine mK ?_
    have h9:v.kind = 9:=by
     rcases hvf (fun e => by rw [e] at hil; exact absurd hil (Nat.not_lt_zero _)) with h | h | h
     ·exact absurd h h7
     ·exact absurd h h8
     ·exact h
    refine ⟨[116,97,103],?_,by decide,⟨rfl,rfl,rfl,rfl,rfl,rfl,rfl,rfl,trivial⟩,rfl,rfl,rfl⟩;unfold stepOf; rw [if_pos h9]
  rintro tm bx nt2 live2 ⟨sp,hsp,hspl,ht,hbx,rfl,rfl⟩;obtain ⟨tm3,rfl⟩:=zaf ht;simp only at hbx; subst hbx
  clear ht;have hqn:q < nt2:=hqn;have hql:q ∈ live2:=hql;have hkn:=V.nodes_get v.kids i hil;have hvn:v.nodes = 1 + V.nodess v.kids:=by cases v; rfl
  have hol2:o.length <= out.length + 1 + V.nodess (v.kids.take i):=by
   have h1:=zcz (zb1 n) v st i hi;rw [ho,length_append,length_cons]; omega
  have hone:=zdp hil;have htk:=zc3 v.kids (i + 1);refine zae ?_;refine zaN (cs:=vC v.kids[i]) rfl rfl (zb9 _ _) rfl ?_;(iterate 2 refine mS ?_);refine zcZ (es:=[[pS sp]]) rfl ?_;refine mS ?_;refine po_clone (ks:=st) (ts:=ts) rfl hts (by omega) (fun tc nt3 live3 htc hlv hnt3 htn3 => ?_) (by omega);refine za1 (t:=tc) (t':=0) (es:=pSr st) (ds:=[[pS sp]]) rfl rfl (htc.imp id And.right) (by rw [zaE]; simp only [length_singleton]; omega) (fun e he => by rw [mem_singleton] at he; subst he; rfl) (zbI st) ?_;rw [<- zdR]
  have hqm:q ∈ nt3 :: live3.filter (· != tc):=by
   refine mem_cons_of_mem _ (mem_filter.2 ⟨hlv q hql,?_⟩)
   rcases htc with rfl | ⟨h,_⟩
   ·simp; omega
   ·simp; omega
  refine po_g rfl (FnG.liftR (ih v.kids[i] (st ++ [sp]) nt3 o q (nt3 + 1) (nt3 :: live3.filter (· != tc)) (by omega) (by omega) (hvk _ (getElem_mem hil)) (by rw [length_append,length_singleton]; omega) (fun s hs => by
    rcases mem_append.1 hs with hs | hs
    ·exact hst s hs
    ·rw [mem_singleton] at hs; subst hs; exact hspl) (by omega) (fun h => by simp at h) (.inr hqm) (by omega)) ⟨vlw (zcr _),zey _ 0,zey _ 0,trivial⟩) ?_
  rintro x b n4 l4 ⟨x0,b0,rfl,rfl,hlw,q4,rfl,hq4,hq42,hq4n⟩;rw [show PV.shB (length ((vC v :: rest) ++ [vC v.kids[i]])) (.d (.sl q4 (pSr (o ++ pthS n v.kids[i] (st ++ [sp]))))) = .d (.sl q4 (pSr (o ++ pthS n v.kids[i] (st ++ [sp])))) from congrArg PV.d (shB_id hlw)];refine mN ?_;refine zae ?_;refine zan (n:=((i + 1:Nat):Int)) rfl rfl rfl (by omega) (by omega) ?_;refine mN ?_;refine ⟨v.kids.length - (i + 1),by omega,i + 1,q4,o ++ pthS n v.kids[i] (st ++ [sp]),_,hil,rfl,⟨rfl,rfl,rfl,rfl,rfl,rfl,trivial⟩,rfl,hq42,hq4,hq4n,?_⟩;rw [ho,zb0]
  have:pthG (pthS n) v st i = pthS n v.kids[i] (st ++ [sp]):=by unfold pthG; rw [hsp,getElem?_eq_getElem hil]
  rw [this,append_assoc]; rfl
 rintro tm bx nt live ⟨q,ht,hql,hq2,hqn⟩;obtain ⟨tm1,rfl⟩:=zaf ht;refine mP ?_;exact zad ⟨.inr rfl,[.d (.sl q (pSr (out ++ pthS (n + 1) v st)))],rfl,zey _ 0,q,rfl,hql,hq2,hqn⟩
end
section
/-! ### two bytes replaced by one -/
def rep2 (c d x:UInt8):L8 -> L8
 | b :: e :: l => if b = c /\ e = d then x :: rep2 c d x l else b :: rep2 c d x (e :: l)
 | l => l
theorem ze9 {c d x b:UInt8} (h:b ≠ c):∀ l:L8,rep2 c d x (b :: l) = b :: rep2 c d x l
 | [] => rfl
 | e :: l => by rw [rep2,if_neg (fun k => h k.1)]
theorem rep2_miss {c d x e:UInt8} (h:e ≠ d) (l:L8):rep2 c d x (c :: e :: l) = c :: rep2 c d x (e :: l):=by rw [rep2,if_neg (fun k => h k.2)]
theorem zdS {c d x:UInt8} (l:L8):rep2 c d x (c :: d :: l) = x :: rep2 c d x l:=by rw [rep2,if_pos ⟨rfl,rfl⟩]
theorem zce {old:L8} {b:UInt8} {l:L8} (h:old.isPrefixOf (b :: l) = false):Lib.index (b :: l) old = if Lib.index l old == -1 then -1 else Lib.index l old + 1:=by
 rw [Lib.index,h]; simp
theorem zb2 {old new:L8} {b:UInt8} {l:L8} (h:old.isPrefixOf (b :: l) = false):∀ k:Nat,Lib.replaceK old new k (b :: l) = b :: Lib.replaceK old new k l
 | 0 => rfl
 | k + 1 => by
  have hix:=zce h;by_cases hm:Lib.index l old = -1
  ·have h2:Lib.index (b :: l) old = -1:=by rw [hix,hm]; rfl
   rw [Lib.replaceK,Lib.replaceK,hm,h2]; rfl
  ·have hge:=Lib.index_ge l old
   obtain ⟨i,hi⟩:∃ i:Nat,Lib.index l old = i:=⟨(Lib.index l old).toNat,by omega⟩;have h2:Lib.index (b :: l) old = ((i + 1:Nat):Int):=by rw [hix,if_neg (fun e => hm (beq_iff_eq.1 e)),hi]; omega
   rw [Lib.replaceK_hit _ _ _ _ _ hi,Lib.replaceK_hit _ _ _ _ _ h2,Nat.add_right_comm,take_succ_cons,List.drop_succ_cons];rfl
/-! ### a text cut at a byte -/
theorem index_at {c:UInt8} {r:L8}:∀ {l:L8},c ∉ l -> Lib.index (l ++ c :: r) [c] = (l.length:Int)
 | [],_ => by rw [nil_append,Lib.index]; simp [List.isPrefixOf]
 | b :: l,h => by
  have ih:=index_at (r:=r) (fun k => h (mem_cons_of_mem _ k));have hb:c ≠ b:=fun k => h (k ▸ mem_cons_self ..)
  rw [cons_append,zce (by simp [List.isPrefixOf,hb]),ih,if_neg (by first | (simp; done) | (simp; omega)),length_cons]; omega
theorem split_none {c:UInt8} {l:L8} (h:c ∉ l):Lib.split l [c] = [l]:=by
 unfold Lib.split;rw [Lib.count_one,List.count_eq_zero.2 h]; rfl
theorem split_one {c:UInt8} {l r:L8} (h:c ∉ l):Lib.split (l ++ c :: r) [c] = l :: Lib.split r [c]:=by
 unfold Lib.split;rw [Lib.count_one,Lib.count_one,List.count_append,List.count_eq_zero.2 h,List.count_cons_self,Nat.zero_add,Lib.splitK,index_at h,if_neg (by first | (simp; done) | (simp; omega))];simp
theorem esc_no47 (s:L8):(47:UInt8) ∉ esc s:=by
 intro h;unfold esc at h;obtain ⟨b,_,hb⟩:=List.mem_flatMap.1 h
 rcases zbU b with ⟨_,e⟩ | ⟨_,_,e⟩ | ⟨_,h2,e⟩
 ·rw [e] at hb; exact absurd hb (by decide)
 ·rw [e] at hb; exact absurd hb (by decide)
 ·rw [e,mem_singleton] at hb; exact h2 hb.symm
theorem zdq (s:L8) (st:List (L8)):pathL (s :: st) = 47 :: (esc s ++ pathL st):=by unfold pathL; rw [flatMap_cons]; rfl
theorem zdr:∀ (st:List (L8)) (l:L8),(47:UInt8) ∉ l -> Lib.split (l ++ pathL st) [47] = l :: st.map esc
 | [],l,h => by
  show Lib.split (l ++ []) [47] = _
  rw [append_nil,split_none h]; rfl
 | s :: st,l,h => by rw [zdq,split_one h,zdr st (esc s) (esc_no47 s)]; rfl
/-! ### how the reference reads -/
def addL (out:List (L8)) (x:L8):List (L8):=out.set (out.length - 1) (out.getLastD [] ++ x)
def gpS:L8 -> List (L8) -> Option (List (L8))
 | [],out => some out
 | b :: r,out =>
  if b = 47 then gpS r (out ++ [[]])
  else if out = [] then none
  else match r with
   | d :: r' => if b = 126 then gpS r' (addL out [if d = 49 then 47 else 126]) else gpS (d :: r') (addL out [b])
   | [] => some (addL out [b])
theorem zc4 (pre:List (L8)) (l x:L8):addL (pre ++ [l]) x = pre ++ [l ++ x]:=by
 unfold addL;rw [length_append,length_singleton,Nat.add_sub_cancel,set_append_right _ _ lR,Nat.sub_self,List.getLastD_concat]; rfl
theorem zez (r:L8) (out:List (L8)):gpS (47 :: r) out = gpS r (out ++ [[]]):=by rw [gpS.eq_def]; simp
theorem zc5 (d:UInt8) (r:L8) {out:List (L8)} (h:out ≠ []):gpS (126 :: d :: r) out = gpS r (addL out [if d = 49 then 47 else 126]):=by rw [gpS.eq_def]; simp [h]
theorem zeA {b:UInt8} (h1:b ≠ 126) (h2:b ≠ 47) (r:L8) {out:List (L8)} (h:out ≠ []):gpS (b :: r) out = gpS r (addL out [b]):=by
 rw [gpS.eq_def]
 cases r with
 | nil => simp [h,h2,gpS]
 | cons d r => simp [h,h1,h2]
theorem gpS_esc1 (b:UInt8) (r:L8) (pre:List (L8)) (l:L8):gpS (esc1 b ++ r) (pre ++ [l]) = gpS r (pre ++ [l ++ [b]]):=by
 have hne:pre ++ [l] ≠ []:=by simp
 rcases zbU b with ⟨h1,e⟩ | ⟨_,h2,e⟩ | ⟨h1,h2,e⟩
 ·rw [e,h1]
  show gpS (126 :: 48 :: r) _ = _;rw [zc5 _ _ hne,if_neg (by decide),zc4]
 ·rw [e,h2]
  show gpS (126 :: 49 :: r) _ = _;rw [zc5 _ _ hne,if_pos rfl,zc4]
 ·rw [e]
  show gpS (b :: r) _ = _;rw [zeA h1 h2 _ hne,zc4]
theorem gpS_esc (r:L8) (pre:List (L8)):∀ (s l:L8),gpS (esc s ++ r) (pre ++ [l]) = gpS r (pre ++ [l ++ s])
 | [],l => by rw [append_nil]; rfl
 | b :: s,l => by
  have e:esc (b :: s) ++ r = esc1 b ++ (esc s ++ r):=by unfold esc; rw [flatMap_cons,append_assoc]
  rw [e,gpS_esc1,gpS_esc r pre s];simp
theorem zdT:∀ (st pre:List (L8)),gpS (pathL st) pre = some (pre ++ st)
 | [],pre => by rw [append_nil]; rfl
 | s :: st,pre => by
  rw [zdq,zez,gpS_esc,zdT st,nil_append,append_assoc]; rfl
def getPS (s:L8):Option (List (L8)):=match gpS s [] with
 | some out => if putPath out = s then some out else none
 | none => none
/-! ### how the program reads -/
def unesc (s:L8):L8:=rep2 126 48 126 (rep2 126 49 47 s)
def e0 (s:L8):L8:=s.flatMap fun b => if b = 126 then [126,48] else [b]
theorem rep_esc:∀ s:L8,rep2 126 49 47 (esc s) = e0 s
 | [] => rfl
 | b :: s => by
  have ih:=rep_esc s;have e:esc (b :: s) = esc1 b ++ esc s:=by unfold esc; rw [flatMap_cons]
  have e2:e0 (b :: s) = (if b = 126 then [126,48] else [b]) ++ e0 s:=by unfold e0; rw [flatMap_cons]
  rw [e,e2]
  rcases zbU b with ⟨h1,k⟩ | ⟨h1,h2,k⟩ | ⟨h1,h2,k⟩
  ·rw [k,if_pos h1]
   show rep2 126 49 47 (126 :: 48 :: esc s) = _;rw [rep2_miss (by decide),ze9 (by decide),ih]; rfl
  ·rw [k,if_neg h1,h2]
   show rep2 126 49 47 (126 :: 49 :: esc s) = _;rw [zdS,ih]; rfl
  ·rw [k,if_neg h1]
   show rep2 126 49 47 (b :: esc s) = _;rw [ze9 h1,ih]; rfl
theorem rep_e0:∀ s:L8,rep2 126 48 126 (e0 s) = s
 | [] => rfl
 | b :: s => by
  have ih:=rep_e0 s;have e2:e0 (b :: s) = (if b = 126 then [126,48] else [b]) ++ e0 s:=by unfold e0; rw [flatMap_cons]
  rw [e2];by_cases h:b = 126
  ·rw [if_pos h,h]
   show rep2 126 48 126 (126 :: 48 :: e0 s) = _;rw [zdS,ih]
  ·rw [if_neg h]
   show rep2 126 48 126 (b :: e0 s) = _;rw [ze9 h,ih]
theorem unesc_esc (s:L8):unesc (esc s) = s:=by unfold unesc; rw [rep_esc,rep_e0]
def stepsI (s:L8):List (L8):=((Lib.split s [47]).drop 1).map unesc
def getPI (s:L8):Option (List (L8)):=if s = [] then some [] else if stepsI s = [] \/ putPath (stepsI s) ≠ s then none else some (stepsI s)
theorem zfa (st:List (L8)):stepsI (pathL st) = st:=by
 unfold stepsI;have h:=zdr st [] (by simp);rw [nil_append] at h;rw [h,List.drop_succ_cons,drop_zero,map_map]
 have:unesc ∘ esc = id:=by funext s; exact unesc_esc s
 rw [this,map_id]
theorem zco {st:List (L8)} {s:L8} (h:putPath st = s) (hs:s ≠ []):s = pathL st:=by
 unfold putPath at h
 split at h
 ·exact h.symm
 ·exact absurd h.symm hs
theorem getP_same (s:L8):getPI s = getPS s:=by
 unfold getPI;by_cases hs:s = []
 ·subst hs; rfl
 rw [if_neg hs]
 have hput:∀ st,putPath st = s -> stepsI s = st /\ gpS s [] = some st /\ st ≠ []:=fun st h => by
  have e:=zco h hs;refine ⟨by rw [e]; exact zfa st,by rw [e,zdT]; rfl,fun k => ?_⟩;subst k;exact hs (by rw [e]; rfl)
 unfold getPS;by_cases h:putPath (stepsI s) = s
 ·obtain ⟨_,h2,h3⟩:=hput _ h
  rw [if_neg (fun k => k.elim h3 (fun k => k h)),h2];simp only;rw [if_pos h]
 ·rw [if_pos (.inr h)]
  cases hg:gpS s [] with
  | none => rfl
  | some out =>
   simp only;rw [if_neg];intro k;obtain ⟨h1,_⟩:=hput out k;rw [h1] at h;exact h k
theorem getP_put {st:List (L8)} (h:putPath st ≠ []):getPS (putPath st) = some st:=by
 have e:=zco rfl h;unfold getPS;rw [e,zdT,<- e];simp
theorem zc6 {s:L8} {st:List (L8)} (h:getPS s = some st):putPath st = s:=by
 unfold getPS at h
 split at h
 ·split at h
  ·rename_i hh
   simp only [sI] at h;rw [<- h]; exact hh
  ·cases h
 ·cases h
end
section
theorem zds {sub:L8} (hs:sub ≠ []) {b:UInt8} {l:L8} (h:sub.isPrefixOf (b :: l) = false):Lib.count (b :: l) sub = Lib.count l sub:=by
 have hix:=zce h;by_cases hm:Lib.index l sub = -1
 ·have h2:Lib.index (b :: l) sub = -1:=by rw [hix,hm]; rfl
  rw [Lib.count_miss hm,Lib.count_miss h2]
 ·have hge:=Lib.index_ge l sub
  obtain ⟨i,hi⟩:∃ i:Nat,Lib.index l sub = i:=⟨(Lib.index l sub).toNat,by omega⟩;have h2:Lib.index (b :: l) sub = ((i + 1:Nat):Int):=by rw [hix,if_neg (fun e => hm (beq_iff_eq.1 e)),hi]; omega
  rw [Lib.count_hit hs hi,Lib.count_hit hs h2,Nat.add_right_comm,List.drop_succ_cons]
theorem zbm (old new:L8):∀ k:Nat,old ≠ [] -> Lib.replaceK old new k [] = []
 | 0,_ => rfl
 | k + 1,h => by
  have h2:Lib.index [] old = -1:=by
   cases old with
   | nil => exact absurd rfl h
   | cons a o => rfl
  rw [Lib.replaceK,h2]; rfl
theorem zeB (c d x:UInt8):∀ (n:Nat) (l:L8),l.length <= n -> Lib.replaceK [c,d] [x] (Lib.count l [c,d]) l = rep2 c d x l:=by
 intro n
 induction n with
 | zero =>
  intro l hl
  obtain rfl:l = []:=length_eq_zero_iff.1 (by omega)
  rw [zbm _ _ _ (by simp)]; rfl
 | succ n ih =>
  intro l hl
  match l,hl with
  | [],_ => rw [zbm _ _ _ (by simp)]; rfl
  | [b],_ =>
   have hp:([c,d]:L8).isPrefixOf [b] = false:=by simp [List.isPrefixOf]
   rw [zds (by simp) hp,zb2 hp,zbm _ _ _ (by simp)]; rfl
  | b :: e :: l,hl =>
   rw [length_cons,length_cons] at hl;by_cases h:b = c /\ e = d
   ·obtain ⟨rfl,rfl⟩:=h
    have hix:Lib.index (b :: e :: l) [b,e] = ((0:Nat):Int):=by rw [Lib.index]; simp [List.isPrefixOf]
    rw [Lib.count_hit (by simp) hix,Nat.add_comm,Lib.replaceK_hit _ _ _ _ _ hix,zdS];show [] ++ [x] ++ Lib.replaceK _ _ (Lib.count l _) l = _;rw [ih l (by omega)]; rfl
   ·have hp:([c,d]:L8).isPrefixOf (b :: e :: l) = false:=by
     simp only [List.isPrefixOf,Bool.and_true,Bool.and_eq_false_iff,beq_eq_false_iff_ne];by_cases h1:c = b
     ·exact .inr fun h2 => h ⟨h1.symm,h2.symm⟩
     ·exact .inl h1
    rw [zds (by simp) hp,zb2 hp,rep2,if_neg h,ih (e :: l) (by rw [length_cons]; omega)]
theorem zbD (c d x:UInt8) (s:L8):Lib.replaceAll s [c,d] [x] = rep2 c d x s:=by
 unfold Lib.replaceAll Lib.replace Lib.replaceNum;rw [show (([c,d]:L8) == [x]) = false by simp,if_neg (by decide),if_pos (.inl (by decide))];exact zeB c d x _ s lR
theorem zdU (c d x:UInt8):∀ (n:Nat) (l:L8),l.length <= n -> (rep2 c d x l).length <= l.length:=by
 intro n
 induction n with
 | zero =>
  intro l hl
  obtain rfl:l = []:=length_eq_zero_iff.1 (by omega)
  exact lR
 | succ n ih =>
  intro l hl
  match l,hl with
  | [],_ => exact lR
  | [b],_ => exact lR
  | b :: e :: l,hl =>
   rw [length_cons,length_cons] at hl;rw [rep2];split
   ·have:=ih l (by omega); simp only [length_cons]; omega
   ·have:=ih (e :: l) (by rw [length_cons]; omega); simp only [length_cons] at this ⊢; omega
theorem unesc_len (s:L8):(unesc s).length <= s.length:=Nat.le_trans (zdU _ _ _ _ _ lR) (zdU _ _ _ _ _ lR)
end
section
def RowS (w:World) (v:Value) (st:List (L8)):Prop :=
 (st = [] /\ ∃ a c,v = .slice a 0 c) \/ (st ≠ [] /\ ∃ b o c,v = .slice (some ⟨b,o,none⟩) st.length c /\ st.length <= c /\ c <= maxLen /\ ∀ j,(h:j < st.length) -> w.cell? ⟨b,o + j,none⟩ = some (sV st[j]))
def RowS.new (B:Nat) (v:Value):Prop:=∀ b o l c,v = .slice (some ⟨b,o,none⟩) l c -> 0 < l -> B <= b
theorem FnV.oldSB {E:Env} {f:Nat} {args:List PV} {st:List (L8)} {ok:Bool} (h:∀ (w:World) (C:Cx) (vs:List Value),(∀ b o,C.F b o -> b < w.heap.size) -> E.NG <= w.heap.size -> E.T w -> vs.length = args.length -> (∀ (j:Nat) (x:PV) (y:Value),args[j]? = some x -> vs[j]? = some y -> RpV C w x y) ->
  Calls E.P f vs.toArray w fun e w' => ∃ v',e = .returned (.tuple #[v',.bool ok]) /\ Below w.heap.size w w' /\ RowS w' v' st /\ RowS.new w.heap.size v'):FnV E f args (.tup [.d (pSs st),.d (pB ok)]):=by
 intro C w vs hI hnt hold hl hv;refine (h w C vs hI.fin hI.ng hI.t hl hv).mono ?_;rintro e w' ⟨v',rfl,hb,hR,hnew⟩;have hF:Fix C w w':=.of (fun b o hF => World.cell?_of_block (a:=⟨b,o,none⟩) (hb.block b (hI.fin b o hF))) hb.block
 rcases hR with ⟨rfl,a,c,rfl⟩ | ⟨hne,b,o,c,rfl,hlc,hcm,hcell⟩
 ·refine ⟨_,.tup [.d (.sl 0 []),.d (pB ok)],[],fun _ => False,C,rfl,rfl,⟨hI.nb,fun p cs hp => by simp at hp,fun p hp => by simp at hp,fun p hp => by simp at hp,fun p q hp => by simp at hp,fun t ht => ht.elim,fun t s b ht => ht.elim,fun b o h => Nat.lt_of_lt_of_le (hI.fin b o h) hb.size,Nat.le_trans hI.ng hb.size,E.low w w' hI.t hb.size (fun k hk => hb.block k (Nat.lt_of_lt_of_le hk hI.ng))⟩,
   ⟨hb.os,hb.tape,hb.output,hb.size,fun _ _ h => h,hF,fun k hk _ _ => hb.block k hk,⟨lR,fun _ _ => rfl⟩,fun _ _ h => .inl h,fun t b ht => ht.elim,(fun p hp hp2 => by simp at hp2),⟨lR,fun _ _ => ⟨rfl,rfl,rfl,rfl⟩⟩⟩,.tup _ [.slice a 0 c,.bool ok] rfl ?_⟩
  intro j x y hx hy
  match j with
  | 0 => simp at hx hy; subst hx; subst hy; exact .d _ _ (.emp a c)
  | 1 => simp at hx hy; subst hx; subst hy; exact .d _ _ (.v (.bool ok) rfl)
  | j + 2 => simp at hx
 have hpos:0 < st.length:=length_pos_iff.2 hne;have hbw:w.heap.size <= b:=hnew b o _ c rfl hpos;have hbl:b < w'.heap.size:=zba (hcell 0 hpos);obtain ⟨C2,hC2⟩:∃ C2:Cx,C2 = { C with F:=fun b' o' => C.F b' o' \/ (b' = b /\ o <= o' /\ o' < o + st.length) }:=⟨_,rfl⟩
 have hra:RowAt C2 w' b o 1 (pSr st) (fun i _ => sV (st.getD i [])):=by
  refine ⟨by decide,fun e he => zbI st e he,fun i j hi hj => ?_,fun i j hi hj => ?_⟩
  ·rw [zaE] at hi
   have h1:=hcell i hi
   have:o + (1 * i + j) = o + i:=by omega
   first
    | rw [this,getD_eq_getElem?_getD,getElem?_eq_getElem hi]; exact h1
    | (rw [show o + 1 * i + j = o + i by omega,getD_eq_getElem?_getD,getElem?_eq_getElem hi]; exact h1)
  ·rw [zaE] at hi
   rw [hC2]; exact .inr ⟨rfl,by omega,by omega⟩
 have hd:RpC C2 w' (.sl 0 (pSr st)) (.slice (some ⟨b,o,none⟩) st.length c):=by
  have:=RpC.rd (C:=C2) (w:=w') (pSr st) b o 1 c (fun i _ => sV (st.getD i [])) (by rw [zaE]; exact hlc) hcm hra (fun i j e y he hy => by
   have hi:i < st.length:=by have:=(List.getElem?_eq_some_iff.1 he).1; rw [zaE] at this; exact this
   rw [zb6 hi] at he;simp only [sI] at he; subst he
   match j,hy with
   | 0,hy =>
    simp only [getElem?_cons_zero,sI] at hy; subst hy
    rw [getD_eq_getElem?_getD,getElem?_eq_getElem hi]
    exact .v _ rfl
   | j + 1,hy => simp at hy)
  rw [zaE] at this;exact this
 refine ⟨_,.tup [.d (.sl 0 (pSr st)),.d (pB ok)],[],fun _ => False,C2,rfl,?_,?_,?_,.tup _ [.slice (some ⟨b,o,none⟩) st.length c,.bool ok] rfl ?_⟩
 ·exact congrArg (fun r => some (PV.tup [.d (.sl 0 r),.d (pB ok)])) (zaR st)
 ·rw [hC2]
  exact ⟨hI.nb,fun q cs hq => by simp at hq,fun q hq => by simp at hq,fun q hq => by simp at hq,fun q r hq => by simp at hq,fun t ht => ht.elim,fun t s b ht => ht.elim,
   fun b' o' h => h.elim (fun h => Nat.lt_of_lt_of_le (hI.fin b' o' h) hb.size) (fun h => by rw [h.1]; exact hbl),Nat.le_trans hI.ng hb.size,E.low w w' hI.t hb.size (fun k hk => hb.block k (Nat.lt_of_lt_of_le hk hI.ng))⟩
 ·rw [hC2]
  exact ⟨hb.os,hb.tape,hb.output,hb.size,fun _ _ h => .inl h,hF,fun k hk _ _ => hb.block k hk,⟨lR,fun _ _ => rfl⟩,(fun b' o' h => h.imp id fun h => .inl (by rw [h.1]; exact hbw)),fun t b ht => ht.elim,(fun p hp hp2 => by simp at hp2),⟨lR,fun _ _ => ⟨rfl,rfl,rfl,rfl⟩⟩⟩
 ·intro j x y hx hy
  match j with
  | 0 => simp at hx hy; subst hx; subst hy; exact .d _ _ hd
  | 1 => simp at hx hy; subst hx; subst hy; exact .d _ _ (.v (.bool ok) rfl)
  | j + 2 => simp at hx
end
section
def RowB (bx:LP PC) (x:PV) (L:List Value) (ok:Bool):Prop :=
 x.dat = some (.tup [.d (.sl 0 (aR L)),.d (pB ok)]) \/ ∃ p cap z,x = .tup [.d (.row p L.length cap),.d (pB ok)] /\ bx[p]? = some z /\ z.take L.length = L.map PC.v
theorem FnG.rowV {E:Env} {f:Nat} {args:List PV} {L:List Value} {ok:Bool} (h:FnG E f args [] 2 [] (fun x bx _ _ => RowB bx x L ok)):FnV E f args (.tup [.d (.sl 0 (aR L)),.d (pB ok)]):=by
 intro C w vs hI hnt hold hl hv;have hI':Inv E.NG E.T C [] (· ∈ ([]:List Nat)) w:=⟨hI.nb,hI.box,hI.boxF,hI.boxG,hI.inj,(fun t ht => by cases ht),(fun t s b ht => by cases ht),hI.fin,hI.ng,hI.t⟩;have hold':C.old = (· ∈ ([]:List Nat)):=by funext t; exact propext ⟨fun h => (hold t h).elim,fun h => by cases h⟩
 refine (h C w vs hI' hnt hold' (Nat.le_refl 2) hl hv).mono ?_;rintro e w' ⟨u,x,bx,n,l,C',rfl,hR,hJ,hn,hE,hx⟩
 rcases hR with hR | ⟨p,cap,z,rfl,hz,hzt⟩
 ·exact ⟨u,x,bx,(· ∈ l),C',rfl,hR,hJ,hE,hx⟩
 have hnb0:C.nb = 0:=hI.nb
 have hp:p < bx.length:=by
  rcases Nat.lt_or_ge p bx.length with h | h
  ·exact h
  ·rw [getElem?_eq_none h] at hz; cases hz
 obtain ⟨us,e0,hh,hlen,hus⟩:=hJ.box p z hz
 have hzl:L.length <= z.length:=by
  have:=congrArg length hzt
  rw [length_take,length_map] at this; omega
 have hcell:∀ i,i < L.length -> us[i]? = some (L.getD i undef):=fun i hi => by
  have h1:z[i]? = some (.v (L.getD i undef)):=by
   have h2:=congrArg (·[i]?) hzt;simp only [getElem?_take,if_pos hi,getElem?_map,getElem?_eq_getElem hi,Option.map_some] at h2;rw [h2,getD_eq_getElem?_getD,getElem?_eq_getElem hi]; rfl
  have h3:us[i]? = some (us[i]'(by omega)):=getElem?_eq_getElem (by omega);have h4:=hus i _ _ h1 h3;generalize us[i]'(by omega) = q at h3 h4;generalize L.getD i undef = y at h4 ⊢
  cases h4 with
  | v _ _ => exact h3
 obtain ⟨C2,hC2⟩:∃ C2:Cx,C2 = { C' with nb:=0,F:=fun b o => C'.F b o \/ (b = C'.bx p /\ o < L.length) }:=⟨_,rfl⟩;have hle:∀ b o,C'.F b o -> C2.F b o:=fun b o h => by rw [hC2]; exact .inl h
 match u,hx with
 | _,.tup _ [u0,u1] _ hx =>
  have h0:=hx 0 _ _ rfl rfl;have h1:=hx 1 _ _ rfl rfl
  cases h0 with
  | d _ _ h0 =>
  cases h0 with
  | row _ _ _ hpn hlc hcm =>
  cases h1 with
  | d _ _ h1 =>
  cases h1 with
  | v _ hob =>
  refine ⟨_,.tup [.d (.sl 0 (aR L)),.d (pB ok)],[],fun _ => False,C2,rfl,?_,?_,?_,?_⟩
  ·exact congrArg (fun r => some (PV.tup [.d (.sl 0 r),.d (pB ok)])) (aR_er L)
  ·rw [hC2]
   exact ⟨rfl,fun q cs hq => by simp at hq,fun q hq => by simp at hq,fun q hq => by simp at hq,fun q r hq => by simp at hq,fun t ht => ht.elim,fun t s b ht => ht.elim,
    fun b o h => h.elim (hJ.fin b o) (fun h => by rw [h.1]; exact zak hh),hJ.ng,hJ.t⟩
  ·rw [hC2]
   refine ⟨hE.os,hE.tape,hE.output,hE.size,fun b o h => .inl (hE.F b o h),hE.fix,hE.block,⟨by rw [hnb0]; exact lR,fun q hq => by rw [hnb0] at hq; omega⟩,fun b o h => ?_,fun t b ht => ht.elim,(fun q hq hq2 => by simp at hq2),hE.tk⟩
   rcases h with h | ⟨rfl,_⟩
   ·exact hE.newF b o h
   ·exact .inr (.inl (hE.newB p (by rw [hnb0]; exact Nat.zero_le _) hp))
  ·have hra:RowAt C2 w' (C'.bx p) 0 1 (aR L) (fun i _ => L.getD i undef):=by
    refine ⟨by decide,fun e he => aR_wid L e he,fun i j hi hj => ?_,fun i j hi hj => ?_⟩
    ·rw [zbC] at hi
     have:0 + (1 * i + j) = i:=by omega
     rw [this];have h5:=hcell i hi;simp only [World.cell?,hh,getElem?_toArray,h5];rfl
    ·rw [zbC] at hi
     rw [hC2]; exact .inr ⟨rfl,by omega⟩
   refine .tup _ [_,_] rfl fun j x y hx hy => ?_
   match j with
   | 0 =>
    simp only [getElem?_cons_zero,sI] at hx hy
    subst hx; subst hy
    have:=RpC.rd (C:=C2) (w:=w') (aR L) (C'.bx p) 0 1 cap (fun i _ => L.getD i undef) (by rw [zbC]; exact hlc) hcm hra (fun i j e y he hy => by
     have hi:i < L.length:=by have:=(List.getElem?_eq_some_iff.1 he).1; rw [zbC] at this; exact this
     rw [aR_get hi] at he;simp only [sI] at he; subst he
     match j,hy with
     | 0,hy =>
      simp only [getElem?_cons_zero,sI] at hy; subst hy
      rw [getD_eq_getElem?_getD,getElem?_eq_getElem hi]
      have h9:=hus i _ _ (by
       have h2:=congrArg (·[i]?) hzt;simp only [getElem?_take,if_pos hi,getElem?_map,getElem?_eq_getElem hi,Option.map_some] at h2;exact h2) (hcell i hi)
      rw [getD_eq_getElem?_getD,getElem?_eq_getElem hi] at h9
      cases h9 with
      | v _ h => exact .v _ h
     | j + 1,hy => simp at hy)
    rw [zbC] at this
    exact .d _ _ this
   | 1 =>
    simp only [getElem?_cons_succ,getElem?_cons_zero,sI] at hx hy
    subst hx; subst hy
    exact .d _ _ (.v _ hob)
   | j + 2 => simp at hx
end
section
variable {T:World -> Prop} {hT:Low ngl T}
attribute [local irreducible] po mw pt
theorem gpS_none {b:UInt8} (h:b ≠ 47) (r:L8):gpS (b :: r) [] = none:=by rw [gpS.eq_def]; simp [h]
theorem gpS_end {out:List (L8)} (h:out ≠ []):gpS [126] out = gpS [] (addL out [126]):=by rw [gpS.eq_def]; simp [h,gpS]
def stL (out:List (L8)):List PC:=(out.map sV).map PC.v
theorem zbn (out:List (L8)):(stL out).length = out.length:=by simp [stL]
theorem stL_snoc (out:List (L8)) (k:L8):stL (out ++ [k]) = stL out ++ [pS k]:=by simp [stL]; rfl
theorem addL_eq {out:List (L8)} (h:0 < out.length) (x:L8):addL out x = out.set (out.length - 1) (out[out.length - 1] ++ x):=by
 unfold addL;rw [List.getLastD_eq_getLast?,List.getLast?_eq_getElem?,getElem?_eq_getElem (by omega)]; rfl
theorem stL_add {out:List (L8)} (h:0 < out.length) (x:L8):stL (addL out x) = (stL out).set (out.length - 1) (pS (out[out.length - 1] ++ x)):=by
 rw [addL_eq h]; unfold stL; rw [map_set,map_set]; rfl
theorem addL_len (out:List (L8)) (x:L8):(addL out x).length = out.length:=by simp [addL]
theorem addL_le {out:List (L8)} (h:0 < out.length) {x:L8} {n:Nat} (hx:x.length = 1) (ho:∀ k ∈ out,k.length <= n):∀ k ∈ addL out x,k.length <= n + 1:=by
 intro k hk;rw [addL_eq h] at hk
 rcases mem_or_eq_of_mem_set hk with hk | rfl
 ·have:=ho k hk; omega
 ·have:=ho _ (getElem_mem (show out.length - 1 < out.length by omega))
  rw [length_append]; omega
def gpB (r:Option (List (L8))):Bool:=r.isSome
def gpL (r:Option (List (L8))):List (L8):=r.getD []
def GpI (s:L8) (m:Nat) (st:St):Prop :=
 ∃ (i:Nat) (c:PC) (out:List (L8)),i <= s.length /\ m = s.length - i /\ has st.tm [(0,.d (pS s)),(4,.d c),(5,.d (pI i))] /\ RwAt 1 0 st.live c st.bx (stL out) /\ out.length <= i /\ (∀ k ∈ out,k.length <= i) /\ gpS s [] = gpS (s.drop i) out
theorem zfb (s:L8) (hs:s.length <= 2147483647):FnV (env T hT) 9 [.d (pS s)] (.tup [.d (pSs (gpL (getPS s))),.d (pB (gpB (getPS s)))]):=by
 have key:FnV (env T hT) 9 [.d (pS s)] (.tup [.d (.sl 0 (aR ((gpL (getPS s)).map sV))),.d (pB (gpB (getPS s)))]):=by
  refine FnG.rowV (zaO (R:=fun x bx _ _ => RowB bx x ((gpL (getPS s)).map sV) (gpB (getPS s))) (zag zeq) (by show 1 <= 64; decide) fun B hB => ?_);unfold m_s_GetPath;refine mP ?_;refine mO ?_;refine zaz (es:=[]) rfl ?_;refine mN ?_;have hR0:RwAt 1 0 [2] (.sl 2 []) [] (stL []):=⟨lR,.inl ⟨2,rfl,.inr (mem_singleton.2 rfl),rfl⟩⟩;refine zax (fun st => GpI s 0 st) ?_ ?_
  ·refine mP ?_
   refine zab ?_;refine zaA (GpI s) s.length ⟨0,.sl 2 [],[],Nat.zero_le _,rfl,⟨rfl,rfl,rfl,trivial⟩,hR0,Nat.zero_le _,(fun k hk => by cases hk),by rw [drop_zero]⟩ ?_;clear hR0;rintro m tm bx nt live ⟨i,c,out,hi,rfl,ht,hR,ho,hk,hg⟩;obtain ⟨tm1,rfl⟩:=zaf ht;simp only at hR;clear ht;refine mM ?_;(iterate 2 refine mS ?_);refine po_s (v:=.d (pI s.length)) rfl rfl rfl ?_;refine po_b rfl rfl (fun p hp => ?_);refine zai ?_;refine zbM (p:=(i:Int) < s.length) hp rfl (fun him _ => ?_) (fun him _ => ?_)
   rotate_left
   ·refine zay ?_
    obtain rfl:i = s.length:=by omega
    exact ⟨_,c,out,lR,by omega,⟨rfl,rfl,rfl,trivial⟩,hR,ho,hk,hg⟩
   have hil:i < s.length:=by omega
   have hdr:s.drop i = s[i] :: s.drop (i + 1):=drop_eq_getElem_cons hil;rw [hdr] at hg;refine zam ?_;refine zav (zab (zav (zav (zae ?_))));(iterate 2 refine mS ?_);refine po_ixs (l:=s) (j:=(i:Int)) (k:=i) (b:=s[i]) rfl rfl rfl rfl (getElem?_eq_getElem hil) ?_;by_cases h47:s[i] = 47
   ·refine zah rfl rfl (beq_iff_eq.2 (by rw [h47]; rfl)) ?_
    refine mT ?_;refine mQ ?_;refine zaz (es:=[[pS []]]) rfl ?_;refine po_appR (m:=out.length) (ds:=[[pS []]]) (RwAt.mono hR fun t ht => mem_cons_of_mem _ ht) (by simp) (by rw [zbn,Nat.one_mul]) (by decide) (by simp only [length_singleton]; omega) (fun e he => by rw [mem_singleton] at he; subst he; rfl) rfl rfl ?_;intro c' bx' hR' _;refine mN ?_;refine zay ?_;refine zae ?_;refine mS ?_;refine zan (n:=((i + 1:Nat):Int)) rfl rfl rfl (by omega) (by omega) ?_;refine mN ?_;refine ⟨s.length - (i + 1),by omega,i + 1,c',out ++ [[]],hil,rfl,⟨rfl,rfl,rfl,trivial⟩,by rw [stL_snoc]; exact hR',by rw [length_append,length_singleton]; omega,fun k hkm => ?_,?_⟩
    ·rcases mem_append.1 hkm with hkm | hkm
     ·have:=hk k hkm; omega
     ·rw [mem_singleton] at hkm; subst hkm; exact Nat.zero_le _
    ·rw [hg,h47,zez]
   refine zaq rfl rfl (beq_eq_false_iff_ne.2 (fun h => h47 (UInt8.toNat_inj.1 (by have:(47:UInt8).toNat = 47:=rfl; omega)))) ?_;refine mK ?_;refine mM ?_;refine mS ?_;refine zeY (k:=out.length) hR (by rw [zbn,Nat.one_mul]) (by decide) rfl rfl ?_;by_cases hne:out = []
   ·subst hne
    refine zah rfl rfl (beq_iff_eq.2 rfl) ?_;refine mT ?_;refine mO ?_;refine zaz (es:=[]) rfl ?_;refine mN ?_;rw [gpS_none h47] at hg;refine zad ⟨.inr rfl,[.d (.sl nt []),.d (pB false)],rfl,.inl ?_⟩;unfold getPS;rw [hg]; rfl
   have hpos:0 < out.length:=length_pos_iff.2 hne;refine zaq rfl rfl (beq_eq_false_iff_ne.2 (by omega)) ?_;refine mK ?_;refine mO ?_;(iterate 3 refine mS ?_);refine zan (n:=((i + 1:Nat):Int)) rfl rfl rfl (by omega) (by omega) ?_;refine zb8 (l:=s) (a:=i) (b:=i + 1) (rs:=[s[i]]) rfl rfl (zaS (i:=(i:Int)) rfl rfl) (zaS (i:=((i + 1:Nat):Int)) rfl rfl) ⟨Nat.le_succ _,hil⟩ (by rw [Nat.add_sub_cancel_left,hdr]; rfl) ?_;refine mN ?_;refine zax (fun st => st.bx = bx /\ st.nt = nt /\ st.live = live /\ ∃ (j:Nat) (a:L8),i <= j /\ j < s.length /\ a.length = 1 /\ has st.tm [(0,.d (pS s)),(4,.d c),(5,.d (pI j)),(6,.d (pS a))] /\ gpS s [] = gpS (s.drop (j + 1)) (addL out a)) ?_ ?_
   ·refine mQ ?_
    refine po_eqs (la:=[s[i]]) (lb:=[126]) rfl rfl rfl ?_;by_cases h126:s[i] = 126
    ·rw [decide_eq_true (by rw [h126])]
     (iterate 2 refine mS ?_);refine zan (n:=((i + 1:Nat):Int)) rfl rfl rfl (by omega) (by omega) ?_;refine mS ?_;refine po_s (v:=.d (pI s.length)) rfl rfl rfl ?_;by_cases hnx:i + 1 < s.length
     ·refine zah rfl rfl (decide_eq_true (by omega)) ?_
      refine mT ?_;refine mQ ?_;refine zan (n:=((i + 1:Nat):Int)) rfl rfl rfl (by omega) (by omega) ?_;refine mN ?_;refine mP ?_;refine mO ?_;(iterate 2 refine mS ?_);refine po_ixs (l:=s) (j:=((i + 1:Nat):Int)) (k:=i + 1) (b:=s[i + 1]) rfl rfl rfl rfl (getElem?_eq_getElem hnx) ?_;have hdr2:s.drop (i + 1) = s[i + 1] :: s.drop (i + 1 + 1):=drop_eq_getElem_cons hnx;rw [hdr2,h126,zc5 _ _ hne] at hg;by_cases h49:s[i + 1] = 49
      ·refine zah rfl rfl (beq_iff_eq.2 (by rw [h49]; rfl)) ?_
       refine mT ?_;refine zae ?_;refine mN ?_;rw [if_pos h49] at hg;exact ⟨rfl,rfl,rfl,i + 1,[47],by omega,hnx,rfl,⟨rfl,rfl,rfl,rfl,trivial⟩,hg⟩
      ·refine zaq rfl rfl (beq_eq_false_iff_ne.2 (fun h => h49 (UInt8.toNat_inj.1 (by have:(49:UInt8).toNat = 49:=rfl; omega)))) ?_
       refine mK ?_;rw [if_neg h49] at hg;exact ⟨rfl,rfl,rfl,i + 1,[126],by omega,hnx,rfl,⟨rfl,rfl,rfl,rfl,trivial⟩,hg⟩
     ·refine zaq rfl rfl (decide_eq_false (by omega)) ?_
      refine mK ?_;have he:s.drop (i + 1) = []:=drop_of_length_le (by omega);rw [he,h126,gpS_end hne] at hg;exact ⟨rfl,rfl,rfl,i,[s[i]],lR,hil,rfl,⟨rfl,rfl,rfl,rfl,trivial⟩,by rw [he,h126]; exact hg⟩
    ·rw [decide_eq_false (by intro h; exact h126 (cons.inj h).1)]
     refine mS ?_;refine mZ ?_;refine mK ?_;rw [zeA h126 h47 _ hne] at hg;exact ⟨rfl,rfl,rfl,i,[s[i]],lR,hil,rfl,⟨rfl,rfl,rfl,rfl,trivial⟩,hg⟩
   rintro tm bx1 nt1 live1 ⟨rfl,rfl,rfl,j,a,hij,hjl,hal,ht,hg⟩;obtain ⟨tm2,rfl⟩:=zaf ht;clear ht;have hRl:(out.length - 1:Nat) < (stL out).length:=by rw [zbn]; omega
   have hlk:(stL out)[out.length - 1] = pS out[out.length - 1]:=by simp [stL,sV,pS]
   refine zae ?_;(iterate 2 refine mS ?_);refine zeY (k:=out.length) hR (by rw [zbn,Nat.one_mul]) (by decide) rfl rfl ?_;refine zbA (n:=((out.length - 1:Nat):Int)) rfl rfl rfl (by omega) (by omega) ?_;(iterate 2 refine mS ?_);refine zeY (k:=out.length) hR (by rw [zbn,Nat.one_mul]) (by decide) rfl rfl ?_;refine zbA (n:=((out.length - 1:Nat):Int)) rfl rfl rfl (by omega) (by omega) ?_;refine po_ixR (i:=out.length - 1) hR (by decide) rfl (by rw [zbn]; omega) rfl rfl rfl ?_;intro p len cap z e3 h3 h4 h5 h6 h7 h8 h9;have hone:=rw_one h7 hRl;refine za7 (cs:=z) (v:=.d (pS out[out.length - 1])) rfl rfl h4 h9 (by rw [Nat.one_mul,hone,hlk]; rfl) ?_;refine mS ?_;refine zdn (la:=out[out.length - 1]) (lb:=a) rfl rfl rfl (by have:=hk _ (getElem_mem (show out.length - 1 < out.length by omega)); omega) ?_;refine po_ixR (i:=out.length - 1) hR (by decide) rfl (by rw [zbn]; omega) rfl rfl rfl ?_
   intro p2 len2 cap2 z2 e32 h32 h42 h52 h62 h72 h82 h92;refine zaL (p:=p2) (o':=1 * (out.length - 1)) (cs:=[pS (out[out.length - 1] ++ a)]) (z:=z2) rfl rfl h42 ⟨rfl,h92⟩ rfl ?_;refine zai ?_;refine zae ?_;refine mS ?_;refine zan (n:=((j + 1:Nat):Int)) rfl rfl rfl (by omega) (by omega) ?_;refine mN ?_;have hset:=RwAt.set (live:=live1) (o:=1 * (out.length - 1)) (v:=pS (out[out.length - 1] ++ a)) hR.1 h32 h42 h52 h62 (by omega);rw [<- h72,<- e32,Nat.one_mul,<- stL_add hpos] at hset;refine ⟨s.length - (j + 1),by omega,j + 1,c,addL out a,by omega,rfl,⟨rfl,rfl,rfl,trivial⟩,by rw [Nat.one_mul]; exact hset,by rw [addL_len]; omega,fun k hkm => ?_,hg⟩
   have:=addL_le hpos hal hk k hkm; omega
  rintro tm bx nt live ⟨i,c,out,hi,hm,ht,hR,ho,hk,hg⟩;obtain ⟨tm1,rfl⟩:=zaf ht;clear ht
  obtain rfl:i = s.length:=by omega
  rw [drop_length] at hg;have hgs:gpS s [] = some out:=by rw [hg,gpS.eq_def]
  have hFp:FnV (env T hT) 12 [.d (.sl 0 (aR (out.map sV)))] (.d (pS (putPath out))):=by
   rw [<- pSr_aR];exact zcy out (by omega) (fun k hkm => by have:=hk k hkm; omega)
  refine mM ?_;refine mS ?_;refine po_rowC (L:=out.map sV) hR rfl hFp ?_;refine mS ?_;by_cases hput:putPath out = s
  ·refine zcT (la:=putPath out) (lb:=s) (e:=false) rfl rfl rfl (by rw [hput]; simp) ?_
   refine mK ?_;refine mP ?_;have hres:getPS s = some out:=by unfold getPS; rw [hgs]; simp only; rw [if_pos hput]
   rw [hres];refine zad ⟨.inr rfl,[.d c,.d (pB true)],rfl,?_⟩
   rcases hR.2 with ⟨t,rfl,_,hL⟩ | ⟨p,len,cap,z,rfl,hlo,hz,hzl,hlc,hzt⟩
   ·have:out = []:=by simpa [stL] using hL
    subst this;exact .inl rfl
   ·have hlen:len = (out.map sV).length:=by
     have h:=congrArg length hzt;rw [zbn,length_take] at h; rw [length_map]; omega
    subst hlen;exact .inr ⟨p,cap,z,rfl,hz,by rw [Nat.one_mul] at hzt; exact hzt.symm⟩
  ·refine zcT (la:=putPath out) (lb:=s) (e:=true) rfl rfl rfl (by simp [hput]) ?_
   refine mT ?_;refine mO ?_;refine zaz (es:=[]) rfl ?_;refine mN ?_;have hres:getPS s = none:=by unfold getPS; rw [hgs]; simp only; rw [if_neg hput]
   rw [hres];exact zad ⟨.inr rfl,[.d (.sl nt []),.d (pB false)],rfl,.inl rfl⟩
 rw [<- pSr_aR] at key;exact key
end
section
def parts (c:UInt8):L8 -> List (L8)
 | [] => [[]]
 | b :: r => if b = c then [] :: parts c r else match parts c r with
  | p :: ps => (b :: p) :: ps
  | [] => [[b]]
theorem parts_ne (c:UInt8):∀ l,parts c l ≠ []
 | [] => by simp [parts]
 | b :: r => by
  unfold parts; split
  ·simp
  ·split <;> simp
theorem zdt (c:UInt8):∀ l,c ∉ l -> parts c l = [l]
 | [],_ => rfl
 | b :: r,h => by
  simp only [mem_cons,not_or] at h;unfold parts; rw [if_neg (fun e => h.1 e.symm),zdt c r h.2]
theorem zdu (c:UInt8):∀ (p r:L8),c ∉ p -> parts c (p ++ c :: r) = p :: parts c r
 | [],r,_ => by simp [parts]
 | b :: p,r,h => by
  simp only [mem_cons,not_or] at h;have hh:=zdu c p r h.2;simp only [cons_append,parts,if_neg (show ¬ b = c from fun e => h.1 e.symm),hh]
theorem zeC (c:UInt8):∀ l,(parts c l).length <= l.length + 1
 | [] => by simp [parts]
 | b :: r => by
  have:=zeC c r
  unfold parts; split
  ·simp; omega
  ·split
   ·rename_i h; rw [h] at this; simp at this ⊢; omega
   ·simp
theorem zdv (c:UInt8):∀ l,∀ p ∈ parts c l,p.length <= l.length
 | [],p,h => by simp [parts] at h; simp [h]
 | b :: r,p,h => by
  have ih:=zdv c r;unfold parts at h; split at h
  ·rcases mem_cons.1 h with rfl | h
   ·simp
   ·have:=ih p h; simp; omega
  ·split at h
   ·rename_i q qs hq
    rw [hq] at ih
    rcases mem_cons.1 h with rfl | h
    ·have:=ih q (by simp); simp; omega
    ·have:=ih p (by simp [h]); simp; omega
   ·simp at h; simp [h]
theorem zeD {c:UInt8}:∀ {l:L8},c ∈ l -> ∃ p r,l = p ++ c :: r /\ c ∉ p
 | [],h => by simp at h
 | b :: l,h => by
  by_cases e:b = c
  ·subst e; exact ⟨[],l,rfl,by simp⟩
  ·have:c ∈ l:=by rcases mem_cons.1 h with h | h; exact absurd h.symm e; exact h
   obtain ⟨p,r,rfl,hp⟩:=zeD this;exact ⟨b :: p,r,rfl,by simp [hp,Ne.symm e]⟩
theorem zcp (c:UInt8):∀ (p r:L8),c ∉ p -> Lib.indexByte (p ++ c :: r) c = p.length
 | [],r,_ => by simp [Lib.indexByte]
 | b :: p,r,h => by
  simp only [mem_cons,not_or] at h;have e:(b == c) = false:=by simp; exact fun e => h.1 e.symm
  rw [cons_append]; unfold Lib.indexByte
  rw [e,zcp c p r h.2]
  have:¬ ((p.length:Int) == -1) = true:=by simp; try omega
  rw [if_neg (by decide),if_neg this]; simp
theorem zc7 (c:UInt8):∀ (n:Nat) (l:L8),l.count c = n -> Lib.splitB ⟨#[c]⟩ 0 n ⟨l.toArray⟩ = (parts c l).map fun p => ⟨p.toArray⟩
 | 0,l,h => by
  have:c ∉ l:=List.count_eq_zero.1 h
  rw [Lib.splitB_zero,zdt c l this]; rfl
 | n + 1,l,h => by
  have hm:c ∈ l:=List.count_pos_iff.1 (by omega);obtain ⟨p,r,rfl,hp⟩:=zeD hm
  have hi:Lib.indexB ⟨(p ++ c :: r).toArray⟩ ⟨#[c]⟩ = (p.length:Nat):=by
   show Lib.index (p ++ c :: r) [c] = _;rw [Lib.index_one,zcp c p r hp]
  rw [Lib.splitB_hit _ _ _ _ _ hi,zdu c p r hp,map_cons]
  have hn:r.count c = n:=by
   rw [List.count_append,List.count_eq_zero.2 hp,List.count_cons_self] at h; omega
  congr 1
  ·rw [za0]; simp
  ·rw [za0]
   have e1:(ByteArray.mk (p ++ c :: r).toArray).size = p.length + (r.length + 1):=by simp [ByteArray.size]
   have e2:(ByteArray.mk #[c]).size = 1:=rfl;rw [e1,e2,<- zc7 c n r hn]
   congr 2
   rw [drop_append,drop_of_length_le (by omega)];simp [];exact take_of_length_le (by omega)
end
section
theorem split47 (s:L8) (m:Int) (w:World) (hl:s.length <= 2147483647) (hm:MaxCell m w) :
  Calls Tryz.prog 26 #[.string ⟨s.toArray⟩,.string ⟨#[47]⟩] w fun e w' => e = .returned (.slice (some ⟨w.heap.size,0,none⟩) (Lib.split s [47]).length (Lib.split s [47]).length) /\ w' = w.alloc (.cells ((Lib.split s [47]).map sV).toArray 9):=by
 have h:=Tryz.strings_Split ⟨s.toArray⟩ ⟨#[47]⟩ m w (by simp [ByteArray.size]; omega) hm (by decide);have hd:=Lib.splitB_data ⟨#[47]⟩ 0 (Lib.countB ⟨s.toArray⟩ ⟨#[47]⟩) ⟨s.toArray⟩;have hsp:Lib.split s [47] = (Lib.splitB ⟨#[47]⟩ 0 (Lib.countB ⟨s.toArray⟩ ⟨#[47]⟩) ⟨s.toArray⟩).map (·.data.toList):=hd.symm;have hlen:=Lib.splitB_all ⟨#[47]⟩ (by decide) 0 _ ⟨s.toArray⟩ rfl
 have hc:(Lib.splitB ⟨#[47]⟩ 0 (Lib.countB ⟨s.toArray⟩ ⟨#[47]⟩) ⟨s.toArray⟩).map Value.string = (Lib.split s [47]).map sV:=by
  rw [hsp,map_map];refine map_congr_left fun x _ => ?_
  simp [sV]
 rw [hc] at h;refine h.mono ?_;rintro e w' ⟨rfl,rfl⟩;refine ⟨?_,rfl⟩;rw [hsp,length_map,hlen]
def halfP (ps:List (L8)) (j:Nat):List (L8):=(ps.take j).map unesc ++ ps.drop j
theorem halfP_len (ps:List (L8)) (j:Nat) (h:j <= ps.length):(halfP ps j).length = ps.length:=by simp [halfP]; omega
theorem halfP_set (ps:List (L8)) (j:Nat) (h:j < ps.length):(halfP ps j).set j (unesc ps[j]) = halfP ps (j + 1):=by
 have hl:((ps.take j).map unesc).length = j:=by rw [length_map,length_take]; omega
 unfold halfP;rw [set_append_right _ _ (by rw [hl]; exact lR),hl,Nat.sub_self,drop_eq_getElem_cons h,set_cons_zero,take_succ_eq_append_getElem h,map_append,append_assoc]; rfl
theorem zeE (ps:List (L8)) (j:Nat) (h:j < ps.length):(halfP ps j)[j]? = some ps[j]:=by
 have hl:((ps.take j).map unesc).length = j:=by rw [length_map,length_take]; omega
 unfold halfP;rw [getElem?_append_right (by rw [hl]; exact lR),hl,Nat.sub_self,drop_eq_getElem_cons h]; rfl
theorem halfP_all (ps:List (L8)):halfP ps ps.length = ps.map unesc:=by unfold halfP; rw [take_length,drop_length,append_nil]
def RowH (w:World) (b:Nat) (l:List (L8)):Prop:=b < w.heap.size /\ (∀ q u,l[q]? = some u -> w.cell? ⟨b,1 + q,none⟩ = some (sV u)) /\ ∀ q,w.frozen? ⟨b,q,none⟩ = false
theorem RowH.below {w w':World} {b:Nat} {l:List (L8)} (h:RowH w b l) (hb:Below w.heap.size w w'):RowH w' b l :=
 ⟨Nat.lt_of_lt_of_le h.1 hb.size,fun q u hq => by rw [(zaI hb).1 _ _ h.1]; exact h.2.1 q u hq,fun q => by rw [(zaI hb).2 _ _ h.1]; exact h.2.2 q⟩
theorem RowH.cell {w:World} {b:Nat} {l:List (L8)} (h:RowH w b l) {q:Nat} {u:L8} (hq:l[q]? = some u):w.cell? ⟨b,1 + q,none⟩ = some (.string ⟨u.toArray⟩):=h.2.1 q u hq
theorem RowH.free {w:World} {b:Nat} {l:List (L8)} (h:RowH w b l) (q:Nat):w.frozen? ⟨b,q,none⟩ = false:=h.2.2 q
theorem RowH.set {w:World} {b j:Nat} {l:List (L8)} (h:RowH w b l) (hj:j < l.length) (x:L8):RowH (w.setCell ⟨b,1 + j,none⟩ (.string ⟨x.toArray⟩)) b (l.set j x):=by
 refine ⟨by simp [go_sem]; exact h.1,fun q u hq => ?_,fun q => ?_⟩
 ·rw [List.getElem?_set] at hq
  by_cases e:j = q
  ·subst e
   rw [if_pos rfl,if_pos hj] at hq;simp only [sI] at hq; subst hq
   exact World.cell?_setCell_same _ _ _ (h.2.1 j _ (getElem?_eq_getElem hj))
  ·rw [if_neg e] at hq
   rw [World.cell?_setCell_other _ _ _ _ (by intro k; simp only [Addr.mk.injEq] at k; omega)];exact h.2.1 q u hq
 ·have:=h.2.2 q
  simpa [go_sem] using this
theorem zeF (s:L8) (M:Int) (w:World) (hs:s.length <= 2147483647) (hT:Tabs w) (hM:MaxCell M w) :
  Calls Tryz.prog 8 #[.string ⟨s.toArray⟩] w fun e w' => ∃ v',e = .returned (.tuple #[v',.bool (gpB (getPI s))]) /\ Below w.heap.size w w' /\ RowS w' v' (gpL (getPI s)) /\ RowS.new w.heap.size v':=by
 by_cases h0:s = []
 ·subst h0
  have e1:getPI [] = some []:=rfl;rw [e1];clear hs hT hM
  go_enter Tryz.func8,Tryz.ntmps8
  go_wp2
  go_ret2
  exact ⟨_,rfl,Below.refl _ _,.inl ⟨rfl,none,0,rfl⟩,fun b o l c h => by cases h⟩
 obtain ⟨r,hr⟩:∃ r,getPI s = r:=⟨_,rfl⟩;have hr':=hr;unfold getPI at hr';rw [if_neg h0] at hr'
 have hsp:∃ p ps,Lib.split s [47] = p :: ps:=by
  unfold Lib.split
  cases Lib.count s [47] with
  | zero => exact ⟨_,_,rfl⟩
  | succ k => rw [Lib.splitK]; split <;> exact ⟨_,_,rfl⟩
 obtain ⟨p,ps,hsp⟩:=hsp;have hst:stepsI s = ps.map unesc:=by unfold stepsI; rw [hsp]; rfl
 have hlen:ps.length <= s.length /\ ∀ x ∈ ps,x.length <= s.length:=by
  have h1:Lib.split s [47] = parts 47 s:=by
   have hd:=Lib.splitB_data ⟨#[47]⟩ 0 (Lib.countB ⟨s.toArray⟩ ⟨#[47]⟩) ⟨s.toArray⟩;have hc:Lib.countB ⟨s.toArray⟩ ⟨#[47]⟩ = s.count 47:=Lib.count_one 47 s;have hsp:Lib.split s [47] = (Lib.splitB ⟨#[47]⟩ 0 (Lib.countB ⟨s.toArray⟩ ⟨#[47]⟩) ⟨s.toArray⟩).map (·.data.toList):=hd.symm;rw [hsp,hc,zc7 47 _ s rfl,map_map];exact (map_congr_left fun x _ => rfl).trans (map_id _)
  have h2:=zeC 47 s;have h3:=zdv 47 s;rw [<- h1,hsp] at h2 h3;rw [length_cons] at h2;exact ⟨by omega,fun x hx => h3 x (mem_cons_of_mem _ hx)⟩
 rw [hr];have HS:=Lib.hid (split47 s M w hs hM);rw [hsp] at HS;have hl:=hlen.1;have hle:=hlen.2;have HTM:Hid (∀ W,Below w.heap.size w W -> Tabs W /\ MaxCell M W):=fun W hb => ⟨hT.below hb,hM.below hb⟩
 obtain ⟨k,hk⟩:∃ k,ps.length = k:=⟨_,rfl⟩;have hkl:(p :: ps).length = k + 1:=by rw [length_cons,hk]
 obtain ⟨pz,hpz⟩:∃ pz,p :: ps = pz:=⟨_,rfl⟩;rw [hpz] at HS;have hkz:pz.length = k + 1:=by rw [<- hpz]; exact hkl
 rw [hkz] at HS;have HB:=Lib.hid ((Below.refl w.heap.size w).alloc lR (.cells (pz.map sV).toArray 9))
 have HROW:=Lib.hid (show RowH (w.alloc (.cells (pz.map sV).toArray 9)) w.heap.size ps by
  refine ⟨by simp,fun j u hu => ?_,fun q => Lib.frozen_of_heap (zap _ _) q⟩;rw [World.cell?_alloc_new,getElem?_toArray,getElem?_map,<- hpz,Nat.add_comm 1 j,getElem?_cons_succ,hu]; rfl)
 have hie:s.isEmpty = false:=by simpa using h0
 clear hsp hpz hkz hkl hT hM hlen;have HR:=Lib.hid hr';have HST:=Lib.hid hst;have HLE:=Lib.hid hle;clear hr hr' hst hle
 cases k with
 | zero =>
  have h00:ps = []:=length_eq_zero_iff.1 hk
  have hrn:r = none:=by
   have:=HR.out
   rw [HST.out,h00,if_pos (.inl rfl)] at this;exact this.symm
  subst hrn;clear HROW HTM HLE HR HST hl hk h00
  go_enter Tryz.func8,Tryz.ntmps8
  go_wp2_with (go_at_call 26; refine HS.out.mono ?_; rintro e1 W0 ⟨rfl,rfl⟩)
  have HB2:=HB
  go_loopw [14] (fun i wr => i = .int .i64 (0:Int) /\ wr = w.alloc (.cells (pz.map sV).toArray 9)) (fun _ _ => 0)
  case atStart => exact ⟨rfl,rfl⟩
  case round =>
   obtain ⟨rfl,rfl⟩:=hrel;go_wp2
   go_ret2
   exact ⟨_,rfl,HB.out,.inl ⟨rfl,none,0,rfl⟩,fun b o l c h => by cases h⟩
 | succ k =>
  go_enter Tryz.func8,Tryz.ntmps8
  go_wp2_with (go_at_call 26; refine HS.out.mono ?_; rintro e1 W0 ⟨rfl,rfl⟩)
  have hr0:RowH (w.alloc (.cells (pz.map sV).toArray 9)) w.heap.size (halfP ps 0):=HROW.out;have hb0:=HB.out;obtain ⟨W1,hW1⟩:∃ W1,w.alloc (.cells (pz.map sV).toArray 9) = W1:=⟨_,rfl⟩;obtain ⟨b,hbe⟩:∃ b,w.heap.size = b:=⟨_,rfl⟩;have hbb:w.heap.size <= b:=by omega
  rw [hW1] at hr0 hb0 ⊢;rw [hbe] at hr0 ⊢;clear HROW HB HS hW1 hbe
  go_loopw [14] (fun i wr => ∃ j:Nat,j <= k + 1 /\ i = .int .i64 j /\ RowH wr b (halfP ps j) /\ Below w.heap.size w wr) (fun i _ => (k + 1) - (intOf i).toNat)
  case atStart => exact ⟨0,Nat.zero_le _,rfl,hr0,hb0⟩
  case round =>
   clear hr0 hb0;obtain ⟨j,hj,rfl,hrow,hbel⟩:=hrel;by_cases hlt:j < k + 1
   ·have hjl:j < ps.length:=by omega
    have hlen:=halfP_len ps j (by omega);have HSET:=Lib.hid (halfP_set ps j hjl);have hd:=hrow.2.1 j _ (zeE ps j hjl);obtain ⟨x,hx⟩:∃ x,ps[j] = x:=⟨_,rfl⟩;have hxl:x.length <= 2147483647:=by have:=HLE.out x (by rw [<- hx]; exact getElem_mem hjl); omega
    rw [hx] at hd HSET
    change wr.cell? ⟨b,1 + j,none⟩ = some (Value.string ⟨x.toArray⟩) at hd
    obtain ⟨r1,hr1⟩:∃ r1,rep2 126 49 47 x = r1:=⟨_,rfl⟩;have hr1l:r1.length <= 2147483647:=by rw [<- hr1]; have:=zdU 126 49 47 _ x lR; omega
    have hux:unesc x = rep2 126 48 126 r1:=by unfold unesc; rw [hr1]
    obtain ⟨ux,hux2⟩:∃ ux,unesc x = ux:=⟨_,rfl⟩;rw [hux2] at HSET hux;have hsz:∀ l:L8,(⟨l.toArray⟩:ByteArray).size = l.length:=fun l => by simp [ByteArray.size]
    have HR1:∀ W,Below w.heap.size w W -> Hid (Calls Tryz.prog 23 #[.string ⟨x.toArray⟩,.string ⟨#[126,49]⟩,.string ⟨#[47]⟩] W fun e w' => e = .returned (.string ⟨r1.toArray⟩) /\ Below W.heap.size W w'):=fun W hW => by
     rw [<- hr1,<- zbD]
     exact Lib.hid (Tryz.strings_ReplaceAll ⟨x.toArray⟩ ⟨#[126,49]⟩ ⟨#[47]⟩ M W (by rw [hsz]; omega) (HTM.out W hW).2 (by decide) (by
      have h1:=Lib.countB_le ⟨#[126,49]⟩ (by decide) _ ⟨x.toArray⟩ lR;have h2:(⟨#[47]⟩:ByteArray).size = 1:=rfl;rw [hsz] at h1 ⊢; rw [h2]; omega))
    have HR2:∀ W,Below w.heap.size w W -> Hid (Calls Tryz.prog 23 #[.string ⟨r1.toArray⟩,.string ⟨#[126,48]⟩,.string ⟨#[126]⟩] W fun e w' => e = .returned (.string ⟨ux.toArray⟩) /\ Below W.heap.size W w'):=fun W hW => by
     rw [hux,<- zbD]
     exact Lib.hid (Tryz.strings_ReplaceAll ⟨r1.toArray⟩ ⟨#[126,48]⟩ ⟨#[126]⟩ M W (by rw [hsz]; omega) (HTM.out W hW).2 (by decide) (by
      have h1:=Lib.countB_le ⟨#[126,48]⟩ (by decide) _ ⟨r1.toArray⟩ lR;have h2:(⟨#[126]⟩:ByteArray).size = 1:=rfl;rw [hsz] at h1 ⊢; rw [h2]; omega))
    have i1:(0:Int) <= j:=by omega
    have i2:(j:Int) < (k:Int) + 1:=by omega
    have hRW:=Lib.hid hrow;have hbs:=hrow.1;clear hsz hux2 hx hr1 hux hrow
    go_wp2_with (first
     | (go_at_call 23; with_reducible refine (HR1 _ hbel).out.mono ?_; rintro e1 w2 ⟨rfl,hb2⟩; have hbel2:=zac hbel hb2 lR)
     | (go_at_call 23; with_reducible refine (HR2 _ hbel2).out.mono ?_; rintro e1 w3 ⟨rfl,hb3⟩; have hbel3:=zac hbel2 hb3 lR; have hrr3:=zac hb2 hb3 lR; have c1:=(hRW.out.below hrr3).cell (zeE ps j hjl); have c2:=(hRW.out.below hrr3).free (1 + j)))
    go_roundw
    case rel =>
     refine ⟨j + 1,by omega,by go_num,?_,hbel3.setCell (p:=⟨b,1 + j,none⟩) hbb _⟩;rw [<- HSET.out];exact (hRW.out.below hrr3).set (by rw [hlen]; exact hjl) ux
    case measure => simp [intOf]; omega
   ·obtain rfl:j = k + 1:=by omega
    rw [show k + 1 = ps.length from hk.symm,halfP_all] at hrow;have hsrow:StrRow wr (.slice (some ⟨b,1,none⟩) (k + 1) (k + 1)) (ps.map unesc):=⟨_,_,by rw [length_map,hk],fun _ => ⟨b,1,rfl,fun q hq => by rw [hrow.2.1 q _ (getElem?_eq_getElem hq)]; rfl⟩⟩;have hml:(ps.map unesc).length = k + 1:=by rw [length_map,hk]
    have hme:∀ z ∈ ps.map unesc,z.length <= 4294967295:=fun z hz => by
     obtain ⟨y,hy,rfl⟩:=mem_map.1 hz
     have:=unesc_len y; have:=HLE.out y hy; omega
    obtain ⟨hT1,hM1⟩:=HTM.out wr hbel;have HPP:=Lib.hid (zcm (ps.map unesc) _ M wr hsrow (by omega) hme hT1 hM1);have HRR:=HR.out;rw [HST.out] at HRR;have hne:ps.map unesc ≠ []:=fun h => by rw [h] at hml; simp at hml
    obtain ⟨out,hout⟩:∃ out,ps.map unesc = out:=⟨_,rfl⟩;rw [hout] at HPP HRR hrow hml hne;have HROW2:=Lib.hid hrow;have i3:((k:Int) + 1 == 0) = false:=by rw [beq_eq_false_iff_ne]; omega
    have i4:¬ (((k + 1:Nat):Int) < (k:Int) + 1):=by omega
    clear hT1 hM1 hsrow hme hout hrow;obtain ⟨pp,hpp⟩:∃ pp,putPath out = pp:=⟨_,rfl⟩;rw [hpp] at HPP HRR;clear hpp;by_cases hps:pp = s
    ·subst hps
     rw [if_neg (fun h => h.elim hne (fun h => h rfl))] at HRR;subst HRR;have HNE:=Lib.hid hne;clear hne
     go_wp2_with (go_at_call 6; refine HPP.out.mono ?_; rintro e1 w2 ⟨rfl,hb2⟩)
     go_ret2
     have hr2:=HROW2.out.below hb2;refine ⟨.slice (some ⟨b,1,none⟩) (k + 1) (k + 1),rfl,zac hbel hb2 lR,.inr ⟨HNE.out,b,1,k + 1,by rw [show gpL (some out) = out from rfl,hml],by rw [show gpL (some out) = out from rfl,hml]; exact lR,by unfold maxLen; omega,fun q hq => hr2.2.1 q _ (getElem?_eq_getElem hq)⟩,fun b' o l c h hl => ?_⟩;simp only [Value.slice.injEq,sI,Addr.mk.injEq] at h;omega
    ·rw [if_pos (.inr hps)] at HRR
     subst HRR;have hpsA:(pp == s) = false:=by rw [beq_eq_false_iff_ne]; exact hps
     clear hne
     go_wp2_with (go_at_call 6; refine HPP.out.mono ?_; rintro e1 w2 ⟨rfl,hb2⟩)
     go_ret2
     exact ⟨_,rfl,zac hbel hb2 lR,.inl ⟨rfl,none,0,rfl⟩,fun b o l c h => by cases h⟩
end
section
theorem RepCs.append {S:Nat -> Prop} {w:World}:∀ {ds es:List D} {c1 c2:List Value},RepCs S w ds c1 -> RepCs S w es c2 -> RepCs S w (ds ++ es) (c1 ++ c2)
 | [],es,c1,c2,h,k => by simp only [RepCs] at h; subst h; exact k
 | d :: ds,es,c1,c2,h,k => by
  simp only [RepCs] at h; obtain ⟨e1,e2,rfl,hl,h1,h2⟩:=h
  simp only [cons_append,RepCs];exact ⟨e1,e2 ++ c2,by simp,hl,h1,RepCs.append h2 k⟩
theorem RepCs.one {S:Nat -> Prop} {w:World} {d:D} {c:List Value} (h:RepC S w d c):RepCs S w [d] c:=by
 simp only [RepCs]; exact ⟨c,[],by simp,h.len,h,rfl⟩
section
variable {H:Type} {enc:TypeId × Value -> H} {P:Program} {w:World} {base:Nat} {spare:Nat -> Bool} {held:Bool}
theorem trod_sl {α:Type} {t e:TypeId} {n0:Nat} {f:α -> D} {ok:α -> Prop} (ht:P.underlying t = some (.slice e)) (hc:P.cellsOf e = n0) (hn:0 < n0) (hw:∀ x,D.width (f x) = n0)
  {fuel:Nat} (helem:∀ n cs y,n < fuel -> DataW.trod enc P w base spare held n e cs = some y -> ∃ x:α,Rd w (f x) cs /\ ok x)
  {cs:List Value} {y:DataW H × List MemPlace} (h:DataW.trod enc P w base spare held fuel t cs = some y) :
  ∃ (xs:List α) (v:Value),cs = [v] /\ Rd w (.sl n0 (xs.map f)) [v] /\ (∀ x ∈ xs,ok x) /\ xs.length <= maxLen:=by
 rcases DataW.trod_slice ht h with ⟨rfl,_⟩ | ⟨a,len,cap,elems,rest,n,hfu,rfl,_,_,hl,hm,hlen,hel,_,_⟩
 ·exact ⟨[],_,rfl,by simp [Rd,RepC],by simp,by simp⟩
 ·have key:∀ k,k <= len -> ∃ (xs:List α) (flat:List Value),xs.length = k /\ flat.length = n0 * k /\ RepCs (· < w.heap.size) w (xs.map f) flat /\ (∀ x ∈ xs,ok x) /\ ∀ (j:Nat) u,flat[j]? = some u -> w.cell? (a.add j) = some u:=by
   intro k
   induction k with
   | zero => intro _; exact ⟨[],[],rfl,rfl,by simp [RepCs],by simp,by simp⟩
   | succ k ih =>
    intro hk;obtain ⟨xs,flat,h1,h2,h3,h4,h5⟩:=ih (by omega);have hek:=hel k (by omega);rw [getElem?_eq_getElem (by omega)] at hek
    cases hcs:w.cells? base (a.add (k * P.cellsOf e)) (P.cellsOf e) with
    | none => rw [hcs] at hek; simp at hek
    | some cs' =>
     rw [hcs,Option.bind_some] at hek;obtain ⟨x,hx1,hx2⟩:=helem n _ _ (by omega) hek;obtain ⟨_,hcl,hcc⟩:=World.cells?_some hcs;refine ⟨xs ++ [x],flat ++ cs',by simp [h1],by rw [length_append,h2,hcl,hc,Nat.mul_succ],?_,?_,?_⟩
     ·rw [map_append]; exact RepCs.append h3 (RepCs.one hx1)
     ·intro z hz; rcases mem_append.1 hz with hz | hz
      ·exact h4 z hz
      ·simp at hz; subst hz; exact hx2
     ·intro j u hj
      by_cases hjl:j < flat.length
      ·rw [getElem?_append_left hjl] at hj; exact h5 j u hj
      ·rw [getElem?_append_right (by omega)] at hj
       have hjn:j - flat.length < cs'.length:=by
        rcases Nat.lt_or_ge (j - flat.length) cs'.length with h | h
        ·exact h
        ·simp [getElem?_eq_none h] at hj
       have:=hcc (j - flat.length) (by omega)
       rw [Addr.add_add,hc,h2,Nat.mul_comm k n0,show n0 * k + (j - n0 * k) = j by omega] at this;rw [this,<- h2]; exact hj
  obtain ⟨xs,flat,h1,h2,h3,h4,h5⟩:=key len lR;refine ⟨xs,_,rfl,?_,h4,by omega⟩;simp only [Rd,RepC];refine ⟨some a,cap,by simp [h1],fun hne => ?_⟩
  have hpos:0 < len:=by
   rcases Nat.eq_zero_or_pos len with h0 | h0
   ·exfalso; apply hne; rw [map_eq_nil_iff,<- length_eq_zero_iff]; omega
   ·exact h0
  have hfl:0 < flat.length:=by rw [h2]; exact Nat.mul_pos hn hpos
  have hc0:=h5 0 flat[0] (by simp)
  have hsp:a.spot = none:=by
   have:=World.cell?_spot hc0
   simpa [Addr.add] using this
  obtain ⟨b,o,s⟩:=a;simp only at hsp;subst hsp
  have hb:b < w.heap.size:=by
   rw [zaw] at hc0;by_cases hlt:b < w.heap.size
   ·exact hlt
   ·simp [World.cell?,Array.getElem?_eq_none (Nat.not_lt.1 hlt)] at hc0
  refine ⟨hn,by simpa [h1] using hl,hm,b,o,flat,rfl,hb,fun j u hj => ?_,?_,h3⟩
  ·have:=h5 j u hj; rwa [zaw] at this
  ·intro x hx; rw [mem_map] at hx; obtain ⟨z,_,rfl⟩:=hx; exact hw z
end
end
end Go.Proofs.YtanjncmokckjiaaGreatDoor
