/- Part 5 of a proof: L8IM, L8I, TurnI, L8DM, L8S, LsmM, SameV, PutDrw, ValueSame, ValueKids, ValueNode, Region, Box, ValueIs, PvVokI, L8Q, RemEq, NodM, NodI, FnPutM, FnPut, Laid, Tabs, Ten, ErrTab -/
import Derived.Test.YtdnjinhlhohfiaaGreatDoorQb4
import Derived.HandedShaped
import Derived.Lay
import Derived.LaidMore
import Derived.Stop.Joined
import Derived.Lib.LaidU8T
namespace Go.Proofs.YtdnjinhlhohfiaaGreatDoor
open Go.RowKit
set_option maxHeartbeats 4000000
set_option maxRecDepth 100000
open List
section
def m_i_Put:M:=so [qo 3 (.box 0),qo 5 (.box 2),⟨some 6,.zero [.int .i64 0,.int .i64 0,.int .i64 0,.string ⟨[].toArray⟩,.slice none 0 0],none,[]⟩,qo 7 (.mv (cB false))] (so [qL 8 5 3,qm 9 1,qL 10 5 5,qc 11 23 [8,9,10,cB false] 1,qe 12 11 0,qe 13 11 1,qS 5 6 12,qm 7 13] .ret)
theorem lk_i_Put:look Tryz.prog 6 = some (14,m_i_Put,[.cell true 5 6,.tm 7]):=by kernel_rfl
def m_i_Insert:M:=so [qo 3 (.box 0),qo 5 (.box 2),⟨some 6,.zero [.int .i64 0,.int .i64 0,.int .i64 0,.string ⟨[].toArray⟩,.slice none 0 0],none,[]⟩,qo 7 (.mv (cB false))] (so [qL 8 5 3,qm 9 1,qL 10 5 5,qc 11 23 [8,9,10,cB true] 1,qe 12 11 0,qe 13 11 1,qS 5 6 12,qm 7 13] .ret)
theorem zgy:look Tryz.prog 8 = some (14,m_i_Insert,[.cell true 5 6,.tm 7]):=by kernel_rfl
def m_i_Remove:M:=so [qo 2 (.box 0),⟨some 4,.zero [.int .i64 0,.int .i64 0,.int .i64 0,.string ⟨[].toArray⟩,.slice none 0 0],none,[]⟩,qo 5 (.mv (cB false))] (.seq (so [qm 8 1,qc 9 27 [8] 1,qo 10 (.not 9),qm 11 10,qg 12 1 11 false,⟨some 13,.len 12,some (11,false),[]⟩,⟨some 14,.bin .eql false 13 (ci 0),some (11,false),[]⟩,qo 15 (.pick 11 (cB true) 14),qm 16 15,⟨some 17,.load true 5 2,some (16,false),[]⟩,⟨some 18,.call 17 [17],some (16,false),[.f 1]⟩,⟨some 19,.not 18,some (16,false),[]⟩,qo 20 (.pick 16 (cB true) 19)] (.cond 20 (so [qL 21 5 2,qc 22 28 [21] 1,qS 5 4 22,qo 5 (.mv (cB false))] .ret) .skip)) (so [qL 24 5 2,qm 25 1,qc 26 29 [24,25,.f 30] 1,qm 23 26,qe 27 23 0,qe 28 23 1,⟨some 6,.zero [.int .i64 0,.int .i64 0,.int .i64 0,.string ⟨[].toArray⟩,.slice none 0 0],none,[]⟩,qS 5 6 27,qm 7 28] (.seq (so [qm 29 7,qo 30 (.not 29)] (.cond 30 (so [qL 31 5 2,qc 32 28 [31] 1,qS 5 4 32,qo 5 (.mv (cB false))] .ret) .skip)) (so [qL 33 5 6,qc 34 28 [33] 1,qS 5 4 34,qo 5 (.mv (cB true))] .ret))))
theorem zgz:look Tryz.prog 11 = some (35,m_i_Remove,[.cell true 5 4,.tm 5]):=by kernel_rfl
def m_i_put:M:=so [qo 4 (.box 0),qo 6 (.box 2),qo 7 (.box 3),⟨some 8,.zero [.int .i64 0,.int .i64 0,.int .i64 0,.string ⟨[].toArray⟩,.slice none 0 0],none,[]⟩,qo 9 (.mv (cB false))] (.seq (so [qm 12 1,qc 13 27 [12] 1,qo 14 (.not 13),qm 15 14,⟨some 16,.load true 5 4,some (15,false),[]⟩,⟨some 17,.call 17 [16],some (15,false),[.f 1]⟩,⟨some 18,.not 17,some (15,false),[]⟩,qo 19 (.pick 15 (cB true) 18),qm 20 19,⟨some 21,.load true 5 6,some (20,false),[]⟩,⟨some 22,.call 17 [21],some (20,false),[.f 1]⟩,⟨some 23,.not 22,some (20,false),[]⟩,qo 24 (.pick 20 (cB true) 23)] (.cond 24 (so [qL 25 5 4,qc 26 28 [25] 1,qS 5 8 26,qo 9 (.mv (cB false))] .ret) .skip)) (so [qL 27 5 6,⟨some 10,.zero [.int .i64 0,.int .i64 0,.int .i64 0,.string ⟨[].toArray⟩,.slice none 0 0],none,[]⟩,qS 5 10 27,qo 11 (.mv (cB true))] (.seq (so [qm 28 1,qo 29 (.len 28),qo 30 (.bin .gtr false 29 (ci 0))] (.cond 30 (.ops [qL 32 5 4,qm 33 1,qo 34 (.mkfn 48 [6,7]),qc 35 29 [32,33,34] 1,qm 31 35,qe 36 31 0,qe 37 31 1,qS 5 10 36,qm 11 37]) .skip)) (.seq (so [qm 38 11,qo 39 (.not 38),qm 40 39,⟨some 41,.load true 5 10,some (40,false),[]⟩,⟨some 42,.call 17 [41],some (40,false),[.f 1]⟩,⟨some 43,.not 42,some (40,false),[]⟩,qo 44 (.pick 40 (cB true) 43)] (.cond 44 (so [qL 45 5 4,qc 46 28 [45] 1,qS 5 8 46,qo 9 (.mv (cB false))] .ret) .skip)) (so [qL 47 5 10,qc 48 28 [47] 1,qS 5 8 48,qo 9 (.mv (cB true))] .ret)))))
theorem lk_i_put:look Tryz.prog 23 = some (49,m_i_put,[.cell true 5 8,.tm 9]):=by kernel_rfl
def m_i_turn:M:=so [qo 3 (.box 0),⟨some 6,.zero [.int .i64 0,.int .i64 0,.int .i64 0,.string ⟨[].toArray⟩,.slice none 0 0],none,[]⟩,qo 7 (.mv (cB false))] (.seq (so [qm 11 1,qo 12 (.len 11),qo 13 (.bin .eql false 12 (ci 1))] (.cond 13 (so [qm 14 2,qL 15 5 3,qm 16 1,qo 17 (.ix 1 16 (ci 0)),ql 18 1 17,⟨some 19,.callv 14 [15,18],none,[.f 0]⟩,qe 20 19 0,qe 21 19 1,qS 5 6 20,qm 7 21] .ret) .skip)) (so [qL 22 5 3,qm 23 1,qo 24 (.ix 1 23 (ci 0)),ql 25 1 24,qc 26 57 [22,25] 0,qm 8 26] (.seq (so [qm 27 8,qo 28 (.bin .lss false 27 (ci 0))] (.cond 28 (so [⟨some 29,.build [.int .i64 0,.int .i64 0,.int .i64 0,.string ⟨[].toArray⟩,.slice none 0 0] [],none,[]⟩,qS 5 6 29,qo 7 (.mv (cB false))] .ret) .skip)) (.seq (.tree (.node [qF 31 4 3,ql 32 1 31,qm 33 8,qo 34 (.ix 5 32 33),qL 35 5 34,qm 36 1,qo 37 (.slc 1 36 (some (ci 1)) none),qm 38 2] (.alt (qc 39 29 [35,37,38] 0) (.node [qm 30 39,qe 40 30 0,qe 41 30 1] (.alt ⟨some 9,.zero [.int .i64 0,.int .i64 0,.int .i64 0,.string ⟨[].toArray⟩,.slice none 0 0],none,[]⟩ (.node [] (.alt (qS 5 9 40) (.node [qm 10 41] .leaf) .leaf)) .leaf)) (.alt ⟨some 9,.zero [.int .i64 0,.int .i64 0,.int .i64 0,.string ⟨[].toArray⟩,.slice none 0 0],none,[]⟩ (.node [] (.alt (qc 39 29 [35,37,38] 0) (.node [qm 30 39,qe 40 30 0,qe 41 30 1] (.alt (qS 5 9 40) (.node [qm 10 41] .leaf) .leaf)) .leaf)) .leaf)))) (.seq (so [qm 42 10,qo 43 (.not 42)] (.cond 43 (so [⟨some 44,.build [.int .i64 0,.int .i64 0,.int .i64 0,.string ⟨[].toArray⟩,.slice none 0 0] [],none,[]⟩,qS 5 6 44,qo 7 (.mv (cB false))] .ret) .skip)) (so [qF 45 4 3,ql 46 1 45,qc 47 58 [46] 1,qF 48 4 3,qS 1 48 47] (so [qF 49 4 3,ql 50 1 49,qm 51 8,qL 52 5 9,qo 53 (.ix 5 50 51),qS 5 53 52] (so [qL 54 5 3,qS 5 6 54,qo 7 (.mv (cB true))] .ret))))))))
theorem lk_i_turn:look Tryz.prog 29 = some (55,m_i_turn,[.cell true 5 6,.tm 7]):=by kernel_rfl
def m_i_without:M:=so [qo 2 (.box 0),⟨some 4,.zero [.int .i64 0,.int .i64 0,.int .i64 0,.string ⟨[].toArray⟩,.slice none 0 0],none,[]⟩,qo 5 (.mv (cB false))] (so [qL 7 5 2,qm 8 1,qc 9 57 [7,8] 1,qm 6 9] (.seq (.block 0 (so [qm 19 6,qo 20 (.bin .lss false 19 (ci 0)),qm 21 20,⟨some 22,.fld 0 2,some (21,false),[]⟩,⟨some 23,.load false 1 22,some (21,false),[]⟩,⟨some 24,.bin .eql false 23 (ci 9),some (21,false),[]⟩,qo 25 (.pick 21 (cB true) 24),qm 18 25] (.cond 18 (so [⟨some 26,.build [.int .i64 0,.int .i64 0,.int .i64 0,.string ⟨[].toArray⟩,.slice none 0 0] [],none,[]⟩,qS 5 4 26,qo 5 (.mv (cB false))] .ret) (so [qF 28 0 2,ql 29 1 28,qo 30 (.bin .eql false 29 (ci 8)),qm 27 30] (.cond 27 (.ops [qF 31 4 2,ql 32 1 31,qc 33 58 [32] 1,qm 34 6,qo 35 (.bin .sub false 34 (ci 1)),qm 36 6,qo 37 (.bin .add false 36 (ci 1)),qc 38 59 [33,35,37] 1,qF 39 4 2,qS 1 39 38]) (.ops [qF 10 4 2,ql 11 1 10,qc 12 58 [11] 1,qm 13 6,qm 14 6,qo 15 (.bin .add false 14 (ci 1)),qc 16 59 [12,13,15] 1,qF 17 4 2,qS 1 17 16])))))) (so [qL 40 5 2,qS 5 4 40,qo 5 (.mv (cB true))] .ret)))
theorem zfO:look Tryz.prog 30 = some (41,m_i_without,[.cell true 5 4,.tm 5]):=by kernel_rfl
def m_i_put_1:M:=so [qo 4 (.box 0),⟨some 6,.zero [.int .i64 0,.int .i64 0,.int .i64 0,.string ⟨[].toArray⟩,.slice none 0 0],none,[]⟩,qo 7 (.mv (cB false))] (so [qL 8 5 4,qm 9 1,qL 10 5 2,ql 11 1 3,qc 12 49 [8,9,10,11] 1,qe 13 12 0,qe 14 12 1,qS 5 6 13,qm 7 14] .ret)
theorem lk_i_put_1:look Tryz.prog 48 = some (15,m_i_put_1,[.cell true 5 6,.tm 7]):=by kernel_rfl
def m_i_with:M:=so [qo 4 (.box 0),qo 6 (.box 2),⟨some 8,.zero [.int .i64 0,.int .i64 0,.int .i64 0,.string ⟨[].toArray⟩,.slice none 0 0],none,[]⟩,qo 9 (.mv (cB false))] (so [qL 11 5 4,qm 12 1,qc 13 57 [11,12] 1,qm 10 13] (so [qF 14 4 4,ql 15 1 14,qc 16 58 [15] 1,qF 17 4 4,qS 1 17 16] (.seq (.block 0 (so [qm 20 10,qo 21 (.bin .geq false 20 (ci 0)),qm 22 21,qg 23 3 22 true,qo 24 (.pick 22 23 (cB false)),qm 25 24,⟨some 26,.fld 0 4,some (25,true),[]⟩,⟨some 27,.load false 1 26,some (25,true),[]⟩,⟨some 28,.bin .eql false 27 (ci 7),some (25,true),[]⟩,qo 29 (.pick 25 28 (cB false)),qm 19 29] (.cond 19 (.ops [qF 30 4 4,ql 31 1 30,qm 32 10,qL 33 5 6,qo 34 (.lit 5 [33]),qc 35 72 [31,32,34] 1,qF 36 4 4,qS 1 36 35]) (so [qm 38 10,qo 39 (.bin .geq false 38 (ci 0)),qm 37 39] (.cond 37 (.ops [qF 40 4 4,ql 41 1 40,qm 42 10,qL 43 5 6,qo 44 (.ix 5 41 42),qS 5 44 43]) (so [qF 46 0 4,ql 47 1 46,qo 48 (.bin .eql false 47 (ci 8)),qm 45 48] (.cond 45 (.ops [qF 49 4 4,ql 50 1 49,qm 51 1,⟨some 52,.build [.int .i64 0,.int .i64 0,.int .i64 0,.string ⟨[].toArray⟩,.slice none 0 0] [(0,1,ci 5),(3,1,51)],none,[]⟩,qL 53 5 6,qo 54 (.lit 5 [52,53]),⟨some 55,.app 5 50 54,none,[.f 1]⟩,qF 56 4 4,qS 1 56 55]) (so [qF 58 0 4,ql 59 1 58,qo 60 (.bin .eql false 59 (ci 7)),qm 61 60,qg 62 1 61 true,⟨some 64,.fld 4 4,some (61,true),[]⟩,⟨some 65,.load false 1 64,some (61,true),[]⟩,⟨some 66,.len 65,some (61,true),[]⟩,⟨some 63,.call 73 [62],some (61,true),[.f 0,64]⟩,⟨some 67,.bin .eql false 63 66,some (61,true),[]⟩,qo 68 (.pick 61 67 (cB false)),qm 57 68] (.cond 57 (.ops [qF 69 4 4,ql 70 1 69,qL 71 5 6,qo 72 (.lit 5 [71]),⟨some 73,.app 5 70 72,none,[.f 1]⟩,qF 74 4 4,qS 1 74 73]) (so [⟨some 18,.build [.int .i64 0,.int .i64 0,.int .i64 0,.string ⟨[].toArray⟩,.slice none 0 0] [],none,[]⟩,qS 5 8 18,qo 9 (.mv (cB false))] .ret)))))))))) (so [qL 75 5 4,qS 5 8 75,qo 9 (.mv (cB true))] .ret))))
theorem lk_i_with:look Tryz.prog 49 = some (76,m_i_with,[.cell true 5 8,.tm 9]):=by kernel_rfl
end
section
variable {T:World -> Prop} {hT:Low ngl T}
attribute [local irreducible] po mw pt
theorem zcL {a0 a1 a2:List PC} {r b:LP PC} (h:∀ q,q < 3 -> b[q]? = (a0 :: a1 :: a2 :: r)[q]?):∃ r',b = a0 :: a1 :: a2 :: r':=by
 match b,h 0 (by decide),h 1 (by decide),h 2 (by decide) with
 | [],h0,_,_ => cases h0
 | [_],_,h1,_ => cases h1
 | [_,_],_,_,h2 => cases h2
 | x0 :: x1 :: x2 :: r',h0,h1,h2 =>
  simp only [getElem?_cons_zero,getElem?_cons_succ,sI] at h0 h1 h2
  subst h0; subst h1; subst h2
  exact ⟨r',rfl⟩
theorem cons3 {live:List Nat} {c:PC} {a0 a1 a2 b0 b1 b2:List PC} {r rows:LP PC} (h:RwL 5 3 live c (a0 :: a1 :: a2 :: r) rows):RwL 5 3 live c (b0 :: b1 :: b2 :: r) rows :=
 h.cong lR fun q hq _ => by
  obtain ⟨k,rfl⟩:∃ k,q = k + 3:=⟨q - 3,by omega⟩;rfl
def WI (v:V) (a1:List PC) (t1 t2:Nat) (r:V × Bool) (s:St):Prop:=∃ c rest rows ks,r = (v.withK ks,true) /\ has s.tm [(t1,.ref 0 0),(t2,.ref 2 0)] /\ s.bx = [pI v.kind,pI v.num,pI v.exp,pS v.text,c] :: a1 :: [pI 0,pI 0,pI 0,pS [],.sl 1 []] :: rest /\ RwL 5 3 s.live c s.bx rows /\ erLL rows = vK ks
theorem vK_ins (ks:List V) (i:Nat) (x:V):erLL ((vK ks).take i ++ vC x :: (vK ks).drop i) = vK (ks.take i ++ x :: ks.drop i):=by
 have h:(vK ks).take i ++ vC x :: (vK ks).drop i = vK (ks.take i ++ x :: ks.drop i):=by
  rw [show x :: ks.drop i = [x] ++ ks.drop i from rfl,zbX,zbX,zdQ];simp [vK]
 rw [h,zc9]
theorem RwL.more {n lo:Nat} {live:List Nat} {c:PC} {bx rows:LP PC} (h:RwL n lo live c bx rows) (t:Nat):RwL n lo (t :: live) c bx rows:=⟨RwAt.mono h.1 fun _ ht => mem_cons_of_mem _ ht,h.2⟩
theorem RwL.apps {n lo:Nat} {live:List Nat} {c:PC} {bx rows ds:LP PC} (hw:∀ e ∈ rows,e.length = n) (hd:∀ e ∈ ds,e.length = n) (h:RwAt n lo live c bx (rows.flatten ++ ds.flatten)):RwL n lo live c bx (rows ++ ds) :=
 ⟨by rw [flatten_append]; exact h,fun e he => (mem_append.1 he).elim (hw e) (hd e)⟩
theorem withI_fn (hTen:∀ w,T w -> TenTab w) (hErr:∀ w,T w -> ErrTab w) (v x:V) (s:L8) (ins:Bool) (hb:v.kids.length <= 4294967290) (hs:s.length <= 2147483647):FnV (env T hT) 49 [.ag (vC v),.d (pS s),.ag (vC x),.d (pB ins)] (.tup [.ag (vC (withI x ins v s).1),.d (pB (withI x ins v s).2)]):=by
 refine FnG.rowA (zaR (zad lk_i_with) (by show 4 <= 76; decide) fun B hB => ?_);unfold m_i_with
 refine mO ?_;refine zax (cs:=vC v) rfl ?_;refine zax (cs:=vC x) rfl ?_;refine mN ?_;refine mO ?_;refine zaa (p:=0) (cs:=vC v) rfl rfl rfl rfl ?_;refine mS ?_;refine zac (args:=[.ag (vC v),.d (pS s)]) (zdX v s) (zdi (T:=T) (hT:=hT) hTen hErr v s (by omega) hs) ?_;refine mN ?_;refine mO ?_;(iterate 2 refine mS ?_);refine po_g rfl (zdk (T:=T) (hT:=hT) (ks:=v.kids) (by omega) _ 2 []) ?_;rintro y b n l ⟨rfl,rfl,c,rfl,rest,rfl,hR⟩;refine mS ?_;refine zas (p:=0) (o':=4) (cs:=[c]) (z:=vC v) rfl rfl rfl ⟨rfl,Nat.le_of_ble_eq_true rfl⟩ rfl ?_;refine zae ?_;have hR1:RwL 5 3 [] c ([pI v.kind,pI v.num,pI v.exp,pS v.text,c] :: vC x :: [pI 0,pI 0,pI 0,pS [],.sl 1 []] :: rest) (vK v.kids):=cons3 hR;show mw _ _ _ _ ⟨_,[pI v.kind,pI v.num,pI v.exp,pS v.text,c] :: vC x :: [pI 0,pI 0,pI 0,pS [],.sl 1 []] :: rest,_,_⟩;clear hR;refine zav (WI v (vC x) 4 8 (withI x ins v s)) ?_ ?_
 ·refine zai ?_
  refine mQ ?_;by_cases hk:0 <= kidI v s
  ·obtain ⟨i,hi⟩:∃ i:Nat,kidI v s = i:=⟨(kidI v s).toNat,by omega⟩
   have hlt:=zaP hk;have hil:i < v.kids.length:=by omega
   refine zaf rfl rfl (decide_eq_true hk) ?_;refine mS ?_;by_cases hc:ins = true /\ v.kind = 7
   ·obtain ⟨rfl,h7⟩:=hc
    have hwe:withI x true v s = (v.withK (v.kids.take i ++ x :: v.kids.drop i),true):=by
     unfold withI; rw [if_pos ⟨hk,rfl,h7⟩,hi,Int.toNat_natCast]
    (iterate 5 refine mS ?_);refine zaf rfl rfl (beq_iff_eq.2 h7) ?_;refine mT ?_;refine zaj ?_;(iterate 3 refine mS ?_);refine zaa (p:=1) (cs:=vC x) rfl rfl rfl rfl ?_;refine zaC (es:=[vC x]) rfl ?_;refine po_g (by rw [<- hi]; rfl) (ins5_g (T:=T) (hT:=hT) (hR1.more _) (i:=i) (by rw [zao]; exact hil) (by rw [zao]; omega) (show (vC x).length = 5 from rfl) (mem_cons_self ..)) ?_;rintro y b n l ⟨rfl,rfl,c',rfl,hR2,hbl,hlow⟩;obtain ⟨r',rfl⟩:=zcL hlow;refine mS ?_;refine zas (p:=0) (o':=4) (cs:=[c']) (z:=[pI v.kind,pI v.num,pI v.exp,pS v.text,c]) rfl rfl rfl ⟨rfl,Nat.le_of_ble_eq_true rfl⟩ rfl ?_;refine zae ?_;exact ⟨c',r',_,_,hwe,⟨rfl,rfl,trivial⟩,rfl,cons3 hR2,vK_ins _ _ _⟩
   have hwe:withI x ins v s = (v.withK (v.kids.set i x),true):=by
    unfold withI; rw [if_neg (fun h => hc h.2),if_pos hk,hi,Int.toNat_natCast]
   have hc':ins = false \/ ins = true /\ ¬ v.kind = 7:=by
    cases ins with
    | false => exact .inl rfl
    | true => exact .inr ⟨rfl,fun h => hc ⟨rfl,h⟩⟩
   rcases hc' with rfl | ⟨rfl,h7⟩
   ·(iterate 3 refine mS ?_)
    refine mZ ?_;refine mF ?_;refine mQ ?_;refine zaf rfl rfl (decide_eq_true hk) ?_;refine mT ?_;refine zaj ?_;(iterate 3 refine mS ?_);refine zaa (p:=1) (cs:=vC x) rfl rfl rfl rfl ?_;refine zdE (i:=i) hR1.1 (by decide) hi (by rw [zaK hR1.2,zao]; omega) rfl rfl rfl ?_;intro p len cap z e1 hp hz hzl hlc hfl hil' hfit;subst e1;refine zas (p:=p) (o':=5 * i) (cs:=vC x) (z:=z) rfl rfl hz ⟨rfl,hfit⟩ rfl ?_;refine zae ?_;have hRs:=hR1.set (by decide) (by rw [zao]; exact hil) (show (vC x).length = 5 from rfl) hz;rw [vK_set] at hRs;have hlow:=fun (q:Nat) (hq:q < 3) => getElem?_set_ne (l:=[pI v.kind,pI v.num,pI v.exp,pS v.text,(.row p len cap)] :: vC x :: [pI 0,pI 0,pI 0,pS [],.sl 1 []] :: rest) (a:=spl z (5 * i) (vC x)) (show p ≠ q by omega)
    obtain ⟨r',hr'⟩:=zcL hlow;exact ⟨_,r',_,_,hwe,⟨rfl,rfl,trivial⟩,hr',hRs,zc9 _⟩
   ·(iterate 5 refine mS ?_)
    refine zal rfl rfl (beq_eq_false_iff_ne.2 h7) ?_;refine mF ?_;refine mQ ?_;refine zaf rfl rfl (decide_eq_true hk) ?_;refine mT ?_;refine zaj ?_;(iterate 3 refine mS ?_);refine zaa (p:=1) (cs:=vC x) rfl rfl rfl rfl ?_;refine zdE (i:=i) hR1.1 (by decide) hi (by rw [zaK hR1.2,zao]; omega) rfl rfl rfl ?_;intro p len cap z e1 hp hz hzl hlc hfl hil' hfit;subst e1;refine zas (p:=p) (o':=5 * i) (cs:=vC x) (z:=z) rfl rfl hz ⟨rfl,hfit⟩ rfl ?_;refine zae ?_;have hRs:=hR1.set (by decide) (by rw [zao]; exact hil) (show (vC x).length = 5 from rfl) hz;rw [vK_set] at hRs;have hlow:=fun (q:Nat) (hq:q < 3) => getElem?_set_ne (l:=[pI v.kind,pI v.num,pI v.exp,pS v.text,(.row p len cap)] :: vC x :: [pI 0,pI 0,pI 0,pS [],.sl 1 []] :: rest) (a:=spl z (5 * i) (vC x)) (show p ≠ q by omega)
    obtain ⟨r',hr'⟩:=zcL hlow;exact ⟨_,r',_,_,hwe,⟨rfl,rfl,trivial⟩,hr',hRs,zc9 _⟩
  refine zal rfl rfl (decide_eq_false hk) ?_;refine mS ?_;refine zf8 rfl ?_;(iterate 2 refine mS ?_);refine mZ ?_;refine mF ?_;refine mQ ?_;refine zal rfl rfl (decide_eq_false hk) ?_;refine mF ?_;refine mO ?_;(iterate 2 refine mS ?_);by_cases h8:v.kind = 8
  ·have hwe:withI x ins v s = (v.withK (v.kids ++ [.mk 5 0 0 s [],x]),true):=by
    unfold withI; rw [if_neg (fun h => hk h.1),if_neg hk,if_pos h8]
   have hdw:∀ e ∈ [[pI 5,pI 0,pI 0,pS s,.sl 1 []],vC x],e.length = 5:=fun e he => by
    rcases mem_cons.1 he with rfl | he
    ·rfl
    ·rw [mem_singleton] at he; subst he; rfl
   refine zaf rfl rfl (beq_iff_eq.2 h8) ?_;refine mT ?_;refine zaj ?_;(iterate 4 refine mS ?_);refine zaa (p:=1) (cs:=vC x) rfl rfl rfl rfl ?_;refine zaC (es:=[[pI 5,pI 0,pI 0,pS s,.sl 1 []],vC x]) rfl ?_;refine zdF (m:=v.kids.length) (ds:=[[pI 5,pI 0,pI 0,pS s,.sl 1 []],vC x]) (hR1.more _).1 (by simp) (by rw [zaK hR1.2,zao]) (by decide) (by simp only [length_cons,length_nil]; omega) hdw rfl rfl ?_;intro c' bx' hR' hlow;obtain ⟨r',rfl⟩:=zcL hlow;refine mS ?_;refine zas (p:=0) (o':=4) (cs:=[c']) (z:=[pI v.kind,pI v.num,pI v.exp,pS v.text,c]) rfl rfl rfl ⟨rfl,Nat.le_of_ble_eq_true rfl⟩ rfl ?_;refine zae ?_;refine ⟨c',r',_,_,hwe,⟨rfl,rfl,trivial⟩,rfl,cons3 (RwL.apps hR1.2 hdw hR'),?_⟩;rw [zbX,zar,map_append,<- zar,zc9]
   congr 1
   show [erL _,erL (vC x)] = _;rw [zap,show [V.mk 5 0 0 s [],x] = [V.mk 5 0 0 s []] ++ [x] from rfl,zbX,zdQ,zdQ];rfl
  refine zal rfl rfl (beq_eq_false_iff_ne.2 h8) ?_;refine mF ?_;refine mO ?_;(iterate 2 refine mS ?_);by_cases h7n:v.kind = 7 /\ ixI s = v.kids.length
  ·obtain ⟨h7,hn⟩:=h7n
   have hwe:withI x ins v s = (v.withK (v.kids ++ [x]),true):=by
    unfold withI; rw [if_neg (fun h => hk h.1),if_neg hk,if_neg h8,if_pos ⟨h7,hn⟩]
   refine zaf rfl rfl (beq_iff_eq.2 h7) ?_;(iterate 4 refine mS ?_);refine zco (k:=v.kids.length) hR1.1 (by rw [zaK hR1.2,zao]) (by decide) rfl rfl ?_;refine zat (b:=true) (args:=[.d (pS s)]) rfl (fun _ => rfl) (fun _ => zcX (T:=T) (hT:=hT) hTen hErr s hs) ?_;refine zaf rfl rfl (beq_iff_eq.2 hn) ?_;refine mT ?_;refine zaj ?_;(iterate 2 refine mS ?_);refine zaa (p:=1) (cs:=vC x) rfl rfl rfl rfl ?_;refine zaC (es:=[vC x]) rfl ?_;refine zdF (m:=v.kids.length) (ds:=[vC x]) (hR1.more _).1 (by simp) (by rw [zaK hR1.2,zao]) (by decide) (by simp only [length_cons,length_nil]; omega) (fun e he => by rw [mem_singleton] at he; subst he; rfl) rfl rfl ?_;intro c' bx' hR' hlow;obtain ⟨r',rfl⟩:=zcL hlow;refine mS ?_;refine zas (p:=0) (o':=4) (cs:=[c']) (z:=[pI v.kind,pI v.num,pI v.exp,pS v.text,c]) rfl rfl rfl ⟨rfl,Nat.le_of_ble_eq_true rfl⟩ rfl ?_
   refine zae ?_;refine ⟨c',r',_,_,hwe,⟨rfl,rfl,trivial⟩,rfl,cons3 (RwL.apps hR1.2 (fun e he => by rw [mem_singleton] at he; subst he; rfl) hR'),?_⟩;rw [zbX,zar,map_append,<- zar,zc9,zdQ]
   congr 1
   show [erL (vC x)] = _;rw [zap]
  have hwe:withI x ins v s = (zP,false):=by
   unfold withI; rw [if_neg (fun h => hk h.1),if_neg hk,if_neg h8,if_neg h7n]
  by_cases h7:v.kind = 7
  ·refine zaf rfl rfl (beq_iff_eq.2 h7) ?_
   (iterate 4 refine mS ?_);refine zco (k:=v.kids.length) hR1.1 (by rw [zaK hR1.2,zao]) (by decide) rfl rfl ?_;refine zat (b:=true) (args:=[.d (pS s)]) rfl (fun _ => rfl) (fun _ => zcX (T:=T) (hT:=hT) hTen hErr s hs) ?_;refine zal rfl rfl (beq_eq_false_iff_ne.2 (fun h => h7n ⟨h7,h⟩)) ?_;refine mF ?_;refine mQ ?_;refine zag (p:=2) (cs:=[pI 0,pI 0,pI 0,pS [],.sl 1 []]) (z:=[pI 0,pI 0,pI 0,pS [],.sl 1 []]) rfl rfl rfl rfl rfl rfl ?_;refine mN ?_;rw [hwe];exact zab ⟨.inr rfl,[.ag [pI 0,pI 0,pI 0,pS [],.sl 1 []],.d (pB false)],rfl,_,rfl,.inl rfl⟩
  ·refine zal rfl rfl (beq_eq_false_iff_ne.2 h7) ?_
   refine mS ?_;refine mZ ?_;refine mF ?_;refine mQ ?_;refine zag (p:=2) (cs:=[pI 0,pI 0,pI 0,pS [],.sl 1 []]) (z:=[pI 0,pI 0,pI 0,pS [],.sl 1 []]) rfl rfl rfl rfl rfl rfl ?_;refine mN ?_;rw [hwe];exact zab ⟨.inr rfl,[.ag [pI 0,pI 0,pI 0,pS [],.sl 1 []],.d (pB false)],rfl,_,rfl,.inl rfl⟩
 rintro tm bx nt live ⟨c,rest,rows,ks,hw,ht,hbx,hR,her⟩;obtain ⟨tm1,rfl⟩:=zah ht;simp only at hbx hR;subst hbx;refine mO ?_;refine zaa (p:=0) (cs:=[pI v.kind,pI v.num,pI v.exp,pS v.text,c]) rfl rfl rfl rfl ?_;refine zag (p:=2) (cs:=[pI v.kind,pI v.num,pI v.exp,pS v.text,c]) (z:=[pI 0,pI 0,pI 0,pS [],.sl 1 []]) rfl rfl rfl rfl rfl rfl ?_;refine mN ?_;rw [hw];exact zab ⟨.inr rfl,[.ag [pI v.kind,pI v.num,pI v.exp,pS v.text,c],.d (pB true)],rfl,_,rfl,RowG.of (v:=v.withK ks) (cons3 hR) her⟩
theorem two_of {a0 a1:List PC} {r b:LP PC} (h:∀ q,q < 2 -> b[q]? = (a0 :: a1 :: r)[q]?):∃ r',b = a0 :: a1 :: r':=by
 match b,h 0 (by decide),h 1 (by decide) with
 | [],h0,_ => cases h0
 | [_],_,h1 => cases h1
 | x0 :: x1 :: r',h0,h1 =>
  simp only [getElem?_cons_zero,getElem?_cons_succ,sI] at h0 h1
  subst h0; subst h1
  exact ⟨r',rfl⟩
theorem cons2 {live:List Nat} {c:PC} {a0 a1 b0 b1:List PC} {r rows:LP PC} (h:RwL 5 2 live c (a0 :: a1 :: r) rows):RwL 5 2 live c (b0 :: b1 :: r) rows :=
 h.cong lR fun q hq _ => by
  obtain ⟨k,rfl⟩:∃ k,q = k + 2:=⟨q - 2,by omega⟩;rfl
theorem vK_cut (ks:List V) (a b:Nat):(vK ks).take a ++ (vK ks).drop b = vK (ks.take a ++ ks.drop b):=by simp [vK]
def WO (v:V) (r:V × Bool) (s:St):Prop:=∃ c rest ks,r = (v.withK ks,true) /\ has s.tm [(2,.ref 0 0),(4,.ref 1 0)] /\ s.bx = [pI v.kind,pI v.num,pI v.exp,pS v.text,c] :: [pI 0,pI 0,pI 0,pS [],.sl 1 []] :: rest /\ RwL 5 2 s.live c s.bx (vK ks)
theorem outI_fn (hTen:∀ w,T w -> TenTab w) (hErr:∀ w,T w -> ErrTab w) (v:V) (s:L8) (hb:v.kids.length <= 4294967290) (hs:s.length <= 2147483647):FnV (env T hT) 30 [.ag (vC v),.d (pS s)] (.tup [.ag (vC (outI v s).1),.d (pB (outI v s).2)]):=by
 refine FnG.rowA (zaR (zad zfO) (by show 2 <= 41; decide) fun B hB => ?_);unfold m_i_without;refine mO ?_;refine zax (cs:=vC v) rfl ?_;refine mN ?_;refine mO ?_;refine zaa (p:=0) (cs:=vC v) rfl rfl rfl rfl ?_;refine mS ?_;refine zac (args:=[.ag (vC v),.d (pS s)]) (zdX v s) (zdi (T:=T) (hT:=hT) hTen hErr v s (by omega) hs) ?_;refine mN ?_;refine zav (WO v (outI v s)) ?_ ?_
 ·refine zai ?_
  refine mQ ?_;by_cases hk:kidI v s < 0
  ·have hwe:outI v s = (zP,false):=by unfold outI; rw [if_pos (.inl hk)]
   refine zaf rfl rfl (decide_eq_true hk) ?_;refine mS ?_;refine mZ ?_;refine mT ?_;refine mQ ?_;refine zag (p:=1) (cs:=[pI 0,pI 0,pI 0,pS [],.sl 1 []]) (z:=[pI 0,pI 0,pI 0,pS [],.sl 1 []]) rfl rfl rfl rfl rfl rfl ?_;refine mN ?_;rw [hwe];exact zab ⟨.inr rfl,[.ag [pI 0,pI 0,pI 0,pS [],.sl 1 []],.d (pB false)],rfl,_,rfl,.inl rfl⟩
  obtain ⟨i,hi⟩:∃ i:Nat,kidI v s = i:=⟨(kidI v s).toNat,by omega⟩;have hlt:=zaP (show 0 <= kidI v s by omega);have hil:i < v.kids.length:=by omega
  refine zal rfl rfl (decide_eq_false hk) ?_;(iterate 3 refine mS ?_);by_cases h9:v.kind = 9
  ·have hwe:outI v s = (zP,false):=by unfold outI; rw [if_pos (.inr h9)]
   refine zaf rfl rfl (beq_iff_eq.2 h9) ?_;refine mT ?_;refine mQ ?_;refine zag (p:=1) (cs:=[pI 0,pI 0,pI 0,pS [],.sl 1 []]) (z:=[pI 0,pI 0,pI 0,pS [],.sl 1 []]) rfl rfl rfl rfl rfl rfl ?_;refine mN ?_;rw [hwe];exact zab ⟨.inr rfl,[.ag [pI 0,pI 0,pI 0,pS [],.sl 1 []],.d (pB false)],rfl,_,rfl,.inl rfl⟩
  refine zal rfl rfl (beq_eq_false_iff_ne.2 h9) ?_;refine mF ?_;refine mO ?_;(iterate 2 refine mS ?_);by_cases h8:v.kind = 8
  ·have hwe:outI v s = (v.withK (v.kids.take (i - 1) ++ v.kids.drop (i + 1)),true):=by
    unfold outI; rw [if_neg (fun h => h.elim hk h9),if_pos h8,hi,Int.toNat_natCast]
   have hi1:1 <= i:=by
    have h:=kid8 (s:=s) h8
    split at h <;> omega
   refine zaf rfl rfl (beq_iff_eq.2 h8) ?_;refine mT ?_;refine zaj ?_;(iterate 2 refine mS ?_);refine po_g rfl (zdk (T:=T) (hT:=hT) (ks:=v.kids) (by omega) _ 2 []) ?_;rintro y b n l ⟨rfl,rfl,c,rfl,rest,rfl,hR⟩;refine mS ?_;refine zbu (n:=((i - 1:Nat):Int)) rfl rfl rfl (by omega) (by omega) ?_;refine mS ?_;refine zay (n:=((i + 1:Nat):Int)) rfl rfl rfl (by omega) (by omega) ?_;refine po_g rfl (del5_g (T:=T) (hT:=hT) hR (i:=i - 1) (j:=i + 1) (by omega) (by rw [zao]; omega)) ?_;rintro y b n l ⟨rfl,rfl,c',rfl,hR2,hlow⟩;obtain ⟨r',rfl⟩:=two_of hlow;rw [vK_cut] at hR2;refine mS ?_;refine zas (p:=0) (o':=4) (cs:=[c']) (z:=vC v) rfl rfl rfl ⟨rfl,Nat.le_of_ble_eq_true rfl⟩ rfl ?_;refine zae ?_;exact ⟨c',r',_,hwe,⟨rfl,rfl,trivial⟩,rfl,cons2 hR2⟩
  ·have hwe:outI v s = (v.withK (v.kids.take i ++ v.kids.drop (i + 1)),true):=by
    unfold outI; rw [if_neg (fun h => h.elim hk h9),if_neg h8,hi,Int.toNat_natCast]
   refine zal rfl rfl (beq_eq_false_iff_ne.2 h8) ?_;refine mF ?_;refine zaj ?_;(iterate 2 refine mS ?_);refine po_g rfl (zdk (T:=T) (hT:=hT) (ks:=v.kids) (by omega) _ 2 []) ?_;rintro y b n l ⟨rfl,rfl,c,rfl,rest,rfl,hR⟩;(iterate 2 refine mS ?_);refine zay (n:=((i + 1:Nat):Int)) rfl rfl rfl (by omega) (by omega) ?_;refine po_g (by rw [<- hi]; rfl) (del5_g (T:=T) (hT:=hT) hR (i:=i) (j:=i + 1) (by omega) (by rw [zao]; omega)) ?_;rintro y b n l ⟨rfl,rfl,c',rfl,hR2,hlow⟩;obtain ⟨r',rfl⟩:=two_of hlow;rw [vK_cut] at hR2;refine mS ?_;refine zas (p:=0) (o':=4) (cs:=[c']) (z:=vC v) rfl rfl rfl ⟨rfl,Nat.le_of_ble_eq_true rfl⟩ rfl ?_;refine zae ?_;exact ⟨c',r',_,hwe,⟨rfl,rfl,trivial⟩,rfl,cons2 hR2⟩
 rintro tm bx nt live ⟨c,rest,ks,hw,ht,hbx,hR⟩;obtain ⟨tm1,rfl⟩:=zah ht;simp only at hbx hR;subst hbx;refine mO ?_;refine zaa (p:=0) (cs:=[pI v.kind,pI v.num,pI v.exp,pS v.text,c]) rfl rfl rfl rfl ?_;refine zag (p:=1) (cs:=[pI v.kind,pI v.num,pI v.exp,pS v.text,c]) (z:=[pI 0,pI 0,pI 0,pS [],.sl 1 []]) rfl rfl rfl rfl rfl rfl ?_;refine mN ?_;rw [hw];exact zab ⟨.inr rfl,[.ag [pI v.kind,pI v.num,pI v.exp,pS v.text,c],.d (pB true)],rfl,_,rfl,RowG.of (v:=v.withK ks) (cons2 hR) (zc9 ks)⟩
mutual
theorem PC.lw_le {a b:Nat} (h:a <= b):∀ {c:PC},c.lw a -> c.lw b
 | .v _,_ => by simp only [PC.lw]
 | .bld p _ _ _,hc => by simp only [PC.lw] at hc ⊢; omega
 | .anyp,_ => by simp only [PC.lw]
 | .row p _ _,hc => by simp only [PC.lw] at hc ⊢; omega
 | .sl t es,hc => by
  simp only [PC.lw] at hc ⊢;exact lwLL_le h hc
theorem zd2 {a b:Nat} (h:a <= b):∀ {c:List PC},lwL a c -> lwL b c
 | [],_ => by simp only [lwL]
 | c :: cs,hc => by
  simp only [lwL] at hc ⊢;exact ⟨PC.lw_le h hc.1,zd2 h hc.2⟩
theorem lwLL_le {a b:Nat} (h:a <= b):∀ {c:LP PC},lwLL a c -> lwLL b c
 | [],_ => by simp only [lwLL]
 | c :: cs,hc => by
  simp only [lwLL] at hc ⊢;exact ⟨zd2 h hc.1,lwLL_le h hc.2⟩
end
theorem zd3 {α:Type} {bx b:List α} (h:∀ q,q < bx.length -> b[q]? = bx[q]?):∃ rest,b = bx ++ rest:=by
 refine ⟨b.drop bx.length,ext_getElem? fun q => ?_⟩;by_cases hq:q < bx.length
 ·rw [getElem?_append_left hq,h q hq]
 ·rw [getElem?_append_right (by omega),getElem?_drop]
  congr 1; omega
def z6:List PC:=[pI 0,pI 0,pI 0,pS [],.sl 1 []]
def TK (p0 p1:Nat) (b1:LP PC) (nt:Nat) (live:List Nat) (ki:Int) (pr:V × Bool) (s:St):Prop :=
 has s.tm [(3,.ref p0 0),(6,.ref p1 0),(8,.d (pI ki)),(9,.ref b1.length 0),(10,.d (pB pr.2))] /\ s.bx = (b1 ++ [z6]).set b1.length (vC pr.1) /\ nt <= s.nt /\ s.live = live
theorem turn_fn (hTen:∀ w,T w -> TenTab w) (hErr:∀ w,T w -> ErrTab w) {F:Nat} {caps:List PV} {P:LP PC -> Prop} (hP:∀ bx r,P bx -> P (bx ++ r)) {f:V -> L8 -> V × Bool} (hok:okFn (env T hT).P F = true) {M S:Nat} (hM:M <= 4294967290) (hS:S <= 2147483647)
  (hF:∀ (v:V) (s:L8) (bx:LP PC) (nt:Nat) (live:List Nat),P bx -> (∀ cs ∈ bx,lwL 0 cs) -> v.bulk <= M -> s.length <= S -> FnG (env T hT) F (.ag (vC v) :: .d (pS s) :: caps) bx nt live (fun x b n l => x = .tup [.ag (vC (f v s).1),.d (pB (f v s).2)] /\ b = bx /\ nt <= n /\ l = live)) :
  ∀ (st:List (L8)) (v:V) (bx:LP PC) (nt:Nat) (live:List Nat),st ≠ [] -> (∀ s ∈ st,s.length <= S) -> st.length <= 2147483647 -> v.bulk <= M -> P bx -> (∀ cs ∈ bx,lwL 0 cs) ->
   FnG (env T hT) 29 [.ag (vC v),.d (pSs st),.fn F caps] bx nt live (fun x b n l => x = .tup [.ag (vC (turnI f v st).1),.d (pB (turnI f v st).2)] /\ b = bx /\ nt <= n /\ l = live):=by
 intro st
 induction st with
 | nil => intro v bx nt live h; exact absurd rfl h
 | cons s r ih =>
  intro v bx nt live _ hs hl hv hPb hlw;have hsl:s.length <= S:=hs s (by simp);have hkl:v.kids.length <= 4294967290:=by have h:=hv; rw [V.bulk_eq v] at h; omega
  refine FnG.rowAG (fun cs hcs => zd2 (Nat.zero_le _) (hlw cs hcs)) (zaR (zad lk_i_turn) (by show 3 <= 55; decide) fun B hB => ?_);unfold m_i_turn;refine mO ?_;refine zax (cs:=vC v) rfl ?_;refine mN ?_;show mw _ _ _ _ ⟨up 7 (.d (.v (.bool false))) (up 6 (.ref (bx ++ [vC v]).length 0) (up 3 (.ref bx.length 0) _)),bx ++ [vC v] ++ [z6],nt,live⟩;have hP1:P (bx ++ [vC v] ++ [z6]):=hP _ _ (hP _ _ hPb)
  have hlw1:∀ cs ∈ bx ++ [vC v] ++ [z6],lwL 0 cs:=fun cs hcs => by
   rcases mem_append.1 hcs with hcs | hcs
   ·rcases mem_append.1 hcs with hcs | hcs
    ·exact hlw cs hcs
    ·rw [mem_singleton] at hcs; subst hcs; exact vlw (zap v)
   ·rw [mem_singleton] at hcs; subst hcs; exact vlw (v:=zP) rfl
  have h0:(bx ++ [vC v] ++ [z6])[bx.length]? = some (vC v):=by simp
  have h1:(bx ++ [vC v] ++ [z6])[(bx ++ [vC v]).length]? = some z6:=za0 _ _;have hlow:∀ q,q < bx.length -> (bx ++ [vC v] ++ [z6])[q]? = bx[q]?:=fun q hq => by rw [append_assoc,getElem?_append_left hq]
  have hlen:(bx ++ [vC v] ++ [z6]).length = bx.length + 2:=by simp
  have hp1:(bx ++ [vC v]).length = bx.length + 1:=by simp
  generalize bx ++ [vC v] ++ [z6] = b1 at *;generalize (bx ++ [vC v]).length = p1 at *
  cases r with
  | nil =>
   refine mM ?_;refine mS ?_;refine zaA (n:=1) rfl rfl rfl ?_;refine zaf rfl rfl rfl ?_;refine mT ?_;refine mQ ?_;refine zaa (p:=bx.length) (cs:=vC v) rfl rfl h0 rfl ?_;refine mS ?_;refine za4 (es:=pSr [s]) (e:=[pS s]) rfl rfl rfl ⟨by decide,rfl⟩ rfl ?_;refine mS ?_;refine po_vg rfl hok rfl (hF v s b1 nt live hP1 hlw1 hv hsl) ?_;rw [zbZ];generalize f v s = pr;rintro y b n l ⟨rfl,rfl,hn,rfl⟩;(iterate 2 refine mS ?_);refine zag (p:=p1) (cs:=vC pr.1) (z:=z6) rfl rfl h1 rfl rfl rfl ?_;refine mN ?_;obtain ⟨rest,hrest⟩:=zd3 (bx:=bx) (b:=b.set p1 (vC pr.1)) (fun q hq => by rw [getElem?_set_ne (by omega)]; exact hlow q hq)
   exact zab ⟨.inr rfl,[.ag (vC pr.1),.d (pB pr.2)],zcR rfl (getElem?_set_self (by omega)) rfl rfl,_,rest,rfl,hrest,.inl (zap _),hn,fun t h => h⟩
  | cons s2 r2 =>
   refine mM ?_;refine mS ?_;refine zaA (n:=r2.length + 2) rfl rfl (by rw [zaM]; rfl) ?_;refine zal rfl rfl (beq_eq_false_iff_ne.2 (by omega)) ?_;refine mK ?_;refine mO ?_;refine zaa (p:=bx.length) (cs:=vC v) rfl rfl h0 rfl ?_;refine mS ?_;refine za4 (es:=pSr (s :: s2 :: r2)) (e:=[pS s]) rfl rfl rfl ⟨by decide,rfl⟩ rfl ?_;refine mS ?_;refine zac (args:=[.ag (vC v),.d (pS s)]) (zdX v s) (zdi (T:=T) (hT:=hT) hTen hErr v s (by omega) (by omega)) ?_;refine mN ?_;refine mM ?_;refine mS ?_;by_cases hk:kidI v s < 0
   ·refine zaf rfl rfl (decide_eq_true hk) ?_
    refine mT ?_;refine mQ ?_;refine zag (p:=p1) (cs:=z6) (z:=z6) rfl rfl h1 rfl rfl rfl ?_;refine mN ?_;rw [zb7 f v s (by simp) (by omega)];obtain ⟨rest,hrest⟩:=zd3 (bx:=bx) (b:=b1.set p1 z6) (fun q hq => by rw [getElem?_set_ne (by omega)]; exact hlow q hq);exact zab ⟨.inr rfl,[.ag z6,.d (pB false)],zcR rfl (getElem?_set_self (by omega)) rfl rfl,_,rest,rfl,hrest,.inl rfl,lR,fun t h => h⟩
   obtain ⟨i,hi⟩:∃ i:Nat,kidI v s = i:=⟨(kidI v s).toNat,by omega⟩;have hlt:=zaP (show 0 <= kidI v s by omega);have hil:i < v.kids.length:=by omega
   have hkb:v.kids[i].bulk <= M:=V.bulk_get (by rw [V.bulk_eq] at hv; omega) i hil;refine zal rfl rfl (decide_eq_false hk) ?_;refine mK ?_;have hih:=fun b n l hPb hlwb => ih v.kids[i] b n l (by simp) (fun z hz => hs z (by simp [hz])) (by rw [length_cons] at hl; omega) hkb hPb hlwb
   rw [zbx f v s (r:=s2 :: r2) (by simp) hi hil];generalize turnI f v.kids[i] (s2 :: r2) = pr at hih ⊢;refine zav (TK bx.length p1 b1 nt live (kidI v s) pr) ?_ ?_
   ·refine zev (show pt _ (TK bx.length p1 b1 nt live (kidI v s) pr) _ _ from ?_)
    refine zbf ?_;refine mS ?_;refine zaZ (p:=bx.length) (o:=4) (cs:=vC v) (v:=.d (.sl 0 (vK v.kids))) rfl rfl h0 (Nat.le_of_ble_eq_true rfl) rfl ?_;refine mS ?_;refine za4 (es:=vK v.kids) (e:=vC v.kids[i]) rfl rfl rfl ⟨by omega,by rw [hi,Int.toNat_natCast]; exact zbe hil⟩ rfl ?_;(iterate 2 refine mS ?_);refine zbQ (l:=1) (h:=(pSr (s :: s2 :: r2)).length) (es:=pSr (s :: s2 :: r2)) (rs:=pSr (s2 :: r2)) rfl rfl rfl rfl ⟨by rw [zaM]; simp only [length_cons]; omega,lR⟩ (zbp _) (pSr_tl s _) ?_;refine mL ?_;refine zbr ?_;refine zbH ?_ ?_
    ·refine po_g rfl (hih b1 nt live hP1 hlw1) ?_
     rintro y b n l ⟨rfl,rfl,hn,rfl⟩
     repeat' (first
      | exact zbq
      | refine zbH ?_ ?_
      | refine zae ?_
      | refine zbr ?_
      | (refine zcQ ?_; exact ⟨⟨rfl,rfl,rfl,rfl,rfl,trivial⟩,rfl,hn,rfl⟩)
      | refine zbf ?_
      | refine za2 ?_
      | refine zag (p:=b.length) (cs:=vC pr.1) (z:=z6) rfl rfl (za0 _ _) rfl rfl rfl ?_
      | refine po_s rfl rfl rfl ?_)
    ·refine zbH ?_ ?_
     ·refine za2 ?_
      refine zae ?_;refine zbf ?_;refine zae ?_;refine zbr ?_;refine zbH ?_ ?_
      ·show po _ _ _ ⟨_,b1 ++ [z6],nt,live⟩
       refine po_g rfl (hih (b1 ++ [z6]) nt live (hP _ _ hP1) (fun cs hcs => by
        rcases mem_append.1 hcs with hcs | hcs
        ·exact hlw1 cs hcs
        ·rw [mem_singleton] at hcs; subst hcs; exact vlw (v:=zP) rfl)) ?_
       rintro y b n l ⟨rfl,rfl,hn,rfl⟩
       repeat' (first
        | exact zbq
        | refine zbH ?_ ?_
        | refine zae ?_
        | refine zbr ?_
        | (refine zcQ ?_; exact ⟨⟨rfl,rfl,rfl,rfl,rfl,trivial⟩,rfl,hn,rfl⟩)
        | refine zbf ?_
        | refine zag (p:=b1.length) (cs:=vC pr.1) (z:=z6) rfl rfl (za0 _ _) rfl rfl rfl ?_
        | refine po_s rfl rfl rfl ?_)
      ·exact zbq
     ·exact zbq
   rintro tm b n l ⟨ht,hbx,hn,hl⟩;obtain ⟨tm2,rfl⟩:=zah ht;simp only at hbx hn hl;subst hl;clear ht;have g0:b[bx.length]? = some (vC v):=by rw [hbx,getElem?_set_ne (by omega),getElem?_append_left (by omega)]; exact h0
   have g1:b[p1]? = some z6:=by rw [hbx,getElem?_set_ne (by omega),getElem?_append_left (by omega)]; exact h1
   have g2:b[b1.length]? = some (vC pr.1):=by rw [hbx,getElem?_set_self (by simp)]
   have glow:∀ q,q < bx.length -> b[q]? = bx[q]?:=fun q hq => by rw [hbx,getElem?_set_ne (by omega),getElem?_append_left (by omega)]; exact hlow q hq
   have glen:b.length = bx.length + 3:=by rw [hbx,length_set,length_append,hlen]; rfl
   clear hbx;generalize b1.length = p2 at *;obtain ⟨pv,pb⟩:=pr;refine mM ?_;refine mS ?_
   cases pb with
   | false =>
    refine mT ?_;refine mQ ?_;refine zag (p:=p1) (cs:=z6) (z:=z6) rfl rfl g1 rfl rfl rfl ?_;refine mN ?_;obtain ⟨rest,hrest⟩:=zd3 (bx:=bx) (b:=b.set p1 z6) (fun q hq => by rw [getElem?_set_ne (by omega)]; exact glow q hq)
    exact zab ⟨.inr rfl,[.ag z6,.d (pB false)],zcR rfl (getElem?_set_self (by omega)) rfl rfl,_,rest,rfl,hrest,.inl rfl,hn,fun t h => h⟩
   | true =>
    refine mK ?_;refine mQ ?_;refine zaZ (p:=bx.length) (o:=4) (cs:=vC v) (v:=.d (.sl 0 (vK v.kids))) rfl rfl g0 (Nat.le_of_ble_eq_true rfl) rfl ?_;refine po_g rfl (zdk (T:=T) (hT:=hT) (ks:=v.kids) (by omega) b n l) ?_;rintro y b' n' l' ⟨rfl,rfl,c,rfl,rest,rfl,hR⟩;refine mS ?_;have e0:(b ++ rest)[bx.length]? = some (vC v):=by rw [getElem?_append_left (by omega)]; exact g0
    refine zas (p:=bx.length) (o':=4) (cs:=[c]) (z:=vC v) rfl rfl e0 ⟨rfl,Nat.le_of_ble_eq_true rfl⟩ rfl ?_;refine zae ?_;have f0:((b ++ rest).set bx.length (spl (vC v) 4 [c]))[bx.length]? = some [pI v.kind,pI v.num,pI v.exp,pS v.text,c]:=getElem?_set_self (by rw [length_append]; omega);have f1:((b ++ rest).set bx.length (spl (vC v) 4 [c]))[p1]? = some z6:=by rw [getElem?_set_ne (by omega),getElem?_append_left (by omega)]; exact g1
    have f2:((b ++ rest).set bx.length (spl (vC v) 4 [c]))[p2]? = some (vC pv):=by rw [getElem?_set_ne (by omega),getElem?_append_left (by omega)]; exact g2
    have flow:∀ q,q < bx.length -> ((b ++ rest).set bx.length (spl (vC v) 4 [c]))[q]? = bx[q]?:=fun q hq => by rw [getElem?_set_ne (by omega),getElem?_append_left (by omega)]; exact glow q hq
    have fR:RwL 5 b.length l' c ((b ++ rest).set bx.length (spl (vC v) 4 [c])) (vK v.kids):=hR.cong (by simp) (fun q hq _ => getElem?_set_ne (by omega));have flen:b.length <= ((b ++ rest).set bx.length (spl (vC v) 4 [c])).length:=by rw [length_set,length_append]; omega
    generalize (b ++ rest).set bx.length (spl (vC v) 4 [c]) = b3 at *;refine mQ ?_;refine zaZ (p:=bx.length) (o:=4) (cs:=[pI v.kind,pI v.num,pI v.exp,pS v.text,c]) (v:=.d c) rfl rfl f0 (Nat.le_of_ble_eq_true rfl) rfl ?_;refine mS ?_;refine zaa (p:=p2) (cs:=vC pv) rfl rfl f2 rfl ?_;refine zdE (i:=i) fR.1 (by decide) hi (by rw [zaK fR.2,zao]; omega) rfl rfl rfl ?_;intro p len cap z e1 hp hz hzl hlc hfl hil' hfit;subst e1;refine zas (p:=p) (o':=5 * i) (cs:=vC pv) (z:=z) rfl rfl hz ⟨rfl,hfit⟩ rfl ?_;refine zae ?_;have hRs:=fR.set (by decide) (by rw [zao]; exact hil) (show (vC pv).length = 5 from rfl) hz;rw [vK_set] at hRs;have k0:(b3.set p (spl z (5 * i) (vC pv)))[bx.length]? = some [pI v.kind,pI v.num,pI v.exp,pS v.text,.row p len cap]:=by rw [getElem?_set_ne (by omega)]; exact f0
    have k1:(b3.set p (spl z (5 * i) (vC pv)))[p1]? = some z6:=by rw [getElem?_set_ne (by omega)]; exact f1
    have klow:∀ q,q < bx.length -> (b3.set p (spl z (5 * i) (vC pv)))[q]? = bx[q]?:=fun q hq => by rw [getElem?_set_ne (by omega)]; exact flow q hq
    have klen:b.length <= (b3.set p (spl z (5 * i) (vC pv))).length:=by rw [length_set]; exact flen
    generalize b3.set p (spl z (5 * i) (vC pv)) = b4 at *;refine mO ?_;refine zaa (p:=bx.length) (cs:=[pI v.kind,pI v.num,pI v.exp,pS v.text,.row p len cap]) rfl rfl k0 rfl ?_;refine zag (p:=p1) (cs:=[pI v.kind,pI v.num,pI v.exp,pS v.text,.row p len cap]) (z:=z6) rfl rfl k1 rfl rfl rfl ?_;refine mN ?_;obtain ⟨rest5,hrest⟩:=zd3 (bx:=bx) (b:=b4.set p1 [pI v.kind,pI v.num,pI v.exp,pS v.text,.row p len cap]) (fun q hq => by rw [getElem?_set_ne (by omega)]; exact klow q hq);have hR5:=(hRs.cong (bx':=b4.set p1 [pI v.kind,pI v.num,pI v.exp,pS v.text,.row p len cap]) (by simp) (fun q hq _ => getElem?_set_ne (by omega))).low (show bx.length <= b.length by omega);exact zab ⟨.inr rfl,[.ag [pI v.kind,pI v.num,pI v.exp,pS v.text,.row p len cap],.d (pB true)],zcR rfl (getElem?_set_self (by omega)) rfl rfl,_,rest5,rfl,hrest,RowGl.of (v:=v.withK (v.kids.set i pv)) hR5 (zc9 _),hn,fun t h => h⟩
end
section
def m_s_DrawPut:M:=so [⟨some 2,.zero [.int .i64 0,.int .i64 0,.int .i64 0,.string ⟨[].toArray⟩,.slice none 0 0],none,[]⟩,qo 3 (.mv (.c (.slice none 0 0))),⟨some 4,.zero [.int .i64 0,.int .i64 0,.int .i64 0,.string ⟨[].toArray⟩,.slice none 0 0],none,[]⟩] (so [qm 8 0,qc 9 19 [8] 1,qm 5 9] (so [qm 10 5,qc 11 20 [10] 1,⟨some 6,.zero [.int .i64 0,.int .i64 0,.int .i64 0,.string ⟨[].toArray⟩,.slice none 0 0],none,[]⟩,qS 5 6 11] (so [qm 12 5,qL 13 5 6,qc 14 21 [12,13] 1,qm 7 14] (so [qL 15 5 6,qm 16 7,qm 17 5,⟨some 18,.call 22 [17],none,[.f 0,6]⟩,qS 5 2 15,qm 3 16,qS 5 4 18] .ret))))
theorem zfP:look Tryz.prog 5 = some (19,m_s_DrawPut,[.cell true 5 2,.tm 3,.cell true 5 4]):=by kernel_rfl
def m_s_DrawRemove:M:=so [⟨some 2,.zero [.int .i64 0,.int .i64 0,.int .i64 0,.string ⟨[].toArray⟩,.slice none 0 0],none,[]⟩,qo 3 (.mv (.c (.slice none 0 0)))] (so [qm 4 0,qc 5 13 [4] 1,qe 6 5 0,qe 7 5 1,qS 5 2 6,qm 3 7] .ret)
theorem zd4:look Tryz.prog 10 = some (8,m_s_DrawRemove,[.cell true 5 2,.tm 3]):=by kernel_rfl
def m_s_DrawAt:M:=so [⟨some 2,.zero [.int .i64 0,.int .i64 0,.int .i64 0,.string ⟨[].toArray⟩,.slice none 0 0],none,[]⟩,qo 3 (.mv (.c (.slice none 0 0)))] (so [qm 6 0,qc 7 19 [6] 1,qm 4 7] (so [qm 8 4,qc 9 20 [8] 1,⟨some 5,.zero [.int .i64 0,.int .i64 0,.int .i64 0,.string ⟨[].toArray⟩,.slice none 0 0],none,[]⟩,qS 5 5 9] (so [qL 10 5 5,qm 11 4,qL 12 5 5,⟨some 13,.call 21 [11,12],none,[.f 0,5]⟩,qS 5 2 10,qm 3 13] .ret)))
theorem zgA:look Tryz.prog 13 = some (14,m_s_DrawAt,[.cell true 5 2,.tm 3]):=by kernel_rfl
def m_s_l08Steps:M:=so [qo 3 (.box 1),qo 4 (.mv (.c (.slice none 0 0)))] (so [qL 8 5 3,qc 9 40 [8] 1,qm 5 9] (.seq (so [qm 10 5,qo 11 (.len 10),qo 12 (.bin .eql false 11 (ci 0)),qm 13 12,qg 14 0 13 false,⟨some 15,.call 38 [14,ci 8],some (13,false),[.f 1]⟩,qo 16 (.pick 13 (cB true) 15)] (.cond 16 (so [qm 17 0,⟨some 18,.lit 1 [.c (.string ⟨[110,97,109,101].toArray⟩),.c (.string ⟨[48].toArray⟩),.c (.string ⟨[116,97,103].toArray⟩),.c (.string ⟨[126,47].toArray⟩),.c (.string ⟨[45,49].toArray⟩),.c (.string ⟨[48,49].toArray⟩)],none,[]⟩,qc 19 41 [17,18] 1,qo 20 (.lit 1 [19]),qm 4 20] .ret) .skip)) (so [qm 22 5,qm 23 0,qm 24 5,qo 25 (.len 24),qc 26 43 [23,25] 1,qo 27 (.ix 1 22 26),ql 28 1 27,qc 29 42 [28] 1,qm 21 29,qe 30 21 0,qe 31 21 1,qm 6 30,qm 7 31] (.seq (so [qm 32 0,qc 33 43 [32,ci 6] 1] (.block 0 (so [qo 35 (.bin .eql false 33 (ci 0)),qm 34 35] (.cond 34 (.ops [qm 36 6,qm 37 0,⟨some 38,.lit 1 [.c (.string ⟨[110,101,119].toArray⟩),.c (.string ⟨[48].toArray⟩),.c (.string ⟨[49].toArray⟩),.c (.string ⟨[50].toArray⟩),.c (.string ⟨[116,97,103].toArray⟩),.c (.string ⟨[110,97,109,101].toArray⟩)],none,[]⟩,qc 39 41 [37,38] 1,qo 40 (.lit 1 [39]),⟨some 41,.app 1 36 40,none,[.f 1]⟩,qm 6 41]) (so [qo 43 (.bin .eql false 33 (ci 1)),qm 42 43] (.cond 42 (so [qm 44 6,qo 45 (.len 44),qo 46 (.bin .gtr false 45 (ci 0))] (.cond 46 (.ops [qm 47 6,qm 48 6,qo 49 (.len 48),qo 50 (.bin .sub false 49 (ci 1)),qm 51 0,⟨some 52,.lit 1 [.c (.string ⟨[110,101,119].toArray⟩),.c (.string ⟨[48].toArray⟩),.c (.string ⟨[49].toArray⟩),.c (.string ⟨[51].toArray⟩),.c (.string ⟨[110,97,109,101].toArray⟩)],none,[]⟩,qc 53 41 [51,52] 1,qo 54 (.ix 1 47 50),qS 1 54 53]) .skip)) .skip)))))) (so [qm 55 6,qm 4 55] .ret)))))
theorem zeQ:look Tryz.prog 21 = some (56,m_s_l08Steps,[.tm 4]):=by kernel_rfl
end
section
variable {T:World -> Prop} {hT:Low ngl T}
attribute [local irreducible] po mw pt
def AsI (v:V) (st:List (L8)) (M:Nat) (m:Nat) (s:St):Prop:=∃ (i:Nat) (y:V),i <= st.length /\ m = st.length - i /\ has s.tm [(1,.d (pSs st)),(2,.ref 0 0),(4,.ref 1 0),(6,.d (pI i))] /\ s.bx = [vC y,z6] /\ atI y (st.drop i) = atI v st /\ Bw M y
theorem atS_fn (v:V) (st:List (L8)) (hw:v.wf) (hb:v.bulk <= 2147483647) (hl:st.length <= 2147483647) (hs:∀ s ∈ st,s.length <= 2147483647):FnV (env T hT) 15 [.ag (vC v),.d (pSs st)] (atR (atI v st)):=by
 refine za1 (zad lk_s_At) (by show 2 <= 30; decide) fun B hB => ?_
 unfold m_s_At;refine mO ?_;refine zax (cs:=vC v) rfl ?_;refine mN ?_;refine zav (fun s => ∃ y,atI v st = some y /\ Bw v.bulk y /\ has s.tm [(2,.ref 0 0),(4,.ref 1 0)] /\ s.bx = [vC y,z6]) ?_ ?_
 ·refine mP ?_
  refine zai ?_;refine zaJ (AsI v st v.bulk) st.length ⟨0,v,Nat.zero_le _,rfl,⟨rfl,rfl,rfl,rfl,trivial⟩,rfl,by rw [drop_zero],hw,lR⟩ ?_;rintro m tm bx nt live ⟨i,y,hi,rfl,ht,hbx,hat,hy⟩;obtain ⟨tm1,rfl⟩:=zah ht;simp only at hbx; subst hbx
  clear ht;refine mM ?_;(iterate 2 refine mS ?_);refine zaA (n:=st.length) rfl rfl (zaM _) ?_;refine po_b rfl rfl (fun p hp => ?_);refine zae ?_;refine zb9 (p:=(i:Int) < st.length) hp rfl (fun him _ => ?_) (fun him _ => ?_)
  rotate_left
  ·refine zaL ?_
   obtain rfl:i = st.length:=by omega
   rw [drop_length,atI] at hat;exact ⟨y,hat.symm,hy,⟨rfl,rfl,trivial⟩,rfl⟩
  have hil:i < st.length:=by omega
  have hyb:=hy.2;have hyk:=hy.2;rw [V.bulk_eq] at hyk;rw [drop_eq_getElem_cons hil] at hat;refine zau ?_;refine zaD (zai (zaD (zaj ?_)));refine zaa (p:=0) (cs:=vC y) rfl rfl rfl rfl ?_;(iterate 2 refine mS ?_);refine za4 (es:=pSr st) (e:=[pS st[i]]) rfl rfl rfl ⟨by omega,by rw [Int.toNat_natCast]; exact zey hil⟩ rfl ?_;refine mS ?_;refine zac (args:=[.ag (vC y),.d (pS st[i])]) (zdX y st[i]) (zgp (T:=T) (hT:=hT) y st[i] (by omega) (hs _ (getElem_mem hil))) ?_;refine mN ?_;refine mM ?_;refine mS ?_;by_cases hk:kidI y st[i] < 0
  ·refine zaf rfl rfl (decide_eq_true hk) ?_
   refine mT ?_;refine mQ ?_;refine zag (p:=1) (cs:=z6) (z:=z6) rfl rfl rfl rfl rfl rfl ?_;refine mN ?_;rw [atI,dif_neg (by omega)] at hat;rw [<- hat];exact zab ⟨.inr rfl,[.ag z6,.d (pB false)],rfl,rfl⟩
  obtain ⟨k,hkk⟩:∃ k:Nat,kidI y st[i] = k:=⟨(kidI y st[i]).toNat,by omega⟩;have hlt:=zaP (show 0 <= kidI y st[i] by omega);have hkl:k < y.kids.length:=by omega
  refine zal rfl rfl (decide_eq_false hk) ?_;refine mK ?_;refine zaj ?_;(iterate 3 refine mS ?_);refine za4 (es:=vK y.kids) (e:=vC y.kids[k]) rfl rfl rfl ⟨by omega,by rw [hkk,Int.toNat_natCast]; exact zbe hkl⟩ rfl ?_;refine mS ?_;refine zag (p:=0) (cs:=vC y.kids[k]) (z:=vC y) rfl rfl rfl rfl rfl rfl ?_;refine zae ?_;refine zaj ?_;refine mS ?_;refine zay (n:=((i + 1:Nat):Int)) rfl rfl rfl (by omega) (by omega) ?_;refine mN ?_;rw [zbo hkk hkl] at hat;exact ⟨st.length - (i + 1),by omega,i + 1,y.kids[k],hil,rfl,⟨rfl,rfl,rfl,rfl,trivial⟩,rfl,hat,zfk hy hkl⟩
 rintro tm bx nt live ⟨y,hat,hy,ht,hbx⟩;obtain ⟨tm1,rfl⟩:=zah ht;simp only at hbx; subst hbx
 have hyb:=hy.2;refine mO ?_;refine zaa (p:=0) (cs:=vC y) rfl rfl rfl rfl ?_;refine zac (zaI y) (zbD (T:=T) (hT:=hT) y hy.1 (by omega)) ?_;refine zag (p:=1) (cs:=vC y) (z:=z6) rfl rfl rfl rfl rfl rfl ?_;refine mN ?_;rw [hat];exact zab ⟨.inr rfl,[.ag (vC y),.d (pB true)],rfl,congrArg (fun l => some (PV.tup [.ag l,.d (pB true)])) (zap _)⟩
/-! ### steps -/
def StP (v:V) (st:List (L8)):Prop:=st.length <= 13 /\ (∀ s ∈ st,s.length <= 2000) /\ (v.ok = false -> stepsOk st = true)
def QS (v:V):Nat -> List Nat -> PV -> Nat -> List Nat -> Prop:=fun nt live x n l => ∃ st,x = .d (pSs st) /\ StP v st /\ NR nt live n l []
theorem pSr_lw0:∀ st:List (L8),lwLL 0 (pSr st)
 | [] => trivial
 | _ :: st => ⟨⟨trivial,trivial⟩,pSr_lw0 st⟩
theorem stL_lw0:∀ st:List (L8),lwL 0 (stL st)
 | [] => trivial
 | _ :: st => ⟨trivial,stL_lw0 st⟩
theorem stL_set (st:List (L8)) (i:Nat) (s:L8):stL (st.set i s) = (stL st).set i (pS s):=by
 unfold stL; rw [map_set,map_set]; rfl
theorem tup_shB (k:Nat) (c:PC) (ok:Bool):PV.shB k (.tup [.d c,.d (pB ok)]) = .tup [.d (c.shB k),.d (pB ok)]:=by
 simp only [PV.shB,shBs];rw [zdD (c:=pB ok) trivial]
def chkS (s:L8):Bool:=stepOk s && decide (s.length <= 4)
def SS (b:L8) (v:V) (nt:Nat) (live:List Nat) (s:St):Prop:=∃ cu c rest st,Cu b cu /\ has s.tm [(6,.d c)] /\ s.bx = cu :: vC v :: rest /\ RwAt 1 1 s.live c s.bx (stL st) /\ st.length <= 13 /\ (∀ k ∈ st,k.length <= 2000) /\ NR nt live s.nt s.live []
theorem zfQ {b:L8} (hb:b.length <= 2147483647) (v:V) (hw:v.wf) (hvb:v.bulk <= 4294967295):Drw (env T hT) b 21 [.ag (vC v)] (QS v):=by
 rintro c nt live hc hn
 have hmain:FnG (env T hT) 21 [.ref 0 0,.ag (vC v)] [c] nt live (fun x b1 n l => ∃ c b0 rest st,x = .d c /\ b1 = b0 ++ rest /\ b0.length = [c].length /\ (∀ cs ∈ b0,lwL b0.length cs) /\ (c.er = pSs st \/ RwAt 1 b0.length l c b1 (stL st)) /\ NR nt live n l [] /\ (∃ c',b0 = [c'] /\ Cu b c' /\ StP v st)):=by
  refine zaR (zad zeQ) (by show 2 <= 56; decide) fun B hB => ?_
  unfold m_s_l08Steps;refine mO ?_;refine zax (cs:=vC v) rfl ?_;refine mN ?_;refine mO ?_;refine zaa (p:=1) (cs:=vC v) rfl rfl rfl rfl ?_;refine zac (zaI v) (pathsS_fn (T:=T) (hT:=hT) v hw hvb) ?_;refine mN ?_;have hpos:=pthV_pos (v:=v);have hplen:=pthV_len v
  have hlwc:∀ {cu:List PC},Cu b cu -> ∀ cs ∈ [cu],lwL 1 cs:=fun hcu cs hcs => by
   rw [mem_singleton] at hcs; subst hcs
   exact zd2 (Nat.zero_le _) hcu.lw
  refine zav (fun s => ∃ cu,Cu b cu /\ v.ok = true /\ has s.tm [(0,.ref 0 0),(5,.d (pSs (pthV v)))] /\ s.bx = [cu,vC v] /\ NR nt live s.nt s.live []) ?_ ?_
  ·refine mQ ?_
   refine zaA (n:=(pthV v).length) rfl rfl (zaM _) ?_;by_cases hz:(pthV v).length = 0
   ·refine zaf rfl rfl (beq_iff_eq.2 (by omega)) ?_
    refine mS ?_;refine mZ ?_;refine mT ?_;refine mQ ?_;refine zaC rfl ?_;refine po_g rfl ((zb3 (T:=T) (hT:=hT) hb chkS rfl (by show 0 < 6; decide)).use ⟨by simp only [PV.lw,PC.lw]; exact zcp (p:=chkS) rfl,trivial⟩ hc (by omega) (p:=0) rfl) ?_;rintro x bx n1 l1 ⟨c1,rfl,hc1,s,rfl,hs,hN1⟩;unfold chkS at hs;simp only [Bool.and_eq_true,decide_eq_true_eq] at hs;have hN:=((NR.refl nt live).up).pass hN1;refine zaC (es:=[[pS s]]) rfl ?_;refine mN ?_;refine zab ⟨.inr rfl,[.d (.sl n1 [[pS s]])],rfl,.sl n1 [[pS s]],[c1],[vC v],[s],rfl,rfl,rfl,hlwc hc1,.inl rfl,hN.up,c1,rfl,hc1,by simp,fun k hk => by rw [mem_singleton] at hk; subst hk; omega,fun _ => by unfold stepsOk; simp [hs.1]⟩
   refine zal rfl rfl (beq_eq_false_iff_ne.2 (by omega)) ?_;(iterate 2 refine mS ?_);refine po_gt rfl rfl ((zcG (T:=T) (hT:=hT) hb 8).use ⟨trivial,trivial⟩ hc hn (p:=0) rfl) ?_;rintro x bx n1 l1 ⟨c1,rfl,hc1,q,rfl,hN1⟩
   cases q with
   | true =>
    refine mT ?_;refine mQ ?_;refine zaC rfl ?_;refine po_g rfl ((zb3 (T:=T) (hT:=hT) hb chkS rfl (by show 0 < 6; decide)).use ⟨by simp only [PV.lw,PC.lw]; exact zcp (p:=chkS) rfl,trivial⟩ hc1 (by have:=hN1.n2 hn; omega) (p:=0) rfl) ?_;rintro x bx n2 l2 ⟨c2,rfl,hc2,s,rfl,hs,hN2⟩;unfold chkS at hs;simp only [Bool.and_eq_true,decide_eq_true_eq] at hs;have hN:=(hN1.up).pass hN2;refine zaC (es:=[[pS s]]) rfl ?_;refine mN ?_
    refine zab ⟨.inr rfl,[.d (.sl n2 [[pS s]])],rfl,.sl n2 [[pS s]],[c2],[vC v],[s],rfl,rfl,rfl,hlwc hc2,.inl rfl,hN.up,c2,rfl,hc2,by simp,fun k hk => by rw [mem_singleton] at hk; subst hk; omega,fun _ => by unfold stepsOk; simp [hs.1]⟩
   | false =>
    refine mK ?_;exact ⟨c1,hc1,hpos.1 (by omega),⟨rfl,rfl,trivial⟩,rfl,hN1⟩
  rintro tm bx n1 l1 ⟨c1,hc1,hok,ht,hbx,hN⟩;obtain ⟨tm1,rfl⟩:=zah ht;simp only at hbx hN; subst hbx
  clear ht hc;have hp0:0 < (pthV v).length:=hpos.2 hok;refine mO ?_;(iterate 3 refine mS ?_);refine zaA (n:=(pthV v).length) rfl rfl (zaM _) ?_;refine po_g rfl ((zba (T:=T) (hT:=hT) hb ((pthV v).length:Int)).use ⟨trivial,trivial⟩ hc1 (hN.n2 hn) (p:=0) rfl) ?_;rintro x bx n2 l2 ⟨c2,rfl,hc2,r,rfl,r0,r1,hN2⟩;have hN:=hN.pass hN2;have hrl:r.toNat < (pthV v).length:=by omega
  refine za4 (es:=pSr (pthV v)) (e:=[pS (pthV v)[r.toNat]]) rfl rfl rfl ⟨r0,zey hrl⟩ rfl ?_;refine mS ?_;have hul:=pthV_put (getElem_mem hrl);generalize (pthV v)[r.toNat] = u at hul;refine po_g rfl (FnG.toks (FnG.liftR (getPathB_g (T:=T) (hT:=hT) u (by omega) n2 l2) ⟨trivial,trivial⟩)) ?_
  obtain ⟨out,hout,hol⟩:∃ out,gpL (getPS u) = out /\ (out.length <= 12 /\ ∀ k ∈ out,k.length <= 2000):=by
   cases hg:getPS u with
   | none => exact ⟨[],rfl,by decide,fun k hk => by cases hk⟩
   | some ys => exact ⟨ys,rfl,getPS_ok hg⟩
  rw [hout];generalize gpB (getPS u) = ok;rintro x bx n3 l3 ⟨⟨x0,b0,rfl,rfl,cr,rfl,hR0,hn3,hl3⟩,htk⟩;have hR1:=(hR0.shB (bx:=[c2,vC v]) (k:=2) (stL_lw0 out) rfl);rw [tup_shB];show po _ _ _ ⟨up 29 (.tup [.d (cr.shB 2),.d (pB ok)]) _,[c2,vC v] ++ b0.map (·.map (PC.shB 2)),_,_⟩;generalize cr.shB 2 = cr at hR1;obtain ⟨rest,hrest⟩:∃ rest,b0.map (·.map (PC.shB 2)) = rest:=⟨_,rfl⟩;rw [hrest] at hR1 ⊢;have hR2:RwAt 1 2 l3 cr (c2 :: vC v :: rest) (stL out):=hR1;clear hR1 hR0 hrest;show po _ _ _ ⟨_,c2 :: vC v :: rest,_,_⟩;have hN:=hN.mono hn3 (fun t ht _ _ => hl3 t ht);refine mN ?_;refine zav (SS b v nt live) ?_ ?_
  ·refine mQ ?_
   refine po_g rfl ((zba (T:=T) (hT:=hT) hb 6).use ⟨trivial,trivial⟩ hc2 (hN.n2 hn) (p:=0) rfl) ?_;rintro x bx n4 l4 ⟨c4,rfl,hc4,q,rfl,q0,q1,hN4⟩
   have hR4:RwAt 1 2 l4 cr (c4 :: vC v :: rest) (stL out):=RwAt.mono (hR2.cong (by simp) (fun q hq _ => by
    obtain ⟨k,rfl⟩:∃ k,q = k + 1:=⟨q - 1,by omega⟩
    rfl)) (fun t ht => hN4.keep t ht (htk t ht).1 (htk t ht).2)
   have htk4:=htk;have hN5:=hN.pass hN4;refine zae ?_;refine zai ?_;refine mO ?_;by_cases hq0:q = 0
   ·refine zaf rfl rfl (beq_iff_eq.2 hq0) ?_
    refine mT ?_;refine zaj ?_;(iterate 2 refine mS ?_);refine zaC rfl ?_;refine po_g rfl (FnG.toks ((zb3 (T:=T) (hT:=hT) hb chkS rfl (by show 0 < 6; decide)).use ⟨by simp only [PV.lw,PC.lw]; exact zcp (p:=chkS) rfl,trivial⟩ hc4 (by have:=hN5.n2 hn; omega) (p:=0) rfl)) ?_;rintro x bx n6 l6 ⟨⟨c6,rfl,hc6,s,rfl,hs,hN6⟩,htk6⟩;unfold chkS at hs;simp only [Bool.and_eq_true,decide_eq_true_eq] at hs;have hN7:=(hN5.up).pass hN6;have hle4:=hN4.le
    have hR6:RwAt 1 2 l6 cr (c6 :: vC v :: rest) (stL out):=by
     have h0:RwAt 1 2 l3 cr (c6 :: vC v :: rest) (stL out):=hR2.cong (by simp) (fun q hq _ => by
      obtain ⟨k,rfl⟩:∃ k,q = k + 1:=⟨q - 1,by omega⟩
      rfl)
     exact RwAt.mono h0 (fun t ht => hN6.keep t (mem_cons_of_mem _ (hN4.keep t ht (htk t ht).1 (htk t ht).2)) (htk t ht).1 (by have:=(htk t ht).2; omega))
    refine zaC (es:=[[pS s]]) rfl ?_;refine zdF (m:=out.length) (ds:=[[pS s]]) (RwAt.mono hR6 fun t ht => mem_cons_of_mem _ ht) (by simp) (by rw [zbg,Nat.one_mul]) (by decide) (by simp only [length_singleton]; omega) (fun e he => by rw [mem_singleton] at he; subst he; rfl) rfl rfl ?_;intro c' bx' hR' hlow;obtain ⟨r',rfl⟩:=two_of hlow;refine mN ?_;refine ⟨c6,c',r',out ++ [s],hc6,⟨rfl,trivial⟩,rfl,?_,by rw [length_append,length_singleton]; omega,fun k hk => ?_,hN7.up⟩
    ·rw [stL_snoc]; exact ⟨by simp,hR'.2.imp id fun ⟨p,len,cap,z,a,b,r⟩ => ⟨p,len,cap,z,a,by omega,r⟩⟩
    ·rcases mem_append.1 hk with hk | hk
     ·exact hol.2 k hk
     ·rw [mem_singleton] at hk; subst hk; omega
   refine zal rfl rfl (beq_eq_false_iff_ne.2 hq0) ?_;refine mF ?_;refine mO ?_;have hlow1:∀ {l:List Nat} {c:PC} {bb:LP PC} {cells:List PC},RwAt 1 2 l c bb cells -> RwAt 1 1 l c bb cells:=fun h => ⟨by have:=h.1; omega,h.2.imp id fun ⟨p,len,cap,z,a,b,r⟩ => ⟨p,len,cap,z,a,by omega,r⟩⟩
   by_cases hq1:q = 1
   ·refine zaf rfl rfl (beq_iff_eq.2 hq1) ?_
    refine mT ?_;refine mQ ?_;refine zco (k:=out.length) hR4 (by rw [zbg,Nat.one_mul]) (by decide) rfl rfl ?_;by_cases ho:out = []
    ·refine zal rfl rfl (decide_eq_false (by rw [ho]; simp)) ?_
     refine mK ?_;exact ⟨c4,cr,rest,out,hc4,⟨rfl,trivial⟩,rfl,hlow1 hR4,by omega,hol.2,hN5⟩
    have hop:=length_pos_iff.2 ho;refine zaf rfl rfl (decide_eq_true (by omega)) ?_;refine mT ?_;refine zaj ?_;(iterate 2 refine mS ?_);refine zco (k:=out.length) hR4 (by rw [zbg,Nat.one_mul]) (by decide) rfl rfl ?_;refine zbu (n:=((out.length - 1:Nat):Int)) rfl rfl rfl (by omega) (by omega) ?_;refine mS ?_;refine zaC rfl ?_;refine po_g rfl (FnG.toks ((zb3 (T:=T) (hT:=hT) hb chkS rfl (by show 0 < 5; decide)).use ⟨by simp only [PV.lw,PC.lw]; exact zcp (p:=chkS) rfl,trivial⟩ hc4 (by have:=hN5.n2 hn; omega) (p:=0) rfl)) ?_;rintro x bx n6 l6 ⟨⟨c6,rfl,hc6,s,rfl,hs,hN6⟩,htk6⟩;unfold chkS at hs;simp only [Bool.and_eq_true,decide_eq_true_eq] at hs;have hN7:=(hN5.up).pass hN6;have hle4:=hN4.le
    have hR6:RwAt 1 2 l6 cr (c6 :: vC v :: rest) (stL out):=by
     have h0:RwAt 1 2 l3 cr (c6 :: vC v :: rest) (stL out):=hR2.cong (by simp) (fun q hq _ => by
      obtain ⟨k,rfl⟩:∃ k,q = k + 1:=⟨q - 1,by omega⟩
      rfl)
     exact RwAt.mono h0 (fun t ht => hN6.keep t (mem_cons_of_mem _ (hN4.keep t ht (htk t ht).1 (htk t ht).2)) (htk t ht).1 (by have:=(htk t ht).2; omega))
    refine zdE (i:=out.length - 1) hR6 (by decide) rfl (by rw [zbg]; omega) rfl rfl rfl ?_;intro p len cap z e3 h3 h4 h5 h6 h7 h8 h9;refine zas (p:=p) (o':=1 * (out.length - 1)) (cs:=[pS s]) (z:=z) rfl rfl h4 ⟨rfl,h9⟩ rfl ?_;refine zae ?_;have hset:=RwAt.set (live:=l6) (o:=1 * (out.length - 1)) (v:=pS s) hR6.1 h3 h4 h5 h6 (by omega);rw [<- h7,<- e3,Nat.one_mul,<- stL_set] at hset;have hlow:=fun (q:Nat) (hq:q < 2) => getElem?_set_ne (l:=c6 :: vC v :: rest) (a:=spl z (out.length - 1) [pS s]) (show p ≠ q by omega)
    obtain ⟨r',hr'⟩:=two_of hlow;refine ⟨c6,cr,r',out.set (out.length - 1) s,hc6,⟨rfl,trivial⟩,?_,?_,by rw [length_set]; omega,fun k hk => ?_,hN7⟩
    ·rw [Nat.one_mul]; exact hr'
    ·rw [Nat.one_mul]; exact hlow1 hset
    ·rcases mem_or_eq_of_mem_set hk with hk | rfl
     ·exact hol.2 k hk
     ·omega
   refine zal rfl rfl (beq_eq_false_iff_ne.2 hq1) ?_;refine mK ?_;exact ⟨c4,cr,rest,out,hc4,⟨rfl,trivial⟩,rfl,hlow1 hR4,by omega,hol.2,hN5⟩
  rintro tm bx n5 l5 ⟨cu,c5,rest5,st,hcu,ht,hbx,hR5,h13,h2000,hN5⟩;obtain ⟨tm2,rfl⟩:=zah ht;simp only at hbx hR5 hN5; subst hbx
  refine mP ?_;exact zab ⟨.inr rfl,[.d c5],rfl,c5,[cu],vC v :: rest5,st,rfl,rfl,rfl,hlwc hcu,.inr hR5,hN5,cu,rfl,hcu,h13,h2000,fun h => by rw [hok] at h; cases h⟩
 refine (FnG.rowD (Q:=fun b0 st => ∃ c',b0 = [c'] /\ Cu b c' /\ StP v st) hmain).mono ?_;rintro x b' n l ⟨st,rfl,⟨c',rfl,hc',hst⟩,hnn,rfl⟩;exact ⟨c',[],rfl,pSr_lw0 st,hc'.lw,hc',st,rfl,hst,(NR.refl nt l).mono hnn (fun t ht _ _ => ht)⟩
end
section
def m_l_same:M:=so [qo 2 (.box 0),qo 3 (.box 1),qo 4 (.mv (cB false))] (.seq (so [qF 6 0 2,ql 7 1 6,qF 8 0 3,ql 9 1 8,qo 10 (.bin .neq false 7 9),qm 11 10,⟨some 12,.fld 1 2,some (11,false),[]⟩,⟨some 13,.load false 1 12,some (11,false),[]⟩,⟨some 14,.fld 1 3,some (11,false),[]⟩,⟨some 15,.load false 1 14,some (11,false),[]⟩,⟨some 16,.bin .neq false 13 15,some (11,false),[]⟩,qo 17 (.pick 11 (cB true) 16),qm 18 17,⟨some 19,.fld 2 2,some (18,false),[]⟩,⟨some 20,.load false 1 19,some (18,false),[]⟩,⟨some 21,.fld 2 3,some (18,false),[]⟩,⟨some 22,.load false 1 21,some (18,false),[]⟩,⟨some 23,.bin .neq false 20 22,some (18,false),[]⟩,qo 24 (.pick 18 (cB true) 23),qm 25 24,⟨some 26,.fld 3 2,some (25,false),[]⟩,⟨some 27,.load false 1 26,some (25,false),[]⟩,⟨some 28,.fld 3 3,some (25,false),[]⟩,⟨some 29,.load false 1 28,some (25,false),[]⟩,⟨some 30,.bin .neq false 27 29,some (25,false),[]⟩,qo 31 (.pick 25 (cB true) 30),qm 32 31,⟨some 33,.fld 4 2,some (32,false),[]⟩,⟨some 34,.load false 1 33,some (32,false),[]⟩,⟨some 35,.len 34,some (32,false),[]⟩,⟨some 36,.fld 4 3,some (32,false),[]⟩,⟨some 37,.load false 1 36,some (32,false),[]⟩,⟨some 38,.len 37,some (32,false),[]⟩,⟨some 39,.bin .neq false 35 38,some (32,false),[]⟩,qo 40 (.pick 32 (cB true) 39)] (.cond 40 (so [qo 4 (.mv (cB false))] .ret) .skip)) (.seq (so [qo 5 (.mv (ci 0))] (.block 0 (.loop (.seq (so [qm 41 5,qF 42 4 2,ql 43 1 42,qo 44 (.len 43),qo 45 (.bin .lss false 41 44)] (.cond 45 .skip (.exit 0))) (.seq (.block 1 (so [qF 48 4 2,ql 49 1 48,qm 50 5,qo 51 (.ix 5 49 50),qL 52 5 51,qF 53 4 3,ql 54 1 53,qm 55 5,qo 56 (.ix 5 54 55),qL 57 5 56,qc 58 16 [52,57] 0,qo 59 (.not 58)] (.cond 59 (so [qo 4 (.mv (cB false))] .ret) .skip))) (.ops [qm 46 5,qo 47 (.bin .add false 46 (ci 1)),qm 5 47])))))) (so [qo 4 (.mv (cB true))] .ret)))
theorem lk_l_same:look Tryz.prog 16 = some (60,m_l_same,[.tm 4]):=by kernel_rfl
end
section
variable {T:World -> Prop} {hT:Low ngl T}
attribute [local irreducible] po mw pt
def SmP (T:World -> Prop) (hT:Low ngl T) (N:Nat):Prop:=∀ a b:V,a.nodes <= N -> a.bulk <= 4294967295 -> FnV (env T hT) 16 [.ag (vC a),.ag (vC b)] (.d (pB (decide (a = b))))
def SmL (a b:V) (m:Nat) (st:St):Prop:=∃ i:Nat,i <= a.kids.length /\ m = a.kids.length - i /\ has st.tm [(2,.ref 0 0),(3,.ref 1 0),(5,.d (pI i))] /\ st.bx = [vC a,vC b] /\ a.kids.take i = b.kids.take i
theorem V.ext5 {a b:V}:a = b ↔ a.kind = b.kind /\ a.num = b.num /\ a.exp = b.exp /\ a.text = b.text /\ a.kids = b.kids:=by
 obtain ⟨k,n,e,s,ks⟩:=a;obtain ⟨k',n',e',s',ks'⟩:=b;simp only [V.mk.injEq,V.kind,V.num,V.exp,V.text,V.kids]
theorem same_step {N:Nat} (ih:SmP T hT N):SmP T hT (N + 1):=by
 intro a b hn hbk
 have hkl:a.kids.length + V.bulks a.kids <= 4294967295:=by
  obtain ⟨k,n,e,s,ks⟩:=a;simp only [V.bulk] at hbk; show ks.length + V.bulks ks <= _; omega
 refine za1 (zad lk_l_same) (by show 2 <= 60; decide) fun B hB => ?_
 unfold m_l_same;refine mO ?_;refine zax (cs:=vC a) rfl ?_;refine zax (cs:=vC b) rfl ?_;refine mN ?_;refine zav (fun st => has st.tm [(2,.ref 0 0),(3,.ref 1 0)] /\ st.bx = [vC a,vC b] /\ a.kind = b.kind /\ a.num = b.num /\ a.exp = b.exp /\ a.text = b.text /\ a.kids.length = b.kids.length) ?_ ?_
 ·refine zav (fun st => has st.tm [(2,.ref 0 0),(3,.ref 1 0),(40,.d (pB (!(decide (a.kind = b.kind /\ a.num = b.num /\ a.exp = b.exp /\ a.text = b.text /\ a.kids.length = b.kids.length)))))] /\ st.bx = [vC a,vC b]) ?_ ?_
  ·refine zaj ?_
   (iterate 4 refine mS ?_);by_cases h0:a.kind = b.kind
   case neg =>
    refine zaf rfl rfl (bne_iff_ne.2 h0) ?_;refine mS ?_;refine mZ ?_;(iterate 2 refine mS ?_);refine mZ ?_;(iterate 2 refine mS ?_);refine mZ ?_;(iterate 2 refine mS ?_);refine mZ ?_;refine mN ?_;exact ⟨⟨rfl,rfl,by rw [decide_eq_false (by omega)]; rfl,trivial⟩,rfl⟩
   refine zal rfl rfl (by rw [h0]; exact bne_self_eq_false _) ?_;refine mS ?_;(iterate 4 refine mS ?_);by_cases h1:a.num = b.num
   case neg =>
    refine zaf rfl rfl (bne_iff_ne.2 h1) ?_;(iterate 2 refine mS ?_);refine mZ ?_;(iterate 2 refine mS ?_);refine mZ ?_;(iterate 2 refine mS ?_);refine mZ ?_;refine mN ?_;exact ⟨⟨rfl,rfl,by rw [decide_eq_false (by omega)]; rfl,trivial⟩,rfl⟩
   refine zal rfl rfl (by rw [h1]; exact bne_self_eq_false _) ?_;(iterate 2 refine mS ?_);(iterate 4 refine mS ?_);by_cases h2:a.exp = b.exp
   case neg =>
    refine zaf rfl rfl (bne_iff_ne.2 h2) ?_;(iterate 2 refine mS ?_);refine mZ ?_;(iterate 2 refine mS ?_);refine mZ ?_;refine mN ?_;exact ⟨⟨rfl,rfl,by rw [decide_eq_false (by omega)]; rfl,trivial⟩,rfl⟩
   refine zal rfl rfl (by rw [h2]; exact bne_self_eq_false _) ?_;(iterate 2 refine mS ?_);(iterate 4 refine mS ?_);by_cases h3:a.text = b.text
   case neg =>
    refine po_neS (la:=a.text) (lb:=b.text) rfl rfl rfl (decide_eq_true h3) ?_;(iterate 2 refine mS ?_);refine mZ ?_;refine mN ?_;exact ⟨⟨rfl,rfl,by rw [decide_eq_false (fun h => h3 h.2.2.2.1)]; rfl,trivial⟩,rfl⟩
   refine po_neS (la:=a.text) (lb:=b.text) rfl rfl rfl (decide_eq_false (fun h => h h3)) ?_;(iterate 2 refine mS ?_);(iterate 2 refine mS ?_);refine zaA (n:=a.kids.length) rfl rfl (zao _) ?_;(iterate 2 refine mS ?_);refine zaA (n:=b.kids.length) rfl rfl (zao _) ?_;by_cases h4:a.kids.length = b.kids.length
   ·refine zal rfl rfl (by rw [h4]; exact bne_self_eq_false _) ?_
    refine mN ?_;exact ⟨⟨rfl,rfl,by rw [decide_eq_true ⟨h0,h1,h2,h3,h4⟩]; rfl,trivial⟩,rfl⟩
   ·refine zaf rfl rfl (bne_iff_ne.2 (show ((a.kids.length:Nat):Int) ≠ b.kids.length by omega)) ?_
    refine mN ?_;exact ⟨⟨rfl,rfl,by rw [decide_eq_false (fun h => h4 h.2.2.2.2)]; rfl,trivial⟩,rfl⟩
  rintro tm bx nt live ⟨ht,hbx⟩;obtain ⟨tm0,rfl⟩:=zah ht;simp only at hbx; subst hbx
  clear ht;by_cases hh:a.kind = b.kind /\ a.num = b.num /\ a.exp = b.exp /\ a.text = b.text /\ a.kids.length = b.kids.length
  ·rw [decide_eq_true hh]
   refine mwF ?_;refine zau ?_;exact ⟨⟨rfl,rfl,trivial⟩,rfl,hh⟩
  ·rw [decide_eq_false hh]
   refine mwT ?_;refine mP ?_;refine zab ⟨.inr rfl,[.d (pB false)],rfl,?_⟩;rw [decide_eq_false (fun h => hh (by subst h; exact ⟨rfl,rfl,rfl,rfl,rfl⟩))]; rfl
 rintro tm bx nt live ⟨ht,hbx,h0,h1,h2,h3,h4⟩;obtain ⟨tm0,rfl⟩:=zah ht;simp only at hbx; subst hbx
 clear ht;refine zav (fun st => a.kids = b.kids) ?_ ?_
 ·refine mP ?_
  refine zai ?_;refine zaJ (SmL a b) a.kids.length ⟨0,Nat.zero_le _,rfl,⟨rfl,rfl,rfl,trivial⟩,rfl,rfl⟩ ?_;rintro m tm bx nt live ⟨i,hi,rfl,ht,hbx,htk⟩;obtain ⟨tm1,rfl⟩:=zah ht;simp only at hbx; subst hbx
  clear ht tm0;refine mM ?_;(iterate 3 refine mS ?_);refine zaA (n:=a.kids.length) rfl rfl (zao _) ?_;refine po_b rfl rfl (fun q hq => ?_);refine zae ?_;refine zb9 (p:=(i:Int) < a.kids.length) hq rfl (fun him _ => ?_) (fun him _ => ?_)
  rotate_left
  ·refine zaL ?_
   have:i = a.kids.length:=by omega
   subst this;rw [take_length,h4,take_length] at htk; exact htk
  have hia:i < a.kids.length:=by omega
  have hib:i < b.kids.length:=by omega
  refine zau ?_;refine zaD (zai ?_);refine mO ?_;(iterate 3 refine mS ?_);refine za4 (es:=vK a.kids) (e:=vC a.kids[i]) rfl rfl rfl ⟨by omega,by rw [Int.toNat_natCast]; exact zbe hia⟩ rfl ?_;(iterate 4 refine mS ?_);refine za4 (es:=vK b.kids) (e:=vC b.kids[i]) rfl rfl rfl ⟨by omega,by rw [Int.toNat_natCast]; exact zbe hib⟩ rfl ?_;refine mS ?_;refine zac (dats2 (zap _) (zap _)) (ih a.kids[i] b.kids[i] (V.nodes_kid hn i hia) (V.bulk_get hkl i hia)) ?_;by_cases hk:a.kids[i] = b.kids[i]
  ·rw [decide_eq_true hk]
   refine mK ?_;refine zaj ?_;refine mS ?_;refine zay (n:=((i + 1:Nat):Int)) rfl rfl rfl (by omega) (by omega) ?_;refine mN ?_;exact ⟨_,by show a.kids.length - (i + 1) < a.kids.length - i; omega,i + 1,by omega,rfl,⟨rfl,rfl,rfl,trivial⟩,rfl,by rw [take_succ_eq_append_getElem hia,take_succ_eq_append_getElem hib,htk,hk]⟩
  ·rw [decide_eq_false hk]
   refine mT ?_;refine mP ?_;refine zab ⟨.inr rfl,[.d (pB false)],rfl,?_⟩;rw [decide_eq_false (fun h => hk (by subst h; rfl))]; rfl
 rintro tm bx nt live hks;refine mP ?_;refine zab ⟨.inr rfl,[.d (pB true)],rfl,?_⟩;rw [decide_eq_true (V.ext5.2 ⟨h0,h1,h2,h3,hks⟩)]; rfl
theorem lsame_fn (a b:V) (hb:a.bulk <= 4294967295):FnV (env T hT) 16 [.ag (vC a),.ag (vC b)] (.d (pB (decide (a = b)))):=by
 have all:∀ N,SmP T hT N:=by
  intro N
  induction N with
  | zero => intro a b hn; have:=a.nodes_pos; omega
  | succ N ih => exact same_step ih
 exact all a.nodes a b lR hb
theorem ress_btb {tm:Nat -> PV} {bx:LP PC} {nt:Nat} {live:List Nat} {n m t p t2 t3 q:Nat} {cs ds:List PC} {v:PV} (ht:tm t = .ref p 0) (hb:bx[p]? = some cs) (hn:cs.length = n) (h2:tm t2 = v) (h3:tm t3 = .ref q 0) (hb3:bx[q]? = some ds) (hn3:ds.length = m):ressM ⟨tm,bx,nt,live⟩ [.cell true n t,.tm t2,.cell true m t3] = some [.ag cs,v,.ag ds]:=by
 simp only [ressM,resM,ht,hb,h3,hb3,Nat.zero_add,drop_zero,ldv,hn,hn3,Nat.le_refl,if_true,h2];rw [<- hn,<- hn3,take_length,take_length]
theorem vs_datA {cs:List PC} {v:V} (he:erL cs = vC v) (p:Nat):∀ (j:Nat) (x':PV),[PV.ref p 0,.ag (vC v)][j]? = some x' -> ∃ x,[PV.ref p 0,.ag cs][j]? = some x /\ (x = x' \/ x.dat = some x')
 | 0,_,h => by simp only [getElem?_cons_zero,sI] at h; subst h; exact ⟨_,rfl,.inl rfl⟩
 | 1,_,h => by
  simp only [getElem?_cons_succ,getElem?_cons_zero,sI] at h; subst h
  exact ⟨_,rfl,.inr (by rw [<- he]; rfl)⟩
 | j + 2,_,h => by simp at h
theorem vs_dat {cs:List PC} {v:V} (he:erL cs = vC v) (st:List (L8)):(PV.tup [.ag cs,.d (pSs st)]).dat = some (.tup [.ag (vC v),.d (pSs st)]):=by
 show some (PV.tup [.ag (erL cs),.d (.sl 0 (erLL (pSr st)))]) = _;rw [he,zbG]; rfl
theorem vsv_dat {cs ds:List PC} {v x:V} (he:erL cs = vC v) (hd:erL ds = vC x) (st:List (L8)):(PV.tup [.ag cs,.d (pSs st),.ag ds]).dat = some (.tup [.ag (vC v),.d (pSs st),.ag (vC x)]):=by
 show some (PV.tup [.ag (erL cs),.d (.sl 0 (erLL (pSr st))),.ag (erL ds)]) = _;rw [he,zbG,hd]; rfl
theorem drawAt_f {b:L8} (hb:b.length <= 2147483647):Fn (env T hT) 13 [.d (.sl 0 (pcB b))] (fun x _ => ∃ (v:V) (st:List (L8)),x.dat = some (.tup [.ag (vC v),.d (pSs st)]) /\ Gd 4000 v /\ StP v st):=by
 refine za1 (zad zgA) (by show 1 <= 14; decide) fun B hB => ?_
 unfold m_s_DrawAt;refine mP ?_;refine mQ ?_;refine po_g rfl (new_l (T:=T) (hT:=hT) hb 2 []) ?_;rintro x bx n l ⟨c,rfl,rfl,hc,rfl,rfl⟩;refine mN ?_;refine mQ ?_;refine po_g rfl ((val5_drw (T:=T) (hT:=hT) hb).use trivial hc (Nat.le_refl 2) (p:=1) rfl) ?_;rintro x bx n l ⟨c1,rfl,hc1,cs,v,rfl,hN,he,hg,_,_⟩;refine zbb (cs:=cs) rfl (zaU he) rfl rfl ?_;refine zae ?_;refine mO ?_;refine zaa (p:=2) (cs:=cs) rfl rfl rfl (zaU he) ?_;refine mS ?_;refine zaa (p:=2) (cs:=cs) rfl rfl rfl (zaU he) ?_;have hw:=hg.wf;have hvb:=hg.bulk;refine po_gk rfl (FnG.datA (args:=[.ref 1 0,.ag cs]) (args':=[.ref 1 0,.ag (vC v)]) rfl (vs_datA he 1) ((zfQ (T:=T) (hT:=hT) hb v hw (by omega)).use (bx:=[z6,c1,cs]) ⟨zd2 lR (vlw (zap v)),trivial⟩ hc1 (hN.n2 (Nat.le_refl 2)) (p:=1) rfl)) (fun x b' n l ⟨c',hb',_⟩ y hy => by rw [mem_singleton] at hy; subst hy; subst hb'; rfl) ?_
 rintro x bx n2 l2 ⟨c2,rfl,hc2,st,rfl,hst,hN2⟩;refine zag (p:=0) (cs:=cs) (z:=z6) rfl rfl rfl (zaU he) rfl rfl ?_;refine mN ?_;exact zab ⟨.inr rfl,[.ag cs,.d (pSs st)],zcR rfl rfl (zaU he) rfl,v,st,vs_dat he st,hg,hst⟩
theorem drawPut_f {b:L8} (hb:b.length <= 2147483647):Fn (env T hT) 5 [.d (.sl 0 (pcB b))] (fun y _ => ∃ (v:V) (st:List (L8)) (x:V),y.dat = some (.tup [.ag (vC v),.d (pSs st),.ag (vC x)]) /\ Gd 4000 v /\ StP v st /\ Gd 4000 x):=by
 refine za1 (zad zfP) (by show 1 <= 19; decide) fun B hB => ?_
 unfold m_s_DrawPut;refine mP ?_;refine mQ ?_;refine po_g rfl (new_l (T:=T) (hT:=hT) hb 2 []) ?_;rintro x bx n l ⟨c,rfl,rfl,hc,rfl,rfl⟩;refine mN ?_;refine mQ ?_;refine po_g rfl ((val5_drw (T:=T) (hT:=hT) hb).use trivial hc (Nat.le_refl 2) (p:=2) rfl) ?_;rintro x bx n l ⟨c1,rfl,hc1,cs,v,rfl,hN,he,hg,_,_⟩;refine zbb (cs:=cs) rfl (zaU he) rfl rfl ?_;refine zae ?_;have hw:=hg.wf;have hvb:=hg.bulk;refine mQ ?_;refine zaa (p:=3) (cs:=cs) rfl rfl rfl (zaU he) ?_;refine po_g rfl (FnG.datA (args:=[.ref 2 0,.ag cs]) (args':=[.ref 2 0,.ag (vC v)]) rfl (vs_datA he 2) ((zfQ (T:=T) (hT:=hT) hb v hw (by omega)).use (bx:=[z6,z6,c1,cs]) ⟨zd2 lR (vlw (zap v)),trivial⟩ hc1 (hN.n2 (Nat.le_refl 2)) (p:=2) rfl)) ?_;rintro x bx n2 l2 ⟨c2,rfl,hc2,st,rfl,hst,hN2⟩;have hn2:=hN2.n2 (hN.n2 (Nat.le_refl 2));refine mN ?_;refine mO ?_;refine zaa (p:=3) (cs:=cs) rfl rfl rfl (zaU he) ?_
 (iterate 2 refine mS ?_);refine po_gk rfl ((any_drw (T:=T) (hT:=hT) hb).use trivial hc2 hn2 (p:=2) rfl) (fun x b' n l ⟨c',hb',_⟩ y hy => by rw [mem_singleton] at hy; subst hy; subst hb'; rfl) ?_;rintro x bx n3 l3 ⟨c3,rfl,hc3,ds,x,rfl,hN3,hd,hgx,_,_⟩;refine zag (p:=0) (cs:=cs) (z:=z6) rfl rfl rfl (zaU he) rfl rfl ?_;refine mS ?_;refine zag (p:=1) (cs:=ds) (z:=z6) rfl rfl rfl (zaU hd) rfl rfl ?_;refine zae ?_;exact zab ⟨.inr rfl,[.ag cs,.d (pSs st),.ag ds],ress_btb rfl rfl (zaU he) rfl rfl rfl (zaU hd),v,st,x,vsv_dat he hd st,hg,hst,hgx⟩
theorem zfR {b:L8} (hb:b.length <= 2147483647):Fn (env T hT) 10 [.d (.sl 0 (pcB b))] (fun x _ => ∃ (v:V) (st:List (L8)),x.dat = some (.tup [.ag (vC v),.d (pSs st)]) /\ Gd 4000 v /\ StP v st):=by
 have hca:PV.dats [PV.d (.sl 0 (pcB b))] = some [.d (.sl 0 (pcB b))]:=by
  show some [PV.d (.sl 0 (erLL (pcB b)))] = _;rw [pcB_er]
 refine za1 (zad zd4) (by show 1 <= 8; decide) fun B hB => ?_
 unfold m_s_DrawRemove;refine mP ?_;refine mQ ?_;refine zdj hca (drawAt_f (T:=T) (hT:=hT) hb) ?_;rintro x lv ⟨v,st,hx,hg,hst⟩;refine ⟨_,hx,?_⟩;(iterate 2 refine mS ?_);refine zag (p:=0) (cs:=vC v) (z:=z6) rfl rfl rfl rfl rfl rfl ?_;refine mN ?_;exact zab ⟨.inr rfl,[.ag (vC v),.d (pSs st)],rfl,v,st,vs_dat (zap v) st,hg,hst⟩
end
section
def VSmA (n:Nat):Prop:=∀ (x y:V) (cs ds:List Value) (w:World),x.nodes <= n -> Rd w x.d cs -> Rd w y.d ds -> x.bulk <= 4294967295 -> y.bulk <= 4294967295 ->
 Calls Tryz.prog 83 #[.agg cs.toArray,.agg ds.toArray] w fun e w' => e = .returned (.bool (decide (x = y))) /\ Below w.heap.size w w'
def VSmB (n:Nat):Prop:=∀ (x y:List V) (va vb:Value) (w:World),V.nodess x <= n -> Rd w (.sl 5 (V.ds x)) [va] -> Rd w (.sl 5 (V.ds y)) [vb] -> x.length + V.bulks x <= 4294967295 -> y.length + V.bulks y <= 4294967295 ->
 Calls Tryz.prog 94 #[va,vb,.func (.func 83) #[] #[]] w fun e w' => e = .returned (.bool (decide (x = y))) /\ Below w.heap.size w w'
theorem VSmB_of {n:Nat} (hA:VSmA n):VSmB n:=by
 intro la lb va vb w hn h h2 hla hlb;obtain ⟨a,c,rfl,hg⟩:=h.values;obtain ⟨a',c',rfl,hg'⟩:=h2.values;by_cases hlen:la.length = lb.length
 ·have hlt:((la.length:Int) != (lb.length:Int)) = false:=by simp [hlen]
  have HL:=Lib.hid hlen; clear hlen
  go_enter Tryz.func94,Tryz.ntmps94
  go_wp2
  go_loopw [17] (fun i wr => ∃ (k:Nat),k <= la.length /\ i = .int .i64 k /\ la.take k = lb.take k /\ Below w.heap.size w wr) (fun i _ => la.length - (intOf i).toNat)
  case atStart => exact ⟨0,Nat.zero_le _,rfl,by simp,Below.refl _ _⟩
  case round =>
   obtain ⟨k,hk,rfl,htk,hbel⟩:=hrel;have HT:=Lib.hid htk; clear htk
   by_cases hk1:k < la.length
   ·have hk2:k < lb.length:=by have:=HL.out; omega
    obtain ⟨_,_,b,o,rfl,hb,hcell⟩:=hg (by intro e; rw [e] at hk1; simp at hk1);obtain ⟨_,_,b',o',rfl,hb',hcell'⟩:=hg' (by intro e; rw [e] at hk2; simp at hk2);obtain ⟨v0,v1,v2,v3,v4,hr,c0,c1,c2,c3,c4⟩:=hcell k hk1;obtain ⟨x0,x1,x2,x3,x4,hs,d0,d1,d2,d3,d4⟩:=hcell' k hk2;obtain ⟨k1,k2,k3,s4,a6,n6,m6,hcs⟩:=V.form hr;obtain ⟨j1,j2,j3,t4,b6,p6,q6,hds⟩:=V.form hs;simp only [cons.injEq,and_true] at hcs hds;obtain ⟨rfl,rfl,rfl,rfl,rfl⟩:=hcs;obtain ⟨rfl,rfl,rfl,rfl,rfl⟩:=hds;clear hcell hcell' hg hg';obtain ⟨hbc,_⟩:=za5 hbel;have hsz:=hbel.size;have hi1:(0:Int) <= k:=by omega
    have hi2:(k:Int) < lb.length:=by omega
    have hi3:(k:Int) < la.length:=by omega
    have hz1:b < wr.heap.size:=by omega
    have hz2:b' < wr.heap.size:=by omega
    have hnk:=Nat.le_trans (V.nodes_get la k hk1) hn;have hr':=hr.below hbel;have hs':=hs.below hbel;have hA2:=(hbel.alloc hsz (.cells #[.int .i64 k1,.int .i64 k2,.int .i64 k3,.string ⟨s4.toArray⟩,.slice a6 n6 m6] 26)).alloc (by simp; omega) (.cells #[.int .i64 j1,.int .i64 j2,.int .i64 j3,.string ⟨t4.toArray⟩,.slice b6 p6 q6] 26);by_cases he:la[k] = lb[k]
    ·have hd:=Lib.hid (decide_eq_true he)
     have HE:=Lib.hid he;clear he
     go_wp2_with (go_at_call 83; refine (hA _ _ _ _ _ hnk ((hr'.alloc _).alloc _) ((hs'.alloc _).alloc _) (V.bulk_get hla k hk1) (V.bulk_get hlb k hk2)).mono ?_; rw [hd.out]; rintro e w1 ⟨rfl,hb1⟩)
     go_roundw
     case rel => exact ⟨k + 1,by omega,by go_num,ze1 HT.out hk1 hk2 HE.out,zan hA2 hb1 lR⟩
     case measure => simp [intOf] <;> omega
    ·have hd:=Lib.hid (decide_eq_false he)
     have HE:=Lib.hid (decide_eq_false (ne_of_get hk1 hk2 he));clear he
     go_wp2_with (go_at_call 83; refine (hA _ _ _ _ _ hnk ((hr'.alloc _).alloc _) ((hs'.alloc _).alloc _) (V.bulk_get hla k hk1) (V.bulk_get hlb k hk2)).mono ?_; rw [hd.out]; rintro e w1 ⟨rfl,hb1⟩)
     go_ret;exact ⟨by rw [HE.out]; rfl,zan hA2 hb1 lR⟩
   ·obtain rfl:k = la.length:=by omega
    have he:la = lb:=by have:=HT.out; rw [take_length,HL.out,take_length] at this; exact this
    have H:=Lib.hid (decide_eq_true he);clear he;go_wp2;go_ret;exact ⟨by rw [H.out]; rfl,hbel⟩
 ·have H:=Lib.hid (decide_eq_false (show ¬ la = lb from fun e => hlen (by rw [e])))
  go_enter Tryz.func94,Tryz.ntmps94
  go_wp2;go_ret;exact ⟨by rw [H.out]; rfl,Below.refl _ _⟩
theorem VSmA_of {n:Nat} (hB:VSmB n):VSmA (n + 1):=by
 intro x y cs ds w hn h h2 hx hy;obtain ⟨k,m,q,s,kids,v1,rfl,rfl,hkids⟩:=V.lay h;obtain ⟨k',m',q',s',kids',v1',rfl,rfl,hkids'⟩:=V.lay h2;have hnk:V.nodess kids <= n:=by simp only [V.nodes] at hn; omega
 simp only [V.bulk] at hx hy;have hA:=((Below.refl w.heap.size w).alloc lR (.cells #[.int .i64 k,.int .i64 m,.int .i64 q,.string ⟨s.toArray⟩,v1] 26)).alloc (by simp) (.cells #[.int .i64 k',.int .i64 m',.int .i64 q',.string ⟨s'.toArray⟩,v1'] 26);by_cases e1:k = k' /\ m = m' /\ q = q' /\ s = s'
 ·obtain ⟨rfl,rfl,rfl,rfl⟩:=e1
  go_enter Tryz.func83,Tryz.ntmps83
  go_wp2_with fail
  refine (hB _ _ _ _ _ hnk ((hkids.below hA)) (hkids'.below hA) (by omega) (by omega)).mono ?_;by_cases e4:kids = kids'
  ·subst e4
   rw [decide_eq_true rfl];rintro e w2 ⟨rfl,hb2⟩;go_wp2;go_ret;exact ⟨by simp,zan hA hb2 lR⟩
  ·have H:=Lib.hid (V.ne_mk (k:=k) (m:=m) (e:=q) (s:=s) (kids:=kids) (k':=k) (m':=m) (e':=q) (s':=s) (kids':=kids') (by simp [e4]))
   rw [decide_eq_false e4];rintro e w2 ⟨rfl,hb2⟩;clear e4;go_wp2;go_ret;exact ⟨by rw [H.out]; rfl,zan hA hb2 lR⟩
 ·have H:=Lib.hid (V.ne_mk (k:=k) (m:=m) (e:=q) (s:=s) (kids:=kids) (k':=k') (m':=m') (e':=q') (s':=s') (kids':=kids') (by rintro ⟨a,b,c,d,_⟩; exact e1 ⟨a,b,c,d⟩))
  have HA:=Lib.hid hA;by_cases c1:k = k'
  ·subst c1
   by_cases c2:m = m'
   ·subst c2
    by_cases c3:q = q'
    ·subst c3
     have c4:(s == s') = false:=by simpa using fun c => e1 ⟨rfl,rfl,rfl,c⟩
     clear e1
     go_enter Tryz.func83,Tryz.ntmps83
     go_wp2_with fail
     go_ret;exact ⟨by rw [H.out]; rfl,HA.out⟩
    ·clear e1
     have c4:(q == q') = false:=by simpa using c3
     go_enter Tryz.func83,Tryz.ntmps83
     go_wp2_with fail
     go_ret;exact ⟨by rw [H.out]; rfl,HA.out⟩
   ·clear e1
    have c4:(m == m') = false:=by simpa using c2
    go_enter Tryz.func83,Tryz.ntmps83
    go_wp2_with fail
    go_ret;exact ⟨by rw [H.out]; rfl,HA.out⟩
  ·clear e1
   have c4:(k == k') = false:=by simpa using c1
   go_enter Tryz.func83,Tryz.ntmps83
   go_wp2_with fail
   go_ret;exact ⟨by rw [H.out]; rfl,HA.out⟩
theorem VSm_all:∀ n,VSmA n
 | 0 => fun x y cs ds w hn => absurd x.nodes_pos (by omega)
 | n + 1 => VSmA_of (VSmB_of (VSm_all n))
theorem same_any (x y:V) (cs ds:List Value) (w:World) (h:Rd w x.d cs) (h2:Rd w y.d ds) (hx:x.bulk <= 4294967295) (hy:y.bulk <= 4294967295) :
  Calls Tryz.prog 83 #[.agg cs.toArray,.agg ds.toArray] w fun e w' => e = .returned (.bool (decide (x = y))) /\ Below w.heap.size w w':=VSm_all x.nodes x y cs ds w lR h h2 hx hy
end
section
theorem isKey_any (x:V) (cs:List Value) (w:World) (h:Rd w x.d cs) :
  Calls Tryz.prog 82 #[.agg cs.toArray] w fun e w' => e = .returned (.bool (isKeyK x.kind)) /\ Below w.heap.size w w':=by
 obtain ⟨k,m,e,s,kids,v1,rfl,rfl,hkids⟩:=V.lay h;have HA:=Lib.hid ((Below.refl w.heap.size w).alloc lR (.cells #[.int .i64 k,.int .i64 m,.int .i64 e,.string ⟨s.toArray⟩,v1] 26));clear h hkids;show Calls _ _ _ _ fun e' w' => e' = .returned (.bool (isKeyK k)) /\ _
 by_cases h5:k = 5
 ·subst h5
  go_enter Tryz.func82,Tryz.ntmps82
  go_wp2;go_ret;exact ⟨rfl,HA.out⟩
 ·have g5:(k == 5) = false:=by simpa using h5
  have H:=Lib.hid (show isKeyK k = (k == 3) by unfold isKeyK; rw [decide_eq_false h5,Bool.false_or]; rfl)
  go_enter Tryz.func82,Tryz.ntmps82
  go_wp2;go_ret;exact ⟨by rw [H.out]; rfl,HA.out⟩
def V.kidsOk (k:Int) (kids:List V):Bool :=
 if k = 7 then true else if k = 9 then decide (kids.length = 1) else if k = 8 then pairsOkI kids else decide (kids = [])
theorem len0' (l:List V):((l.length:Int) == 0) = decide (l = []):=by
 cases l with
 | nil => rfl
 | cons a r => simp; omega
theorem zgB (x:V) (cs:List Value) (w:World) (h:Rd w x.d cs) (hbk:x.bulk <= 4294967295) :
  Calls Tryz.prog 64 #[.agg cs.toArray] w fun e w' => e = .returned (.bool (V.kidsOk x.kind x.kids)) /\ Below w.heap.size w w':=by
 obtain ⟨q,n,e,s,xs,v1,rfl,rfl,hkids⟩:=V.lay h;have hkb:xs.length + V.bulks xs <= 4294967295:=by simp only [V.bulk] at hbk; omega
 obtain ⟨a,c,rfl,hg⟩:=hkids.values;show Calls _ _ _ _ fun e' w' => e' = .returned (.bool (V.kidsOk q xs)) /\ _
 obtain ⟨ok,hok⟩:∃ ok,V.kidsOk q xs = ok:=⟨_,rfl⟩;rw [hok];have HOK:=Lib.hid hok; clear hok
 obtain ⟨W0,hW0⟩:∃ W0,W0 = w.alloc (.cells #[.int .i64 q,.int .i64 n,.int .i64 e,.string ⟨s.toArray⟩,.slice a xs.length c] 26):=⟨_,rfl⟩;have HW:=Lib.hid hW0;have hA0:Below w.heap.size w W0:=by rw [hW0]; exact (Below.refl _ _).alloc lR _
 have hz:w.heap.size < W0.heap.size:=by rw [hW0]; simp
 have KB:Hid (∀ W,Below W0.heap.size W0 W -> W.cell? ⟨w.heap.size,0,none⟩ = some (.int .i64 q) /\ W.cell? ⟨w.heap.size,4,none⟩ = some (.slice a xs.length c)):=by
  intro W hb;obtain ⟨hc,_⟩:=za5 hb;simp only [hc _ _ hz]; subst hW0; simp
 clear hW0 h hkids hbk;obtain ⟨f0,f4⟩:=KB.out _ (Below.refl _ _);by_cases q7:q = 7
 ·subst q7
  have H:=Lib.hid (show ok = true by rw [<- HOK.out]; rfl)
  go_enter Tryz.func64,Tryz.ntmps64
  go_wp2;rw [<- HW.out];go_ret;exact ⟨by rw [H.out]; rfl,hA0⟩
 by_cases q9:q = 9
 ·subst q9
  have H:=Lib.hid (show ok = decide (xs.length = 1) by rw [<- HOK.out]; rfl)
  go_enter Tryz.func64,Tryz.ntmps64
  go_wp2;rw [<- HW.out];go_ret;exact ⟨by rw [H.out]; exact zaw (by rw [Bool.eq_iff_iff]; simp; omega),hA0⟩
 by_cases q8:q = 8
 ·subst q8
  have HP:=Lib.hid (show ok = pairsOkI xs by rw [<- HOK.out]; rfl);obtain ⟨ks,hks⟩:∃ ks,odds xs = ks:=⟨_,rfl⟩;have hkl:ks.length = (xs.length + 1) / 2:=by rw [<- hks,zaX]
  have HKG:Hid (∀ j (h1:2 * j < xs.length) (h2:j < ks.length),ks[j] = xs[2 * j]):=by
   intro j h1 h2; subst hks; exact zdb xs j h1
  have HKS:=Lib.hid hks; clear hks
  clear q7 q9
  go_enter Tryz.func64,Tryz.ntmps64
  go_wp2;rw [<- HW.out]
  go_loopw [3] (fun i wr => ∃ (j k:Nat),k = 2 * j /\ j <= ks.length /\ i = .int .i64 k /\ uniq id (ks.take j) = true /\ Below W0.heap.size W0 wr) (fun i _ => xs.length + 1 - (intOf i).toNat)
  case atStart => exact ⟨0,0,rfl,Nat.zero_le _,rfl,by simp [uniq],Below.refl _ _⟩
  case round =>
   obtain ⟨j,k,hkj,hj,rfl,hu,hbel⟩:=hrel;have HKJ:=Lib.hid hkj;have HU:=Lib.hid hu; clear hu f0 f4
   obtain ⟨f0,f4⟩:=KB.out _ hbel;have hbw:=zan hA0 hbel lR;by_cases hlt:k < xs.length
   ·have hjk:j < ks.length:=by omega
    have hkk:=HKG.out j (by omega) hjk;obtain ⟨_,_,b,o,rfl,hb,hcell⟩:=hg (by intro e; rw [e] at hlt; simp at hlt);have HC:=Lib.hid hcell;obtain ⟨v0,v1,v2,v3,v4,hr,d0,d1,d2,d3,d4⟩:=hcell k hlt;clear hcell;obtain ⟨k1,k2,k3,s4,a6,n6,m6,hcs⟩:=V.form hr;simp only [cons.injEq,and_true] at hcs;obtain ⟨rfl,rfl,rfl,rfl,rfl⟩:=hcs;have hbc:=(za5 hbw).1;rw [<- hbc _ _ hb] at d0 d1 d2 d3 d4;have HX:=Lib.hid (show ks[j] = xs[k] by rw [hkk]; subst hkj; rfl);have hi1:(0:Int) <= k:=by omega
    have hi3:(k:Int) < xs.length:=by omega
    have hbz:b < W0.heap.size:=by have:=hA0.size; omega
    have HD:Hid (∀ W,Below W0.heap.size W0 W -> W.cell? ⟨b,o + k * 5,none⟩ = some (.int .i64 k1) /\ W.cell? ⟨b,o + k * 5 + 1,none⟩ = some (.int .i64 k2) /\ W.cell? ⟨b,o + k * 5 + 2,none⟩ = some (.int .i64 k3) /\ W.cell? ⟨b,o + k * 5 + 3,none⟩ = some (.string ⟨s4.toArray⟩) /\ W.cell? ⟨b,o + k * 5 + 4,none⟩ = some (.slice a6 n6 m6)):=by
     intro W hW;have h1:=(za5 hW).1;have h2:=(za5 hbel).1;rw [h2 _ _ hbz] at d0 d1 d2 d3 d4;simp only [h1 _ _ hbz]; exact ⟨d0,d1,d2,d3,d4⟩
    have HK1:=Lib.hid (fun W (hW:Below W0.heap.size W0 W) => isKey_any xs[k] _ W (hr.below (zan hA0 hW lR)));have HXR:=Lib.hid (fun W (hW:Below W0.heap.size W0 W) => (hr.below (zan hA0 hW lR)));clear hbc hkk hkj hr
    cases hkey:isKeyK xs[k].kind with
    | true =>
     have HK:=Lib.hid hkey; clear hkey
     go_wp2_with (go_at_call 82; refine (HK1.out _ hbel).mono ?_; rw [HK.out]; rintro e w1 ⟨rfl,hb1⟩; have hbe1:=zan hbel hb1 lR; clear d0 d1 d2 d3 d4 f0 f4; obtain ⟨f0,f4⟩:=KB.out _ hbe1)
     go_loopw [4] (fun i wr => ∃ (m r:Nat),r = 2 * m /\ m <= j /\ i = .int .i64 r /\ xs[k] ∉ ks.take m /\ Below W0.heap.size W0 wr) (fun i _ => k + 1 - (intOf i).toNat)
     case atStart => exact ⟨0,0,rfl,Nat.zero_le _,rfl,by simp,hbe1⟩
     case round =>
      obtain ⟨m,r,hrm,hm,rfl,hni,hbel2⟩:=hrel;have HRM:=Lib.hid hrm;have HNI:=Lib.hid hni; clear hni
      have hkj:=HKJ.out;have hbw2:=zan hA0 hbel2 lR;clear f0 f4;obtain ⟨f0,f4⟩:=KB.out _ hbel2;by_cases hml:r < k
      ·have hrx:r < xs.length:=by omega
       have hmk:m < ks.length:=by omega
       have hmm:=HKG.out m (by omega) hmk;obtain ⟨u0,u1,u2,u3,u4,hr2,e0,e1,e2,e3,e4⟩:=HC.out r hrx;obtain ⟨y1,y2,y3,t4,b6,p6,r6,hcs2⟩:=V.form hr2;simp only [cons.injEq,and_true] at hcs2;obtain ⟨rfl,rfl,rfl,rfl,rfl⟩:=hcs2;have HY:=Lib.hid (show ks[m] = xs[r] by rw [hmm]; subst hrm; rfl)
       have HE:Hid (∀ W,Below W0.heap.size W0 W -> W.cell? ⟨b,o + r * 5,none⟩ = some (.int .i64 y1) /\ W.cell? ⟨b,o + r * 5 + 1,none⟩ = some (.int .i64 y2) /\ W.cell? ⟨b,o + r * 5 + 2,none⟩ = some (.int .i64 y3) /\ W.cell? ⟨b,o + r * 5 + 3,none⟩ = some (.string ⟨t4.toArray⟩) /\ W.cell? ⟨b,o + r * 5 + 4,none⟩ = some (.slice b6 p6 r6)):=by
        intro W hW;have h1:=(za5 (zan hA0 hW lR)).1;simp only [h1 _ _ hb]; exact ⟨e0,e1,e2,e3,e4⟩
       have hj1:(0:Int) <= r:=by omega
       have hj3:(r:Int) < xs.length:=by omega
       have hj5:(r:Int) < k:=by omega
       have hm5:m < j:=by omega
       have hr5:r + 2 < k + 3:=by omega
       have HS:=Lib.hid (fun W (hW:Below W0.heap.size W0 W) => same_any xs[k] xs[r] _ _ W (HXR.out W hW) (hr2.below (zan hA0 hW lR)) (V.bulk_get hkb k hlt) (V.bulk_get hkb r hrx));have hB:=hbel2;clear hmm hrm hkj e0 e1 e2 e3 e4 hr2 f0 f4;by_cases heq:xs[k] = xs[r]
       ·have HQ:=Lib.hid (decide_eq_true heq)
        have HF:=Lib.hid (show ok = false by
         rw [HP.out]; unfold pairsOkI; rw [HKS.out,zdV hjk (by
          rw [HX.out,map_id];exact mem_take_iff_getElem.2 ⟨m,by omega,by rw [HY.out,<- heq]; rfl⟩)]; rfl)
        clear heq
        go_wp2_with fail
        go_region_held3 (fun W => (W.cell? ⟨w.heap.size,0,none⟩ = some (.int .i64 8) /\ W.cell? ⟨w.heap.size,4,none⟩ = some (.slice (some ⟨b,o,none⟩) xs.length c)) /\ (W.cell? ⟨b,o + k * 5,none⟩ = some (.int .i64 k1) /\ W.cell? ⟨b,o + k * 5 + 1,none⟩ = some (.int .i64 k2) /\ W.cell? ⟨b,o + k * 5 + 2,none⟩ = some (.int .i64 k3) /\ W.cell? ⟨b,o + k * 5 + 3,none⟩ = some (.string ⟨s4.toArray⟩) /\ W.cell? ⟨b,o + k * 5 + 4,none⟩ = some (.slice a6 n6 m6)) /\ W.cell? ⟨b,o + r * 5,none⟩ = some (.int .i64 y1) /\ W.cell? ⟨b,o + r * 5 + 1,none⟩ = some (.int .i64 y2) /\ W.cell? ⟨b,o + r * 5 + 2,none⟩ = some (.int .i64 y3) /\ W.cell? ⟨b,o + r * 5 + 3,none⟩ = some (.string ⟨t4.toArray⟩) /\ W.cell? ⟨b,o + r * 5 + 4,none⟩ = some (.slice b6 p6 r6))
         (first | exact ⟨KB.out _ hB,HD.out _ hB,HE.out _ hB⟩ | exact ⟨KB.out _ hB.drew,HD.out _ hB.drew,HE.out _ hB.drew⟩)
         (first | (go_at_call 83; with_reducible refine (HS.out _ (by first | exact hB | exact hB.drew)).mono ?_; rw [HQ.out]; rintro e w2 ⟨rfl,hb2⟩; replace hB:=zan (by first | exact hB | exact hB.drew) hb2 lR))
        go_wp2;go_ret;exact ⟨by rw [HF.out]; rfl,zan hA0 hB lR⟩
       ·have HQ:=Lib.hid (decide_eq_false heq)
        have HM:Hid (xs[k] ∉ ks.take (m + 1)):=by
         show _ ∉ _;rw [take_succ_eq_append_getElem hmk,mem_append,HY.out];rintro (h | h)
         ·exact HNI.out h
         ·exact heq (by simpa using h)
        clear heq
        go_wp2_with fail
        go_region_held3 (fun W => (W.cell? ⟨w.heap.size,0,none⟩ = some (.int .i64 8) /\ W.cell? ⟨w.heap.size,4,none⟩ = some (.slice (some ⟨b,o,none⟩) xs.length c)) /\ (W.cell? ⟨b,o + k * 5,none⟩ = some (.int .i64 k1) /\ W.cell? ⟨b,o + k * 5 + 1,none⟩ = some (.int .i64 k2) /\ W.cell? ⟨b,o + k * 5 + 2,none⟩ = some (.int .i64 k3) /\ W.cell? ⟨b,o + k * 5 + 3,none⟩ = some (.string ⟨s4.toArray⟩) /\ W.cell? ⟨b,o + k * 5 + 4,none⟩ = some (.slice a6 n6 m6)) /\ W.cell? ⟨b,o + r * 5,none⟩ = some (.int .i64 y1) /\ W.cell? ⟨b,o + r * 5 + 1,none⟩ = some (.int .i64 y2) /\ W.cell? ⟨b,o + r * 5 + 2,none⟩ = some (.int .i64 y3) /\ W.cell? ⟨b,o + r * 5 + 3,none⟩ = some (.string ⟨t4.toArray⟩) /\ W.cell? ⟨b,o + r * 5 + 4,none⟩ = some (.slice b6 p6 r6))
         (first | exact ⟨KB.out _ hB,HD.out _ hB,HE.out _ hB⟩ | exact ⟨KB.out _ hB.drew,HD.out _ hB.drew,HE.out _ hB.drew⟩)
         (first | (go_at_call 83; with_reducible refine (HS.out _ (by first | exact hB | exact hB.drew)).mono ?_; rw [HQ.out]; rintro e w2 ⟨rfl,hb2⟩; replace hB:=zan (by first | exact hB | exact hB.drew) hb2 lR))
        go_wp2;go_roundw
        case rel => exact ⟨m + 1,r + 2,by have:=HRM.out; omega,by omega,by go_num,HM.out,hB⟩
        case measure => simp [intOf]; omega
      ·obtain rfl:m = j:=by omega
       have HM:Hid (uniq id (ks.take (m + 1)) = true):=zdU hjk HU.out (by rw [HX.out]; exact HK.out) (by rw [HX.out,map_id]; exact HNI.out);clear hrm hkj;go_wp2;go_roundw
       case rel => exact ⟨m + 1,k + 2,by have:=HKJ.out; omega,by omega,by go_num,HM.out,hbel2⟩
       case measure => simp [intOf]; omega
    | false =>
     have HK:=Lib.hid hkey;have HF:=Lib.hid (show ok = false by rw [HP.out]; unfold pairsOkI; rw [HKS.out,zfs hjk (by rw [HX.out]; exact hkey)]; rfl);clear hkey
     go_wp2_with (go_at_call 82; refine (HK1.out _ hbel).mono ?_; rw [HK.out]; rintro e w1 ⟨rfl,hb1⟩)
     go_ret;exact ⟨by rw [HF.out]; rfl,zan hbw hb1 lR⟩
   ·obtain rfl:j = ks.length:=by omega
    clear hkj;have h1:=HU.out;rw [take_length] at h1;have HF:=Lib.hid (show ok = decide (xs.length % 2 = 0) by rw [HP.out]; unfold pairsOkI; rw [HKS.out,h1]; rfl);clear h1;go_wp2;go_ret;exact ⟨by rw [HF.out]; exact zaw (by rw [Bool.eq_iff_iff]; simp <;> omega),hbw⟩
 ·have H:=Lib.hid (show ok = decide (xs = []) by rw [<- HOK.out]; unfold V.kidsOk; rw [if_neg q7,if_neg q9,if_neg q8])
  have g7:(q == 7) = false:=by simpa using q7
  have g8:(q == 8) = false:=by simpa using q8
  have g9:(q == 9) = false:=by simpa using q9
  go_enter Tryz.func64,Tryz.ntmps64
  go_wp2;rw [<- HW.out];go_ret;exact ⟨by rw [H.out,<- len0']; rfl,hA0⟩
end
section
open Go.Lib (validD)
def V.node:V -> Bool
 | .mk k n e s _ =>
  if k = 0 \/ k = 1 \/ k = 2 \/ k = 7 \/ k = 8 then decide (n = 0) && (decide (e = 0) && decide (s = []))
  else if k = 3 then decide (e = 0) && decide (s = [])
  else if k = 4 then decOk n e && decide (s = [])
  else if k = 5 then decide (s.length <= 2000) && (validD s && (decide (n = 0) && decide (e = 0)))
  else if k = 6 then decide (s.length <= 2000) && (decide (n = 0) && decide (e = 0))
  else if k = 9 then inR n 0 1000000 && (decide (e = 0) && decide (s = []))
  else false
theorem V.selfI_node (x:V):x.selfI = (x.node && V.kidsOk x.kind x.kids):=by
 obtain ⟨k,n,e,s,kids⟩:=x;show V.selfBy pairsOkI _ = (_ && V.kidsOk k kids);unfold V.node V.kidsOk V.selfBy;by_cases h0:k = 0 \/ k = 1 \/ k = 2
 ·rcases h0 with rfl | rfl | rfl <;> simp [Bool.and_assoc]
 by_cases h3:k = 3
 ·subst h3; simp [Bool.and_assoc]
 by_cases h4:k = 4
 ·subst h4; simp [Bool.and_assoc]
 by_cases h5:k = 5
 ·subst h5
  show (decide (n = 0) && (decide (e = 0) && (validD s && (decide (s.length <= 2000) && decide (kids = []))))) = ((decide (s.length <= 2000) && (validD s && (decide (n = 0) && decide (e = 0)))) && decide (kids = []))
  cases decide (n = 0) <;> cases decide (e = 0) <;> cases validD s <;> cases decide (s.length <= 2000) <;> cases decide (kids = []) <;> rfl
 by_cases h6:k = 6
 ·subst h6
  show (decide (n = 0) && (decide (e = 0) && (decide (s.length <= 2000) && decide (kids = [])))) = ((decide (s.length <= 2000) && (decide (n = 0) && decide (e = 0))) && decide (kids = []))
  cases decide (n = 0) <;> cases decide (e = 0) <;> cases decide (s.length <= 2000) <;> cases decide (kids = []) <;> rfl
 by_cases h7:k = 7
 ·subst h7; simp
 by_cases h8:k = 8
 ·subst h8; simp [Bool.and_assoc]
 by_cases h9:k = 9
 ·subst h9; simp [Bool.and_assoc]
 ·have a0:k ≠ 0:=fun e => h0 (.inl e)
  have a1:k ≠ 1:=fun e => h0 (.inr (.inl e))
  have a2:k ≠ 2:=fun e => h0 (.inr (.inr e))
  simp [a0,a1,a2,h3,h4,h5,h6,h7,h8,h9]
theorem isNode_any (x:V) (cs:List Value) (w:World) (h:Rd w x.d cs) (hwf:x.wf) (hbk:x.bulk <= 4294967295) (hT:Tabs w) :
  Calls Tryz.prog 63 #[.agg cs.toArray] w fun e w' => e = .returned (.bool x.node) /\ Below w.heap.size w w':=by
 obtain ⟨k,n,e,s,kids,v1,rfl,rfl,hkids⟩:=V.lay h;obtain ⟨a1,c1,rfl⟩:=Rd.sl_form hkids;rw [V.ds_map,length_map] at h ⊢;have hsl:s.length <= 4294967295:=by simp only [V.bulk] at hbk; omega
 have HD:=Lib.hid (fun w1 (hb:Below w.heap.size w w1) => isDec_any _ _ w1 (h.below hb) hwf);clear h hkids hbk hwf;obtain ⟨ok,hok⟩:∃ ok,V.node (.mk k n e s kids) = ok:=⟨_,rfl⟩;rw [hok];have HOK:=Lib.hid hok; clear hok
 by_cases q0:k = 0
 ·subst q0
  go_enter Tryz.func63,Tryz.ntmps63
  go_wp2
  all_goals (go_ret; refine ⟨zaw ?_,by first | exact ((Below.refl _ _).alloc lR _).alloc (by simp) _ | exact Go.below_drewN (((Below.refl _ _).alloc lR _).alloc (by simp) _) _⟩; rw [<- HOK.out]; simp_all [V.node,isE])
 by_cases q1:k = 1
 ·subst q1
  go_enter Tryz.func63,Tryz.ntmps63
  go_wp2
  all_goals (go_ret; refine ⟨zaw ?_,by first | exact ((Below.refl _ _).alloc lR _).alloc (by simp) _ | exact Go.below_drewN (((Below.refl _ _).alloc lR _).alloc (by simp) _) _⟩; rw [<- HOK.out]; simp_all [V.node,isE])
 by_cases q2:k = 2
 ·subst q2
  go_enter Tryz.func63,Tryz.ntmps63
  go_wp2
  all_goals (go_ret; refine ⟨zaw ?_,by first | exact ((Below.refl _ _).alloc lR _).alloc (by simp) _ | exact Go.below_drewN (((Below.refl _ _).alloc lR _).alloc (by simp) _) _⟩; rw [<- HOK.out]; simp_all [V.node,isE])
 by_cases q7:k = 7
 ·subst q7
  go_enter Tryz.func63,Tryz.ntmps63
  go_wp2
  all_goals (go_ret; refine ⟨zaw ?_,by first | exact ((Below.refl _ _).alloc lR _).alloc (by simp) _ | exact Go.below_drewN (((Below.refl _ _).alloc lR _).alloc (by simp) _) _⟩; rw [<- HOK.out]; simp_all [V.node,isE])
 by_cases q8:k = 8
 ·subst q8
  go_enter Tryz.func63,Tryz.ntmps63
  go_wp2
  all_goals (go_ret; refine ⟨zaw ?_,by first | exact ((Below.refl _ _).alloc lR _).alloc (by simp) _ | exact Go.below_drewN (((Below.refl _ _).alloc lR _).alloc (by simp) _) _⟩; rw [<- HOK.out]; simp_all [V.node,isE])
 by_cases q3:k = 3
 ·subst q3
  go_enter Tryz.func63,Tryz.ntmps63
  go_wp2
  all_goals (go_ret; refine ⟨zaw ?_,by first | exact ((Below.refl _ _).alloc lR _).alloc (by simp) _ | exact Go.below_drewN (((Below.refl _ _).alloc lR _).alloc (by simp) _) _⟩; rw [<- HOK.out]; simp_all [V.node,isE])
 by_cases q9:k = 9
 ·subst q9
  by_cases g:0 <= n /\ n <= 1000000
  ·have H:=Lib.hid (show ok = (decide (e = 0) && decide (s = [])) by rw [<- HOK.out]; simp [V.node,zaG g])
   go_enter Tryz.func63,Tryz.ntmps63
   go_wp2
   all_goals (go_ret; refine ⟨zaw ?_,by first | exact ((Below.refl _ _).alloc lR _).alloc (by simp) _ | exact (((Below.refl _ _).alloc lR _).alloc (by simp) _).setCell (by simp) _⟩; rw [H.out]; simp_all [isE])
  ·have H:=Lib.hid (show ok = false by rw [<- HOK.out]; simp [V.node,za6 g])
   have H2:=Lib.hid (za6 g)
   go_enter Tryz.func63,Tryz.ntmps63
   go_wp2_with (go_at_call 81; refine (zb1 _ _ _ _).mono ?_; rw [H2.out]; rintro e1 w1 ⟨rfl,rfl⟩)
   all_goals (go_ret; exact ⟨by rw [H.out]; rfl,((Below.refl _ _).alloc lR _).alloc (by simp) _⟩)
 by_cases q6:k = 6
 ·subst q6
  by_cases g:s.length <= 2000
  ·have H:=Lib.hid (show ok = (decide (n = 0) && decide (e = 0)) by rw [<- HOK.out]; simp [V.node,g])
   go_enter Tryz.func63,Tryz.ntmps63
   go_wp2
   all_goals (go_ret; refine ⟨zaw ?_,by first | exact ((Below.refl _ _).alloc lR _).alloc (by simp) _ | exact (((Below.refl _ _).alloc lR _).alloc (by simp) _).setCell (by simp) _⟩; rw [H.out]; simp_all [])
  ·have H:=Lib.hid (show ok = false by rw [<- HOK.out]; simp [V.node,g])
   have g':(2000:Int) < s.length:=by omega
   go_enter Tryz.func63,Tryz.ntmps63
   go_wp2
   all_goals (go_ret; exact ⟨by rw [H.out]; rfl,((Below.refl _ _).alloc lR _).alloc (by simp) _⟩)
 by_cases q5:k = 5
 ·subst q5
  by_cases g:s.length <= 2000
  ·have g':¬ (2000:Int) < s.length:=by omega
   have g2:=decide_eq_false g'
   cases hv:validD s with
   | true =>
    have HV:=Lib.hid hv;have H:=Lib.hid (show ok = (decide (n = 0) && decide (e = 0)) by rw [<- HOK.out]; simp [V.node,g,hv]);clear hv
    go_enter Tryz.func63,Tryz.ntmps63
    go_wp2_with (go_at_call 56; refine (zct s _ hsl (hT.below (((Below.refl _ _).alloc lR _).alloc (by simp) _))).mono ?_; rw [HV.out]; rintro e1 w1 ⟨rfl,hb1⟩; have C:=(za5 hb1).1; have F:=(za5 hb1).2; have hz1:=hb1.size; have z1:w.heap.size < w1.heap.size:=(by simp at hz1; omega); have z2:w.heap.size + 1 < w1.heap.size:=(by simp at hz1; omega); have f1:w1.cell? ⟨w.heap.size,1,none⟩ = some (.int .i64 n):=(by rw [C _ _ (by simp <;> omega)]; simp [go_sem]); have f2:w1.cell? ⟨w.heap.size,2,none⟩ = some (.int .i64 e):=(by rw [C _ _ (by simp <;> omega)]; simp [go_sem]); have f3:w1.cell? ⟨w.heap.size,3,none⟩ = some (.string ⟨s.toArray⟩):=(by rw [C _ _ (by simp <;> omega)]; simp [go_sem]); have p1:w1.cell? ⟨w.heap.size + 1,1,none⟩ = some (.int .i64 0):=(by rw [C _ _ (by simp <;> omega)]; simp [go_sem]); have p2:w1.cell? ⟨w.heap.size + 1,2,none⟩ = some (.int .i64 0):=(by rw [C _ _ (by simp <;> omega)]; simp [go_sem]); have p3:w1.cell? ⟨w.heap.size + 1,3,none⟩ = some (.string ⟨#[]⟩):=(by rw [C _ _ (by simp <;> omega)]; simp [go_sem]); have p9:w1.frozen? ⟨w.heap.size + 1,3,none⟩ = false:=(by rw [F _ _ (by simp <;> omega)]; simp [go_sem]); clear C F hz1)
    all_goals (go_ret; refine ⟨zaw ?_,by first | exact (zan (((Below.refl _ _).alloc lR _).alloc (by simp) _) hb1 lR).setCell (by simp) _ | exact zan (((Below.refl _ _).alloc lR _).alloc (by simp) _) hb1 lR⟩; rw [H.out]; simp_all [])
   | false =>
    have HV:=Lib.hid hv;have H:=Lib.hid (show ok = false by rw [<- HOK.out]; simp [V.node,hv]);clear hv
    go_enter Tryz.func63,Tryz.ntmps63
    go_wp2_with (go_at_call 56; refine (zct s _ hsl (hT.below (((Below.refl _ _).alloc lR _).alloc (by simp) _))).mono ?_; rw [HV.out]; rintro e1 w1 ⟨rfl,hb1⟩)
    go_ret;exact ⟨by rw [H.out]; rfl,zan (((Below.refl _ _).alloc lR _).alloc (by simp) _) hb1 lR⟩
  ·have H:=Lib.hid (show ok = false by rw [<- HOK.out]; simp [V.node,g])
   have g':(2000:Int) < s.length:=by omega
   go_enter Tryz.func63,Tryz.ntmps63
   go_wp2
   all_goals (go_ret; exact ⟨by rw [H.out]; rfl,((Below.refl _ _).alloc lR _).alloc (by simp) _⟩)
 by_cases q4:k = 4
 ·subst q4
  cases hv:decOk n e with
  | true =>
   have HV:=Lib.hid (show decOk (V.num (.mk 4 n e s kids)) (V.exp (.mk 4 n e s kids)) = true from hv);have H:=Lib.hid (show ok = decide (s = []) by rw [<- HOK.out]; simp [V.node,hv]);clear hv
   go_enter Tryz.func63,Tryz.ntmps63
   go_wp2_with (go_at_call 80; refine (HD.out _ (((Below.refl _ _).alloc lR _).alloc (by simp) _)).mono ?_; rw [HV.out]; rintro e1 w1 ⟨rfl,hb1⟩; have C:=(za5 hb1).1; have F:=(za5 hb1).2; have hz1:=hb1.size; have z1:w.heap.size < w1.heap.size:=(by simp at hz1; omega); have z2:w.heap.size + 1 < w1.heap.size:=(by simp at hz1; omega); have f1:w1.cell? ⟨w.heap.size,1,none⟩ = some (.int .i64 n):=(by rw [C _ _ (by simp <;> omega)]; simp [go_sem]); have f2:w1.cell? ⟨w.heap.size,2,none⟩ = some (.int .i64 e):=(by rw [C _ _ (by simp <;> omega)]; simp [go_sem]); have f3:w1.cell? ⟨w.heap.size,3,none⟩ = some (.string ⟨s.toArray⟩):=(by rw [C _ _ (by simp <;> omega)]; simp [go_sem]); have p1:w1.cell? ⟨w.heap.size + 1,1,none⟩ = some (.int .i64 0):=(by rw [C _ _ (by simp <;> omega)]; simp [go_sem]); have p2:w1.cell? ⟨w.heap.size + 1,2,none⟩ = some (.int .i64 0):=(by rw [C _ _ (by simp <;> omega)]; simp [go_sem]); have p3:w1.cell? ⟨w.heap.size + 1,3,none⟩ = some (.string ⟨#[]⟩):=(by rw [C _ _ (by simp <;> omega)]; simp [go_sem]); have p8:w1.frozen? ⟨w.heap.size + 1,1,none⟩ = false:=(by rw [F _ _ (by simp <;> omega)]; simp [go_sem]); have p9:w1.frozen? ⟨w.heap.size + 1,2,none⟩ = false:=(by rw [F _ _ (by simp <;> omega)]; simp [go_sem]); clear C F hz1)
   have hbel:Below w.heap.size w w1:=zan (((Below.refl _ _).alloc lR _).alloc (by simp) _) hb1 lR
   go_region
   all_goals (go_wp2; go_ret; refine ⟨zaw ?_,by first | exact ((hbel.setCell (by simp) _).setCell (by simp) _).drew | exact (hbel.setCell (by simp) _).setCell (by simp) _ | exact Go.below_drewN ((hbel.setCell (by simp) _).setCell (by simp) _) _⟩; rw [H.out]; simp [isE])
  | false =>
   have HV:=Lib.hid (show decOk (V.num (.mk 4 n e s kids)) (V.exp (.mk 4 n e s kids)) = false from hv);have H:=Lib.hid (show ok = false by rw [<- HOK.out]; simp [V.node,hv]);clear hv
   go_enter Tryz.func63,Tryz.ntmps63
   go_wp2_with (go_at_call 80; refine (HD.out _ (((Below.refl _ _).alloc lR _).alloc (by simp) _)).mono ?_; rw [HV.out]; rintro e1 w1 ⟨rfl,hb1⟩)
   go_ret;exact ⟨by rw [H.out]; rfl,zan (((Below.refl _ _).alloc lR _).alloc (by simp) _) hb1 lR⟩
 have H:=Lib.hid (show ok = false by rw [<- HOK.out]; simp [V.node,q0,q1,q2,q3,q4,q5,q6,q7,q8,q9])
 go_enter Tryz.func63,Tryz.ntmps63
 go_wp2
 all_goals (go_ret; exact ⟨by rw [H.out]; rfl,((Below.refl _ _).alloc lR _).alloc (by simp) _⟩)
end
section
section
variable {P:Program} {ops:Array Oper} {Q:Exit -> Act -> World -> Prop} {md:Region.Mode} {S:World -> Prop}
theorem zbn {i F fuel:Nat} {oi:Oper} {d:Option Tmp} {v:Value} {listed listed':Array Bool} {a:Act} {w:World} (hi:ops[i]? = some oi) (hd:oi.dst = d) (hF:F = fuel + 1) (hl:listed.setIfInBounds i true = listed')
  (hs:Region.noSelect ops = true) (hf:Region.free md ops listed i = true) (hr:(Region.ready md ops listed).contains i = true)
  (hQ:∀ c a w,Q (.panic c) (a.put d v) w -> Q (.panic c) a w) (hw:Region.wanted oi (yielded ops a.tmps) = true) (hS:S w)
  (hv:∀ w,S w -> (execOp a.eval oi).run P w = .ok (.value v) w)
  (h:wpAnyH P md ops Q S fuel listed' (a.put d v) w):wpAnyH P md ops Q S F listed a w:=by
 subst hF hd hl
 exact wpAnyH_take hi hs hf hr hQ (.inl ⟨hw,hv⟩) hS h
def skipFine (md:Region.Mode) (ops:Array Oper):List (Nat × Tmp) -> Array Bool -> Array Value -> Bool
 | [],_,_ => true
 | (i,d) :: r,listed,tmps => (match ops[i]? with | some o => decide (o.dst = some d) && !Region.wanted o (yielded ops tmps) | none => false) && (Region.free md ops listed i && ((Region.ready md ops listed).contains i &&
   skipFine md ops r (listed.setIfInBounds i true) (tmps.setIfInBounds d undef)))
def skipListed:List (Nat × Tmp) -> Array Bool -> Array Bool
 | [],listed => listed
 | (i,_) :: r,listed => skipListed r (listed.setIfInBounds i true)
def skipAct:List (Nat × Tmp) -> Act -> Act
 | [],a => a
 | (_,d) :: r,a => skipAct r { a with tmps:=a.tmps.setIfInBounds d undef }
theorem takeS {w:World} (hs:Region.noSelect ops = true) (hQ:∀ c a d w,Q (.panic c) (a.put (some d) undef) w -> Q (.panic c) a w) (hS:S w):∀ (l:List (Nat × Tmp)) {F fuel:Nat} {listed listed':Array Bool} {a:Act},F = fuel + l.length -> skipListed l listed = listed' ->
  skipFine md ops l listed a.tmps = true -> wpAnyH P md ops Q S fuel listed' (skipAct l a) w -> wpAnyH P md ops Q S F listed a w
 | [],F,fuel,listed,listed',a,hF,hl,_,h => by subst hF hl; exact h
 | (i,d) :: r,F,fuel,listed,listed',a,hF,hl,hk,h => by
  subst hF hl
  simp only [skipFine,Bool.and_eq_true] at hk;obtain ⟨h1,h2,h3,h4⟩:=hk
  cases ho:ops[i]? with
  | none => rw [ho] at h1; cases h1
  | some o =>
   rw [ho] at h1;simp only [Bool.and_eq_true,decide_eq_true_eq,Bool.not_eq_true'] at h1;obtain ⟨hd,hw⟩:=h1;refine wpAnyH_take (fuel:=fuel + r.length) (v:=undef) ho hs h2 h3 (by rw [hd]; exact fun c a w => hQ c a d w) (.inr ⟨hw,rfl⟩) hS ?_;rw [hd];exact takeS hs hQ hS r rfl rfl h4 h
theorem takeC {i F fuel:Nat} {oi:Oper} {d:Option Tmp} {listed listed':Array Bool} {a:Act} {w:World} (hi:ops[i]? = some oi) (_hd:oi.dst = d) (hF:F = fuel + 1) (hl:listed.setIfInBounds i true = listed')
  (hr:Region.ready md ops listed = [i]) (hw:Region.wanted oi (yielded ops a.tmps) = true)
  (h:∀ K':Act -> World -> Prop,Shut (∀ a w,S w -> (S w -> wpAnyH P md ops Q S fuel listed' a w) -> K' a w) -> Oper.wp P oi a w K' Q):wpAnyH P md ops Q S F listed a w:=by
 subst hF hl _hd
 refine wpAnyH_ready hr (by simp) (AllReadyH.cons hi (fun K' hK => ?_) AllReadyH.nil);rw [if_pos hw]; exact h K' hK
end
end
section
def intBox (w:World) (g:Nat) (n:Int):Prop:=w.heap[g]? = some (.cells #[.int .i64 n] 3 (0,0))
theorem intBox.cell {w:World} {g:Nat} {n:Int} (h:intBox w g n):w.cell? ⟨g,0,none⟩ = some (.int .i64 n):=cell_of_one h
theorem intBox.free {w:World} {g:Nat} {n:Int} (h:intBox w g n):w.frozen? ⟨g,0,none⟩ = false:=free_of_one h
theorem intBox.lt {w:World} {g:Nat} {n:Int} (h:intBox w g n):g < w.heap.size:=lt_of_block h
theorem intBox.below {w w':World} {g:Nat} {n:Int} (h:intBox w g n) (hb:Below w.heap.size w w'):intBox w' g n:=(hb.block g h.lt).trans h
theorem intBox.keep {S:Nat -> Prop} {w w':World} {g:Nat} {n:Int} (h:intBox w g n) (hk:Keep S w w') (hs:¬ S g):intBox w' g n:=(hk.block g h.lt hs).trans h
def GlobN (N:Nat):Prop:=0 < N /\ 1 < N
theorem Tabs.keep {S:Nat -> Prop} {w w':World} {N:Nat} (h:Tabs w) (hg:GlobN N) (hk:Keep S w w') (hN:N <= w.heap.size) (hs:∀ k,k < N -> ¬ S k):Tabs w':=h.below' (hk.below hN hs) hg.1 hg.2
end
section
open Go.Lib (validD)
def vGood (deep:Nat) (L:Int) (x:V):Bool:=V.rightBy pairsOkI (12 - deep) x && decide ((x.nodes:Int) <= L)
def vGoods (deep:Nat) (L:Int) (xs:List V):Bool:=V.rightsBy pairsOkI (12 - deep) xs && decide ((V.nodess xs:Int) <= L)
def VIsA (n:Nat):Prop:=∀ (x:V) (cs:List Value) (deep N g:Nat) (L:Int) (w:World),x.nodes <= n -> RdN N w x.d cs -> N <= g -> intBox w g L -> x.wf -> x.bulk <= 4294967295 -> Tabs w -> GlobN N -> deep <= 1000000 -> 0 <= L /\ L <= 1000 ->
 Calls Tryz.prog 35 #[.agg cs.toArray,.int .i64 deep,.pointer (some ⟨g,0,none⟩)] w fun e w' => e = .returned (.bool (vGood deep L x)) /\ (∃ L':Int,intBox w' g L' /\ (vGood deep L x = true -> L' = L - x.nodes)) /\ Keep (· = g) w w'
theorem vGood_no1 {deep:Nat} {L:Int} {x:V} (h:L - 1 < 0):vGood deep L x = false:=by
 have:=x.nodes_pos; unfold vGood; rw [decide_eq_false (by omega),Bool.and_false]
theorem vGood_no2 {deep:Nat} {L:Int} {x:V} (h:(12:Int) < deep):vGood deep L x = false:=by
 obtain ⟨k,m,e,s,kids⟩:=x;unfold vGood; simp only [V.rightBy]; rw [decide_eq_false (show ¬ (0:Int) <= 12 - deep by omega)]; simp
theorem V.nodess_ge:∀ xs:List V,xs.length <= V.nodess xs
 | [] => by simp
 | x :: xs => by have:=x.nodes_pos; have:=V.nodess_ge xs; simp only [V.nodess,length_cons]; omega
theorem vGood_no3 {deep:Nat} {L:Int} {k m e:Int} {s:L8} {kids:List V} (h:L - 1 < kids.length):vGood deep L (.mk k m e s kids) = false:=by
 have:=V.nodess_ge kids; unfold vGood; rw [decide_eq_false (by simp only [V.nodes]; omega),Bool.and_false]
theorem zfS {deep:Nat} {L:Int} {x:V} (h:x.selfI = false):vGood deep L x = false:=by
 obtain ⟨k,m,e,s,kids⟩:=x;unfold vGood; simp only [V.rightBy]; rw [show V.selfBy pairsOkI (.mk k m e s kids) = false from h]; simp
theorem vGood_yes {deep:Nat} {L:Int} {k m e:Int} {s:L8} {kids:List V} (h2:¬ (12:Int) < deep) (ho:V.selfI (.mk k m e s kids) = true) :
  vGood deep L (.mk k m e s kids) = vGoods (deep + 1) (L - 1) kids:=by
 unfold vGood vGoods; simp only [V.rightBy,V.nodes]
 rw [show V.selfBy pairsOkI (.mk k m e s kids) = true from ho,decide_eq_true (show (0:Int) <= 12 - deep by omega),show (12:Int) - deep - 1 = 12 - (deep + 1:Nat) by omega,Bool.and_true,Bool.and_true]
 congr 1; exact decide_eq_decide.2 (by omega)
def VIsC (n:Nat):Prop:=∀ (xs:List V) (va:Value) (deep N g bd bl:Nat) (L:Int) (w:World),V.nodess xs <= n -> RdN N w (.sl 5 (V.ds xs)) [va] -> N <= g -> intBox w g L -> intBox w bd deep -> bd ≠ g -> w.cell? ⟨bl,0,none⟩ = some (.pointer (some ⟨g,0,none⟩)) -> bl ≠ g ->
  V.wfs xs -> xs.length + V.bulks xs <= 4294967295 -> Tabs w -> GlobN N -> deep <= 1000 -> 0 <= L /\ L <= 1000 ->
 Calls Tryz.prog 65 #[va,.func (.func 66) #[] #[.pointer (some ⟨bd,0,none⟩),.pointer (some ⟨bl,0,none⟩)]] w fun e w' => e = .returned (.bool (!vGoods (deep + 1) L xs)) /\ (∃ L':Int,intBox w' g L' /\ (vGoods (deep + 1) L xs = true -> L' = L - V.nodess xs)) /\ Keep (· = g) w w'
theorem VIsA_of {n:Nat} (hC:VIsC n):VIsA (n + 1):=by
 intro x cs deep N g L w hn h hNg hbox hwf hbk hT hG hdeep hL;obtain ⟨k,m,e,s,kids,v2,hx,rfl,hkids⟩:=V.layS h;subst hx;have hnk:V.nodess kids <= n:=by simp only [V.nodes] at hn; omega
 obtain ⟨hL1,hL2⟩:=hL;obtain ⟨M,rfl⟩:∃ M,L = M + 1:=⟨L - 1,by omega⟩;have hglt:=hbox.lt;obtain ⟨a2,c2,rfl⟩:=Rd.sl_form (Rd.of hkids);simp only [V.ds_map,length_map] at h hkids ⊢;rw [<- V.ds_map] at hkids;have hfree:=hbox.free;have hcell:=hbox.cell;obtain ⟨W0,hW0⟩:∃ W0,W0 = ((((w.setCell ⟨g,0,none⟩ (.int .i64 M)).alloc (.cells #[.int .i64 k,.int .i64 m,.int .i64 e,.string ⟨s.toArray⟩,.slice a2 kids.length c2] 26)).alloc (.cells #[.int .i64 deep] 3)).alloc (.cells #[.pointer (some ⟨g,0,none⟩)] 50)):=⟨_,rfl⟩;have HW:=Lib.hid hW0;have hK0:Keep (· = g) w W0:=by rw [hW0]; exact (((Keep.setCell (S:=(· = g)) (p:=⟨g,0,none⟩) (Keep.refl _ _) (.inl rfl) _).alloc _).alloc _).alloc _
 have hb0:intBox W0 g M:=by
  rw [hW0]
  have:intBox (w.setCell ⟨g,0,none⟩ (.int .i64 M)) g M:=one_setCell hbox
  exact ((this.below ((Below.refl _ _).alloc lR _)).below ((Below.refl _ _).alloc lR _)).below ((Below.refl _ _).alloc lR _)
 have hbd0:intBox W0 (w.heap.size + 1) deep:=by
  rw [hW0]; unfold intBox; rw [Below.heap_alloc _ _ _ (by simp [World.setCell])]
  have:=zaB ((w.setCell ⟨g,0,none⟩ (.int .i64 M)).alloc (.cells #[.int .i64 k,.int .i64 m,.int .i64 e,.string ⟨s.toArray⟩,.slice a2 kids.length c2] 26)) (.cells #[.int .i64 deep] 3)
  simpa [World.setCell] using this
 have hng:∀ k,k < N -> ¬ k = g:=by intro k hk e; omega
 have hN:N <= w.heap.size:=by omega
 have hss:(w.setCell ⟨g,0,none⟩ (.int .i64 M)).heap.size = w.heap.size:=by simp [World.setCell]
 have hsz:W0.heap.size = w.heap.size + 3:=by rw [hW0]; simp [hss]
 have s1:g < w.heap.size + 1:=by omega
 have s2:g < w.heap.size + 1 + 1:=by omega
 have s3:g < w.heap.size + 1 + 1 + 1:=by omega
 have q1:¬ g = w.heap.size:=by omega
 have q2:¬ g = w.heap.size + 1:=by omega
 have q3:¬ g = w.heap.size + 1 + 1:=by omega
 have KB:Hid (∀ W,Below W0.heap.size W0 W -> W.cell? ⟨w.heap.size,0,none⟩ = some (.int .i64 k) /\ W.cell? ⟨w.heap.size,1,none⟩ = some (.int .i64 m) /\ W.cell? ⟨w.heap.size,2,none⟩ = some (.int .i64 e) /\ W.cell? ⟨w.heap.size,3,none⟩ = some (.string ⟨s.toArray⟩) /\ W.cell? ⟨w.heap.size,4,none⟩ = some (.slice a2 kids.length c2) /\ W.cell? ⟨w.heap.size + 1,0,none⟩ = some (.int .i64 deep) /\ W.cell? ⟨w.heap.size + 1 + 1,0,none⟩ = some (.pointer (some ⟨g,0,none⟩)) /\ W.cell? ⟨g,0,none⟩ = some (.int .i64 M)):=by
  intro W hb;obtain ⟨hc,_⟩:=za5 hb;have z1:w.heap.size < W0.heap.size:=by omega
  have z2:w.heap.size + 1 < W0.heap.size:=by omega
  have z3:w.heap.size + 1 + 1 < W0.heap.size:=by omega
  have z4:g < W0.heap.size:=by omega
  simp only [hc _ _ z1,hc _ _ z2,hc _ _ z3,hc _ _ z4,hb0.cell];subst hW0;simp [go_sem,hss]
 have hT0:=Lib.hid (hT.keep hG hK0 hN hng);have HR:=Lib.hid (show ∀ W,Below W0.heap.size W0 W -> RdN N W (V.d (.mk k m e s kids)) [.int .i64 k,.int .i64 m,.int .i64 e,.string ⟨s.toArray⟩,.slice a2 kids.length c2] from fun W hb => (h.keep hK0 hN hng).below (hb.mono (by omega)));have HRk:=Lib.hid (show ∀ W,Below W0.heap.size W0 W -> RdN N W (.sl 5 (V.ds kids)) [.slice a2 kids.length c2] from fun W hb => (RdN.keep hkids hK0 hN hng).below (hb.mono (by omega)));have HF:=Lib.hid (fun W (hb:Below W0.heap.size W0 W) => isNode_any _ _ W (HR.out W hb).rd hwf hbk (hT0.out.below hb));have HQ:=Lib.hid (fun W (hb:Below W0.heap.size W0 W) => zgB _ _ W (HR.out W hb).rd hbk);clear h hkids hT hbox hW0 hng hss q1 q2 q3;by_cases qc1:M < 0
 ·have dqc1:=decide_eq_true qc1
  have H:=Lib.hid (vGood_no1 (deep:=deep) (L:=M + 1) (x:=.mk k m e s kids) (by omega))
  go_enter Tryz.func35,Tryz.ntmps35
  go_wp2;rw [<- HW.out];have hB:=Below.refl W0.heap.size W0;obtain ⟨p0,p1,p2,p3,p4,p6,p7,p8⟩:=KB.out _ hB
  go_quiet (fail)
  go_wp2;go_ret;exact ⟨by rw [H.out]; rfl,⟨M,hb0.below (by first | exact hB | exact hB.drew | exact Go.below_drewN hB _),fun h => by rw [H.out] at h; cases h⟩,hK0.then (by first | exact hB | exact hB.drew | exact Go.below_drewN hB _)⟩
 have dqc1:=decide_eq_false qc1;by_cases qc2:(12:Int) < deep
 ·have dqc2:=decide_eq_true qc2
  have H:=Lib.hid (vGood_no2 (L:=M + 1) (x:=.mk k m e s kids) qc2)
  go_enter Tryz.func35,Tryz.ntmps35
  go_wp2;rw [<- HW.out];have hB:=Below.refl W0.heap.size W0;obtain ⟨p0,p1,p2,p3,p4,p6,p7,p8⟩:=KB.out _ hB
  go_quiet (fail)
  go_wp2;go_ret;exact ⟨by rw [H.out]; rfl,⟨M,hb0.below (by first | exact hB | exact hB.drew | exact Go.below_drewN hB _),fun h => by rw [H.out] at h; cases h⟩,hK0.then (by first | exact hB | exact hB.drew | exact Go.below_drewN hB _)⟩
 have dqc2:=decide_eq_false qc2;by_cases qc3:M < kids.length
 ·have dqc3:=decide_eq_true qc3
  have H:=Lib.hid (vGood_no3 (deep:=deep) (L:=M + 1) (k:=k) (m:=m) (e:=e) (s:=s) (kids:=kids) (by omega))
  go_enter Tryz.func35,Tryz.ntmps35
  go_wp2;rw [<- HW.out];have hB:=Below.refl W0.heap.size W0;obtain ⟨p0,p1,p2,p3,p4,p6,p7,p8⟩:=KB.out _ hB
  go_quiet (fail)
  go_wp2;go_ret;exact ⟨by rw [H.out]; rfl,⟨M,hb0.below (by first | exact hB | exact hB.drew | exact Go.below_drewN hB _),fun h => by rw [H.out] at h; cases h⟩,hK0.then (by first | exact hB | exact hB.drew | exact Go.below_drewN hB _)⟩
 have dqc3:=decide_eq_false qc3;have HSN:=Lib.hid (V.selfI_node (.mk k m e s kids))
 cases hnode:V.node (.mk k m e s kids) with
 | false =>
  have HO:=Lib.hid hnode;have H:=Lib.hid (zfS (deep:=deep) (L:=M + 1) (x:=.mk k m e s kids) (by rw [HSN.out,hnode]; rfl));clear hnode
  go_enter Tryz.func35,Tryz.ntmps35
  go_wp2;rw [<- HW.out];have hB:=Below.refl W0.heap.size W0;refine wp_region_held_drew (S:=(fun W => W.cell? ⟨w.heap.size,0,none⟩ = some (.int .i64 k) /\ W.cell? ⟨w.heap.size,1,none⟩ = some (.int .i64 m) /\ W.cell? ⟨w.heap.size,2,none⟩ = some (.int .i64 e) /\ W.cell? ⟨w.heap.size,3,none⟩ = some (.string ⟨s.toArray⟩) /\ W.cell? ⟨w.heap.size,4,none⟩ = some (.slice a2 kids.length c2) /\ W.cell? ⟨w.heap.size + 1,0,none⟩ = some (.int .i64 deep) /\ W.cell? ⟨w.heap.size + 1 + 1,0,none⟩ = some (.pointer (some ⟨g,0,none⟩)) /\ W.cell? ⟨g,0,none⟩ = some (.int .i64 M))) (by kernel_rfl) ?_ (fun hHeld => ?_)
  ·((try dsimp only); (first | exact KB.out _ hB | exact KB.out _ hB.drew))
  refine zbn (i:=0) (fuel:=26) (d:=some 12) (v:=?vr0) (listed':=#[true,false,false,false,false,false,false,false,false,false,false,false,false,false,false,false,false,false,false,false,false,false,false,false,false,false,false]) rfl rfl (by kernel_rfl) (by kernel_rfl) (by kernel_rfl) (by kernel_rfl) (by kernel_rfl) (fun _ _ _ h => h) (by kernel_rfl) (by assumption) ?hr0 ?rr0
  case hr0 => (intro w hSw; (try dsimp only at hSw); go_simp; all_goals with_reducible rfl)
  simp only [Act.put,setIfInBounds_toArray,set_cons_zero,set_cons_succ];refine zbn (i:=1) (fuel:=25) (d:=some 13) (v:=?vr1) (listed':=#[true,true,false,false,false,false,false,false,false,false,false,false,false,false,false,false,false,false,false,false,false,false,false,false,false,false,false]) rfl rfl (by kernel_rfl) (by kernel_rfl) (by kernel_rfl) (by kernel_rfl) (by kernel_rfl) (fun _ _ _ h => h) (by kernel_rfl) (by assumption) ?hr1 ?rr1
  case hr1 => (intro w hSw; (try dsimp only at hSw); go_simp; all_goals with_reducible rfl)
  simp only [Act.put,setIfInBounds_toArray,set_cons_zero,set_cons_succ];refine zbn (i:=2) (fuel:=24) (d:=some 14) (v:=?vr2) (listed':=#[true,true,true,false,false,false,false,false,false,false,false,false,false,false,false,false,false,false,false,false,false,false,false,false,false,false,false]) rfl rfl (by kernel_rfl) (by kernel_rfl) (by kernel_rfl) (by kernel_rfl) (by kernel_rfl) (fun _ _ _ h => h) (by kernel_rfl) (by assumption) ?hr2 ?rr2
  case hr2 => (intro w hSw; (try dsimp only at hSw); go_simp; all_goals with_reducible rfl)
  simp only [Act.put,setIfInBounds_toArray,set_cons_zero,set_cons_succ];refine zbn (i:=3) (fuel:=23) (d:=some 15) (v:=?vr3) (listed':=#[true,true,true,true,false,false,false,false,false,false,false,false,false,false,false,false,false,false,false,false,false,false,false,false,false,false,false]) rfl rfl (by kernel_rfl) (by kernel_rfl) (by kernel_rfl) (by kernel_rfl) (by kernel_rfl) (fun _ _ _ h => h) (by kernel_rfl) (by assumption) ?hr3 ?rr3
  case hr3 => (intro w hSw; (try dsimp only at hSw); go_simp; all_goals with_reducible rfl)
  simp only [Act.put,setIfInBounds_toArray,set_cons_zero,set_cons_succ];refine zbn (i:=4) (fuel:=22) (d:=some 16) (v:=?vr4) (listed':=#[true,true,true,true,true,false,false,false,false,false,false,false,false,false,false,false,false,false,false,false,false,false,false,false,false,false,false]) rfl rfl (by kernel_rfl) (by kernel_rfl) (by kernel_rfl) (by kernel_rfl) (by kernel_rfl) (fun _ _ _ h => h) (by kernel_rfl) (by assumption) ?hr4 ?rr4
  case hr4 => (intro w hSw; (try dsimp only at hSw); go_simp; all_goals with_reducible rfl)
  simp only [Act.put,setIfInBounds_toArray,set_cons_zero,set_cons_succ];refine zbn (i:=5) (fuel:=21) (d:=some 17) (v:=?vr5) (listed':=#[true,true,true,true,true,true,false,false,false,false,false,false,false,false,false,false,false,false,false,false,false,false,false,false,false,false,false]) rfl rfl (by kernel_rfl) (by kernel_rfl) (by kernel_rfl) (by kernel_rfl) (by kernel_rfl) (fun _ _ _ h => h) (by kernel_rfl) (by assumption) ?hr5 ?rr5
  case hr5 => (intro w hSw; (try dsimp only at hSw); go_simp; all_goals with_reducible rfl)
  simp only [Act.put,setIfInBounds_toArray,set_cons_zero,set_cons_succ];refine zbn (i:=6) (fuel:=20) (d:=some 18) (v:=?vr6) (listed':=#[true,true,true,true,true,true,true,false,false,false,false,false,false,false,false,false,false,false,false,false,false,false,false,false,false,false,false]) rfl rfl (by kernel_rfl) (by kernel_rfl) (by kernel_rfl) (by kernel_rfl) (by kernel_rfl) (fun _ _ _ h => h) (by kernel_rfl) (by assumption) ?hr6 ?rr6
  case hr6 => (intro w hSw; (try dsimp only at hSw); go_simp; all_goals with_reducible rfl)
  simp only [Act.put,setIfInBounds_toArray,set_cons_zero,set_cons_succ];refine zbn (i:=7) (fuel:=19) (d:=some 19) (v:=?vr7) (listed':=#[true,true,true,true,true,true,true,true,false,false,false,false,false,false,false,false,false,false,false,false,false,false,false,false,false,false,false]) rfl rfl (by kernel_rfl) (by kernel_rfl) (by kernel_rfl) (by kernel_rfl) (by kernel_rfl) (fun _ _ _ h => h) (by kernel_rfl) (by assumption) ?hr7 ?rr7
  case hr7 => (intro w hSw; (try dsimp only at hSw); go_simp; all_goals with_reducible rfl)
  simp only [Act.put,setIfInBounds_toArray,set_cons_zero,set_cons_succ];refine zbn (i:=8) (fuel:=18) (d:=some 20) (v:=?vr8) (listed':=#[true,true,true,true,true,true,true,true,true,false,false,false,false,false,false,false,false,false,false,false,false,false,false,false,false,false,false]) rfl rfl (by kernel_rfl) (by kernel_rfl) (by kernel_rfl) (by kernel_rfl) (by kernel_rfl) (fun _ _ _ h => h) (by kernel_rfl) (by assumption) ?hr8 ?rr8
  case hr8 => (intro w hSw; (try dsimp only at hSw); go_simp; all_goals with_reducible rfl)
  simp only [Act.put,setIfInBounds_toArray,set_cons_zero,set_cons_succ];refine zbn (i:=9) (fuel:=17) (d:=some 21) (v:=?vr9) (listed':=#[true,true,true,true,true,true,true,true,true,true,false,false,false,false,false,false,false,false,false,false,false,false,false,false,false,false,false]) rfl rfl (by kernel_rfl) (by kernel_rfl) (by kernel_rfl) (by kernel_rfl) (by kernel_rfl) (fun _ _ _ h => h) (by kernel_rfl) (by assumption) ?hr9 ?rr9
  case hr9 => (intro w hSw; (try dsimp only at hSw); go_simp; all_goals with_reducible rfl)
  simp only [Act.put,setIfInBounds_toArray,set_cons_zero,set_cons_succ];refine zbn (i:=10) (fuel:=16) (d:=some 22) (v:=?vr10) (listed':=#[true,true,true,true,true,true,true,true,true,true,true,false,false,false,false,false,false,false,false,false,false,false,false,false,false,false,false]) rfl rfl (by kernel_rfl) (by kernel_rfl) (by kernel_rfl) (by kernel_rfl) (by kernel_rfl) (fun _ _ _ h => h) (by kernel_rfl) (by assumption) ?hr10 ?rr10
  case hr10 => (intro w hSw; (try dsimp only at hSw); go_simp; all_goals with_reducible rfl)
  simp only [Act.put,setIfInBounds_toArray,set_cons_zero,set_cons_succ];refine zbn (i:=11) (fuel:=15) (d:=some 23) (v:=?vr11) (listed':=#[true,true,true,true,true,true,true,true,true,true,true,true,false,false,false,false,false,false,false,false,false,false,false,false,false,false,false]) rfl rfl (by kernel_rfl) (by kernel_rfl) (by kernel_rfl) (by kernel_rfl) (by kernel_rfl) (fun _ _ _ h => h) (by kernel_rfl) (by assumption) ?hr11 ?rr11
  case hr11 => (intro w hSw; (try dsimp only at hSw); go_simp; all_goals with_reducible rfl)
  simp only [Act.put,setIfInBounds_toArray,set_cons_zero,set_cons_succ];refine zbn (i:=12) (fuel:=14) (d:=some 24) (v:=?vr12) (listed':=#[true,true,true,true,true,true,true,true,true,true,true,true,true,false,false,false,false,false,false,false,false,false,false,false,false,false,false]) rfl rfl (by kernel_rfl) (by kernel_rfl) (by kernel_rfl) (by kernel_rfl) (by kernel_rfl) (fun _ _ _ h => h) (by kernel_rfl) (by assumption) ?hr12 ?rr12
  case hr12 => (intro w hSw; (try dsimp only at hSw); go_simp; all_goals with_reducible rfl)
  simp only [Act.put,setIfInBounds_toArray,set_cons_zero,set_cons_succ];refine zbn (i:=13) (fuel:=13) (d:=some 25) (v:=?vr13) (listed':=#[true,true,true,true,true,true,true,true,true,true,true,true,true,true,false,false,false,false,false,false,false,false,false,false,false,false,false]) rfl rfl (by kernel_rfl) (by kernel_rfl) (by kernel_rfl) (by kernel_rfl) (by kernel_rfl) (fun _ _ _ h => h) (by kernel_rfl) (by assumption) ?hr13 ?rr13
  case hr13 => (intro w hSw; (try dsimp only at hSw); go_simp; all_goals with_reducible rfl)
  simp only [Act.put,setIfInBounds_toArray,set_cons_zero,set_cons_succ];refine zbn (i:=14) (fuel:=12) (d:=some 26) (v:=?vr14) (listed':=#[true,true,true,true,true,true,true,true,true,true,true,true,true,true,true,false,false,false,false,false,false,false,false,false,false,false,false]) rfl rfl (by kernel_rfl) (by kernel_rfl) (by kernel_rfl) (by kernel_rfl) (by kernel_rfl) (fun _ _ _ h => h) (by kernel_rfl) (by assumption) ?hr14 ?rr14
  case hr14 => (intro w hSw; (try dsimp only at hSw); go_simp; all_goals with_reducible rfl)
  simp only [Act.put,setIfInBounds_toArray,set_cons_zero,set_cons_succ];refine zbn (i:=15) (fuel:=11) (d:=some 27) (v:=?vr15) (listed':=#[true,true,true,true,true,true,true,true,true,true,true,true,true,true,true,true,false,false,false,false,false,false,false,false,false,false,false]) rfl rfl (by kernel_rfl) (by kernel_rfl) (by kernel_rfl) (by kernel_rfl) (by kernel_rfl) (fun _ _ _ h => h) (by kernel_rfl) (by assumption) ?hr15 ?rr15
  case hr15 => (intro w hSw; (try dsimp only at hSw); go_simp; all_goals with_reducible rfl)
  simp only [Act.put,setIfInBounds_toArray,set_cons_zero,set_cons_succ];refine zbn (i:=16) (fuel:=10) (d:=some 28) (v:=?vr16) (listed':=#[true,true,true,true,true,true,true,true,true,true,true,true,true,true,true,true,true,false,false,false,false,false,false,false,false,false,false]) rfl rfl (by kernel_rfl) (by kernel_rfl) (by kernel_rfl) (by kernel_rfl) (by kernel_rfl) (fun _ _ _ h => h) (by kernel_rfl) (by assumption) ?hr16 ?rr16
  case hr16 => (intro w hSw; (try dsimp only at hSw); go_simp; all_goals with_reducible rfl)
  simp only [Act.put,setIfInBounds_toArray,set_cons_zero,set_cons_succ];refine zbn (i:=17) (fuel:=9) (d:=some 29) (v:=?vr17) (listed':=#[true,true,true,true,true,true,true,true,true,true,true,true,true,true,true,true,true,true,false,false,false,false,false,false,false,false,false]) rfl rfl (by kernel_rfl) (by kernel_rfl) (by kernel_rfl) (by kernel_rfl) (by kernel_rfl) (fun _ _ _ h => h) (by kernel_rfl) (by assumption) ?hr17 ?rr17
  case hr17 => (intro w hSw; (try dsimp only at hSw); go_simp; all_goals with_reducible rfl)
  simp only [Act.put,setIfInBounds_toArray,set_cons_zero,set_cons_succ];refine zbn (i:=18) (fuel:=8) (d:=some 30) (v:=?vr18) (listed':=#[true,true,true,true,true,true,true,true,true,true,true,true,true,true,true,true,true,true,true,false,false,false,false,false,false,false,false]) rfl rfl (by kernel_rfl) (by kernel_rfl) (by kernel_rfl) (by kernel_rfl) (by kernel_rfl) (fun _ _ _ h => h) (by kernel_rfl) (by assumption) ?hr18 ?rr18
  case hr18 => (intro w hSw; (try dsimp only at hSw); go_simp; all_goals with_reducible rfl)
  simp only [Act.put,setIfInBounds_toArray,set_cons_zero,set_cons_succ];refine takeC (i:=19) (fuel:=7) (d:=some 31) (listed':=#[true,true,true,true,true,true,true,true,true,true,true,true,true,true,true,true,true,true,true,true,false,false,false,false,false,false,false]) rfl rfl (by kernel_rfl) (by kernel_rfl) (by kernel_rfl) (by kernel_rfl) (fun K hK => ?cr19)
  go_simp
  ((go_at_call 63; with_reducible refine (HF.out _ (by first | exact hB | exact hB.drew)).mono ?_; rw [HO.out]; rintro e1 w1 ⟨rfl,hb1⟩; replace hB:=zan (by first | exact hB | exact hB.drew) hb1 lR))
  go_wp2_with fail
  refine hK.out _ _ ?kr19 (fun hHeld => ?nr19)
  case kr19 => ((try dsimp only); (first | exact KB.out _ hB | exact KB.out _ hB.drew))
  clear hK K
  try simp only [skipAct,Act.put,setIfInBounds_toArray,set_cons_zero,set_cons_succ]
  refine zbn (i:=20) (fuel:=6) (d:=some 32) (v:=?vr20) (listed':=#[true,true,true,true,true,true,true,true,true,true,true,true,true,true,true,true,true,true,true,true,true,false,false,false,false,false,false]) rfl rfl (by kernel_rfl) (by kernel_rfl) (by kernel_rfl) (by kernel_rfl) (by kernel_rfl) (fun _ _ _ h => h) (by kernel_rfl) (by assumption) ?hr20 ?rr20
  case hr20 => (intro w hSw; (try dsimp only at hSw); go_simp; all_goals with_reducible rfl)
  simp only [Act.put,setIfInBounds_toArray,set_cons_zero,set_cons_succ];refine zbn (i:=21) (fuel:=5) (d:=some 33) (v:=?vr21) (listed':=#[true,true,true,true,true,true,true,true,true,true,true,true,true,true,true,true,true,true,true,true,true,true,false,false,false,false,false]) rfl rfl (by kernel_rfl) (by kernel_rfl) (by kernel_rfl) (by kernel_rfl) (by kernel_rfl) (fun _ _ _ h => h) (by kernel_rfl) (by assumption) ?hr21 ?rr21
  case hr21 => (intro w hSw; (try dsimp only at hSw); go_simp; all_goals with_reducible rfl)
  simp only [Act.put,setIfInBounds_toArray,set_cons_zero,set_cons_succ];refine zbn (i:=22) (fuel:=4) (d:=some 34) (v:=?vr22) (listed':=#[true,true,true,true,true,true,true,true,true,true,true,true,true,true,true,true,true,true,true,true,true,true,true,false,false,false,false]) rfl rfl (by kernel_rfl) (by kernel_rfl) (by kernel_rfl) (by kernel_rfl) (by kernel_rfl) (fun _ _ _ h => h) (by kernel_rfl) (by assumption) ?hr22 ?rr22
  case hr22 => (intro w hSw; (try dsimp only at hSw); go_simp; all_goals with_reducible rfl)
  simp only [Act.put,setIfInBounds_toArray,set_cons_zero,set_cons_succ];refine takeS (fuel:=1) (listed':=#[true,true,true,true,true,true,true,true,true,true,true,true,true,true,true,true,true,true,true,true,true,true,true,true,true,true,false]) (by kernel_rfl) (fun _ _ _ _ h => h) (by assumption) [(23,35),(24,36),(25,37)] (by kernel_rfl) (by kernel_rfl) (by kernel_rfl) ?_;simp only [skipAct,setIfInBounds_toArray,set_cons_zero,set_cons_succ];refine zbn (i:=26) (fuel:=0) (d:=some 38) (v:=?vr26) (listed':=#[true,true,true,true,true,true,true,true,true,true,true,true,true,true,true,true,true,true,true,true,true,true,true,true,true,true,true]) rfl rfl (by kernel_rfl) (by kernel_rfl) (by kernel_rfl) (by kernel_rfl) (by kernel_rfl) (fun _ _ _ h => h) (by kernel_rfl) (by assumption) ?hr26 ?rr26
  case hr26 => (intro w hSw; (try dsimp only at hSw); go_simp; all_goals with_reducible rfl)
  simp only [Act.put,setIfInBounds_toArray,set_cons_zero,set_cons_succ];refine wpAnyH_done (by kernel_rfl) ?_ _;go_wp2;go_ret
  exact ⟨by rw [H.out]; rfl,⟨M,hb0.below (by first | exact hB | exact hB.drew | exact Go.below_drewN hB _),fun h => by rw [H.out] at h; cases h⟩,hK0.then (by first | exact hB | exact hB.drew | exact Go.below_drewN hB _)⟩
 | true =>
  have HO:=Lib.hid hnode
  cases hkk:V.kidsOk k kids with
  | false =>
   have HKK:=Lib.hid (show V.kidsOk (V.kind (.mk k m e s kids)) (V.kids (.mk k m e s kids)) = false from hkk);have H:=Lib.hid (zfS (deep:=deep) (L:=M + 1) (x:=.mk k m e s kids) (by rw [HSN.out,hnode]; exact hkk));clear hnode hkk
   go_enter Tryz.func35,Tryz.ntmps35
   go_wp2;rw [<- HW.out];have hB:=Below.refl W0.heap.size W0
   go_region_held3 (fun W => W.cell? ⟨w.heap.size,0,none⟩ = some (.int .i64 k) /\ W.cell? ⟨w.heap.size,1,none⟩ = some (.int .i64 m) /\ W.cell? ⟨w.heap.size,2,none⟩ = some (.int .i64 e) /\ W.cell? ⟨w.heap.size,3,none⟩ = some (.string ⟨s.toArray⟩) /\ W.cell? ⟨w.heap.size,4,none⟩ = some (.slice a2 kids.length c2) /\ W.cell? ⟨w.heap.size + 1,0,none⟩ = some (.int .i64 deep) /\ W.cell? ⟨w.heap.size + 1 + 1,0,none⟩ = some (.pointer (some ⟨g,0,none⟩)) /\ W.cell? ⟨g,0,none⟩ = some (.int .i64 M))
    (first | exact KB.out _ hB | exact KB.out _ hB.drew)
    (first | (go_at_call 63; with_reducible refine (HF.out _ (by first | exact hB | exact hB.drew)).mono ?_; rw [HO.out]; rintro e1 w1 ⟨rfl,hb1⟩; replace hB:=zan (by first | exact hB | exact hB.drew) hb1 lR) | (go_at_call 64; with_reducible refine (HQ.out _ (by first | exact hB | exact hB.drew)).mono ?_; rw [HKK.out]; rintro e1 w1 ⟨rfl,hb1⟩; replace hB:=zan (by first | exact hB | exact hB.drew) hb1 lR))
   go_wp2;go_ret
   exact ⟨by rw [H.out]; rfl,⟨M,hb0.below (by first | exact hB | exact hB.drew | exact Go.below_drewN hB _),fun h => by rw [H.out] at h; cases h⟩,hK0.then (by first | exact hB | exact hB.drew | exact Go.below_drewN hB _)⟩
  | true =>
   have HKK:=Lib.hid (show V.kidsOk (V.kind (.mk k m e s kids)) (V.kids (.mk k m e s kids)) = true from hkk);have H0:=vGood_yes (L:=M + 1) qc2 (show V.selfI (.mk k m e s kids) = true by rw [HSN.out,hnode]; exact hkk);rw [show M + 1 - 1 = M by omega] at H0;have H:=Lib.hid H0;clear H0 hnode hkk
   go_enter Tryz.func35,Tryz.ntmps35
   go_wp2;rw [<- HW.out];have hB:=Below.refl W0.heap.size W0
   go_region_held3 (fun W => W.cell? ⟨w.heap.size,0,none⟩ = some (.int .i64 k) /\ W.cell? ⟨w.heap.size,1,none⟩ = some (.int .i64 m) /\ W.cell? ⟨w.heap.size,2,none⟩ = some (.int .i64 e) /\ W.cell? ⟨w.heap.size,3,none⟩ = some (.string ⟨s.toArray⟩) /\ W.cell? ⟨w.heap.size,4,none⟩ = some (.slice a2 kids.length c2) /\ W.cell? ⟨w.heap.size + 1,0,none⟩ = some (.int .i64 deep) /\ W.cell? ⟨w.heap.size + 1 + 1,0,none⟩ = some (.pointer (some ⟨g,0,none⟩)) /\ W.cell? ⟨g,0,none⟩ = some (.int .i64 M))
    (first | exact KB.out _ hB | exact KB.out _ hB.drew)
    (first | (go_at_call 63; with_reducible refine (HF.out _ (by first | exact hB | exact hB.drew)).mono ?_; rw [HO.out]; rintro e1 w1 ⟨rfl,hb1⟩; replace hB:=zan (by first | exact hB | exact hB.drew) hb1 lR) | (go_at_call 64; with_reducible refine (HQ.out _ (by first | exact hB | exact hB.drew)).mono ?_; rw [HKK.out]; rintro e1 w1 ⟨rfl,hb1⟩; replace hB:=zan (by first | exact hB | exact hB.drew) hb1 lR))
   obtain ⟨p0,p1,p2,p3,p4,p6,p7,p8⟩:=KB.out _ hB;have hkw:V.wfs kids:=hwf.2.2.2.2.2;have hkb:kids.length + V.bulks kids <= 4294967295:=by simp only [V.bulk] at hbk; omega
   have HCC:=Lib.hid (hC kids _ deep N g (w.heap.size + 1) (w.heap.size + 1 + 1) M _ hnk (HRk.out _ hB) hNg (hb0.below hB) (hbd0.below hB) (by omega) p7 (by omega) hkw hkb (hT0.out.below hB) hG (by omega) (by omega))
   go_wp2_with (go_at_call 65; refine HCC.out.mono ?_; rintro e1 w2 ⟨rfl,⟨L',hbx,hL'⟩,hk2⟩)
   go_ret;exact ⟨by rw [H.out]; simp,⟨L',hbx,fun hh => by rw [H.out] at hh; rw [hL' hh]; simp only [V.nodes]; omega⟩,(hK0.then hB).trans hk2⟩
theorem zfT {n:Nat} (hA:VIsA n) (x:V) (cs:List Value) (deep N g bd bl:Nat) (L:Int) (w:World) (hn:x.nodes <= n) (h:RdN N w x.d cs) (hNg:N <= g) (hbox:intBox w g L) (hbd:intBox w bd deep) (hbl:w.cell? ⟨bl,0,none⟩ = some (.pointer (some ⟨g,0,none⟩)))
  (hwf:x.wf) (hbk:x.bulk <= 4294967295) (hT:Tabs w) (hG:GlobN N) (hdeep:deep <= 1000) (hL:0 <= L /\ L <= 1000) :
  Calls Tryz.prog 66 #[.agg cs.toArray,.pointer (some ⟨bd,0,none⟩),.pointer (some ⟨bl,0,none⟩)] w fun e w' => e = .returned (.bool (!vGood (deep + 1) L x)) /\ (∃ L':Int,intBox w' g L' /\ (vGood (deep + 1) L x = true -> L' = L - x.nodes)) /\ Keep (· = g) w w':=by
 obtain ⟨k,m,e,s,a2,n2,c2,rfl⟩:=V.form h.rd;have hb1:=hbd.cell;have hz1:=hbd.lt;have hz2:bl < w.heap.size:=zcP hbl;have hN:N <= w.heap.size:=by have:=hbox.lt; omega
 have hal:Below w.heap.size w (w.alloc (.cells #[.int .i64 k,.int .i64 m,.int .i64 e,.string ⟨s.toArray⟩,.slice a2 n2 c2] 26)):=(Below.refl _ _).alloc lR _;have HCC:=Lib.hid (hA x _ (deep + 1) N g L _ hn (h.below (hal.mono hN)) hNg (hbox.below hal) hwf hbk (hT.below hal) hG (by omega) hL)
 go_enter Tryz.func66,Tryz.ntmps66
 go_wp2_with (go_at_call 35; refine HCC.out.mono ?_; rintro e w1 ⟨rfl,hL',hk1⟩)
 go_ret;exact ⟨rfl,hL',(Keep.of_below hal).trans hk1⟩
theorem zgC (deep:Nat) (L:Int) (xs:List V) (k:Nat) (hk:k < xs.length) (h:vGoods deep L (xs.take k) = true) :
  vGoods deep L (xs.take (k + 1)) = vGood deep (L - V.nodess (xs.take k)) xs[k]:=by
 have hn:∀ (ls:List V) (x:V),V.nodess (ls ++ [x]) = V.nodess ls + x.nodes:=by
  intro ls x; induction ls with
  | nil => simp [V.nodess]
  | cons a ls ih => simp only [cons_append,V.nodess,ih]; omega
 unfold vGoods at h ⊢; unfold vGood
 rw [take_succ_eq_append_getElem hk,hn,V.rightsBy_all,all_append];rw [V.rightsBy_all] at h;simp only [Bool.and_eq_true,decide_eq_true_eq] at h;rw [h.1,Bool.true_and]
 congr 1
 ·simp
 ·exact decide_eq_decide.2 (by omega)
theorem vGoods_cut (deep:Nat) (L:Int) (xs:List V) (k:Nat) (h:vGoods deep L (xs.take k) = false):vGoods deep L xs = false:=by
 have hn:∀ (ls ms:List V),V.nodess (ls ++ ms) = V.nodess ls + V.nodess ms:=by
  intro ls ms; induction ls with
  | nil => simp [V.nodess]
  | cons a ls ih => simp only [cons_append,V.nodess,ih]; omega
 cases hk:vGoods deep L xs with
 | false => rfl
 | true =>
  exfalso;rw [<- take_append_drop k xs] at hk;unfold vGoods at h hk;rw [V.rightsBy_all,all_append,hn] at hk;rw [V.rightsBy_all] at h;simp only [Bool.and_eq_true,decide_eq_true_eq] at hk;rw [hk.1.1,decide_eq_true (by omega)] at h; cases h
theorem zfU {n:Nat} (hA:VIsA n) (xs:List V) (va:Value) (deep N g bd bl:Nat) (L:Int) (w:World) (hn:V.nodess xs <= n) (h:RdN N w (.sl 5 (V.ds xs)) [va]) (hNg:N <= g) (hbox:intBox w g L) (hbd:intBox w bd deep) (hbg:bd ≠ g) (hbl:w.cell? ⟨bl,0,none⟩ = some (.pointer (some ⟨g,0,none⟩))) (hlg:bl ≠ g)
  (hwf:V.wfs xs) (hbk:xs.length + V.bulks xs <= 4294967295) (hT:Tabs w) (hG:GlobN N) (hdeep:deep <= 1000) (hL:0 <= L /\ L <= 1000) :
  Calls Tryz.prog 84 #[va,.func (.func 66) #[] #[.pointer (some ⟨bd,0,none⟩),.pointer (some ⟨bl,0,none⟩)]] w fun e w' => (∃ r:Int,e = .returned (.int .i64 r) /\ decide (0 <= r) = !vGoods (deep + 1) L xs) /\ (∃ L':Int,intBox w' g L' /\ (vGoods (deep + 1) L xs = true -> L' = L - V.nodess xs)) /\ Keep (· = g) w w':=by
 have hN:N <= w.heap.size:=by have:=hbox.lt; omega
 have hng:∀ k,k < N -> ¬ k = g:=by intro k hk e; omega
 have hz1:=hbd.lt;have hz2:bl < w.heap.size:=zcP hbl;have hlen:xs.length <= 4294967295:=by omega
 obtain ⟨a,c,rfl,hg⟩:=RepC.values h;obtain ⟨ok,hok⟩:∃ ok,vGoods (deep + 1) L xs = ok:=⟨_,rfl⟩;rw [hok];have HOK:=Lib.hid hok; clear hok
 obtain ⟨hL1,hL2⟩:=hL
 go_enter Tryz.func84,Tryz.ntmps84
 go_wp2
 go_loopw [8] (fun i wr => ∃ (k:Nat),k <= xs.length /\ i = .int .i64 k /\ intBox wr g (L - V.nodess (xs.take k)) /\ vGoods (deep + 1) L (xs.take k) = true /\ Keep (· = g) w wr) (fun i _ => xs.length - (intOf i).toNat)
 case atStart => exact ⟨0,Nat.zero_le _,rfl,by simpa [V.nodess] using hbox,by simp [vGoods,V.rightsBy,V.nodess,hL1],Keep.refl _ _⟩
 case round =>
  obtain ⟨k,hk,rfl,hbx,hgd,hkp⟩:=hrel;have HGD:=Lib.hid hgd;have hle:(V.nodess (xs.take k):Int) <= L:=by unfold vGoods at hgd; simp only [Bool.and_eq_true,decide_eq_true_eq] at hgd; exact hgd.2
  clear hgd;by_cases hlt:k < xs.length
  ·obtain ⟨_,_,b,o,rfl,hb,hcell⟩:=hg (by intro e; rw [e] at hlt; simp at hlt)
   obtain ⟨v0,v1,v2,v3,v4,hr,d0,d1,d2,d3,d4⟩:=hcell k hlt;clear hcell hg;obtain ⟨k1,k2,k3,s4,a6,n6,m6,hcs⟩:=V.formS hr;simp only [cons.injEq,and_true] at hcs;obtain ⟨rfl,rfl,rfl,rfl,rfl⟩:=hcs;have hbN:b < w.heap.size:=by omega
   have hbg':=hng b hb;rw [<- hkp.cell hbN hbg'] at d0 d1 d2 d3 d4;have hi1:(0:Int) <= k:=by omega
   have hi3:(k:Int) < xs.length:=by omega
   have hnk:xs[k].nodes <= n:=Nat.le_trans (V.nodes_get xs k hlt) hn;have HC:=Lib.hid (zfT hA xs[k] _ deep N g bd bl _ wr hnk (RdN.keep (N:=N) hr hkp hN hng) hNg hbx (hbd.keep hkp hbg) (by rw [hkp.cell hz2 hlg]; exact hbl) (V.wfs_get hwf k hlt) (V.bulk_get' hbk k hlt) (hT.keep hG hkp hN hng) hG hdeep (by omega));have HSN:=Lib.hid (zgC (deep + 1) L xs k hlt HGD.out)
   have hns:V.nodess (xs.take (k + 1)) = V.nodess (xs.take k) + xs[k].nodes:=by
    rw [take_succ_eq_append_getElem hlt]
    have hn:∀ (ls:List V) (x:V),V.nodess (ls ++ [x]) = V.nodess ls + x.nodes:=by
     intro ls x; induction ls with
     | nil => simp [V.nodess]
     | cons a ls ih => simp only [cons_append,V.nodess,ih]; omega
    exact hn _ _
   have HNS:=Lib.hid hns;clear hns hr hbx h hT hwf hbk hng hbox hbd hbl
   cases hgd:vGood (deep + 1) (L - V.nodess (xs.take k)) xs[k] with
   | true =>
    have HG:=Lib.hid hgd; clear hgd
    go_wp2_with (go_at_call 66; refine HC.out.mono ?_; rw [HG.out]; rintro e w1 ⟨rfl,⟨L',hbx1,hL'⟩,hk1⟩)
    go_roundw
    case rel => exact ⟨k + 1,by omega,by go_num,by rw [show L - (V.nodess (xs.take (k + 1)):Int) = L' by rw [hL' trivial,HNS.out]; omega]; exact hbx1,by rw [HSN.out,HG.out],hkp.trans hk1⟩
    case measure => simp [intOf]; omega
   | false =>
    have HG:=Lib.hid hgd; clear hgd
    have HF:=Lib.hid (show ok = false by rw [<- HOK.out]; exact vGoods_cut _ _ _ (k + 1) (by rw [HSN.out,HG.out]))
    go_wp2_with (go_at_call 66; refine HC.out.mono ?_; rw [HG.out]; rintro e w1 ⟨rfl,⟨L',hbx1,hL'⟩,hk1⟩)
    go_ret;exact ⟨⟨_,rfl,by rw [HF.out]; simp⟩,⟨L',hbx1,fun hh => by rw [HF.out] at hh; cases hh⟩,hkp.trans hk1⟩
  ·obtain rfl:k = xs.length:=by omega
   have h1:=HGD.out;rw [take_length] at h1 hbx;have HF:=Lib.hid (show ok = true by rw [<- HOK.out]; exact h1);clear h1;go_wp2;go_ret;exact ⟨⟨_,rfl,by rw [HF.out]; rfl⟩,⟨_,hbx,fun _ => rfl⟩,hkp⟩
theorem VIsC_of {n:Nat} (hA:VIsA n):VIsC n:=by
 intro xs va deep N g bd bl L w hn h hNg hbox hbd hbg hbl hlg hwf hbk hT hG hdeep hL;have HC:=Lib.hid (zfU hA xs va deep N g bd bl L w hn h hNg hbox hbd hbg hbl hlg hwf hbk hT hG hdeep hL)
 go_enter Tryz.func65,Tryz.ntmps65
 go_wp2_with (go_at_call 84; refine HC.out.mono ?_; rintro e w1 ⟨⟨r,rfl,hr⟩,hL',hk1⟩; have HR:=Lib.hid hr; clear hr)
 go_ret;exact ⟨by rw [<- HR.out]; rfl,hL',hk1⟩
theorem VIs_all:∀ n,VIsA n
 | 0 => fun x cs deep N g L w hn => absurd x.nodes_pos (by omega)
 | n + 1 => VIsA_of (VIsC_of (VIs_all n))
theorem zfV (x:V) (cs:List Value) (w:World) (h:Rd w x.d cs) (hwf:x.wf) (hbk:x.bulk <= 4294967295) (hT:Tabs w) :
  Calls Tryz.prog 17 #[.agg cs.toArray] w fun e w' => e = .returned (.bool x.ok) /\ Below w.heap.size w w':=by
 obtain ⟨k,m,e,s,a2,n2,c2,rfl⟩:=V.form h;obtain ⟨W0,hW0⟩:∃ W0,W0 = (w.alloc (.cells #[.int .i64 k,.int .i64 m,.int .i64 e,.string ⟨s.toArray⟩,.slice a2 n2 c2] 26)).alloc (.cells #[.int .i64 300] 3):=⟨_,rfl⟩;have HW:=Lib.hid hW0;have hA:Below w.heap.size w W0:=by rw [hW0]; exact ((Below.refl _ _).alloc lR _).alloc (by simp) _
 have hbx:intBox W0 (w.heap.size + 1) 300:=by
  rw [hW0]
  have:=zaB (w.alloc (.cells #[.int .i64 k,.int .i64 m,.int .i64 e,.string ⟨s.toArray⟩,.slice a2 n2 c2] 26)) (.cells #[.int .i64 300] 3)
  simpa [intBox] using this
 have HC:=Lib.hid (VIs_all x.nodes x _ 0 w.heap.size (w.heap.size + 1) 300 W0 lR (h.rdN.below hA) (by omega) hbx hwf hbk (hT.below hA) ⟨hT.lt.1,hT.lt.2⟩ (by decide) (by decide));have hsz:W0.heap.size = w.heap.size + 2:=by rw [hW0]; simp
 clear hW0 h hbx
 go_enter Tryz.func17,Tryz.ntmps17
 go_wp2_with (go_at_call 35; rw [<- HW.out]; refine HC.out.mono ?_; rintro e w1 ⟨rfl,_,hk1⟩)
 go_ret;refine ⟨zaw ?_,hA.trans (hk1.below (by omega) (fun k hk e => by omega))⟩;show vGood 0 300 x = _;rw [<- V.ok_impl]; unfold vGood; congr 1
 exact decide_eq_decide.2 (by omega)
end
section
variable {T:World -> Prop} {hT:Low ngl T}
theorem zcZ (hTab:∀ w,T w -> Tabs w) (v:V) (hw:v.wf) (hb:v.bulk <= 4294967295):FnV (env T hT) 17 [.ag (vC v)] (.d (pB v.ok)):=by
 refine FnV.old rfl fun w C vs hF _ ht hlen hv => ?_
 match vs,hlen with
 | [a],_ =>
  have h0:=hv 0 _ _ rfl rfl;rw [<- V.pc_eq] at h0;obtain ⟨cs,rfl,h1⟩:=vRd hF (V.wfd v) h0;exact zfV v cs w h1 hw hb (hTab w ht)
end
section
variable {T:World -> Prop} {hT:Low ngl T}
attribute [local irreducible] po mw pt
theorem st_arg (st:List (L8)):PV.dats [.d (.sl 0 (pSr st))] = some [.d (pSs st)]:=by
 show some [PV.d (.sl 0 (erLL (pSr st)))] = _;rw [zbG]; rfl
theorem turnI_bw {v x:V} {ins:Bool} {st:List (L8)} {S:Nat} (hst:st ≠ []) (hv:v.wf) (hx:x.wf) (hs:∀ s ∈ st,s.length <= S) (hb:v.bulk + x.bulk + S + 2 <= 4294967295) (h:(turnI (withI x ins) v st).2 = true):(turnI (withI x ins) v st).1.wf /\ (turnI (withI x ins) v st).1.bulk <= v.bulk + x.bulk + S + 2:=by
 obtain ⟨h1,h2⟩:=zcK x ins st v hst;rw [<- h2 (by rw [h1]; exact h)];exact ⟨zdO st v x ins S hv hx hs hb,zbV st v x ins S hs⟩
theorem turnO_bw {v:V} {st:List (L8)} (hst:st ≠ []) (hv:v.wf) (hb:v.bulk <= 4294967295) (h:(turnI outI v st).2 = true):(turnI outI v st).1.wf /\ (turnI outI v st).1.bulk <= v.bulk:=by
 obtain ⟨h1,h2⟩:=zcY st v hst;rw [<- h2 (by rw [h1]; exact h)];exact zdf st v hv hb
def PBx (x:V) (ins:Bool) (bx:LP PC):Prop:=bx[1]? = some (vC x) /\ bx[2]? = some [pB ins]
theorem PBx.app {x:V} {ins:Bool} (bx r:LP PC) (h:PBx x ins bx):PBx x ins (bx ++ r):=by
 have hl:2 < bx.length:=by
  rcases Nat.lt_or_ge 2 bx.length with h' | h'
  ·exact h'
  ·have:=h.2; rw [getElem?_eq_none h'] at this; cases this
 exact ⟨by rw [getElem?_append_left (by omega)]; exact h.1,by rw [getElem?_append_left hl]; exact h.2⟩
theorem vsxi_arg (v x:V) (s:L8) (b:Bool):PV.dats [.ag (vC v),.d (pS s),.ag (vC x),.d (pB b)] = some [.ag (vC v),.d (pS s),.ag (vC x),.d (pB b)]:=by
 show some [PV.ag (erL (vC v)),.d (pS s),.ag (erL (vC x)),.d (pB b)] = _;rw [zap,zap]
theorem put1_g (hTen:∀ w,T w -> TenTab w) (hErr:∀ w,T w -> ErrTab w) (v x:V) (s:L8) (ins:Bool) (hb:v.kids.length <= 4294967290) (hs:s.length <= 2147483647) {bx:LP PC} {nt:Nat} {live:List Nat} (hP:PBx x ins bx) (hlw:∀ cs ∈ bx,lwL 0 cs) :
  FnG (env T hT) 48 (.ag (vC v) :: .d (pS s) :: [.ref 1 0,.ref 2 0]) bx nt live (fun y b n l => y = .tup [.ag (vC (withI x ins v s).1),.d (pB (withI x ins v s).2)] /\ b = bx /\ nt <= n /\ l = live):=by
 refine FnG.rowAG (fun cs hcs => zd2 (Nat.zero_le _) (hlw cs hcs)) (zaR (zad lk_i_put_1) (by show 4 <= 15; decide) fun B hB => ?_);unfold m_i_put_1;refine mO ?_;refine zax (cs:=vC v) rfl ?_;refine mN ?_;show mw _ _ _ _ ⟨up 7 (.d (.v (.bool false))) (up 6 (.ref (bx ++ [vC v]).length 0) (up 4 (.ref bx.length 0) _)),bx ++ [vC v] ++ [z6],nt,live⟩;have hP1:PBx x ins (bx ++ [vC v] ++ [z6]):=PBx.app _ _ (PBx.app _ _ hP);have h0:(bx ++ [vC v] ++ [z6])[bx.length]? = some (vC v):=by simp
 have h1:(bx ++ [vC v] ++ [z6])[(bx ++ [vC v]).length]? = some z6:=za0 _ _;have hlow:∀ q,q < bx.length -> (bx ++ [vC v] ++ [z6])[q]? = bx[q]?:=fun q hq => by rw [append_assoc,getElem?_append_left hq]
 have hlen:(bx ++ [vC v] ++ [z6]).length = bx.length + 2:=by simp
 have hp1:(bx ++ [vC v]).length = bx.length + 1:=by simp
 generalize bx ++ [vC v] ++ [z6] = b1 at *;generalize (bx ++ [vC v]).length = p1 at *;refine mO ?_;refine zaa (p:=bx.length) (cs:=vC v) rfl rfl h0 rfl ?_;refine mS ?_;refine zaa (p:=1) (cs:=vC x) rfl rfl hP1.1 rfl ?_;refine zaZ (p:=2) (o:=0) (cs:=[pB ins]) (v:=.d (pB ins)) rfl rfl hP1.2 (Nat.le_of_ble_eq_true rfl) rfl ?_;refine zac (vsxi_arg v x s ins) (withI_fn (T:=T) (hT:=hT) hTen hErr v x s ins hb hs) ?_;generalize withI x ins v s = pr;(iterate 2 refine mS ?_);refine zag (p:=p1) (cs:=vC pr.1) (z:=z6) rfl rfl h1 rfl rfl rfl ?_;refine mN ?_;obtain ⟨rest,hrest⟩:=zd3 (bx:=bx) (b:=b1.set p1 (vC pr.1)) (fun q hq => by rw [getElem?_set_ne (by omega)]; exact hlow q hq);exact zab ⟨.inr rfl,[.ag (vC pr.1),.d (pB pr.2)],zcR rfl (getElem?_set_self (by omega)) rfl rfl,_,rest,rfl,hrest,.inl (zap _),lR,fun t h => h⟩
def PK (v x:V) (ins:Bool) (pr:V × Bool) (s:St):Prop:=has s.tm [(4,.ref 0 0),(8,.ref 3 0),(10,.ref 4 0),(11,.d (pB pr.2))] /\ s.bx = [vC v,vC x,[pB ins],z6,vC pr.1]
theorem putI2_fn (hTen:∀ w,T w -> TenTab w) (hErr:∀ w,T w -> ErrTab w) (hTab:∀ w,T w -> Tabs w) (v x:V) (st:List (L8)) (ins:Bool) (S:Nat) (hv:v.wf) (hx:x.wf) (hs:∀ s ∈ st,s.length <= S) (hb:v.bulk + x.bulk + S + 2 <= 1048576) (hl:st.length <= 2147483647) :
  FnV (env T hT) 23 [.ag (vC v),.d (pSs st),.ag (vC x),.d (pB ins)] (.tup [.ag (vC (putJ v st x ins).1),.d (pB (putJ v st x ins).2)]):=by
 have hJ:∀ pr:V × Bool,(if st = [] then (x,true) else turnI (withI x ins) v st) = pr -> putJ v st x ins = if stepsOk st = true /\ v.ok = true /\ x.ok = true /\ pr.2 = true /\ pr.1.ok = true then (pr.1,true) else (v,false):=fun pr h => by unfold putJ; rw [h]
 have hbw:∀ pr:V × Bool,(if st = [] then (x,true) else turnI (withI x ins) v st) = pr -> pr.2 = true -> pr.1.wf /\ pr.1.bulk <= v.bulk + x.bulk + S + 2:=fun pr h h2 => by
  by_cases hst:st = []
  ·rw [if_pos hst] at h; subst h
   exact ⟨hx,by show x.bulk <= _; omega⟩
  ·rw [if_neg hst] at h; subst h
   exact turnI_bw hst hv hx hs (by omega) h2
 have hno:¬ (stepsOk st = true /\ v.ok = true /\ x.ok = true) -> putJ v st x ins = (v,false):=fun h => by rw [hJ _ rfl,if_neg (fun k => h ⟨k.1,k.2.1,k.2.2.1⟩)]
 have hv1:=zcZ (T:=T) (hT:=hT) hTab v hv (by omega);have hv2:=zcZ (T:=T) (hT:=hT) hTab x hx (by omega);have hkl:v.kids.length <= 4294967290:=by rw [V.bulk_eq v] at hb; omega
 refine za1 (zad lk_i_put) (by show 4 <= 49; decide) fun B hB => ?_
 unfold m_i_put;refine mO ?_;refine zax (cs:=vC v) rfl ?_;refine zax (cs:=vC x) rfl ?_;refine zax (cs:=[pB ins]) rfl ?_;refine mN ?_;refine mM ?_;refine mS ?_;refine zac (st_arg st) (zeK (T:=T) (hT:=hT) hTab st (by omega) (fun s h => by have:=hs s h; omega)) ?_
 cases ha:stepsOk st with
 | false =>
  (iterate 2 refine mS ?_);refine mZ ?_;(iterate 2 refine mS ?_);refine mZ ?_;refine mT ?_;refine mO ?_;refine zaa (p:=0) (cs:=vC v) rfl rfl rfl rfl ?_;refine zac (zaI v) (zbh (T:=T) (hT:=hT) v hv (by omega)) ?_;refine zag (p:=3) (cs:=vC v) (z:=z6) rfl rfl rfl rfl rfl rfl ?_;refine mN ?_;rw [hno (fun h => by rw [ha] at h; exact Bool.noConfusion h.1)]
  exact zab ⟨.inr rfl,[.ag (vC v),.d (pB false)],rfl,congrArg (fun l => some (PV.tup [.ag l,.d (pB false)])) (zap _)⟩
 | true =>
 (iterate 2 refine mS ?_);refine zaa (p:=0) (cs:=vC v) rfl rfl rfl rfl ?_;refine zat (b:=true) rfl (fun _ => zaI v) (fun _ => hv1) ?_
 cases h1:v.ok with
 | false =>
  (iterate 3 refine mS ?_);refine mZ ?_;refine mT ?_;refine mO ?_;refine zaa (p:=0) (cs:=vC v) rfl rfl rfl rfl ?_;refine zac (zaI v) (zbh (T:=T) (hT:=hT) v hv (by omega)) ?_;refine zag (p:=3) (cs:=vC v) (z:=z6) rfl rfl rfl rfl rfl rfl ?_;refine mN ?_;rw [hno (fun h => by rw [h1] at h; exact Bool.noConfusion h.2.1)]
  exact zab ⟨.inr rfl,[.ag (vC v),.d (pB false)],rfl,congrArg (fun l => some (PV.tup [.ag l,.d (pB false)])) (zap _)⟩
 | true =>
 (iterate 3 refine mS ?_);refine zaa (p:=1) (cs:=vC x) rfl rfl rfl rfl ?_;refine zat (b:=true) rfl (fun _ => zaI x) (fun _ => hv2) ?_
 cases h2:x.ok with
 | false =>
  refine mT ?_;refine mO ?_;refine zaa (p:=0) (cs:=vC v) rfl rfl rfl rfl ?_;refine zac (zaI v) (zbh (T:=T) (hT:=hT) v hv (by omega)) ?_;refine zag (p:=3) (cs:=vC v) (z:=z6) rfl rfl rfl rfl rfl rfl ?_;refine mN ?_;rw [hno (fun h => by rw [h2] at h; exact Bool.noConfusion h.2.2)]
  exact zab ⟨.inr rfl,[.ag (vC v),.d (pB false)],rfl,congrArg (fun l => some (PV.tup [.ag l,.d (pB false)])) (zap _)⟩
 | true =>
 refine mK ?_;refine mO ?_;refine zaa (p:=1) (cs:=vC x) rfl rfl rfl rfl ?_;refine za2 ?_;refine zag (p:=4) (cs:=vC x) (z:=z6) rfl rfl rfl rfl rfl rfl ?_;refine mN ?_;refine zav (PK v x ins (if st = [] then (x,true) else turnI (withI x ins) v st)) ?_ ?_
 ·refine mQ ?_
  refine zaA (n:=st.length) rfl rfl (zaM _) ?_;by_cases hst:st = []
  ·refine zal rfl rfl (decide_eq_false (by subst hst; simp)) ?_
   refine mK ?_;rw [if_pos hst];exact ⟨⟨rfl,rfl,rfl,rfl,trivial⟩,rfl⟩
  ·refine zaf rfl rfl (decide_eq_true (by have:=length_pos_iff.2 hst; omega)) ?_
   refine mT ?_;refine zaj ?_;refine zaa (p:=0) (cs:=vC v) rfl rfl rfl rfl ?_;(iterate 2 refine mS ?_)
   refine po_g rfl (turn_fn (T:=T) (hT:=hT) hTen hErr (F:=48) (caps:=[.ref 1 0,.ref 2 0]) (P:=PBx x ins) (f:=withI x ins) PBx.app (by kernel_rfl) (M:=v.bulk) (S:=S) (by omega) (by omega) (fun v' s' bx nt live hP hlw hvb hsb => put1_g (T:=T) (hT:=hT) hTen hErr v' x s' ins (by rw [V.bulk_eq v'] at hvb; omega) (by omega) hP hlw) st v [vC v,vC x,[pB ins],z6,vC x] 2 [] hst hs hl lR ⟨rfl,rfl⟩ (fun cs hcs => by
    simp only [mem_cons,not_mem_nil,or_false] at hcs
    rcases hcs with rfl | rfl | rfl | rfl | rfl
    ·exact vlw (zap v)
    ·exact vlw (zap x)
    ·exact ⟨trivial,trivial⟩
    ·exact vlw (v:=zP) rfl
    ·exact vlw (zap x))) ?_
   rw [if_neg hst];generalize turnI (withI x ins) v st = pr;rintro y b n l ⟨rfl,rfl,hn,rfl⟩;(iterate 3 refine mS ?_);refine zag (p:=4) (cs:=vC pr.1) (z:=vC x) rfl rfl rfl rfl rfl rfl ?_;refine mN ?_;exact ⟨⟨rfl,rfl,rfl,rfl,trivial⟩,rfl⟩
 generalize hq:(if st = [] then (x,true) else turnI (withI x ins) v st) = pr;have hJq:=hJ pr hq;have hbq:=hbw pr hq;clear hJ hbw hno;rintro tm bx nt live ⟨ht,hbx⟩;obtain ⟨tm2,rfl⟩:=zah ht;simp only at hbx; subst hbx
 clear ht hq;obtain ⟨pv,pb⟩:=pr;refine mM ?_
 cases pb with
 | false =>
  have hwe:putJ v st x ins = (v,false):=by rw [hJq,if_neg (fun h => Bool.noConfusion h.2.2.2.1)]
  (iterate 3 refine mS ?_);refine mZ ?_;refine mT ?_;refine mO ?_;refine zaa (p:=0) (cs:=vC v) rfl rfl rfl rfl ?_;refine zac (zaI v) (zbh (T:=T) (hT:=hT) v hv (by omega)) ?_;refine zag (p:=3) (cs:=vC v) (z:=z6) rfl rfl rfl rfl rfl rfl ?_;refine mN ?_;rw [hwe]
  exact zab ⟨.inr rfl,[.ag (vC v),.d (pB false)],rfl,congrArg (fun l => some (PV.tup [.ag l,.d (pB false)])) (zap _)⟩
 | true =>
 obtain ⟨hpw,hpb⟩:=hbq rfl;simp only at hpw hpb;have hv3:=zcZ (T:=T) (hT:=hT) hTab pv hpw (by omega);(iterate 3 refine mS ?_);refine zaa (p:=4) (cs:=vC pv) rfl rfl rfl rfl ?_;refine zat (b:=true) rfl (fun _ => zaI pv) (fun _ => hv3) ?_
 cases h3:pv.ok with
 | false =>
  have hwe:putJ v st x ins = (v,false):=by rw [hJq,if_neg (fun h => by have h:=h.2.2.2.2; simp only at h; rw [h3] at h; exact Bool.noConfusion h)]
  refine mT ?_;refine mO ?_;refine zaa (p:=0) (cs:=vC v) rfl rfl rfl rfl ?_;refine zac (zaI v) (zbh (T:=T) (hT:=hT) v hv (by omega)) ?_;refine zag (p:=3) (cs:=vC v) (z:=z6) rfl rfl rfl rfl rfl rfl ?_;refine mN ?_;rw [hwe]
  exact zab ⟨.inr rfl,[.ag (vC v),.d (pB false)],rfl,congrArg (fun l => some (PV.tup [.ag l,.d (pB false)])) (zap _)⟩
 | true =>
  have hwe:putJ v st x ins = (pv,true):=by rw [hJq,if_pos ⟨ha,h1,h2,rfl,h3⟩]
  refine mK ?_;refine mO ?_;refine zaa (p:=4) (cs:=vC pv) rfl rfl rfl rfl ?_;refine zac (zaI pv) (zbh (T:=T) (hT:=hT) pv hpw (by omega)) ?_;refine zag (p:=3) (cs:=vC pv) (z:=z6) rfl rfl rfl rfl rfl rfl ?_;refine mN ?_;rw [hwe];exact zab ⟨.inr rfl,[.ag (vC pv),.d (pB true)],rfl,congrArg (fun l => some (PV.tup [.ag l,.d (pB true)])) (zap _)⟩
theorem PutI_fn (hTen:∀ w,T w -> TenTab w) (hErr:∀ w,T w -> ErrTab w) (hTab:∀ w,T w -> Tabs w) (v x:V) (st:List (L8)) (S:Nat) (hv:v.wf) (hx:x.wf) (hs:∀ s ∈ st,s.length <= S) (hb:v.bulk + x.bulk + S + 2 <= 1048576) (hl:st.length <= 2147483647) :
  FnV (env T hT) 6 [.ag (vC v),.d (pSs st),.ag (vC x)] (.tup [.ag (vC (putJ v st x false).1),.d (pB (putJ v st x false).2)]):=by
 have hput:=putI2_fn (T:=T) (hT:=hT) hTen hErr hTab v x st false S hv hx hs hb hl;generalize putJ v st x false = pr at hput ⊢;refine za1 (zad lk_i_Put) (by show 3 <= 14; decide) fun B hB => ?_
 unfold m_i_Put;refine mO ?_;refine zax (cs:=vC v) rfl ?_;refine zax (cs:=vC x) rfl ?_;refine mN ?_;refine mO ?_;refine zaa (p:=0) (cs:=vC v) rfl rfl rfl rfl ?_;refine mS ?_;refine zaa (p:=1) (cs:=vC x) rfl rfl rfl rfl ?_;refine zac (zdW v x st false) hput ?_;(iterate 2 refine mS ?_);refine zag (p:=2) (cs:=vC pr.1) (z:=z6) rfl rfl rfl rfl rfl rfl ?_;refine mN ?_;exact zab ⟨.inr rfl,[.ag (vC pr.1),.d (pB pr.2)],rfl,congrArg (fun l => some (PV.tup [.ag l,.d (pB pr.2)])) (zap _)⟩
theorem InsertI_fn (hTen:∀ w,T w -> TenTab w) (hErr:∀ w,T w -> ErrTab w) (hTab:∀ w,T w -> Tabs w) (v x:V) (st:List (L8)) (S:Nat) (hv:v.wf) (hx:x.wf) (hs:∀ s ∈ st,s.length <= S) (hb:v.bulk + x.bulk + S + 2 <= 1048576) (hl:st.length <= 2147483647) :
  FnV (env T hT) 8 [.ag (vC v),.d (pSs st),.ag (vC x)] (.tup [.ag (vC (putJ v st x true).1),.d (pB (putJ v st x true).2)]):=by
 have hput:=putI2_fn (T:=T) (hT:=hT) hTen hErr hTab v x st true S hv hx hs hb hl;generalize putJ v st x true = pr at hput ⊢;refine za1 (zad zgy) (by show 3 <= 14; decide) fun B hB => ?_
 unfold m_i_Insert;refine mO ?_;refine zax (cs:=vC v) rfl ?_;refine zax (cs:=vC x) rfl ?_;refine mN ?_;refine mO ?_;refine zaa (p:=0) (cs:=vC v) rfl rfl rfl rfl ?_;refine mS ?_;refine zaa (p:=1) (cs:=vC x) rfl rfl rfl rfl ?_;refine zac (zdW v x st true) hput ?_;(iterate 2 refine mS ?_);refine zag (p:=2) (cs:=vC pr.1) (z:=z6) rfl rfl rfl rfl rfl rfl ?_;refine mN ?_;exact zab ⟨.inr rfl,[.ag (vC pr.1),.d (pB pr.2)],rfl,congrArg (fun l => some (PV.tup [.ag l,.d (pB pr.2)])) (zap _)⟩
def remJ (v:V) (st:List (L8)):V × Bool :=
 if stepsOk st = true /\ st ≠ [] /\ v.ok = true /\ (turnI outI v st).2 = true then ((turnI outI v st).1,true) else (v,false)
theorem zei (hTen:∀ w,T w -> TenTab w) (hErr:∀ w,T w -> ErrTab w) (hTab:∀ w,T w -> Tabs w) (v:V) (st:List (L8)) (S:Nat) (hv:v.wf) (hs:∀ s ∈ st,s.length <= S) (hS:S <= 2147483647) (hb:v.bulk <= 1048576) (hl:st.length <= 2147483647) :
  FnV (env T hT) 11 [.ag (vC v),.d (pSs st)] (.tup [.ag (vC (remJ v st).1),.d (pB (remJ v st).2)]):=by
 have hno:¬ (stepsOk st = true /\ st ≠ [] /\ v.ok = true) -> remJ v st = (v,false):=fun h => by unfold remJ; rw [if_neg (fun k => h ⟨k.1,k.2.1,k.2.2.1⟩)]
 have hv1:=zcZ (T:=T) (hT:=hT) hTab v hv (by omega);refine za1 (zad zgz) (by show 2 <= 35; decide) fun B hB => ?_
 unfold m_i_Remove;refine mO ?_;refine zax (cs:=vC v) rfl ?_;refine mN ?_;refine mM ?_;refine mS ?_;refine zac (st_arg st) (zeK (T:=T) (hT:=hT) hTab st (by omega) (fun s h => by have:=hs s h; omega)) ?_
 cases ha:stepsOk st with
 | false =>
  (iterate 2 refine mS ?_);refine mZ ?_;(iterate 2 refine mS ?_);refine mZ ?_;refine mT ?_;refine mO ?_;refine zaa (p:=0) (cs:=vC v) rfl rfl rfl rfl ?_;refine zac (zaI v) (zbh (T:=T) (hT:=hT) v hv (by omega)) ?_;refine zag (p:=1) (cs:=vC v) (z:=z6) rfl rfl rfl rfl rfl rfl ?_;refine mN ?_;rw [hno (fun h => by rw [ha] at h; exact Bool.noConfusion h.1)]
  exact zab ⟨.inr rfl,[.ag (vC v),.d (pB false)],rfl,congrArg (fun l => some (PV.tup [.ag l,.d (pB false)])) (zap _)⟩
 | true =>
 (iterate 3 refine mS ?_);refine zaA (n:=st.length) rfl rfl (zaM _) ?_;by_cases hst:st = []
 ·refine zaf rfl rfl (beq_iff_eq.2 (by rw [hst]; rfl)) ?_
  (iterate 2 refine mS ?_);refine mZ ?_;refine mT ?_;refine mO ?_;refine zaa (p:=0) (cs:=vC v) rfl rfl rfl rfl ?_;refine zac (zaI v) (zbh (T:=T) (hT:=hT) v hv (by omega)) ?_;refine zag (p:=1) (cs:=vC v) (z:=z6) rfl rfl rfl rfl rfl rfl ?_;refine mN ?_;rw [hno (fun h => h.2.1 hst)];exact zab ⟨.inr rfl,[.ag (vC v),.d (pB false)],rfl,congrArg (fun l => some (PV.tup [.ag l,.d (pB false)])) (zap _)⟩
 refine zal rfl rfl (beq_eq_false_iff_ne.2 (by have:=length_pos_iff.2 hst; omega)) ?_;(iterate 2 refine mS ?_);refine zaa (p:=0) (cs:=vC v) rfl rfl rfl rfl ?_;refine zat (b:=true) rfl (fun _ => zaI v) (fun _ => hv1) ?_
 cases h1:v.ok with
 | false =>
  refine mT ?_;refine mO ?_;refine zaa (p:=0) (cs:=vC v) rfl rfl rfl rfl ?_;refine zac (zaI v) (zbh (T:=T) (hT:=hT) v hv (by omega)) ?_;refine zag (p:=1) (cs:=vC v) (z:=z6) rfl rfl rfl rfl rfl rfl ?_;refine mN ?_;rw [hno (fun h => by rw [h1] at h; exact Bool.noConfusion h.2.2)]
  exact zab ⟨.inr rfl,[.ag (vC v),.d (pB false)],rfl,congrArg (fun l => some (PV.tup [.ag l,.d (pB false)])) (zap _)⟩
 | true =>
 refine mK ?_;refine mO ?_;refine zaa (p:=0) (cs:=vC v) rfl rfl rfl rfl ?_;refine mS ?_
 refine po_g rfl (turn_fn (T:=T) (hT:=hT) hTen hErr (F:=30) (caps:=[]) (P:=fun _ => True) (f:=outI) (fun _ _ _ => trivial) (by kernel_rfl) (M:=v.bulk) (S:=S) (by omega) hS (fun v' s' bx nt live _ _ hvb hsb => FnG.ofFnV (zdX v' s') (outI_fn (T:=T) (hT:=hT) hTen hErr v' s' (by rw [V.bulk_eq v'] at hvb; omega) (by omega))) st v [vC v,z6] 2 [] hst hs hl lR trivial (fun cs hcs => by
  simp only [mem_cons,not_mem_nil,or_false] at hcs
  rcases hcs with rfl | rfl
  ·exact vlw (zap v)
  ·exact vlw (v:=zP) rfl)) ?_
 have hR:remJ v st = if (turnI outI v st).2 = true then ((turnI outI v st).1,true) else (v,false):=by
  unfold remJ;by_cases h:(turnI outI v st).2 = true
  ·rw [if_pos ⟨ha,hst,h1,h⟩,if_pos h]
  ·rw [if_neg (fun k => h k.2.2.2),if_neg h]
 have hbq:=turnO_bw hst hv (by omega);generalize turnI outI v st = pr at hR hbq ⊢;rintro y b n l ⟨rfl,rfl,hn,rfl⟩;obtain ⟨pv,pb⟩:=pr;(iterate 3 refine mS ?_);refine za2 ?_;refine zag (p:=2) (cs:=vC pv) (z:=z6) rfl rfl rfl rfl rfl rfl ?_;refine mN ?_;refine mM ?_
 cases pb with
 | false =>
  have hwe:remJ v st = (v,false):=by rw [hR,if_neg (fun h => Bool.noConfusion h)]
  refine mT ?_;refine mO ?_;refine zaa (p:=0) (cs:=vC v) rfl rfl rfl rfl ?_;refine zac (zaI v) (zbh (T:=T) (hT:=hT) v hv (by omega)) ?_;refine zag (p:=1) (cs:=vC v) (z:=z6) rfl rfl rfl rfl rfl rfl ?_;refine mN ?_;rw [hwe]
  exact zab ⟨.inr rfl,[.ag (vC v),.d (pB false)],rfl,congrArg (fun l => some (PV.tup [.ag l,.d (pB false)])) (zap _)⟩
 | true =>
  obtain ⟨hpw,hpb⟩:=hbq rfl;simp only at hpw hpb;have hwe:remJ v st = (pv,true):=by rw [hR,if_pos rfl]
  refine mK ?_;refine mO ?_;refine zaa (p:=2) (cs:=vC pv) rfl rfl rfl rfl ?_;refine zac (zaI pv) (zbh (T:=T) (hT:=hT) pv hpw (by omega)) ?_;refine zag (p:=1) (cs:=vC pv) (z:=z6) rfl rfl rfl rfl rfl rfl ?_;refine mN ?_;rw [hwe];exact zab ⟨.inr rfl,[.ag (vC pv),.d (pB true)],rfl,congrArg (fun l => some (PV.tup [.ag l,.d (pB true)])) (zap _)⟩
end
section
theorem odds_set {α:Type} (k:α):∀ (l:List α) (j:Nat),odds (l.set (2 * j + 1) k) = odds l
 | [],j => rfl
 | [a],j => by rw [set_cons_succ,List.set_nil]
 | a :: b :: r,0 => rfl
 | a :: b :: r,j + 1 => by
  show odds (a :: b :: r.set (2 * j + 1) k) = _;simp only [odds]; rw [odds_set k r j]
theorem odds_cut {α:Type}:∀ (l:List α) (j:Nat),2 * j + 2 <= l.length -> (odds (l.take (2 * j) ++ l.drop (2 * j + 2))).Sublist (odds l)
 | [],j,h => by simp at h
 | [a],j,h => by simp at h
 | a :: b :: r,0,h => by
  show (odds r).Sublist (a :: odds r)
  exact List.sublist_cons_self _ _
 | a :: b :: r,j + 1,h => by
  simp only [length_cons] at h;show (odds (a :: b :: (r.take (2 * j) ++ r.drop (2 * j + 2)))).Sublist (a :: odds r);simp only [odds];exact (odds_cut r j (by omega)).cons_cons a
theorem uniq_sub {a l:List V} (hs:a.Sublist l) (h:uniq V.mark l = true):uniq V.mark a = true:=by
 unfold uniq at h ⊢;simp only [Bool.and_eq_true,all_eq_true,decide_eq_true_eq] at h ⊢
 first
 | exact ⟨fun x hx => h.1 x (hs.subset hx),h.2.sublist (hs.map _)⟩
 | exact ⟨h.1.sublist (hs.map _),fun x hx => h.2 x (hs.subset hx)⟩
theorem zd5 {d:Int} {v:V} (hv:V.rightBy pairsOk d v = true):(∀ k ∈ v.kids,V.rightBy pairsOk (d - 1) k = true) /\ 0 <= d /\ V.selfBy pairsOk v = true:=by
 obtain ⟨k,n,e,t,kids⟩:=v;simp only [V.rightBy,Bool.and_eq_true,decide_eq_true_eq] at hv;obtain ⟨hks,h0,hs⟩:=hv;rw [V.rightsBy_all,all_eq_true] at hks;exact ⟨hks,h0,hs⟩
theorem right_mk {d:Int} {v:V} (h1:∀ k ∈ v.kids,V.rightBy pairsOk (d - 1) k = true) (h2:0 <= d) (h3:V.selfBy pairsOk v = true):V.rightBy pairsOk d v = true:=by
 obtain ⟨k,n,e,t,kids⟩:=v;simp only [V.rightBy,Bool.and_eq_true,decide_eq_true_eq];exact ⟨by rw [V.rightsBy_all,all_eq_true]; exact h1,h2,h3⟩
theorem zfW {v:V} {ks:List V} (hs:V.selfBy pairsOk v = true) (h:v.kind = 7 \/ v.kind = 8 /\ pairsOk ks = true \/ v.kind = 9 /\ ks.length = 1):V.selfBy pairsOk (v.withK ks) = true:=by
 obtain ⟨k,n,e,t,kids⟩:=v;have hk:k = 7 \/ k = 8 /\ pairsOk ks = true \/ k = 9 /\ ks.length = 1:=h;show V.selfBy pairsOk (.mk k n e t ks) = true;clear h
 rcases hk with rfl | ⟨rfl,hq⟩ | ⟨rfl,hq⟩
 ·simp [V.selfBy] at hs ⊢; exact hs
 ·simp [V.selfBy] at hs ⊢; exact ⟨hs.1,hs.2.1,hs.2.2.1,hq⟩
 ·simp [V.selfBy] at hs ⊢; exact ⟨hs.1,hs.2.1,hs.2.2.1,hq⟩
theorem zej {v:V} (hs:V.selfBy pairsOk v = true) (h:v.kind = 8):pairsOk v.kids = true:=by
 obtain ⟨k,n,e,t,kids⟩:=v;have h:k = 8:=h;subst h;simp [V.selfBy] at hs;exact hs.2.2.2
theorem pairs_set {ks:List V} {j:Nat} {k:V} (h:pairsOk ks = true):pairsOk (ks.set (2 * j + 1) k) = true:=by
 unfold pairsOk at h ⊢;rw [odds_set,length_set]; exact h
theorem pairs_cut {ks:List V} {j:Nat} (hj:2 * j + 2 <= ks.length) (h:pairsOk ks = true):pairsOk (ks.take (2 * j) ++ ks.drop (2 * j + 2)) = true:=by
 unfold pairsOk at h ⊢;simp only [Bool.and_eq_true,decide_eq_true_eq] at h ⊢;obtain ⟨h1,h2,h3⟩:=h;have hl:(ks.take (2 * j) ++ ks.drop (2 * j + 2)).length = ks.length - 2:=by rw [length_append,length_take,length_drop]; omega
 exact ⟨uniq_sub (odds_cut ks j hj) h1,by omega,by omega⟩
theorem right_set {d:Int} {v k:V} {i:Nat} (hv:V.rightBy pairsOk d v = true) (hi:i < v.kids.length) (hk:V.rightBy pairsOk (d - 1) k = true) (h8:v.kind = 8 -> ∃ j,i = 2 * j + 1):V.rightBy pairsOk d (v.withK (v.kids.set i k)) = true:=by
 obtain ⟨h1,h2,h3⟩:=zd5 hv;obtain ⟨g9,_,g,_⟩:=zbm hv;refine right_mk (fun x hx => ?_) h2 (zfW h3 ?_)
 ·rcases mem_or_eq_of_mem_set hx with hx | rfl
  ·exact h1 x hx
  ·exact hk
 ·rcases g (by intro e; rw [e] at hi; simp at hi) with h | h | h
  ·exact .inl h
  ·obtain ⟨j,rfl⟩:=h8 h
   exact .inr (.inl ⟨h,pairs_set (zej h3 h)⟩)
  ·exact .inr (.inr ⟨h,by rw [length_set]; exact g9 h⟩)
theorem zfX {d:Int} {v:V} {a b:Nat} (hv:V.rightBy pairsOk d v = true) (h:v.kind = 7 \/ v.kind = 8 /\ ∃ j,a = 2 * j /\ b = 2 * j + 2 /\ 2 * j + 2 <= v.kids.length):V.rightBy pairsOk d (v.withK (v.kids.take a ++ v.kids.drop b)) = true:=by
 obtain ⟨h1,h2,h3⟩:=zd5 hv;refine right_mk (fun x hx => h1 x ((mem_append.1 hx).elim mem_of_mem_take mem_of_mem_drop)) h2 (zfW h3 ?_)
 rcases h with h | ⟨h,j,rfl,rfl,hj⟩
 ·exact .inl h
 ·exact .inr (.inl ⟨h,pairs_cut hj (zej h3 h)⟩)
theorem zcu (v:V) (ks:List V):(v.withK ks).nodes + V.nodess v.kids = v.nodes + V.nodess ks:=by
 obtain ⟨k,n,e,t,kids⟩:=v;simp only [V.withK,V.nodes,V.kids]; omega
theorem zb8 (a b:List V):V.nodess (a ++ b) = V.nodess a + V.nodess b:=by
 induction a with
 | nil => simp [V.nodess]
 | cons x a ih => simp only [cons_append,V.nodess,ih]; omega
theorem nodess_at (ks:List V) (i:Nat) (h:i < ks.length):V.nodess ks = V.nodess (ks.take i) + (ks[i].nodes + V.nodess (ks.drop (i + 1))):=by
 have h1:V.nodess ks = V.nodess (ks.take i) + V.nodess (ks.drop i):=by rw [<- zb8,take_append_drop]
 rw [h1,drop_eq_getElem_cons h]; rfl
theorem zgD (ks:List V) (i:Nat) (h:i < ks.length) (k:V):V.nodess (ks.set i k) = V.nodess (ks.take i) + (k.nodes + V.nodess (ks.drop (i + 1))):=by
 rw [set_eq_take_append_cons_drop,if_pos h,zb8]; rfl
theorem kid_odd {v:V} {s:L8} (h8:v.kind = 8) (h:0 <= kidI v s):∃ j,kidI v s = ((2 * j + 1:Nat):Int) /\ 2 * j + 2 <= v.kids.length:=by
 have hk:=kid8 (s:=s) h8
 split at hk
 ·rename_i hf
  obtain ⟨j,hj,hl,_⟩:=zdl s v.kids 0 hf;exact ⟨j,by omega,by omega⟩
 ·omega
theorem zgE:∀ (st:List (L8)) (v:V) (d:Int),V.rightBy pairsOk d v = true -> (lessS v st).2 = true -> V.rightBy pairsOk d (lessS v st).1 = true /\ (lessS v st).1.nodes < v.nodes /\ ∃ y,atI v st = some y
 | [],v,d,_,h => by rw [lessS] at h; cases h
 | s :: r,v,d,hv,h => by
  rw [lessS] at h ⊢
  split at h
  ·rename_i hk
   rw [dif_pos hk];have hlt:=zaP hk;obtain ⟨i,hi⟩:∃ i:Nat,kidI v s = i:=⟨(kidI v s).toNat,by omega⟩;have hil:i < v.kids.length:=by omega
   have hpos:=v.kids[i].nodes_pos;have hat:=nodess_at v.kids i hil
   split at h
   ·rename_i hr
    subst hr;rw [if_pos rfl];have h9:v.kind ≠ 9:=of_decide_eq_true h;simp only [hi,Int.toNat_natCast];have hsome:∃ y,atI v [s] = some y:=⟨v.kids[i],by rw [zbo hi hil,atI]⟩;by_cases h8:v.kind = 8
    ·obtain ⟨j,hj,hjl⟩:=kid_odd h8 hk
     obtain rfl:i = 2 * j + 1:=by omega
     simp only [if_pos h8];refine ⟨zfX hv (.inr ⟨h8,j,by omega,by omega,hjl⟩),?_,hsome⟩;have h1:=zcu v (v.kids.take (2 * j + 1 - 1) ++ v.kids.drop (2 * j + 1 + 1));rw [zb8] at h1;have h2:V.nodess (v.kids.take (2 * j + 1)) = V.nodess (v.kids.take (2 * j)) + v.kids[2 * j].nodes:=zcW (by omega);have h3:2 * j + 1 - 1 = 2 * j:=by omega
     rw [h3] at h1 ⊢;omega
    ·have h7:v.kind = 7:=by
      rcases (zbm hv).2.2.1 (by intro e; rw [e] at hil; simp at hil) with h | h | h
      ·exact h
      ·exact absurd h h8
      ·exact absurd h h9
     simp only [if_neg h8];refine ⟨zfX hv (.inl h7),?_,hsome⟩;have h1:=zcu v (v.kids.take i ++ v.kids.drop (i + 1));rw [zb8] at h1;omega
   ·rename_i hr
    rw [if_neg hr];simp only [hi,Int.toNat_natCast] at h ⊢;obtain ⟨g1,g2,y,g3⟩:=zgE r v.kids[i] (d - 1) ((zbm hv).2.2.2 _ (getElem_mem hil)) h;refine ⟨right_set hv hil g1 (fun h8 => ?_),?_,y,by rw [zbo hi hil]; exact g3⟩
    ·obtain ⟨j,hj,_⟩:=kid_odd h8 hk
     exact ⟨j,by omega⟩
    ·have h1:=zcu v (v.kids.set i (lessS v.kids[i] r).1)
     rw [zgD _ _ hil] at h1;omega
  ·cases h
theorem zeR (v:V) (st:List (L8)):remW v st = remJ v st:=by
 unfold remW madeS remJ;by_cases hst:st = []
 ·subst hst
  rw [lessS,if_neg (fun h => Bool.noConfusion h.1),if_neg (fun h => h.2.1 rfl)]
 obtain ⟨h1,h2⟩:=zcY st v hst;by_cases hv:v.ok = true
 ·by_cases hl:(lessS v st).2 = true
  ·obtain ⟨g1,g2,y,g3⟩:=zgE st v 12 (zfN hv).1 hl
   have hok:(lessS v st).1.ok = true:=by
    unfold V.ok; rw [g1,decide_eq_true (by have:=(zfN hv).2; omega)]; rfl
   obtain ⟨h3,h4⟩:=zeO st _ y 12 (zfN hv).1 g3
   have hso:stepsOk st = true:=by
    unfold stepsOk;rw [decide_eq_true (by omega),all_eq_true.2 h4]; rfl
   rw [if_pos ⟨hl,hv,hok⟩,if_pos ⟨hso,hst,hv,by rw [<- h1]; exact hl⟩,h2 hl]
  ·rw [if_neg (fun h => hl h.1),if_neg (fun h => hl (by rw [h1]; exact h.2.2.2))]
 ·rw [if_neg (fun h => hv h.2.1),if_neg (fun h => hv h.2.2.1)]
theorem rem_less {v:V} {st:List (L8)} (h:(remJ v st).2 = true):(remJ v st).1.ok = true /\ (remJ v st).1.nodes < v.nodes:=by
 rw [<- zeR] at h ⊢;unfold remW madeS at h ⊢;by_cases hh:(lessS v st).2 = true /\ v.ok = true /\ (lessS v st).1.ok = true
 ·rw [if_pos hh]
  exact ⟨hh.2.2,(zgE st v 12 (zfN hh.2.1).1 hh.1).2.1⟩
 ·rw [if_neg hh] at h; cases h
theorem putJ_if (v x:V) (st:List (L8)) (a:Bool):∃ q:V × Bool,(if st = [] then (x,true) else turnI (withI x a) v st) = q /\ putJ v st x a = if stepsOk st = true /\ v.ok = true /\ x.ok = true /\ q.2 = true /\ q.1.ok = true then (q.1,true) else (v,false):=⟨_,rfl,rfl⟩
theorem zfY {v x:V} {st:List (L8)} {a:Bool} (h:(putJ v st x a).2 = true):stepsOk st = true /\ (putJ v st x a).1.ok = true /\ atI (putJ v st x a).1 st = some x /\ (st ≠ [] -> (turnI (withI x a) v st).2 = true /\ (putJ v st x a).1 = (turnI (withI x a) v st).1):=by
 obtain ⟨q,hq,hp⟩:=putJ_if v x st a;rw [hp] at h ⊢;by_cases hh:stepsOk st = true /\ v.ok = true /\ x.ok = true /\ q.2 = true /\ q.1.ok = true
 ·rw [if_pos hh]
  obtain ⟨h1,h2,h3,h4,h5⟩:=hh;refine ⟨h1,h5,?_,fun hst => ?_⟩
  ·by_cases hst:st = []
   ·rw [if_pos hst] at hq
    subst hq; subst hst; rw [atI]
   ·rw [if_neg hst] at hq
    obtain ⟨g1,g2⟩:=zcK x a st v hst;rw [hq] at g1 g2;show atI q.1 st = some x;rw [<- g2 (by rw [g1]; exact h4)];exact put_at st v x a 12 (zfN h2).1 (by rw [g1]; exact h4)
  ·rw [if_neg hst] at hq
   rw [hq];exact ⟨h4,rfl⟩
 ·rw [if_neg hh] at h; cases h
theorem put_no {v x:V} {st:List (L8)} {a:Bool} (h:(putJ v st x a).2 = false):(putJ v st x a).1 = v:=by
 obtain ⟨q,hq,hp⟩:=putJ_if v x st a;rw [hp] at h ⊢;by_cases hh:stepsOk st = true /\ v.ok = true /\ x.ok = true /\ q.2 = true /\ q.1.ok = true
 ·rw [if_pos hh] at h; cases h
 ·rw [if_neg hh]
theorem rem_no {v:V} {st:List (L8)} (h:(remJ v st).2 = false):(remJ v st).1 = v:=by
 unfold remJ at h ⊢;by_cases hh:stepsOk st = true /\ st ≠ [] /\ v.ok = true /\ (turnI outI v st).2 = true
 ·rw [if_pos hh] at h; cases h
 ·rw [if_neg hh]
theorem zek (v:V) (ks:List V):(v.withK ks).withK v.kids = v:=by cases v; rfl
theorem zfZ (x:V):∀ (st:List (L8)) (v:V),st ≠ [] -> (turnI (withI x true) v st).2 = true -> (∃ y,atI v (st.take (st.length - 1)) = some y /\ y.kind = 7) -> turnI outI (turnI (withI x true) v st).1 st = (v,true)
 | [],v,h,_,_ => absurd rfl h
 | s :: r,v,_,h,hy => by
  by_cases hr:r = []
  ·subst hr
   obtain ⟨y,hy,h7⟩:=hy;rw [show [s].take ([s].length - 1) = [] from rfl,atI] at hy;simp only [sI] at hy; subst hy
   rw [zbZ] at h ⊢;rw [zbZ];have hk7:=kid7 (s:=s) h7
   have fin:∀ (i:Nat) (ks:List V),ixI s = i -> i <= v.kids.length -> ks = v.kids.take i ++ x :: v.kids.drop i -> outI (v.withK ks) s = (v,true):=by
    intro i ks hi hil hks;have hl:ks.length = v.kids.length + 1:=by rw [hks]; simp; omega
    have hk:kidI (v.withK ks) s = (i:Int):=by rw [kid7 (v:=v.withK ks) (s:=s) h7,V.withK_kids,hl,hi,if_pos (by omega)]
    unfold outI;rw [hk,if_neg (fun q => q.elim (fun q => by omega) (fun q => by have q:v.kind = 9:=q; omega)),if_neg (fun q => by have q:v.kind = 8:=q; omega),Int.toNat_natCast,V.withK_kids];have hl1:(v.kids.take i).length = i:=by rw [length_take]; omega
    have e:ks.take i ++ ks.drop (i + 1) = v.kids:=by
     rw [hks,take_append_of_le_length (by omega),take_of_length_le (by omega),drop_append,hl1,drop_of_length_le (by omega),show i + 1 - i = 1 by omega];exact take_append_drop i v.kids
    rw [e,zek]
   unfold withI at h ⊢;by_cases hk:0 <= kidI v s
   ·rw [if_pos ⟨hk,rfl,h7⟩]
    have hi:ixI s < v.kids.length:=by
     apply Classical.byContradiction; intro hn
     rw [if_neg hn] at hk7; omega
    rw [if_pos hi] at hk7;exact fin (kidI v s).toNat _ (by omega) (by omega) rfl
   ·rw [if_neg (fun q => hk q.1),if_neg hk,if_neg (by omega)] at h ⊢
    split at h
    ·rename_i hh
     rw [if_pos hh];exact fin v.kids.length _ hh.2 lR (by rw [take_length,drop_length])
    ·cases h
  ·by_cases hk:0 <= kidI v s
   ·have hlt:=zaP hk
    obtain ⟨i,hi⟩:∃ i:Nat,kidI v s = i:=⟨(kidI v s).toNat,by omega⟩;have hil:i < v.kids.length:=by omega
    rw [zbx _ v s hr hi hil] at h ⊢
    split at h
    ·rename_i h2
     rw [if_pos h2]
     have hy2:∃ y,atI v.kids[i] (r.take (r.length - 1)) = some y /\ y.kind = 7:=by
      obtain ⟨y,hy,h7⟩:=hy;obtain ⟨m,hm⟩:∃ m,r.length = m + 1:=⟨r.length - 1,by have:=length_pos_iff.2 hr; omega⟩;refine ⟨y,?_,h7⟩;rw [show (s :: r).length - 1 = m + 1 by simp [hm],take_succ_cons,zbo hi hil] at hy;rw [hm]; exact hy
     have ih:=zfZ x r v.kids[i] hr h2 hy2;generalize (turnI (withI x true) v.kids[i] r).1 = k at ih
     have hks:kidI (v.withK (v.kids.set i k)) s = i:=by
      have:=kid_set (v:=v) (k:=k) hk
      rw [hi,Int.toNat_natCast] at this; exact this
     have hil2:i < (v.withK (v.kids.set i k)).kids.length:=by rw [V.withK_kids,length_set]; exact hil
     show turnI outI (v.withK (v.kids.set i k)) (s :: r) = _;rw [zbx _ _ s hr hks hil2];have e1:(v.withK (v.kids.set i k)).kids[i] = k:=by simp only [V.withK_kids,List.getElem_set_self]
     rw [e1,ih,if_pos rfl]
     have e2:(v.withK (v.kids.set i k)).kids.set i v.kids[i] = v.kids:=by
      rw [V.withK_kids,set_set,List.set_getElem_self]
     rw [e2,zek]
    ·cases h
   ·rw [zb7 _ v s hr hk] at h; cases h
theorem put_less {v x:V} {st:List (L8)} (hst:st ≠ []) (h:(putJ v st x true).2 = true) (hy:∃ y,atI v (st.take (st.length - 1)) = some y /\ y.kind = 7):remJ (putJ v st x true).1 st = (v,true):=by
 obtain ⟨h1,h2,_,h4⟩:=zfY h;obtain ⟨h5,h6⟩:=h4 hst;have hb:=zfZ x st v hst h5 hy;rw [h6] at h2 ⊢;unfold remJ;rw [if_pos ⟨h1,hst,h2,by rw [hb]⟩,hb]
end
section
def m_i_Nodes:M:=so [qo 1 (.box 0),qo 2 (.mv (ci 0))] (so [qo 3 (.zero [.int .i64 0]),⟨none,.store 1 3 (ci 0),none,[]⟩] (so [qL 4 5 1,qo 5 (.mkfn 37 [3]),qc 6 36 [4,5] 1] (so [ql 7 1 3,qm 2 7] .ret)))
theorem lk_i_Nodes:look Tryz.prog 18 = some (8,m_i_Nodes,[.tm 2]):=by kernel_rfl
def m_i_walk:M:=so [qo 2 (.box 0)] (so [qm 6 1,qL 7 5 2,⟨some 8,.callv 6 [7],none,[.f 1]⟩] (so [qF 9 4 2,ql 10 1 9,qo 11 (.len 10),qo 12 (.mv (ci 0))] (.block 0 (.loop (so [qo 13 (.bin .lss false 12 11)] (.seq (.cond 13 .skip (.exit 0)) (.seq (.block 1 (so [qo 14 (.ix 5 10 12),qL 15 5 14,⟨some 5,.zero [.int .i64 0,.int .i64 0,.int .i64 0,.string ⟨[].toArray⟩,.slice none 0 0],none,[]⟩,qS 5 5 15] (.ops [qL 16 5 5,qm 17 1,qc 18 36 [16,17] 1]))) (.ops [qo 19 (.bin .add false 12 (ci 1)),qm 12 19]))))))))
theorem lk_i_walk:look Tryz.prog 36 = some (20,m_i_walk,[]):=by kernel_rfl
def m_i_Nodes_1:M:=so [qo 2 (.box 0)] (.ops [ql 3 1 1,qo 4 (.bin .add false 3 (ci 1)),qS 1 1 4])
theorem zf0:look Tryz.prog 37 = some (5,m_i_Nodes_1,[]):=by kernel_rfl
end
section
variable {T:World -> Prop} {hT:Low ngl T}
attribute [local irreducible] po mw pt
theorem gel {bx:LP PC} {p:Nat} {z:List PC} (h:bx[p]? = some z):p < bx.length:=(List.getElem?_eq_some_iff.1 h).1
theorem gea {bx r:LP PC} {p:Nat} {z:List PC} (h:bx[p]? = some z):(bx ++ r)[p]? = some z:=by rw [getElem?_append_left (gel h)]; exact h
def NdB (p a:Nat) (bx b:LP PC):Prop:=∃ rest,b = bx.set p [pI (a:Int)] ++ rest
theorem NdB.trans {p a1 a2:Nat} {bx b c:LP PC} {z:List PC} (hp:bx[p]? = some z) (h:NdB p a1 bx b) (k:NdB p a2 b c):NdB p a2 bx c:=by
 obtain ⟨r1,rfl⟩:=h;obtain ⟨r2,rfl⟩:=k;have hl:=gel hp;exact ⟨r1 ++ r2,by rw [set_append_left _ _ (by rw [length_set]; exact hl),set_set,append_assoc]⟩
theorem NdB.push {p a:Nat} {bx b:LP PC} (h:NdB p a bx b) (x:List PC):NdB p a bx (b ++ [x]):=by
 obtain ⟨r,rfl⟩:=h; exact ⟨r ++ [x],by rw [append_assoc]⟩
theorem NdB.at {p a:Nat} {bx b:LP PC} {z:List PC} (h:NdB p a bx b) (hp:bx[p]? = some z):b[p]? = some [pI (a:Int)]:=by
 obtain ⟨r,rfl⟩:=h;rw [getElem?_append_left (by rw [length_set]; exact gel hp),getElem?_set_self (gel hp)]
theorem NdB.other {p q a:Nat} {bx b:LP PC} {z:List PC} (h:NdB p a bx b) (hq:bx[q]? = some z) (hne:p ≠ q):b[q]? = some z:=by
 obtain ⟨r,rfl⟩:=h;rw [getElem?_append_left (by rw [length_set]; exact gel hq),getElem?_set_ne hne]; exact hq
theorem nodClo_g (v:V) (a:Nat) (ha:a <= 1000000) {bx:LP PC} {p nt:Nat} {live:List Nat} (hp:bx[p]? = some [pI (a:Int)]):FnG (env T hT) 37 [.ag (vC v),.ref p 0] bx nt live (fun _ b n l => NdB p (a + 1) bx b /\ n = nt /\ l = live):=by
 refine zaR (zad zf0) (by show 2 <= 5; decide) fun B hB => ?_
 unfold m_i_Nodes_1;refine mO ?_;refine zax (cs:=vC v) rfl ?_;refine zae ?_;refine zaj ?_;refine zaZ (p:=p) (o:=0) (cs:=[pI (a:Int)]) (v:=.d (pI a)) rfl rfl (gea hp) (Nat.le_of_ble_eq_true rfl) rfl ?_;refine zay (n:=((a + 1:Nat):Int)) rfl rfl rfl (by omega) (by omega) ?_;refine zas (p:=p) (o':=0) (cs:=[pI ((a + 1:Nat):Int)]) (z:=[pI (a:Int)]) rfl rfl (gea hp) ⟨rfl,Nat.le_of_ble_eq_true rfl⟩ rfl ?_;refine zae ?_;refine ⟨.inl rfl,[],rfl,⟨[vC v],?_⟩,rfl,rfl⟩;show (bx ++ [vC v]).set p _ = _;rw [set_append_left _ _ (gel hp)]; rfl
def WkN (T:World -> Prop) (hT:Low ngl T) (N:Nat):Prop:=∀ (v:V) (a:Nat) (bx:LP PC) (p nt:Nat) (live:List Nat),v.nodes <= N -> a + v.nodes <= 1000000 -> bx[p]? = some [pI (a:Int)] ->
 FnG (env T hT) 36 [.ag (vC v),.fn 37 [.ref p 0]] bx nt live (fun _ b n l => NdB p (a + v.nodes) bx b /\ n = nt /\ l = live)
def WnI (v:V) (a:Nat) (bx:LP PC) (p nt:Nat) (live:List Nat) (m:Nat) (s:St):Prop:=∃ j:Nat,j <= v.kids.length /\ m = v.kids.length - j /\ has s.tm [(1,.fn 37 [.ref p 0]),(10,.d (.sl 0 (vK v.kids))),(11,.d (pI v.kids.length)),(12,.d (pI j))] /\ NdB p (a + 1 + V.nodess (v.kids.take j)) bx s.bx /\ s.nt = nt /\ s.live = live
theorem nodes_mk (v:V):v.nodes = 1 + V.nodess v.kids:=by cases v; simp only [V.nodes,V.kids]
theorem nodess_cut (ks:List V) (j:Nat) (h:j < ks.length):V.nodess (ks.take (j + 1)) = V.nodess (ks.take j) + ks[j].nodes:=zcW h
theorem zf1:∀ (ks:List V) (j:Nat),V.nodess (ks.take j) <= V.nodess ks
 | [],j => by simp
 | k :: ks,0 => by simp [V.nodess]
 | k :: ks,j + 1 => by have:=zf1 ks j; simp only [take_succ_cons,V.nodess]; omega
theorem zel:∀ (ks:List V),ks.length <= V.nodess ks
 | [] => Nat.zero_le _
 | k :: ks => by have:=zel ks; have:=k.nodes_pos; simp only [length_cons,V.nodess]; omega
theorem walkN_step {N:Nat} (hS:WkN T hT N) (v:V) (a:Nat) (bx:LP PC) (p nt:Nat) (live:List Nat) (hn:v.nodes <= N + 1) (hk:a + v.nodes <= 1000000) (hp:bx[p]? = some [pI (a:Int)]) :
  FnG (env T hT) 36 [.ag (vC v),.fn 37 [.ref p 0]] bx nt live (fun _ b n l => NdB p (a + v.nodes) bx b /\ n = nt /\ l = live):=by
 have hnm:=nodes_mk v;have hkl:=zel v.kids;have hplt:=gel hp;refine zaR (zad lk_i_walk) (by show 2 <= 20; decide) fun B hB => ?_
 unfold m_i_walk;refine mP ?_;refine mQ ?_;refine zaZ (cs:=vC v) (v:=.ag (vC v)) rfl rfl (za0 bx (vC v)) (Nat.le_of_ble_eq_true rfl) rfl ?_;refine po_vg (f:=37) (cap:=[.ref p 0]) rfl (by kernel_rfl) rfl (nodClo_g (T:=T) (hT:=hT) v a (by omega) (gea hp)) ?_;rintro y b1 n1 l1 ⟨hA,rfl,rfl⟩;refine zae ?_
 have hA1:NdB p (a + 1) bx b1:=by
  obtain ⟨r,rfl⟩:=hA;exact ⟨[vC v] ++ r,by rw [set_append_left _ _ hplt,append_assoc]⟩
 have hv1:b1[bx.length]? = some (vC v):=hA.other (za0 bx (vC v)) (by omega);refine mQ ?_;refine zaZ (cs:=vC v) (v:=.d (.sl 0 (vK v.kids))) rfl rfl hv1 (Nat.le_of_ble_eq_true rfl) rfl ?_;refine zaA (n:=v.kids.length) rfl rfl (zao _) ?_;refine mN ?_;refine zai ?_;refine zaJ (WnI v a bx p n1 l1) v.kids.length ⟨0,Nat.zero_le _,rfl,⟨rfl,rfl,rfl,rfl,trivial⟩,by rw [take_zero]; exact hA1,rfl,rfl⟩ ?_;rintro m tm bx2 nt2 live2 ⟨j,hj,rfl,ht,hB2,hnn,hll⟩;obtain ⟨tm0,rfl⟩:=zah ht;simp only at hB2 hnn hll
 subst hnn; subst hll
 clear ht;refine mO ?_;refine po_b rfl rfl (fun b hb => ?_);refine zae ?_;refine zaD ?_;refine zb9 (p:=(j:Int) < v.kids.length) hb rfl (fun h _ => ?_) (fun h _ => ?_)
 ·have hjl:j < v.kids.length:=by omega
  have hc:=nodess_cut v.kids j hjl;have hle:=zf1 v.kids (j + 1);refine zau ?_;refine zaD (zai (zaD (zaj ?_)));refine za4 (es:=vK v.kids) (e:=vC v.kids[j]) rfl rfl rfl ⟨by omega,by rw [Int.toNat_natCast]; exact zbe hjl⟩ rfl ?_;refine po_q (v:=.ag (vC v.kids[j])) rfl rfl ?_;refine zbb (cs:=vC v.kids[j]) rfl rfl rfl rfl ?_;refine zae ?_;refine zaj ?_;refine zaZ (cs:=vC v.kids[j]) (v:=.ag (vC v.kids[j])) rfl rfl (za0 bx2 (vC v.kids[j])) (Nat.le_of_ble_eq_true rfl) rfl ?_;refine mS ?_;have hB3:=hB2.push (vC v.kids[j]);refine po_g rfl (hS v.kids[j] _ _ p nt2 live2 (by omega) (by omega) (hB3.at hp)) ?_;rintro y b4 n4 l4 ⟨hB4,rfl,rfl⟩;refine zae ?_;refine zaj ?_;refine zay (n:=((j + 1:Nat):Int)) rfl rfl rfl (by omega) (by omega) ?_;refine mN ?_;refine ⟨v.kids.length - (j + 1),by omega,j + 1,hjl,rfl,⟨rfl,rfl,rfl,rfl,trivial⟩,?_,rfl,rfl⟩
  rw [hc,<- Nat.add_assoc];exact NdB.trans hp hB3 hB4
 ·refine zaL ?_
  have:j = v.kids.length:=by omega
  subst this;refine ⟨.inl rfl,[],rfl,?_,rfl,rfl⟩;rw [take_length] at hB2;rw [hnm,<- Nat.add_assoc]; exact hB2
theorem walkN_g:∀ (N:Nat),WkN T hT N
 | 0,v,a,bx,p,nt,live,hn,_,_ => by have:=v.nodes_pos; omega
 | N + 1,v,a,bx,p,nt,live,hn,hk,hp => walkN_step (walkN_g N) v a bx p nt live hn hk hp
theorem zf2 (v:V) (hn:v.nodes <= 1000000):FnV (env T hT) 18 [.ag (vC v)] (.d (pI v.nodes)):=by
 refine za1 (zad lk_i_Nodes) (by show 1 <= 8; decide) fun B hB => ?_
 unfold m_i_Nodes;refine mO ?_;refine zax (cs:=vC v) rfl ?_;refine mN ?_;refine mO ?_;refine zbb (cs:=[pI 0]) rfl rfl rfl rfl ?_;refine zae ?_;refine mO ?_;refine zaa (p:=0) (cs:=vC v) rfl rfl rfl rfl ?_;refine mS ?_;refine po_g rfl (walkN_g (T:=T) (hT:=hT) v.nodes v 0 [vC v,[pI 0]] 1 2 [] lR (by omega) rfl) ?_;rintro y b n l ⟨⟨rest,rfl⟩,rfl,rfl⟩;refine zae ?_;rw [Nat.zero_add];show mw _ _ _ _ ⟨_,vC v :: [pI v.nodes] :: rest,_,_⟩;refine mP ?_;exact zab ⟨.inr rfl,[.d (pI v.nodes)],rfl,rfl⟩
end
section
def m_l_FnPut:M:=so [qo 2 (.mv (cB false))] (.seq (so [qm 32 0,qc 33 4 [32] 1] (.cond 33 (so [qo 2 (.mv (cB true))] .ret) .skip)) (so [qm 35 0,qc 36 5 [35] 1,qm 34 36,qe 37 34 0,qe 38 34 1,qe 39 34 2,⟨some 3,.zero [.int .i64 0,.int .i64 0,.int .i64 0,.string ⟨[].toArray⟩,.slice none 0 0],none,[]⟩,⟨some 5,.zero [.int .i64 0,.int .i64 0,.int .i64 0,.string ⟨[].toArray⟩,.slice none 0 0],none,[]⟩,qS 5 3 37,qm 4 38,qS 5 5 39] (so [qL 41 5 3,qm 42 4,qL 43 5 5,qc 44 6 [41,42,43] 1,qm 40 44,qe 45 40 0,qe 46 40 1,⟨some 6,.zero [.int .i64 0,.int .i64 0,.int .i64 0,.string ⟨[].toArray⟩,.slice none 0 0],none,[]⟩,qS 5 6 45,qm 7 46] (so [qL 48 5 3,qm 49 4,qL 50 5 5,qc 51 7 [48,49,50] 1,qm 47 51,qe 52 47 0,qe 53 47 1,⟨some 8,.zero [.int .i64 0,.int .i64 0,.int .i64 0,.string ⟨[].toArray⟩,.slice none 0 0],none,[]⟩,qS 5 8 52,qm 9 53] (so [qL 55 5 3,qm 56 4,qL 57 5 5,qc 58 8 [55,56,57] 1,qm 54 58,qe 59 54 0,qe 60 54 1,⟨some 10,.zero [.int .i64 0,.int .i64 0,.int .i64 0,.string ⟨[].toArray⟩,.slice none 0 0],none,[]⟩,qS 5 10 59,qm 11 60] (so [qL 62 5 3,qm 63 4,qL 64 5 5,qc 65 9 [62,63,64] 1,qm 61 65,qe 66 61 0,qe 67 61 1,⟨some 12,.zero [.int .i64 0,.int .i64 0,.int .i64 0,.string ⟨[].toArray⟩,.slice none 0 0],none,[]⟩,qS 5 12 66,qm 13 67] (so [qm 69 0,qc 70 10 [69] 1,qm 68 70,qe 71 68 0,qe 72 68 1,⟨some 14,.zero [.int .i64 0,.int .i64 0,.int .i64 0,.string ⟨[].toArray⟩,.slice none 0 0],none,[]⟩,qS 5 14 71,qm 15 72] (so [qL 74 5 14,qm 75 15,qc 76 11 [74,75] 1,qm 73 76,qe 77 73 0,qe 78 73 1,⟨some 16,.zero [.int .i64 0,.int .i64 0,.int .i64 0,.string ⟨[].toArray⟩,.slice none 0 0],none,[]⟩,qS 5 16 77,qm 17 78] (so [qL 80 5 14,qm 81 15,qc 82 12 [80,81] 1,qm 79 82,qe 83 79 0,qe 84 79 1,⟨some 18,.zero [.int .i64 0,.int .i64 0,.int .i64 0,.string ⟨[].toArray⟩,.slice none 0 0],none,[]⟩,qS 5 18 83,qm 19 84] (so [qm 86 0,qc 87 13 [86] 1,qm 85 87,qe 88 85 0,qe 89 85 1,⟨some 20,.zero [.int .i64 0,.int .i64 0,.int .i64 0,.string ⟨[].toArray⟩,.slice none 0 0],none,[]⟩,qS 5 20 88,qm 21 89] (so [qL 91 5 20,qm 92 21,qc 93 14 [91,92] 1,qm 90 93,qe 94 90 0,qe 95 90 1,⟨some 22,.zero [.int .i64 0,.int .i64 0,.int .i64 0,.string ⟨[].toArray⟩,.slice none 0 0],none,[]⟩,qS 5 22 94,qm 23 95] (so [qL 97 5 20,qm 98 21,qc 99 15 [97,98] 1,qm 96 99,qe 100 96 0,qe 101 96 1,⟨some 24,.zero [.int .i64 0,.int .i64 0,.int .i64 0,.string ⟨[].toArray⟩,.slice none 0 0],none,[]⟩,qS 5 24 100,qm 25 101] (.seq (so [qL 102 5 6,qL 103 5 8,qc 104 16 [102,103] 1,qo 105 (.not 104),qm 106 105,qg 107 7 106 false,qg 108 9 106 false,⟨some 109,.bin .neq true 107 108,some (106,false),[]⟩,qo 110 (.pick 106 (cB true) 109),qm 111 110,⟨some 112,.load true 5 10,some (111,false),[]⟩,⟨some 113,.load true 5 12,some (111,false),[]⟩,⟨some 114,.call 16 [112,113],some (111,false),[.f 1]⟩,⟨some 115,.not 114,some (111,false),[]⟩,qo 116 (.pick 111 (cB true) 115),qm 117 116,qg 118 11 117 false,qg 119 13 117 false,⟨some 120,.bin .neq true 118 119,some (117,false),[]⟩,qo 121 (.pick 117 (cB true) 120),qm 122 121,⟨some 123,.load true 5 16,some (122,false),[]⟩,⟨some 124,.load true 5 18,some (122,false),[]⟩,⟨some 125,.call 16 [123,124],some (122,false),[.f 1]⟩,⟨some 126,.not 125,some (122,false),[]⟩,qo 127 (.pick 122 (cB true) 126),qm 128 127,qg 129 17 128 false,qg 130 19 128 false,⟨some 131,.bin .neq true 129 130,some (128,false),[]⟩,qo 132 (.pick 128 (cB true) 131),qm 133 132,⟨some 134,.load true 5 22,some (133,false),[]⟩,⟨some 135,.load true 5 24,some (133,false),[]⟩,⟨some 136,.call 16 [134,135],some (133,false),[.f 1]⟩,⟨some 137,.not 136,some (133,false),[]⟩,qo 138 (.pick 133 (cB true) 137),qm 139 138,qg 140 23 139 false,qg 141 25 139 false,⟨some 142,.bin .neq true 140 141,some (139,false),[]⟩,qo 143 (.pick 139 (cB true) 142)] (.cond 143 (so [qo 2 (.mv (cB false))] .ret) .skip)) (.seq (so [qm 144 7,qo 145 (.not 144),qm 146 145,⟨some 147,.load true 5 6,some (146,true),[]⟩,⟨some 148,.load true 5 3,some (146,true),[]⟩,⟨some 149,.call 16 [147,148],some (146,true),[.f 1]⟩,⟨some 150,.not 149,some (146,true),[]⟩,qo 151 (.pick 146 150 (cB false)),qm 152 151,qg 153 11 152 false,⟨some 154,.not 153,some (152,false),[]⟩,qg 155 154 152 false,⟨some 156,.load true 5 10,some (155,true),[]⟩,⟨some 157,.load true 5 3,some (155,true),[]⟩,⟨some 158,.call 16 [156,157],some (155,true),[.f 1]⟩,⟨some 159,.not 158,some (155,true),[]⟩,⟨some 160,.pick 155 159 (cB false),some (152,false),[]⟩,qo 161 (.pick 152 (cB true) 160),qm 162 161,qg 163 17 162 false,⟨some 164,.not 163,some (162,false),[]⟩,qg 165 164 162 false,⟨some 166,.load true 5 16,some (165,true),[]⟩,⟨some 167,.load true 5 14,some (165,true),[]⟩,⟨some 168,.call 16 [166,167],some (165,true),[.f 1]⟩,⟨some 169,.not 168,some (165,true),[]⟩,⟨some 170,.pick 165 169 (cB false),some (162,false),[]⟩,qo 171 (.pick 162 (cB true) 170)] (.cond 171 (so [qo 2 (.mv (cB false))] .ret) .skip)) (.seq (so [qm 172 7] (.cond 172 (so [qL 174 5 6,qm 175 4,qc 176 14 [174,175] 1,qm 173 176,qe 177 173 0,qe 178 173 1,⟨some 26,.zero [.int .i64 0,.int .i64 0,.int .i64 0,.string ⟨[].toArray⟩,.slice none 0 0],none,[]⟩,qS 5 26 177,qm 27 178] (so [qm 179 27,qo 180 (.not 179),qm 181 180,⟨some 182,.load true 5 26,some (181,false),[]⟩,⟨some 183,.load true 5 5,some (181,false),[]⟩,⟨some 184,.call 16 [182,183],some (181,false),[.f 1]⟩,⟨some 185,.not 184,some (181,false),[]⟩,qo 186 (.pick 181 (cB true) 185),qm 187 186,⟨some 188,.load true 5 6,some (187,false),[]⟩,⟨some 189,.call 17 [188],some (187,false),[.f 1]⟩,⟨some 190,.not 189,some (187,false),[]⟩,qo 191 (.pick 187 (cB true) 190)] (.cond 191 (so [qo 2 (.mv (cB false))] .ret) .skip))) .skip)) (.seq (so [qm 192 17,qm 193 192,⟨some 194,.load true 5 16,some (193,true),[]⟩,⟨some 195,.call 17 [194],some (193,true),[.f 0]⟩,⟨some 196,.not 195,some (193,true),[]⟩,qg 197 196 193 true,⟨some 198,.load true 5 16,some (197,false),[]⟩,⟨some 200,.load true 5 14,some (197,false),[]⟩,⟨some 199,.call 18 [198],some (197,false),[.f 0,14]⟩,⟨some 201,.call 18 [200],some (197,false),[.f 0]⟩,⟨some 202,.bin .geq false 199 201,some (197,false),[]⟩,⟨some 203,.pick 197 (cB true) 202,some (193,true),[]⟩,qo 204 (.pick 193 203 (cB false))] (.cond 204 (so [qo 2 (.mv (cB false))] .ret) .skip)) (.seq (so [qm 205 11,qo 206 (.not 205),qm 207 206,qg 208 4 207 false,⟨some 209,.len 208,some (207,false),[]⟩,⟨some 210,.bin .eql false 209 (ci 0),some (207,false),[]⟩,qo 211 (.pick 207 (cB true) 210)] (.cond 211 (so [qo 2 (.mv (cB true))] .ret) .skip)) (.seq (.tree (.node [qL 213 5 3,qm 214 4,qm 215 4,qo 216 (.len 215),qo 217 (.bin .sub false 216 (ci 1)),qo 218 (.slc 1 214 none (some 217))] (.alt (qc 219 15 [213,218] 0) (.node [qm 212 219,qe 220 212 0,qe 221 212 1] (.alt ⟨some 28,.zero [.int .i64 0,.int .i64 0,.int .i64 0,.string ⟨[].toArray⟩,.slice none 0 0],none,[]⟩ (.node [] (.alt (qS 5 28 220) (.node [qm 29 221] .leaf) .leaf)) .leaf)) (.alt ⟨some 28,.zero [.int .i64 0,.int .i64 0,.int .i64 0,.string ⟨[].toArray⟩,.slice none 0 0],none,[]⟩ (.node [] (.alt (qc 219 15 [213,218] 0) (.node [qm 212 219,qe 220 212 0,qe 221 212 1] (.alt (qS 5 28 220) (.node [qm 29 221] .leaf) .leaf)) .leaf)) .leaf)))) (so [qL 223 5 10,qm 224 4,qc 225 11 [223,224] 1,qm 222 225,qe 226 222 0,qe 227 222 1,⟨some 30,.zero [.int .i64 0,.int .i64 0,.int .i64 0,.string ⟨[].toArray⟩,.slice none 0 0],none,[]⟩,qS 5 30 226,qm 31 227] (so [qF 228 0 28,ql 229 1 228,qo 230 (.bin .neq false 229 (ci 7)),qm 231 230,qg 232 31 231 false,qg 233 232 231 false,⟨some 234,.load true 5 30,some (233,true),[]⟩,⟨some 235,.load true 5 3,some (233,true),[]⟩,⟨some 236,.call 16 [234,235],some (233,true),[.f 1]⟩,⟨some 237,.pick 233 236 (cB false),some (231,false),[]⟩,qo 238 (.pick 231 (cB true) 237),qm 2 238] .ret))))))))))))))))))))
theorem lk_l_FnPut:look Tryz.prog 3 = some (239,m_l_FnPut,[.tm 2]):=by kernel_rfl
end
section
attribute [local irreducible] po mw pt
theorem zby (a b:V):PV.dats [.ag (vC a),.ag (vC b)] = some [.ag (vC a),.ag (vC b)]:=by
 show some [PV.ag (erL (vC a)),PV.ag (erL (vC b))] = _;rw [zap,zap]
theorem gen_st {E:Env} {B:Base} {m:M} {Q:Exit -> St -> Prop} {s:St} (I:St -> Prop) (h:I s) (k:∀ tm bx nt live,I ⟨tm,bx,nt,live⟩ -> mw E B m Q ⟨tm,bx,nt,live⟩):mw E B m Q s:=k s.tm s.bx s.nt s.live h
theorem zdm (v x:V) (st:List (L8)):PV.dats [.ag (vC v),.d (.sl 0 (pSr st)),.ag (vC x)] = some [.ag (vC v),.d (pSs st),.ag (vC x)]:=by
 show some [PV.ag (erL (vC v)),.d (.sl 0 (erLL (pSr st))),.ag (erL (vC x))] = _;rw [zap,zap,zbG]; rfl
theorem lt_arg (st:List (L8)):(((pSr st).drop 0).take (st.length - 1 - 0)) = pSr (st.take (st.length - 1)):=by
 rw [drop_zero,Nat.sub_zero];unfold pSr;rw [map_take]
theorem at_same {v:V} {st:List (L8)} (h:StP v st):atO v st = atI v st:=by
 unfold atO
 cases hk:v.ok with
 | false => rw [if_pos (h.2.2 hk)]
 | true =>
  by_cases hs:stepsOk st = true
  ·rw [if_pos hs]
  ·rw [if_neg hs]
   cases ha:atI v st with
   | none => rfl
   | some y =>
    obtain ⟨h3,h4⟩:=zeO st v y 12 (zfN hk).1 ha;exact absurd (by unfold stepsOk; rw [decide_eq_true (by omega),all_eq_true.2 h4]; rfl) hs
theorem z0_bw:z0V.wf /\ z0V.bulk <= 1048576:=⟨by show V.wf (.mk 0 0 0 [] []); simp [V.wf,V.wfs,i64ok,strok],by decide⟩
theorem atD_bw {v:V} {st:List (L8)} (hw:v.wf) (hb:v.bulk <= 1048576):((atI v st).getD z0V).wf /\ ((atI v st).getD z0V).bulk <= 1048576:=by
 cases ha:atI v st with
 | none => exact z0_bw
 | some y => exact zgw (Q:=fun v => v.wf /\ v.bulk <= 1048576) (fun v h => V.wf_kids h) st v _ ⟨hw,hb⟩ ha
theorem putJ_bw {v x:V} {st:List (L8)} {a:Bool} (hv:Gd 4000 v) (hx:Gd 4000 x) (hs:∀ s ∈ st,s.length <= 2000):(putJ v st x a).1.wf /\ (putJ v st x a).1.bulk <= 10002:=by
 have h1:=hv.bulk;have h2:=hx.bulk;rw [<- zeP];unfold putW madeS;split
 ·have h3:=zbV st v x a 2000 hs
  exact ⟨zdO st v x a 2000 hv.wf hx.wf hs (by omega),by show (putS v st x a).1.bulk <= _; omega⟩
 ·exact ⟨hv.wf,by show v.bulk <= _; omega⟩
theorem remJ_bw {v:V} {st:List (L8)} {n:Nat} (hw:v.wf) (hb:v.bulk <= n) (hn:n <= 4294967295):(remJ v st).1.wf /\ (remJ v st).1.bulk <= n:=by
 rw [<- zeR];unfold remW madeS;split
 ·have h3:=zdf st v hw (by omega)
  exact ⟨h3.1,by show (lessS v st).1.bulk <= _; omega⟩
 ·exact ⟨hw,hb⟩
def FpT (st:List (L8)) (v x:V) (P Q R:V × Bool) (v2 v3 y:V) (ok:Bool) (s:St):Prop :=
 has s.tm [(3,.ref 0 0),(4,.d (pSs st)),(5,.ref 1 0),(6,.ref 2 0),(7,.d (pB P.2)),(8,.ref 3 0),(9,.d (pB P.2)),(10,.ref 4 0),(11,.d (pB Q.2)),(12,.ref 5 0),(13,.d (pB Q.2)),(14,.ref 6 0),(16,.ref 7 0),(17,.d (pB R.2)),(18,.ref 8 0),(19,.d (pB R.2)),(22,.ref 10 0),(23,.d (pB ok)),(24,.ref 11 0),(25,.d (pB ok))] /\ s.bx = [vC v,vC x,vC P.1,vC P.1,vC Q.1,vC Q.1,vC v2,vC R.1,vC R.1,vC v3,vC y,vC y]
def FpU (st:List (L8)) (v x:V) (P Q R:V × Bool) (v2:V) (s:St):Prop :=
 has s.tm [(3,.ref 0 0),(4,.d (pSs st)),(5,.ref 1 0),(6,.ref 2 0),(7,.d (pB P.2)),(10,.ref 4 0),(11,.d (pB Q.2)),(14,.ref 6 0),(16,.ref 7 0),(17,.d (pB R.2))] /\ ∃ rest,s.bx = vC v :: vC x :: vC P.1 :: vC P.1 :: vC Q.1 :: vC Q.1 :: vC v2 :: vC R.1 :: rest
def FpV (st:List (L8)) (_Q:V × Bool) (b:LP PC) (y:V) (s:St):Prop :=
 has s.tm [(3,.ref 0 0),(4,.d (pSs st)),(10,.ref 4 0),(28,.ref b.length 0)] /\ s.bx = (b ++ [z6]).set b.length (vC y)
theorem fnPut_fn (b:L8) (_hl:b.length <= maxLen):FnV (env TS TS.low) 3 [.d (.sl 0 (pcB b))] (.d (pB true)):=by
 have hca:PV.dats [PV.d (.sl 0 (pcB b))] = some [.d (.sl 0 (pcB b))]:=by
  show some [PV.d (.sl 0 (erLL (pcB b)))] = _;rw [pcB_er]
 have hsame:∀ a:V,a.bulk <= 4294967295 -> FnV (env TS TS.low) 16 [.ag (vC a),.ag (vC a)] (.d (pB true)):=fun a h => by
  have:=lsame_fn (T:=TS) (hT:=TS.low) a a h
  rw [decide_eq_true rfl] at this; exact this
 have hTen:∀ w,TS w -> TenTab w:=fun _ h => h.2.1
 have hErr:∀ w,TS w -> ErrTab w:=fun _ h => h.2.2
 have hTab:∀ w,TS w -> Tabs w:=fun _ h => h.1
 refine za1 (zad lk_l_FnPut) (by show 1 <= 239; decide) fun B hB => ?_
 unfold m_l_FnPut;refine mP ?_;refine mM ?_;refine mS ?_;refine zac hca (big_fn0 b) ?_;refine zae ?_;refine ze5 (p:=(b.length:Int) > 1048576) rfl (fun h => ?_) (fun h => ?_)
 ·refine mP ?_
  exact zab ⟨.inr rfl,[.d (pB true)],rfl,rfl⟩
 have hb:b.length <= 2147483647:=by omega
 refine zau ?_;refine mQ ?_;refine zdj hca (drawPut_f (T:=TS) (hT:=TS.low) hb) ?_;rintro y0 lv ⟨v,st,x,hx0,hgv,hst,hgx⟩;refine ⟨_,hx0,?_⟩;clear hx0;have hvb:=hgv.bulk;have hxb:=hgx.bulk;have hs13:=hst.1;have hs2000:=hst.2.1;(iterate 4 refine mS ?_);refine za2 ?_;refine za2 ?_;refine zag (p:=0) (cs:=vC v) (z:=z6) rfl rfl rfl rfl rfl rfl ?_;refine mS ?_;refine zag (p:=1) (cs:=vC x) (z:=z6) rfl rfl rfl rfl rfl rfl ?_;refine zae ?_;have hPI:=PutI_fn (T:=TS) (hT:=TS.low) hTen hErr hTab v x st 2000 hgv.wf hgx.wf hs2000 (by omega) (by omega);have hPS:=Put_fn (T:=TS) (hT:=TS.low) v x st 2000 hgv.wf hgx.wf hs2000 (by omega) (by omega);rw [zeP] at hPS;have hQI:=InsertI_fn (T:=TS) (hT:=TS.low) hTen hErr hTab v x st 2000 hgv.wf hgx.wf hs2000 (by omega) (by omega);have hQS:=Insert_fn (T:=TS) (hT:=TS.low) v x st 2000 hgv.wf hgx.wf hs2000 (by omega) (by omega);rw [zeP] at hQS
 obtain ⟨hPw,hPb⟩:=putJ_bw (a:=false) hgv hgx hs2000;obtain ⟨hQw,hQb⟩:=putJ_bw (a:=true) hgv hgx hs2000;have hPf:=zfY (v:=v) (x:=x) (st:=st) (a:=false);have hPn:=put_no (v:=v) (x:=x) (st:=st) (a:=false);have hQn:=put_no (v:=v) (x:=x) (st:=st) (a:=true);have hQl:=put_less (v:=v) (x:=x) (st:=st);have hRQ:=fun w hw h2 => zei (T:=TS) (hT:=TS.low) hTen hErr hTab w st 2000 hw hs2000 (by omega) h2 (by omega)
 have hRQ1:=hRQ (putJ v st x true).1 hQw (by omega);generalize putJ v st x false = P at hPI hPS hPw hPb hPf hPn;generalize putJ v st x true = Q at hQI hQS hQw hQb hQn hQl hRQ1;refine mO ?_;refine zaa (p:=0) (cs:=vC v) rfl rfl rfl rfl ?_;refine mS ?_;refine zaa (p:=1) (cs:=vC x) rfl rfl rfl rfl ?_;refine zac (zdm v x st) hPI ?_;(iterate 3 refine mS ?_);refine zbb (cs:=vC P.1) rfl rfl rfl rfl ?_;refine mN ?_;refine mO ?_;refine zaa (p:=0) (cs:=vC v) rfl rfl rfl rfl ?_;refine mS ?_;refine zaa (p:=1) (cs:=vC x) rfl rfl rfl rfl ?_;refine zac (zdm v x st) hPS ?_;(iterate 3 refine mS ?_);refine zbb (cs:=vC P.1) rfl rfl rfl rfl ?_;refine mN ?_;refine mO ?_;refine zaa (p:=0) (cs:=vC v) rfl rfl rfl rfl ?_;refine mS ?_;refine zaa (p:=1) (cs:=vC x) rfl rfl rfl rfl ?_;refine zac (zdm v x st) hQI ?_;(iterate 3 refine mS ?_);refine zbb (cs:=vC Q.1) rfl rfl rfl rfl ?_
 refine mN ?_;refine mO ?_;refine zaa (p:=0) (cs:=vC v) rfl rfl rfl rfl ?_;refine mS ?_;refine zaa (p:=1) (cs:=vC x) rfl rfl rfl rfl ?_;refine zac (zdm v x st) hQS ?_;(iterate 3 refine mS ?_);refine zbb (cs:=vC Q.1) rfl rfl rfl rfl ?_;refine mN ?_;refine mQ ?_;refine zdj hca (zfR (T:=TS) (hT:=TS.low) hb) ?_;rintro y0 lv ⟨v2,s2,hx0,hg2,hst2⟩;refine ⟨_,hx0,?_⟩;clear hx0;have h2b:=hg2.bulk;have h213:=hst2.1;have h22000:=hst2.2.1;(iterate 3 refine mS ?_);refine zbb (cs:=vC v2) rfl rfl rfl rfl ?_;refine mN ?_;have hRI:=zei (T:=TS) (hT:=TS.low) hTen hErr hTab v2 s2 2000 hg2.wf h22000 (by omega) (by omega) (by omega);have hRS:=Remove_fn (T:=TS) (hT:=TS.low) v2 s2 2000 hg2.wf h22000 (by omega) (by omega);rw [zeR] at hRS;obtain ⟨hRw,hRb⟩:=remJ_bw (st:=s2) hg2.wf hg2.bulk (by omega);have hRl:=rem_less (v:=v2) (st:=s2);have hRn:=rem_no (v:=v2) (st:=s2)
 generalize remJ v2 s2 = R at hRI hRS hRw hRb hRl hRn;refine mO ?_;refine zaa (p:=6) (cs:=vC v2) rfl rfl rfl rfl ?_;refine mS ?_;refine zac (zce v2 s2) hRI ?_;(iterate 3 refine mS ?_);refine zbb (cs:=vC R.1) rfl rfl rfl rfl ?_;refine mN ?_;refine mO ?_;refine zaa (p:=6) (cs:=vC v2) rfl rfl rfl rfl ?_;refine mS ?_;refine zac (zce v2 s2) hRS ?_;(iterate 3 refine mS ?_);refine zbb (cs:=vC R.1) rfl rfl rfl rfl ?_;refine mN ?_;refine mQ ?_;refine zdj hca (drawAt_f (T:=TS) (hT:=TS.low) hb) ?_;rintro y0 lv ⟨v3,s3,hx0,hg3,hst3⟩;refine ⟨_,hx0,?_⟩;clear hx0;have h3b:=hg3.bulk;have h313:=hst3.1;have h32000:=hst3.2.1;(iterate 3 refine mS ?_);refine zbb (cs:=vC v3) rfl rfl rfl rfl ?_;refine mN ?_;have hAI:=atT_fn (T:=TS) (hT:=TS.low) (fun w h => h) v3 s3 hg3.wf (by omega) (by omega) (fun s hs => by have:=h32000 s hs; omega);have hAS:=atS_fn (T:=TS) (hT:=TS.low) v3 s3 hg3.wf (by omega) (by omega) (fun s hs => by have:=h32000 s hs; omega)
 rw [at_same hst3,atR_eq] at hAI;rw [atR_eq] at hAS;obtain ⟨hyw,hyb⟩:=atD_bw (st:=s3) hg3.wf (by omega);generalize (atI v3 s3).getD z0V = y at hAI hAS hyw hyb;generalize (atI v3 s3).isSome = ok at hAI hAS;refine mO ?_;refine zaa (p:=9) (cs:=vC v3) rfl rfl rfl rfl ?_;refine mS ?_;refine zac (zce v3 s3) hAI ?_;(iterate 3 refine mS ?_);refine zbb (cs:=vC y) rfl rfl rfl rfl ?_;refine mN ?_;refine mO ?_;refine zaa (p:=9) (cs:=vC v3) rfl rfl rfl rfl ?_;refine mS ?_;refine zac (zce v3 s3) hAS ?_;(iterate 3 refine mS ?_);refine zbb (cs:=vC y) rfl rfl rfl rfl ?_;refine mN ?_;refine zav (FpU st v x P Q R v2) ?_ ?_
 ·refine gen_st (FpT st v x P Q R v2 v3 y ok) ⟨⟨rfl,rfl,rfl,rfl,rfl,rfl,rfl,rfl,rfl,rfl,rfl,rfl,rfl,rfl,rfl,rfl,rfl,rfl,rfl,rfl,trivial⟩,rfl⟩ ?_
  rintro tm bx nt live ⟨ht,hbx⟩;obtain ⟨tm1,rfl⟩:=zah ht;simp only at hbx; subst hbx
  clear ht;refine mO ?_;refine zaa (p:=2) (cs:=vC P.1) rfl rfl rfl rfl ?_;refine zaa (p:=3) (cs:=vC P.1) rfl rfl rfl rfl ?_;refine zac (zby P.1 P.1) (hsame P.1 (by omega)) ?_;(iterate 2 refine mS ?_);(iterate 2 refine mS ?_);refine zal rfl rfl (bne_self_eq_false P.2) ?_;(iterate 2 refine mS ?_);refine zaa (p:=4) (cs:=vC Q.1) rfl rfl rfl rfl ?_;refine zaa (p:=5) (cs:=vC Q.1) rfl rfl rfl rfl ?_;refine zat (b:=true) rfl (fun _ => zby Q.1 Q.1) (fun _ => hsame Q.1 (by omega)) ?_;(iterate 3 refine mS ?_);(iterate 2 refine mS ?_);refine zal rfl rfl (bne_self_eq_false Q.2) ?_;(iterate 2 refine mS ?_);refine zaa (p:=7) (cs:=vC R.1) rfl rfl rfl rfl ?_;refine zaa (p:=8) (cs:=vC R.1) rfl rfl rfl rfl ?_;refine zat (b:=true) rfl (fun _ => zby R.1 R.1) (fun _ => hsame R.1 (by omega)) ?_;(iterate 3 refine mS ?_);(iterate 2 refine mS ?_);refine zal rfl rfl (bne_self_eq_false R.2) ?_
  (iterate 2 refine mS ?_);refine zaa (p:=10) (cs:=vC y) rfl rfl rfl rfl ?_;refine zaa (p:=11) (cs:=vC y) rfl rfl rfl rfl ?_;refine zat (b:=true) rfl (fun _ => zby y y) (fun _ => hsame y (by omega)) ?_;(iterate 3 refine mS ?_);(iterate 2 refine mS ?_);refine zal rfl rfl (bne_self_eq_false ok) ?_;refine mK ?_;exact ⟨⟨rfl,rfl,rfl,rfl,rfl,rfl,rfl,rfl,rfl,rfl,trivial⟩,[vC R.1,vC v3,vC y,vC y],rfl⟩
 rintro tm bx nt live ⟨ht,rest,hbx⟩;obtain ⟨tm1,rfl⟩:=zah ht;simp only at hbx; subst hbx
 clear ht;obtain ⟨pv,pb⟩:=P;obtain ⟨qv,qb⟩:=Q;obtain ⟨rv,rb⟩:=R;simp only at hPw hPb hQw hQb hRw hRb hPn hQn hRn hPf hQl hRl;refine zav (FpU st v x (pv,pb) (qv,qb) (rv,rb) v2) ?_ ?_
 ·refine mQ ?_
  cases pb with
  | false =>
   have he:pv = v:=hPn rfl;subst pv;(iterate 2 refine mS ?_);refine zaa (p:=2) (cs:=vC v) rfl rfl rfl rfl ?_;refine zaa (p:=0) (cs:=vC v) rfl rfl rfl rfl ?_;refine zat (b:=true) rfl (fun _ => zby v v) (fun _ => hsame v (by omega)) ?_;refine mS ?_;(iterate 2 refine mS ?_);refine mS ?_
   cases qb with
   | false =>
    have he:qv = v:=hQn rfl;subst qv;(iterate 2 refine mS ?_);refine zaa (p:=4) (cs:=vC v) rfl rfl rfl rfl ?_;refine zaa (p:=0) (cs:=vC v) rfl rfl rfl rfl ?_;refine zat (b:=true) rfl (fun _ => zby v v) (fun _ => hsame v (by omega)) ?_;refine mS ?_;(iterate 2 refine mS ?_);refine mS ?_;refine mS ?_
    cases rb with
    | false =>
     have he:rv = v2:=hRn rfl;subst rv;(iterate 2 refine mS ?_);refine zaa (p:=7) (cs:=vC v2) rfl rfl rfl rfl ?_;refine zaa (p:=6) (cs:=vC v2) rfl rfl rfl rfl ?_;refine zat (b:=true) rfl (fun _ => zby v2 v2) (fun _ => hsame v2 (by omega)) ?_;refine mS ?_;(iterate 2 refine mS ?_);refine mK ?_
     exact ⟨⟨rfl,rfl,rfl,rfl,rfl,rfl,rfl,rfl,rfl,rfl,trivial⟩,rest,rfl⟩
    | true =>
     (iterate 2 refine mS ?_);refine mZ ?_;(iterate 2 refine mS ?_);refine mK ?_
     exact ⟨⟨rfl,rfl,rfl,rfl,rfl,rfl,rfl,rfl,rfl,rfl,trivial⟩,rest,rfl⟩
   | true =>
    (iterate 2 refine mS ?_);refine mZ ?_;(iterate 2 refine mS ?_);refine mS ?_;refine mS ?_
    cases rb with
    | false =>
     have he:rv = v2:=hRn rfl;subst rv;(iterate 2 refine mS ?_);refine zaa (p:=7) (cs:=vC v2) rfl rfl rfl rfl ?_;refine zaa (p:=6) (cs:=vC v2) rfl rfl rfl rfl ?_;refine zat (b:=true) rfl (fun _ => zby v2 v2) (fun _ => hsame v2 (by omega)) ?_;refine mS ?_;(iterate 2 refine mS ?_);refine mK ?_
     exact ⟨⟨rfl,rfl,rfl,rfl,rfl,rfl,rfl,rfl,rfl,rfl,trivial⟩,rest,rfl⟩
    | true =>
     (iterate 2 refine mS ?_);refine mZ ?_;(iterate 2 refine mS ?_);refine mK ?_
     exact ⟨⟨rfl,rfl,rfl,rfl,rfl,rfl,rfl,rfl,rfl,rfl,trivial⟩,rest,rfl⟩
  | true =>
   (iterate 2 refine mS ?_);refine mZ ?_;(iterate 2 refine mS ?_);refine mS ?_
   cases qb with
   | false =>
    have he:qv = v:=hQn rfl;subst qv;(iterate 2 refine mS ?_);refine zaa (p:=4) (cs:=vC v) rfl rfl rfl rfl ?_;refine zaa (p:=0) (cs:=vC v) rfl rfl rfl rfl ?_;refine zat (b:=true) rfl (fun _ => zby v v) (fun _ => hsame v (by omega)) ?_;refine mS ?_;(iterate 2 refine mS ?_);refine mS ?_;refine mS ?_
    cases rb with
    | false =>
     have he:rv = v2:=hRn rfl;subst rv;(iterate 2 refine mS ?_);refine zaa (p:=7) (cs:=vC v2) rfl rfl rfl rfl ?_;refine zaa (p:=6) (cs:=vC v2) rfl rfl rfl rfl ?_;refine zat (b:=true) rfl (fun _ => zby v2 v2) (fun _ => hsame v2 (by omega)) ?_;refine mS ?_;(iterate 2 refine mS ?_);refine mK ?_
     exact ⟨⟨rfl,rfl,rfl,rfl,rfl,rfl,rfl,rfl,rfl,rfl,trivial⟩,rest,rfl⟩
    | true =>
     (iterate 2 refine mS ?_);refine mZ ?_;(iterate 2 refine mS ?_);refine mK ?_
     exact ⟨⟨rfl,rfl,rfl,rfl,rfl,rfl,rfl,rfl,rfl,rfl,trivial⟩,rest,rfl⟩
   | true =>
    (iterate 2 refine mS ?_);refine mZ ?_;(iterate 2 refine mS ?_);refine mS ?_;refine mS ?_
    cases rb with
    | false =>
     have he:rv = v2:=hRn rfl;subst rv;(iterate 2 refine mS ?_);refine zaa (p:=7) (cs:=vC v2) rfl rfl rfl rfl ?_;refine zaa (p:=6) (cs:=vC v2) rfl rfl rfl rfl ?_;refine zat (b:=true) rfl (fun _ => zby v2 v2) (fun _ => hsame v2 (by omega)) ?_;refine mS ?_;(iterate 2 refine mS ?_);refine mK ?_
     exact ⟨⟨rfl,rfl,rfl,rfl,rfl,rfl,rfl,rfl,rfl,rfl,trivial⟩,rest,rfl⟩
    | true =>
     (iterate 2 refine mS ?_);refine mZ ?_;(iterate 2 refine mS ?_);refine mK ?_;exact ⟨⟨rfl,rfl,rfl,rfl,rfl,rfl,rfl,rfl,rfl,rfl,trivial⟩,rest,rfl⟩
 rintro tm bx nt live ⟨ht,rest,hbx⟩;obtain ⟨tm1,rfl⟩:=zah ht;simp only at hbx; subst hbx
 clear ht;refine zav (FpU st v x (pv,pb) (qv,qb) (rv,rb) v2) ?_ ?_
 ·refine mP ?_
  cases pb with
  | false =>
   refine mwF ?_;refine zau ?_
   exact ⟨⟨rfl,rfl,rfl,rfl,rfl,rfl,rfl,rfl,rfl,rfl,trivial⟩,rest,rfl⟩
  | true =>
   refine mwT ?_;obtain ⟨hso,hok,hat,_⟩:=hPf rfl;have hAt:=atT_fn (T:=TS) (hT:=TS.low) (fun w h => h) pv st hPw (by omega) (by omega) (fun s hs => by have:=hs2000 s hs; omega);rw [show atO pv st = some x from by unfold atO; rw [if_pos hso]; exact hat] at hAt;have hvk:=zcZ (T:=TS) (hT:=TS.low) hTab pv hPw (by omega);rw [hok] at hvk;refine mO ?_;refine zaa (p:=2) (cs:=vC pv) rfl rfl rfl rfl ?_;refine mS ?_;refine zac (zce pv st) hAt ?_;(iterate 3 refine mS ?_);refine zbb (cs:=vC x) rfl rfl rfl rfl ?_;refine mN ?_;obtain ⟨bb,hbb⟩:∃ bb,bb = vC v :: vC x :: vC pv :: vC pv :: vC qv :: vC qv :: vC v2 :: vC rv :: rest:=⟨_,rfl⟩;have hlast:(bb ++ [vC x])[bb.length]? = some (vC x):=za0 _ _;have h1:(bb ++ [vC x])[1]? = some (vC x):=by rw [hbb]; rfl
   have h2:(bb ++ [vC x])[2]? = some (vC pv):=by rw [hbb]; rfl
   have hall:bb ++ [vC x] = vC v :: vC x :: vC pv :: vC pv :: vC qv :: vC qv :: vC v2 :: vC rv :: (rest ++ [vC x]):=by rw [hbb]; rfl
   rw [<- hbb];refine mO ?_;(iterate 3 refine mS ?_);refine zaa (p:=bb.length) (cs:=vC x) rfl rfl hlast rfl ?_;refine zaa (p:=1) (cs:=vC x) rfl rfl h1 rfl ?_;refine zat (b:=true) rfl (fun _ => zby x x) (fun _ => hsame x (by omega)) ?_;(iterate 3 refine mS ?_);refine zaa (p:=2) (cs:=vC pv) rfl rfl h2 rfl ?_;refine zat (b:=true) rfl (fun _ => zaI pv) (fun _ => hvk) ?_;refine mK ?_;exact ⟨⟨rfl,rfl,rfl,rfl,rfl,rfl,rfl,rfl,rfl,rfl,trivial⟩,rest ++ [vC x],hall⟩
 rintro tm bx nt live ⟨ht,rest,hbx⟩;obtain ⟨tm1,rfl⟩:=zah ht;simp only at hbx; subst hbx
 clear ht;refine zav (FpU st v x (pv,pb) (qv,qb) (rv,rb) v2) ?_ ?_
 ·refine mO ?_
  (iterate 2 refine mS ?_)
  cases rb with
  | false =>
   refine mZ ?_;refine mK ?_
   exact ⟨⟨rfl,rfl,rfl,rfl,rfl,rfl,rfl,rfl,rfl,rfl,trivial⟩,rest,rfl⟩
  | true =>
   obtain ⟨hok,hnd⟩:=hRl rfl;have hvk:=zcZ (T:=TS) (hT:=TS.low) hTab rv hRw (by omega);rw [hok] at hvk;have hn2:=v2.nodes_bulkN;refine zaa (p:=7) (cs:=vC rv) rfl rfl rfl rfl ?_;refine zat (b:=true) rfl (fun _ => zaI rv) (fun _ => hvk) ?_;(iterate 2 refine mS ?_);refine zaa (p:=7) (cs:=vC rv) rfl rfl rfl rfl ?_;refine zaa (p:=6) (cs:=vC v2) rfl rfl rfl rfl ?_;refine zat (b:=true) rfl (fun _ => zaI rv) (fun _ => zf2 (T:=TS) (hT:=TS.low) rv (by omega)) ?_;refine zat (b:=true) rfl (fun _ => zaI v2) (fun _ => zf2 (T:=TS) (hT:=TS.low) v2 (by omega)) ?_;refine zal rfl rfl (decide_eq_false (by omega)) ?_;refine mK ?_;exact ⟨⟨rfl,rfl,rfl,rfl,rfl,rfl,rfl,rfl,rfl,rfl,trivial⟩,rest,rfl⟩
 rintro tm bx nt live ⟨ht,rest,hbx⟩;obtain ⟨tm1,rfl⟩:=zah ht;simp only at hbx; subst hbx
 clear ht;refine mM ?_;(iterate 3 refine mS ?_)
 cases qb with
 | false =>
  refine mZ ?_;refine mT ?_;refine mP ?_
  exact zab ⟨.inr rfl,[.d (pB true)],rfl,rfl⟩
 | true =>
 refine mS ?_;refine zaA (n:=st.length) rfl rfl (zaM _) ?_;by_cases hst0:st = []
 ·refine zaf rfl rfl (beq_iff_eq.2 (by rw [hst0]; rfl)) ?_
  refine mT ?_;refine mP ?_;exact zab ⟨.inr rfl,[.d (pB true)],rfl,rfl⟩
 have hlp:=length_pos_iff.2 hst0;refine zal rfl rfl (beq_eq_false_iff_ne.2 (by omega)) ?_;refine mK ?_;have hAp:=atS_fn (T:=TS) (hT:=TS.low) v (st.take (st.length - 1)) hgv.wf (by omega) (by rw [length_take]; omega) (fun s hs => by have:=hs2000 s (mem_of_mem_take hs); omega);rw [atR_eq] at hAp
 have hback:((atI v (st.take (st.length - 1))).getD z0V).kind = 7 -> remJ qv st = (v,true):=fun h7 => by
  cases ha:atI v (st.take (st.length - 1)) with
  | none => rw [ha] at h7; exact absurd h7 (by decide)
  | some y => rw [ha] at h7; exact hQl hst0 rfl ⟨y,ha,h7⟩
 generalize (atI v (st.take (st.length - 1))).getD z0V = py at hAp hback;generalize (atI v (st.take (st.length - 1))).isSome = pk at hAp;obtain ⟨bb,hbb⟩:∃ bb,bb = vC v :: vC x :: vC pv :: vC pv :: vC qv :: vC qv :: vC v2 :: vC rv :: rest:=⟨_,rfl⟩;have h0:bb[0]? = some (vC v):=by rw [hbb]; rfl
 have h4:bb[4]? = some (vC qv):=by rw [hbb]; rfl
 have h4l:4 < bb.length:=by rw [hbb]; simp only [length_cons]; omega
 rw [<- hbb];clear hbb;refine zav (FpV st (qv,true) bb py) ?_ ?_
 ·refine zev (show pt _ (FpV st (qv,true) bb py) _ _ from ?_)
  refine zbf ?_;refine zaa (p:=0) (cs:=vC v) rfl rfl h0 rfl ?_;(iterate 2 refine mS ?_);refine zaA (n:=st.length) rfl rfl (zaM _) ?_;refine zbu (n:=((st.length - 1:Nat):Int)) rfl rfl rfl (by omega) (by omega) ?_;refine zbQ (l:=0) (h:=st.length - 1) (es:=pSr st) (rs:=pSr (st.take (st.length - 1))) rfl rfl rfl rfl ⟨Nat.zero_le _,by rw [zaM]; omega⟩ (zbp _) (lt_arg st) ?_;refine zae ?_;refine zbr ?_;refine zbH ?_ ?_
  ·refine zac (zce v (st.take (st.length - 1))) hAp ?_
   repeat' (first
    | exact zbq
    | refine zbH ?_ ?_
    | refine zae ?_
    | refine zbr ?_
    | (refine zcQ ?_; exact ⟨⟨rfl,rfl,rfl,rfl,trivial⟩,rfl⟩)
    | refine zbf ?_
    | refine za2 ?_
    | refine zag (p:=bb.length) (cs:=vC py) (z:=z6) rfl rfl (za0 _ _) rfl rfl rfl ?_
    | refine po_s rfl rfl rfl ?_)
  ·refine zbH ?_ ?_
   ·refine za2 ?_
    refine zae ?_;refine zbf ?_;refine zae ?_;refine zbr ?_;refine zbH ?_ ?_
    ·refine zac (zce v (st.take (st.length - 1))) hAp ?_
     repeat' (first
      | exact zbq
      | refine zbH ?_ ?_
      | refine zae ?_
      | refine zbr ?_
      | (refine zcQ ?_; exact ⟨⟨rfl,rfl,rfl,rfl,trivial⟩,rfl⟩)
      | refine zbf ?_
      | refine zag (p:=bb.length) (cs:=vC py) (z:=z6) rfl rfl (za0 _ _) rfl rfl rfl ?_
      | refine po_s rfl rfl rfl ?_)
    ·exact zbq
   ·exact zbq
 rintro tm bx nt live ⟨ht,hbx⟩;obtain ⟨tm2,rfl⟩:=zah ht;simp only at hbx;clear ht;have g0:bx[0]? = some (vC v):=by rw [hbx,getElem?_set_ne (by omega),getElem?_append_left (by omega)]; exact h0
 have g4:bx[4]? = some (vC qv):=by rw [hbx,getElem?_set_ne (by omega),getElem?_append_left (by omega)]; exact h4
 have gy:bx[bb.length]? = some (vC py):=by rw [hbx,getElem?_set_self (by simp)]
 have glen:bb.length < bx.length:=by rw [hbx,length_set]; simp
 clear hbx;generalize bb.length = pz at *;generalize remJ qv st = pr at hRQ1 hback;refine mO ?_;refine zaa (p:=4) (cs:=vC qv) rfl rfl g4 rfl ?_;refine mS ?_;refine zac (zce qv st) hRQ1 ?_;(iterate 3 refine mS ?_);refine zbb (cs:=vC pr.1) rfl rfl rfl rfl ?_;refine mN ?_;have f0:(bx ++ [vC pr.1])[0]? = some (vC v):=by rw [getElem?_append_left (by omega)]; exact g0
 have fy:(bx ++ [vC pr.1])[pz]? = some (vC py):=by rw [getElem?_append_left (by omega)]; exact gy
 have fr:(bx ++ [vC pr.1])[bx.length]? = some (vC pr.1):=za0 _ _;refine mQ ?_;refine zaZ (p:=pz) (o:=0) (cs:=vC py) (v:=.d (pI py.kind)) rfl rfl fy (Nat.le_of_ble_eq_true rfl) rfl ?_;by_cases h7:py.kind = 7
 ·have hpr:=hback h7
  subst hpr;refine zal rfl rfl (bne_eq_false_iff_eq.2 h7) ?_;(iterate 3 refine mS ?_);refine zaa (p:=bx.length) (cs:=vC v) rfl rfl fr rfl ?_;refine zaa (p:=0) (cs:=vC v) rfl rfl f0 rfl ?_;refine zat (b:=true) rfl (fun _ => zby v v) (fun _ => hsame v (by omega)) ?_;refine mN ?_;exact zab ⟨.inr rfl,[.d (pB true)],rfl,rfl⟩
 ·refine zaf rfl rfl (bne_iff_ne.2 h7) ?_
  refine mS ?_;refine mZ ?_;refine mN ?_;exact zab ⟨.inr rfl,[.d (pB true)],rfl,rfl⟩
theorem fnPutW (b:L8) (v:Value) (w:World) (hn:ngl <= w.heap.size) (hS:TS w) (h:Rd w (dBy b) [v] /\ b.length <= maxLen):Calls Tryz.prog 3 #[v] w fun e w' => e = .returned (.bool true) /\ Below w.heap.size w w' :=
 fnLaw (fnPut_fn b h.2) hn hS h.1
end
section
theorem laid_of {H:Type} {enc:TypeId × Value -> H} {C:Checked} {os:Os} {f:FuncId} {fn:Func} {s:ChangeSpec} {conds:List PathCond} {fresh handsOn again apart:Bool} (L:List (String × DataW Unit))
  (own:ownKnob C.prog.godebug = none) (started:os.Started) (noInit:C.prog.inits.idxOf? f = none) (hfn:C.prog.funcs[f]? = some fn)
  (wit:∃ (w:World) (tape:Tape) (i:Input),w.os = os /\ (w.forCall tape i).Shaped C.prog /\ i.vars = [] /\ Input.okWide C.prog (w.forCall tape i) .any w.heap.size f i /\
   ((s.pre enc C.prog fn conds apart (w.forCall tape i).memory i.args /\ laidMetH C.prog L (w.forCall tape i).memory) /\ sizedMet enc C.prog fn (OpenSpec.ofChange s) apart (w.forCall tape i).memory i.args) /\ ({}:Assume).holds C.prog (lone (Frame.enter C.prog f i.args .normal) [] (w.forCall tape i)))
  (walk:∀ (W:World) (base:Nat) (args:Array Value) (ds gs:List (DataW H)) (before:List MemPlace),W.ShapedOpen C.prog -> laidMetH C.prog L W ->
   (∀ (j:Nat) t v,fn.params[j]? = some t -> args[j]? = some v -> Value.okWide C.prog W .any base t v) ->
   DataW.Whole enc C.prog fn.params.toList s.vars apart W args.toList ds gs before ->
   conds.all (PathCond.test C.prog ⟨fn.params.toList,ds,s.plain.varTypes C.prog,gs⟩) = true ->
   Calls C.prog f args W fun e W' => ∃ v,e = .returned v /\ s.post enc C.prog fn apart fresh handsOn again W args v W') :
  ReturnsInHanded {} C os f .any (fun w args => (s.pre enc C.prog fn conds apart w args /\ laidMetH C.prog L w) /\ sizedMet enc C.prog fn (OpenSpec.ofChange s) apart w args) (s.post enc C.prog fn apart fresh handsOn again):=by
 refine returnsInHanded_of_calls own started noInit wit fun w tape i _ shaped _ ok pre _ => ?_
 rcases ok with ⟨_,_,_,fn2,h2,_,_,_,_,vals⟩
 cases Option.some.inj (h2.symm.trans hfn)
 rcases pre with ⟨⟨⟨ds,gs,before,whole,cond⟩,met⟩,_⟩
 have met2:laidMetH C.prog L (w.forCall tape i):=laidMetH.of_heap (by rfl) met;refine (walk _ w.heap.size i.args ds gs before shaped met2 vals (DataW.Whole.of_heap (by rfl) whole) cond).mono ?_;rintro e w2 ⟨v,rfl,hp⟩;exact ChangeSpec.post_blind hp
end
section
open Go.RowKit Go.Lib Go.Shelf
theorem first_data:Go.Pinned.utf8First = firstData:=by kernel_rfl
theorem zgF:(Rows.laid_unicode_utf8_acceptRanges:DataW Unit) = acceptData:=by kernel_rfl
theorem tabs_of {w : World} (h3 : VarReads Tryz.prog w "unicode/utf8.first" Go.Pinned.utf8First) (h4 : VarReads Tryz.prog w "unicode/utf8.acceptRanges" Rows.laid_unicode_utf8_acceptRanges) : Tabs w := by
 rw [first_data] at h3; rw [zgF] at h4
 exact utf8Tabs_of_readsT (U8Types.of196 Tryz.laysValid) ⟨by kernel_rfl,by kernel_rfl,by kernel_rfl,by kernel_rfl,by kernel_rfl,by kernel_rfl,by kernel_rfl⟩ h3 h4
end
section
open Go.RowKit Go.Lib Go.Shelf
theorem ten_data:(Rows.laid_internal_strconv_uint64pow10:DataW Unit) = tabData .u64 pow10Tab:=by kernel_rfl
theorem tenTab_of {w : World} (h : VarReads Tryz.prog w "internal/strconv.uint64pow10" Rows.laid_internal_strconv_uint64pow10) : TenTab w := by
 rw [ten_data] at h;obtain ⟨g',t',cs,fuel,p,hg',ht',hvar,hd⟩:=h
 obtain rfl:=Option.some.inj (tenG.symm.trans hg')
 obtain rfl:=Option.some.inj ((show (Tryz.prog.globals[4]?).map (·.type) = some 137 by kernel_rfl).symm.trans ht')
 unfold TenTab TabIs;rw [hvar,<- cells_of_tab Tryz.underlying137 Tryz.underlying106 (by kernel_rfl) (by kernel_rfl) hd]
end
section
open Go.RowKit Go.Lib Go.Shelf
theorem err_of {w:World} {nm n2:String} {g:Nat} {d:DataW Unit} (h:VarReads Tryz.prog w nm (.iface n2 d)) (hg:Tryz.prog.globalNamed nm = some g) (ht:(Tryz.prog.globals[g]?).map (·.type) = some 103):∃ tp p,w.var? Tryz.prog nm = some #[.iface tp p]:=by
 obtain ⟨g',t',cs,fuel,p,hg',ht',hvar,hd⟩:=h
 obtain rfl:=Option.some.inj (hg.symm.trans hg')
 obtain rfl:=Option.some.inj (ht.symm.trans ht')
 obtain ⟨f1,u,v,e,_⟩:=iface_of_trod Tryz.underlying103 hd;refine ⟨u,v,?_⟩;rw [hvar,<- Array.toArray_toList (xs:=cs),e]
theorem errTab_of {w : World} (h1 : VarReads Tryz.prog w "strconv.ErrSyntax" Rows.laid_strconv_ErrSyntax) (h2 : VarReads Tryz.prog w "strconv.ErrRange" Rows.laid_strconv_ErrRange) : ErrTab w :=
 ⟨err_of h1 synG (by kernel_rfl),err_of h2 rngG (by kernel_rfl)⟩
end
end Go.Proofs.YtdnjinhlhohfiaaGreatDoor
