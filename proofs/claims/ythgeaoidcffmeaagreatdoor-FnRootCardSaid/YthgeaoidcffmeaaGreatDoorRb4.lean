/- Part 4 of a proof: PvH1M, MsgTop, PvH1, PvBl, BuildC, PvBld, ValueSame, ValueKids, Shelf, TextI, ValueNode, Region, Box, ValueIs, PvVokI, PvH2, PvH3, Head, Sum, CrcLaw, RootDef, RotM, RoiM, Bth, AtR, Rots, Chk, LawM, PvTop, Code, Law1, RolM -/
import Derived.Test.YthgeaoidcffmeaaGreatDoorRb3
import Derived.Shelf.Unicode.ValidAny
import Derived.Shelf.Small.Wraps
import Derived.Shelf.Strings.BuilderK
import Derived.Shelf.Slices.SearchI
namespace Go.Proofs.YthgeaoidcffmeaaGreatDoor
open Go.RowKit
set_option maxHeartbeats 4000000
set_option maxRecDepth 100000
open List
section
def m_i_PutMsg:M:=so [qo 1 (.box 0),⟨some 2,.mv (.c (.string ⟨[].toArray⟩)),none,[]⟩] (.seq (so [qL 4 5 1,qc 5 28 [4] 1,qo 6 (.not 5)] (.cond 6 (so [⟨some 2,.mv (.c (.string ⟨[].toArray⟩)),none,[]⟩] .ret) .skip)) (so [qo 3 (.zbld 72 5)] (so [qL 7 5 1,qc 8 44 [3,7] 1] (so [qc 9 45 [3] 1,qm 2 9] .ret))))
theorem zgl:look Tryz.prog 30 = some (10,m_i_PutMsg,[.tm 2]):=by kernel_rfl
def m_i_putMsg:M:=so [qo 3 (.box 1)] (.seq (so [qF 6 0 3,ql 7 1 6] (.block 0 (so [qo 9 (.bin .eql false 7 (ci 0)),qm 8 9] (.cond 8 (.ops [qm 10 0,qc 11 64 [10,.c (.int .u8 192)] 1]) (so [qo 13 (.bin .eql false 7 (ci 1)),qm 12 13] (.cond 12 (.ops [qm 14 0,qc 15 64 [14,.c (.int .u8 194)] 1]) (so [qo 17 (.bin .eql false 7 (ci 2)),qm 16 17] (.cond 16 (.ops [qm 18 0,qc 19 64 [18,.c (.int .u8 195)] 1]) (so [qo 21 (.bin .eql false 7 (ci 3)),qm 20 21] (.cond 20 (.ops [qm 22 0,qF 23 1 3,ql 24 1 23,qc 25 66 [24] 1,qc 26 65 [22,25] 1]) (so [qo 28 (.bin .eql false 7 (ci 5)),qm 27 28] (.cond 27 (.ops [qm 29 0,qF 30 3 3,ql 31 1 30,qo 32 (.lens 31),qF 34 3 3,ql 35 1 34,⟨some 33,.call 67 [32,ci 160,ci 32,ci 217,ci 218],none,[.f 0,34]⟩,qo 36 (.bin .add false 33 35),qc 37 65 [29,36] 0]) (so [qo 39 (.bin .eql false 7 (ci 6)),qm 38 39] (.cond 38 (.ops [qm 40 0,qF 41 3 3,ql 42 1 41,qo 43 (.lens 42),qF 45 3 3,ql 46 1 45,⟨some 44,.call 67 [43,ci 0,ci 0,ci 196,ci 197],none,[.f 0,45]⟩,qo 47 (.bin .add false 44 46),qc 48 65 [40,47] 0]) (so [qo 50 (.bin .eql false 7 (ci 7)),qm 49 50] (.cond 49 (.ops [qm 51 0,qF 52 4 3,ql 53 1 52,qo 54 (.len 53),qc 55 67 [54,ci 144,ci 16,ci 0,ci 220] 1,qc 56 65 [51,55] 1]) (so [qo 58 (.bin .eql false 7 (ci 8)),qm 57 58] (.cond 57 (.ops [qm 59 0,qF 60 4 3,ql 61 1 60,qo 62 (.len 61),qo 63 (.bin .quo false 62 (ci 2)),qc 64 67 [63,ci 128,ci 16,ci 0,ci 222] 1,qc 65 65 [59,64] 1]) (so [qo 67 (.bin .eql false 7 (ci 4)),qm 66 67] (.cond 66 (.tree (.node [qm 68 0,qF 71 2 3,ql 72 1 71,qF 75 1 3,ql 76 1 75] (.alt (qo 69 (.lit 1 [.c (.int .u8 199),.c (.int .u8 9),.c (.int .u8 4)])) (.node [qo 70 (.b2s 69)] (.alt ⟨some 73,.call 51 [72,ci 1],none,[.f 0,75]⟩ (.node [qo 74 (.bin .add false 70 73)] (.alt (qc 77 51 [76,ci 8] 0) (.node [qo 78 (.bin .add false 74 77)] (.alt (qc 79 65 [68,78] 0) (.node [] .leaf) .leaf)) .leaf)) .leaf)) (.alt ⟨some 73,.call 51 [72,ci 1],none,[.f 0,75]⟩ (.node [] (.alt (qo 69 (.lit 1 [.c (.int .u8 199),.c (.int .u8 9),.c (.int .u8 4)])) (.node [qo 70 (.b2s 69),qo 74 (.bin .add false 70 73)] (.alt (qc 77 51 [76,ci 8] 0) (.node [qo 78 (.bin .add false 74 77)] (.alt (qc 79 65 [68,78] 0) (.node [] .leaf) .leaf)) .leaf)) (.alt (qc 77 51 [76,ci 8] 0) (.node [] (.alt (qo 69 (.lit 1 [.c (.int .u8 199),.c (.int .u8 9),.c (.int .u8 4)])) (.node [qo 70 (.b2s 69),qo 74 (.bin .add false 70 73),qo 78 (.bin .add false 74 77)] (.alt (qc 79 65 [68,78] 0) (.node [] .leaf) .leaf)) .leaf)) .leaf))) .leaf)))) (so [qo 81 (.bin .eql false 7 (ci 9)),qm 80 81] (.cond 80 (.tree (.node [qm 82 0,qF 85 1 3,ql 86 1 85] (.alt (qo 83 (.lit 1 [.c (.int .u8 199),.c (.int .u8 4),.c (.int .u8 6)])) (.node [qo 84 (.b2s 83)] (.alt (qc 87 51 [86,ci 4] 0) (.node [qo 88 (.bin .add false 84 87)] (.alt (qc 89 65 [82,88] 0) (.node [] .leaf) .leaf)) .leaf)) (.alt (qc 87 51 [86,ci 4] 0) (.node [] (.alt (qo 83 (.lit 1 [.c (.int .u8 199),.c (.int .u8 4),.c (.int .u8 6)])) (.node [qo 84 (.b2s 83),qo 88 (.bin .add false 84 87)] (.alt (qc 89 65 [82,88] 0) (.node [] .leaf) .leaf)) .leaf)) .leaf)))) .skip)))))))))))))))))))))) (so [qF 90 4 3,ql 91 1 90,qo 92 (.len 91),qo 93 (.mv (ci 0))] (.block 1 (.loop (so [qo 94 (.bin .lss false 93 92)] (.seq (.cond 94 .skip (.exit 1)) (.seq (.block 2 (so [qo 95 (.ix 5 91 93),qL 96 5 95,⟨some 5,.zero [.int .i64 0,.int .i64 0,.int .i64 0,.string ⟨[].toArray⟩,.slice none 0 0],none,[]⟩,qS 5 5 96] (.ops [qm 97 0,qL 98 5 5,qc 99 44 [97,98] 1]))) (.ops [qo 100 (.bin .add false 93 (ci 1)),qm 93 100]))))))))
theorem zgm:look Tryz.prog 44 = some (101,m_i_putMsg,[]):=by kernel_rfl
def m_i_putNumber:M:=so [⟨some 2,.mv (.c (.string ⟨[].toArray⟩)),none,[]⟩] (.seq (so [qm 5 0,qc 6 19 [5,ci (-32),ci 127] 1] (.cond 6 (so [qm 7 0,qc 8 51 [7,ci 1] 1,qm 2 8] .ret) .skip)) (.seq (so [qo 9 (.lit 1 [ci 1,ci 2,ci 4,ci 8]),qo 10 (.len 9),qo 11 (.mv (ci 0))] (.block 0 (.loop (so [qo 12 (.bin .lss false 11 10)] (.seq (.cond 12 .skip (.exit 0)) (.seq (.block 1 (so [qm 13 11,qo 14 (.ix 1 9 11),ql 15 1 14,qm 3 13,qm 4 15] (.block 2 (so [qm 17 0,qo 18 (.bin .geq false 17 (ci 0)),qm 19 18,qg 20 4 19 true,⟨some 21,.bin .eql false 20 (ci 8),some (19,true),[]⟩,qg 22 21 19 true,qg 23 0 22 false,qg 24 4 22 false,⟨some 25,.bin .mul false (ci 8) 24,some (22,false),[]⟩,⟨some 26,.bin .shl false (ci 1) 25,some (22,false),[]⟩,⟨some 27,.bin .lss false 23 26,some (22,false),[]⟩,⟨some 28,.pick 22 (cB true) 27,some (19,true),[]⟩,qo 29 (.pick 19 28 (cB false)),qm 16 29] (.cond 16 (.seq (.tree (.node [qm 30 3,qo 31 (.bin .add false (ci 204) 30),qo 32 (.conv .u8 31),qm 35 0,qm 36 4] (.alt (qo 33 (.lit 1 [32])) (.node [qo 34 (.b2s 33)] (.alt (qc 37 51 [35,36] 0) (.node [qo 38 (.bin .add false 34 37),qm 2 38] .leaf) .leaf)) (.alt (qc 37 51 [35,36] 0) (.node [] (.alt (qo 33 (.lit 1 [32])) (.node [qo 34 (.b2s 33),qo 38 (.bin .add false 34 37),qm 2 38] .leaf) .leaf)) .leaf)))) .ret) (so [qm 40 0,qo 41 (.bin .lss false 40 (ci 0)),qm 42 41,qg 43 0 42 true,qg 44 4 42 true,⟨some 45,.call 85 [43,44],some (42,true),[.f 1]⟩,qg 46 0 42 true,⟨some 47,.bin .eql false 45 46,some (42,true),[]⟩,qo 48 (.pick 42 47 (cB false)),qm 39 48] (.cond 39 (.seq (.tree (.node [qm 49 3,qo 50 (.bin .add false (ci 208) 49),qo 51 (.conv .u8 50),qm 54 0,qm 55 4] (.alt (qo 52 (.lit 1 [51])) (.node [qo 53 (.b2s 52)] (.alt (qc 56 51 [54,55] 0) (.node [qo 57 (.bin .add false 53 56),qm 2 57] .leaf) .leaf)) (.alt (qc 56 51 [54,55] 0) (.node [] (.alt (qo 52 (.lit 1 [51])) (.node [qo 53 (.b2s 52),qo 57 (.bin .add false 53 56),qm 2 57] .leaf) .leaf)) .leaf)))) .ret) .skip))))))) (.ops [qo 58 (.bin .add false 11 (ci 1)),qm 11 58]))))))) (so [⟨some 2,.mv (.c (.string ⟨[].toArray⟩)),none,[]⟩] .ret)))
theorem zed:look Tryz.prog 66 = some (59,m_i_putNumber,[.tm 2]):=by kernel_rfl
def m_i_putLength:M:=so [⟨some 10,.mv (.c (.string ⟨[].toArray⟩)),none,[]⟩] (.seq (.block 0 (so [qm 12 0,qm 13 2,qo 14 (.bin .lss false 12 13),qm 11 14] (.cond 11 (so [qm 15 1,qm 16 0,qo 17 (.bin .add false 15 16),qo 18 (.conv .u8 17),qo 19 (.lit 1 [18]),qo 20 (.b2s 19),qm 10 20] .ret) (so [qm 22 0,qo 23 (.bin .lss false 22 (ci 256)),qm 24 23,qg 25 3 24 true,⟨some 26,.bin .gtr false 25 (ci 0),some (24,true),[]⟩,qo 27 (.pick 24 26 (cB false)),qm 21 27] (.cond 21 (.seq (.tree (.node [qm 28 3,qo 29 (.conv .u8 28),qm 32 0] (.alt (qo 30 (.lit 1 [29])) (.node [qo 31 (.b2s 30)] (.alt (qc 33 51 [32,ci 1] 0) (.node [qo 34 (.bin .add false 31 33),qm 10 34] .leaf) .leaf)) (.alt (qc 33 51 [32,ci 1] 0) (.node [] (.alt (qo 30 (.lit 1 [29])) (.node [qo 31 (.b2s 30),qo 34 (.bin .add false 31 33),qm 10 34] .leaf) .leaf)) .leaf)))) .ret) .skip))))) (.seq (.tree (.node [qm 35 4,qo 36 (.conv .u8 35),qm 39 0] (.alt (qo 37 (.lit 1 [36])) (.node [qo 38 (.b2s 37)] (.alt (qc 40 51 [39,ci 2] 0) (.node [qo 41 (.bin .add false 38 40),qm 10 41] .leaf) .leaf)) (.alt (qc 40 51 [39,ci 2] 0) (.node [] (.alt (qo 37 (.lit 1 [36])) (.node [qo 38 (.b2s 37),qo 41 (.bin .add false 38 40),qm 10 41] .leaf) .leaf)) .leaf)))) .ret))
theorem zee:look Tryz.prog 67 = some (42,m_i_putLength,[.tm 10]):=by kernel_rfl
def m_i_SignOf:M:=so [qo 4 (.mv (ci 0))] (.seq (so [qm 6 1,qc 7 19 [6,ci 1,ci 8] 1,qo 8 (.not 7)] (.cond 8 (so [qm 9 0,qm 4 9] .ret) .skip)) (so [qm 10 1,qo 11 (.bin .mul false (ci 8) 10),qo 12 (.bin .sub false (ci 64) 11),qm 5 12] (so [qm 13 0,qm 14 5,qo 15 (.bin .shl false 13 14),qm 16 5,qo 17 (.bin .shr false 15 16),qm 4 17] .ret)))
theorem zgn:look Tryz.prog 85 = some (18,m_i_SignOf,[.tm 4]):=by kernel_rfl
end
section
inductive MsgTop:V -> Nat -> List UInt8 -> Prop where
 | pos (n:Nat) (h:n < 128):MsgTop (.mk 3 n 0 [] []) n []
 | neg (n:Nat) (h:224 <= n /\ n < 256):MsgTop (.mk 3 ((n:Int) - 256) 0 [] []) n []
 | map (n:Nat) (h:n < 16) (kids:List V) (hl:kids.length = 2 * n):MsgTop (.mk 8 0 0 [] kids) (128 + n) (msgs kids)
 | list (kids:List V) (h:kids.length < 16):MsgTop (.mk 7 0 0 [] kids) (144 + kids.length) (msgs kids)
 | text (s:List UInt8) (h:s.length < 32):MsgTop (.mk 5 0 0 s []) (160 + s.length) s
 | nul:MsgTop (.mk 0 0 0 [] []) 192 []
 | fls:MsgTop (.mk 1 0 0 [] []) 194 []
 | tru:MsgTop (.mk 2 0 0 [] []) 195 []
 | uint (j:Nat) (hj:j < 4) (n:Nat) (h:n < 256 ^ (2 ^ j) /\ n < 9223372036854775808):MsgTop (.mk 3 n 0 [] []) (204 + j) (be (2 ^ j) n)
 | sint (j:Nat) (hj:j < 4) (n:Int) (h:n < 0 /\ -(2 ^ (8 * 2 ^ j - 1):Nat) <= n):MsgTop (.mk 3 n 0 [] []) (208 + j) (be (2 ^ j) (lo64 n))
 | dec (n e:Int) (h:-20 <= e /\ e <= 20) (hn:-999999999999999999 <= n /\ n <= 999999999999999999):MsgTop (.mk 4 n e [] []) 199 ([9,4] ++ be 1 (lo64 e) ++ be 8 (lo64 n))
 | tag (n:Nat) (h:n <= 1000000) (kid:V):MsgTop (.mk 9 n 0 [] [kid]) 199 ([4,6] ++ be 4 n ++ msg kid)
 | text1 (s:List UInt8) (h:32 <= s.length /\ s.length < 256):MsgTop (.mk 5 0 0 s []) 217 (be 1 s.length ++ s)
 | text2 (s:List UInt8) (h:256 <= s.length /\ s.length <= 2000):MsgTop (.mk 5 0 0 s []) 218 (be 2 s.length ++ s)
 | bytes1 (s:List UInt8) (h:s.length < 256):MsgTop (.mk 6 0 0 s []) 196 (be 1 s.length ++ s)
 | bytes2 (s:List UInt8) (h:256 <= s.length /\ s.length <= 2000):MsgTop (.mk 6 0 0 s []) 197 (be 2 s.length ++ s)
 | list2 (kids:List V) (h:16 <= kids.length /\ kids.length <= 600):MsgTop (.mk 7 0 0 [] kids) 220 (be 2 kids.length ++ msgs kids)
 | map2 (n:Nat) (h:16 <= n /\ n <= 300) (kids:List V) (hl:kids.length = 2 * n):MsgTop (.mk 8 0 0 [] kids) 222 (be 2 n ++ msgs kids)
theorem inR_iff {n a b:Int}:inR n a b = true ↔ a <= n /\ n <= b:=by simp [inR]
theorem be1 (n:Nat):be 1 n = [byteOf n]:=rfl
theorem msg_top {d:Int} {v:V} (h:v.rightBy pairsOk d = true) (hk:v.kids.length <= 300) (hnum:i64ok v.num):∃ b t,MsgTop v b t /\ b < 256 /\ msg v = byteOf b :: t:=by
 obtain ⟨k,n,e,s,kids⟩:=v;simp only [V.kids] at hk;simp only [V.num,i64ok] at hnum;simp only [V.rightBy,Bool.and_eq_true] at h;have hs:=h.2.2;clear h;rw [zdR];unfold msgHd;simp only [V.kind,V.num,V.exp,V.text,V.kids];simp only [V.selfBy] at hs;by_cases k0:k = 0
 ·subst k0; simp at hs; obtain ⟨rfl,rfl,rfl,rfl⟩:=hs
  exact ⟨192,[],.nul,by decide,rfl⟩
 by_cases k1:k = 1
 ·subst k1; simp at hs; obtain ⟨rfl,rfl,rfl,rfl⟩:=hs
  exact ⟨194,[],.fls,by decide,rfl⟩
 by_cases k2:k = 2
 ·subst k2; simp at hs; obtain ⟨rfl,rfl,rfl,rfl⟩:=hs
  exact ⟨195,[],.tru,by decide,rfl⟩
 rw [if_neg (show ¬ (k = 0 \/ k = 1 \/ k = 2) by omega)] at hs;simp only [k0,k1,k2,if_false];by_cases k3:k = 3
 ·subst k3; simp at hs; obtain ⟨rfl,rfl,rfl⟩:=hs
  simp only [if_true,msgs,append_nil];unfold msgInt;by_cases c0:-32 <= n /\ n <= 127
  ·rw [if_pos c0,be1]
   by_cases hp:0 <= n
   ·obtain ⟨m,rfl⟩:=Int.eq_ofNat_of_zero_le hp
    rw [zbs _ (by omega)];exact ⟨m,[],.pos m (by omega),by omega,rfl⟩
   ·refine ⟨(n + 256).toNat,[],?_,by omega,?_⟩
    ·have:=MsgTop.neg (n + 256).toNat (by omega)
     rw [show (((n + 256).toNat:Nat):Int) - 256 = n by omega] at this; exact this
    ·congr 1; apply UInt8.toNat_inj.1; rw [za9,za9]; unfold lo64; omega
  rw [if_neg c0];by_cases hp:0 <= n
  ·obtain ⟨m,rfl⟩:=Int.eq_ofNat_of_zero_le hp
   rw [zbs _ (by omega)];by_cases c1:0 <= (m:Int) /\ (m:Int) <= 255
   ·rw [if_pos c1]; exact ⟨204,_,.uint 0 (by decide) m ⟨by simp; omega,by omega⟩,by decide,rfl⟩
   rw [if_neg c1];by_cases c2:0 <= (m:Int) /\ (m:Int) <= 65535
   ·rw [if_pos c2]; exact ⟨205,_,.uint 1 (by decide) m ⟨by simp; omega,by omega⟩,by decide,rfl⟩
   rw [if_neg c2];by_cases c3:0 <= (m:Int) /\ (m:Int) <= 4294967295
   ·rw [if_pos c3]; exact ⟨206,_,.uint 2 (by decide) m ⟨by simp; omega,by omega⟩,by decide,rfl⟩
   rw [if_neg c3,if_pos hp]; exact ⟨207,_,.uint 3 (by decide) m ⟨by simp; omega,by omega⟩,by decide,rfl⟩
  ·rw [if_neg (by omega),if_neg (by omega),if_neg (by omega),if_neg (by omega)]
   by_cases c1:n ≥ -128
   ·rw [if_pos c1]; exact ⟨208,_,.sint 0 (by decide) n ⟨by omega,by simp; omega⟩,by decide,rfl⟩
   rw [if_neg c1];by_cases c2:n ≥ -32768
   ·rw [if_pos c2]; exact ⟨209,_,.sint 1 (by decide) n ⟨by omega,by simp; omega⟩,by decide,rfl⟩
   rw [if_neg c2];by_cases c3:n ≥ -2147483648
   ·rw [if_pos c3]; exact ⟨210,_,.sint 2 (by decide) n ⟨by omega,by simp; omega⟩,by decide,rfl⟩
   rw [if_neg c3]; exact ⟨211,_,.sint 3 (by decide) n ⟨by omega,by simp; omega⟩,by decide,rfl⟩
 simp only [k3,if_false] at hs ⊢;by_cases k4:k = 4
 ·subst k4; simp [decOk] at hs; obtain ⟨⟨⟨h1,_,h2,_⟩,_⟩,rfl,rfl⟩:=hs
  have h1:=inR_iff.1 h1; have h2:=inR_iff.1 h2
  simp only [if_true,msgs,append_nil];exact ⟨199,_,.dec n e h1 h2,by decide,rfl⟩
 simp only [k4,if_false] at hs ⊢;by_cases k5:k = 5
 ·subst k5; simp at hs; obtain ⟨rfl,rfl,_,h2,rfl⟩:=hs
  simp only [if_true,msgs,append_nil];unfold msgMany;by_cases c0:(s.length:Int) < 32
  ·rw [if_pos c0,be1]
   refine ⟨160 + s.length,s,.text s (by omega),by omega,?_⟩;simp only [cons_append,nil_append,cons.injEq,and_true]
   congr 1; unfold lo64; omega
  rw [if_neg c0];by_cases c1:(s.length:Int) < 256 /\ (217:Int) > 0
  ·rw [if_pos c1,zbs _ (by omega)]; exact ⟨217,_,.text1 s (by omega),by decide,rfl⟩
  rw [if_neg c1,zbs _ (by omega)]; exact ⟨218,_,.text2 s (by omega),by decide,rfl⟩
 simp only [k5,if_false] at hs ⊢;by_cases k6:k = 6
 ·subst k6; simp at hs; obtain ⟨rfl,rfl,h2,rfl⟩:=hs
  simp only [if_true,msgs,append_nil];unfold msgMany;rw [if_neg (by omega)];by_cases c1:(s.length:Int) < 256 /\ (196:Int) > 0
  ·rw [if_pos c1,zbs _ (by omega)]; exact ⟨196,_,.bytes1 s (by omega),by decide,rfl⟩
  rw [if_neg c1,zbs _ (by omega)]; exact ⟨197,_,.bytes2 s (by omega),by decide,rfl⟩
 simp only [k6,if_false] at hs ⊢;by_cases k7:k = 7
 ·subst k7; simp at hs; obtain ⟨rfl,rfl,rfl⟩:=hs
  simp only [if_true];unfold msgMany;by_cases c0:(kids.length:Int) < 16
  ·rw [if_pos c0,be1]
   refine ⟨144 + kids.length,_,.list kids (by omega),by omega,?_⟩;simp only [cons_append,nil_append,cons.injEq,and_true]
   congr 1; unfold lo64; omega
  rw [if_neg c0,if_neg (by omega),zbs _ (by omega)]; exact ⟨220,_,.list2 kids (by omega),by decide,rfl⟩
 simp only [k7,if_false] at hs ⊢;by_cases k8:k = 8
 ·subst k8; simp at hs; obtain ⟨rfl,rfl,rfl,hp⟩:=hs
  simp only [pairsOk,Bool.and_eq_true,decide_eq_true_eq] at hp;obtain ⟨n,hn⟩:∃ n,kids.length = 2 * n:=⟨kids.length / 2,by omega⟩;simp only [if_true];rw [show kids.length / 2 = n by omega];unfold msgMany;by_cases c0:(n:Int) < 16
  ·rw [if_pos c0,be1]
   refine ⟨128 + n,_,.map n (by omega) kids hn,by omega,?_⟩;simp only [cons_append,nil_append,cons.injEq,and_true]
   congr 1; unfold lo64; omega
  rw [if_neg c0,if_neg (by omega),zbs _ (by omega)]; exact ⟨222,_,.map2 n (by omega) kids hn,by decide,rfl⟩
 simp only [k8,if_false] at hs ⊢;by_cases k9:k = 9
 ·subst k9; simp at hs; obtain ⟨h1,rfl,rfl,h2⟩:=hs
  have h1:=inR_iff.1 h1;obtain ⟨m,rfl⟩:=Int.eq_ofNat_of_zero_le h1.1
  match kids,h2 with
  | [kid],_ =>
   rw [zbs _ (by omega)];refine ⟨199,_,.tag m (by omega) kid,by decide,?_⟩;simp [msgs]; rfl
 ·rw [if_neg k9] at hs; cases hs
end
section
variable {T:World -> Prop} {hT:Low ngl T}
attribute [local irreducible] po mw pt
theorem pS_inv {C:Cx} {W:World} {l:L8} {y:Value} (h:RpV C W (.d (pS l)) y):y = .string ⟨l.toArray⟩:=by
 cases h with
 | d _ _ h => cases h; rfl
theorem zbR (n a b:Int):FnV (env T hT) 19 [.d (pI n),.d (pI a),.d (pI b)] (.d (pB (decide (a <= n /\ n <= b)))):=by
 refine FnV.old rfl fun w C vs hF _ _ hlen hv => ?_
 match vs,hlen with
 | [x,y,z],_ =>
  have h1:=zdS (hv 0 _ _ rfl rfl); have h2:=zdS (hv 1 _ _ rfl rfl); have h3:=zdS (hv 2 _ _ rfl rfl)
  subst h1; subst h2; subst h3
  refine (zbK n a b w).mono ?_;rintro e w' ⟨rfl,rfl⟩;refine ⟨?_,Below.refl _ _⟩;by_cases h:a <= n /\ n <= b
  ·rw [zaE h,decide_eq_true h]
  ·rw [zba h,decide_eq_false h]
theorem zeU (n k:Int) (hk:1 <= k /\ k <= 8) (hn:i64ok n):FnV (env T hT) 51 [.d (pI n),.d (pI k)] (.d (pS (be k.toNat (lo64 n)))):=by
 refine FnV.old rfl fun w C vs hF _ _ hlen hv => ?_
 match vs,hlen with
 | [x,y],_ =>
  have h1:=zdS (hv 0 _ _ rfl rfl); have h2:=zdS (hv 1 _ _ rfl rfl)
  subst h1; subst h2
  exact putWide_i n k w hk hn
theorem po_shl {E:Env} {K:St -> Prop} {tm:Nat -> PV} {bx:LP PC} {nt d:Nat} {live:List Nat} {r:List MOpr} {g:Option (Nat × Bool)} {c:List X} {x y:X} {a b n:Int} (hg:gd g tm = some true) (hx:ev tm x = .d (pI a)) (hy:ev tm y = .d (pI b)) (hb:0 <= b) (hn:IntKind.wrap .i64 (a * 2 ^ (min b.toNat 64)) = n) (h:po E r K ⟨up d (.d (pI n)) tm,bx,nt,live⟩):po E (⟨some d,.bin .shl false x y,g,c⟩ :: r) K ⟨tm,bx,nt,live⟩:=by
 refine po_q hg ?_ h;subst hn;simp only [qf,hx,hy,pI];show Option.map _ (if b < 0 then none else some (Value.int .i64 (IntKind.wrap .i64 (a * 2 ^ (min b.toNat 64))))) = _;rw [if_neg (by omega)]; rfl
theorem zbE (a:Int) (b:Int) (hb:0 < b):a.fdiv b = a / b:=Int.fdiv_eq_ediv_of_nonneg a (by omega)
theorem shsh (n:Int) (k:Nat) (hk:1 <= k /\ k <= 8) (hn:i64ok n):(IntKind.wrap .i64 (n * 2 ^ (min (64 - 8 * (k:Int)).toNat IntKind.i64.bits))).fdiv (2 ^ (min (64 - 8 * (k:Int)).toNat IntKind.i64.bits)) = sgw n k:=by
 have hb:IntKind.i64.bits = 64:=rfl;obtain ⟨hn1,hn2⟩:=hn;have hc:k = 1 \/ k = 2 \/ k = 3 \/ k = 4 \/ k = 5 \/ k = 6 \/ k = 7 \/ k = 8:=by omega
 rw [hb]
 rcases hc with rfl | rfl | rfl | rfl | rfl | rfl | rfl | rfl
 ·rw [show (2:Int) ^ (min (64 - 8 * ((1:Nat):Int)).toNat 64) = 72057594037927936 from rfl,zbE _ _ (by decide),IntKind.wrap_i64]
  unfold sgw;rw [if_pos (by decide),show ((256 ^ 1:Nat):Int) = 256 from rfl,show ((256 ^ 1 / 2:Nat):Int) = 128 from rfl]
  split <;> omega
 ·rw [show (2:Int) ^ (min (64 - 8 * ((2:Nat):Int)).toNat 64) = 281474976710656 from rfl,zbE _ _ (by decide),IntKind.wrap_i64]
  unfold sgw;rw [if_pos (by decide),show ((256 ^ 2:Nat):Int) = 65536 from rfl,show ((256 ^ 2 / 2:Nat):Int) = 32768 from rfl]
  split <;> omega
 ·rw [show (2:Int) ^ (min (64 - 8 * ((3:Nat):Int)).toNat 64) = 1099511627776 from rfl,zbE _ _ (by decide),IntKind.wrap_i64]
  unfold sgw;rw [if_pos (by decide),show ((256 ^ 3:Nat):Int) = 16777216 from rfl,show ((256 ^ 3 / 2:Nat):Int) = 8388608 from rfl]
  split <;> omega
 ·rw [show (2:Int) ^ (min (64 - 8 * ((4:Nat):Int)).toNat 64) = 4294967296 from rfl,zbE _ _ (by decide),IntKind.wrap_i64]
  unfold sgw;rw [if_pos (by decide),show ((256 ^ 4:Nat):Int) = 4294967296 from rfl,show ((256 ^ 4 / 2:Nat):Int) = 2147483648 from rfl]
  split <;> omega
 ·rw [show (2:Int) ^ (min (64 - 8 * ((5:Nat):Int)).toNat 64) = 16777216 from rfl,zbE _ _ (by decide),IntKind.wrap_i64]
  unfold sgw;rw [if_pos (by decide),show ((256 ^ 5:Nat):Int) = 1099511627776 from rfl,show ((256 ^ 5 / 2:Nat):Int) = 549755813888 from rfl]
  split <;> omega
 ·rw [show (2:Int) ^ (min (64 - 8 * ((6:Nat):Int)).toNat 64) = 65536 from rfl,zbE _ _ (by decide),IntKind.wrap_i64]
  unfold sgw;rw [if_pos (by decide),show ((256 ^ 6:Nat):Int) = 281474976710656 from rfl,show ((256 ^ 6 / 2:Nat):Int) = 140737488355328 from rfl]
  split <;> omega
 ·rw [show (2:Int) ^ (min (64 - 8 * ((7:Nat):Int)).toNat 64) = 256 from rfl,zbE _ _ (by decide),IntKind.wrap_i64]
  unfold sgw;rw [if_pos (by decide),show ((256 ^ 7:Nat):Int) = 72057594037927936 from rfl,show ((256 ^ 7 / 2:Nat):Int) = 36028797018963968 from rfl]
  split <;> omega
 ·rw [show (2:Int) ^ (min (64 - 8 * ((8:Nat):Int)).toNat 64) = 1 from rfl,zbE _ _ (by decide),IntKind.wrap_i64]
  unfold sgw;rw [if_neg (by decide)]; omega
theorem sgni_fn (n:Int) (k:Nat) (hk:1 <= k /\ k <= 8) (hn:i64ok n):FnV (env T hT) 85 [.d (pI n),.d (pI k)] (.d (pI (sgw n k))):=by
 refine zaQ (zaf zgn) (by show 2 <= 18; decide) fun B hB => ?_
 unfold m_i_SignOf;refine mP ?_;refine mM ?_;refine mN ?_;refine zab rfl (zbR k 1 8) ?_;rw [decide_eq_true (show (1:Int) <= k /\ (k:Int) <= 8 by omega)];refine mK ?_;refine mQ ?_;refine zdF (n:=8 * (k:Int)) rfl rfl rfl rfl (by omega) ?_;refine za2 (n:=64 - 8 * (k:Int)) rfl rfl rfl rfl (by omega) ?_;refine mN ?_;refine mO ?_;(iterate 2 refine mS ?_)
 refine po_q (v:=.d (pI (IntKind.wrap .i64 (n * 2 ^ (min (64 - 8 * (k:Int)).toNat IntKind.i64.bits))))) rfl (by
  show Option.map _ (if 64 - 8 * (k:Int) < 0 then none else some (Value.int .i64 (IntKind.wrap .i64 (n * 2 ^ (min (64 - 8 * (k:Int)).toNat IntKind.i64.bits))))) = _;rw [if_neg (by omega)]; rfl) ?_
 refine mS ?_
 refine po_q (v:=.d (pI (sgw n k))) rfl (by
  show Option.map _ (if 64 - 8 * (k:Int) < 0 then none else some (Value.int .i64 ((IntKind.wrap .i64 (n * 2 ^ (min (64 - 8 * (k:Int)).toNat IntKind.i64.bits))).fdiv (2 ^ (min (64 - 8 * (k:Int)).toNat IntKind.i64.bits))))) = _;rw [if_neg (by omega),shsh n k hk hn]; rfl) ?_
 refine mN ?_;exact mR
def pnP:Nat -> Int
 | 0 => 128 | 1 => 256 | 2 => 65536 | _ => 4294967296
def pnN:Nat -> Int
 | 0 => -32 | 1 => -128 | 2 => -32768 | _ => -2147483648
def PnI (n:Int) (m:Nat) (s:St):Prop:=∃ i:Nat,i <= 3 /\ m = 4 - i /\ (0 <= n -> pnP i <= n) /\ (n < 0 -> n < pnN i) /\ has s.tm [(0,.d (pI n)),(9,.d (.sl 2 [[pI 1],[pI 2],[pI 4],[pI 8]])),(10,.d (pI 4)),(11,.d (pI i))]
theorem putNum_fn (n:Int) (hn:i64ok n):FnV (env T hT) 66 [.d (pI n)] (.d (pS (msgInt n))):=by
 have hput:=fun (k:Int) (hk:1 <= k /\ k <= 8) => zeU (T:=T) (hT:=hT) n k hk hn
 have hsg:=fun (k:Nat) (hk:1 <= k /\ k <= 8) => sgni_fn (T:=T) (hT:=hT) n k hk hn
 obtain ⟨hn1,hn2⟩:=hn;refine zaQ (zaf zed) (by show 1 <= 59; decide) fun B hB => ?_
 unfold m_i_putNumber;refine mP ?_;refine mM ?_;refine mN ?_;refine zab rfl (zbR n (-32) 127) ?_;refine zaa ?_;refine zel (p:=-32 <= n /\ n <= 127) rfl (fun h => ?_) (fun h => ?_)
 ·refine mP ?_
  refine zab rfl (hput 1 (by omega)) ?_;refine mN ?_;exact zag ⟨.inr rfl,_,rfl,by unfold msgInt; rw [if_pos h]; rfl⟩
 refine zak ?_;refine mM ?_;refine zao (es:=[[pI 1],[pI 2],[pI 4],[pI 8]]) rfl ?_;refine zat (n:=4) rfl rfl rfl ?_;refine mN ?_;refine zad ?_;refine zaw (PnI n) 4 ⟨0,by omega,rfl,fun h => by simp only [pnP]; omega,fun h => by simp only [pnN]; omega,rfl,rfl,rfl,rfl,trivial⟩ ?_;rintro m tm bx nt live ⟨i,hi,rfl,hp,hq,ht⟩;obtain ⟨tm0,rfl⟩:=zae ht;clear ht;have hc:i = 0 \/ i = 1 \/ i = 2 \/ i = 3:=by omega
 rcases hc with rfl | rfl | rfl | rfl
 ·simp only [pnP,pnN] at hp hq
  refine mO ?_;refine zai rfl rfl rfl ?_;refine zaa ?_;refine zal ?_;refine mwT ?_;refine zak ?_;refine zal (zad (zal (zah ?_)));refine mS ?_;refine zaV (es:=[[pI 1],[pI 2],[pI 4],[pI 8]]) (e:=[pI 1]) rfl rfl rfl ⟨by decide,rfl⟩ rfl ?_;refine mN ?_;refine zad (zal (zah ?_));refine mS ?_;by_cases h0:0 <= n
  ·have hp:=hp h0
   refine zai rfl rfl (decide_eq_true (show n ≥ 0 from h0)) ?_;(iterate 2 refine mS ?_);refine zan rfl rfl rfl ?_;(iterate 3 refine mS ?_);refine zdF (n:=8) rfl rfl rfl rfl (by decide) ?_;refine po_shl (n:=256) rfl rfl rfl (by decide) (by decide) ?_;by_cases hf:n < 256
   ·refine zai rfl rfl (decide_eq_true hf) ?_
    (iterate 3 refine mS ?_);refine zaa ?_;refine mwT ?_
    have hres:msgInt n = [204] ++ be 1 (lo64 n):=by
     unfold msgInt
     repeat (first | rw [if_pos (by omega)] | rw [if_neg (by omega)])
    refine zal (zbk ?_);refine zaj ?_;refine mS ?_;refine zap (n:=204) rfl rfl rfl rfl (by decide) ?_;refine zbM (n:=204) rfl rfl (by decide) ?_;refine mS ?_;refine mL ?_;refine zar ?_;refine zas ?_ ?_
    ·refine zao (es:=[[.v (.int .u8 204)]]) rfl ?_
     refine zaa ?_;refine zaj ?_;refine mL ?_;refine zar ?_;refine zas ?_ zaq;refine zab rfl (hput 1 (by omega)) ?_;refine zaa ?_;refine zaj ?_;refine zav (la:=[204]) (lb:=be 1 (lo64 n)) rfl rfl rfl (by rw [zac]; simp) ?_;refine mL ?_;refine zaF ?_;refine zag ⟨.inr rfl,[.d (pS ([204] ++ be 1 (lo64 n)))],rfl,?_⟩;rw [hres]; rfl
    ·refine zas ?_ zaq
     refine zab rfl (hput 1 (by omega)) ?_;refine zaa ?_;refine zaj ?_;refine zaa ?_;refine zar ?_;refine zas ?_ zaq;refine zao (es:=[[.v (.int .u8 204)]]) rfl ?_;refine zaa ?_;refine zaj ?_;refine mS ?_;refine zav (la:=[204]) (lb:=be 1 (lo64 n)) rfl rfl rfl (by rw [zac]; simp) ?_;refine mL ?_;refine zaF ?_;refine zag ⟨.inr rfl,[.d (pS ([204] ++ be 1 (lo64 n)))],rfl,?_⟩;rw [hres]; rfl
   ·refine zan rfl rfl (decide_eq_false hf) ?_
    (iterate 3 refine mS ?_);refine zaa ?_;refine mwF ?_;refine mQ ?_;refine zan rfl rfl (decide_eq_false (show ¬ n < 0 by omega)) ?_;refine mS ?_;refine mZ ?_;(iterate 2 refine mS ?_);refine zaa ?_;refine mwF ?_;refine zak ?_;refine zah ?_;refine zap (n:=1) rfl rfl rfl rfl (by decide) ?_;refine mN ?_;exact ⟨3,by omega,1,by omega,rfl,fun _ => by simp only [pnP]; omega,fun h => by omega,rfl,rfl,rfl,rfl,trivial⟩
  ·have hq:=hq (by omega)
   refine zan rfl rfl (decide_eq_false (show ¬ n ≥ 0 from h0)) ?_;refine mS ?_;refine mZ ?_;(iterate 2 refine mS ?_);refine zaa ?_;refine mwF ?_;refine mQ ?_;refine zai rfl rfl (decide_eq_true (show n < 0 by omega)) ?_;(iterate 3 refine mS ?_);refine za4 (b:=true) rfl (fun _ => rfl) (fun _ => hsg 1 (by omega)) ?_;refine mS ?_;by_cases hf:sgw n 1 = n
   ·refine zai rfl rfl (decide_eq_true hf) ?_
    (iterate 2 refine mS ?_);refine zaa ?_;refine mwT ?_
    have hres:msgInt n = [208] ++ be 1 (lo64 n):=by
     unfold sgw at hf;rw [if_pos (by decide),show ((256 ^ 1:Nat):Int) = 256 from rfl,show ((256 ^ 1 / 2:Nat):Int) = 128 from rfl] at hf
     split at hf
     ·unfold msgInt
      repeat (first | rw [if_pos (by omega)] | rw [if_neg (by omega)])
     ·omega
    refine zal (zbk ?_);refine zaj ?_;refine mS ?_;refine zap (n:=208) rfl rfl rfl rfl (by decide) ?_;refine zbM (n:=208) rfl rfl (by decide) ?_;refine mS ?_;refine mL ?_;refine zar ?_;refine zas ?_ ?_
    ·refine zao (es:=[[.v (.int .u8 208)]]) rfl ?_
     refine zaa ?_;refine zaj ?_;refine mL ?_;refine zar ?_;refine zas ?_ zaq;refine zab rfl (hput 1 (by omega)) ?_;refine zaa ?_;refine zaj ?_;refine zav (la:=[208]) (lb:=be 1 (lo64 n)) rfl rfl rfl (by rw [zac]; simp) ?_;refine mL ?_;refine zaF ?_;refine zag ⟨.inr rfl,[.d (pS ([208] ++ be 1 (lo64 n)))],rfl,?_⟩;rw [hres]; rfl
    ·refine zas ?_ zaq
     refine zab rfl (hput 1 (by omega)) ?_;refine zaa ?_;refine zaj ?_;refine zaa ?_;refine zar ?_;refine zas ?_ zaq;refine zao (es:=[[.v (.int .u8 208)]]) rfl ?_;refine zaa ?_;refine zaj ?_;refine mS ?_;refine zav (la:=[208]) (lb:=be 1 (lo64 n)) rfl rfl rfl (by rw [zac]; simp) ?_;refine mL ?_;refine zaF ?_;refine zag ⟨.inr rfl,[.d (pS ([208] ++ be 1 (lo64 n)))],rfl,?_⟩;rw [hres]; rfl
   ·refine zan rfl rfl (decide_eq_false hf) ?_
    (iterate 2 refine mS ?_);refine zaa ?_;refine mwF ?_;refine zak ?_
    have hlow:n < -128:=by
     apply Decidable.byContradiction
     intro hlt
     apply hf
     unfold sgw;rw [if_pos (by decide),show ((256 ^ 1:Nat):Int) = 256 from rfl,show ((256 ^ 1 / 2:Nat):Int) = 128 from rfl]
     split <;> omega
    refine zah ?_;refine zap (n:=1) rfl rfl rfl rfl (by decide) ?_;refine mN ?_;exact ⟨3,by omega,1,by omega,rfl,fun h => by omega,fun _ => by simp only [pnN]; omega,rfl,rfl,rfl,rfl,trivial⟩
 ·simp only [pnP,pnN] at hp hq
  refine mO ?_;refine zai rfl rfl rfl ?_;refine zaa ?_;refine zal ?_;refine mwT ?_;refine zak ?_;refine zal (zad (zal (zah ?_)));refine mS ?_;refine zaV (es:=[[pI 1],[pI 2],[pI 4],[pI 8]]) (e:=[pI 2]) rfl rfl rfl ⟨by decide,rfl⟩ rfl ?_;refine mN ?_;refine zad (zal (zah ?_));refine mS ?_;by_cases h0:0 <= n
  ·have hp:=hp h0
   refine zai rfl rfl (decide_eq_true (show n ≥ 0 from h0)) ?_;(iterate 2 refine mS ?_);refine zan rfl rfl rfl ?_;(iterate 3 refine mS ?_);refine zdF (n:=16) rfl rfl rfl rfl (by decide) ?_;refine po_shl (n:=65536) rfl rfl rfl (by decide) (by decide) ?_;by_cases hf:n < 65536
   ·refine zai rfl rfl (decide_eq_true hf) ?_
    (iterate 3 refine mS ?_);refine zaa ?_;refine mwT ?_
    have hres:msgInt n = [205] ++ be 2 (lo64 n):=by
     unfold msgInt
     repeat (first | rw [if_pos (by omega)] | rw [if_neg (by omega)])
    refine zal (zbk ?_);refine zaj ?_;refine mS ?_;refine zap (n:=205) rfl rfl rfl rfl (by decide) ?_;refine zbM (n:=205) rfl rfl (by decide) ?_;refine mS ?_;refine mL ?_;refine zar ?_;refine zas ?_ ?_
    ·refine zao (es:=[[.v (.int .u8 205)]]) rfl ?_
     refine zaa ?_;refine zaj ?_;refine mL ?_;refine zar ?_;refine zas ?_ zaq;refine zab rfl (hput 2 (by omega)) ?_;refine zaa ?_;refine zaj ?_;refine zav (la:=[205]) (lb:=be 2 (lo64 n)) rfl rfl rfl (by rw [zac]; simp) ?_;refine mL ?_;refine zaF ?_;refine zag ⟨.inr rfl,[.d (pS ([205] ++ be 2 (lo64 n)))],rfl,?_⟩;rw [hres]; rfl
    ·refine zas ?_ zaq
     refine zab rfl (hput 2 (by omega)) ?_;refine zaa ?_;refine zaj ?_;refine zaa ?_;refine zar ?_;refine zas ?_ zaq;refine zao (es:=[[.v (.int .u8 205)]]) rfl ?_;refine zaa ?_;refine zaj ?_;refine mS ?_;refine zav (la:=[205]) (lb:=be 2 (lo64 n)) rfl rfl rfl (by rw [zac]; simp) ?_;refine mL ?_;refine zaF ?_;refine zag ⟨.inr rfl,[.d (pS ([205] ++ be 2 (lo64 n)))],rfl,?_⟩;rw [hres]; rfl
   ·refine zan rfl rfl (decide_eq_false hf) ?_
    (iterate 3 refine mS ?_);refine zaa ?_;refine mwF ?_;refine mQ ?_;refine zan rfl rfl (decide_eq_false (show ¬ n < 0 by omega)) ?_;refine mS ?_;refine mZ ?_;(iterate 2 refine mS ?_);refine zaa ?_;refine mwF ?_;refine zak ?_;refine zah ?_;refine zap (n:=2) rfl rfl rfl rfl (by decide) ?_;refine mN ?_;exact ⟨2,by omega,2,by omega,rfl,fun _ => by simp only [pnP]; omega,fun h => by omega,rfl,rfl,rfl,rfl,trivial⟩
  ·have hq:=hq (by omega)
   refine zan rfl rfl (decide_eq_false (show ¬ n ≥ 0 from h0)) ?_;refine mS ?_;refine mZ ?_;(iterate 2 refine mS ?_);refine zaa ?_;refine mwF ?_;refine mQ ?_;refine zai rfl rfl (decide_eq_true (show n < 0 by omega)) ?_;(iterate 3 refine mS ?_);refine za4 (b:=true) rfl (fun _ => rfl) (fun _ => hsg 2 (by omega)) ?_;refine mS ?_;by_cases hf:sgw n 2 = n
   ·refine zai rfl rfl (decide_eq_true hf) ?_
    (iterate 2 refine mS ?_);refine zaa ?_;refine mwT ?_
    have hres:msgInt n = [209] ++ be 2 (lo64 n):=by
     unfold sgw at hf;rw [if_pos (by decide),show ((256 ^ 2:Nat):Int) = 65536 from rfl,show ((256 ^ 2 / 2:Nat):Int) = 32768 from rfl] at hf
     split at hf
     ·unfold msgInt
      repeat (first | rw [if_pos (by omega)] | rw [if_neg (by omega)])
     ·omega
    refine zal (zbk ?_);refine zaj ?_;refine mS ?_;refine zap (n:=209) rfl rfl rfl rfl (by decide) ?_;refine zbM (n:=209) rfl rfl (by decide) ?_;refine mS ?_;refine mL ?_;refine zar ?_;refine zas ?_ ?_
    ·refine zao (es:=[[.v (.int .u8 209)]]) rfl ?_
     refine zaa ?_;refine zaj ?_;refine mL ?_;refine zar ?_;refine zas ?_ zaq;refine zab rfl (hput 2 (by omega)) ?_;refine zaa ?_;refine zaj ?_;refine zav (la:=[209]) (lb:=be 2 (lo64 n)) rfl rfl rfl (by rw [zac]; simp) ?_;refine mL ?_;refine zaF ?_;refine zag ⟨.inr rfl,[.d (pS ([209] ++ be 2 (lo64 n)))],rfl,?_⟩;rw [hres]; rfl
    ·refine zas ?_ zaq
     refine zab rfl (hput 2 (by omega)) ?_;refine zaa ?_;refine zaj ?_;refine zaa ?_;refine zar ?_;refine zas ?_ zaq;refine zao (es:=[[.v (.int .u8 209)]]) rfl ?_;refine zaa ?_;refine zaj ?_;refine mS ?_;refine zav (la:=[209]) (lb:=be 2 (lo64 n)) rfl rfl rfl (by rw [zac]; simp) ?_;refine mL ?_;refine zaF ?_;refine zag ⟨.inr rfl,[.d (pS ([209] ++ be 2 (lo64 n)))],rfl,?_⟩;rw [hres]; rfl
   ·refine zan rfl rfl (decide_eq_false hf) ?_
    (iterate 2 refine mS ?_);refine zaa ?_;refine mwF ?_;refine zak ?_
    have hlow:n < -32768:=by
     apply Decidable.byContradiction
     intro hlt
     apply hf
     unfold sgw;rw [if_pos (by decide),show ((256 ^ 2:Nat):Int) = 65536 from rfl,show ((256 ^ 2 / 2:Nat):Int) = 32768 from rfl]
     split <;> omega
    refine zah ?_;refine zap (n:=2) rfl rfl rfl rfl (by decide) ?_;refine mN ?_;exact ⟨2,by omega,2,by omega,rfl,fun h => by omega,fun _ => by simp only [pnN]; omega,rfl,rfl,rfl,rfl,trivial⟩
 ·simp only [pnP,pnN] at hp hq
  refine mO ?_;refine zai rfl rfl rfl ?_;refine zaa ?_;refine zal ?_;refine mwT ?_;refine zak ?_;refine zal (zad (zal (zah ?_)));refine mS ?_;refine zaV (es:=[[pI 1],[pI 2],[pI 4],[pI 8]]) (e:=[pI 4]) rfl rfl rfl ⟨by decide,rfl⟩ rfl ?_;refine mN ?_;refine zad (zal (zah ?_));refine mS ?_;by_cases h0:0 <= n
  ·have hp:=hp h0
   refine zai rfl rfl (decide_eq_true (show n ≥ 0 from h0)) ?_;(iterate 2 refine mS ?_);refine zan rfl rfl rfl ?_;(iterate 3 refine mS ?_);refine zdF (n:=32) rfl rfl rfl rfl (by decide) ?_;refine po_shl (n:=4294967296) rfl rfl rfl (by decide) (by decide) ?_;by_cases hf:n < 4294967296
   ·refine zai rfl rfl (decide_eq_true hf) ?_
    (iterate 3 refine mS ?_);refine zaa ?_;refine mwT ?_
    have hres:msgInt n = [206] ++ be 4 (lo64 n):=by
     unfold msgInt
     repeat (first | rw [if_pos (by omega)] | rw [if_neg (by omega)])
    refine zal (zbk ?_);refine zaj ?_;refine mS ?_;refine zap (n:=206) rfl rfl rfl rfl (by decide) ?_;refine zbM (n:=206) rfl rfl (by decide) ?_;refine mS ?_;refine mL ?_;refine zar ?_;refine zas ?_ ?_
    ·refine zao (es:=[[.v (.int .u8 206)]]) rfl ?_
     refine zaa ?_;refine zaj ?_;refine mL ?_;refine zar ?_;refine zas ?_ zaq;refine zab rfl (hput 4 (by omega)) ?_;refine zaa ?_;refine zaj ?_;refine zav (la:=[206]) (lb:=be 4 (lo64 n)) rfl rfl rfl (by rw [zac]; simp) ?_;refine mL ?_;refine zaF ?_;refine zag ⟨.inr rfl,[.d (pS ([206] ++ be 4 (lo64 n)))],rfl,?_⟩;rw [hres]; rfl
    ·refine zas ?_ zaq
     refine zab rfl (hput 4 (by omega)) ?_;refine zaa ?_;refine zaj ?_;refine zaa ?_;refine zar ?_;refine zas ?_ zaq;refine zao (es:=[[.v (.int .u8 206)]]) rfl ?_;refine zaa ?_;refine zaj ?_;refine mS ?_;refine zav (la:=[206]) (lb:=be 4 (lo64 n)) rfl rfl rfl (by rw [zac]; simp) ?_;refine mL ?_;refine zaF ?_;refine zag ⟨.inr rfl,[.d (pS ([206] ++ be 4 (lo64 n)))],rfl,?_⟩;rw [hres]; rfl
   ·refine zan rfl rfl (decide_eq_false hf) ?_
    (iterate 3 refine mS ?_);refine zaa ?_;refine mwF ?_;refine mQ ?_;refine zan rfl rfl (decide_eq_false (show ¬ n < 0 by omega)) ?_;refine mS ?_;refine mZ ?_;(iterate 2 refine mS ?_);refine zaa ?_;refine mwF ?_;refine zak ?_;refine zah ?_;refine zap (n:=3) rfl rfl rfl rfl (by decide) ?_;refine mN ?_;exact ⟨1,by omega,3,by omega,rfl,fun _ => by simp only [pnP]; omega,fun h => by omega,rfl,rfl,rfl,rfl,trivial⟩
  ·have hq:=hq (by omega)
   refine zan rfl rfl (decide_eq_false (show ¬ n ≥ 0 from h0)) ?_;refine mS ?_;refine mZ ?_;(iterate 2 refine mS ?_);refine zaa ?_;refine mwF ?_;refine mQ ?_;refine zai rfl rfl (decide_eq_true (show n < 0 by omega)) ?_;(iterate 3 refine mS ?_);refine za4 (b:=true) rfl (fun _ => rfl) (fun _ => hsg 4 (by omega)) ?_;refine mS ?_;by_cases hf:sgw n 4 = n
   ·refine zai rfl rfl (decide_eq_true hf) ?_
    (iterate 2 refine mS ?_);refine zaa ?_;refine mwT ?_
    have hres:msgInt n = [210] ++ be 4 (lo64 n):=by
     unfold sgw at hf;rw [if_pos (by decide),show ((256 ^ 4:Nat):Int) = 4294967296 from rfl,show ((256 ^ 4 / 2:Nat):Int) = 2147483648 from rfl] at hf
     split at hf
     ·unfold msgInt
      repeat (first | rw [if_pos (by omega)] | rw [if_neg (by omega)])
     ·omega
    refine zal (zbk ?_);refine zaj ?_;refine mS ?_;refine zap (n:=210) rfl rfl rfl rfl (by decide) ?_;refine zbM (n:=210) rfl rfl (by decide) ?_;refine mS ?_;refine mL ?_;refine zar ?_;refine zas ?_ ?_
    ·refine zao (es:=[[.v (.int .u8 210)]]) rfl ?_
     refine zaa ?_;refine zaj ?_;refine mL ?_;refine zar ?_;refine zas ?_ zaq;refine zab rfl (hput 4 (by omega)) ?_;refine zaa ?_;refine zaj ?_;refine zav (la:=[210]) (lb:=be 4 (lo64 n)) rfl rfl rfl (by rw [zac]; simp) ?_;refine mL ?_;refine zaF ?_;refine zag ⟨.inr rfl,[.d (pS ([210] ++ be 4 (lo64 n)))],rfl,?_⟩;rw [hres]; rfl
    ·refine zas ?_ zaq
     refine zab rfl (hput 4 (by omega)) ?_;refine zaa ?_;refine zaj ?_;refine zaa ?_;refine zar ?_;refine zas ?_ zaq;refine zao (es:=[[.v (.int .u8 210)]]) rfl ?_;refine zaa ?_;refine zaj ?_;refine mS ?_;refine zav (la:=[210]) (lb:=be 4 (lo64 n)) rfl rfl rfl (by rw [zac]; simp) ?_;refine mL ?_;refine zaF ?_;refine zag ⟨.inr rfl,[.d (pS ([210] ++ be 4 (lo64 n)))],rfl,?_⟩;rw [hres]; rfl
   ·refine zan rfl rfl (decide_eq_false hf) ?_
    (iterate 2 refine mS ?_);refine zaa ?_;refine mwF ?_;refine zak ?_
    have hlow:n < -2147483648:=by
     apply Decidable.byContradiction
     intro hlt
     apply hf
     unfold sgw;rw [if_pos (by decide),show ((256 ^ 4:Nat):Int) = 4294967296 from rfl,show ((256 ^ 4 / 2:Nat):Int) = 2147483648 from rfl]
     split <;> omega
    refine zah ?_;refine zap (n:=3) rfl rfl rfl rfl (by decide) ?_;refine mN ?_;exact ⟨1,by omega,3,by omega,rfl,fun h => by omega,fun _ => by simp only [pnN]; omega,rfl,rfl,rfl,rfl,trivial⟩
 ·simp only [pnP,pnN] at hp hq
  refine mO ?_;refine zai rfl rfl rfl ?_;refine zaa ?_;refine zal ?_;refine mwT ?_;refine zak ?_;refine zal (zad (zal (zah ?_)));refine mS ?_;refine zaV (es:=[[pI 1],[pI 2],[pI 4],[pI 8]]) (e:=[pI 8]) rfl rfl rfl ⟨by decide,rfl⟩ rfl ?_;refine mN ?_;refine zad (zal (zah ?_));refine mS ?_;by_cases h0:0 <= n
  ·have hp:=hp h0
   refine zai rfl rfl (decide_eq_true (show n ≥ 0 from h0)) ?_;(iterate 2 refine mS ?_);refine zai rfl rfl rfl ?_;refine mS ?_;refine mZ ?_;(iterate 3 refine mS ?_);refine zaa ?_;refine mwT ?_
   have hres:msgInt n = [207] ++ be 8 (lo64 n):=by
    unfold msgInt
    repeat (first | rw [if_pos (by omega)] | rw [if_neg (by omega)])
   refine zal (zbk ?_);refine zaj ?_;refine mS ?_;refine zap (n:=207) rfl rfl rfl rfl (by decide) ?_;refine zbM (n:=207) rfl rfl (by decide) ?_;refine mS ?_;refine mL ?_;refine zar ?_;refine zas ?_ ?_
   ·refine zao (es:=[[.v (.int .u8 207)]]) rfl ?_
    refine zaa ?_;refine zaj ?_;refine mL ?_;refine zar ?_;refine zas ?_ zaq;refine zab rfl (hput 8 (by omega)) ?_;refine zaa ?_;refine zaj ?_;refine zav (la:=[207]) (lb:=be 8 (lo64 n)) rfl rfl rfl (by rw [zac]; simp) ?_;refine mL ?_;refine zaF ?_;refine zag ⟨.inr rfl,[.d (pS ([207] ++ be 8 (lo64 n)))],rfl,?_⟩;rw [hres]; rfl
   ·refine zas ?_ zaq
    refine zab rfl (hput 8 (by omega)) ?_;refine zaa ?_;refine zaj ?_;refine zaa ?_;refine zar ?_;refine zas ?_ zaq;refine zao (es:=[[.v (.int .u8 207)]]) rfl ?_;refine zaa ?_;refine zaj ?_;refine mS ?_;refine zav (la:=[207]) (lb:=be 8 (lo64 n)) rfl rfl rfl (by rw [zac]; simp) ?_;refine mL ?_;refine zaF ?_;refine zag ⟨.inr rfl,[.d (pS ([207] ++ be 8 (lo64 n)))],rfl,?_⟩;rw [hres]; rfl
  ·have hq:=hq (by omega)
   refine zan rfl rfl (decide_eq_false (show ¬ n ≥ 0 from h0)) ?_;refine mS ?_;refine mZ ?_;(iterate 2 refine mS ?_);refine zaa ?_;refine mwF ?_;refine mQ ?_;refine zai rfl rfl (decide_eq_true (show n < 0 by omega)) ?_;(iterate 3 refine mS ?_);refine za4 (b:=true) rfl (fun _ => rfl) (fun _ => hsg 8 (by omega)) ?_;refine mS ?_;have hf:sgw n 8 = n:=by unfold sgw; rw [if_neg (by decide)]
   refine zai rfl rfl (decide_eq_true hf) ?_;(iterate 2 refine mS ?_);refine zaa ?_;refine mwT ?_
   have hres:msgInt n = [211] ++ be 8 (lo64 n):=by
    unfold msgInt
    repeat (first | rw [if_pos (by omega)] | rw [if_neg (by omega)])
   refine zal (zbk ?_);refine zaj ?_;refine mS ?_;refine zap (n:=211) rfl rfl rfl rfl (by decide) ?_;refine zbM (n:=211) rfl rfl (by decide) ?_;refine mS ?_;refine mL ?_;refine zar ?_;refine zas ?_ ?_
   ·refine zao (es:=[[.v (.int .u8 211)]]) rfl ?_
    refine zaa ?_;refine zaj ?_;refine mL ?_;refine zar ?_;refine zas ?_ zaq;refine zab rfl (hput 8 (by omega)) ?_;refine zaa ?_;refine zaj ?_;refine zav (la:=[211]) (lb:=be 8 (lo64 n)) rfl rfl rfl (by rw [zac]; simp) ?_;refine mL ?_;refine zaF ?_;refine zag ⟨.inr rfl,[.d (pS ([211] ++ be 8 (lo64 n)))],rfl,?_⟩;rw [hres]; rfl
   ·refine zas ?_ zaq
    refine zab rfl (hput 8 (by omega)) ?_;refine zaa ?_;refine zaj ?_;refine zaa ?_;refine zar ?_;refine zas ?_ zaq;refine zao (es:=[[.v (.int .u8 211)]]) rfl ?_;refine zaa ?_;refine zaj ?_;refine mS ?_;refine zav (la:=[211]) (lb:=be 8 (lo64 n)) rfl rfl rfl (by rw [zac]; simp) ?_;refine mL ?_;refine zaF ?_;refine zag ⟨.inr rfl,[.d (pS ([211] ++ be 8 (lo64 n)))],rfl,?_⟩;rw [hres]; rfl
def u8w (x:Int):Int:=IntKind.wrap .u8 x
theorem be1_u8 (x:Int):be 1 (lo64 x) = [UInt8.ofNat (u8w x).toNat]:=by
 rw [be1]
 congr 1
 apply UInt8.toNat_inj.1
 rw [za9];unfold u8w lo64;rw [IntKind.wrap_u8];simp;omega
theorem putLen_fn (n least low one two:Int) (hb:0 <= n /\ n <= 4611686018427387904) (hl:0 <= low /\ low <= 1000) (hl2:0 <= least /\ least <= 1000):FnV (env T hT) 67 [.d (pI n),.d (pI low),.d (pI least),.d (pI one),.d (pI two)] (.d (pS (msgMany n least low one two))):=by
 have hput:=fun (k:Int) (hk:1 <= k /\ k <= 8) => zeU (T:=T) (hT:=hT) n k hk (by unfold i64ok; omega)
 refine zaQ (zaf zee) (by show 5 <= 42; decide) fun B hB => ?_
 unfold m_i_putLength;refine mP ?_;refine zal (zad (zal (zah ?_)));(iterate 2 refine mS ?_);refine po_b rfl rfl (fun b hb1 => ?_);refine mL ?_;refine zbB (p:=n < least) hb1 rfl (fun h _ => ?_) (fun h _ => ?_)
 ·refine mO ?_
  (iterate 2 refine mS ?_);refine zap (n:=low + n) rfl rfl rfl rfl (by omega) ?_;refine zbM (n:=(u8w (low + n))) rfl rfl rfl ?_;refine zao (es:=[[.v (.int .u8 (u8w (low + n)))]]) rfl ?_;refine mN ?_;exact zag ⟨.inr rfl,_,rfl,by unfold msgMany; rw [if_pos h,be1_u8]; rfl⟩
 refine zde (fun s => has s.tm [(0,.d (pI n)),(3,.d (pI one)),(4,.d (pI two))]) ⟨rfl,rfl,rfl,trivial⟩ (fun tm bx nt live ht => ?_);obtain ⟨tm0,rfl⟩:=zae ht;clear ht hb1;refine mQ ?_;by_cases h2:n < 256
 ·refine zai rfl rfl (decide_eq_true h2) ?_
  (iterate 2 refine mS ?_);by_cases h3:one > 0
  ·refine zai rfl rfl (decide_eq_true h3) ?_
   (iterate 2 refine mS ?_);refine zaa ?_;refine mwT ?_
   have hres:msgMany n least low one two = [UInt8.ofNat (u8w one).toNat] ++ be 1 (lo64 n):=by
    unfold msgMany; rw [if_neg h,if_pos ⟨h2,h3⟩,be1_u8]
   refine zal (zbk ?_);refine zaj ?_;refine mS ?_;refine zbM (n:=(u8w one)) rfl rfl rfl ?_;refine mL ?_;refine zar ?_;refine zas ?_ ?_
   ·refine zao (es:=[[.v (.int .u8 (u8w one))]]) rfl ?_
    refine zaa ?_;refine zaj ?_;refine mL ?_;refine zar ?_;refine zas ?_ zaq;refine zab rfl (hput 1 (by omega)) ?_;refine zaa ?_;refine zaj ?_;refine zav (la:=[UInt8.ofNat (u8w one).toNat]) (lb:=be 1 (lo64 n)) rfl rfl rfl (by rw [zac]; simp) ?_;refine mL ?_;refine zaF ?_;refine zag ⟨.inr rfl,[.d (pS ([UInt8.ofNat (u8w one).toNat] ++ be 1 (lo64 n)))],rfl,?_⟩;rw [hres]; rfl
   ·refine zas ?_ zaq
    refine zab rfl (hput 1 (by omega)) ?_;refine zaa ?_;refine zaj ?_;refine zaa ?_;refine zar ?_;refine zas ?_ zaq;refine zao (es:=[[.v (.int .u8 (u8w one))]]) rfl ?_;refine zaa ?_;refine zaj ?_;refine mS ?_;refine zav (la:=[UInt8.ofNat (u8w one).toNat]) (lb:=be 1 (lo64 n)) rfl rfl rfl (by rw [zac]; simp) ?_;refine mL ?_;refine zaF ?_;refine zag ⟨.inr rfl,[.d (pS ([UInt8.ofNat (u8w one).toNat] ++ be 1 (lo64 n)))],rfl,?_⟩;rw [hres]; rfl
  ·refine zan rfl rfl (decide_eq_false h3) ?_
   (iterate 2 refine mS ?_);refine zaa ?_;refine mwF ?_;refine zak ?_
   have hres:msgMany n least low one two = [UInt8.ofNat (u8w two).toNat] ++ be 2 (lo64 n):=by
    unfold msgMany; rw [if_neg h,if_neg (fun h => h3 h.2),be1_u8]
   refine zal (zbk ?_);refine zaj ?_;refine mS ?_;refine zbM (n:=(u8w two)) rfl rfl rfl ?_;refine mL ?_;refine zar ?_;refine zas ?_ ?_
   ·refine zao (es:=[[.v (.int .u8 (u8w two))]]) rfl ?_
    refine zaa ?_;refine zaj ?_;refine mL ?_;refine zar ?_;refine zas ?_ zaq;refine zab rfl (hput 2 (by omega)) ?_;refine zaa ?_;refine zaj ?_;refine zav (la:=[UInt8.ofNat (u8w two).toNat]) (lb:=be 2 (lo64 n)) rfl rfl rfl (by rw [zac]; simp) ?_;refine mL ?_;refine zaF ?_;refine zag ⟨.inr rfl,[.d (pS ([UInt8.ofNat (u8w two).toNat] ++ be 2 (lo64 n)))],rfl,?_⟩;rw [hres]; rfl
   ·refine zas ?_ zaq
    refine zab rfl (hput 2 (by omega)) ?_;refine zaa ?_;refine zaj ?_;refine zaa ?_;refine zar ?_;refine zas ?_ zaq;refine zao (es:=[[.v (.int .u8 (u8w two))]]) rfl ?_;refine zaa ?_;refine zaj ?_;refine mS ?_;refine zav (la:=[UInt8.ofNat (u8w two).toNat]) (lb:=be 2 (lo64 n)) rfl rfl rfl (by rw [zac]; simp) ?_;refine mL ?_;refine zaF ?_;refine zag ⟨.inr rfl,[.d (pS ([UInt8.ofNat (u8w two).toNat] ++ be 2 (lo64 n)))],rfl,?_⟩;rw [hres]; rfl
 ·refine zan rfl rfl (decide_eq_false h2) ?_
  refine mS ?_;refine mZ ?_;(iterate 2 refine mS ?_);refine zaa ?_;refine mwF ?_;refine zak ?_
  have hres:msgMany n least low one two = [UInt8.ofNat (u8w two).toNat] ++ be 2 (lo64 n):=by
   unfold msgMany; rw [if_neg h,if_neg (fun h => h2 h.1),be1_u8]
  refine zal (zbk ?_);refine zaj ?_;refine mS ?_;refine zbM (n:=(u8w two)) rfl rfl rfl ?_;refine mL ?_;refine zar ?_;refine zas ?_ ?_
  ·refine zao (es:=[[.v (.int .u8 (u8w two))]]) rfl ?_
   refine zaa ?_;refine zaj ?_;refine mL ?_;refine zar ?_;refine zas ?_ zaq;refine zab rfl (hput 2 (by omega)) ?_;refine zaa ?_;refine zaj ?_;refine zav (la:=[UInt8.ofNat (u8w two).toNat]) (lb:=be 2 (lo64 n)) rfl rfl rfl (by rw [zac]; simp) ?_;refine mL ?_;refine zaF ?_;refine zag ⟨.inr rfl,[.d (pS ([UInt8.ofNat (u8w two).toNat] ++ be 2 (lo64 n)))],rfl,?_⟩;rw [hres]; rfl
  ·refine zas ?_ zaq
   refine zab rfl (hput 2 (by omega)) ?_;refine zaa ?_;refine zaj ?_;refine zaa ?_;refine zar ?_;refine zas ?_ zaq;refine zao (es:=[[.v (.int .u8 (u8w two))]]) rfl ?_;refine zaa ?_;refine zaj ?_;refine mS ?_;refine zav (la:=[UInt8.ofNat (u8w two).toNat]) (lb:=be 2 (lo64 n)) rfl rfl rfl (by rw [zac]; simp) ?_;refine mL ?_;refine zaF ?_;refine zag ⟨.inr rfl,[.d (pS ([UInt8.ofNat (u8w two).toNat] ++ be 2 (lo64 n)))],rfl,?_⟩;rw [hres]; rfl
end
section
section
variable {P:Program} {NG:Nat} {T:World -> Prop}
theorem zbS {w:World} {ops:Array Oper} {rest:List Oper} {o:Oper} {a:Act} {Q:Exit -> Act -> World -> Prop} (hgd:o.guard = none) (sl x:Operand) (t u:TypeId)
  (ho:o.op = .call { callee:=.builtin .append,args:=#[sl,x],argTypes:=#[t,u] }) (v y v':Value) (w':World) (hs:a.eval sl = v) (hx:a.eval x = y) (hr:(Builtin.append_ #[t,u] o.type #[v,y]).run P w = .ok v' w') (h:wpList P ops Q rest (a.put o.dst v') w'):wpList P ops Q (o :: rest) a w:=by
 refine wpList_plain hgd fun K hK => ?_
 unfold Oper.wp execOp;simp only [ho,resolve,invoke,builtin,Sem.run_bind,Sem.run_pure,Result.andThen_ok,map_toArray,map_cons,map_nil,hs,hx,hr];exact hK _ _ h
theorem Inv.alloc (hL:Low NG T) {C:Cx} {bx:LP PC} {live:Nat -> Prop} {w:World} (h:Inv NG T C bx live w) (o:Obj):Inv NG T C bx live (w.alloc o):=by
 have hold:∀ k,k < w.heap.size -> (w.alloc o).heap[k]? = w.heap[k]?:=fun k hk => heap_alloc_old w o hk
 have hfix:=zcG h.fin o;have hs:w.heap.size <= (w.alloc o).heap.size:=by simp
 refine ⟨h.nb,fun p cs hp => ?_,h.boxF,h.boxG,h.inj,fun t ht => ?_,h.tinj,fun b o' hF => Nat.lt_of_lt_of_le (h.fin b o' hF) hs,Nat.le_trans h.ng hs,hL w _ h.t hs fun k hk => hold k (Nat.lt_of_lt_of_le hk h.ng)⟩
 ·obtain ⟨vs,e,h1,h2⟩:=h.box p cs hp
  exact ⟨vs,e,(hold _ (zaA h1)).trans h1,h2.frame (CxLe.refl C) hfix⟩
 ·obtain ⟨a1,a2,a3⟩:=h.tok t ht
  refine ⟨a1,a2,a3.imp id ?_⟩;rintro ⟨b,cur,e,c1,c2,c3,c4⟩;exact ⟨b,cur,e,c1,c2,(hold _ (zaA c3)).trans c3,c4⟩
theorem Inv.drewn (hL:Low NG T) {C:Cx} {bx:LP PC} {live:Nat -> Prop} {w:World} (h:Inv NG T C bx live w) (n:Nat):Inv NG T C bx live { w with drawn:=n } /\ Fix C w { w with drawn:=n }:=by
 have hF:Fix C w { w with drawn:=n }:=⟨fun _ _ _ => rfl,fun _ _ cs fz h => ⟨cs,fz,h⟩⟩;refine ⟨⟨h.nb,fun p cs hp => ?_,h.boxF,h.boxG,h.inj,h.tok,h.tinj,h.fin,h.ng,hL w _ h.t lR (fun _ _ => rfl)⟩,hF⟩;obtain ⟨vs,e,hh,hl⟩:=h.box p cs hp;exact ⟨vs,e,hh,hl.frame (CxLe.refl C) hF⟩
theorem Ext.start {C:Cx} {bx:LP PC} {live:List Nat} {w:World} (h:Inv NG T C bx (· ∈ live) w) (hold:C.old = (· ∈ live)):Ext C w C bx.length (· ∈ live) w :=
 ⟨rfl,rfl,rfl,lR,fun _ _ h => h,Fix.refl C w,fun _ _ _ _ => rfl,⟨lR,fun _ _ => rfl⟩,fun _ _ h => .inl h,(fun t b ht hb => .inr ⟨t,by rw [hold]; exact ht,hb⟩),(fun p hp hp2 => by have h1:=h.nb; omega),⟨lR,fun _ _ => ⟨rfl,rfl,rfl,rfl⟩⟩⟩
theorem set_self {bx:LP PC} {p:Nat} {cs:List PC} (h:bx[p]? = some cs):bx.set p cs = bx:=by
 apply ext_getElem?
 intro q;by_cases hq:p = q
 ·subst hq
  have hlt:p < bx.length:=by
   rcases Nat.lt_or_ge p bx.length with h' | h'
   ·exact h'
   ·rw [getElem?_eq_none h'] at h; cases h
  rw [getElem?_set_self hlt,h]
 ·rw [getElem?_set_ne hq]
theorem zgo {C:Cx} {bx:LP PC} {live:Nat -> Prop} {w:World} (hI:Inv NG T C bx live w) {p t:Nat} {TT U:TypeId} {es:LP PC} (hp:bx[p]? = some [.bld p TT t U,.sl t es]) :
  ∃ v0 v1,w.heap[C.bx p]? = some (.cells #[v0,v1] TT (0,0)) /\ (v0 = .pointer none \/ v0 = .pointer (some ⟨C.bx p,0,none⟩)) /\ RpC C w (.sl t es) v1 /\ (t = 1 \/ 2 <= t /\ t < C.nt /\ ∀ b,C.tk t = some b -> ∃ cs fz,w.heap[b]? = some (.cells cs U fz)):=by
 obtain ⟨vs,e,hh,hl⟩:=hI.box p _ hp;obtain ⟨v0,vr,rfl,h0,h1⟩:=hl.inv1;obtain ⟨v1,vr,rfl,k1,k2⟩:=h1.inv1
 obtain rfl:=k2.inv0
 cases h0 with
 | bld _ _ _ _ _ h cs fz ht hv hU =>
  rw [ht] at hh;simp only [sI,Obj.cells.injEq] at hh;obtain ⟨rfl,rfl,rfl⟩:=hh;exact ⟨v0,v1,ht,hv,k1,hU⟩
theorem Inv.froze (hL:Low NG T) {C:Cx} {bx:LP PC} {live:List Nat} {w:World} (h:Inv NG T C bx (· ∈ live) w) {t g n:Nat} (ht:t ∈ live) (hg:C.tk t = some g) :
  Inv NG T C bx (· ∈ live.filter (· != t)) (w.freeze ⟨g,0,none⟩ n) /\ Fix C w (w.freeze ⟨g,0,none⟩ n) /\ (w.freeze ⟨g,0,none⟩ n).os = w.os /\ (w.freeze ⟨g,0,none⟩ n).tape = w.tape /\ (w.freeze ⟨g,0,none⟩ n).output = w.output /\ (w.freeze ⟨g,0,none⟩ n).heap.size = w.heap.size /\ ∀ k,k ≠ g -> (w.freeze ⟨g,0,none⟩ n).heap[k]? = w.heap[k]?:=by
 obtain ⟨_,_,⟨z,_⟩ | ⟨g',cur,e,c1,c2,c3,c4,c5,c6,c7,c8,c9,c10⟩⟩:=h.tok t ht
 ·rw [hg] at z; cases z
 rw [hg] at c1; simp only [sI] at c1; subst c1
 have other:∀ k,k ≠ g -> (w.freeze ⟨g,0,none⟩ n).heap[k]? = w.heap[k]?:=by
  intro k hk;have hk':g ≠ k:=fun h => hk h.symm
  unfold World.freeze;split
  ·rfl
  ·simp [Array.getElem?_modify,hk']
 have hat:∃ fz,(w.freeze ⟨g,0,none⟩ n).heap[g]? = some (.cells cur e fz):=by
  unfold World.freeze;split
  ·exact ⟨_,c3⟩
  ·simp [Array.getElem?_modify,c3]
 obtain ⟨fz0,hat⟩:=hat
 have hcell:∀ b o,(w.freeze ⟨g,0,none⟩ n).cell? ⟨b,o,none⟩ = w.cell? ⟨b,o,none⟩:=by
  intro b o;by_cases hb:b = g
  ·subst hb; simp [World.cell?,hat,c3]
  ·exact World.cell?_of_block (a:=⟨b,o,none⟩) (other b hb)
 have hs:(w.freeze ⟨g,0,none⟩ n).heap.size = w.heap.size:=by
  unfold World.freeze; split <;> simp
 have o1:(w.freeze ⟨g,0,none⟩ n).os = w.os:=by unfold World.freeze; split <;> rfl
 have o2:(w.freeze ⟨g,0,none⟩ n).tape = w.tape:=by unfold World.freeze; split <;> rfl
 have o3:(w.freeze ⟨g,0,none⟩ n).output = w.output:=by unfold World.freeze; split <;> rfl
 have hF:Fix C w (w.freeze ⟨g,0,none⟩ n):=⟨fun b o _ => hcell b o,fun k T cs fz hh => by
  by_cases hk:k = g
  ·subst hk; rw [c3] at hh; simp only [sI,Obj.cells.injEq] at hh; obtain ⟨_,rfl,_⟩:=hh; exact ⟨_,_,hat⟩
  ·exact ⟨cs,fz,(other k hk).trans hh⟩⟩
 refine ⟨⟨h.nb,fun p cs hp => ?_,h.boxF,h.boxG,h.inj,fun s hs' => ?_,fun a b c ha hb => h.tinj a b c (mem_filter.1 ha).1 (mem_filter.1 hb).1,by rw [hs]; exact h.fin,by rw [hs]; exact h.ng,hL w _ h.t (by rw [hs]; exact lR) fun k hk => other k (by omega)⟩,hF,o1,o2,o3,hs,other⟩
 ·obtain ⟨vs,e',h1,h2⟩:=h.box p cs hp
  have hlt:p < bx.length:=by
   rcases Nat.lt_or_ge p bx.length with h' | h'
   ·exact h'
   ·rw [getElem?_eq_none h'] at hp; cases hp
  exact ⟨vs,e',(other _ (c10 p hlt)).trans h1,h2.frame (CxLe.refl C) hF⟩
 ·obtain ⟨m1,m2⟩:=mem_filter.1 hs'
  obtain ⟨a1,a2,a3⟩:=h.tok s m1;refine ⟨a1,a2,a3.imp id ?_⟩;rintro ⟨b,cur',e',d1,d2,d3,d4⟩;refine ⟨b,cur',e',d1,d2,(other b fun hb => ?_).trans d3,d4⟩;subst hb
  have:=h.tinj s t b m1 ht d1 hg
  subst this; simp at m2
end
end
section
theorem sizeBld:(Tryz.prog.info? 72).map (·.size) = some 2:=by kernel_rfl
theorem liesBld:liesAt Tryz.prog Tryz.prog.depth 72 (2 / Tryz.prog.cellsOf 72) 0 72 1 = true:=by kernel_rfl
theorem zfH:(Tryz.prog.info? 5).map (fun i => (i.zero,i.size,i.bytes)) = some (some (.int .u8 0),1,1):=by kernel_rfl
theorem zef (b:Nat) (w:World) (h0:w.cell? ⟨b,0,none⟩ = some (.pointer (some ⟨b,0,none⟩))) :
  Calls Tryz.prog 84 #[.pointer (some ⟨b,0,none⟩)] w fun e w' => e = .returned (.tuple #[]) /\ w' = w:=by
 obtain ⟨j,hj,_⟩:=Option.map_eq_some_iff.1 sizeBld
 go_enter Tryz.func84,Tryz.ntmps84
 go_wp2;rw [Lib.run_neq_ptr_same w _ Tryz.underlying70 hj];go_wp2
 go_end0
 exact ⟨rfl,rfl⟩
theorem zdZ (b:Nat) (w:World) (h0:w.cell? ⟨b,0,none⟩ = some (.pointer none)) (hsh:w.shape? b = some (72,2)) (hfz:w.frozen? ⟨b,0,none⟩ = false) :
  Calls Tryz.prog 84 #[.pointer (some ⟨b,0,none⟩)] w fun e w' => e = .returned (.tuple #[]) /\ w' = w.setCell ⟨b,0,none⟩ (.pointer (some ⟨b,0,none⟩)):=by
 obtain ⟨j,hj,hjs⟩:=Option.map_eq_some_iff.1 sizeBld
 go_enter Tryz.func84,Tryz.ntmps84
 go_wp2;rw [Lib.run_to_unsafe w ⟨b,0,none⟩ Tryz.underlying70 Tryz.underlying115 hj (by rw [hjs]; decide) hsh (Nat.zero_lt_succ 1)];simp only [Result.andThen];rw [Oper.upon_value];go_wp2;rw [run_callFunc_extern Tryz.func98 (by kernel_rfl) (by kernel_rfl) (by kernel_rfl) (e:=Extern.AbiNoEscape.same) (by kernel_rfl)];rw [Lib.run_noEscape];simp only [Result.andThen];rw [Oper.upon_value];go_wp2;rw [Lib.run_from_unsafe w ⟨b,0,none⟩ Tryz.underlying115 Tryz.underlying70 hj hsh liesBld];simp only [Result.andThen];rw [Oper.upon_value];go_wp2
 go_end0
 exact ⟨rfl,rfl⟩
end
section
variable {T:World -> Prop} {hT:Low ngl T}
def bldC (p t:Nat) (l:L8):List PC:=[.bld p 72 t 5,.sl t (pcB l)]
def CcP (C:Cx) (w:World) (bx:LP PC) (live:List Nat) (T:World -> Prop) (b:Nat) (v1:Value) (w':World):Prop :=
 Inv ngl T C bx (· ∈ live) w' /\ Fix C w w' /\ w'.os = w.os /\ w'.tape = w.tape /\ w'.output = w.output /\ w'.heap.size = w.heap.size /\ (∀ k,k ≠ b -> w'.heap[k]? = w.heap[k]?) /\ w'.heap[b]? = some (.cells #[.pointer (some ⟨b,0,none⟩),v1] 72 (0,0))
theorem ccheck {C:Cx} {bx:LP PC} {live:List Nat} {w:World} (hI:Inv ngl T C bx (· ∈ live) w) {p t:Nat} {l:L8} (hp:bx[p]? = some (bldC p t l)) (hL:Low ngl T) :
  ∃ v1,Calls Tryz.prog 84 #[.pointer (some ⟨C.bx p,0,none⟩)] w (fun e w' => e = .returned (.tuple #[]) /\ CcP C w bx live T (C.bx p) v1 w') /\ RpC C w (.sl t (pcB l)) v1:=by
 obtain ⟨v0,v1,hh,hv,h1,hU⟩:=zgo hI hp
 have hlt:p < bx.length:=by
  rcases Nat.lt_or_ge p bx.length with h' | h'
  ·exact h'
  ·rw [getElem?_eq_none h'] at hp; cases hp
 have c0:w.cell? ⟨C.bx p,0,none⟩ = some v0:=by rw [Lib.cell_of_heap hh]; rfl
 refine ⟨v1,?_,h1⟩
 rcases hv with rfl | rfl
 ·refine (zdZ (C.bx p) w c0 (by simp [World.shape?,hh]) (Lib.frozen_of_heap hh 0)).mono ?_
  rintro e w' ⟨rfl,rfl⟩
  have hnew:(w.setCell ⟨C.bx p,0,none⟩ (.pointer (some ⟨C.bx p,0,none⟩))).heap[C.bx p]? = some (.cells #[.pointer (some ⟨C.bx p,0,none⟩),v1] 72 (0,0)):=by
   simp [World.setCell,Array.getElem?_modify,hh]
  have hother:∀ k,k ≠ C.bx p -> (w.setCell ⟨C.bx p,0,none⟩ (.pointer (some ⟨C.bx p,0,none⟩))).heap[k]? = w.heap[k]?:=by
   intro k hk;have hk':C.bx p ≠ k:=fun h => hk h.symm
   simp [World.setCell,Array.getElem?_modify,hk']
  have hsz:w.heap.size = (w.setCell ⟨C.bx p,0,none⟩ (.pointer (some ⟨C.bx p,0,none⟩))).heap.size:=by simp [World.setCell]
  obtain ⟨k1,k2⟩:=hI.write hL hlt (us:=[.pointer (some ⟨C.bx p,0,none⟩),v1]) (cs:=bldC p t l) (e:=72) hnew (.cons (.bld _ _ _ _ _ (by rw [hI.nb]; exact hlt) _ _ hh (.inr rfl) hU) (.cons h1 .nil)) (fun T cs0 h0 => by rw [hh] at h0; simp only [sI,Obj.cells.injEq] at h0; exact h0.2.1) hsz hother;rw [set_self hp] at k1;exact ⟨rfl,⟨k1,k2,rfl,rfl,rfl,hsz.symm,hother,hnew⟩⟩
 ·refine (zef (C.bx p) w c0).mono ?_
  rintro e w' ⟨rfl,rfl⟩;exact ⟨rfl,⟨hI,Fix.refl _ _,rfl,rfl,rfl,rfl,fun _ _ => rfl,hh⟩⟩
def WrP (C:Cx) (w:World) (bx:LP PC) (live:List Nat) (T:World -> Prop) (p t:Nat) (l:L8) (w':World):Prop :=
 ∃ C',Inv ngl T C' (bx.set p (bldC p C.nt l)) (· ∈ C.nt :: live.filter (· != t)) w' /\ C'.nt = C.nt + 1 /\ Ext C w C' (bx.set p (bldC p C.nt l)).length (· ∈ C.nt :: live.filter (· != t)) w'
theorem bld_done (hL:Low ngl T) {C:Cx} {bx:LP PC} {live:List Nat} {w w1 w2 w':World} (hI:Inv ngl T C bx (· ∈ live) w1) (hE:Ext C w C bx.length (· ∈ live) w1) (hn2:2 <= C.nt) {p t:Nat} {l l':L8} (hp:bx[p]? = some (bldC p t l)) {u self:Value} {g:Option Nat} {cap:Nat}
  (k2:Inv ngl T (C.tok g cap (pcB l').length 1) bx (· ∈ C.nt :: live.filter (· != t)) w2) (k3:Fix C w1 w2) (k4:RpC (C.tok g cap (pcB l').length 1) w2 (.sl C.nt (pcB l')) u) (k5:w2.os = w1.os) (k6:w2.tape = w1.tape) (k7:w2.output = w1.output) (k8:w1.heap.size <= w2.heap.size)
  (k9:∀ k,k < w1.heap.size -> g ≠ some k -> w2.heap[k]? = w1.heap[k]?) (k10:∀ b,g = some b -> (w1.heap.size <= b /\ ∃ cs,w2.heap[b]? = some (.cells cs 5 (0,0))) \/ (t ∈ live /\ C.tk t = some b))
  (hs:self = .pointer (some ⟨C.bx p,0,none⟩)) (hw2:∃ v1,w2.heap[C.bx p]? = some (.cells #[self,v1] 72 (0,0)))
  (hw:w' = w2.setCell ⟨C.bx p,1,none⟩ u):WrP C w bx live T p t l' w':=by
 obtain ⟨v1,hw2⟩:=hw2;subst hw
 have hlt:p < bx.length:=by
  rcases Nat.lt_or_ge p bx.length with h' | h'
  ·exact h'
  ·rw [getElem?_eq_none h'] at hp; cases hp
 have hbx:(C.tok g cap (pcB l').length 1).bx p = C.bx p:=rfl
 have hnew:(w2.setCell ⟨C.bx p,1,none⟩ u).heap[C.bx p]? = some (.cells #[self,u] 72 (0,0)):=by
  simp [World.setCell,Array.getElem?_modify,hw2]
 have hother:∀ k,k ≠ C.bx p -> (w2.setCell ⟨C.bx p,1,none⟩ u).heap[k]? = w2.heap[k]?:=by
  intro k hk;have hk':C.bx p ≠ k:=fun h => hk h.symm
  simp [World.setCell,Array.getElem?_modify,hk']
 have hsz:w2.heap.size = (w2.setCell ⟨C.bx p,1,none⟩ u).heap.size:=by simp [World.setCell]
 obtain ⟨v0',v1',hh1,_,_,hU⟩:=zgo hI hp;have htok:=(Cx.tok_new C g cap (pcB l').length 1).1
 have hgw:∀ b,g = some b -> w.heap.size <= b \/ ∃ s,C.old s /\ C.tk s = some b:=by
  intro b hb
  rcases k10 b hb with ⟨h,_⟩ | ⟨h,h'⟩
  ·have:=hE.size; exact .inl (by omega)
  ·exact hE.newT t b h h'
 obtain ⟨q1,q2⟩:=k2.write hL hlt (us:=[self,u]) (cs:=bldC p C.nt l') (e:=72) hnew (.cons (.bld _ _ _ _ _ (by show p < C.nb; rw [hI.nb]; exact hlt) _ _ hw2 (.inr hs) (.inr ⟨hn2,by simp [Cx.tok],fun b hb => by
   rw [htok] at hb
   rcases k10 b hb with ⟨_,cs,h⟩ | ⟨h,h'⟩
   ·exact ⟨cs,_,h⟩
   ·rcases hU with rfl | ⟨_,_,h3⟩
    ·have:=(hI.tok 1 h).1; omega
    ·obtain ⟨cs,fz,h4⟩:=h3 b h'
     exact k3.2 _ _ _ _ h4⟩)) (.cons k4 .nil)) (fun T cs0 h0 => by rw [hbx,hw2] at h0; simp only [sI,Obj.cells.injEq] at h0; exact h0.2.1) hsz hother
 refine ⟨_,q1,by simp [Cx.tok],?_⟩
 have hE2:Ext C w (C.tok g cap (pcB l').length 1) bx.length (· ∈ C.nt :: live.filter (· != t)) w2:=by
  refine hE.step (Cx.tok_le _ _ _ _ _) k3 k5 k6 k7 k8 (fun k hk _ ho => k9 k (by have:=hE.size; omega) (fun hgk => by
   rcases hgw k hgk with h | ⟨t,h1,h2⟩
   ·omega
   ·exact ho t h1 h2)) ?_ ?_ (fun p hp hp2 => hE.newB p hp hp2)
  ·rintro b o (hb | ⟨hb,_⟩)
   ·exact .inl hb
   ·exact .inr (hgw b hb)
  ·intro s b htl hb
   simp only [mem_cons,mem_filter] at htl;by_cases htn:s = C.nt
   ·subst htn; rw [htok] at hb; exact hgw b hb
   ·have hm:s ∈ live:=(htl.resolve_left htn).1
    rw [((Cx.tok_le C _ _ _ _).tk s (hI.tok s hm).2.1).1] at hb; exact hE.newT s b hm hb
 have hE3:=hE2.step (C':=C.tok g cap (pcB l').length 1) (nb':=bx.length) (live':=(· ∈ C.nt :: live.filter (· != t))) (CxLe.refl _) q2 rfl rfl rfl (by omega) (fun k hk hne _ => hother k fun hkp => hne p (by rw [hI.nb]; exact hlt) hkp.symm) (fun b o x => .inl x) hE2.newT hE2.newB;rw [length_set]; exact hE3
theorem zbJ {bx:LP PC} {nt p t:Nat} {live:List Nat} {l:L8} (s:L8) (hp:bx[p]? = some (bldC p t l)) (ht:t = 1 \/ t ∈ live) (hlen:l.length + s.length <= 4294967296) :
  FnG (env T hT) 65 [.ref p 0,.d (pS s)] bx nt live (fun _ bx' nt' live' => bx' = bx.set p (bldC p nt (l ++ s)) /\ nt' = nt + 1 /\ live' = nt :: live.filter (· != t)):=by
 intro C w vs hI hnt hold hn2 hl hv
 match vs,hl with
 | [a0,a1],_ =>
  have g0:=hv 0 _ _ rfl rfl; have g1:=hv 1 _ _ rfl rfl
  have e1:a1 = .string ⟨s.toArray⟩:=by
   cases g1 with
   | d _ _ h => cases h; rfl
  have e0:a0 = .pointer (some ⟨C.bx p,0,none⟩):=by
   cases g0; rfl
  subst e0; subst e1
  obtain ⟨i0,hi,hz0,hz1,hz2⟩:=info_parts zfH;obtain ⟨v1,hc,hr1⟩:=ccheck hI hp hT;have HC:=Lib.hid hc; clear hc
  have hE0:=Ext.start hI hold
  have HF:=Lib.hid (fun w' (h:WrP C w bx live T p t (l ++ s) w') => show ∃ u x bx' nt' live' C',Ending.returned (.tuple #[.int .i64 s.length,.nilIface]) = .returned u /\ (bx' = bx.set p (bldC p nt (l ++ s)) /\ nt' = nt + 1 /\ live' = nt :: live.filter (· != t)) /\ Inv ngl T C' bx' (· ∈ live') w' /\ C'.nt = nt' /\ Ext C w C' bx'.length (· ∈ live') w' /\ RpV C' w' x u by
   obtain ⟨C',h1,h2,h3⟩:=h;rw [hnt] at h1 h2 h3;exact ⟨_,.raw _,_,_,_,C',rfl,⟨rfl,rfl,rfl⟩,h1,h2,h3,.raw _⟩)
  have HD:=Lib.hid (fun w1 w2 w' u self g cap hI1 hE1 => bld_done (C:=C) (w:=w) (w1:=w1) (w2:=w2) (w':=w') (u:=u) (self:=self) (g:=g) (cap:=cap) (l:=l) (l':=l ++ s) (bx:=bx) (live:=live) hT hI1 hE1 (by omega) hp);obtain ⟨b,hb⟩:∃ b,b = C.bx p:=⟨_,rfl⟩;rw [<- hb] at HC HD ⊢;have HB:=Lib.hid hb; clear hb
  show Calls Tryz.prog 65 #[.pointer (some ⟨b,0,none⟩),.string ⟨s.toArray⟩] w _
  go_enter Tryz.func65,Tryz.ntmps65
  go_wp2_with (go_at_call 84; refine HC.out.mono ?_)
  rintro e1 w1 rfl ⟨hI1,hF1,o1,o2,o3,o4,o5,hbk⟩;have hE1:Ext C w C bx.length (· ∈ live) w1:=hE0.step (CxLe.refl C) hF1 o1 o2 o3 (by omega) (fun k _ hne _ => o5 k fun h => hne p (by rw [hI.nb]; rcases Nat.lt_or_ge p bx.length with h' | h'; exact h'; rw [getElem?_eq_none h'] at hp; cases hp) (by rw [h]; exact HB.out.symm)) (fun b o x => .inl x) hE0.newT hE0.newB;have c0:w1.cell? ⟨b,0,none⟩ = some (.pointer (some ⟨b,0,none⟩)):=by rw [Lib.cell_of_heap hbk]; rfl
  have c1:w1.cell? ⟨b,1,none⟩ = some v1:=by rw [Lib.cell_of_heap hbk]; rfl
  obtain ⟨u,w2,g,cap,k1,k2,k3,k4,k5,k6,k7,k8,k9,k10⟩:=apps_run (P:=Tryz.prog) hT hI1 (by omega) (t:=22) (t':=9) (e:=5) (i:=i0) Tryz.underlying22 Tryz.underlying9 hi hz0 hz1 hz2 (hr1.frame (CxLe.refl C) hF1) ht s (by rw [zaP]; exact hlen) (zbF l) 22;have hcat:pcB l ++ pcB s = pcB (l ++ s):=by simp [pcB]
  rw [hcat] at k2 k4
  have hne:g ≠ some b:=fun h => by
   rcases k10 b h with ⟨h1,_⟩ | ⟨h1,h2⟩
   ·have:=zaA hbk; omega
   ·obtain ⟨_,_,⟨z,_⟩ | ⟨b',cur,e',d1,_,d3,_,_,_,_,_,_,d9⟩⟩:=hI1.tok t h1
    ·rw [z] at h2; cases h2
    ·rw [h2] at d1; simp only [sI] at d1; subst d1
     exact d9 p (by rcases Nat.lt_or_ge p bx.length with h' | h'; exact h'; rw [getElem?_eq_none h'] at hp; cases hp) HB.out.symm
  have hb2:w2.heap[b]? = some (.cells #[.pointer (some ⟨b,0,none⟩),v1] 72 (0,0)):=(k9 b (zaA hbk) hne).trans hbk;have HW:=Lib.hid (HD.out w1 _ _ _ _ _ _ hI1 hE1 k2 k3 k4 k5 k6 k7 k8 k9 k10 rfl ⟨v1,hb2⟩ rfl);have d0:w2.cell? ⟨b,0,none⟩ = some (.pointer (some ⟨b,0,none⟩)):=by rw [Lib.cell_of_heap hb2]; rfl
  have d1:w2.cell? ⟨b,1,none⟩ = some v1:=by rw [Lib.cell_of_heap hb2]; rfl
  have f1:w2.frozen? ⟨b,1,none⟩ = false:=Lib.frozen_of_heap hb2 1;obtain ⟨ao,cp,rfl,_⟩:=sl_form k4;clear k2 k3 k4 k5 k6 k7 k8 k9 k10 hI hI1 hE0 hE1 hF1 HD o1 o2 o3 o4 o5 hr1
  go_wp2_with (at_builtin; refine zbS rfl _ _ 22 9 rfl _ _ _ _ rfl rfl k1 ?_)
  go_wp2
  go_ret2
  exact HF.out _ HW.out
theorem zeV {bx:LP PC} {nt p t:Nat} {live:List Nat} {l:L8} (s:UInt8) (hp:bx[p]? = some (bldC p t l)) (ht:t = 1 \/ t ∈ live) (hlen:l.length + 1 <= 4294967296) :
  FnG (env T hT) 64 [.ref p 0,.d (.v (.int .u8 s.toNat))] bx nt live (fun _ bx' nt' live' => bx' = bx.set p (bldC p nt (l ++ [s])) /\ nt' = nt + 1 /\ live' = nt :: live.filter (· != t)):=by
 intro C w vs hI hnt hold hn2 hl hv
 match vs,hl with
 | [a0,a1],_ =>
  have g0:=hv 0 _ _ rfl rfl; have g1:=hv 1 _ _ rfl rfl
  have e1:a1 = .int .u8 s.toNat:=by
   cases g1 with
   | d _ _ h => cases h; rfl
  have e0:a0 = .pointer (some ⟨C.bx p,0,none⟩):=by
   cases g0; rfl
  subst e0; subst e1
  obtain ⟨i0,hi,hz0,hz1,hz2⟩:=info_parts zfH;obtain ⟨v1,hc,hr1⟩:=ccheck hI hp hT;have HC:=Lib.hid hc; clear hc
  have hE0:=Ext.start hI hold
  have HF:=Lib.hid (fun w' (h:WrP C w bx live T p t (l ++ [s]) w') => show ∃ u x bx' nt' live' C',Ending.returned (.nilIface) = .returned u /\ (bx' = bx.set p (bldC p nt (l ++ [s])) /\ nt' = nt + 1 /\ live' = nt :: live.filter (· != t)) /\ Inv ngl T C' bx' (· ∈ live') w' /\ C'.nt = nt' /\ Ext C w C' bx'.length (· ∈ live') w' /\ RpV C' w' x u by
   obtain ⟨C',h1,h2,h3⟩:=h;rw [hnt] at h1 h2 h3;exact ⟨_,.raw _,_,_,_,C',rfl,⟨rfl,rfl,rfl⟩,h1,h2,h3,.raw _⟩)
  have HD:=Lib.hid (fun w1 w2 w' u self g cap hI1 hE1 => bld_done (C:=C) (w:=w) (w1:=w1) (w2:=w2) (w':=w') (u:=u) (self:=self) (g:=g) (cap:=cap) (l:=l) (l':=l ++ [s]) (bx:=bx) (live:=live) hT hI1 hE1 (by omega) hp);obtain ⟨b,hb⟩:∃ b,b = C.bx p:=⟨_,rfl⟩;rw [<- hb] at HC HD ⊢;have HB:=Lib.hid hb; clear hb
  show Calls Tryz.prog 64 #[.pointer (some ⟨b,0,none⟩),.int .u8 s.toNat] w _
  go_enter Tryz.func64,Tryz.ntmps64
  go_wp2_with (go_at_call 84; refine HC.out.mono ?_)
  rintro e1 w0 rfl ⟨hI1,hF1,o1,o2,o3,o4,o5,hbk⟩
  have hplt:p < bx.length:=by
   rcases Nat.lt_or_ge p bx.length with h' | h'
   ·exact h'
   ·rw [getElem?_eq_none h'] at hp; cases hp
  have hE1:Ext C w C bx.length (· ∈ live) w0:=hE0.step (CxLe.refl C) hF1 o1 o2 o3 (by omega) (fun k _ hne _ => o5 k fun h => hne p (by rw [hI.nb]; exact hplt) (by rw [h]; exact HB.out.symm)) (fun b o x => .inl x) hE0.newT hE0.newB;obtain ⟨w1,hw1⟩:∃ w1,w1 = w0.alloc (.cells #[.int .u8 s.toNat] 5):=⟨_,rfl⟩;have hI2:Inv ngl T C bx (· ∈ live) w1:=by rw [hw1]; exact hI1.alloc hT _
  have hF2:Fix C w0 w1:=by rw [hw1]; exact zcG hI1.fin _
  have hE2:Ext C w C bx.length (· ∈ live) w1:=hE1.step (CxLe.refl C) hF2 (by rw [hw1]; rfl) (by rw [hw1]; rfl) (by rw [hw1]; rfl) (by rw [hw1]; simp) (fun k hk _ _ => by rw [hw1]; exact heap_alloc_old w0 _ (by have:=hE1.size; omega)) (fun b o x => .inl x) hE1.newT hE1.newB;have hcell:w1.cell? ⟨w0.heap.size,0,none⟩ = some (.int .u8 s.toNat):=by rw [hw1,Lib.cell_of_heap (zaK w0 _)]; rfl
  have hbk1:w1.heap[b]? = some (.cells #[.pointer (some ⟨b,0,none⟩),v1] 72 (0,0)):=by rw [hw1]; exact (heap_alloc_old w0 _ (zaA hbk)).trans hbk
  have c0:w1.cell? ⟨b,0,none⟩ = some (.pointer (some ⟨b,0,none⟩)):=by rw [Lib.cell_of_heap hbk1]; rfl
  have c1:w1.cell? ⟨b,1,none⟩ = some v1:=by rw [Lib.cell_of_heap hbk1]; rfl
  have c2:w0.cell? ⟨b,1,none⟩ = some v1:=by rw [Lib.cell_of_heap hbk]; rfl
  obtain ⟨u,w2,g,cap,k1,k2,k3,k4,k5,k6,k7,k8,k9,k10⟩:=appc_run (P:=Tryz.prog) hT hI2 (by omega) (t:=22) (e:=5) (i:=i0) Tryz.underlying22 hi hz0 hz1 hz2 ((hr1.frame (CxLe.refl C) hF1).frame (CxLe.refl C) hF2) ht s (cy:=1) hcell (by rw [zaP]; exact hlen) (zbF l) 22;have hcat:pcB l ++ pcB [s] = pcB (l ++ [s]):=by simp [pcB]
  rw [hcat] at k2 k4
  have hne:g ≠ some b:=fun h => by
   rcases k10 b h with ⟨h1,_⟩ | ⟨h1,h2⟩
   ·have:=zaA hbk1; omega
   ·obtain ⟨_,_,⟨z,_⟩ | ⟨b',cur,e',d1,_,d3,_,_,_,_,_,_,d9⟩⟩:=hI2.tok t h1
    ·rw [z] at h2; cases h2
    ·rw [h2] at d1; simp only [sI] at d1; subst d1
     exact d9 p hplt HB.out.symm
  have hb2:w2.heap[b]? = some (.cells #[.pointer (some ⟨b,0,none⟩),v1] 72 (0,0)):=(k9 b (zaA hbk1) hne).trans hbk1;have HW:=Lib.hid (HD.out w1 _ _ _ _ _ _ hI2 hE2 k2 k3 k4 k5 k6 k7 k8 k9 k10 rfl ⟨v1,hb2⟩ rfl);have d0:w2.cell? ⟨b,0,none⟩ = some (.pointer (some ⟨b,0,none⟩)):=by rw [Lib.cell_of_heap hb2]; rfl
  have d1:w2.cell? ⟨b,1,none⟩ = some v1:=by rw [Lib.cell_of_heap hb2]; rfl
  have f1:w2.frozen? ⟨b,1,none⟩ = false:=Lib.frozen_of_heap hb2 1;obtain ⟨ao,cp,rfl,_⟩:=sl_form k4;clear k2 k3 k4 k5 k6 k7 k8 k9 k10 hI hI1 hI2 hE0 hE1 hE2 hF1 hF2 HD o1 o2 o3 o4 o5 hr1;subst hw1
  go_wp2_with (at_builtin; refine zbS rfl _ _ 22 22 rfl _ _ _ _ rfl rfl k1 ?_)
  go_wp2;go_ret;exact HF.out _ HW.out
theorem cellsByteB:(Tryz.prog.cellsOf 5) = 1:=by kernel_rfl
theorem bstr_fn {bx:LP PC} {nt p t:Nat} {live:List Nat} {l:L8} (hl0:l ≠ []) (hp:bx[p]? = some (bldC p t l)) (ht:t = 1 \/ t ∈ live) :
  FnG (env T hT) 45 [.ref p 0] bx nt live (fun x bx' nt' live' => x = .d (pS l) /\ bx' = bx /\ nt' = nt /\ live' = live.filter (· != t)):=by
 intro C w vs hI hnt hold hn2 hl hv
 match vs,hl with
 | [a0],_ =>
  have g0:=hv 0 _ _ rfl rfl
  have e0:a0 = .pointer (some ⟨C.bx p,0,none⟩):=by
   cases g0; rfl
  subst e0;obtain ⟨v0,v1,hh,hv0,h1,hU⟩:=zgo hI hp;have hE0:=Ext.start hI hold;have hne:pcB l ≠ []:=by simpa [pcB] using hl0
  have hpl:0 < l.length:=by cases l with | nil => exact absurd rfl hl0 | cons => simp
  obtain ⟨g,cap,cur,rfl,htl,htk,hg,hcp,hcm,hcs,hcell⟩:∃ g cap cur,v1 = .slice (some ⟨g,0,none⟩) l.length cap /\ t ∈ live /\ C.tk t = some g /\ w.heap[g]? = some (.cells cur 5 (0,0)) /\ l.length <= cap /\ cap <= maxLen /\ l.length <= cur.size /\ ∀ j x,l[j]? = some x -> w.cell? ((⟨g,0,none⟩:Addr).add j) = some (.int .u8 x.toNat):=by
   generalize hes:pcB l = es at h1 hne
   cases h1 with
   | emp => exact absurd rfl hne
   | nil => exact absurd rfl hne
   | nilo => exact absurd rfl hne
   | rd es b o n c u hl hc hr h =>
    rcases ht with h0 | h0
    ·cases h0
    ·have:=(hI.tok 0 h0).1; omega
   | own t es b u h2 hlt hb hlen hcl hc hr h =>
    have htl:t ∈ live:=ht.resolve_left (by omega);subst hes;obtain ⟨_,_,⟨z,_⟩ | ⟨b',cur,e',d1,_,d3,d4,d5,d6,d7,_,_,_⟩⟩:=hI.tok t htl
    ·rw [hb] at z; cases z
    rw [hb] at d1; simp only [sI] at d1; subst d1
    obtain ⟨_,_,h3⟩:=hU.resolve_left (by omega);obtain ⟨cs,fz,h4⟩:=h3 b hb;rw [d3] at h4; simp only [sI,Obj.cells.injEq] at h4
    obtain ⟨_,rfl,_⟩:=h4
    have hn1:C.tn t = 1:=by
     obtain ⟨d,hd⟩:=exists_mem_of_ne_nil _ hne;rw [<- hr.wid d hd,zbF l d hd]
    rw [hn1] at d4;rw [zaP] at hcl ⊢;refine ⟨b,C.cp t,cur,rfl,htl,hb,d3,hcl,hc,by omega,fun j x hx => ?_⟩
    have hj:j < l.length:=by
     rcases Nat.lt_or_ge j l.length with h' | h'
     ·exact h'
     ·rw [getElem?_eq_none h'] at hx; cases hx
    have q1:=hr.cell j 0 (by rw [zaP]; exact hj) (by omega);have q2:=h j 0 [.v (.int .u8 x.toNat)] _ (by simp [pcB,hx]) rfl;rw [hn1,Nat.one_mul,Nat.add_zero,Nat.zero_add] at q1;rw [zaJ,Nat.zero_add,q1];generalize u j 0 = y at q2
    cases q2; rfl
  obtain ⟨b,hb⟩:∃ b,b = C.bx p:=⟨_,rfl⟩;obtain ⟨hId,hFd⟩:=hI.drewn hT (w.drawn + 1);obtain ⟨q1,q2,q3,q4,q5,q6,q7⟩:=hId.froze hT (n:=l.length) htl htk;have hE1:Ext C w C bx.length (· ∈ live) { w with drawn:=w.drawn + 1 }:=hE0.step (CxLe.refl C) hFd rfl rfl rfl lR (fun _ _ _ _ => rfl) (fun b o x => .inl x) hE0.newT hE0.newB;have hE2:=hE1.step (CxLe.refl C) (live':=(· ∈ live.filter (· != t))) (nb':=bx.length) q2 q3 q4 q5 (by omega) (fun k hk hne ho => q7 k fun h => ho t (by rw [hold]; exact htl) (by rw [htk,h])) (fun b o x => .inl x) (fun s b hs hb => hE1.newT s b (mem_filter.1 hs).1 hb) hE1.newB;have HF:=Lib.hid (show ∃ u x bx' nt' live' C',Ending.returned (.string ⟨l.toArray⟩) = .returned u /\ (x = .d (pS l) /\ bx' = bx /\ nt' = nt /\ live' = live.filter (· != t)) /\ Inv ngl T C' bx' (· ∈ live') (w.drew.freeze ⟨g,0,none⟩ l.length) /\ C'.nt = nt' /\ Ext C w C' bx'.length (· ∈ live') (w.drew.freeze ⟨g,0,none⟩ l.length) /\ RpV C' (w.drew.freeze ⟨g,0,none⟩ l.length) x u from ⟨_,_,bx,nt,_,C,rfl,⟨rfl,rfl,rfl,rfl⟩,q1,hnt,hE2,.d _ _ (.v _ rfl)⟩)
  rw [<- hb] at hh hv0 ⊢;clear hb
  have c1:w.drew.cell? ⟨b,1,none⟩ = some (.slice (some ⟨g,0,none⟩) l.length cap):=by
   have:w.drew.heap[b]? = some (.cells #[v0,.slice (some ⟨g,0,none⟩) l.length cap] 72 (0,0)):=hh
   rw [Lib.cell_of_heap this]; rfl
  have hSD:(Builtin.unsafeSliceData_ #[22] 97 #[.slice (some ⟨g,0,none⟩) l.length cap]).run Tryz.prog w.drew = .ok (.pointer (some ⟨g,0,none⟩)) w.drew :=
   Lib.run_unsafeSliceData_row _ _ _ _ _ _ (by omega)
  have hUS:(Builtin.unsafeString_ #[97,3] 9 #[.pointer (some ⟨g,0,none⟩),.int .i64 l.length]).run Tryz.prog w.drew = .ok (.string ⟨l.toArray⟩) (w.drew.freeze ⟨g,0,none⟩ l.length):=by
   refine Lib.run_unsafeString_row w.drew 97 3 9 5 Tryz.underlying97 cellsByteB g cur.size (by have hg':w.drew.heap[g]? = some (.cells cur 5 (0,0)):=hg; simp [World.shape?,hg']) l hl0 (by omega) (by unfold maxLen at hcm; omega) ?_;intro j x hx;exact hcell j x hx
  clear q1 q2 q3 q4 q5 q6 q7 hE1 hE2 hE0 hI hId hFd hcell h1 hU hcs;show Calls Tryz.prog 45 #[.pointer (some ⟨b,0,none⟩)] w _
  go_enter Tryz.func45,Tryz.ntmps45
  go_wp2
  go_region
  all_goals (go_wp2; go_ret; exact HF.out)
end
section
def VSmA (n:Nat):Prop:=∀ (x y:V) (cs ds:List Value) (w:World),x.nodes <= n -> Rd w x.d cs -> Rd w y.d ds -> x.bulk <= 4294967295 -> y.bulk <= 4294967295 ->
 Calls Tryz.prog 82 #[.agg cs.toArray,.agg ds.toArray] w fun e w' => e = .returned (.bool (decide (x = y))) /\ Below w.heap.size w w'
def VSmB (n:Nat):Prop:=∀ (x y:List V) (va vb:Value) (w:World),V.nodess x <= n -> Rd w (.sl 5 (V.ds x)) [va] -> Rd w (.sl 5 (V.ds y)) [vb] -> x.length + V.bulks x <= 4294967295 -> y.length + V.bulks y <= 4294967295 ->
 Calls Tryz.prog 97 #[va,vb,.func (.func 82) #[] #[]] w fun e w' => e = .returned (.bool (decide (x = y))) /\ Below w.heap.size w w'
theorem VSmB_of {n:Nat} (hA:VSmA n):VSmB n:=by
 intro la lb va vb w hn h h2 hla hlb;obtain ⟨a,c,rfl,hg⟩:=h.values;obtain ⟨a',c',rfl,hg'⟩:=h2.values;by_cases hlen:la.length = lb.length
 ·have hlt:((la.length:Int) != (lb.length:Int)) = false:=by simp [hlen]
  have HL:=Lib.hid hlen; clear hlen
  go_enter Tryz.func97,Tryz.ntmps97
  go_wp2
  go_loopw [17] (fun i wr => ∃ (k:Nat),k <= la.length /\ i = .int .i64 k /\ la.take k = lb.take k /\ Below w.heap.size w wr) (fun i _ => la.length - (intOf i).toNat)
  case atStart => exact ⟨0,Nat.zero_le _,rfl,by simp,Below.refl _ _⟩
  case round =>
   obtain ⟨k,hk,rfl,htk,hbel⟩:=hrel;have HT:=Lib.hid htk; clear htk
   by_cases hk1:k < la.length
   ·have hk2:k < lb.length:=by have:=HL.out; omega
    obtain ⟨_,_,b,o,rfl,hb,hcell⟩:=hg (by intro e; rw [e] at hk1; simp at hk1);obtain ⟨_,_,b',o',rfl,hb',hcell'⟩:=hg' (by intro e; rw [e] at hk2; simp at hk2);obtain ⟨v0,v1,v2,v3,v4,hr,c0,c1,c2,c3,c4⟩:=hcell k hk1;obtain ⟨x0,x1,x2,x3,x4,hs,d0,d1,d2,d3,d4⟩:=hcell' k hk2;obtain ⟨k1,k2,k3,s4,a6,n6,m6,hcs⟩:=V.form hr;obtain ⟨j1,j2,j3,t4,b6,p6,q6,hds⟩:=V.form hs;simp only [cons.injEq,and_true] at hcs hds;obtain ⟨rfl,rfl,rfl,rfl,rfl⟩:=hcs;obtain ⟨rfl,rfl,rfl,rfl,rfl⟩:=hds;clear hcell hcell' hg hg';obtain ⟨hbc,_⟩:=zbx hbel;have hsz:=hbel.size;have hi1:(0:Int) <= k:=by omega
    have hi2:(k:Int) < lb.length:=by omega
    have hi3:(k:Int) < la.length:=by omega
    have hz1:b < wr.heap.size:=by omega
    have hz2:b' < wr.heap.size:=by omega
    have hnk:=Nat.le_trans (V.nodes_get la k hk1) hn;have hr':=hr.below hbel;have hs':=hs.below hbel;have hA2:=(hbel.alloc hsz (.cells #[.int .i64 k1,.int .i64 k2,.int .i64 k3,.string ⟨s4.toArray⟩,.slice a6 n6 m6] 33)).alloc (by simp; omega) (.cells #[.int .i64 j1,.int .i64 j2,.int .i64 j3,.string ⟨t4.toArray⟩,.slice b6 p6 q6] 33);by_cases he:la[k] = lb[k]
    ·have hd:=Lib.hid (decide_eq_true he)
     have HE:=Lib.hid he;clear he
     go_wp2_with (go_at_call 82; refine (hA _ _ _ _ _ hnk ((hr'.alloc _).alloc _) ((hs'.alloc _).alloc _) (V.bulk_get hla k hk1) (V.bulk_get hlb k hk2)).mono ?_; rw [hd.out]; rintro e w1 ⟨rfl,hb1⟩)
     go_roundw
     case rel => exact ⟨k + 1,by omega,by go_num,ze9 HT.out hk1 hk2 HE.out,zax hA2 hb1 lR⟩
     case measure => simp [intOf] <;> omega
    ·have hd:=Lib.hid (decide_eq_false he)
     have HE:=Lib.hid (decide_eq_false (ne_of_get hk1 hk2 he));clear he
     go_wp2_with (go_at_call 82; refine (hA _ _ _ _ _ hnk ((hr'.alloc _).alloc _) ((hs'.alloc _).alloc _) (V.bulk_get hla k hk1) (V.bulk_get hlb k hk2)).mono ?_; rw [hd.out]; rintro e w1 ⟨rfl,hb1⟩)
     go_ret;exact ⟨by rw [HE.out]; rfl,zax hA2 hb1 lR⟩
   ·obtain rfl:k = la.length:=by omega
    have he:la = lb:=by have:=HT.out; rw [take_length,HL.out,take_length] at this; exact this
    have H:=Lib.hid (decide_eq_true he);clear he;go_wp2;go_ret;exact ⟨by rw [H.out]; rfl,hbel⟩
 ·have H:=Lib.hid (decide_eq_false (show ¬ la = lb from fun e => hlen (by rw [e])))
  go_enter Tryz.func97,Tryz.ntmps97
  go_wp2;go_ret;exact ⟨by rw [H.out]; rfl,Below.refl _ _⟩
theorem VSmA_of {n:Nat} (hB:VSmB n):VSmA (n + 1):=by
 intro x y cs ds w hn h h2 hx hy;obtain ⟨k,m,q,s,kids,v1,rfl,rfl,hkids⟩:=V.lay h;obtain ⟨k',m',q',s',kids',v1',rfl,rfl,hkids'⟩:=V.lay h2;have hnk:V.nodess kids <= n:=by simp only [V.nodes] at hn; omega
 simp only [V.bulk] at hx hy;have hA:=((Below.refl w.heap.size w).alloc lR (.cells #[.int .i64 k,.int .i64 m,.int .i64 q,.string ⟨s.toArray⟩,v1] 33)).alloc (by simp) (.cells #[.int .i64 k',.int .i64 m',.int .i64 q',.string ⟨s'.toArray⟩,v1'] 33);by_cases e1:k = k' /\ m = m' /\ q = q' /\ s = s'
 ·obtain ⟨rfl,rfl,rfl,rfl⟩:=e1
  go_enter Tryz.func82,Tryz.ntmps82
  go_wp2_with fail
  refine (hB _ _ _ _ _ hnk ((hkids.below hA)) (hkids'.below hA) (by omega) (by omega)).mono ?_;by_cases e4:kids = kids'
  ·subst e4
   rw [decide_eq_true rfl];rintro e w2 ⟨rfl,hb2⟩;go_wp2;go_ret;exact ⟨by simp,zax hA hb2 lR⟩
  ·have H:=Lib.hid (V.ne_mk (k:=k) (m:=m) (e:=q) (s:=s) (kids:=kids) (k':=k) (m':=m) (e':=q) (s':=s) (kids':=kids') (by simp [e4]))
   rw [decide_eq_false e4];rintro e w2 ⟨rfl,hb2⟩;clear e4;go_wp2;go_ret;exact ⟨by rw [H.out]; rfl,zax hA hb2 lR⟩
 ·have H:=Lib.hid (V.ne_mk (k:=k) (m:=m) (e:=q) (s:=s) (kids:=kids) (k':=k') (m':=m') (e':=q') (s':=s') (kids':=kids') (by rintro ⟨a,b,c,d,_⟩; exact e1 ⟨a,b,c,d⟩))
  have HA:=Lib.hid hA;by_cases c1:k = k'
  ·subst c1
   by_cases c2:m = m'
   ·subst c2
    by_cases c3:q = q'
    ·subst c3
     have c4:(s == s') = false:=by simpa using fun c => e1 ⟨rfl,rfl,rfl,c⟩
     clear e1
     go_enter Tryz.func82,Tryz.ntmps82
     go_wp2_with fail
     go_ret;exact ⟨by rw [H.out]; rfl,HA.out⟩
    ·clear e1
     have c4:(q == q') = false:=by simpa using c3
     go_enter Tryz.func82,Tryz.ntmps82
     go_wp2_with fail
     go_ret;exact ⟨by rw [H.out]; rfl,HA.out⟩
   ·clear e1
    have c4:(m == m') = false:=by simpa using c2
    go_enter Tryz.func82,Tryz.ntmps82
    go_wp2_with fail
    go_ret;exact ⟨by rw [H.out]; rfl,HA.out⟩
  ·clear e1
   have c4:(k == k') = false:=by simpa using c1
   go_enter Tryz.func82,Tryz.ntmps82
   go_wp2_with fail
   go_ret;exact ⟨by rw [H.out]; rfl,HA.out⟩
theorem VSm_all:∀ n,VSmA n
 | 0 => fun x y cs ds w hn => absurd x.nodes_pos (by omega)
 | n + 1 => VSmA_of (VSmB_of (VSm_all n))
theorem same_any (x y:V) (cs ds:List Value) (w:World) (h:Rd w x.d cs) (h2:Rd w y.d ds) (hx:x.bulk <= 4294967295) (hy:y.bulk <= 4294967295) :
  Calls Tryz.prog 82 #[.agg cs.toArray,.agg ds.toArray] w fun e w' => e = .returned (.bool (decide (x = y))) /\ Below w.heap.size w w':=VSm_all x.nodes x y cs ds w lR h h2 hx hy
end
section
theorem isKey_any (x:V) (cs:List Value) (w:World) (h:Rd w x.d cs) :
  Calls Tryz.prog 81 #[.agg cs.toArray] w fun e w' => e = .returned (.bool (isKeyK x.kind)) /\ Below w.heap.size w w':=by
 obtain ⟨k,m,e,s,kids,v1,rfl,rfl,hkids⟩:=V.lay h;have HA:=Lib.hid ((Below.refl w.heap.size w).alloc lR (.cells #[.int .i64 k,.int .i64 m,.int .i64 e,.string ⟨s.toArray⟩,v1] 33));clear h hkids;show Calls _ _ _ _ fun e' w' => e' = .returned (.bool (isKeyK k)) /\ _
 by_cases h5:k = 5
 ·subst h5
  go_enter Tryz.func81,Tryz.ntmps81
  go_wp2;go_ret;exact ⟨rfl,HA.out⟩
 ·have g5:(k == 5) = false:=by simpa using h5
  have H:=Lib.hid (show isKeyK k = (k == 3) by unfold isKeyK; rw [decide_eq_false h5,Bool.false_or]; rfl)
  go_enter Tryz.func81,Tryz.ntmps81
  go_wp2;go_ret;exact ⟨by rw [H.out]; rfl,HA.out⟩
def V.kidsOk (k:Int) (kids:List V):Bool :=
 if k = 7 then true else if k = 9 then decide (kids.length = 1) else if k = 8 then pairsOkI kids else decide (kids = [])
theorem len0' (l:List V):((l.length:Int) == 0) = decide (l = []):=by
 cases l with
 | nil => rfl
 | cons a r => simp; omega
theorem zgp (x:V) (cs:List Value) (w:World) (h:Rd w x.d cs) (hbk:x.bulk <= 4294967295) :
  Calls Tryz.prog 61 #[.agg cs.toArray] w fun e w' => e = .returned (.bool (V.kidsOk x.kind x.kids)) /\ Below w.heap.size w w':=by
 obtain ⟨q,n,e,s,xs,v1,rfl,rfl,hkids⟩:=V.lay h;have hkb:xs.length + V.bulks xs <= 4294967295:=by simp only [V.bulk] at hbk; omega
 obtain ⟨a,c,rfl,hg⟩:=hkids.values;show Calls _ _ _ _ fun e' w' => e' = .returned (.bool (V.kidsOk q xs)) /\ _
 obtain ⟨ok,hok⟩:∃ ok,V.kidsOk q xs = ok:=⟨_,rfl⟩;rw [hok];have HOK:=Lib.hid hok; clear hok
 obtain ⟨W0,hW0⟩:∃ W0,W0 = w.alloc (.cells #[.int .i64 q,.int .i64 n,.int .i64 e,.string ⟨s.toArray⟩,.slice a xs.length c] 33):=⟨_,rfl⟩;have HW:=Lib.hid hW0;have hA0:Below w.heap.size w W0:=by rw [hW0]; exact (Below.refl _ _).alloc lR _
 have hz:w.heap.size < W0.heap.size:=by rw [hW0]; simp
 have KB:Hid (∀ W,Below W0.heap.size W0 W -> W.cell? ⟨w.heap.size,0,none⟩ = some (.int .i64 q) /\ W.cell? ⟨w.heap.size,4,none⟩ = some (.slice a xs.length c)):=by
  intro W hb;obtain ⟨hc,_⟩:=zbx hb;simp only [hc _ _ hz]; subst hW0; simp
 clear hW0 h hkids hbk;obtain ⟨f0,f4⟩:=KB.out _ (Below.refl _ _);by_cases q7:q = 7
 ·subst q7
  have H:=Lib.hid (show ok = true by rw [<- HOK.out]; rfl)
  go_enter Tryz.func61,Tryz.ntmps61
  go_wp2;rw [<- HW.out];go_ret;exact ⟨by rw [H.out]; rfl,hA0⟩
 by_cases q9:q = 9
 ·subst q9
  have H:=Lib.hid (show ok = decide (xs.length = 1) by rw [<- HOK.out]; rfl)
  go_enter Tryz.func61,Tryz.ntmps61
  go_wp2;rw [<- HW.out];go_ret;exact ⟨by rw [H.out]; exact zaz (by rw [Bool.eq_iff_iff]; simp; omega),hA0⟩
 by_cases q8:q = 8
 ·subst q8
  have HP:=Lib.hid (show ok = pairsOkI xs by rw [<- HOK.out]; rfl);obtain ⟨ks,hks⟩:∃ ks,odds xs = ks:=⟨_,rfl⟩;have hkl:ks.length = (xs.length + 1) / 2:=by rw [<- hks,za7]
  have HKG:Hid (∀ j (h1:2 * j < xs.length) (h2:j < ks.length),ks[j] = xs[2 * j]):=by
   intro j h1 h2; subst hks; exact zdk xs j h1
  have HKS:=Lib.hid hks; clear hks
  clear q7 q9
  go_enter Tryz.func61,Tryz.ntmps61
  go_wp2;rw [<- HW.out]
  go_loopw [3] (fun i wr => ∃ (j k:Nat),k = 2 * j /\ j <= ks.length /\ i = .int .i64 k /\ uniq id (ks.take j) = true /\ Below W0.heap.size W0 wr) (fun i _ => xs.length + 1 - (intOf i).toNat)
  case atStart => exact ⟨0,0,rfl,Nat.zero_le _,rfl,by simp [uniq],Below.refl _ _⟩
  case round =>
   obtain ⟨j,k,hkj,hj,rfl,hu,hbel⟩:=hrel;have HKJ:=Lib.hid hkj;have HU:=Lib.hid hu; clear hu f0 f4
   obtain ⟨f0,f4⟩:=KB.out _ hbel;have hbw:=zax hA0 hbel lR;by_cases hlt:k < xs.length
   ·have hjk:j < ks.length:=by omega
    have hkk:=HKG.out j (by omega) hjk;obtain ⟨_,_,b,o,rfl,hb,hcell⟩:=hg (by intro e; rw [e] at hlt; simp at hlt);have HC:=Lib.hid hcell;obtain ⟨v0,v1,v2,v3,v4,hr,d0,d1,d2,d3,d4⟩:=hcell k hlt;clear hcell;obtain ⟨k1,k2,k3,s4,a6,n6,m6,hcs⟩:=V.form hr;simp only [cons.injEq,and_true] at hcs;obtain ⟨rfl,rfl,rfl,rfl,rfl⟩:=hcs;have hbc:=(zbx hbw).1;rw [<- hbc _ _ hb] at d0 d1 d2 d3 d4;have HX:=Lib.hid (show ks[j] = xs[k] by rw [hkk]; subst hkj; rfl);have hi1:(0:Int) <= k:=by omega
    have hi3:(k:Int) < xs.length:=by omega
    have hbz:b < W0.heap.size:=by have:=hA0.size; omega
    have HD:Hid (∀ W,Below W0.heap.size W0 W -> W.cell? ⟨b,o + k * 5,none⟩ = some (.int .i64 k1) /\ W.cell? ⟨b,o + k * 5 + 1,none⟩ = some (.int .i64 k2) /\ W.cell? ⟨b,o + k * 5 + 2,none⟩ = some (.int .i64 k3) /\ W.cell? ⟨b,o + k * 5 + 3,none⟩ = some (.string ⟨s4.toArray⟩) /\ W.cell? ⟨b,o + k * 5 + 4,none⟩ = some (.slice a6 n6 m6)):=by
     intro W hW;have h1:=(zbx hW).1;have h2:=(zbx hbel).1;rw [h2 _ _ hbz] at d0 d1 d2 d3 d4;simp only [h1 _ _ hbz]; exact ⟨d0,d1,d2,d3,d4⟩
    have HK1:=Lib.hid (fun W (hW:Below W0.heap.size W0 W) => isKey_any xs[k] _ W (hr.below (zax hA0 hW lR)));have HXR:=Lib.hid (fun W (hW:Below W0.heap.size W0 W) => (hr.below (zax hA0 hW lR)));clear hbc hkk hkj hr
    cases hkey:isKeyK xs[k].kind with
    | true =>
     have HK:=Lib.hid hkey; clear hkey
     go_wp2_with (go_at_call 81; refine (HK1.out _ hbel).mono ?_; rw [HK.out]; rintro e w1 ⟨rfl,hb1⟩; have hbe1:=zax hbel hb1 lR; clear d0 d1 d2 d3 d4 f0 f4; obtain ⟨f0,f4⟩:=KB.out _ hbe1)
     go_loopw [4] (fun i wr => ∃ (m r:Nat),r = 2 * m /\ m <= j /\ i = .int .i64 r /\ xs[k] ∉ ks.take m /\ Below W0.heap.size W0 wr) (fun i _ => k + 1 - (intOf i).toNat)
     case atStart => exact ⟨0,0,rfl,Nat.zero_le _,rfl,by simp,hbe1⟩
     case round =>
      obtain ⟨m,r,hrm,hm,rfl,hni,hbel2⟩:=hrel;have HRM:=Lib.hid hrm;have HNI:=Lib.hid hni; clear hni
      have hkj:=HKJ.out;have hbw2:=zax hA0 hbel2 lR;clear f0 f4;obtain ⟨f0,f4⟩:=KB.out _ hbel2;by_cases hml:r < k
      ·have hrx:r < xs.length:=by omega
       have hmk:m < ks.length:=by omega
       have hmm:=HKG.out m (by omega) hmk;obtain ⟨u0,u1,u2,u3,u4,hr2,e0,e1,e2,e3,e4⟩:=HC.out r hrx;obtain ⟨y1,y2,y3,t4,b6,p6,r6,hcs2⟩:=V.form hr2;simp only [cons.injEq,and_true] at hcs2;obtain ⟨rfl,rfl,rfl,rfl,rfl⟩:=hcs2;have HY:=Lib.hid (show ks[m] = xs[r] by rw [hmm]; subst hrm; rfl)
       have HE:Hid (∀ W,Below W0.heap.size W0 W -> W.cell? ⟨b,o + r * 5,none⟩ = some (.int .i64 y1) /\ W.cell? ⟨b,o + r * 5 + 1,none⟩ = some (.int .i64 y2) /\ W.cell? ⟨b,o + r * 5 + 2,none⟩ = some (.int .i64 y3) /\ W.cell? ⟨b,o + r * 5 + 3,none⟩ = some (.string ⟨t4.toArray⟩) /\ W.cell? ⟨b,o + r * 5 + 4,none⟩ = some (.slice b6 p6 r6)):=by
        intro W hW;have h1:=(zbx (zax hA0 hW lR)).1;simp only [h1 _ _ hb]; exact ⟨e0,e1,e2,e3,e4⟩
       have hj1:(0:Int) <= r:=by omega
       have hj3:(r:Int) < xs.length:=by omega
       have hj5:(r:Int) < k:=by omega
       have hm5:m < j:=by omega
       have hr5:r + 2 < k + 3:=by omega
       have HS:=Lib.hid (fun W (hW:Below W0.heap.size W0 W) => same_any xs[k] xs[r] _ _ W (HXR.out W hW) (hr2.below (zax hA0 hW lR)) (V.bulk_get hkb k hlt) (V.bulk_get hkb r hrx));have hB:=hbel2;clear hmm hrm hkj e0 e1 e2 e3 e4 hr2 f0 f4;by_cases heq:xs[k] = xs[r]
       ·have HQ:=Lib.hid (decide_eq_true heq)
        have HF:=Lib.hid (show ok = false by
         rw [HP.out]; unfold pairsOkI; rw [HKS.out,zdY hjk (by
          rw [HX.out,map_id];exact mem_take_iff_getElem.2 ⟨m,by omega,by rw [HY.out,<- heq]; rfl⟩)]; rfl)
        clear heq
        go_wp2_with fail
        go_region_held3 (fun W => (W.cell? ⟨w.heap.size,0,none⟩ = some (.int .i64 8) /\ W.cell? ⟨w.heap.size,4,none⟩ = some (.slice (some ⟨b,o,none⟩) xs.length c)) /\ (W.cell? ⟨b,o + k * 5,none⟩ = some (.int .i64 k1) /\ W.cell? ⟨b,o + k * 5 + 1,none⟩ = some (.int .i64 k2) /\ W.cell? ⟨b,o + k * 5 + 2,none⟩ = some (.int .i64 k3) /\ W.cell? ⟨b,o + k * 5 + 3,none⟩ = some (.string ⟨s4.toArray⟩) /\ W.cell? ⟨b,o + k * 5 + 4,none⟩ = some (.slice a6 n6 m6)) /\ W.cell? ⟨b,o + r * 5,none⟩ = some (.int .i64 y1) /\ W.cell? ⟨b,o + r * 5 + 1,none⟩ = some (.int .i64 y2) /\ W.cell? ⟨b,o + r * 5 + 2,none⟩ = some (.int .i64 y3) /\ W.cell? ⟨b,o + r * 5 + 3,none⟩ = some (.string ⟨t4.toArray⟩) /\ W.cell? ⟨b,o + r * 5 + 4,none⟩ = some (.slice b6 p6 r6))
         (first | exact ⟨KB.out _ hB,HD.out _ hB,HE.out _ hB⟩ | exact ⟨KB.out _ hB.drew,HD.out _ hB.drew,HE.out _ hB.drew⟩)
         (first | (go_at_call 82; with_reducible refine (HS.out _ (by first | exact hB | exact hB.drew)).mono ?_; rw [HQ.out]; rintro e w2 ⟨rfl,hb2⟩; replace hB:=zax (by first | exact hB | exact hB.drew) hb2 lR))
        go_wp2;go_ret;exact ⟨by rw [HF.out]; rfl,zax hA0 hB lR⟩
       ·have HQ:=Lib.hid (decide_eq_false heq)
        have HM:Hid (xs[k] ∉ ks.take (m + 1)):=by
         show _ ∉ _;rw [take_succ_eq_append_getElem hmk,mem_append,HY.out];rintro (h | h)
         ·exact HNI.out h
         ·exact heq (by simpa using h)
        clear heq
        go_wp2_with fail
        go_region_held3 (fun W => (W.cell? ⟨w.heap.size,0,none⟩ = some (.int .i64 8) /\ W.cell? ⟨w.heap.size,4,none⟩ = some (.slice (some ⟨b,o,none⟩) xs.length c)) /\ (W.cell? ⟨b,o + k * 5,none⟩ = some (.int .i64 k1) /\ W.cell? ⟨b,o + k * 5 + 1,none⟩ = some (.int .i64 k2) /\ W.cell? ⟨b,o + k * 5 + 2,none⟩ = some (.int .i64 k3) /\ W.cell? ⟨b,o + k * 5 + 3,none⟩ = some (.string ⟨s4.toArray⟩) /\ W.cell? ⟨b,o + k * 5 + 4,none⟩ = some (.slice a6 n6 m6)) /\ W.cell? ⟨b,o + r * 5,none⟩ = some (.int .i64 y1) /\ W.cell? ⟨b,o + r * 5 + 1,none⟩ = some (.int .i64 y2) /\ W.cell? ⟨b,o + r * 5 + 2,none⟩ = some (.int .i64 y3) /\ W.cell? ⟨b,o + r * 5 + 3,none⟩ = some (.string ⟨t4.toArray⟩) /\ W.cell? ⟨b,o + r * 5 + 4,none⟩ = some (.slice b6 p6 r6))
         (first | exact ⟨KB.out _ hB,HD.out _ hB,HE.out _ hB⟩ | exact ⟨KB.out _ hB.drew,HD.out _ hB.drew,HE.out _ hB.drew⟩)
         (first | (go_at_call 82; with_reducible refine (HS.out _ (by first | exact hB | exact hB.drew)).mono ?_; rw [HQ.out]; rintro e w2 ⟨rfl,hb2⟩; replace hB:=zax (by first | exact hB | exact hB.drew) hb2 lR))
        go_wp2;go_roundw
        case rel => exact ⟨m + 1,r + 2,by have:=HRM.out; omega,by omega,by go_num,HM.out,hB⟩
        case measure => simp [intOf]; omega
      ·obtain rfl:m = j:=by omega
       have HM:Hid (uniq id (ks.take (m + 1)) = true):=zdX hjk HU.out (by rw [HX.out]; exact HK.out) (by rw [HX.out,map_id]; exact HNI.out);clear hrm hkj;go_wp2;go_roundw
       case rel => exact ⟨m + 1,k + 2,by have:=HKJ.out; omega,by omega,by go_num,HM.out,hbel2⟩
       case measure => simp [intOf]; omega
    | false =>
     have HK:=Lib.hid hkey;have HF:=Lib.hid (show ok = false by rw [HP.out]; unfold pairsOkI; rw [HKS.out,zfD hjk (by rw [HX.out]; exact hkey)]; rfl);clear hkey
     go_wp2_with (go_at_call 81; refine (HK1.out _ hbel).mono ?_; rw [HK.out]; rintro e w1 ⟨rfl,hb1⟩)
     go_ret;exact ⟨by rw [HF.out]; rfl,zax hbw hb1 lR⟩
   ·obtain rfl:j = ks.length:=by omega
    clear hkj;have h1:=HU.out;rw [take_length] at h1;have HF:=Lib.hid (show ok = decide (xs.length % 2 = 0) by rw [HP.out]; unfold pairsOkI; rw [HKS.out,h1]; rfl);clear h1;go_wp2;go_ret;exact ⟨by rw [HF.out]; exact zaz (by rw [Bool.eq_iff_iff]; simp <;> omega),hbw⟩
 ·have H:=Lib.hid (show ok = decide (xs = []) by rw [<- HOK.out]; unfold V.kidsOk; rw [if_neg q7,if_neg q9,if_neg q8])
  have g7:(q == 7) = false:=by simpa using q7
  have g8:(q == 8) = false:=by simpa using q8
  have g9:(q == 9) = false:=by simpa using q9
  go_enter Tryz.func61,Tryz.ntmps61
  go_wp2;rw [<- HW.out];go_ret;exact ⟨by rw [H.out,<- len0']; rfl,hA0⟩
end
end Go.Proofs.YthgeaoidcffmeaaGreatDoor
/-
  DERIVED: THE SHELF's CONTRACTS AT THIS DUMP, IN PLAIN WORDS (tools/lay-plain.mjs out of 'TryzShelf.lean', which tools/lay-shelf.mjs wrote): THE SAME DECLARATIONS UNDER THE SAME NAMES: 'import', 'namespace', 'open', 'def', 'theorem' AND NOTHING ELSE: no command of the shelf's: FOR A HAND-IN. Each laying: the table of numbers ('.._ren') and one theorem, a field a fact of the dump's own or the kernel's comparison; each contract: ONE APPLICATION.
-/
namespace Go.Proofs
open Go.Shelf
def Tryz.laysValid_ren:Go.Shelf.Ren:=⟨fun | 196 => 96 | 259 => 101 | n => n,fun | 9 => 9 | 4 => 4 | 3 => 3 | 5 => 5 | 12 => 12 | 119 => 119 | 0 => 0 | 46 => 69 | 139 => 122 | 138 => 121 | 53 => 66 | n => n,fun | 3 => 0 | 4 => 1 | n => n⟩
theorem Tryz.laysValid:Go.Proofs.Lays.n196 Tryz.prog Tryz.laysValid_ren:={
 mixed:=by kernel_rfl
 f196:=Tryz.func96.trans (congrArg some (by kernel_rfl))
 f259:=Tryz.func101.trans (congrArg some (by kernel_rfl))
 t0:=Tryz.underlying0
 a0:=Tryz.isAgg0
 z0:=Tryz.sizeOf0
 v0:=Tryz.zeroValue0
 t3:=Tryz.underlying3
 a3:=Tryz.isAgg3
 z3:=Tryz.sizeOf3
 v3:=Tryz.zeroValue3
 t4:=Tryz.underlying4
 a4:=Tryz.isAgg4
 z4:=Tryz.sizeOf4
 v4:=Tryz.zeroValue4
 t5:=Tryz.underlying5
 a5:=Tryz.isAgg5
 z5:=Tryz.sizeOf5
 v5:=Tryz.zeroValue5
 t9:=Tryz.underlying9
 a9:=Tryz.isAgg9
 z9:=Tryz.sizeOf9
 v9:=Tryz.zeroValue9
 t12:=Tryz.underlying12
 a12:=Tryz.isAgg12
 z12:=Tryz.sizeOf12
 v12:=Tryz.zeroValue12
 t46:=Tryz.underlying69
 a46:=Tryz.isAgg69
 z46:=Tryz.sizeOf69
 v46:=Tryz.zeroValue69
 t53:=Tryz.underlying66
 a53:=Tryz.isAgg66
 z53:=Tryz.sizeOf66
 v53:=Tryz.zeroValue66
 t119:=Tryz.underlying119
 a119:=Tryz.isAgg119
 z119:=Tryz.sizeOf119
 t138:=Tryz.underlying121
 a138:=Tryz.isAgg121
 z138:=Tryz.sizeOf121
 v138:=Tryz.zeroValue121
 t139:=Tryz.underlying122
 a139:=Tryz.isAgg122
 z139:=Tryz.sizeOf122
 v139:=Tryz.zeroValue122
 g3:=by kernel_rfl
 g4:=by kernel_rfl }
open Go.RowKit Go.Lib in
theorem Tryz.utf8_ValidString (s:ByteArray) (w:World) (hs:s.size <= 9223372036854775807) (hT:Lib.Utf8Tabs 0 1 w) :
  Calls Tryz.prog 96 #[.string s] w fun e w' => e = .returned (.bool (Lib.validD s.data.toList)) /\ Below w.heap.size w w':=Any.utf8_ValidString Tryz.laysValid s w hs hT
end Go.Proofs
namespace Go.Proofs.YthgeaoidcffmeaaGreatDoor
open Go.RowKit
set_option maxHeartbeats 4000000
set_option maxRecDepth 100000
open List
section
open Go.Lib (validD)
def Tabs (w:World):Prop:=Lib.Utf8Tabs 0 1 w
theorem Tabs.below {w w':World} (h:Tabs w) (hb:Below w.heap.size w w'):Tabs w':=Utf8Tabs_below h hb
theorem Tabs.lt {w:World} (h:Tabs w):0 < w.heap.size /\ 1 < w.heap.size:=by
 have key:∀ {b o:Nat} {v:Value},w.cell? ⟨b,o,none⟩ = some v -> b < w.heap.size:=by
  intro b o v h; apply Classical.byContradiction; intro hn
  simp [World.cell?,Array.getElem?_eq_none (Nat.le_of_not_lt hn)] at h
 exact ⟨key (h.1 0 (by decide)),key (h.2 0 (by decide)).1⟩
theorem Tabs.below' {B:Nat} {w w':World} (h:Tabs w) (hb:Below B w w') (h1:0 < B) (h2:1 < B):Tabs w':=by
 refine ⟨fun c hc => ?_,fun i hi => ?_⟩
 ·rw [hb.cell (p:=⟨_,_,none⟩) h1]; exact h.1 c hc
 ·rw [hb.cell (p:=⟨_,_,none⟩) h2,hb.cell (p:=⟨_,_,none⟩) h2]; exact h.2 i hi
theorem zd0 (l:L8) (w:World) (hl:l.length <= 4294967295) (hT:Tabs w) :
  Calls Tryz.prog 80 #[.string ⟨l.toArray⟩] w fun e w' => e = .returned (.bool (validD l)) /\ Below w.heap.size w w':=by
 have HC:=Lib.hid (Tryz.utf8_ValidString ⟨l.toArray⟩ w (by simp [ByteArray.size]; omega) hT)
 go_enter Tryz.func80,Tryz.ntmps80
 go_wp2_with (go_at_call 96; refine HC.out.mono ?_; rintro e w1 ⟨rfl,hb1⟩)
 go_ret;exact ⟨rfl,hb1⟩
end
section
open Go.Lib (validD)
def V.node:V -> Bool
 | .mk k n e s _ =>
  if k = 0 \/ k = 1 \/ k = 2 \/ k = 7 \/ k = 8 then decide (n = 0) && (decide (e = 0) && decide (s = []))
  else if k = 3 then decide (e = 0) && decide (s = [])
  else if k = 4 then decOk n e && decide (s = [])
  else if k = 5 then decide (s.length <= 2000) && (validD s && (decide (n = 0) && decide (e = 0)))
  else if k = 6 then decide (s.length <= 2000) && (decide (n = 0) && decide (e = 0))
  else if k = 9 then inR n 0 1000000 && (decide (e = 0) && decide (s = []))
  else false
theorem V.selfI_node (x:V):x.selfI = (x.node && V.kidsOk x.kind x.kids):=by
 obtain ⟨k,n,e,s,kids⟩:=x;show V.selfBy pairsOkI _ = (_ && V.kidsOk k kids);unfold V.node V.kidsOk V.selfBy;by_cases h0:k = 0 \/ k = 1 \/ k = 2
 ·rcases h0 with rfl | rfl | rfl <;> simp [Bool.and_assoc]
 by_cases h3:k = 3
 ·subst h3; simp [Bool.and_assoc]
 by_cases h4:k = 4
 ·subst h4; simp [Bool.and_assoc]
 by_cases h5:k = 5
 ·subst h5
  show (decide (n = 0) && (decide (e = 0) && (validD s && (decide (s.length <= 2000) && decide (kids = []))))) = ((decide (s.length <= 2000) && (validD s && (decide (n = 0) && decide (e = 0)))) && decide (kids = []))
  cases decide (n = 0) <;> cases decide (e = 0) <;> cases validD s <;> cases decide (s.length <= 2000) <;> cases decide (kids = []) <;> rfl
 by_cases h6:k = 6
 ·subst h6
  show (decide (n = 0) && (decide (e = 0) && (decide (s.length <= 2000) && decide (kids = [])))) = ((decide (s.length <= 2000) && (decide (n = 0) && decide (e = 0))) && decide (kids = []))
  cases decide (n = 0) <;> cases decide (e = 0) <;> cases decide (s.length <= 2000) <;> cases decide (kids = []) <;> rfl
 by_cases h7:k = 7
 ·subst h7; simp
 by_cases h8:k = 8
 ·subst h8; simp [Bool.and_assoc]
 by_cases h9:k = 9
 ·subst h9; simp [Bool.and_assoc]
 ·have a0:k ≠ 0:=fun e => h0 (.inl e)
  have a1:k ≠ 1:=fun e => h0 (.inr (.inl e))
  have a2:k ≠ 2:=fun e => h0 (.inr (.inr e))
  simp [a0,a1,a2,h3,h4,h5,h6,h7,h8,h9]
theorem isNode_any (x:V) (cs:List Value) (w:World) (h:Rd w x.d cs) (hwf:x.wf) (hbk:x.bulk <= 4294967295) (hT:Tabs w) :
  Calls Tryz.prog 60 #[.agg cs.toArray] w fun e w' => e = .returned (.bool x.node) /\ Below w.heap.size w w':=by
 obtain ⟨k,n,e,s,kids,v1,rfl,rfl,hkids⟩:=V.lay h;obtain ⟨a1,c1,rfl⟩:=Rd.sl_form hkids;rw [V.ds_map,length_map] at h ⊢;have hsl:s.length <= 4294967295:=by simp only [V.bulk] at hbk; omega
 have HD:=Lib.hid (fun w1 (hb:Below w.heap.size w w1) => isDec_any _ _ w1 (h.below hb) hwf);clear h hkids hbk hwf;obtain ⟨ok,hok⟩:∃ ok,V.node (.mk k n e s kids) = ok:=⟨_,rfl⟩;rw [hok];have HOK:=Lib.hid hok; clear hok
 by_cases q0:k = 0
 ·subst q0
  go_enter Tryz.func60,Tryz.ntmps60
  go_wp2
  all_goals (go_ret; refine ⟨zaz ?_,by first | exact ((Below.refl _ _).alloc lR _).alloc (by simp) _ | exact below_drewN (((Below.refl _ _).alloc lR _).alloc (by simp) _) _⟩; rw [<- HOK.out]; simp_all [V.node,isE])
 by_cases q1:k = 1
 ·subst q1
  go_enter Tryz.func60,Tryz.ntmps60
  go_wp2
  all_goals (go_ret; refine ⟨zaz ?_,by first | exact ((Below.refl _ _).alloc lR _).alloc (by simp) _ | exact below_drewN (((Below.refl _ _).alloc lR _).alloc (by simp) _) _⟩; rw [<- HOK.out]; simp_all [V.node,isE])
 by_cases q2:k = 2
 ·subst q2
  go_enter Tryz.func60,Tryz.ntmps60
  go_wp2
  all_goals (go_ret; refine ⟨zaz ?_,by first | exact ((Below.refl _ _).alloc lR _).alloc (by simp) _ | exact below_drewN (((Below.refl _ _).alloc lR _).alloc (by simp) _) _⟩; rw [<- HOK.out]; simp_all [V.node,isE])
 by_cases q7:k = 7
 ·subst q7
  go_enter Tryz.func60,Tryz.ntmps60
  go_wp2
  all_goals (go_ret; refine ⟨zaz ?_,by first | exact ((Below.refl _ _).alloc lR _).alloc (by simp) _ | exact below_drewN (((Below.refl _ _).alloc lR _).alloc (by simp) _) _⟩; rw [<- HOK.out]; simp_all [V.node,isE])
 by_cases q8:k = 8
 ·subst q8
  go_enter Tryz.func60,Tryz.ntmps60
  go_wp2
  all_goals (go_ret; refine ⟨zaz ?_,by first | exact ((Below.refl _ _).alloc lR _).alloc (by simp) _ | exact below_drewN (((Below.refl _ _).alloc lR _).alloc (by simp) _) _⟩; rw [<- HOK.out]; simp_all [V.node,isE])
 by_cases q3:k = 3
 ·subst q3
  go_enter Tryz.func60,Tryz.ntmps60
  go_wp2
  all_goals (go_ret; refine ⟨zaz ?_,by first | exact ((Below.refl _ _).alloc lR _).alloc (by simp) _ | exact below_drewN (((Below.refl _ _).alloc lR _).alloc (by simp) _) _⟩; rw [<- HOK.out]; simp_all [V.node,isE])
 by_cases q9:k = 9
 ·subst q9
  by_cases g:0 <= n /\ n <= 1000000
  ·have H:=Lib.hid (show ok = (decide (e = 0) && decide (s = [])) by rw [<- HOK.out]; simp [V.node,zaE g])
   go_enter Tryz.func60,Tryz.ntmps60
   go_wp2
   all_goals (go_ret; refine ⟨zaz ?_,by first | exact ((Below.refl _ _).alloc lR _).alloc (by simp) _ | exact (((Below.refl _ _).alloc lR _).alloc (by simp) _).setCell (by simp) _⟩; rw [H.out]; simp_all [isE])
  ·have H:=Lib.hid (show ok = false by rw [<- HOK.out]; simp [V.node,zba g])
   have H2:=Lib.hid (zba g)
   go_enter Tryz.func60,Tryz.ntmps60
   go_wp2_with (go_at_call 19; refine (zbK _ _ _ _).mono ?_; rw [H2.out]; rintro e1 w1 ⟨rfl,rfl⟩)
   all_goals (go_ret; exact ⟨by rw [H.out]; rfl,((Below.refl _ _).alloc lR _).alloc (by simp) _⟩)
 by_cases q6:k = 6
 ·subst q6
  by_cases g:s.length <= 2000
  ·have H:=Lib.hid (show ok = (decide (n = 0) && decide (e = 0)) by rw [<- HOK.out]; simp [V.node,g])
   go_enter Tryz.func60,Tryz.ntmps60
   go_wp2
   all_goals (go_ret; refine ⟨zaz ?_,by first | exact ((Below.refl _ _).alloc lR _).alloc (by simp) _ | exact (((Below.refl _ _).alloc lR _).alloc (by simp) _).setCell (by simp) _⟩; rw [H.out]; simp_all [])
  ·have H:=Lib.hid (show ok = false by rw [<- HOK.out]; simp [V.node,g])
   have g':(2000:Int) < s.length:=by omega
   go_enter Tryz.func60,Tryz.ntmps60
   go_wp2
   all_goals (go_ret; exact ⟨by rw [H.out]; rfl,((Below.refl _ _).alloc lR _).alloc (by simp) _⟩)
 by_cases q5:k = 5
 ·subst q5
  by_cases g:s.length <= 2000
  ·have g':¬ (2000:Int) < s.length:=by omega
   have g2:=decide_eq_false g'
   cases hv:validD s with
   | true =>
    have HV:=Lib.hid hv;have H:=Lib.hid (show ok = (decide (n = 0) && decide (e = 0)) by rw [<- HOK.out]; simp [V.node,g,hv]);clear hv
    go_enter Tryz.func60,Tryz.ntmps60
    go_wp2_with (go_at_call 80; refine (zd0 s _ hsl (hT.below (((Below.refl _ _).alloc lR _).alloc (by simp) _))).mono ?_; rw [HV.out]; rintro e1 w1 ⟨rfl,hb1⟩; have C:=(zbx hb1).1; have F:=(zbx hb1).2; have hz1:=hb1.size; have z1:w.heap.size < w1.heap.size:=(by simp at hz1; omega); have z2:w.heap.size + 1 < w1.heap.size:=(by simp at hz1; omega); have f1:w1.cell? ⟨w.heap.size,1,none⟩ = some (.int .i64 n):=(by rw [C _ _ (by simp <;> omega)]; simp [go_sem]); have f2:w1.cell? ⟨w.heap.size,2,none⟩ = some (.int .i64 e):=(by rw [C _ _ (by simp <;> omega)]; simp [go_sem]); have f3:w1.cell? ⟨w.heap.size,3,none⟩ = some (.string ⟨s.toArray⟩):=(by rw [C _ _ (by simp <;> omega)]; simp [go_sem]); have p1:w1.cell? ⟨w.heap.size + 1,1,none⟩ = some (.int .i64 0):=(by rw [C _ _ (by simp <;> omega)]; simp [go_sem]); have p2:w1.cell? ⟨w.heap.size + 1,2,none⟩ = some (.int .i64 0):=(by rw [C _ _ (by simp <;> omega)]; simp [go_sem]); have p3:w1.cell? ⟨w.heap.size + 1,3,none⟩ = some (.string ⟨#[]⟩):=(by rw [C _ _ (by simp <;> omega)]; simp [go_sem]); have p9:w1.frozen? ⟨w.heap.size + 1,3,none⟩ = false:=(by rw [F _ _ (by simp <;> omega)]; simp [go_sem]); clear C F hz1)
    all_goals (go_ret; refine ⟨zaz ?_,by first | exact (zax (((Below.refl _ _).alloc lR _).alloc (by simp) _) hb1 lR).setCell (by simp) _ | exact zax (((Below.refl _ _).alloc lR _).alloc (by simp) _) hb1 lR⟩; rw [H.out]; simp_all [])
   | false =>
    have HV:=Lib.hid hv;have H:=Lib.hid (show ok = false by rw [<- HOK.out]; simp [V.node,hv]);clear hv
    go_enter Tryz.func60,Tryz.ntmps60
    go_wp2_with (go_at_call 80; refine (zd0 s _ hsl (hT.below (((Below.refl _ _).alloc lR _).alloc (by simp) _))).mono ?_; rw [HV.out]; rintro e1 w1 ⟨rfl,hb1⟩)
    go_ret;exact ⟨by rw [H.out]; rfl,zax (((Below.refl _ _).alloc lR _).alloc (by simp) _) hb1 lR⟩
  ·have H:=Lib.hid (show ok = false by rw [<- HOK.out]; simp [V.node,g])
   have g':(2000:Int) < s.length:=by omega
   go_enter Tryz.func60,Tryz.ntmps60
   go_wp2
   all_goals (go_ret; exact ⟨by rw [H.out]; rfl,((Below.refl _ _).alloc lR _).alloc (by simp) _⟩)
 by_cases q4:k = 4
 ·subst q4
  cases hv:decOk n e with
  | true =>
   have HV:=Lib.hid (show decOk (V.num (.mk 4 n e s kids)) (V.exp (.mk 4 n e s kids)) = true from hv);have H:=Lib.hid (show ok = decide (s = []) by rw [<- HOK.out]; simp [V.node,hv]);clear hv
   go_enter Tryz.func60,Tryz.ntmps60
   go_wp2_with (go_at_call 79; refine (HD.out _ (((Below.refl _ _).alloc lR _).alloc (by simp) _)).mono ?_; rw [HV.out]; rintro e1 w1 ⟨rfl,hb1⟩; have C:=(zbx hb1).1; have F:=(zbx hb1).2; have hz1:=hb1.size; have z1:w.heap.size < w1.heap.size:=(by simp at hz1; omega); have z2:w.heap.size + 1 < w1.heap.size:=(by simp at hz1; omega); have f1:w1.cell? ⟨w.heap.size,1,none⟩ = some (.int .i64 n):=(by rw [C _ _ (by simp <;> omega)]; simp [go_sem]); have f2:w1.cell? ⟨w.heap.size,2,none⟩ = some (.int .i64 e):=(by rw [C _ _ (by simp <;> omega)]; simp [go_sem]); have f3:w1.cell? ⟨w.heap.size,3,none⟩ = some (.string ⟨s.toArray⟩):=(by rw [C _ _ (by simp <;> omega)]; simp [go_sem]); have p1:w1.cell? ⟨w.heap.size + 1,1,none⟩ = some (.int .i64 0):=(by rw [C _ _ (by simp <;> omega)]; simp [go_sem]); have p2:w1.cell? ⟨w.heap.size + 1,2,none⟩ = some (.int .i64 0):=(by rw [C _ _ (by simp <;> omega)]; simp [go_sem]); have p3:w1.cell? ⟨w.heap.size + 1,3,none⟩ = some (.string ⟨#[]⟩):=(by rw [C _ _ (by simp <;> omega)]; simp [go_sem]); have p8:w1.frozen? ⟨w.heap.size + 1,1,none⟩ = false:=(by rw [F _ _ (by simp <;> omega)]; simp [go_sem]); have p9:w1.frozen? ⟨w.heap.size + 1,2,none⟩ = false:=(by rw [F _ _ (by simp <;> omega)]; simp [go_sem]); clear C F hz1)
   have hbel:Below w.heap.size w w1:=zax (((Below.refl _ _).alloc lR _).alloc (by simp) _) hb1 lR
   go_region
   all_goals (go_wp2; go_ret; refine ⟨zaz ?_,by first | exact ((hbel.setCell (by simp) _).setCell (by simp) _).drew | exact (hbel.setCell (by simp) _).setCell (by simp) _ | exact below_drewN ((hbel.setCell (by simp) _).setCell (by simp) _) _⟩; rw [H.out]; simp [isE])
  | false =>
   have HV:=Lib.hid (show decOk (V.num (.mk 4 n e s kids)) (V.exp (.mk 4 n e s kids)) = false from hv);have H:=Lib.hid (show ok = false by rw [<- HOK.out]; simp [V.node,hv]);clear hv
   go_enter Tryz.func60,Tryz.ntmps60
   go_wp2_with (go_at_call 79; refine (HD.out _ (((Below.refl _ _).alloc lR _).alloc (by simp) _)).mono ?_; rw [HV.out]; rintro e1 w1 ⟨rfl,hb1⟩)
   go_ret;exact ⟨by rw [H.out]; rfl,zax (((Below.refl _ _).alloc lR _).alloc (by simp) _) hb1 lR⟩
 have H:=Lib.hid (show ok = false by rw [<- HOK.out]; simp [V.node,q0,q1,q2,q3,q4,q5,q6,q7,q8,q9])
 go_enter Tryz.func60,Tryz.ntmps60
 go_wp2
 all_goals (go_ret; exact ⟨by rw [H.out]; rfl,((Below.refl _ _).alloc lR _).alloc (by simp) _⟩)
end
section
section
variable {P:Program} {ops:Array Oper} {Q:Exit -> Act -> World -> Prop} {md:Region.Mode} {S:World -> Prop}
theorem zbA {i F fuel:Nat} {oi:Oper} {d:Option Tmp} {v:Value} {listed listed':Array Bool} {a:Act} {w:World} (hi:ops[i]? = some oi) (hd:oi.dst = d) (hF:F = fuel + 1) (hl:listed.setIfInBounds i true = listed')
  (hs:Region.noSelect ops = true) (hf:Region.free md ops listed i = true) (hr:(Region.ready md ops listed).contains i = true)
  (hQ:∀ c a w,Q (.panic c) (a.put d v) w -> Q (.panic c) a w) (hw:Region.wanted oi (yielded ops a.tmps) = true) (hS:S w)
  (hv:∀ w,S w -> (execOp a.eval oi).run P w = .ok (.value v) w)
  (h:wpAnyH P md ops Q S fuel listed' (a.put d v) w):wpAnyH P md ops Q S F listed a w:=by
 subst hF hd hl
 exact wpAnyH_take hi hs hf hr hQ (.inl ⟨hw,hv⟩) hS h
def skipFine (md:Region.Mode) (ops:Array Oper):List (Nat × Tmp) -> Array Bool -> Array Value -> Bool
 | [],_,_ => true
 | (i,d) :: r,listed,tmps => (match ops[i]? with | some o => decide (o.dst = some d) && !Region.wanted o (yielded ops tmps) | none => false) && (Region.free md ops listed i && ((Region.ready md ops listed).contains i &&
   skipFine md ops r (listed.setIfInBounds i true) (tmps.setIfInBounds d undef)))
def skipListed:List (Nat × Tmp) -> Array Bool -> Array Bool
 | [],listed => listed
 | (i,_) :: r,listed => skipListed r (listed.setIfInBounds i true)
def skipAct:List (Nat × Tmp) -> Act -> Act
 | [],a => a
 | (_,d) :: r,a => skipAct r { a with tmps:=a.tmps.setIfInBounds d undef }
theorem takeS {w:World} (hs:Region.noSelect ops = true) (hQ:∀ c a d w,Q (.panic c) (a.put (some d) undef) w -> Q (.panic c) a w) (hS:S w):∀ (l:List (Nat × Tmp)) {F fuel:Nat} {listed listed':Array Bool} {a:Act},F = fuel + l.length -> skipListed l listed = listed' ->
  skipFine md ops l listed a.tmps = true -> wpAnyH P md ops Q S fuel listed' (skipAct l a) w -> wpAnyH P md ops Q S F listed a w
 | [],F,fuel,listed,listed',a,hF,hl,_,h => by subst hF hl; exact h
 | (i,d) :: r,F,fuel,listed,listed',a,hF,hl,hk,h => by
  subst hF hl
  simp only [skipFine,Bool.and_eq_true] at hk;obtain ⟨h1,h2,h3,h4⟩:=hk
  cases ho:ops[i]? with
  | none => rw [ho] at h1; cases h1
  | some o =>
   rw [ho] at h1;simp only [Bool.and_eq_true,decide_eq_true_eq,Bool.not_eq_true'] at h1;obtain ⟨hd,hw⟩:=h1;refine wpAnyH_take (fuel:=fuel + r.length) (v:=undef) ho hs h2 h3 (by rw [hd]; exact fun c a w => hQ c a d w) (.inr ⟨hw,rfl⟩) hS ?_;rw [hd];exact takeS hs hQ hS r rfl rfl h4 h
theorem takeC {i F fuel:Nat} {oi:Oper} {d:Option Tmp} {listed listed':Array Bool} {a:Act} {w:World} (hi:ops[i]? = some oi) (_hd:oi.dst = d) (hF:F = fuel + 1) (hl:listed.setIfInBounds i true = listed')
  (hr:Region.ready md ops listed = [i]) (hw:Region.wanted oi (yielded ops a.tmps) = true)
  (h:∀ K':Act -> World -> Prop,Shut (∀ a w,S w -> (S w -> wpAnyH P md ops Q S fuel listed' a w) -> K' a w) -> Oper.wp P oi a w K' Q):wpAnyH P md ops Q S F listed a w:=by
 subst hF hl _hd
 refine wpAnyH_ready hr (by simp) (AllReadyH.cons hi (fun K' hK => ?_) AllReadyH.nil);rw [if_pos hw]; exact h K' hK
end
end
section
def intBox (w:World) (g:Nat) (n:Int):Prop:=w.heap[g]? = some (.cells #[.int .i64 n] 3 (0,0))
theorem intBox.cell {w:World} {g:Nat} {n:Int} (h:intBox w g n):w.cell? ⟨g,0,none⟩ = some (.int .i64 n):=cell_of_one h
theorem intBox.free {w:World} {g:Nat} {n:Int} (h:intBox w g n):w.frozen? ⟨g,0,none⟩ = false:=free_of_one h
theorem intBox.lt {w:World} {g:Nat} {n:Int} (h:intBox w g n):g < w.heap.size:=lt_of_block h
theorem intBox.below {w w':World} {g:Nat} {n:Int} (h:intBox w g n) (hb:Below w.heap.size w w'):intBox w' g n:=(hb.block g h.lt).trans h
theorem intBox.keep {S:Nat -> Prop} {w w':World} {g:Nat} {n:Int} (h:intBox w g n) (hk:Keep S w w') (hs:¬ S g):intBox w' g n:=(hk.block g h.lt hs).trans h
def GlobN (N:Nat):Prop:=0 < N /\ 1 < N
theorem Tabs.keep {S:Nat -> Prop} {w w':World} {N:Nat} (h:Tabs w) (hg:GlobN N) (hk:Keep S w w') (hN:N <= w.heap.size) (hs:∀ k,k < N -> ¬ S k):Tabs w':=h.below' (hk.below hN hs) hg.1 hg.2
end
section
open Go.Lib (validD)
def vGood (deep:Nat) (L:Int) (x:V):Bool:=V.rightBy pairsOkI (12 - deep) x && decide ((x.nodes:Int) <= L)
def vGoods (deep:Nat) (L:Int) (xs:List V):Bool:=V.rightsBy pairsOkI (12 - deep) xs && decide ((V.nodess xs:Int) <= L)
def VIsA (n:Nat):Prop:=∀ (x:V) (cs:List Value) (deep N g:Nat) (L:Int) (w:World),x.nodes <= n -> RdN N w x.d cs -> N <= g -> intBox w g L -> x.wf -> x.bulk <= 4294967295 -> Tabs w -> GlobN N -> deep <= 1000000 -> 0 <= L /\ L <= 1000 ->
 Calls Tryz.prog 43 #[.agg cs.toArray,.int .i64 deep,.pointer (some ⟨g,0,none⟩)] w fun e w' => e = .returned (.bool (vGood deep L x)) /\ (∃ L':Int,intBox w' g L' /\ (vGood deep L x = true -> L' = L - x.nodes)) /\ Keep (· = g) w w'
theorem vGood_no1 {deep:Nat} {L:Int} {x:V} (h:L - 1 < 0):vGood deep L x = false:=by
 have:=x.nodes_pos; unfold vGood; rw [decide_eq_false (by omega),Bool.and_false]
theorem vGood_no2 {deep:Nat} {L:Int} {x:V} (h:(12:Int) < deep):vGood deep L x = false:=by
 obtain ⟨k,m,e,s,kids⟩:=x;unfold vGood; simp only [V.rightBy]; rw [decide_eq_false (show ¬ (0:Int) <= 12 - deep by omega)]; simp
theorem V.nodess_ge:∀ xs:List V,xs.length <= V.nodess xs
 | [] => by simp
 | x :: xs => by have:=x.nodes_pos; have:=V.nodess_ge xs; simp only [V.nodess,length_cons]; omega
theorem vGood_no3 {deep:Nat} {L:Int} {k m e:Int} {s:L8} {kids:List V} (h:L - 1 < kids.length):vGood deep L (.mk k m e s kids) = false:=by
 have:=V.nodess_ge kids; unfold vGood; rw [decide_eq_false (by simp only [V.nodes]; omega),Bool.and_false]
theorem zfI {deep:Nat} {L:Int} {x:V} (h:x.selfI = false):vGood deep L x = false:=by
 obtain ⟨k,m,e,s,kids⟩:=x;unfold vGood; simp only [V.rightBy]; rw [show V.selfBy pairsOkI (.mk k m e s kids) = false from h]; simp
theorem vGood_yes {deep:Nat} {L:Int} {k m e:Int} {s:L8} {kids:List V} (h2:¬ (12:Int) < deep) (ho:V.selfI (.mk k m e s kids) = true) :
  vGood deep L (.mk k m e s kids) = vGoods (deep + 1) (L - 1) kids:=by
 unfold vGood vGoods; simp only [V.rightBy,V.nodes]
 rw [show V.selfBy pairsOkI (.mk k m e s kids) = true from ho,decide_eq_true (show (0:Int) <= 12 - deep by omega),show (12:Int) - deep - 1 = 12 - (deep + 1:Nat) by omega,Bool.and_true,Bool.and_true]
 congr 1; exact decide_eq_decide.2 (by omega)
def VIsC (n:Nat):Prop:=∀ (xs:List V) (va:Value) (deep N g bd bl:Nat) (L:Int) (w:World),V.nodess xs <= n -> RdN N w (.sl 5 (V.ds xs)) [va] -> N <= g -> intBox w g L -> intBox w bd deep -> bd ≠ g -> w.cell? ⟨bl,0,none⟩ = some (.pointer (some ⟨g,0,none⟩)) -> bl ≠ g ->
  V.wfs xs -> xs.length + V.bulks xs <= 4294967295 -> Tabs w -> GlobN N -> deep <= 1000 -> 0 <= L /\ L <= 1000 ->
 Calls Tryz.prog 62 #[va,.func (.func 63) #[] #[.pointer (some ⟨bd,0,none⟩),.pointer (some ⟨bl,0,none⟩)]] w fun e w' => e = .returned (.bool (!vGoods (deep + 1) L xs)) /\ (∃ L':Int,intBox w' g L' /\ (vGoods (deep + 1) L xs = true -> L' = L - V.nodess xs)) /\ Keep (· = g) w w'
theorem VIsA_of {n:Nat} (hC:VIsC n):VIsA (n + 1):=by
 intro x cs deep N g L w hn h hNg hbox hwf hbk hT hG hdeep hL;obtain ⟨k,m,e,s,kids,v2,hx,rfl,hkids⟩:=V.layS h;subst hx;have hnk:V.nodess kids <= n:=by simp only [V.nodes] at hn; omega
 obtain ⟨hL1,hL2⟩:=hL;obtain ⟨M,rfl⟩:∃ M,L = M + 1:=⟨L - 1,by omega⟩;have hglt:=hbox.lt;obtain ⟨a2,c2,rfl⟩:=Rd.sl_form (Rd.of hkids);simp only [V.ds_map,length_map] at h hkids ⊢;rw [<- V.ds_map] at hkids;have hfree:=hbox.free;have hcell:=hbox.cell;obtain ⟨W0,hW0⟩:∃ W0,W0 = ((((w.setCell ⟨g,0,none⟩ (.int .i64 M)).alloc (.cells #[.int .i64 k,.int .i64 m,.int .i64 e,.string ⟨s.toArray⟩,.slice a2 kids.length c2] 33)).alloc (.cells #[.int .i64 deep] 3)).alloc (.cells #[.pointer (some ⟨g,0,none⟩)] 68)):=⟨_,rfl⟩;have HW:=Lib.hid hW0;have hK0:Keep (· = g) w W0:=by rw [hW0]; exact (((Keep.setCell (S:=(· = g)) (p:=⟨g,0,none⟩) (Keep.refl _ _) (.inl rfl) _).alloc _).alloc _).alloc _
 have hb0:intBox W0 g M:=by
  rw [hW0]
  have:intBox (w.setCell ⟨g,0,none⟩ (.int .i64 M)) g M:=one_setCell hbox
  exact ((this.below ((Below.refl _ _).alloc lR _)).below ((Below.refl _ _).alloc lR _)).below ((Below.refl _ _).alloc lR _)
 have hbd0:intBox W0 (w.heap.size + 1) deep:=by
  rw [hW0]; unfold intBox; rw [Below.heap_alloc _ _ _ (by simp [World.setCell])]
  have:=zaK ((w.setCell ⟨g,0,none⟩ (.int .i64 M)).alloc (.cells #[.int .i64 k,.int .i64 m,.int .i64 e,.string ⟨s.toArray⟩,.slice a2 kids.length c2] 33)) (.cells #[.int .i64 deep] 3)
  simpa [World.setCell] using this
 have hng:∀ k,k < N -> ¬ k = g:=by intro k hk e; omega
 have hN:N <= w.heap.size:=by omega
 have hss:(w.setCell ⟨g,0,none⟩ (.int .i64 M)).heap.size = w.heap.size:=by simp [World.setCell]
 have hsz:W0.heap.size = w.heap.size + 3:=by rw [hW0]; simp [hss]
 have s1:g < w.heap.size + 1:=by omega
 have s2:g < w.heap.size + 1 + 1:=by omega
 have s3:g < w.heap.size + 1 + 1 + 1:=by omega
 have q1:¬ g = w.heap.size:=by omega
 have q2:¬ g = w.heap.size + 1:=by omega
 have q3:¬ g = w.heap.size + 1 + 1:=by omega
 have KB:Hid (∀ W,Below W0.heap.size W0 W -> W.cell? ⟨w.heap.size,0,none⟩ = some (.int .i64 k) /\ W.cell? ⟨w.heap.size,1,none⟩ = some (.int .i64 m) /\ W.cell? ⟨w.heap.size,2,none⟩ = some (.int .i64 e) /\ W.cell? ⟨w.heap.size,3,none⟩ = some (.string ⟨s.toArray⟩) /\ W.cell? ⟨w.heap.size,4,none⟩ = some (.slice a2 kids.length c2) /\ W.cell? ⟨w.heap.size + 1,0,none⟩ = some (.int .i64 deep) /\ W.cell? ⟨w.heap.size + 1 + 1,0,none⟩ = some (.pointer (some ⟨g,0,none⟩)) /\ W.cell? ⟨g,0,none⟩ = some (.int .i64 M)):=by
  intro W hb;obtain ⟨hc,_⟩:=zbx hb;have z1:w.heap.size < W0.heap.size:=by omega
  have z2:w.heap.size + 1 < W0.heap.size:=by omega
  have z3:w.heap.size + 1 + 1 < W0.heap.size:=by omega
  have z4:g < W0.heap.size:=by omega
  simp only [hc _ _ z1,hc _ _ z2,hc _ _ z3,hc _ _ z4,hb0.cell];subst hW0;simp [go_sem,hss]
 have hT0:=Lib.hid (hT.keep hG hK0 hN hng);have HR:=Lib.hid (show ∀ W,Below W0.heap.size W0 W -> RdN N W (V.d (.mk k m e s kids)) [.int .i64 k,.int .i64 m,.int .i64 e,.string ⟨s.toArray⟩,.slice a2 kids.length c2] from fun W hb => (h.keep hK0 hN hng).below (hb.mono (by omega)));have HRk:=Lib.hid (show ∀ W,Below W0.heap.size W0 W -> RdN N W (.sl 5 (V.ds kids)) [.slice a2 kids.length c2] from fun W hb => (RdN.keep hkids hK0 hN hng).below (hb.mono (by omega)));have HF:=Lib.hid (fun W (hb:Below W0.heap.size W0 W) => isNode_any _ _ W (HR.out W hb).rd hwf hbk (hT0.out.below hb));have HQ:=Lib.hid (fun W (hb:Below W0.heap.size W0 W) => zgp _ _ W (HR.out W hb).rd hbk);clear h hkids hT hbox hW0 hng hss q1 q2 q3;by_cases qc1:M < 0
 ·have dqc1:=decide_eq_true qc1
  have H:=Lib.hid (vGood_no1 (deep:=deep) (L:=M + 1) (x:=.mk k m e s kids) (by omega))
  go_enter Tryz.func43,Tryz.ntmps43
  go_wp2;rw [<- HW.out];have hB:=Below.refl W0.heap.size W0;obtain ⟨p0,p1,p2,p3,p4,p6,p7,p8⟩:=KB.out _ hB
  go_quiet (fail)
  go_wp2;go_ret;exact ⟨by rw [H.out]; rfl,⟨M,hb0.below (by first | exact hB | exact hB.drew | exact Go.below_drewN hB _),fun h => by rw [H.out] at h; cases h⟩,hK0.then (by first | exact hB | exact hB.drew | exact Go.below_drewN hB _)⟩
 have dqc1:=decide_eq_false qc1;by_cases qc2:(12:Int) < deep
 ·have dqc2:=decide_eq_true qc2
  have H:=Lib.hid (vGood_no2 (L:=M + 1) (x:=.mk k m e s kids) qc2)
  go_enter Tryz.func43,Tryz.ntmps43
  go_wp2;rw [<- HW.out];have hB:=Below.refl W0.heap.size W0;obtain ⟨p0,p1,p2,p3,p4,p6,p7,p8⟩:=KB.out _ hB
  go_quiet (fail)
  go_wp2;go_ret;exact ⟨by rw [H.out]; rfl,⟨M,hb0.below (by first | exact hB | exact hB.drew | exact Go.below_drewN hB _),fun h => by rw [H.out] at h; cases h⟩,hK0.then (by first | exact hB | exact hB.drew | exact Go.below_drewN hB _)⟩
 have dqc2:=decide_eq_false qc2;by_cases qc3:M < kids.length
 ·have dqc3:=decide_eq_true qc3
  have H:=Lib.hid (vGood_no3 (deep:=deep) (L:=M + 1) (k:=k) (m:=m) (e:=e) (s:=s) (kids:=kids) (by omega))
  go_enter Tryz.func43,Tryz.ntmps43
  go_wp2;rw [<- HW.out];have hB:=Below.refl W0.heap.size W0;obtain ⟨p0,p1,p2,p3,p4,p6,p7,p8⟩:=KB.out _ hB
  go_quiet (fail)
  go_wp2;go_ret;exact ⟨by rw [H.out]; rfl,⟨M,hb0.below (by first | exact hB | exact hB.drew | exact Go.below_drewN hB _),fun h => by rw [H.out] at h; cases h⟩,hK0.then (by first | exact hB | exact hB.drew | exact Go.below_drewN hB _)⟩
 have dqc3:=decide_eq_false qc3;have HSN:=Lib.hid (V.selfI_node (.mk k m e s kids))
 cases hnode:V.node (.mk k m e s kids) with
 | false =>
  have HO:=Lib.hid hnode;have H:=Lib.hid (zfI (deep:=deep) (L:=M + 1) (x:=.mk k m e s kids) (by rw [HSN.out,hnode]; rfl));clear hnode
  go_enter Tryz.func43,Tryz.ntmps43
  go_wp2;rw [<- HW.out];have hB:=Below.refl W0.heap.size W0;refine wp_region_held_drew (S:=(fun W => W.cell? ⟨w.heap.size,0,none⟩ = some (.int .i64 k) /\ W.cell? ⟨w.heap.size,1,none⟩ = some (.int .i64 m) /\ W.cell? ⟨w.heap.size,2,none⟩ = some (.int .i64 e) /\ W.cell? ⟨w.heap.size,3,none⟩ = some (.string ⟨s.toArray⟩) /\ W.cell? ⟨w.heap.size,4,none⟩ = some (.slice a2 kids.length c2) /\ W.cell? ⟨w.heap.size + 1,0,none⟩ = some (.int .i64 deep) /\ W.cell? ⟨w.heap.size + 1 + 1,0,none⟩ = some (.pointer (some ⟨g,0,none⟩)) /\ W.cell? ⟨g,0,none⟩ = some (.int .i64 M))) (by kernel_rfl) ?_ (fun hHeld => ?_)
  ·((try dsimp only); (first | exact KB.out _ hB | exact KB.out _ hB.drew))
  refine zbA (i:=0) (fuel:=26) (d:=some 12) (v:=?vr0) (listed':=#[true,false,false,false,false,false,false,false,false,false,false,false,false,false,false,false,false,false,false,false,false,false,false,false,false,false,false]) rfl rfl (by kernel_rfl) (by kernel_rfl) (by kernel_rfl) (by kernel_rfl) (by kernel_rfl) (fun _ _ _ h => h) (by kernel_rfl) (by assumption) ?hr0 ?rr0
  case hr0 => (intro w hSw; (try dsimp only at hSw); go_simp; all_goals with_reducible rfl)
  simp only [Act.put,setIfInBounds_toArray,set_cons_zero,set_cons_succ];refine zbA (i:=1) (fuel:=25) (d:=some 13) (v:=?vr1) (listed':=#[true,true,false,false,false,false,false,false,false,false,false,false,false,false,false,false,false,false,false,false,false,false,false,false,false,false,false]) rfl rfl (by kernel_rfl) (by kernel_rfl) (by kernel_rfl) (by kernel_rfl) (by kernel_rfl) (fun _ _ _ h => h) (by kernel_rfl) (by assumption) ?hr1 ?rr1
  case hr1 => (intro w hSw; (try dsimp only at hSw); go_simp; all_goals with_reducible rfl)
  simp only [Act.put,setIfInBounds_toArray,set_cons_zero,set_cons_succ];refine zbA (i:=2) (fuel:=24) (d:=some 14) (v:=?vr2) (listed':=#[true,true,true,false,false,false,false,false,false,false,false,false,false,false,false,false,false,false,false,false,false,false,false,false,false,false,false]) rfl rfl (by kernel_rfl) (by kernel_rfl) (by kernel_rfl) (by kernel_rfl) (by kernel_rfl) (fun _ _ _ h => h) (by kernel_rfl) (by assumption) ?hr2 ?rr2
  case hr2 => (intro w hSw; (try dsimp only at hSw); go_simp; all_goals with_reducible rfl)
  simp only [Act.put,setIfInBounds_toArray,set_cons_zero,set_cons_succ];refine zbA (i:=3) (fuel:=23) (d:=some 15) (v:=?vr3) (listed':=#[true,true,true,true,false,false,false,false,false,false,false,false,false,false,false,false,false,false,false,false,false,false,false,false,false,false,false]) rfl rfl (by kernel_rfl) (by kernel_rfl) (by kernel_rfl) (by kernel_rfl) (by kernel_rfl) (fun _ _ _ h => h) (by kernel_rfl) (by assumption) ?hr3 ?rr3
  case hr3 => (intro w hSw; (try dsimp only at hSw); go_simp; all_goals with_reducible rfl)
  simp only [Act.put,setIfInBounds_toArray,set_cons_zero,set_cons_succ];refine zbA (i:=4) (fuel:=22) (d:=some 16) (v:=?vr4) (listed':=#[true,true,true,true,true,false,false,false,false,false,false,false,false,false,false,false,false,false,false,false,false,false,false,false,false,false,false]) rfl rfl (by kernel_rfl) (by kernel_rfl) (by kernel_rfl) (by kernel_rfl) (by kernel_rfl) (fun _ _ _ h => h) (by kernel_rfl) (by assumption) ?hr4 ?rr4
  case hr4 => (intro w hSw; (try dsimp only at hSw); go_simp; all_goals with_reducible rfl)
  simp only [Act.put,setIfInBounds_toArray,set_cons_zero,set_cons_succ];refine zbA (i:=5) (fuel:=21) (d:=some 17) (v:=?vr5) (listed':=#[true,true,true,true,true,true,false,false,false,false,false,false,false,false,false,false,false,false,false,false,false,false,false,false,false,false,false]) rfl rfl (by kernel_rfl) (by kernel_rfl) (by kernel_rfl) (by kernel_rfl) (by kernel_rfl) (fun _ _ _ h => h) (by kernel_rfl) (by assumption) ?hr5 ?rr5
  case hr5 => (intro w hSw; (try dsimp only at hSw); go_simp; all_goals with_reducible rfl)
  simp only [Act.put,setIfInBounds_toArray,set_cons_zero,set_cons_succ];refine zbA (i:=6) (fuel:=20) (d:=some 18) (v:=?vr6) (listed':=#[true,true,true,true,true,true,true,false,false,false,false,false,false,false,false,false,false,false,false,false,false,false,false,false,false,false,false]) rfl rfl (by kernel_rfl) (by kernel_rfl) (by kernel_rfl) (by kernel_rfl) (by kernel_rfl) (fun _ _ _ h => h) (by kernel_rfl) (by assumption) ?hr6 ?rr6
  case hr6 => (intro w hSw; (try dsimp only at hSw); go_simp; all_goals with_reducible rfl)
  simp only [Act.put,setIfInBounds_toArray,set_cons_zero,set_cons_succ];refine zbA (i:=7) (fuel:=19) (d:=some 19) (v:=?vr7) (listed':=#[true,true,true,true,true,true,true,true,false,false,false,false,false,false,false,false,false,false,false,false,false,false,false,false,false,false,false]) rfl rfl (by kernel_rfl) (by kernel_rfl) (by kernel_rfl) (by kernel_rfl) (by kernel_rfl) (fun _ _ _ h => h) (by kernel_rfl) (by assumption) ?hr7 ?rr7
  case hr7 => (intro w hSw; (try dsimp only at hSw); go_simp; all_goals with_reducible rfl)
  simp only [Act.put,setIfInBounds_toArray,set_cons_zero,set_cons_succ];refine zbA (i:=8) (fuel:=18) (d:=some 20) (v:=?vr8) (listed':=#[true,true,true,true,true,true,true,true,true,false,false,false,false,false,false,false,false,false,false,false,false,false,false,false,false,false,false]) rfl rfl (by kernel_rfl) (by kernel_rfl) (by kernel_rfl) (by kernel_rfl) (by kernel_rfl) (fun _ _ _ h => h) (by kernel_rfl) (by assumption) ?hr8 ?rr8
  case hr8 => (intro w hSw; (try dsimp only at hSw); go_simp; all_goals with_reducible rfl)
  simp only [Act.put,setIfInBounds_toArray,set_cons_zero,set_cons_succ];refine zbA (i:=9) (fuel:=17) (d:=some 21) (v:=?vr9) (listed':=#[true,true,true,true,true,true,true,true,true,true,false,false,false,false,false,false,false,false,false,false,false,false,false,false,false,false,false]) rfl rfl (by kernel_rfl) (by kernel_rfl) (by kernel_rfl) (by kernel_rfl) (by kernel_rfl) (fun _ _ _ h => h) (by kernel_rfl) (by assumption) ?hr9 ?rr9
  case hr9 => (intro w hSw; (try dsimp only at hSw); go_simp; all_goals with_reducible rfl)
  simp only [Act.put,setIfInBounds_toArray,set_cons_zero,set_cons_succ];refine zbA (i:=10) (fuel:=16) (d:=some 22) (v:=?vr10) (listed':=#[true,true,true,true,true,true,true,true,true,true,true,false,false,false,false,false,false,false,false,false,false,false,false,false,false,false,false]) rfl rfl (by kernel_rfl) (by kernel_rfl) (by kernel_rfl) (by kernel_rfl) (by kernel_rfl) (fun _ _ _ h => h) (by kernel_rfl) (by assumption) ?hr10 ?rr10
  case hr10 => (intro w hSw; (try dsimp only at hSw); go_simp; all_goals with_reducible rfl)
  simp only [Act.put,setIfInBounds_toArray,set_cons_zero,set_cons_succ];refine zbA (i:=11) (fuel:=15) (d:=some 23) (v:=?vr11) (listed':=#[true,true,true,true,true,true,true,true,true,true,true,true,false,false,false,false,false,false,false,false,false,false,false,false,false,false,false]) rfl rfl (by kernel_rfl) (by kernel_rfl) (by kernel_rfl) (by kernel_rfl) (by kernel_rfl) (fun _ _ _ h => h) (by kernel_rfl) (by assumption) ?hr11 ?rr11
  case hr11 => (intro w hSw; (try dsimp only at hSw); go_simp; all_goals with_reducible rfl)
  simp only [Act.put,setIfInBounds_toArray,set_cons_zero,set_cons_succ];refine zbA (i:=12) (fuel:=14) (d:=some 24) (v:=?vr12) (listed':=#[true,true,true,true,true,true,true,true,true,true,true,true,true,false,false,false,false,false,false,false,false,false,false,false,false,false,false]) rfl rfl (by kernel_rfl) (by kernel_rfl) (by kernel_rfl) (by kernel_rfl) (by kernel_rfl) (fun _ _ _ h => h) (by kernel_rfl) (by assumption) ?hr12 ?rr12
  case hr12 => (intro w hSw; (try dsimp only at hSw); go_simp; all_goals with_reducible rfl)
  simp only [Act.put,setIfInBounds_toArray,set_cons_zero,set_cons_succ];refine zbA (i:=13) (fuel:=13) (d:=some 25) (v:=?vr13) (listed':=#[true,true,true,true,true,true,true,true,true,true,true,true,true,true,false,false,false,false,false,false,false,false,false,false,false,false,false]) rfl rfl (by kernel_rfl) (by kernel_rfl) (by kernel_rfl) (by kernel_rfl) (by kernel_rfl) (fun _ _ _ h => h) (by kernel_rfl) (by assumption) ?hr13 ?rr13
  case hr13 => (intro w hSw; (try dsimp only at hSw); go_simp; all_goals with_reducible rfl)
  simp only [Act.put,setIfInBounds_toArray,set_cons_zero,set_cons_succ];refine zbA (i:=14) (fuel:=12) (d:=some 26) (v:=?vr14) (listed':=#[true,true,true,true,true,true,true,true,true,true,true,true,true,true,true,false,false,false,false,false,false,false,false,false,false,false,false]) rfl rfl (by kernel_rfl) (by kernel_rfl) (by kernel_rfl) (by kernel_rfl) (by kernel_rfl) (fun _ _ _ h => h) (by kernel_rfl) (by assumption) ?hr14 ?rr14
  case hr14 => (intro w hSw; (try dsimp only at hSw); go_simp; all_goals with_reducible rfl)
  simp only [Act.put,setIfInBounds_toArray,set_cons_zero,set_cons_succ];refine zbA (i:=15) (fuel:=11) (d:=some 27) (v:=?vr15) (listed':=#[true,true,true,true,true,true,true,true,true,true,true,true,true,true,true,true,false,false,false,false,false,false,false,false,false,false,false]) rfl rfl (by kernel_rfl) (by kernel_rfl) (by kernel_rfl) (by kernel_rfl) (by kernel_rfl) (fun _ _ _ h => h) (by kernel_rfl) (by assumption) ?hr15 ?rr15
  case hr15 => (intro w hSw; (try dsimp only at hSw); go_simp; all_goals with_reducible rfl)
  simp only [Act.put,setIfInBounds_toArray,set_cons_zero,set_cons_succ];refine zbA (i:=16) (fuel:=10) (d:=some 28) (v:=?vr16) (listed':=#[true,true,true,true,true,true,true,true,true,true,true,true,true,true,true,true,true,false,false,false,false,false,false,false,false,false,false]) rfl rfl (by kernel_rfl) (by kernel_rfl) (by kernel_rfl) (by kernel_rfl) (by kernel_rfl) (fun _ _ _ h => h) (by kernel_rfl) (by assumption) ?hr16 ?rr16
  case hr16 => (intro w hSw; (try dsimp only at hSw); go_simp; all_goals with_reducible rfl)
  simp only [Act.put,setIfInBounds_toArray,set_cons_zero,set_cons_succ];refine zbA (i:=17) (fuel:=9) (d:=some 29) (v:=?vr17) (listed':=#[true,true,true,true,true,true,true,true,true,true,true,true,true,true,true,true,true,true,false,false,false,false,false,false,false,false,false]) rfl rfl (by kernel_rfl) (by kernel_rfl) (by kernel_rfl) (by kernel_rfl) (by kernel_rfl) (fun _ _ _ h => h) (by kernel_rfl) (by assumption) ?hr17 ?rr17
  case hr17 => (intro w hSw; (try dsimp only at hSw); go_simp; all_goals with_reducible rfl)
  simp only [Act.put,setIfInBounds_toArray,set_cons_zero,set_cons_succ];refine zbA (i:=18) (fuel:=8) (d:=some 30) (v:=?vr18) (listed':=#[true,true,true,true,true,true,true,true,true,true,true,true,true,true,true,true,true,true,true,false,false,false,false,false,false,false,false]) rfl rfl (by kernel_rfl) (by kernel_rfl) (by kernel_rfl) (by kernel_rfl) (by kernel_rfl) (fun _ _ _ h => h) (by kernel_rfl) (by assumption) ?hr18 ?rr18
  case hr18 => (intro w hSw; (try dsimp only at hSw); go_simp; all_goals with_reducible rfl)
  simp only [Act.put,setIfInBounds_toArray,set_cons_zero,set_cons_succ];refine takeC (i:=19) (fuel:=7) (d:=some 31) (listed':=#[true,true,true,true,true,true,true,true,true,true,true,true,true,true,true,true,true,true,true,true,false,false,false,false,false,false,false]) rfl rfl (by kernel_rfl) (by kernel_rfl) (by kernel_rfl) (by kernel_rfl) (fun K hK => ?cr19)
  go_simp
  ((go_at_call 60; with_reducible refine (HF.out _ (by first | exact hB | exact hB.drew)).mono ?_; rw [HO.out]; rintro e1 w1 ⟨rfl,hb1⟩; replace hB:=zax (by first | exact hB | exact hB.drew) hb1 lR))
  go_wp2_with fail
  refine hK.out _ _ ?kr19 (fun hHeld => ?nr19)
  case kr19 => ((try dsimp only); (first | exact KB.out _ hB | exact KB.out _ hB.drew))
  clear hK K
  try simp only [skipAct,Act.put,setIfInBounds_toArray,set_cons_zero,set_cons_succ]
  refine zbA (i:=20) (fuel:=6) (d:=some 32) (v:=?vr20) (listed':=#[true,true,true,true,true,true,true,true,true,true,true,true,true,true,true,true,true,true,true,true,true,false,false,false,false,false,false]) rfl rfl (by kernel_rfl) (by kernel_rfl) (by kernel_rfl) (by kernel_rfl) (by kernel_rfl) (fun _ _ _ h => h) (by kernel_rfl) (by assumption) ?hr20 ?rr20
  case hr20 => (intro w hSw; (try dsimp only at hSw); go_simp; all_goals with_reducible rfl)
  simp only [Act.put,setIfInBounds_toArray,set_cons_zero,set_cons_succ];refine zbA (i:=21) (fuel:=5) (d:=some 33) (v:=?vr21) (listed':=#[true,true,true,true,true,true,true,true,true,true,true,true,true,true,true,true,true,true,true,true,true,true,false,false,false,false,false]) rfl rfl (by kernel_rfl) (by kernel_rfl) (by kernel_rfl) (by kernel_rfl) (by kernel_rfl) (fun _ _ _ h => h) (by kernel_rfl) (by assumption) ?hr21 ?rr21
  case hr21 => (intro w hSw; (try dsimp only at hSw); go_simp; all_goals with_reducible rfl)
  simp only [Act.put,setIfInBounds_toArray,set_cons_zero,set_cons_succ];refine zbA (i:=22) (fuel:=4) (d:=some 34) (v:=?vr22) (listed':=#[true,true,true,true,true,true,true,true,true,true,true,true,true,true,true,true,true,true,true,true,true,true,true,false,false,false,false]) rfl rfl (by kernel_rfl) (by kernel_rfl) (by kernel_rfl) (by kernel_rfl) (by kernel_rfl) (fun _ _ _ h => h) (by kernel_rfl) (by assumption) ?hr22 ?rr22
  case hr22 => (intro w hSw; (try dsimp only at hSw); go_simp; all_goals with_reducible rfl)
  simp only [Act.put,setIfInBounds_toArray,set_cons_zero,set_cons_succ];refine takeS (fuel:=1) (listed':=#[true,true,true,true,true,true,true,true,true,true,true,true,true,true,true,true,true,true,true,true,true,true,true,true,true,true,false]) (by kernel_rfl) (fun _ _ _ _ h => h) (by assumption) [(23,35),(24,36),(25,37)] (by kernel_rfl) (by kernel_rfl) (by kernel_rfl) ?_;simp only [skipAct,setIfInBounds_toArray,set_cons_zero,set_cons_succ];refine zbA (i:=26) (fuel:=0) (d:=some 38) (v:=?vr26) (listed':=#[true,true,true,true,true,true,true,true,true,true,true,true,true,true,true,true,true,true,true,true,true,true,true,true,true,true,true]) rfl rfl (by kernel_rfl) (by kernel_rfl) (by kernel_rfl) (by kernel_rfl) (by kernel_rfl) (fun _ _ _ h => h) (by kernel_rfl) (by assumption) ?hr26 ?rr26
  case hr26 => (intro w hSw; (try dsimp only at hSw); go_simp; all_goals with_reducible rfl)
  simp only [Act.put,setIfInBounds_toArray,set_cons_zero,set_cons_succ];refine wpAnyH_done (by kernel_rfl) ?_ _;go_wp2;go_ret
  exact ⟨by rw [H.out]; rfl,⟨M,hb0.below (by first | exact hB | exact hB.drew | exact Go.below_drewN hB _),fun h => by rw [H.out] at h; cases h⟩,hK0.then (by first | exact hB | exact hB.drew | exact Go.below_drewN hB _)⟩
 | true =>
  have HO:=Lib.hid hnode
  cases hkk:V.kidsOk k kids with
  | false =>
   have HKK:=Lib.hid (show V.kidsOk (V.kind (.mk k m e s kids)) (V.kids (.mk k m e s kids)) = false from hkk);have H:=Lib.hid (zfI (deep:=deep) (L:=M + 1) (x:=.mk k m e s kids) (by rw [HSN.out,hnode]; exact hkk));clear hnode hkk
   go_enter Tryz.func43,Tryz.ntmps43
   go_wp2;rw [<- HW.out];have hB:=Below.refl W0.heap.size W0
   go_region_held3 (fun W => W.cell? ⟨w.heap.size,0,none⟩ = some (.int .i64 k) /\ W.cell? ⟨w.heap.size,1,none⟩ = some (.int .i64 m) /\ W.cell? ⟨w.heap.size,2,none⟩ = some (.int .i64 e) /\ W.cell? ⟨w.heap.size,3,none⟩ = some (.string ⟨s.toArray⟩) /\ W.cell? ⟨w.heap.size,4,none⟩ = some (.slice a2 kids.length c2) /\ W.cell? ⟨w.heap.size + 1,0,none⟩ = some (.int .i64 deep) /\ W.cell? ⟨w.heap.size + 1 + 1,0,none⟩ = some (.pointer (some ⟨g,0,none⟩)) /\ W.cell? ⟨g,0,none⟩ = some (.int .i64 M))
    (first | exact KB.out _ hB | exact KB.out _ hB.drew)
    (first | (go_at_call 60; with_reducible refine (HF.out _ (by first | exact hB | exact hB.drew)).mono ?_; rw [HO.out]; rintro e1 w1 ⟨rfl,hb1⟩; replace hB:=zax (by first | exact hB | exact hB.drew) hb1 lR) | (go_at_call 61; with_reducible refine (HQ.out _ (by first | exact hB | exact hB.drew)).mono ?_; rw [HKK.out]; rintro e1 w1 ⟨rfl,hb1⟩; replace hB:=zax (by first | exact hB | exact hB.drew) hb1 lR))
   go_wp2;go_ret
   exact ⟨by rw [H.out]; rfl,⟨M,hb0.below (by first | exact hB | exact hB.drew | exact Go.below_drewN hB _),fun h => by rw [H.out] at h; cases h⟩,hK0.then (by first | exact hB | exact hB.drew | exact Go.below_drewN hB _)⟩
  | true =>
   have HKK:=Lib.hid (show V.kidsOk (V.kind (.mk k m e s kids)) (V.kids (.mk k m e s kids)) = true from hkk);have H0:=vGood_yes (L:=M + 1) qc2 (show V.selfI (.mk k m e s kids) = true by rw [HSN.out,hnode]; exact hkk);rw [show M + 1 - 1 = M by omega] at H0;have H:=Lib.hid H0;clear H0 hnode hkk
   go_enter Tryz.func43,Tryz.ntmps43
   go_wp2;rw [<- HW.out];have hB:=Below.refl W0.heap.size W0
   go_region_held3 (fun W => W.cell? ⟨w.heap.size,0,none⟩ = some (.int .i64 k) /\ W.cell? ⟨w.heap.size,1,none⟩ = some (.int .i64 m) /\ W.cell? ⟨w.heap.size,2,none⟩ = some (.int .i64 e) /\ W.cell? ⟨w.heap.size,3,none⟩ = some (.string ⟨s.toArray⟩) /\ W.cell? ⟨w.heap.size,4,none⟩ = some (.slice a2 kids.length c2) /\ W.cell? ⟨w.heap.size + 1,0,none⟩ = some (.int .i64 deep) /\ W.cell? ⟨w.heap.size + 1 + 1,0,none⟩ = some (.pointer (some ⟨g,0,none⟩)) /\ W.cell? ⟨g,0,none⟩ = some (.int .i64 M))
    (first | exact KB.out _ hB | exact KB.out _ hB.drew)
    (first | (go_at_call 60; with_reducible refine (HF.out _ (by first | exact hB | exact hB.drew)).mono ?_; rw [HO.out]; rintro e1 w1 ⟨rfl,hb1⟩; replace hB:=zax (by first | exact hB | exact hB.drew) hb1 lR) | (go_at_call 61; with_reducible refine (HQ.out _ (by first | exact hB | exact hB.drew)).mono ?_; rw [HKK.out]; rintro e1 w1 ⟨rfl,hb1⟩; replace hB:=zax (by first | exact hB | exact hB.drew) hb1 lR))
   obtain ⟨p0,p1,p2,p3,p4,p6,p7,p8⟩:=KB.out _ hB;have hkw:V.wfs kids:=hwf.2.2.2.2.2;have hkb:kids.length + V.bulks kids <= 4294967295:=by simp only [V.bulk] at hbk; omega
   have HCC:=Lib.hid (hC kids _ deep N g (w.heap.size + 1) (w.heap.size + 1 + 1) M _ hnk (HRk.out _ hB) hNg (hb0.below hB) (hbd0.below hB) (by omega) p7 (by omega) hkw hkb (hT0.out.below hB) hG (by omega) (by omega))
   go_wp2_with (go_at_call 62; refine HCC.out.mono ?_; rintro e1 w2 ⟨rfl,⟨L',hbx,hL'⟩,hk2⟩)
   go_ret;exact ⟨by rw [H.out]; simp,⟨L',hbx,fun hh => by rw [H.out] at hh; rw [hL' hh]; simp only [V.nodes]; omega⟩,(hK0.then hB).trans hk2⟩
theorem zfJ {n:Nat} (hA:VIsA n) (x:V) (cs:List Value) (deep N g bd bl:Nat) (L:Int) (w:World) (hn:x.nodes <= n) (h:RdN N w x.d cs) (hNg:N <= g) (hbox:intBox w g L) (hbd:intBox w bd deep) (hbl:w.cell? ⟨bl,0,none⟩ = some (.pointer (some ⟨g,0,none⟩)))
  (hwf:x.wf) (hbk:x.bulk <= 4294967295) (hT:Tabs w) (hG:GlobN N) (hdeep:deep <= 1000) (hL:0 <= L /\ L <= 1000) :
  Calls Tryz.prog 63 #[.agg cs.toArray,.pointer (some ⟨bd,0,none⟩),.pointer (some ⟨bl,0,none⟩)] w fun e w' => e = .returned (.bool (!vGood (deep + 1) L x)) /\ (∃ L':Int,intBox w' g L' /\ (vGood (deep + 1) L x = true -> L' = L - x.nodes)) /\ Keep (· = g) w w':=by
 obtain ⟨k,m,e,s,a2,n2,c2,rfl⟩:=V.form h.rd;have hb1:=hbd.cell;have hz1:=hbd.lt;have hz2:bl < w.heap.size:=cell_lt hbl;have hN:N <= w.heap.size:=by have:=hbox.lt; omega
 have hal:Below w.heap.size w (w.alloc (.cells #[.int .i64 k,.int .i64 m,.int .i64 e,.string ⟨s.toArray⟩,.slice a2 n2 c2] 33)):=(Below.refl _ _).alloc lR _;have HCC:=Lib.hid (hA x _ (deep + 1) N g L _ hn (h.below (hal.mono hN)) hNg (hbox.below hal) hwf hbk (hT.below hal) hG (by omega) hL)
 go_enter Tryz.func63,Tryz.ntmps63
 go_wp2_with (go_at_call 43; refine HCC.out.mono ?_; rintro e w1 ⟨rfl,hL',hk1⟩)
 go_ret;exact ⟨rfl,hL',(Keep.of_below hal).trans hk1⟩
theorem zgq (deep:Nat) (L:Int) (xs:List V) (k:Nat) (hk:k < xs.length) (h:vGoods deep L (xs.take k) = true) :
  vGoods deep L (xs.take (k + 1)) = vGood deep (L - V.nodess (xs.take k)) xs[k]:=by
 have hn:∀ (ls:List V) (x:V),V.nodess (ls ++ [x]) = V.nodess ls + x.nodes:=by
  intro ls x; induction ls with
  | nil => simp [V.nodess]
  | cons a ls ih => simp only [cons_append,V.nodess,ih]; omega
 unfold vGoods at h ⊢; unfold vGood
 rw [take_succ_eq_append_getElem hk,hn,V.rightsBy_all,all_append];rw [V.rightsBy_all] at h;simp only [Bool.and_eq_true,decide_eq_true_eq] at h;rw [h.1,Bool.true_and]
 congr 1
 ·simp
 ·exact decide_eq_decide.2 (by omega)
theorem vGoods_cut (deep:Nat) (L:Int) (xs:List V) (k:Nat) (h:vGoods deep L (xs.take k) = false):vGoods deep L xs = false:=by
 have hn:∀ (ls ms:List V),V.nodess (ls ++ ms) = V.nodess ls + V.nodess ms:=by
  intro ls ms; induction ls with
  | nil => simp [V.nodess]
  | cons a ls ih => simp only [cons_append,V.nodess,ih]; omega
 cases hk:vGoods deep L xs with
 | false => rfl
 | true =>
  exfalso;rw [<- take_append_drop k xs] at hk;unfold vGoods at h hk;rw [V.rightsBy_all,all_append,hn] at hk;rw [V.rightsBy_all] at h;simp only [Bool.and_eq_true,decide_eq_true_eq] at hk;rw [hk.1.1,decide_eq_true (by omega)] at h; cases h
theorem zfK {n:Nat} (hA:VIsA n) (xs:List V) (va:Value) (deep N g bd bl:Nat) (L:Int) (w:World) (hn:V.nodess xs <= n) (h:RdN N w (.sl 5 (V.ds xs)) [va]) (hNg:N <= g) (hbox:intBox w g L) (hbd:intBox w bd deep) (hbg:bd ≠ g) (hbl:w.cell? ⟨bl,0,none⟩ = some (.pointer (some ⟨g,0,none⟩))) (hlg:bl ≠ g)
  (hwf:V.wfs xs) (hbk:xs.length + V.bulks xs <= 4294967295) (hT:Tabs w) (hG:GlobN N) (hdeep:deep <= 1000) (hL:0 <= L /\ L <= 1000) :
  Calls Tryz.prog 83 #[va,.func (.func 63) #[] #[.pointer (some ⟨bd,0,none⟩),.pointer (some ⟨bl,0,none⟩)]] w fun e w' => (∃ r:Int,e = .returned (.int .i64 r) /\ decide (0 <= r) = !vGoods (deep + 1) L xs) /\ (∃ L':Int,intBox w' g L' /\ (vGoods (deep + 1) L xs = true -> L' = L - V.nodess xs)) /\ Keep (· = g) w w':=by
 have hN:N <= w.heap.size:=by have:=hbox.lt; omega
 have hng:∀ k,k < N -> ¬ k = g:=by intro k hk e; omega
 have hz1:=hbd.lt;have hz2:bl < w.heap.size:=cell_lt hbl;have hlen:xs.length <= 4294967295:=by omega
 obtain ⟨a,c,rfl,hg⟩:=RepC.values h;obtain ⟨ok,hok⟩:∃ ok,vGoods (deep + 1) L xs = ok:=⟨_,rfl⟩;rw [hok];have HOK:=Lib.hid hok; clear hok
 obtain ⟨hL1,hL2⟩:=hL
 go_enter Tryz.func83,Tryz.ntmps83
 go_wp2
 go_loopw [8] (fun i wr => ∃ (k:Nat),k <= xs.length /\ i = .int .i64 k /\ intBox wr g (L - V.nodess (xs.take k)) /\ vGoods (deep + 1) L (xs.take k) = true /\ Keep (· = g) w wr) (fun i _ => xs.length - (intOf i).toNat)
 case atStart => exact ⟨0,Nat.zero_le _,rfl,by simpa [V.nodess] using hbox,by simp [vGoods,V.rightsBy,V.nodess,hL1],Keep.refl _ _⟩
 case round =>
  obtain ⟨k,hk,rfl,hbx,hgd,hkp⟩:=hrel;have HGD:=Lib.hid hgd;have hle:(V.nodess (xs.take k):Int) <= L:=by unfold vGoods at hgd; simp only [Bool.and_eq_true,decide_eq_true_eq] at hgd; exact hgd.2
  clear hgd;by_cases hlt:k < xs.length
  ·obtain ⟨_,_,b,o,rfl,hb,hcell⟩:=hg (by intro e; rw [e] at hlt; simp at hlt)
   obtain ⟨v0,v1,v2,v3,v4,hr,d0,d1,d2,d3,d4⟩:=hcell k hlt;clear hcell hg;obtain ⟨k1,k2,k3,s4,a6,n6,m6,hcs⟩:=V.formS hr;simp only [cons.injEq,and_true] at hcs;obtain ⟨rfl,rfl,rfl,rfl,rfl⟩:=hcs;have hbN:b < w.heap.size:=by omega
   have hbg':=hng b hb;rw [<- hkp.cell hbN hbg'] at d0 d1 d2 d3 d4;have hi1:(0:Int) <= k:=by omega
   have hi3:(k:Int) < xs.length:=by omega
   have hnk:xs[k].nodes <= n:=Nat.le_trans (V.nodes_get xs k hlt) hn;have HC:=Lib.hid (zfJ hA xs[k] _ deep N g bd bl _ wr hnk (RdN.keep (N:=N) hr hkp hN hng) hNg hbx (hbd.keep hkp hbg) (by rw [hkp.cell hz2 hlg]; exact hbl) (V.wfs_get hwf k hlt) (V.bulk_get' hbk k hlt) (hT.keep hG hkp hN hng) hG hdeep (by omega));have HSN:=Lib.hid (zgq (deep + 1) L xs k hlt HGD.out)
   have hns:V.nodess (xs.take (k + 1)) = V.nodess (xs.take k) + xs[k].nodes:=by
    rw [take_succ_eq_append_getElem hlt]
    have hn:∀ (ls:List V) (x:V),V.nodess (ls ++ [x]) = V.nodess ls + x.nodes:=by
     intro ls x; induction ls with
     | nil => simp [V.nodess]
     | cons a ls ih => simp only [cons_append,V.nodess,ih]; omega
    exact hn _ _
   have HNS:=Lib.hid hns;clear hns hr hbx h hT hwf hbk hng hbox hbd hbl
   cases hgd:vGood (deep + 1) (L - V.nodess (xs.take k)) xs[k] with
   | true =>
    have HG:=Lib.hid hgd; clear hgd
    go_wp2_with (go_at_call 63; refine HC.out.mono ?_; rw [HG.out]; rintro e w1 ⟨rfl,⟨L',hbx1,hL'⟩,hk1⟩)
    go_roundw
    case rel => exact ⟨k + 1,by omega,by go_num,by rw [show L - (V.nodess (xs.take (k + 1)):Int) = L' by rw [hL' trivial,HNS.out]; omega]; exact hbx1,by rw [HSN.out,HG.out],hkp.trans hk1⟩
    case measure => simp [intOf]; omega
   | false =>
    have HG:=Lib.hid hgd; clear hgd
    have HF:=Lib.hid (show ok = false by rw [<- HOK.out]; exact vGoods_cut _ _ _ (k + 1) (by rw [HSN.out,HG.out]))
    go_wp2_with (go_at_call 63; refine HC.out.mono ?_; rw [HG.out]; rintro e w1 ⟨rfl,⟨L',hbx1,hL'⟩,hk1⟩)
    go_ret;exact ⟨⟨_,rfl,by rw [HF.out]; simp⟩,⟨L',hbx1,fun hh => by rw [HF.out] at hh; cases hh⟩,hkp.trans hk1⟩
  ·obtain rfl:k = xs.length:=by omega
   have h1:=HGD.out;rw [take_length] at h1 hbx;have HF:=Lib.hid (show ok = true by rw [<- HOK.out]; exact h1);clear h1;go_wp2;go_ret;exact ⟨⟨_,rfl,by rw [HF.out]; rfl⟩,⟨_,hbx,fun _ => rfl⟩,hkp⟩
theorem VIsC_of {n:Nat} (hA:VIsA n):VIsC n:=by
 intro xs va deep N g bd bl L w hn h hNg hbox hbd hbg hbl hlg hwf hbk hT hG hdeep hL;have HC:=Lib.hid (zfK hA xs va deep N g bd bl L w hn h hNg hbox hbd hbg hbl hlg hwf hbk hT hG hdeep hL)
 go_enter Tryz.func62,Tryz.ntmps62
 go_wp2_with (go_at_call 83; refine HC.out.mono ?_; rintro e w1 ⟨⟨r,rfl,hr⟩,hL',hk1⟩; have HR:=Lib.hid hr; clear hr)
 go_ret;exact ⟨by rw [<- HR.out]; rfl,hL',hk1⟩
theorem VIs_all:∀ n,VIsA n
 | 0 => fun x cs deep N g L w hn => absurd x.nodes_pos (by omega)
 | n + 1 => VIsA_of (VIsC_of (VIs_all n))
theorem zfL (x:V) (cs:List Value) (w:World) (h:Rd w x.d cs) (hwf:x.wf) (hbk:x.bulk <= 4294967295) (hT:Tabs w) :
  Calls Tryz.prog 28 #[.agg cs.toArray] w fun e w' => e = .returned (.bool x.ok) /\ Below w.heap.size w w':=by
 obtain ⟨k,m,e,s,a2,n2,c2,rfl⟩:=V.form h;obtain ⟨W0,hW0⟩:∃ W0,W0 = (w.alloc (.cells #[.int .i64 k,.int .i64 m,.int .i64 e,.string ⟨s.toArray⟩,.slice a2 n2 c2] 33)).alloc (.cells #[.int .i64 300] 3):=⟨_,rfl⟩;have HW:=Lib.hid hW0;have hA:Below w.heap.size w W0:=by rw [hW0]; exact ((Below.refl _ _).alloc lR _).alloc (by simp) _
 have hbx:intBox W0 (w.heap.size + 1) 300:=by
  rw [hW0]
  have:=zaK (w.alloc (.cells #[.int .i64 k,.int .i64 m,.int .i64 e,.string ⟨s.toArray⟩,.slice a2 n2 c2] 33)) (.cells #[.int .i64 300] 3)
  simpa [intBox] using this
 have HC:=Lib.hid (VIs_all x.nodes x _ 0 w.heap.size (w.heap.size + 1) 300 W0 lR (h.rdN.below hA) (by omega) hbx hwf hbk (hT.below hA) ⟨hT.lt.1,hT.lt.2⟩ (by decide) (by decide));have hsz:W0.heap.size = w.heap.size + 2:=by rw [hW0]; simp
 clear hW0 h hbx
 go_enter Tryz.func28,Tryz.ntmps28
 go_wp2_with (go_at_call 43; rw [<- HW.out]; refine HC.out.mono ?_; rintro e w1 ⟨rfl,_,hk1⟩)
 go_ret;refine ⟨zaz ?_,hA.trans (hk1.below (by omega) (fun k hk e => by omega))⟩;show vGood 0 300 x = _;rw [<- V.ok_impl]; unfold vGood; congr 1
 exact decide_eq_decide.2 (by omega)
end
section
variable {T:World -> Prop} {hT:Low ngl T}
theorem voki_fn (hTab:∀ w,T w -> Tabs w) (v:V) (hw:v.wf) (hb:v.bulk <= 4294967295):FnV (env T hT) 28 [.ag (vC v)] (.d (pB v.ok)):=by
 refine FnV.old rfl fun w C vs hF _ ht hlen hv => ?_
 match vs,hlen with
 | [a],_ =>
  have h0:=hv 0 _ _ rfl rfl;rw [<- V.pc_eq] at h0;obtain ⟨cs,rfl,h1⟩:=vRd hF (V.wfd v) h0;exact zfL v cs w h1 hw hb (hTab w ht)
end
section
variable {T:World -> Prop} {hT:Low ngl T}
attribute [local irreducible] po mw pt
def WrN (t:Nat) (live:List Nat) (nt:Nat) (t' nt':Nat) (live':List Nat):Prop:=(t' = 1 \/ t' ∈ live') /\ nt <= nt' /\ (∀ s ∈ live,s < nt -> s ≠ t -> s ∈ live') /\ (t' = t \/ nt <= t')
theorem WrN.step {t nt n1:Nat} {live l1:List Nat} (hn:nt <= n1) (hl:∀ s ∈ live,s ∈ l1):WrN t live nt n1 (n1 + 1) (n1 :: l1.filter (· != t)) :=
 ⟨.inr (mem_cons_self ..),by omega,fun s hs _ hne => mem_cons_of_mem _ (mem_filter.2 ⟨hl s hs,by simpa using hne⟩),.inr hn⟩
theorem WrN.trans {t t1 t2 nt n1 n2:Nat} {live l1 l2:List Nat} (h:WrN t live nt t1 n1 l1) (k:WrN t1 l1 n1 t2 n2 l2):WrN t live nt t2 n2 l2:=by
 obtain ⟨_,h2,h3,h4⟩:=h;obtain ⟨k1,k2,k3,k4⟩:=k;exact ⟨k1,by omega,fun s hs hlt hne => k3 s (h3 s hs hlt hne) (by omega) (by omega),by omega⟩
mutual
theorem er_lw:∀ {c:PC},c.er = c -> c.lw 0
 | .v _,_ => by simp only [PC.lw]
 | .bld _ _ _ _,h => by simp [PC.er] at h
 | .anyp,_ => by simp only [PC.lw]
 | .row _ _ _,h => by simp [PC.er] at h
 | .sl t es,h => by
  simp only [PC.er,PC.sl.injEq] at h;simp only [PC.lw];exact erLL_lw h.2
theorem erL_lw:∀ {c:List PC},erL c = c -> lwL 0 c
 | [],_ => by simp only [lwL]
 | c :: cs,h => by
  simp only [erL,cons.injEq] at h;simp only [lwL];exact ⟨er_lw h.1,erL_lw h.2⟩
theorem erLL_lw:∀ {c:LP PC},erLL c = c -> lwLL 0 c
 | [],_ => by simp only [lwLL]
 | c :: cs,h => by
  simp only [erLL,cons.injEq] at h;simp only [lwLL];exact ⟨erL_lw h.1,erLL_lw h.2⟩
end
theorem lw_vC (v:V):lwL 0 (vC v):=erL_lw (zcM v)
theorem V.wf_num {v:V} (h:v.wf):i64ok v.num:=by obtain ⟨k,n,e,s,kids⟩:=v; exact h.2.1
theorem V.wf_exp {v:V} (h:v.wf):i64ok v.exp:=by obtain ⟨k,n,e,s,kids⟩:=v; exact h.2.2.1
theorem zgr (t:Nat) (l:L8):∀ y ∈ bldC 0 t l,okC0 y:=by
 intro y hy;simp only [bldC,mem_cons,mem_nil_iff,or_false] at hy
 rcases hy with rfl | rfl
 ·rfl
 ·show PC.lw 0 (.sl t (pcB l))
  simp only [PC.lw];unfold pcB
  induction l with
  | nil => simp [lwLL]
  | cons b l ih => simp only [map_cons,lwLL,lwL,PC.lw,true_and]; exact ih
theorem V.ok_kind9 {v:V} (h:v.ok = true) (h0:¬ v.kind = 0) (h1:¬ v.kind = 1) (h2:¬ v.kind = 2) (h3:¬ v.kind = 3) (h4:¬ v.kind = 4) (h5:¬ v.kind = 5) (h6:¬ v.kind = 6) (h7:¬ v.kind = 7) (h8:¬ v.kind = 8):v.kind = 9:=by
 obtain ⟨k,n,e,s,kids⟩:=v;unfold V.ok at h;simp only [V.rightBy,Bool.and_eq_true,decide_eq_true_eq] at h;have h2':=h.1.2.2;simp only [V.kind] at *;simp only [V.selfBy] at h2';rw [if_neg (by omega)] at h2';simp only [h3,h4,h5,h6,h7,h8,if_false] at h2'
 split at h2'
 ·assumption
 ·cases h2'
def PmG (T:World -> Prop) (hT:Low ngl T) (v:V):Prop:=∀ (t nt:Nat) (live:List Nat) (l:L8),(t = 1 \/ t ∈ live) -> l.length + (msg v).length <= 4294967296 ->
 FnG (env T hT) 44 [.ref 0 0,.ag (vC v)] [bldC 0 t l] nt live (fun x b n l' => ∃ c' rest,b = c' :: rest /\ x.lw 0 /\ (∀ y ∈ c',okC0 y) /\ ∃ t',c' = bldC 0 t' (l ++ msg v) /\ WrN t live nt t' n l')
def PmL (v:V) (l:L8) (t nt:Nat) (live:List Nat) (m:Nat) (s:St):Prop:=∃ i:Nat,i <= v.kids.length /\ m = v.kids.length - i /\ has s.tm [(0,.ref 0 0),(91,.d (.sl 0 (vK v.kids))),(92,.d (pI v.kids.length)),(93,.d (pI i))] /\
 ∃ t' rest,s.bx = bldC 0 t' (l ++ (msgHd v ++ msgs (v.kids.take i))) :: vC v :: rest /\ WrN t live nt t' s.nt s.live
theorem pm_step {v:V} (hw:v.wf) (hk:v.ok = true) (hkid:∀ (i:Nat) (h:i < v.kids.length),PmG T hT v.kids[i]):PmG T hT v:=by
 intro t nt live l ht htot;obtain ⟨hml,htl⟩:=V.ok_msg hk;have hvlen:(vK v.kids).length = v.kids.length:=zau _;have hkl:=V.ok_len hk;have mm:=zbl;have wnum:i64ok v.num:=V.wf_num hw;have wexp:i64ok v.exp:=V.wf_exp hw;have hnum:=putNum_fn (T:=T) (hT:=hT) v.num wnum;have hwide:=fun x k h hx => zeU (T:=T) (hT:=hT) x k h hx
 have hlen5:=fun n a b c d h1 h2 h3 => putLen_fn (T:=T) (hT:=hT) n a b c d h1 h2 h3
 have hM:(msg v).length = (msgHd v).length + (msgs v.kids).length:=by rw [zdR,length_append]
 have ht2:t = 1 \/ t ∈ nt :: live:=ht.imp id fun h => mem_cons_of_mem _ h
 refine za0 (zaf zgm) (by show 2 <= 101; decide) fun B hB => ?_
 unfold m_i_putMsg;refine mO ?_;refine zbd rfl ?_;refine zaa ?_;refine zay (fun s => has s.tm [(0,.ref 0 0),(3,.ref 1 0)] /\ ∃ t',s.bx = [bldC 0 t' (l ++ msgHd v),vC v] /\ WrN t live nt t' s.nt s.live) ?_ ?_
 ·refine mO ?_
  (iterate 2 refine mS ?_);refine zaa ?_;refine zad (zal (zah ?_));by_cases h0:v.kind = 0
  ·refine zai rfl rfl (decide_eq_true h0) ?_
   refine mT ?_;have e:msgHd v = [192]:=by unfold msgHd; simp [h0]
   have hlen:1 <= (msg v).length:=by rw [hM,e]; exact Nat.le_add_right 1 _
   refine zah ?_;refine mS ?_;refine po_g rfl (zeV 192 (l:=l) (t:=t) rfl ht (by omega)) ?_;rintro x _ _ _ ⟨rfl,rfl,rfl⟩;refine zaa ?_;exact ⟨⟨rfl,rfl,trivial⟩,nt,by rw [e]; rfl,WrN.step lR fun _ h => h⟩
  refine zan rfl rfl (decide_eq_false h0) ?_;refine mF ?_;refine mO ?_;by_cases h1:v.kind = 1
  ·refine zai rfl rfl (decide_eq_true h1) ?_
   refine mT ?_;have e:msgHd v = [194]:=by unfold msgHd; simp [h1]
   have hlen:1 <= (msg v).length:=by rw [hM,e]; exact Nat.le_add_right 1 _
   refine zah ?_;refine mS ?_;refine po_g rfl (zeV 194 (l:=l) (t:=t) rfl ht (by omega)) ?_;rintro x _ _ _ ⟨rfl,rfl,rfl⟩;refine zaa ?_;exact ⟨⟨rfl,rfl,trivial⟩,nt,by rw [e]; rfl,WrN.step lR fun _ h => h⟩
  refine zan rfl rfl (decide_eq_false h1) ?_;refine mF ?_;refine mO ?_;by_cases h2:v.kind = 2
  ·refine zai rfl rfl (decide_eq_true h2) ?_
   refine mT ?_;have e:msgHd v = [195]:=by unfold msgHd; simp [h2]
   have hlen:1 <= (msg v).length:=by rw [hM,e]; exact Nat.le_add_right 1 _
   refine zah ?_;refine mS ?_;refine po_g rfl (zeV 195 (l:=l) (t:=t) rfl ht (by omega)) ?_;rintro x _ _ _ ⟨rfl,rfl,rfl⟩;refine zaa ?_;exact ⟨⟨rfl,rfl,trivial⟩,nt,by rw [e]; rfl,WrN.step lR fun _ h => h⟩
  refine zan rfl rfl (decide_eq_false h2) ?_;refine mF ?_;refine mO ?_;by_cases h3:v.kind = 3
  ·refine zai rfl rfl (decide_eq_true h3) ?_
   refine mT ?_;have e:msgHd v = msgInt v.num:=by unfold msgHd; simp [h3]
   have hlen:(msgInt v.num).length <= (msg v).length:=by rw [hM,e]; exact Nat.le_add_right _ _
   refine zah ?_;(iterate 3 refine mS ?_);refine zab rfl hnum ?_;refine po_g rfl (zbJ (msgInt v.num) (l:=l) (t:=t) rfl ht (by omega)) ?_;rintro x _ _ _ ⟨rfl,rfl,rfl⟩;refine zaa ?_;exact ⟨⟨rfl,rfl,trivial⟩,nt,by rw [e]; rfl,WrN.step lR (fun _ h => h)⟩
  refine zan rfl rfl (decide_eq_false h3) ?_;refine mF ?_;refine mO ?_;by_cases h5:v.kind = 5
  ·refine zai rfl rfl (decide_eq_true h5) ?_
   refine mT ?_;have e:msgHd v = msgMany v.text.length 32 160 217 218 ++ v.text:=by unfold msgHd; simp [h5]
   have hlen:(msgMany v.text.length 32 160 217 218 ++ v.text).length <= (msg v).length:=by rw [hM,e]; exact Nat.le_add_right _ _
   refine zah ?_;(iterate 4 refine mS ?_);(iterate 2 refine mS ?_);refine zab (args:=[.d (pI v.text.length),.d (pI 160),.d (pI 32),.d (pI 217),.d (pI 218)]) rfl (hlen5 v.text.length 32 160 217 218 (by omega) (by omega) (by omega)) ?_;refine zav (lb:=v.text) rfl rfl rfl (by have:=mm v.text.length 32 160 217 218; omega) ?_;refine po_g rfl (zbJ (msgMany v.text.length 32 160 217 218 ++ v.text) (l:=l) (t:=t) rfl ht (by omega)) ?_;rintro x _ _ _ ⟨rfl,rfl,rfl⟩;refine zaa ?_;exact ⟨⟨rfl,rfl,trivial⟩,nt,by rw [e]; rfl,WrN.step lR (fun _ h => h)⟩
  refine zan rfl rfl (decide_eq_false h5) ?_;refine mF ?_;refine mO ?_;by_cases h6:v.kind = 6
  ·refine zai rfl rfl (decide_eq_true h6) ?_
   refine mT ?_;have e:msgHd v = msgMany v.text.length 0 0 196 197 ++ v.text:=by unfold msgHd; simp [h6]
   have hlen:(msgMany v.text.length 0 0 196 197 ++ v.text).length <= (msg v).length:=by rw [hM,e]; exact Nat.le_add_right _ _
   refine zah ?_;(iterate 4 refine mS ?_);(iterate 2 refine mS ?_);refine zab (args:=[.d (pI v.text.length),.d (pI 0),.d (pI 0),.d (pI 196),.d (pI 197)]) rfl (hlen5 v.text.length 0 0 196 197 (by omega) (by omega) (by omega)) ?_;refine zav (lb:=v.text) rfl rfl rfl (by have:=mm v.text.length 0 0 196 197; omega) ?_;refine po_g rfl (zbJ (msgMany v.text.length 0 0 196 197 ++ v.text) (l:=l) (t:=t) rfl ht (by omega)) ?_;rintro x _ _ _ ⟨rfl,rfl,rfl⟩;refine zaa ?_;exact ⟨⟨rfl,rfl,trivial⟩,nt,by rw [e]; rfl,WrN.step lR (fun _ h => h)⟩
  refine zan rfl rfl (decide_eq_false h6) ?_;refine mF ?_;refine mO ?_;by_cases h7:v.kind = 7
  ·refine zai rfl rfl (decide_eq_true h7) ?_
   refine mT ?_;have e:msgHd v = msgMany v.kids.length 16 144 0 220:=by unfold msgHd; simp [h7]
   have hlen:(msgMany v.kids.length 16 144 0 220).length <= (msg v).length:=by rw [hM,e]; exact Nat.le_add_right _ _
   refine zah ?_;(iterate 3 refine mS ?_);refine zat (n:=v.kids.length) rfl rfl hvlen ?_;refine zab (args:=[.d (pI v.kids.length),.d (pI 144),.d (pI 16),.d (pI 0),.d (pI 220)]) rfl (hlen5 v.kids.length 16 144 0 220 (by omega) (by omega) (by omega)) ?_;refine po_g rfl (zbJ (msgMany v.kids.length 16 144 0 220) (l:=l) (t:=t) rfl ht (by omega)) ?_;rintro x _ _ _ ⟨rfl,rfl,rfl⟩;refine zaa ?_;exact ⟨⟨rfl,rfl,trivial⟩,nt,by rw [e]; rfl,WrN.step lR (fun _ h => h)⟩
  refine zan rfl rfl (decide_eq_false h7) ?_;refine mF ?_;refine mO ?_;by_cases h8:v.kind = 8
  ·refine zai rfl rfl (decide_eq_true h8) ?_
   refine mT ?_;have e:msgHd v = msgMany ((v.kids.length / 2:Nat):Int) 16 128 0 222:=by unfold msgHd; simp [h8]
   have hlen:(msgMany ((v.kids.length / 2:Nat):Int) 16 128 0 222).length <= (msg v).length:=by rw [hM,e]; exact Nat.le_add_right _ _
   refine zah ?_;(iterate 3 refine mS ?_);refine zat (n:=v.kids.length) rfl rfl hvlen ?_;refine po_q (v:=.d (pI ((v.kids.length / 2:Nat):Int))) rfl (by show some (PV.d (.v (.int .i64 (IntKind.wrap .i64 (((v.kids.length:Nat):Int).tdiv 2))))) = _; rw [show IntKind.wrap .i64 (((v.kids.length:Nat):Int).tdiv 2) = ((v.kids.length / 2:Nat):Int) by rw [IntKind.wrap_i64,Int.tdiv_eq_ediv_of_nonneg (by omega)]; omega]; rfl) ?_;refine zab (args:=[.d (pI ((v.kids.length / 2:Nat):Int)),.d (pI 128),.d (pI 16),.d (pI 0),.d (pI 222)]) rfl (hlen5 ((v.kids.length / 2:Nat):Int) 16 128 0 222 (by omega) (by omega) (by omega)) ?_;refine po_g rfl (zbJ (msgMany ((v.kids.length / 2:Nat):Int) 16 128 0 222) (l:=l) (t:=t) rfl ht (by omega)) ?_;rintro x _ _ _ ⟨rfl,rfl,rfl⟩;refine zaa ?_;exact ⟨⟨rfl,rfl,trivial⟩,nt,by rw [e]; rfl,WrN.step lR (fun _ h => h)⟩
  refine zan rfl rfl (decide_eq_false h8) ?_;refine mF ?_;refine mO ?_;by_cases h4:v.kind = 4
  ·refine zai rfl rfl (decide_eq_true h4) ?_
   refine mT ?_;have e:msgHd v = [199,9,4] ++ be 1 (lo64 v.exp) ++ be 8 (lo64 v.num):=by unfold msgHd; simp [h4]
   have hlen:([199,9,4] ++ be 1 (lo64 v.exp) ++ be 8 (lo64 v.num)).length <= (msg v).length:=by rw [hM,e]; exact Nat.le_add_right _ _
   refine zbk ?_;refine zaj ?_;refine mS ?_;refine mS ?_;refine mS ?_;refine mS ?_;refine mL ?_;refine zar ?_;refine zas ?_ ?_
   ·refine zao (es:=[[.v (.int .u8 199)],[.v (.int .u8 9)],[.v (.int .u8 4)]]) rfl ?_
    refine zaa ?_;refine zaj ?_;refine mL ?_;refine zar ?_;refine zas ?_ zaq;refine zab rfl (hwide v.exp 1 (by omega) wexp) ?_;refine zaa ?_;refine zaj ?_;refine zav (la:=[199,9,4]) (lb:=be 1 (lo64 v.exp)) rfl rfl rfl (by rw [zac]; simp) ?_;refine zaa ?_;refine zar ?_;refine zas ?_ zaq;refine zab rfl (hwide v.num 8 (by omega) wnum) ?_;refine zaa ?_;refine zaj ?_;refine zav (la:=[199,9,4] ++ be 1 (lo64 v.exp)) (lb:=be 8 (lo64 v.num)) rfl rfl rfl (by rw [length_append,zac,zac]; simp) ?_;refine zaa ?_;refine zar ?_;refine zas ?_ zaq;refine po_g rfl (zbJ ([199,9,4] ++ be 1 (lo64 v.exp) ++ be 8 (lo64 v.num)) (l:=l) (t:=t) rfl ht2 (by omega)) ?_;rintro x _ _ _ ⟨rfl,rfl,rfl⟩;refine zaa ?_;refine zaj ?_;refine zaa ?_;refine zaF ?_;exact ⟨⟨rfl,rfl,trivial⟩,nt + 1,by rw [e]; rfl,WrN.step (Nat.le_succ _) fun _ h => mem_cons_of_mem _ h⟩
   refine zas ?_ zaq;refine zab rfl (hwide v.exp 1 (by omega) wexp) ?_;refine zaa ?_;refine zaj ?_;refine zaa ?_;refine zar ?_;refine zas ?_ ?_
   ·refine zao (es:=[[.v (.int .u8 199)],[.v (.int .u8 9)],[.v (.int .u8 4)]]) rfl ?_
    refine zaa ?_;refine zaj ?_;refine mS ?_;refine zav (la:=[199,9,4]) (lb:=be 1 (lo64 v.exp)) rfl rfl rfl (by rw [zac]; simp) ?_;refine zaa ?_;refine zar ?_;refine zas ?_ zaq;refine zab rfl (hwide v.num 8 (by omega) wnum) ?_;refine zaa ?_;refine zaj ?_;refine zav (la:=[199,9,4] ++ be 1 (lo64 v.exp)) (lb:=be 8 (lo64 v.num)) rfl rfl rfl (by rw [length_append,zac,zac]; simp) ?_;refine zaa ?_;refine zar ?_;refine zas ?_ zaq;refine po_g rfl (zbJ ([199,9,4] ++ be 1 (lo64 v.exp) ++ be 8 (lo64 v.num)) (l:=l) (t:=t) rfl ht2 (by omega)) ?_;rintro x _ _ _ ⟨rfl,rfl,rfl⟩;refine zaa ?_;refine zaj ?_;refine zaa ?_;refine zaF ?_;exact ⟨⟨rfl,rfl,trivial⟩,nt + 1,by rw [e]; rfl,WrN.step (Nat.le_succ _) fun _ h => mem_cons_of_mem _ h⟩
   refine zas ?_ zaq;refine zab rfl (hwide v.num 8 (by omega) wnum) ?_;refine zaa ?_;refine zaj ?_;refine zaa ?_;refine zar ?_;refine zas ?_ zaq;refine zao (es:=[[.v (.int .u8 199)],[.v (.int .u8 9)],[.v (.int .u8 4)]]) rfl ?_;refine zaa ?_;refine zaj ?_;refine mS ?_;refine zav (la:=[199,9,4]) (lb:=be 1 (lo64 v.exp)) rfl rfl rfl (by rw [zac]; simp) ?_;refine zav (la:=[199,9,4] ++ be 1 (lo64 v.exp)) (lb:=be 8 (lo64 v.num)) rfl rfl rfl (by rw [length_append,zac,zac]; simp) ?_;refine zaa ?_;refine zar ?_;refine zas ?_ zaq;refine po_g rfl (zbJ ([199,9,4] ++ be 1 (lo64 v.exp) ++ be 8 (lo64 v.num)) (l:=l) (t:=t) rfl ht2 (by omega)) ?_;rintro x _ _ _ ⟨rfl,rfl,rfl⟩;refine zaa ?_;refine zaj ?_;refine zaa ?_;refine zaF ?_;exact ⟨⟨rfl,rfl,trivial⟩,nt + 1,by rw [e]; rfl,WrN.step (Nat.le_succ _) fun _ h => mem_cons_of_mem _ h⟩
  refine zan rfl rfl (decide_eq_false h4) ?_;refine mF ?_;refine mO ?_;have h9:v.kind = 9:=V.ok_kind9 hk h0 h1 h2 h3 h4 h5 h6 h7 h8;refine zai rfl rfl (decide_eq_true h9) ?_;refine mT ?_;have e:msgHd v = [199,4,6] ++ be 4 (lo64 v.num):=by unfold msgHd; simp [h9]
  have hlen:([199,4,6] ++ be 4 (lo64 v.num)).length <= (msg v).length:=by rw [hM,e]; exact Nat.le_add_right _ _
  refine zbk ?_;refine zaj ?_;refine mS ?_;refine mS ?_;refine mL ?_;refine zar ?_;refine zas ?_ ?_
  ·refine zao (es:=[[.v (.int .u8 199)],[.v (.int .u8 4)],[.v (.int .u8 6)]]) rfl ?_
   refine zaa ?_;refine zaj ?_;refine mL ?_;refine zar ?_;refine zas ?_ zaq;refine zab rfl (hwide v.num 4 (by omega) wnum) ?_;refine zaa ?_;refine zaj ?_;refine zav (la:=[199,4,6]) (lb:=be 4 (lo64 v.num)) rfl rfl rfl (by rw [zac]; simp) ?_;refine zaa ?_;refine zar ?_;refine zas ?_ zaq;refine po_g rfl (zbJ ([199,4,6] ++ be 4 (lo64 v.num)) (l:=l) (t:=t) rfl ht2 (by omega)) ?_;rintro x _ _ _ ⟨rfl,rfl,rfl⟩;refine zaa ?_;refine zaj ?_;refine zaa ?_;refine zaF ?_;exact ⟨⟨rfl,rfl,trivial⟩,nt + 1,by rw [e]; rfl,WrN.step (Nat.le_succ _) fun _ h => mem_cons_of_mem _ h⟩
  refine zas ?_ zaq;refine zab rfl (hwide v.num 4 (by omega) wnum) ?_;refine zaa ?_;refine zaj ?_;refine zaa ?_;refine zar ?_;refine zas ?_ zaq;refine zao (es:=[[.v (.int .u8 199)],[.v (.int .u8 4)],[.v (.int .u8 6)]]) rfl ?_;refine zaa ?_;refine zaj ?_;refine mS ?_;refine zav (la:=[199,4,6]) (lb:=be 4 (lo64 v.num)) rfl rfl rfl (by rw [zac]; simp) ?_;refine zaa ?_;refine zar ?_;refine zas ?_ zaq;refine po_g rfl (zbJ ([199,4,6] ++ be 4 (lo64 v.num)) (l:=l) (t:=t) rfl ht2 (by omega)) ?_;rintro x _ _ _ ⟨rfl,rfl,rfl⟩;refine zaa ?_;refine zaj ?_;refine zaa ?_;refine zaF ?_;exact ⟨⟨rfl,rfl,trivial⟩,nt + 1,by rw [e]; rfl,WrN.step (Nat.le_succ _) fun _ h => mem_cons_of_mem _ h⟩
 rintro tm bx nt1 live1 ⟨ht0,t1,hbx,hW⟩;obtain ⟨tm0,rfl⟩:=zae ht0;simp only at hbx hW; subst hbx
 clear ht0;refine mO ?_;(iterate 2 refine mS ?_);refine zat (n:=v.kids.length) rfl rfl hvlen ?_;refine mN ?_;refine zad ?_;refine zaw (PmL v l t nt live) v.kids.length ⟨0,Nat.zero_le _,by simp,⟨rfl,rfl,rfl,rfl,trivial⟩,t1,[],by rw [take_zero]; show [bldC 0 t1 (l ++ msgHd v),vC v] = [bldC 0 t1 (l ++ (msgHd v ++ [])),vC v]; rw [append_nil],hW⟩ ?_;rintro m tm bx n2 live2 ⟨i,hi,rfl,ht0,t2,rest,hbx,hV⟩;obtain ⟨tm0,rfl⟩:=zae ht0;simp only at hbx hV; subst hbx
 clear ht0;refine mO ?_;refine po_b rfl rfl (fun b hb => ?_);refine zaa ?_;refine zal ?_;refine zbB (p:=(i:Int) < (v.kids.length:Int)) hb rfl (fun h _ => ?_) (fun h _ => ?_)
 ·have hil:i < v.kids.length:=by omega
  have hT1:=zfz hil;have hL:=zcQ (i + 1) v.kids;rw [hT1,length_append] at hL;refine zak ?_;refine zal (zad (zal (zah ?_)));refine zaV (es:=vK v.kids) (e:=vC v.kids[i]) rfl rfl rfl ⟨by omega,by rw [Int.toNat_natCast]; exact zbg hil⟩ rfl ?_;refine mS ?_;refine zdH (cs:=vC v.kids[i]) rfl rfl rfl rfl ?_;refine zaa ?_;refine zah ?_;refine mS ?_;refine zaU (cs:=vC v.kids[i]) (v:=.ag (vC v.kids[i])) rfl rfl (zbG (bldC 0 t2 (l ++ (msgHd v ++ msgs (v.kids.take i))) :: vC v :: rest) _) (Nat.le_refl 5) rfl ?_;refine po_g rfl (FnG.liftM (p:=0) (hkid i hil t2 n2 live2 (l ++ (msgHd v ++ msgs (v.kids.take i))) hV.1 (by simp only [length_append] at *; omega)) ⟨lw_vC _,trivial⟩ (zgr _ _) rfl) ?_;rintro x _ n3 live3 ⟨c',rfl,t3,rfl,hW2⟩;refine zaa ?_;refine zah ?_;refine zap (n:=((i + 1:Nat):Int)) rfl rfl rfl (by omega) (by omega) ?_
  refine mN ?_;refine ⟨v.kids.length - (i + 1),by omega,i + 1,hil,rfl,⟨rfl,rfl,rfl,rfl,trivial⟩,t3,rest ++ [vC v.kids[i]],?_,hV.trans hW2⟩;rw [hT1]; simp only [append_assoc]; rfl
 ·refine zaB ?_
  have hie:i = v.kids.length:=by omega
  subst hie;refine ⟨.inl rfl,[],rfl,_,_,rfl,?_,zgr t2 _,t2,?_,hV⟩
  ·trivial
  ·rw [take_length,zdR]
theorem pm_all:∀ (N:Nat) (v:V),v.nodes <= N -> v.wf -> v.ok = true -> PmG T hT v
 | 0,v,hn,_,_ => by obtain ⟨k,n,e,s,kids⟩:=v; simp only [V.nodes] at hn; omega
 | N + 1,v,hn,hw,hk => pm_step hw hk fun i h => pm_all N v.kids[i] (V.nodes_kid hn i h) (V.wf_kid hw i h) (V.ok_kid hk i h)
theorem V.ok_right {v:V} (h:v.ok = true):v.rightBy pairsOk 12 = true:=by
 unfold V.ok at h; simp only [Bool.and_eq_true] at h; exact h.1
theorem msg_ne {v:V} (hw:v.wf) (h:v.ok = true):msg v ≠ []:=by
 obtain ⟨b,t,_,_,e⟩:=msg_top (V.ok_right h) (V.ok_len h) (V.wf_num hw);rw [e]; exact fun h => by cases h
theorem putMsgI_fn (hTab:∀ w,T w -> Tabs w) (v:V) (hw:v.wf) (hb:v.bulk <= 4294967295):FnV (env T hT) 30 [.ag (vC v)] (.d (pS (msgTop v))):=by
 have hvok:=voki_fn (T:=T) (hT:=hT) hTab v hw hb;have hpm:=fun hk => pm_all (T:=T) (hT:=hT) v.nodes v lR hw hk
 refine zaQ (zaf zgl) (by show 1 <= 10; decide) fun B hB => ?_
 unfold m_i_PutMsg;refine mP ?_;refine mM ?_;refine mS ?_;refine zab (zbh v) hvok ?_;refine mN ?_;unfold msgTop;by_cases hk:v.ok = true
 ·rw [if_pos hk,hk]
  refine mwF ?_;refine zak ?_;refine mO ?_;refine po_zbld ?_;refine zaa ?_;refine mQ ?_;have hml:=V.ok_msg hk;refine po_g rfl (FnG.liftM (p:=1) (hpm hk 1 _ _ [] (.inl rfl) (by rw [zdR,length_append]; simp only [length_nil]; omega)) ⟨lw_vC _,trivial⟩ (zgr 1 []) rfl) ?_;rintro x _ n1 live1 ⟨c',rfl,t1,rfl,hW⟩;refine zaa ?_;refine mO ?_;refine po_g rfl (bstr_fn (p:=1) (t:=t1) (l:=[] ++ msg v) (msg_ne hw hk) rfl hW.1) ?_;rintro x _ _ _ ⟨rfl,rfl,rfl,rfl⟩;refine mN ?_;exact mR
 ·have hk':v.ok = false:=by simpa using hk
  rw [if_neg hk,hk'];refine mwT ?_;refine mP ?_;exact mR
end
section
theorem crc_and (y:Nat) (h:y < 4294967296):bits .and .u32 (y:Int) 1 = ((y % 2:Nat):Int):=by
 have:=u32_and_nat y 1 h (by omega)
 rw [show ((1:Nat):Int) = 1 from rfl] at this;rw [this,Nat.and_one_is_mod]
theorem crc_xor (y:Nat) (h:y < 4294967296):bits .xor .u32 ((y:Int) / 2) 3988292384 = ((y / 2 ^^^ 3988292384:Nat):Int):=by
 have:=u32_xor_nat (y / 2) 3988292384 (by omega) (by omega)
 rw [<- this]; rfl
theorem crc_not (l:L8):bits .xor .u32 IntKind.u32.max ((crcRaw l:Nat):Int) = ((crc l:Nat):Int):=by
 rw [crc,Nat.xor_comm]; exact u32_xor_nat 4294967295 _ (by decide) (zb2 l)
theorem zeu (y:Nat) (h:y % 2 = 1):crcBit y = y / 2 ^^^ 3988292384:=by unfold crcBit; rw [if_pos h]
theorem zd1 (y:Nat) (h:¬ y % 2 = 1):crcBit y = y / 2:=by unfold crcBit; rw [if_neg h]
theorem crc_spec (l:L8) (w:World) (hs:l.length <= maxLen) :
  Calls Tryz.prog 39 #[.string ⟨l.toArray⟩] w fun e w' => e = .returned (.int .u32 (crc l)) /\ w = w':=by
 unfold maxLen at hs
 go_enter Tryz.func39,Tryz.ntmps39
 go_wp2
 go_loop [3,4] (fun x i => ∃ (k:Nat),k <= l.length /\ i = .int .i64 k /\ x = .int .u32 (crcRaw (l.take k))) (fun _ i => l.length - (intOf i).toNat)
 case atStart => exact ⟨0,Nat.zero_le _,rfl,rfl⟩
 case round =>
  obtain ⟨k,hk,rfl,rfl⟩:=hrel;have hc:=zb2 (l.take k);by_cases hlt:k < l.length
  ·have hb:=l[k].toNat_lt
   have hx:bits .xor .u32 (crcRaw (l.take k)) (l[k].toNat:Int) = ((crcRaw (l.take k) ^^^ l[k].toNat:Nat):Int):=u32_xor_nat _ _ hc (by omega);have hxl:(crcRaw (l.take k) ^^^ l[k].toNat:Nat) < 4294967296:=zbr hc (by omega);have HS:=Lib.hid (zdt l k hlt);go_wp2
   go_loop [3,5] (fun x i => ∃ (j:Nat),j <= 8 /\ i = .int .i64 j /\ x = .int .u32 (crcBits j (crcRaw (l.take k) ^^^ l[k].toNat):Nat)) (fun _ i => 8 - (intOf i).toNat)
   case atStart => exact ⟨0,Nat.zero_le _,rfl,rfl⟩
   case round =>
    obtain ⟨j,hj,rfl,rfl⟩:=hrel;by_cases hl8:j < 8
    ·have hz:=zbv hxl j
     generalize hy:crcBits j (crcRaw (l.take k) ^^^ l[k].toNat) = y at *;have HY:=Lib.hid hy; clear hy
     have ha:=crc_and y hz;by_cases ho:y % 2 = 1
     ·have ha1:bits .and .u32 (y:Int) 1 = 1:=by rw [ha,ho]; rfl
      have hx2:=crc_xor y hz;have HF:=Lib.hid (zeu y ho);clear ha ho;go_wp2
      go_round
      case rel => exact ⟨j + 1,by omega,by go_num,by rw [crcBits,HY.out,HF.out]⟩
      case measure => simp [intOf] <;> omega
     ·have ha1:bits .and .u32 (y:Int) 1 = 0:=by rw [ha,show y % 2 = 0 by omega]; rfl
      have HF:=Lib.hid (zd1 y ho);clear ha ho;go_wp2
      go_round
      case rel => exact ⟨j + 1,by omega,by go_num,by rw [crcBits,HY.out,HF.out]; simp⟩
      case measure => simp [intOf] <;> omega
    ·obtain rfl:j = 8:=by omega
     go_wp2
     go_round
     case rel => exact ⟨k + 1,by omega,by go_num,by rw [HS.out]; rfl⟩
     case measure => simp [intOf] <;> omega
  ·obtain rfl:k = l.length:=by omega
   have hx:bits .xor .u32 ((crcRaw l:Nat):Int) (4294967295:Int) = ((crc l:Nat):Int):=u32_xor_nat _ _ (zb2 l) (by decide);go_wp2;go_ret;exact ⟨rfl,rfl⟩
theorem crc_impl (l:L8) (w:World) (hs:l.length <= maxLen) :
  Calls Tryz.prog 29 #[.string ⟨l.toArray⟩] w fun e w' => e = .returned (.int .u32 (crc l)) /\ w = w':=by
 unfold maxLen at hs
 go_enter Tryz.func29,Tryz.ntmps29
 go_wp2
 go_loop [3,8] (fun x i => ∃ (k:Nat),k <= l.length /\ i = .int .i64 k /\ x = .int .u32 (crcRaw (l.take k))) (fun _ i => l.length - (intOf i).toNat)
 case atStart => exact ⟨0,Nat.zero_le _,rfl,rfl⟩
 case round =>
  obtain ⟨k,hk,rfl,rfl⟩:=hrel;have hc:=zb2 (l.take k);by_cases hlt:k < l.length
  ·have hb:=l[k].toNat_lt
   have hx:bits .xor .u32 (crcRaw (l.take k)) (l[k].toNat:Int) = ((crcRaw (l.take k) ^^^ l[k].toNat:Nat):Int):=u32_xor_nat _ _ hc (by omega);have hxl:(crcRaw (l.take k) ^^^ l[k].toNat:Nat) < 4294967296:=zbr hc (by omega);have HS:=Lib.hid (zdt l k hlt);go_wp2
   go_loop [3,17] (fun x i => ∃ (j:Nat),j <= 8 /\ i = .int .i64 j /\ x = .int .u32 (crcBits j (crcRaw (l.take k) ^^^ l[k].toNat):Nat)) (fun _ i => 8 - (intOf i).toNat)
   case atStart => exact ⟨0,Nat.zero_le _,rfl,rfl⟩
   case round =>
    obtain ⟨j,hj,rfl,rfl⟩:=hrel;by_cases hl8:j < 8
    ·have hz:=zbv hxl j
     generalize hy:crcBits j (crcRaw (l.take k) ^^^ l[k].toNat) = y at *;have HY:=Lib.hid hy; clear hy
     have ha:=crc_and y hz;by_cases ho:y % 2 = 1
     ·have ha1:bits .and .u32 (y:Int) 1 = 1:=by rw [ha,ho]; rfl
      have hx2:=crc_xor y hz;have HF:=Lib.hid (zeu y ho);clear ha ho;go_wp2
      go_round
      case rel => exact ⟨j + 1,by omega,by go_num,by rw [crcBits,HY.out,HF.out]⟩
      case measure => simp [intOf] <;> omega
     ·have ha1:bits .and .u32 (y:Int) 1 = 0:=by rw [ha,show y % 2 = 0 by omega]; rfl
      have HF:=Lib.hid (zd1 y ho);clear ha ho;go_wp2
      go_round
      case rel => exact ⟨j + 1,by omega,by go_num,by rw [crcBits,HY.out,HF.out]; simp⟩
      case measure => simp [intOf] <;> omega
    ·obtain rfl:j = 8:=by omega
     go_wp2
     go_round
     case rel => exact ⟨k + 1,by omega,by go_num,by rw [HS.out]; rfl⟩
     case measure => simp [intOf] <;> omega
  ·obtain rfl:k = l.length:=by omega
   have hx:=crc_not l;go_wp2;go_ret;exact ⟨rfl,rfl⟩
end
section
variable {T:World -> Prop} {hT:Low ngl T}
attribute [local irreducible] po mw pt
def pU (n:Nat):PC:=.v (.int .u32 n)
theorem crcS_fn (l:L8) (hl:l.length <= maxLen):FnV (env T hT) 39 [.d (pS l)] (.d (pU (crc l))):=by
 refine FnV.old rfl fun w C vs hF _ _ hlen hv => ?_
 match vs,hlen with
 | [a],_ =>
  have h1:=pS_inv (hv 0 _ _ rfl rfl);subst h1;exact (crc_spec l w hl).mono fun e w' ⟨h1,h2⟩ => by subst h2; exact ⟨h1,Below.refl _ _⟩
theorem crcI_fn (l:L8) (hl:l.length <= maxLen):FnV (env T hT) 29 [.d (pS l)] (.d (pU (crc l))):=by
 refine FnV.old rfl fun w C vs hF _ _ hlen hv => ?_
 match vs,hlen with
 | [a],_ =>
  have h1:=pS_inv (hv 0 _ _ rfl rfl);subst h1;exact (crc_impl l w hl).mono fun e w' ⟨h1,h2⟩ => by subst h2; exact ⟨h1,Below.refl _ _⟩
theorem insPs_le:∀ (kids out:List V),(insPs out kids).length <= out.length + kids.length
 | [],out => by simp [insPs]
 | [_],out => by simp [insPs]
 | x :: y :: r,out => by
  have:=insPs_le r (insP out x y)
  rw [zcj] at this;show (insPs (insP out x y) r).length <= _;simp only [length_cons]; omega
theorem V.sort_wf:∀ (N:Nat) (v:V),v.nodes <= N -> v.wf -> v.sort.wf
 | 0,v,h,_ => by have:=v.nodes_pos; omega
 | N + 1,.mk k n e s kids,hn,hw => by
  obtain ⟨h1,h2,h3,h4,h5,h6⟩:=hw;simp only [V.nodes] at hn
  have hall:∀ z ∈ V.sorts kids,z.wf:=fun z hz => by
   rw [V.sorts_map] at hz;obtain ⟨y,hy,rfl⟩:=mem_map.1 hz;obtain ⟨i,hi,rfl⟩:=List.getElem_of_mem hy
   have:=V.nodes_get kids i hi
   exact V.sort_wf N _ (by omega) (V.wfs_all.1 h6 _ hy)
  simp only [V.sort];refine ⟨h1,h2,h3,h4,?_,?_⟩
  ·split
   ·have:=insPs_le (V.sorts kids) []
    rw [V.sorts_length,length_nil] at this; omega
   ·rw [V.sorts_length]; exact h5
  ·rw [V.wfs_all]
   intro z hz
   split at hz
   ·exact (zbO _ _ z hz).elim (fun h => by cases h) (hall z)
   ·exact hall z hz
def sumV (v:V):Nat:=if v.ok then crc (msg v.sort) else 0
theorem zgs (v:V):sumV v < 4294967296:=by
 unfold sumV; split
 ·exact crc_lt _
 ·decide
theorem zfM {v:V} (h:v.ok = true):(msg v).length <= maxLen:=by
 have h1:=zge v;have h2:=V.ok_bulk h;have h3:v.nodes <= 300:=by unfold V.ok at h; simp only [Bool.and_eq_true,decide_eq_true_eq] at h; exact h.2
 unfold maxLen; omega
theorem sortedS_fn (v:V) (hw:v.wf) (hb:v.bulk <= 1048576) (hf:v.few) (hk:v.ok = true):FnV (env T hT) 41 [.ag (vC v)] (.ag (vC v.sort)):=by
 refine zaQ (zaf zga) (by show 1 <= 10; decide) fun B hB => ?_
 unfold m_s_Sorted;refine mO ?_;refine zbd (cs:=vC v) rfl ?_;refine mN ?_;refine mM ?_;refine za1 (p:=0) (cs:=vC v) rfl rfl rfl rfl ?_;refine zab (zbh v) (vok_fn (T:=T) (hT:=hT) v hw (by omega)) ?_;rw [hk];refine mK ?_;refine mO ?_;refine za1 (p:=0) (cs:=vC v) rfl rfl rfl rfl ?_;refine zab (zbh v) (sort_fn (T:=T) (hT:=hT) v (ok_rgt hk hf)) ?_;refine zaT (p:=1) (cs:=vC v.sort) rfl rfl rfl rfl rfl rfl ?_;refine mN ?_;refine zag ⟨.inr rfl,[.ag (vC v.sort)],rfl,?_⟩;show some (PV.ag (erL _)) = _;rw [zcM]
theorem sumS_fn (v:V) (hw:v.wf) (hb:v.bulk <= 1048576) (hf:v.few):FnV (env T hT) 23 [.ag (vC v)] (.d (pU (sumV v))):=by
 refine zaQ (zaf lk_s_SumOf) (by show 1 <= 10; decide) fun B hB => ?_
 unfold m_s_SumOf;refine mO ?_;refine zbd (cs:=vC v) rfl ?_;refine mN ?_;refine mM ?_;refine za1 (p:=0) (cs:=vC v) rfl rfl rfl rfl ?_;refine zab (zbh v) (vok_fn (T:=T) (hT:=hT) v hw (by omega)) ?_;unfold sumV
 cases hk:v.ok with
 | false =>
  refine mT ?_;refine mP ?_
  exact mR
 | true =>
 obtain ⟨hk2,hb2⟩:=V.sort_okT hk;have hw2:=V.sort_wf v.nodes v lR hw;have hm:msgTop v.sort = msg v.sort:=by unfold msgTop; rw [if_pos hk2]
 refine mK ?_;refine mO ?_;refine za1 (p:=0) (cs:=vC v) rfl rfl rfl rfl ?_;refine zab (zbh v) (sortedS_fn (T:=T) (hT:=hT) v hw hb hf hk) ?_;refine zab (zbh v.sort) (putMsg_fn (T:=T) (hT:=hT) v.sort hw2 (by omega)) ?_;rw [hm];refine zab (args:=[.d (pS (msg v.sort))]) rfl (crcS_fn (msg v.sort) (zfM hk2)) ?_;refine mN ?_;exact mR
theorem sumI_fn (hTab:∀ w,T w -> Tabs w) (v:V) (hw:v.wf) (hb:v.bulk <= 1048576) (hf:v.few):FnV (env T hT) 16 [.ag (vC v)] (.d (pU (sumV v))):=by
 refine zaQ (zaf lk_i_SumOf) (by show 1 <= 10; decide) fun B hB => ?_
 unfold m_i_SumOf;refine mO ?_;refine zbd (cs:=vC v) rfl ?_;refine mN ?_;refine mM ?_;refine za1 (p:=0) (cs:=vC v) rfl rfl rfl rfl ?_;refine zab (zbh v) (voki_fn (T:=T) (hT:=hT) hTab v hw (by omega)) ?_;unfold sumV
 cases hk:v.ok with
 | false =>
  refine mT ?_;refine mP ?_
  exact mR
 | true =>
 obtain ⟨hk2,hb2⟩:=V.sort_okT hk;have hw2:=V.sort_wf v.nodes v lR hw;have hm:msgTop v.sort = msg v.sort:=by unfold msgTop; rw [if_pos hk2]
 refine mK ?_;refine mO ?_;refine za1 (p:=0) (cs:=vC v) rfl rfl rfl rfl ?_;refine zab (zbh v) (sortI_fn (T:=T) (hT:=hT) v (ok_rgt hk hf)) ?_;refine zab (zbh v.sort) (putMsgI_fn (T:=T) (hT:=hT) hTab v.sort hw2 (by omega)) ?_;rw [hm];refine zab (args:=[.d (pS (msg v.sort))]) rfl (crcI_fn (msg v.sort) (zfM hk2)) ?_;refine mN ?_;exact mR
end
section
theorem crcBit_lin (x y:Nat):crcBit (x ^^^ y) = crcBit x ^^^ crcBit y:=by
 unfold crcBit
 have h1:(x ^^^ y) / 2 = x / 2 ^^^ y / 2:=by
  have:=Nat.shiftRight_xor_distrib (i:=1) (a:=x) (b:=y)
  simpa [Nat.shiftRight_eq_div_pow] using this
 have h2:(x ^^^ y) % 2 = (x % 2) ^^^ (y % 2):=by
  have:=Nat.xor_mod_two_pow (a:=x) (b:=y) (n:=1)
  simpa using this
 rw [h1,h2];generalize x / 2 = a;generalize y / 2 = b;have e1:a ^^^ 3988292384 ^^^ b = a ^^^ b ^^^ 3988292384:=by rw [Nat.xor_assoc,Nat.xor_comm 3988292384 b,<- Nat.xor_assoc]
 have e2:a ^^^ 3988292384 ^^^ (b ^^^ 3988292384) = a ^^^ b:=by rw [<- Nat.xor_assoc,e1,Nat.xor_assoc,Nat.xor_self,Nat.xor_zero]
 have e3:a ^^^ (b ^^^ 3988292384) = a ^^^ b ^^^ 3988292384:=by rw [Nat.xor_assoc]
 rcases Nat.mod_two_eq_zero_or_one x with hx | hx <;> rcases Nat.mod_two_eq_zero_or_one y with hy | hy <;> rw [hx,hy] <;> simp [e1,e2,e3]
theorem crcBit_inj {x y:Nat} (hx:x < 4294967296) (hy:y < 4294967296) (h:crcBit x = crcBit y):x = y:=by
 have key:∀ z,z < 4294967296 -> (crcBit z).testBit 31 = decide (z % 2 = 1):=by
  intro z hz;have hz2:(z / 2).testBit 31 = false:=Nat.testBit_lt_two_pow (by omega);unfold crcBit;split
  ·rename_i h1
   rw [Nat.testBit_xor,hz2,h1]; rfl
  ·rename_i h1
   rw [hz2,decide_eq_false h1]
 have h2:x % 2 = y % 2:=by
  have hh:=key x hx;rw [h,key y hy] at hh
  have:=decide_eq_decide.1 hh
  omega
 unfold crcBit at h;rw [h2] at h
 have h3:x / 2 = y / 2:=by
  split at h
  ·have:=congrArg (· ^^^ 3988292384) h
   simpa [Nat.xor_assoc,Nat.xor_self] using this
  ·exact h
 omega
theorem zd2:∀ (k x y:Nat),crcBits k (x ^^^ y) = crcBits k x ^^^ crcBits k y
 | 0,_,_ => rfl
 | k + 1,x,y => by simp only [crcBits]; rw [zd2 k,crcBit_lin]
theorem zcC:∀ (k:Nat) {x y:Nat},x < 4294967296 -> y < 4294967296 -> crcBits k x = crcBits k y -> x = y
 | 0,_,_,_,_,h => h
 | k + 1,_x,_y,hx,hy,h => zcC k hx hy (crcBit_inj (zbv hx k) (zbv hy k) h)
theorem zd3:∀ (a b x:Nat),crcBits (a + b) x = crcBits a (crcBits b x)
 | 0,b,x => by rw [Nat.zero_add]; rfl
 | a + 1,b,x => by rw [Nat.add_right_comm]; show crcBit (crcBits (a + b) x) = crcBit (crcBits a (crcBits b x)); rw [zd3 a b x]
theorem zev:∀ (k z:Nat),crcBits k (z * 2 ^ k) = z
 | 0,z => by simp [crcBits]
 | k + 1,z => by
  have e:z * 2 ^ (k + 1) = z * 2 * 2 ^ k:=by rw [Nat.pow_succ,Nat.mul_assoc,Nat.mul_comm 2]
  simp only [crcBits];rw [e,zev k (z * 2)];unfold crcBit;rw [if_neg (by omega)]; omega
def leN:L8 -> Nat
 | [] => 0
 | b :: l => b.toNat ^^^ leN l * 256
theorem zeW:∀ (l:L8) (x:Nat),l.foldl crcByte x = crcBits (8 * l.length) (x ^^^ leN l)
 | [],x => by simp [leN,crcBits]
 | b :: l,x => by
  rw [foldl_cons,zeW l]
  have h:crcByte x b ^^^ leN l = crcBits 8 (x ^^^ leN (b :: l)):=by
   have:=zev 8 (leN l)
   unfold crcByte;show _ = crcBits 8 (x ^^^ (b.toNat ^^^ leN l * 256));rw [<- Nat.xor_assoc,zd2 8 (x ^^^ b.toNat)];rw [show leN l * 256 = leN l * 2 ^ 8 from rfl,this]
  rw [h,<- zd3];rfl
theorem zgt (b:UInt8) (l:L8):leN (b :: l) % 256 = b.toNat /\ leN (b :: l) / 256 = leN l:=by
 have hb:=b.toNat_lt
 constructor
 ·have:=Nat.xor_mod_two_pow (a:=b.toNat) (b:=leN l * 256) (n:=8)
  show (b.toNat ^^^ leN l * 256) % 256 = _;rw [show (256:Nat) = 2 ^ 8 from rfl] at this ⊢;rw [this,Nat.mul_mod_left,Nat.xor_zero,Nat.mod_eq_of_lt hb]
 ·have:=Nat.shiftRight_xor_distrib (i:=8) (a:=b.toNat) (b:=leN l * 256)
  simp only [Nat.shiftRight_eq_div_pow] at this;show (b.toNat ^^^ leN l * 256) / 256 = _;rw [show (256:Nat) = 2 ^ 8 from rfl] at this ⊢;rw [this,Nat.div_eq_of_lt hb,Nat.zero_xor,Nat.mul_div_cancel _ (by decide)]
theorem leN_inj:∀ {a b:L8},a.length = b.length -> leN a = leN b -> a = b
 | [],[],_,_ => rfl
 | [],y :: b,h,_ => by simp at h
 | x :: a,[],h,_ => by simp at h
 | x :: a,y :: b,h,e => by
  obtain ⟨p1,p2⟩:=zgt x a;obtain ⟨q1,q2⟩:=zgt y b;rw [e] at p1 p2
  have:x = y:=UInt8.toNat_inj.1 (p1.symm.trans q1)
  rw [this,leN_inj (by simpa using h) (p2.symm.trans q2)]
theorem leN_lt:∀ (l:L8) (k:Nat),l.length <= k -> leN l < 2 ^ (8 * k)
 | [],k,_ => by simp only [leN]; exact Nat.two_pow_pos _
 | b :: l,0,h => by simp at h
 | b :: l,k + 1,h => by
  have h1:=leN_lt l k (by simpa using h);obtain ⟨_,q⟩:=zgt b l;rw [show 8 * (k + 1) = 8 * k + 8 by omega,Nat.pow_add]
  have:leN (b :: l) / 256 < 2 ^ (8 * k):=by rw [q]; exact h1
  generalize 2 ^ (8 * k) = p at *;omega
theorem zfN:∀ (l:L8) {x y:Nat},x < 4294967296 -> y < 4294967296 -> l.foldl crcByte x = l.foldl crcByte y -> x = y
 | [],_,_,_,_,h => h
 | b :: l,x,y,hx,hy,h => by
  have:=zfN l (zcT hx b) (zcT hy b) h
  have hb:=b.toNat_lt;have h2:=zcC 8 (zbr hx (by omega)) (zbr hy (by omega)) this
  have:=congrArg (· ^^^ b.toNat) h2
  simpa [Nat.xor_assoc,Nat.xor_self] using this
theorem zgu {a b:L8} (h:crc a = crc b):crcRaw a = crcRaw b:=by
 have:=congrArg (· ^^^ 4294967295) h
 simpa [crc,Nat.xor_assoc,Nat.xor_self] using this
theorem crc_mid {p a b s:L8} (hl:a.length = b.length) (h4:a.length <= 4) (h:crc (p ++ a ++ s) = crc (p ++ b ++ s)):a = b:=by
 have h1:=zgu h;unfold crcRaw at h1;rw [foldl_append,foldl_append,foldl_append,foldl_append] at h1;have hx:=zdj p 4294967295 (by decide);generalize p.foldl crcByte 4294967295 = q at h1 hx;have h2:=zfN s (zdj a _ hx) (zdj b _ hx) h1;rw [zeW a,zeW b,<- hl] at h2;have ha:leN a < 4294967296:=leN_lt a 4 h4;have hb:leN b < 4294967296:=leN_lt b 4 (by omega);have h3:=zcC _ (zbr hx ha) (zbr hx hb) h2;refine leN_inj hl ?_
 have:=congrArg (q ^^^ ·) h3
 simpa [<- Nat.xor_assoc,Nat.xor_self] using this
end
section
def bothS (a b:Nat):Nat:=crc (be 4 a ++ be 4 b)
def halfN (n:Nat):Nat:=(n + 1) / 2
def rootL (f:V -> Nat) (l:List V):Nat :=
 if l.length < 2 then (match l with | [] => 1 | x :: _ => f x)
 else bothS (rootL f (l.take (halfN l.length))) (rootL f (l.drop (halfN l.length)))
termination_by l.length
decreasing_by all_goals (simp only [halfN,length_take,length_drop]; omega)
def branchL (f:V -> Nat) (l:List V) (i:Nat):List Nat :=
 if l.length < 2 then []
 else if i < halfN l.length then branchL f (l.take (halfN l.length)) i ++ [rootL f (l.drop (halfN l.length))]
 else branchL f (l.drop (halfN l.length)) (i - halfN l.length) ++ [rootL f (l.take (halfN l.length))]
termination_by l.length
decreasing_by all_goals (simp only [halfN,length_take,length_drop]; omega)
def turnsL (i n:Nat):List Bool :=
 if n < 2 then []
 else if i < halfN n then turnsL i (halfN n) ++ [true]
 else turnsL (i - halfN n) (n - halfN n) ++ [false]
termination_by n
decreasing_by all_goals (simp only [halfN]; omega)
def stepL (x:Nat) (p:Bool × Nat):Nat:=if p.1 then bothS x p.2 else bothS p.2 x
def climbL (x:Nat) (ps:List (Bool × Nat)):Nat:=ps.foldl stepL x
def climbI (x i n:Nat) (sums:List Nat):Option (Nat × List Nat) :=
 if n < 2 then some (x,sums)
 else if i < halfN n then
  match climbI x i (halfN n) sums with
  | some (r,s :: rest) => some (bothS r s,rest)
  | _ => none
 else
  match climbI x (i - halfN n) (n - halfN n) sums with
  | some (r,s :: rest) => some (bothS s r,rest)
  | _ => none
termination_by n
decreasing_by all_goals (simp only [halfN]; omega)
theorem zd4 (f:V -> Nat) {l:List V} (h:¬ l.length < 2):rootL f l = bothS (rootL f (l.take (halfN l.length))) (rootL f (l.drop (halfN l.length))):=by
 conv => lhs; unfold rootL
 rw [if_neg h]
theorem zd5 (f:V -> Nat) (x:V):rootL f [x] = f x:=by
 unfold rootL; rfl
theorem zfO (f:V -> Nat):rootL f [] = 1:=by
 unfold rootL; rfl
theorem zbf (f:V -> Nat) {l:List V} (h:l.length < 2) (i:Nat):branchL f l i = []:=by
 unfold branchL; rw [if_pos h]
theorem zbT (f:V -> Nat) {l:List V} (h:¬ l.length < 2) {i:Nat} (hi:i < halfN l.length):branchL f l i = branchL f (l.take (halfN l.length)) i ++ [rootL f (l.drop (halfN l.length))]:=by
 conv => lhs; unfold branchL
 rw [if_neg h,if_pos hi]
theorem zbU (f:V -> Nat) {l:List V} (h:¬ l.length < 2) {i:Nat} (hi:¬ i < halfN l.length):branchL f l i = branchL f (l.drop (halfN l.length)) (i - halfN l.length) ++ [rootL f (l.take (halfN l.length))]:=by
 conv => lhs; unfold branchL
 rw [if_neg h,if_neg hi]
theorem zbm {n:Nat} (h:n < 2) (i:Nat):turnsL i n = []:=by unfold turnsL; rw [if_pos h]
theorem zce {n i:Nat} (h:¬ n < 2) (hi:i < halfN n):turnsL i n = turnsL i (halfN n) ++ [true]:=by
 conv => lhs; unfold turnsL
 rw [if_neg h,if_pos hi]
theorem zcf {n i:Nat} (h:¬ n < 2) (hi:¬ i < halfN n):turnsL i n = turnsL (i - halfN n) (n - halfN n) ++ [false]:=by
 conv => lhs; unfold turnsL
 rw [if_neg h,if_neg hi]
theorem zbq {n:Nat} (h:¬ n < 2):halfN n < n /\ n - halfN n < n /\ 0 < halfN n /\ 0 < n - halfN n:=by unfold halfN; omega
theorem zip_snoc {ts:List Bool} {ss:List Nat} (h:ts.length < ss.length) (t:Bool):(ts ++ [t]).zip ss = ts.zip ss ++ [(t,ss[ts.length])]:=by
 induction ts generalizing ss with
 | nil =>
  cases ss with
  | nil => simp at h
  | cons s r => simp
 | cons a ts ih =>
  cases ss with
  | nil => simp at h
  | cons s r => simp only [cons_append,List.zip_cons_cons,length_cons,getElem_cons_succ,cons.injEq,true_and]; exact ih (by simpa using h)
theorem zew:∀ (n x i:Nat) (sums:List Nat),climbI x i n sums = if (turnsL i n).length <= sums.length then some (climbL x ((turnsL i n).zip sums),sums.drop (turnsL i n).length) else none:=by
 intro n
 induction n using Nat.strongRecOn with
 | ind n ih =>
  intro x i sums;unfold climbI turnsL;by_cases h:n < 2
  ·rw [if_pos h,if_pos h]; simp [climbL]
  ·rw [if_neg h,if_neg h]
   obtain ⟨h1,h2,_,_⟩:=zbq h;by_cases hi:i < halfN n
   ·rw [if_pos hi,if_pos hi,ih _ h1]
    generalize turnsL i (halfN n) = ts;by_cases hl:ts.length <= sums.length
    ·rw [if_pos hl]
     rcases Nat.lt_or_ge ts.length sums.length with hlt | hge
     ·rw [drop_eq_getElem_cons hlt,if_pos (by simp only [length_append,length_singleton]; omega),zip_snoc hlt]
      simp [climbL,stepL]
     ·rw [drop_of_length_le hge,if_neg (by simp only [length_append,length_singleton]; omega)]
    ·rw [if_neg hl,if_neg (by simp only [length_append,length_singleton]; omega)]
   ·rw [if_neg hi,if_neg hi,ih _ h2]
    generalize turnsL (i - halfN n) (n - halfN n) = ts;by_cases hl:ts.length <= sums.length
    ·rw [if_pos hl]
     rcases Nat.lt_or_ge ts.length sums.length with hlt | hge
     ·rw [drop_eq_getElem_cons hlt,if_pos (by simp only [length_append,length_singleton]; omega),zip_snoc hlt]
      simp [climbL,stepL]
     ·rw [drop_of_length_le hge,if_neg (by simp only [length_append,length_singleton]; omega)]
    ·rw [if_neg hl,if_neg (by simp only [length_append,length_singleton]; omega)]
theorem zc2 (a:Nat):(be 4 a).length = 4:=zac 4 a
theorem rootL_lt (f:V -> Nat) (hf:∀ v,f v < 4294967296) (l:List V):rootL f l < 4294967296:=by
 unfold rootL;split
 ·split
  ·decide
  ·exact hf _
 ·exact crc_lt _
theorem zbw (f:V -> Nat):∀ (n:Nat) (l:List V) (i:Nat),l.length = n -> (branchL f l i).length = (turnsL i n).length:=by
 intro n
 induction n using Nat.strongRecOn with
 | ind n ih =>
  intro l i hl;by_cases h:n < 2
  ·rw [zbf f (by omega),zbm h]; rfl
  ·obtain ⟨h1,h2,_,_⟩:=zbq h
   by_cases hi:i < halfN n
   ·rw [zbT f (by omega) (by rw [hl]; exact hi),zce h hi,length_append,length_append,hl,ih _ h1 _ _ (by rw [length_take]; omega)]; rfl
   ·rw [zbU f (by omega) (by rw [hl]; exact hi),zcf h hi,length_append,length_append,hl,ih _ h2 _ _ (by rw [length_drop]; omega)]; rfl
theorem zex (f:V -> Nat):∀ (n:Nat) (l:List V) (i:Nat) (_hl:l.length = n) (hi:i < l.length),climbL (f l[i]) ((turnsL i n).zip (branchL f l i)) = rootL f l:=by
 intro n
 induction n using Nat.strongRecOn with
 | ind n ih =>
  intro l i hl hi;by_cases h:n < 2
  ·rw [zbf f (by omega),zbm h]
   match l,hl,hi with
   | [x],_,hi =>
    have:i = 0:=by simp only [length_singleton] at hi; omega
    subst this; rw [zd5]; rfl
   | [],_,hi => simp at hi
   | x :: y :: r,hl,_ => simp only [length_cons] at hl; omega
  ·obtain ⟨h1,h2,h3,h4⟩:=zbq h
   rw [zd4 f (by omega),hl];by_cases hi2:i < halfN n
   ·rw [zbT f (by omega) (by rw [hl]; exact hi2),zce h hi2,hl]
    have hlen:(l.take (halfN n)).length = halfN n:=by rw [length_take]; omega
    have:=ih _ h1 (l.take (halfN n)) i hlen (by omega)
    have hb:=zbw f _ (l.take (halfN n)) i hlen;rw [List.zip_append hb.symm];unfold climbL at this ⊢;rw [foldl_append];have e:(l.take (halfN n))[i]'(by omega) = l[i]:=by rw [getElem_take]
    rw [e] at this;rw [this];generalize rootL f (l.take (halfN n)) = A;generalize rootL f (l.drop (halfN n)) = B;rfl
   ·rw [zbU f (by omega) (by rw [hl]; exact hi2),zcf h hi2,hl]
    have hlen:(l.drop (halfN n)).length = n - halfN n:=by rw [length_drop]; omega
    have:=ih _ h2 (l.drop (halfN n)) (i - halfN n) hlen (by omega)
    have hb:=zbw f _ (l.drop (halfN n)) (i - halfN n) hlen;rw [List.zip_append hb.symm];unfold climbL at this ⊢;rw [foldl_append];have e:(l.drop (halfN n))[i - halfN n]'(by omega) = l[i]:=by rw [getElem_drop]; congr 1; omega
    rw [e] at this;rw [this];generalize rootL f (l.take (halfN n)) = A;generalize rootL f (l.drop (halfN n)) = B;rfl
theorem be4_inj {a b:Nat} (ha:a < 4294967296) (hb:b < 4294967296) (h:be 4 a = be 4 b):a = b:=by
 simp only [be,nil_append,cons_append,cons.injEq,and_true] at h;obtain ⟨h0,h1,h2,h3⟩:=h
 have g:∀ x y:Nat,UInt8.ofNat x = UInt8.ofNat y -> x % 256 = y % 256:=fun x y e => by
  have:=congrArg UInt8.toNat e
  simpa using this
 have:=g _ _ h0; have:=g _ _ h1; have:=g _ _ h2; have:=g _ _ h3
 omega
theorem zd6 {a b c:Nat} (hb:b < 4294967296) (hc:c < 4294967296) (h:bothS a b = bothS a c):b = c:=by
 unfold bothS at h
 have:=crc_mid (p:=be 4 a) (a:=be 4 b) (b:=be 4 c) (s:=[]) (by rw [zc2,zc2]) (by rw [zc2]; decide) (by simpa using h)
 exact be4_inj hb hc this
theorem zey {a b c:Nat} (hb:b < 4294967296) (hc:c < 4294967296) (h:bothS b a = bothS c a):b = c:=by
 unfold bothS at h
 have:=crc_mid (p:=[]) (a:=be 4 b) (b:=be 4 c) (s:=be 4 a) (by rw [zc2,zc2]) (by rw [zc2]; decide) (by simpa using h)
 exact be4_inj hb hc this
theorem step_inj {x y:Nat} {p:Bool × Nat} (hx:x < 4294967296) (hy:y < 4294967296) (h:stepL x p = stepL y p):x = y:=by
 unfold stepL at h
 split at h
 ·exact zey hx hy h
 ·exact zd6 hx hy h
theorem zc3 (x:Nat) (p:Bool × Nat):stepL x p < 4294967296:=by unfold stepL; split <;> exact crc_lt _
theorem zfP:∀ (ps:List (Bool × Nat)) {x y:Nat},x < 4294967296 -> y < 4294967296 -> climbL x ps = climbL y ps -> x = y
 | [],_,_,_,_,h => h
 | p :: ps,x,y,hx,hy,h => step_inj hx hy (zfP ps (zc3 x p) (zc3 y p) h)
theorem zgv {x:Nat} {t:Bool} {ts:List Bool} {s s':Nat} {ss:List Nat} (hs:s < 4294967296) (hs':s' < 4294967296) (hne:s ≠ s'):climbL x ((t :: ts).zip (s :: ss)) ≠ climbL x ((t :: ts).zip (s' :: ss)):=by
 intro h;simp only [List.zip_cons_cons] at h;have h2:climbL (stepL x (t,s)) (ts.zip ss) = climbL (stepL x (t,s')) (ts.zip ss):=h;have h3:=zfP _ (zc3 _ _) (zc3 _ _) h2;unfold stepL at h3
 cases t with
 | true => exact hne (zd6 hs hs' h3)
 | false => exact hne (zey hs hs' h3)
end
section
def m_s_Branch:M:=so [qo 4 (.mv (.c (.slice none 0 0)))] (.seq (so [qm 6 1,qm 7 0,qo 8 (.len 7),qo 9 (.bin .sub false 8 (ci 1)),qc 10 20 [6,ci 0,9] 1,qo 11 (.not 10),qm 12 11,qg 13 0 12 false,⟨some 14,.len 13,some (12,false),[]⟩,⟨some 15,.bin .eql false 14 (ci 1),some (12,false),[]⟩,qo 16 (.pick 12 (cB true) 15)] (.cond 16 (so [qo 17 (.lit 1 []),qm 4 17] .ret) .skip)) (so [qm 18 0,qo 19 (.len 18),qo 20 (.bin .add false 19 (ci 1)),qo 21 (.bin .quo false 20 (ci 2)),qm 5 21] (.seq (so [qm 22 1,qm 23 5,qo 24 (.bin .lss false 22 23)] (.cond 24 (so [qm 25 0,qm 26 5,qo 27 (.slc 5 25 none (some 26)),qm 28 1,qm 30 0,qm 31 5,qo 32 (.slc 5 30 (some 31) none),qc 29 9 [27,28] 0,qc 33 11 [32] 0,qo 34 (.litq 1 [33]),⟨some 35,.app 1 29 34,none,[.f 0]⟩,qm 4 35] .ret) .skip)) (so [qm 36 0,qm 37 5,qo 38 (.slc 5 36 (some 37) none),qm 39 1,qm 40 5,qo 41 (.bin .sub false 39 40),qm 43 0,qm 44 5,qo 45 (.slc 5 43 none (some 44)),qc 42 9 [38,41] 0,qc 46 11 [45] 0,qo 47 (.litq 1 [46]),⟨some 48,.app 1 42 47,none,[.f 0]⟩,qm 4 48] .ret))))
theorem zd7:look Tryz.prog 9 = some (49,m_s_Branch,[.tm 4]):=by kernel_rfl
def m_s_Root:M:=so [qo 2 (.mv (.c (.int .u32 0)))] (.seq (so [qm 4 0,qo 5 (.len 4)] (.block 0 (so [qo 7 (.bin .eql false 5 (ci 0)),qm 6 7] (.cond 6 (so [qo 2 (.mv (.c (.int .u32 1)))] .ret) (so [qo 9 (.bin .eql false 5 (ci 1)),qm 8 9] (.cond 8 (so [qm 10 0,qo 11 (.ix 5 10 (ci 0)),qL 12 5 11,qc 13 23 [12] 1,qm 2 13] .ret) .skip)))))) (so [qm 14 0,qo 15 (.len 14),qo 16 (.bin .add false 15 (ci 1)),qo 17 (.bin .quo false 16 (ci 2)),qm 3 17] (so [qm 18 0,qm 19 3,qo 20 (.slc 5 18 none (some 19)),qm 22 0,qm 23 3,qo 24 (.slc 5 22 (some 23) none),qc 21 11 [20] 0,qc 25 11 [24] 0,qc 26 24 [21,25] 0,qm 2 26] .ret)))
theorem lk_s_Root:look Tryz.prog 11 = some (27,m_s_Root,[.tm 2]):=by kernel_rfl
def m_s_CheckBranch:M:=so [qo 5 (.box 0),qo 10 (.mv (cB false))] (.seq (so [qm 14 2,qc 15 20 [14,ci 1,ci 1000] 1,qo 16 (.not 15),qm 17 16,qg 18 1 17 false,qg 19 2 17 false,⟨some 20,.bin .sub false 19 (ci 1),some (17,false),[]⟩,⟨some 21,.call 20 [18,ci 0,20],some (17,false),[.f 1]⟩,⟨some 22,.not 21,some (17,false),[]⟩,qo 23 (.pick 17 (cB true) 22)] (.cond 23 (so [qo 10 (.mv (cB false))] .ret) .skip)) (so [qm 24 1,qm 25 2,qc 26 26 [24,25] 1,qm 11 26] (.seq (so [qm 27 11,qo 28 (.len 27),qm 29 3,qo 30 (.len 29),qo 31 (.bin .neq false 28 30)] (.cond 31 (so [qo 10 (.mv (cB false))] .ret) .skip)) (so [qL 32 5 5,qc 33 23 [32] 1,qm 12 33] (.seq (so [qo 13 (.mv (ci 0))] (.block 0 (.loop (.seq (so [qm 34 13,qm 35 11,qo 36 (.len 35),qo 37 (.bin .lss false 34 36)] (.cond 37 .skip (.exit 0))) (.seq (.block 1 (so [qm 40 11,qm 41 13,qo 42 (.ix 1 40 41),ql 43 1 42] (.cond 43 (.ops [qm 44 12,qm 45 3,qm 46 13,qo 47 (.ix 1 45 46),ql 48 1 47,qc 49 24 [44,48] 1,qm 12 49]) (.ops [qm 50 3,qm 51 13,qo 52 (.ix 1 50 51),ql 53 1 52,qm 54 12,qc 55 24 [53,54] 1,qm 12 55])))) (.ops [qm 38 13,qo 39 (.bin .add false 38 (ci 1)),qm 13 39])))))) (so [qm 56 12,qm 57 4,qo 58 (.bin .eql false 56 57),qm 10 58] .ret))))))
theorem zdh:look Tryz.prog 13 = some (59,m_s_CheckBranch,[.tm 10]):=by kernel_rfl
def m_s_l13Both:M:=so [qo 4 (.mv (.c (.int .u32 0)))] (so [qm 5 0,qo 6 (.conv .u64 5),qc 7 42 [6,ci 4] 1,qm 8 1,qo 9 (.conv .u64 8),qc 10 42 [9,ci 4] 1,qo 11 (.bin .add false 7 10),qc 12 39 [11] 1,qm 4 12] .ret)
theorem zfQ:look Tryz.prog 24 = some (13,m_s_l13Both,[.tm 4]):=by kernel_rfl
def m_s_l13Turns:M:=so [qo 4 (.mv (.c (.slice none 0 0)))] (.seq (so [qm 6 1,qo 7 (.bin .leq false 6 (ci 1))] (.cond 7 (so [qo 8 (.lit 1 []),qm 4 8] .ret) .skip)) (so [qm 9 1,qo 10 (.bin .add false 9 (ci 1)),qo 11 (.bin .quo false 10 (ci 2)),qm 5 11] (.seq (so [qm 12 0,qm 13 5,qo 14 (.bin .lss false 12 13)] (.cond 14 (so [qm 15 0,qm 16 5,qc 17 26 [15,16] 1,qo 18 (.lit 1 [cB true]),⟨some 19,.app 1 17 18,none,[.f 1]⟩,qm 4 19] .ret) .skip)) (so [qm 20 0,qm 21 5,qo 22 (.bin .sub false 20 21),qm 23 1,qm 24 5,qo 25 (.bin .sub false 23 24),qc 26 26 [22,25] 1,qo 27 (.lit 1 [cB false]),⟨some 28,.app 1 26 27,none,[.f 1]⟩,qm 4 28] .ret))))
theorem zeX:look Tryz.prog 26 = some (29,m_s_l13Turns,[.tm 4]):=by kernel_rfl
end
section
def m_i_Root:M:=so [qo 2 (.mv (.c (.int .u32 0)))] (so [qm 5 0,qo 6 (.len 5),qm 3 6] (so [qm 7 3] (.block 0 (so [qo 21 (.bin .eql false 7 (ci 0)),qm 20 21] (.cond 20 (so [qo 2 (.mv (.c (.int .u32 1)))] .ret) (so [qo 23 (.bin .eql false 7 (ci 1)),qm 22 23] (.cond 22 (so [qm 24 0,qo 25 (.ix 5 24 (ci 0)),qL 26 5 25,qc 27 16 [26] 1,qm 2 27] .ret) (so [qm 8 3,qo 9 (.bin .add false 8 (ci 1)),qo 10 (.bin .quo false 9 (ci 2)),qm 4 10] (so [qm 11 0,qm 12 4,qo 13 (.slc 5 11 none (some 12)),qm 15 0,qm 16 4,qo 17 (.slc 5 15 (some 16) none),qc 14 6 [13] 0,qc 18 6 [17] 0,qc 19 17 [14,18] 0,qm 2 19] .ret)))))))))
theorem lk_i_Root:look Tryz.prog 6 = some (28,m_i_Root,[.tm 2]):=by kernel_rfl
def m_i_Branch:M:=so [qo 4 (.mv (.c (.slice none 0 0)))] (.seq (so [qm 6 1,qm 7 0,qo 8 (.len 7),qo 9 (.bin .sub false 8 (ci 1)),qc 10 19 [6,ci 0,9] 1,qo 11 (.not 10),qm 12 11,qg 13 0 12 false,⟨some 14,.len 13,some (12,false),[]⟩,⟨some 15,.bin .eql false 14 (ci 1),some (12,false),[]⟩,qo 16 (.pick 12 (cB true) 15)] (.cond 16 (so [qo 4 (.mv (.c (.slice none 0 0)))] .ret) .skip)) (so [qm 17 0,qo 18 (.len 17),qo 19 (.bin .add false 18 (ci 1)),qo 20 (.bin .quo false 19 (ci 2)),qm 5 20] (.seq (so [qm 21 1,qm 22 5,qo 23 (.bin .lss false 21 22)] (.cond 23 (so [qm 24 0,qm 25 5,qo 26 (.slc 5 24 none (some 25)),qm 27 1,qm 29 0,qm 30 5,qo 31 (.slc 5 29 (some 30) none),qc 28 8 [26,27] 0,qc 32 6 [31] 0,qo 33 (.litq 1 [32]),⟨some 34,.app 1 28 33,none,[.f 0]⟩,qm 4 34] .ret) .skip)) (so [qm 35 0,qm 36 5,qo 37 (.slc 5 35 (some 36) none),qm 38 1,qm 39 5,qo 40 (.bin .sub false 38 39),qm 42 0,qm 43 5,qo 44 (.slc 5 42 none (some 43)),qc 41 8 [37,40] 0,qc 45 6 [44] 0,qo 46 (.litq 1 [45]),⟨some 47,.app 1 41 46,none,[.f 0]⟩,qm 4 47] .ret))))
theorem zd8:look Tryz.prog 8 = some (48,m_i_Branch,[.tm 4]):=by kernel_rfl
def m_i_CheckBranch:M:=so [qo 5 (.box 0),qo 10 (.mv (cB false))] (.seq (so [qm 14 2,qc 15 19 [14,ci 1,ci 1000] 1,qo 16 (.not 15),qm 17 16,qg 18 1 17 false,qg 19 2 17 false,⟨some 20,.bin .sub false 19 (ci 1),some (17,false),[]⟩,⟨some 21,.call 19 [18,ci 0,20],some (17,false),[.f 1]⟩,⟨some 22,.not 21,some (17,false),[]⟩,qo 23 (.pick 17 (cB true) 22)] (.cond 23 (so [qo 10 (.mv (cB false))] .ret) .skip)) (so [qL 25 5 5,qc 26 16 [25] 1,qm 27 1,qm 28 2,qm 29 3,qc 30 25 [26,27,28,29] 1,qm 24 30,qe 31 24 0,qe 32 24 1,qe 33 24 2,qm 11 31,qm 12 32,qm 13 33] (so [qm 34 13,qm 35 34,qg 36 12 35 true,⟨some 37,.len 36,some (35,true),[]⟩,⟨some 38,.bin .eql false 37 (ci 0),some (35,true),[]⟩,qo 39 (.pick 35 38 (cB false)),qm 40 39,qg 41 11 40 true,qg 42 4 40 true,⟨some 43,.bin .eql false 41 42,some (40,true),[]⟩,qo 44 (.pick 40 43 (cB false)),qm 10 44] .ret)))
theorem zdi:look Tryz.prog 12 = some (45,m_i_CheckBranch,[.tm 10]):=by kernel_rfl
def m_i_both:M:=so [qo 4 (.mv (.c (.int .u32 0)))] (so [qm 5 0,qc 6 32 [5] 1,qm 7 1,qc 8 32 [7] 1,qo 9 (.bin .add false 6 8),qc 10 29 [9] 1,qm 4 10] .ret)
theorem lk_i_both:look Tryz.prog 17 = some (11,m_i_both,[.tm 4]):=by kernel_rfl
def m_i_climb:M:=so [qo 8 (.mv (.c (.int .u32 0))),qo 9 (.mv (.c (.slice none 0 0))),qo 10 (.mv (cB false))] (.seq (so [qm 17 2,qo 18 (.bin .eql false 17 (ci 1))] (.cond 18 (so [qm 19 0,qm 20 3,qm 8 19,qm 9 20,qo 10 (.mv (cB true))] .ret) .skip)) (so [qm 21 2,qo 22 (.bin .add false 21 (ci 1)),qo 23 (.bin .quo false 22 (ci 2)),qm 11 23] (so [qm 24 1,qm 25 11,qm 12 24,qm 13 25] (.seq (so [qm 26 1,qm 27 11,qo 28 (.bin .geq false 26 27)] (.cond 28 (.ops [qm 29 1,qm 30 11,qo 31 (.bin .sub false 29 30),qm 32 2,qm 33 11,qo 34 (.bin .sub false 32 33),qm 12 31,qm 13 34]) .skip)) (so [qm 36 0,qm 37 12,qm 38 13,qm 39 3,qc 40 25 [36,37,38,39] 1,qm 35 40,qe 41 35 0,qe 42 35 1,qe 43 35 2,qm 14 41,qm 15 42,qm 16 43] (.seq (so [qm 44 16,qo 45 (.not 44),qm 46 45,qg 47 15 46 false,⟨some 48,.len 47,some (46,false),[]⟩,⟨some 49,.bin .eql false 48 (ci 0),some (46,false),[]⟩,qo 50 (.pick 46 (cB true) 49)] (.cond 50 (so [qo 8 (.mv (.c (.int .u32 0))),qo 9 (.mv (.c (.slice none 0 0))),qo 10 (.mv (cB false))] .ret) .skip)) (.seq (so [qm 51 1,qm 52 11,qo 53 (.bin .lss false 51 52)] (.cond 53 (so [qm 54 14,qm 55 15,qo 56 (.ix 1 55 (ci 0)),ql 57 1 56,qm 59 15,qo 60 (.slc 1 59 (some (ci 1)) none),qc 58 17 [54,57] 0,qm 8 58,qm 9 60,qo 10 (.mv (cB true))] .ret) .skip)) (so [qm 61 15,qo 62 (.ix 1 61 (ci 0)),ql 63 1 62,qm 64 14,qm 66 15,qo 67 (.slc 1 66 (some (ci 1)) none),qc 65 17 [63,64] 0,qm 8 65,qm 9 67,qo 10 (.mv (cB true))] .ret))))))))
theorem lk_i_climb:look Tryz.prog 25 = some (68,m_i_climb,[.tm 8,.tm 9,.tm 10]):=by kernel_rfl
def m_i_sumBytes:M:=so [⟨some 2,.mv (.c (.string ⟨[].toArray⟩)),none,[]⟩] (so [qm 3 0,qo 4 (.conv .i64 3),qc 5 51 [4,ci 4] 1,qm 2 5] .ret)
theorem zeY:look Tryz.prog 32 = some (6,m_i_sumBytes,[.tm 2]):=by kernel_rfl
end
section
variable {T:World -> Prop} {hT:Low ngl T}
attribute [local irreducible] po mw pt
theorem wrap_u (n:Nat) (h:n < 4294967296):IntKind.u64.wrap (n:Int) = n:=by rw [IntKind.wrap_u64]; omega
theorem wrap_i (n:Nat) (h:n < 4294967296):IntKind.i64.wrap (n:Int) = n:=by simp [IntKind.wrap,IntKind.bits,IntKind.signed]; omega
theorem lo64_n (n:Nat) (h:n < 4294967296):lo64 (n:Int) = n:=by unfold lo64; omega
theorem be_cat {a b:Nat}:(be 4 a ++ be 4 b).length <= maxLen:=by rw [length_append,zac,zac]; unfold maxLen; omega
theorem zeZ (a b:Nat) (ha:a < 4294967296) (hb:b < 4294967296):FnV (env T hT) 24 [.d (pU a),.d (pU b)] (.d (pU (bothS a b))):=by
 refine zaQ (zaf zfQ) (by show 2 <= 13; decide) fun B hB => ?_
 unfold m_s_l13Both;refine mP ?_;refine mQ ?_;refine zbM (n:=(a:Int)) rfl rfl (wrap_u a ha) ?_;refine zab (args:=[.d (.v (.int .u64 a)),.d (pI 4)]) rfl (big_fn a 4 (by decide) (by omega)) ?_;refine mS ?_;refine zbM (n:=(b:Int)) rfl rfl (wrap_u b hb) ?_;refine zab (args:=[.d (.v (.int .u64 b)),.d (pI 4)]) rfl (big_fn b 4 (by decide) (by omega)) ?_;refine zav (la:=be 4 a) (lb:=be 4 b) rfl rfl rfl (by rw [zac,zac]; omega) ?_;refine zab (args:=[.d (pS (be 4 a ++ be 4 b))]) rfl (crcS_fn _ be_cat) ?_;refine mN ?_;exact mR
theorem sumBI_fn (a:Nat) (ha:a < 4294967296):FnV (env T hT) 32 [.d (pU a)] (.d (pS (be 4 a))):=by
 refine zaQ (zaf zeY) (by show 1 <= 6; decide) fun B hB => ?_
 unfold m_i_sumBytes;refine mP ?_;refine mQ ?_;refine zbM (n:=(a:Int)) rfl rfl (wrap_i a ha) ?_;refine zab (args:=[.d (pI a),.d (pI 4)]) rfl (zeU a 4 (by decide) (by unfold i64ok; omega)) ?_;rw [lo64_n a ha];refine mN ?_;exact mR
theorem ze0 (a b:Nat) (ha:a < 4294967296) (hb:b < 4294967296):FnV (env T hT) 17 [.d (pU a),.d (pU b)] (.d (pU (bothS a b))):=by
 refine zaQ (zaf lk_i_both) (by show 2 <= 11; decide) fun B hB => ?_
 unfold m_i_both;refine mP ?_;refine mQ ?_;refine zab (args:=[.d (pU a)]) rfl (sumBI_fn a ha) ?_;refine mS ?_;refine zab (args:=[.d (pU b)]) rfl (sumBI_fn b hb) ?_;refine zav (la:=be 4 a) (lb:=be 4 b) rfl rfl rfl (by rw [zac,zac]; omega) ?_;refine zab (args:=[.d (pS (be 4 a ++ be 4 b))]) rfl (crcI_fn _ be_cat) ?_;refine mN ?_;exact mR
end
section
def aR (L:List Value):LP PC:=L.map fun v => [.v v]
theorem zaO (L:List Value):(aR L).length = L.length:=by simp [aR]
theorem za6 (L:List Value):∀ e ∈ aR L,e.length = 1:=fun e he => by
 obtain ⟨v,_,rfl⟩:=mem_map.1 he; rfl
theorem aR_get {L:List Value} {i:Nat} (h:i < L.length):(aR L)[i]? = some [.v L[i]]:=by simp [aR,getElem?_eq_getElem h]
theorem zcS (a b:List Value):aR (a ++ b) = aR a ++ aR b:=by simp [aR]
theorem zgw (L:List Value):erLL (aR L) = aR L:=by
 rw [zaR]; unfold aR; rw [map_map]; rfl
theorem zgx:∀ L:List Value,toksLL (aR L) = []
 | [] => rfl
 | v :: L => by
  show toksL [.v v] ++ toksLL (aR L) = [];rw [zgx L]; rfl
theorem aR_sh (k:Nat):∀ L:List Value,shLL k (aR L) = aR L
 | [] => rfl
 | v :: L => by
  show shL k [.v v] :: shLL k (aR L) = _;rw [aR_sh k L]; rfl
def FnA (E:Env) (f:Nat) (args:List PV) (L:List Value):Prop:=Fn E f args (fun x lv => ∃ t,x = .d (.sl t (aR L)) /\ (t = 1 /\ L = [] \/ 2 <= t /\ lv t))
theorem FnA.v {E:Env} {f:Nat} {args:List PV} {L:List Value} (h:FnA E f args L):FnV E f args (.d (.sl 0 (aR L))) :=
 h.mono fun x lv ⟨t,e,_⟩ => by subst e; exact congrArg (fun x => some (PV.d (.sl 0 x))) (zgw L)
theorem zd9 {E:Env} {d:Nat} {c:List X} {r:List MOpr} {K:St -> Prop} {tm:Nat -> PV} {bx:LP PC} {nt:Nat} {live:List Nat} {f:Nat} {xs:List X} {args:List PV} {L:List Value} (hd:PV.dats (xs.map (ev tm)) = some args) (hF:FnA E f args L)
  (h:∀ (t nt':Nat) (live':List Nat),nt + 2 <= nt' -> (t = 1 \/ t ∈ live') -> po E r K ⟨up d (.d (.sl t (aR L))) tm,bx,nt',live'⟩):po E (⟨some d,.call f xs,none,c⟩ :: r) K ⟨tm,bx,nt,live⟩:=by
 refine ⟨true,rfl,.inl ⟨rfl,.inl ⟨args,_,hd,hF,.inr ?_⟩⟩⟩;rintro x lv k ⟨t,rfl,ht⟩ hk hlt;have hs:(PC.sl t (aR L)).sh nt = .sl (if 2 <= t then t + nt else t) (aR L):=by rw [PC.sh,aR_sh]
 refine ⟨.d ((PC.sl t (aR L)).sh nt),rfl,fun s hs' => ?_,?_⟩
 ·have hs':s ∈ PC.toks (.sl t (aR L)):=hs'
  rcases ht with ⟨rfl,rfl⟩ | ⟨h2,hl⟩
  ·cases hs'
  ·rw [zbC h2,zgx,mem_singleton] at hs'
   subst hs'; exact hl
 ·rw [zbb,hs]
  refine h _ (nt + k) _ (by omega) ?_
  rcases ht with ⟨rfl,rfl⟩ | ⟨h2,hl⟩
  ·exact .inl (if_neg (by decide))
  ·right
   rw [if_pos h2]
   have:PV.toks (.d (.sl t (aR L))) = [t]:=by
    show PC.toks (.sl t (aR L)) = _;rw [zbC h2,zgx]
   rw [this]; simp
end
section
variable {T:World -> Prop} {hT:Low ngl T}
attribute [local irreducible] po mw pt
def uV (L:List Nat):List Value:=L.map fun (n:Nat) => Value.int .u32 (n:Int)
def bV (L:List Bool):List Value:=L.map .bool
theorem zaY (L:List Nat):(uV L).length = L.length:=by simp [uV]
theorem zea (L:List Bool):(bV L).length = L.length:=by simp [bV]
theorem zeb (a b:List Nat):uV (a ++ b) = uV a ++ uV b:=by simp [uV]
theorem bV_app (a b:List Bool):bV (a ++ b) = bV a ++ bV b:=by simp [bV]
theorem uR_get {L:List Nat} {i:Nat} (h:i < L.length):(aR (uV L))[i]? = some [pU L[i]]:=by
 rw [aR_get (by rw [zaY]; exact h)]; simp [uV,pU]
theorem bR_get {L:List Bool} {i:Nat} (h:i < L.length):(aR (bV L))[i]? = some [pB L[i]]:=by
 rw [aR_get (by rw [zea]; exact h)]; simp [bV,pB]
theorem zbV (l:List V):PV.dats [.d (.sl 0 (vK l))] = some [.d (.sl 0 (vK l))]:=congrArg (fun x => some [PV.d (.sl 0 x)]) (zf0 l)
theorem zc4 (l:List V) (i:Int):PV.dats [.d (.sl 0 (vK l)),.d (pI i)] = some [.d (.sl 0 (vK l)),.d (pI i)]:=congrArg (fun x => some [PV.d (.sl 0 x),.d (pI i)]) (zf0 l)
def Lst (l:List V):Prop:=l.length <= 1000 /\ ∀ v ∈ l,Gd 1048576 v
theorem Lst.take {l:List V} (h:Lst l) (i:Nat):Lst (l.take i):=⟨by rw [length_take]; have:=h.1; omega,fun v hv => h.2 v (mem_of_mem_take hv)⟩
theorem Lst.drop {l:List V} (h:Lst l) (i:Nat):Lst (l.drop i):=⟨by rw [length_drop]; have:=h.1; omega,fun v hv => h.2 v (mem_of_mem_drop hv)⟩
theorem rlt (l:List V):rootL sumV l < 4294967296:=rootL_lt sumV zgs l
theorem zck (n:Nat) (h:n <= 1000):IntKind.i64.wrap (((n + 1:Nat):Int).tdiv 2) = (halfN n:Nat):=by
 unfold halfN
 have:((n + 1:Nat):Int).tdiv 2 = ((n + 1) / 2:Nat):=by
  rw [Int.tdiv_eq_ediv_of_nonneg (by omega)]; omega
 rw [this]; exact wrap_i _ (by omega)
def RtP (T:World -> Prop) (hT:Low ngl T) (f:Nat) (N:Nat):Prop:=∀ l:List V,l.length < N -> Lst l -> FnV (env T hT) f [.d (.sl 0 (vK l))] (.d (pU (rootL sumV l)))
theorem rootS_step {N:Nat} (ih:RtP T hT 11 N):RtP T hT 11 (N + 1):=by
 intro l hn hl;have hl1:=hl.1;refine zaQ (zaf lk_s_Root) (by show 1 <= 27; decide) fun B hB => ?_
 unfold m_s_Root;refine mP ?_;refine zay (fun st => has st.tm [(0,.d (.sl 0 (vK l)))] /\ ¬ l.length < 2) ?_ ?_
 ·refine mQ ?_
  refine zat (n:=l.length) rfl rfl (zau _) ?_;refine zaa ?_;refine zad ?_;refine mO ?_;by_cases h0:l.length = 0
  ·refine zai rfl rfl (beq_iff_eq.2 (by omega)) ?_
   refine mT ?_;refine mP ?_;refine zag ⟨.inr rfl,[.d (pU 1)],rfl,?_⟩;rw [eq_nil_of_length_eq_zero h0,zfO]; rfl
  refine zan rfl rfl (beq_eq_false_iff_ne.2 (by omega)) ?_;refine mF ?_;refine mO ?_;by_cases h1:l.length = 1
  ·refine zai rfl rfl (beq_iff_eq.2 (by omega)) ?_
   refine mT ?_;have h00:0 < l.length:=by omega
   have hg:=hl.2 l[0] (getElem_mem h00)
   have hr:rootL sumV l = sumV l[0]:=by
    match l,h1 with
    | [x],_ => rw [zd5]; rfl
   refine mQ ?_;refine zaV (es:=vK l) (e:=vC l[0]) rfl rfl rfl ⟨by decide,zbg h00⟩ rfl ?_;refine mS ?_;refine zab (zbh _) (sumS_fn (T:=T) (hT:=hT) l[0] hg.wf hg.bulk hg.few) ?_;refine mN ?_;refine zag ⟨.inr rfl,[.d (pU (sumV l[0]))],rfl,?_⟩;rw [hr]; rfl
  refine zan rfl rfl (beq_eq_false_iff_ne.2 (by omega)) ?_;refine mK ?_;exact ⟨⟨rfl,trivial⟩,by omega⟩
 rintro tm bx nt live ⟨ht,h2⟩;obtain ⟨tm0,rfl⟩:=zae ht;have hh:=zbq h2;refine mQ ?_;refine zat (n:=l.length) rfl rfl (zau _) ?_;refine zap (n:=((l.length + 1:Nat):Int)) rfl rfl rfl (by omega) (by omega) ?_;refine zem (n:=(halfN l.length:Nat)) rfl rfl rfl (by decide) (zck _ hl1) ?_;refine mN ?_;refine mO ?_;(iterate 2 refine mS ?_);refine zbi (es:=vK l) (l:=0) (h:=halfN l.length) (rs:=vK (l.take (halfN l.length))) rfl rfl rfl (zaN (i:=(halfN l.length:Int)) rfl rfl) ⟨Nat.zero_le _,by rw [zau]; omega⟩ (zaM _) (by rw [zcz]; simp) ?_;(iterate 2 refine mS ?_);refine zbi (es:=vK l) (l:=halfN l.length) (h:=(vK l).length) (rs:=vK (l.drop (halfN l.length))) rfl rfl (zaN (i:=(halfN l.length:Int)) rfl rfl) rfl ⟨by rw [zau]; omega,lR⟩ (zaM _) (by rw [<- length_drop,take_length,zcA]) ?_;refine zab (zbV _) (ih (l.take (halfN l.length)) (by rw [length_take]; omega) (hl.take _)) ?_
 refine zab (zbV _) (ih (l.drop (halfN l.length)) (by rw [length_drop]; omega) (hl.drop _)) ?_;refine zab (args:=[.d (pU _),.d (pU _)]) rfl (zeZ (T:=T) (hT:=hT) _ _ (rlt _) (rlt _)) ?_;refine mN ?_;refine zag ⟨.inr rfl,[.d (pU (bothS (rootL sumV (l.take (halfN l.length))) (rootL sumV (l.drop (halfN l.length)))))],rfl,?_⟩;rw [zd4 sumV h2]; rfl
theorem zdr (l:List V) (hl:Lst l):FnV (env T hT) 11 [.d (.sl 0 (vK l))] (.d (pU (rootL sumV l))):=by
 have all:∀ N,RtP T hT 11 N:=by
  intro N
  induction N with
  | zero => intro l h; exact absurd h (Nat.not_lt_zero _)
  | succ N ih => exact rootS_step ih
 exact all (l.length + 1) l (Nat.lt_succ_self _) hl
theorem rootI_step (hTab:∀ w,T w -> Tabs w) {N:Nat} (ih:RtP T hT 6 N):RtP T hT 6 (N + 1):=by
 intro l hn hl;have hl1:=hl.1;refine zaQ (zaf lk_i_Root) (by show 1 <= 28; decide) fun B hB => ?_
 unfold m_i_Root;refine mP ?_;refine mQ ?_;refine zat (n:=l.length) rfl rfl (zau _) ?_;refine mN ?_;refine mP ?_;refine zad ?_;refine mO ?_;by_cases h0:l.length = 0
 ·refine zai rfl rfl (beq_iff_eq.2 (by omega)) ?_
  refine mT ?_;refine mP ?_;refine zag ⟨.inr rfl,[.d (pU 1)],rfl,?_⟩;rw [eq_nil_of_length_eq_zero h0,zfO]; rfl
 refine zan rfl rfl (beq_eq_false_iff_ne.2 (by omega)) ?_;refine mF ?_;refine mO ?_;by_cases h1:l.length = 1
 ·refine zai rfl rfl (beq_iff_eq.2 (by omega)) ?_
  refine mT ?_;have h00:0 < l.length:=by omega
  have hg:=hl.2 l[0] (getElem_mem h00)
  have hr:rootL sumV l = sumV l[0]:=by
   match l,h1 with
   | [x],_ => rw [zd5]; rfl
  refine mQ ?_;refine zaV (es:=vK l) (e:=vC l[0]) rfl rfl rfl ⟨by decide,zbg h00⟩ rfl ?_;refine mS ?_;refine zab (zbh _) (sumI_fn (T:=T) (hT:=hT) hTab l[0] hg.wf hg.bulk hg.few) ?_;refine mN ?_;refine zag ⟨.inr rfl,[.d (pU (sumV l[0]))],rfl,?_⟩;rw [hr]; rfl
 refine zan rfl rfl (beq_eq_false_iff_ne.2 (by omega)) ?_;refine mF ?_;have h2:¬ l.length < 2:=by omega
 have hh:=zbq h2;refine mQ ?_;refine zap (n:=((l.length + 1:Nat):Int)) rfl rfl rfl (by omega) (by omega) ?_;refine zem (n:=(halfN l.length:Nat)) rfl rfl rfl (by decide) (zck _ hl1) ?_;refine mN ?_;refine mO ?_;(iterate 2 refine mS ?_);refine zbi (es:=vK l) (l:=0) (h:=halfN l.length) (rs:=vK (l.take (halfN l.length))) rfl rfl rfl (zaN (i:=(halfN l.length:Int)) rfl rfl) ⟨Nat.zero_le _,by rw [zau]; omega⟩ (zaM _) (by rw [zcz]; simp) ?_;(iterate 2 refine mS ?_);refine zbi (es:=vK l) (l:=halfN l.length) (h:=(vK l).length) (rs:=vK (l.drop (halfN l.length))) rfl rfl (zaN (i:=(halfN l.length:Int)) rfl rfl) rfl ⟨by rw [zau]; omega,lR⟩ (zaM _) (by rw [<- length_drop,take_length,zcA]) ?_;refine zab (zbV _) (ih (l.take (halfN l.length)) (by rw [length_take]; omega) (hl.take _)) ?_;refine zab (zbV _) (ih (l.drop (halfN l.length)) (by rw [length_drop]; omega) (hl.drop _)) ?_
 refine zab (args:=[.d (pU _),.d (pU _)]) rfl (ze0 (T:=T) (hT:=hT) _ _ (rlt _) (rlt _)) ?_;refine mN ?_;refine zag ⟨.inr rfl,[.d (pU (bothS (rootL sumV (l.take (halfN l.length))) (rootL sumV (l.drop (halfN l.length)))))],rfl,?_⟩;rw [zd4 sumV h2]; rfl
theorem zds (hTab:∀ w,T w -> Tabs w) (l:List V) (hl:Lst l):FnV (env T hT) 6 [.d (.sl 0 (vK l))] (.d (pU (rootL sumV l))):=by
 have all:∀ N,RtP T hT 6 N:=by
  intro N
  induction N with
  | zero => intro l h; exact absurd h (Nat.not_lt_zero _)
  | succ N ih => exact rootI_step hTab ih
 exact all (l.length + 1) l (Nat.lt_succ_self _) hl
/-! ### branches -/
def BrP (T:World -> Prop) (hT:Low ngl T) (f:Nat) (N:Nat):Prop:=∀ (l:List V) (i:Nat),l.length < N -> i < l.length -> Lst l -> FnA (env T hT) f [.d (.sl 0 (vK l)),.d (pI i)] (uV (branchL sumV l i))
theorem zbn (l:List V) (i:Nat):(branchL sumV l i).length <= l.length:=by
 rw [zbw sumV l.length l i rfl]
 have:∀ n i,(turnsL i n).length <= n:=by
  intro n
  induction n using Nat.strongRecOn with
  | ind n ih =>
   intro i;by_cases h:n < 2
   ·rw [zbm h]; exact Nat.zero_le _
   ·have hh:=zbq h
    by_cases hi:i < halfN n
    ·rw [zce h hi,length_append,length_singleton]
     have:=ih (halfN n) hh.1 i; omega
    ·rw [zcf h hi,length_append,length_singleton]
     have:=ih (n - halfN n) hh.2.1 (i - halfN n); omega
 exact this _ _
theorem zfR {N:Nat} (ih:BrP T hT 9 N):BrP T hT 9 (N + 1):=by
 intro l i hn hi hl;have hl1:=hl.1;refine zaQ (zaf zd7) (by show 2 <= 49; decide) fun B hB => ?_
 unfold m_s_Branch;refine mP ?_;refine mM ?_;(iterate 2 refine mS ?_);refine zat (n:=l.length) rfl rfl (zau _) ?_;refine za2 (n:=((l.length - 1:Nat):Int)) rfl rfl rfl (by omega) (by omega) ?_;refine zab (args:=[.d (pI i),.d (pI 0),.d (pI (l.length - 1:Nat))]) rfl (zeT (T:=T) (hT:=hT) i 0 (l.length - 1:Nat)) ?_;rw [decide_eq_true (show (0:Int) <= (i:Int) /\ (i:Int) <= ((l.length - 1:Nat):Int) by omega)];(iterate 3 refine mS ?_);refine zat (n:=l.length) rfl rfl (zau _) ?_;by_cases h1:l.length = 1
 ·refine zai rfl rfl (beq_iff_eq.2 (by omega)) ?_
  refine mT ?_;refine mO ?_;refine zao (es:=aR (uV [])) rfl ?_;refine mN ?_;rw [zbf sumV (by omega)];exact zag ⟨.inr rfl,[.d (.sl 2 (aR (uV [])))],rfl,2,rfl,.inr ⟨lR,mem_cons_self ..⟩⟩
 refine zan rfl rfl (beq_eq_false_iff_ne.2 (by omega)) ?_;refine mK ?_;have h2:¬ l.length < 2:=by omega
 have hh:=zbq h2;refine mQ ?_;refine zat (n:=l.length) rfl rfl (zau _) ?_;refine zap (n:=((l.length + 1:Nat):Int)) rfl rfl rfl (by omega) (by omega) ?_;refine zem (n:=(halfN l.length:Nat)) rfl rfl rfl (by decide) (zck _ hl1) ?_;refine mN ?_;refine mM ?_;(iterate 2 refine mS ?_);by_cases hlo:i < halfN l.length
 ·refine zai rfl rfl (decide_eq_true (by omega)) ?_
  refine mT ?_;refine mO ?_;(iterate 2 refine mS ?_);refine zbi (es:=vK l) (l:=0) (h:=halfN l.length) (rs:=vK (l.take (halfN l.length))) rfl rfl rfl (zaN (i:=(halfN l.length:Int)) rfl rfl) ⟨Nat.zero_le _,by rw [zau]; omega⟩ (zaM _) (by rw [zcz]; simp) ?_;(iterate 3 refine mS ?_);refine zbi (es:=vK l) (l:=halfN l.length) (h:=(vK l).length) (rs:=vK (l.drop (halfN l.length))) rfl rfl (zaN (i:=(halfN l.length:Int)) rfl rfl) rfl ⟨by rw [zau]; omega,lR⟩ (zaM _) (by rw [<- length_drop,take_length,zcA]) ?_;refine zd9 (zc4 _ _) (ih (l.take (halfN l.length)) i (by rw [length_take]; omega) (by rw [length_take]; omega) (hl.take _)) ?_;intro t nt' live' hnt ht;have hbs:=zbn (l.take (halfN l.length)) i;rw [length_take] at hbs;refine zab (zbV _) (zdr (T:=T) (hT:=hT) (l.drop (halfN l.length)) (hl.drop _)) ?_
  refine zbI (es:=aR (uV [rootL sumV (l.drop (halfN l.length))])) (zdf rfl rfl) ?_;refine za5 (t:=t) (t':=0) (es:=aR (uV (branchL sumV (l.take (halfN l.length)) i))) (ds:=aR (uV [rootL sumV (l.drop (halfN l.length))])) rfl rfl ht (by rw [zaO,zaO,zaY,zaY,length_singleton]; omega) (za6 _) (za6 _) ?_;rw [<- zcS,<- zeb,<- zbT sumV h2 hlo];refine mN ?_;exact zag ⟨.inr rfl,[.d (.sl nt' (aR (uV (branchL sumV l i))))],rfl,nt',rfl,.inr ⟨by omega,mem_cons_self ..⟩⟩
 ·refine zan rfl rfl (decide_eq_false (by omega)) ?_
  refine mK ?_;refine mO ?_;(iterate 2 refine mS ?_);refine zbi (es:=vK l) (l:=halfN l.length) (h:=(vK l).length) (rs:=vK (l.drop (halfN l.length))) rfl rfl (zaN (i:=(halfN l.length:Int)) rfl rfl) rfl ⟨by rw [zau]; omega,lR⟩ (zaM _) (by rw [<- length_drop,take_length,zcA]) ?_;(iterate 2 refine mS ?_);refine za2 (n:=((i - halfN l.length:Nat):Int)) rfl rfl rfl (by omega) (by omega) ?_;(iterate 2 refine mS ?_);refine zbi (es:=vK l) (l:=0) (h:=halfN l.length) (rs:=vK (l.take (halfN l.length))) rfl rfl rfl (zaN (i:=(halfN l.length:Int)) rfl rfl) ⟨Nat.zero_le _,by rw [zau]; omega⟩ (zaM _) (by rw [zcz]; simp) ?_;refine zd9 (zc4 _ _) (ih (l.drop (halfN l.length)) (i - halfN l.length) (by rw [length_drop]; omega) (by rw [length_drop]; omega) (hl.drop _)) ?_;intro t nt' live' hnt ht;have hbs:=zbn (l.drop (halfN l.length)) (i - halfN l.length)
  rw [length_drop] at hbs;refine zab (zbV _) (zdr (T:=T) (hT:=hT) (l.take (halfN l.length)) (hl.take _)) ?_;refine zbI (es:=aR (uV [rootL sumV (l.take (halfN l.length))])) (zdf rfl rfl) ?_;refine za5 (t:=t) (t':=0) (es:=aR (uV (branchL sumV (l.drop (halfN l.length)) (i - halfN l.length)))) (ds:=aR (uV [rootL sumV (l.take (halfN l.length))])) rfl rfl ht (by rw [zaO,zaO,zaY,zaY,length_singleton]; omega) (za6 _) (za6 _) ?_;rw [<- zcS,<- zeb,<- zbU sumV h2 hlo];refine mN ?_;exact zag ⟨.inr rfl,[.d (.sl nt' (aR (uV (branchL sumV l i))))],rfl,nt',rfl,.inr ⟨by omega,mem_cons_self ..⟩⟩
theorem zfS (hTab:∀ w,T w -> Tabs w) {N:Nat} (ih:BrP T hT 8 N):BrP T hT 8 (N + 1):=by
 intro l i hn hi hl;have hl1:=hl.1;refine zaQ (zaf zd8) (by show 2 <= 48; decide) fun B hB => ?_
 unfold m_i_Branch;refine mP ?_;refine mM ?_;(iterate 2 refine mS ?_);refine zat (n:=l.length) rfl rfl (zau _) ?_;refine za2 (n:=((l.length - 1:Nat):Int)) rfl rfl rfl (by omega) (by omega) ?_;refine zab (args:=[.d (pI i),.d (pI 0),.d (pI (l.length - 1:Nat))]) rfl (zbR (T:=T) (hT:=hT) i 0 (l.length - 1:Nat)) ?_;rw [decide_eq_true (show (0:Int) <= (i:Int) /\ (i:Int) <= ((l.length - 1:Nat):Int) by omega)];(iterate 3 refine mS ?_);refine zat (n:=l.length) rfl rfl (zau _) ?_;by_cases h1:l.length = 1
 ·refine zai rfl rfl (beq_iff_eq.2 (by omega)) ?_
  refine mT ?_;refine mP ?_;rw [zbf sumV (by omega)];exact zag ⟨.inr rfl,[.d (.sl 1 (aR (uV [])))],rfl,1,rfl,.inl ⟨rfl,rfl⟩⟩
 refine zan rfl rfl (beq_eq_false_iff_ne.2 (by omega)) ?_;refine mK ?_;have h2:¬ l.length < 2:=by omega
 have hh:=zbq h2;refine mQ ?_;refine zat (n:=l.length) rfl rfl (zau _) ?_;refine zap (n:=((l.length + 1:Nat):Int)) rfl rfl rfl (by omega) (by omega) ?_;refine zem (n:=(halfN l.length:Nat)) rfl rfl rfl (by decide) (zck _ hl1) ?_;refine mN ?_;refine mM ?_;(iterate 2 refine mS ?_);by_cases hlo:i < halfN l.length
 ·refine zai rfl rfl (decide_eq_true (by omega)) ?_
  refine mT ?_;refine mO ?_;(iterate 2 refine mS ?_);refine zbi (es:=vK l) (l:=0) (h:=halfN l.length) (rs:=vK (l.take (halfN l.length))) rfl rfl rfl (zaN (i:=(halfN l.length:Int)) rfl rfl) ⟨Nat.zero_le _,by rw [zau]; omega⟩ (zaM _) (by rw [zcz]; simp) ?_;(iterate 3 refine mS ?_);refine zbi (es:=vK l) (l:=halfN l.length) (h:=(vK l).length) (rs:=vK (l.drop (halfN l.length))) rfl rfl (zaN (i:=(halfN l.length:Int)) rfl rfl) rfl ⟨by rw [zau]; omega,lR⟩ (zaM _) (by rw [<- length_drop,take_length,zcA]) ?_;refine zd9 (zc4 _ _) (ih (l.take (halfN l.length)) i (by rw [length_take]; omega) (by rw [length_take]; omega) (hl.take _)) ?_;intro t nt' live' hnt ht;have hbs:=zbn (l.take (halfN l.length)) i;rw [length_take] at hbs;refine zab (zbV _) (zds (T:=T) (hT:=hT) hTab (l.drop (halfN l.length)) (hl.drop _)) ?_
  refine zbI (es:=aR (uV [rootL sumV (l.drop (halfN l.length))])) (zdf rfl rfl) ?_;refine za5 (t:=t) (t':=0) (es:=aR (uV (branchL sumV (l.take (halfN l.length)) i))) (ds:=aR (uV [rootL sumV (l.drop (halfN l.length))])) rfl rfl ht (by rw [zaO,zaO,zaY,zaY,length_singleton]; omega) (za6 _) (za6 _) ?_;rw [<- zcS,<- zeb,<- zbT sumV h2 hlo];refine mN ?_;exact zag ⟨.inr rfl,[.d (.sl nt' (aR (uV (branchL sumV l i))))],rfl,nt',rfl,.inr ⟨by omega,mem_cons_self ..⟩⟩
 ·refine zan rfl rfl (decide_eq_false (by omega)) ?_
  refine mK ?_;refine mO ?_;(iterate 2 refine mS ?_);refine zbi (es:=vK l) (l:=halfN l.length) (h:=(vK l).length) (rs:=vK (l.drop (halfN l.length))) rfl rfl (zaN (i:=(halfN l.length:Int)) rfl rfl) rfl ⟨by rw [zau]; omega,lR⟩ (zaM _) (by rw [<- length_drop,take_length,zcA]) ?_;(iterate 2 refine mS ?_);refine za2 (n:=((i - halfN l.length:Nat):Int)) rfl rfl rfl (by omega) (by omega) ?_;(iterate 2 refine mS ?_);refine zbi (es:=vK l) (l:=0) (h:=halfN l.length) (rs:=vK (l.take (halfN l.length))) rfl rfl rfl (zaN (i:=(halfN l.length:Int)) rfl rfl) ⟨Nat.zero_le _,by rw [zau]; omega⟩ (zaM _) (by rw [zcz]; simp) ?_;refine zd9 (zc4 _ _) (ih (l.drop (halfN l.length)) (i - halfN l.length) (by rw [length_drop]; omega) (by rw [length_drop]; omega) (hl.drop _)) ?_;intro t nt' live' hnt ht;have hbs:=zbn (l.drop (halfN l.length)) (i - halfN l.length)
  rw [length_drop] at hbs;refine zab (zbV _) (zds (T:=T) (hT:=hT) hTab (l.take (halfN l.length)) (hl.take _)) ?_;refine zbI (es:=aR (uV [rootL sumV (l.take (halfN l.length))])) (zdf rfl rfl) ?_;refine za5 (t:=t) (t':=0) (es:=aR (uV (branchL sumV (l.drop (halfN l.length)) (i - halfN l.length)))) (ds:=aR (uV [rootL sumV (l.take (halfN l.length))])) rfl rfl ht (by rw [zaO,zaO,zaY,zaY,length_singleton]; omega) (za6 _) (za6 _) ?_;rw [<- zcS,<- zeb,<- zbU sumV h2 hlo];refine mN ?_;exact zag ⟨.inr rfl,[.d (.sl nt' (aR (uV (branchL sumV l i))))],rfl,nt',rfl,.inr ⟨by omega,mem_cons_self ..⟩⟩
theorem branchS_in (l:List V) (i:Nat) (hi:i < l.length) (hl:Lst l):FnA (env T hT) 9 [.d (.sl 0 (vK l)),.d (pI i)] (uV (branchL sumV l i)):=by
 have all:∀ N,BrP T hT 9 N:=by
  intro N
  induction N with
  | zero => intro l i h; exact absurd h (Nat.not_lt_zero _)
  | succ N ih => exact zfR ih
 exact all (l.length + 1) l i (Nat.lt_succ_self _) hi hl
theorem branchI_in (hTab:∀ w,T w -> Tabs w) (l:List V) (i:Nat) (hi:i < l.length) (hl:Lst l):FnA (env T hT) 8 [.d (.sl 0 (vK l)),.d (pI i)] (uV (branchL sumV l i)):=by
 have all:∀ N,BrP T hT 8 N:=by
  intro N
  induction N with
  | zero => intro l i h; exact absurd h (Nat.not_lt_zero _)
  | succ N ih => exact zfS hTab ih
 exact all (l.length + 1) l i (Nat.lt_succ_self _) hi hl
def brOf (l:List V) (i:Int):List Nat:=if 0 <= i /\ i < l.length then branchL sumV l i.toNat else []
theorem zez (l:List V) (i:Int) (hl:Lst l) (hi:-10 <= i /\ i <= 100000):FnA (env T hT) 9 [.d (.sl 0 (vK l)),.d (pI i)] (uV (brOf l i)):=by
 unfold brOf;by_cases h:0 <= i /\ i < l.length
 ·rw [if_pos h]
  obtain ⟨k,rfl⟩:∃ k:Nat,i = k:=⟨i.toNat,by omega⟩;exact branchS_in l k (by omega) hl
 rw [if_neg h];have hl1:=hl.1;refine zaQ (zaf zd7) (by show 2 <= 49; decide) fun B hB => ?_
 unfold m_s_Branch;refine mP ?_;refine mM ?_;(iterate 2 refine mS ?_);refine zat (n:=l.length) rfl rfl (zau _) ?_;refine za2 (n:=(l.length:Int) - 1) rfl rfl rfl (by omega) (by omega) ?_;refine zab (args:=[.d (pI i),.d (pI 0),.d (pI ((l.length:Int) - 1))]) rfl (zeT (T:=T) (hT:=hT) i 0 ((l.length:Int) - 1)) ?_;rw [decide_eq_false (show ¬ ((0:Int) <= i /\ i <= (l.length:Int) - 1) by omega)];(iterate 2 refine mS ?_);refine mZ ?_;refine mT ?_;refine mO ?_;refine zao (es:=aR (uV [])) rfl ?_;refine mN ?_;exact zag ⟨.inr rfl,[.d (.sl 2 (aR (uV [])))],rfl,2,rfl,.inr ⟨lR,mem_cons_self ..⟩⟩
theorem branchI_fn (hTab:∀ w,T w -> Tabs w) (l:List V) (i:Int) (hl:Lst l) (hi:-10 <= i /\ i <= 100000):FnA (env T hT) 8 [.d (.sl 0 (vK l)),.d (pI i)] (uV (brOf l i)):=by
 unfold brOf;by_cases h:0 <= i /\ i < l.length
 ·rw [if_pos h]
  obtain ⟨k,rfl⟩:∃ k:Nat,i = k:=⟨i.toNat,by omega⟩;exact branchI_in hTab l k (by omega) hl
 rw [if_neg h];have hl1:=hl.1;refine zaQ (zaf zd8) (by show 2 <= 48; decide) fun B hB => ?_
 unfold m_i_Branch;refine mP ?_;refine mM ?_;(iterate 2 refine mS ?_);refine zat (n:=l.length) rfl rfl (zau _) ?_;refine za2 (n:=(l.length:Int) - 1) rfl rfl rfl (by omega) (by omega) ?_;refine zab (args:=[.d (pI i),.d (pI 0),.d (pI ((l.length:Int) - 1))]) rfl (zbR (T:=T) (hT:=hT) i 0 ((l.length:Int) - 1)) ?_;rw [decide_eq_false (show ¬ ((0:Int) <= i /\ i <= (l.length:Int) - 1) by omega)];(iterate 2 refine mS ?_);refine mZ ?_;refine mT ?_;refine mP ?_;exact zag ⟨.inr rfl,[.d (.sl 1 (aR (uV [])))],rfl,1,rfl,.inl ⟨rfl,rfl⟩⟩
def TuP (T:World -> Prop) (hT:Low ngl T) (N:Nat):Prop:=∀ n i:Nat,n < N -> n <= 1000 -> i <= n -> FnA (env T hT) 26 [.d (pI i),.d (pI n)] (bV (turnsL i n))
theorem zcD (n:Nat):∀ i,(turnsL i n).length <= n:=by
 induction n using Nat.strongRecOn with
 | ind n ih =>
  intro i;by_cases h:n < 2
  ·rw [zbm h]; exact Nat.zero_le _
  ·have hh:=zbq h
   by_cases hi:i < halfN n
   ·rw [zce h hi,length_append,length_singleton]
    have:=ih (halfN n) hh.1 i; omega
   ·rw [zcf h hi,length_append,length_singleton]
    have:=ih (n - halfN n) hh.2.1 (i - halfN n); omega
theorem turns_step {N:Nat} (ih:TuP T hT N):TuP T hT (N + 1):=by
 intro n i hn hn1 hi;refine zaQ (zaf zeX) (by show 2 <= 29; decide) fun B hB => ?_
 unfold m_s_l13Turns;refine mP ?_;refine mM ?_;refine mS ?_;by_cases h2:n < 2
 ·refine zai rfl rfl (decide_eq_true (by omega)) ?_
  refine mT ?_;refine mO ?_;refine zao (es:=aR (bV [])) rfl ?_;refine mN ?_;rw [zbm h2];exact zag ⟨.inr rfl,[.d (.sl 2 (aR (bV [])))],rfl,2,rfl,.inr ⟨lR,mem_cons_self ..⟩⟩
 refine zan rfl rfl (decide_eq_false (by omega)) ?_;refine mK ?_;have hh:=zbq h2;refine mQ ?_;refine zap (n:=((n + 1:Nat):Int)) rfl rfl rfl (by omega) (by omega) ?_;refine zem (n:=(halfN n:Nat)) rfl rfl rfl (by decide) (zck _ hn1) ?_;refine mN ?_;refine mM ?_;(iterate 2 refine mS ?_);by_cases hlo:i < halfN n
 ·refine zai rfl rfl (decide_eq_true (by omega)) ?_
  refine mT ?_;refine mO ?_;(iterate 2 refine mS ?_);refine zd9 (args:=[.d (pI i),.d (pI (halfN n))]) rfl (ih (halfN n) i (by omega) (by omega) (by omega)) ?_;intro t nt' live' hnt ht;have hts:=zcD (halfN n) i;refine zao (es:=aR (bV [true])) rfl ?_;refine za5 (t:=t) (t':=nt') (es:=aR (bV (turnsL i (halfN n)))) (ds:=aR (bV [true])) rfl rfl (ht.imp id (mem_cons_of_mem _)) (by rw [zaO,zaO,zea,zea,length_singleton]; omega) (za6 _) (za6 _) ?_;rw [<- zcS,<- bV_app,<- zce h2 hlo];refine mN ?_;exact zag ⟨.inr rfl,[.d (.sl (nt' + 1) (aR (bV (turnsL i n))))],rfl,nt' + 1,rfl,.inr ⟨by omega,mem_cons_self ..⟩⟩
 ·refine zan rfl rfl (decide_eq_false (by omega)) ?_
  refine mK ?_;refine mO ?_;(iterate 2 refine mS ?_);refine za2 (n:=((i - halfN n:Nat):Int)) rfl rfl rfl (by omega) (by omega) ?_;(iterate 2 refine mS ?_);refine za2 (n:=((n - halfN n:Nat):Int)) rfl rfl rfl (by omega) (by omega) ?_;refine zd9 (args:=[.d (pI (i - halfN n:Nat)),.d (pI (n - halfN n:Nat))]) rfl (ih (n - halfN n) (i - halfN n) (by omega) (by omega) (by omega)) ?_;intro t nt' live' hnt ht;have hts:=zcD (n - halfN n) (i - halfN n);refine zao (es:=aR (bV [false])) rfl ?_;refine za5 (t:=t) (t':=nt') (es:=aR (bV (turnsL (i - halfN n) (n - halfN n)))) (ds:=aR (bV [false])) rfl rfl (ht.imp id (mem_cons_of_mem _)) (by rw [zaO,zaO,zea,zea,length_singleton]; omega) (za6 _) (za6 _) ?_;rw [<- zcS,<- bV_app,<- zcf h2 hlo];refine mN ?_;exact zag ⟨.inr rfl,[.d (.sl (nt' + 1) (aR (bV (turnsL i n))))],rfl,nt' + 1,rfl,.inr ⟨by omega,mem_cons_self ..⟩⟩
theorem turns_fn (n i:Nat) (hn:n <= 1000) (hi:i <= n):FnA (env T hT) 26 [.d (pI i),.d (pI n)] (bV (turnsL i n)):=by
 have all:∀ N,TuP T hT N:=by
  intro N
  induction N with
  | zero => intro n i h; exact absurd h (Nat.not_lt_zero _)
  | succ N ih => exact turns_step ih
 exact all (n + 1) n i (Nat.lt_succ_self _) hn hi
/-! ### climbing -/
def clV:Option (Nat × List Nat) -> PV
 | some (r,rest) => .tup [.d (pU r),.d (.sl 0 (aR (uV rest))),.d (pB true)]
 | none => .tup [.d (pU 0),.d (.sl 0 []),.d (pB false)]
def U4 (L:List Nat):Prop:=∀ s ∈ L,s < 4294967296
theorem zfT:∀ (ps:List (Bool × Nat)) (x:Nat),x < 4294967296 -> climbL x ps < 4294967296
 | [],_,h => h
 | p :: ps,x,_ => zfT ps (stepL x p) (zc3 x p)
theorem climb_some {n x i:Nat} {sums:List Nat} {r:Nat} {rest:List Nat} (h:climbI x i n sums = some (r,rest)) (hx:x < 4294967296) (hs:U4 sums):r < 4294967296 /\ U4 rest /\ rest.length <= sums.length:=by
 rw [zew] at h
 split at h
 ·simp only [sI,Prod.mk.injEq] at h
  obtain ⟨rfl,rfl⟩:=h;exact ⟨zfT _ _ hx,fun s hs' => hs s (mem_of_mem_drop hs'),by rw [length_drop]; omega⟩
 ·cases h
def ClP (T:World -> Prop) (hT:Low ngl T) (N:Nat):Prop:=∀ (n i x:Nat) (sums:List Nat),n < N -> 1 <= n -> n <= 1000 -> i < n -> x < 4294967296 -> U4 sums -> sums.length <= 4294967295 -> FnV (env T hT) 25 [.d (pU x),.d (pI i),.d (pI n),.d (.sl 0 (aR (uV sums)))] (clV (climbI x i n sums))
theorem cl_args (x:Nat) (i n:Int) (sums:List Nat):PV.dats [.d (pU x),.d (pI i),.d (pI n),.d (.sl 0 (aR (uV sums)))] = some [.d (pU x),.d (pI i),.d (pI n),.d (.sl 0 (aR (uV sums)))]:=congrArg (fun y => some [PV.d (pU x),.d (pI i),.d (pI n),.d (.sl 0 y)]) (zgw _)
theorem ze1 {n:Nat} (h:¬ n < 2) {i:Nat} (hi:i < halfN n) (x:Nat) (sums:List Nat):climbI x i n sums = (match climbI x i (halfN n) sums with | some (r,s :: rest) => some (bothS r s,rest) | _ => none):=by
 conv => lhs; unfold climbI
 rw [if_neg h,if_pos hi];try rfl
theorem ze2 {n:Nat} (h:¬ n < 2) {i:Nat} (hi:¬ i < halfN n) (x:Nat) (sums:List Nat):climbI x i n sums = (match climbI x (i - halfN n) (n - halfN n) sums with | some (r,s :: rest) => some (bothS s r,rest) | _ => none):=by
 conv => lhs; unfold climbI
 rw [if_neg h,if_neg hi];try rfl
theorem climb_step {N:Nat} (ih:ClP T hT N):ClP T hT (N + 1):=by
 intro n i x sums hn hn0 hn1 hi hx hs hsl;refine zaQ (zaf lk_i_climb) (by show 4 <= 68; decide) fun B hB => ?_
 unfold m_i_climb;refine mP ?_;refine mM ?_;refine mS ?_;by_cases h1:n = 1
 ·refine zai rfl rfl (beq_iff_eq.2 (by omega)) ?_
  refine mT ?_;refine mP ?_;subst h1;refine zag ⟨.inr rfl,[.d (pU x),.d (.sl 0 (aR (uV sums))),.d (pB true)],rfl,?_⟩
  have:climbI x i 1 sums = some (x,sums):=by unfold climbI; rw [if_pos (by decide)]
  rw [this];show some (PV.tup [.d (pU x),.d (.sl 0 (erLL (aR (uV sums)))),.d (pB true)]) = _;rw [zgw]; rfl
 refine zan rfl rfl (beq_eq_false_iff_ne.2 (by omega)) ?_;refine mK ?_;have h2:¬ n < 2:=by omega
 have hh:=zbq h2;refine mQ ?_;refine zap (n:=((n + 1:Nat):Int)) rfl rfl rfl (by omega) (by omega) ?_;refine zem (n:=(halfN n:Nat)) rfl rfl rfl (by decide) (zck _ hn1) ?_;refine mN ?_;refine mP ?_;refine zay (fun st => ∃ own many:Nat,has st.tm [(0,.d (pU x)),(1,.d (pI i)),(3,.d (.sl 0 (aR (uV sums)))),(11,.d (pI (halfN n))),(12,.d (pI own)),(13,.d (pI many))] /\ (i < halfN n /\ own = i /\ many = halfN n \/ ¬ i < halfN n /\ own = i - halfN n /\ many = n - halfN n)) ?_ ?_
 ·refine mO ?_
  (iterate 2 refine mS ?_);by_cases hlo:i < halfN n
  ·refine zan rfl rfl (decide_eq_false (by omega)) ?_
   refine mK ?_;exact ⟨i,halfN n,⟨rfl,rfl,rfl,rfl,rfl,rfl,trivial⟩,.inl ⟨hlo,rfl,rfl⟩⟩
  ·refine zai rfl rfl (decide_eq_true (by omega)) ?_
   refine mT ?_;refine zah ?_;(iterate 2 refine mS ?_);refine za2 (n:=((i - halfN n:Nat):Int)) rfl rfl rfl (by omega) (by omega) ?_;(iterate 2 refine mS ?_);refine za2 (n:=((n - halfN n:Nat):Int)) rfl rfl rfl (by omega) (by omega) ?_;refine mN ?_;exact ⟨i - halfN n,n - halfN n,⟨rfl,rfl,rfl,rfl,rfl,rfl,trivial⟩,.inr ⟨hlo,rfl,rfl⟩⟩
 rintro tm bx nt live ⟨own,many,ht,hom⟩;obtain ⟨tm0,rfl⟩:=zae ht;clear ht;have ho:own < many:=by omega
 have hm1:1 <= many:=by omega
 have hm2:many < n:=by omega
 have hnone:climbI x own many sums = none -> climbI x i n sums = none:=fun h => by
  rcases hom with ⟨a,rfl,rfl⟩ | ⟨a,rfl,rfl⟩
  ·rw [ze1 h2 a,h]
  ·rw [ze2 h2 a,h]
 have hnil:∀ r,climbI x own many sums = some (r,[]) -> climbI x i n sums = none:=fun r h => by
  rcases hom with ⟨a,rfl,rfl⟩ | ⟨a,rfl,rfl⟩
  ·rw [ze1 h2 a,h]
  ·rw [ze2 h2 a,h]
 have hsome:∀ r s rest,climbI x own many sums = some (r,s :: rest) -> climbI x i n sums = some (if i < halfN n then bothS r s else bothS s r,rest):=fun r s rest h => by
  rcases hom with ⟨a,rfl,rfl⟩ | ⟨a,rfl,rfl⟩
  ·rw [ze1 h2 a,h,if_pos a]
  ·rw [ze2 h2 a,h,if_neg a]
 refine mO ?_;(iterate 4 refine mS ?_);refine zab (cl_args _ _ _ _) (ih many own x sums (by omega) hm1 (by omega) ho hx hs hsl) ?_
 cases hc:climbI x own many sums with
 | none =>
  refine po_s (v:=clV none) rfl rfl rfl ?_;refine po_s (v:=.d (pU 0)) rfl rfl rfl ?_;refine po_s (v:=.d (.sl 0 [])) rfl rfl rfl ?_;refine po_s (v:=.d (pB false)) rfl rfl rfl ?_;refine mN ?_;refine mM ?_;(iterate 3 refine mS ?_);refine mZ ?_;refine mT ?_;refine mP ?_;rw [hnone hc]
  exact zag ⟨.inr rfl,[.d (pU 0),.d (.sl 1 []),.d (pB false)],rfl,rfl⟩
 | some q =>
 obtain ⟨r,rest⟩:=q;obtain ⟨hr,hrest,hrl⟩:=climb_some hc hx hs;refine po_s (v:=clV (some (r,rest))) rfl rfl rfl ?_;refine po_s (v:=.d (pU r)) rfl rfl rfl ?_;refine po_s (v:=.d (.sl 0 (aR (uV rest)))) rfl rfl rfl ?_;refine po_s (v:=.d (pB true)) rfl rfl rfl ?_;refine mN ?_;refine mM ?_;(iterate 4 refine mS ?_);refine zat (n:=rest.length) rfl rfl (by rw [zaO,zaY]) ?_
 cases rest with
 | nil =>
  refine zai rfl rfl rfl ?_;refine mT ?_;refine mP ?_;rw [hnil r hc]
  exact zag ⟨.inr rfl,[.d (pU 0),.d (.sl 1 []),.d (pB false)],rfl,rfl⟩
 | cons s rest =>
 have hs4:s < 4294967296:=hrest s (mem_cons_self ..);have hres:=hsome r s rest hc;rw [length_cons] at hrl;refine zan rfl rfl (beq_eq_false_iff_ne.2 (by simp only [length_cons]; omega)) ?_;refine mK ?_;have hdr:(aR (uV (s :: rest))).drop 1 = aR (uV rest):=rfl;have hll:(aR (uV (s :: rest))).length = rest.length + 1:=by rw [zaO,zaY]; rfl
 refine mM ?_;(iterate 2 refine mS ?_);by_cases hlo:i < halfN n
 ·refine zai rfl rfl (decide_eq_true (by omega)) ?_
  refine mT ?_;rw [hres,if_pos hlo];refine mO ?_;(iterate 2 refine mS ?_);refine zaV (es:=aR (uV (s :: rest))) (e:=[pU s]) rfl rfl rfl ⟨by decide,rfl⟩ rfl ?_;(iterate 2 refine mS ?_);refine zbi (es:=aR (uV (s :: rest))) (l:=1) (h:=(aR (uV (s :: rest))).length) (rs:=aR (uV rest)) rfl rfl rfl rfl ⟨by omega,lR⟩ (za6 _) (by rw [<- length_drop,take_length,hdr]) ?_;refine zab (args:=[.d (pU r),.d (pU s)]) rfl (ze0 (T:=T) (hT:=hT) r s hr hs4) ?_;refine mN ?_;refine zag ⟨.inr rfl,[.d (pU (bothS r s)),.d (.sl 0 (aR (uV rest))),.d (pB true)],rfl,?_⟩;show some (PV.tup [.d (pU _),.d (.sl 0 (erLL (aR (uV rest)))),.d (pB true)]) = _;rw [zgw]; rfl
 ·refine zan rfl rfl (decide_eq_false (by omega)) ?_
  refine mK ?_;rw [hres,if_neg hlo];refine mQ ?_;refine zaV (es:=aR (uV (s :: rest))) (e:=[pU s]) rfl rfl rfl ⟨by decide,rfl⟩ rfl ?_;(iterate 3 refine mS ?_);refine zbi (es:=aR (uV (s :: rest))) (l:=1) (h:=(aR (uV (s :: rest))).length) (rs:=aR (uV rest)) rfl rfl rfl rfl ⟨by omega,lR⟩ (za6 _) (by rw [<- length_drop,take_length,hdr]) ?_;refine zab (args:=[.d (pU s),.d (pU r)]) rfl (ze0 (T:=T) (hT:=hT) s r hs4 hr) ?_;refine mN ?_;refine zag ⟨.inr rfl,[.d (pU (bothS s r)),.d (.sl 0 (aR (uV rest))),.d (pB true)],rfl,?_⟩;show some (PV.tup [.d (pU _),.d (.sl 0 (erLL (aR (uV rest)))),.d (pB true)]) = _;rw [zgw]; rfl
theorem climb_fn (n i x:Nat) (sums:List Nat) (hn0:1 <= n) (hn1:n <= 1000) (hi:i < n) (hx:x < 4294967296) (hs:U4 sums) (hsl:sums.length <= 4294967295):FnV (env T hT) 25 [.d (pU x),.d (pI i),.d (pI n),.d (.sl 0 (aR (uV sums)))] (clV (climbI x i n sums)):=by
 have all:∀ N,ClP T hT N:=by
  intro N
  induction N with
  | zero => intro n i x sums h; exact absurd h (Nat.not_lt_zero _)
  | succ N ih => exact climb_step ih
 exact all (n + 1) n i x sums (Nat.lt_succ_self _) hn0 hn1 hi hx hs hsl
/-! ### CheckBranch -/
def chkT (x:Nat) (ts:List Bool) (sums:List Nat) (root:Nat):Bool:=decide (ts.length = sums.length) && decide (climbL x (ts.zip sums) = root)
def chkB (v:V) (i n:Int) (sums:List Nat) (root:Nat):Bool :=
 decide (1 <= n /\ n <= 1000) && (decide (0 <= i /\ i <= n - 1) && chkT (sumV v) (turnsL i.toNat n.toNat) sums root)
theorem eqU {a b:Nat}:((a:Int) == (b:Int)) = decide (a = b):=by
 rw [Bool.eq_iff_iff,beq_iff_eq,decide_eq_true_iff]; omega
theorem U4.get {L:List Nat} (h:U4 L) (i:Nat) (hi:i < L.length):L[i] < 4294967296:=h _ (getElem_mem hi)
def ChI (v:V) (ts:List Bool) (sums:List Nat) (root:Nat) (m:Nat) (st:St):Prop:=∃ (k x t:Nat),k <= ts.length /\ m = ts.length - k /\ has st.tm [(3,.d (.sl 0 (aR (uV sums)))),(4,.d (pU root)),(11,.d (.sl t (aR (bV ts)))),(12,.d (pU x)),(13,.d (pI k))] /\ x < 4294967296 /\ x = climbL (sumV v) ((ts.zip sums).take k)
theorem chkS_fn (v:V) (hv:Gd 1048576 v) (i n:Int) (sums:List Nat) (root:Nat) (hs:U4 sums) (hsl:sums.length <= 4294967295):FnV (env T hT) 13 [.ag (vC v),.d (pI i),.d (pI n),.d (.sl 0 (aR (uV sums))),.d (pU root)] (.d (pB (chkB v i n sums root))):=by
 refine zaQ (zaf zdh) (by show 5 <= 59; decide) fun B hB => ?_
 unfold m_s_CheckBranch;refine mO ?_;refine zbd (cs:=vC v) rfl ?_;refine mN ?_;unfold chkB;refine mM ?_;refine mS ?_;refine zab (args:=[.d (pI n),.d (pI 1),.d (pI 1000)]) rfl (zeT (T:=T) (hT:=hT) n 1 1000) ?_;(iterate 2 refine mS ?_);by_cases hn:1 <= n /\ n <= 1000
 case neg =>
  rw [decide_eq_false hn];refine mZ ?_;refine mT ?_;refine mP ?_;exact mR
 rw [decide_eq_true hn];(iterate 2 refine mS ?_);refine za2 (n:=n - 1) rfl rfl rfl (by omega) (by omega) ?_;refine za4 (args:=[.d (pI i),.d (pI 0),.d (pI (n - 1))]) (b:=true) rfl (fun _ => rfl) (fun _ => zeT (T:=T) (hT:=hT) i 0 (n - 1)) ?_;by_cases hi:0 <= i /\ i <= n - 1
 case neg =>
  rw [decide_eq_false hi];refine mT ?_;refine mP ?_;exact mR
 rw [decide_eq_true hi];refine mK ?_;obtain ⟨k,rfl⟩:∃ k:Nat,i = k:=⟨i.toNat,by omega⟩;obtain ⟨q,rfl⟩:∃ q:Nat,n = q:=⟨n.toNat,by omega⟩;simp only [Int.toNat_natCast,Bool.true_and];have hts:=zcD q k;refine mO ?_;(iterate 2 refine mS ?_);refine zd9 (args:=[.d (pI k),.d (pI q)]) rfl (turns_fn (T:=T) (hT:=hT) q k (by omega) (by omega)) ?_;intro t nt' live' hnt ht;refine mN ?_;generalize turnsL k q = ts at hts;unfold chkT;refine mM ?_;refine mS ?_;refine zat (n:=ts.length) rfl rfl (by rw [zaO,zea]) ?_;refine mS ?_;refine zat (n:=sums.length) rfl rfl (by rw [zaO,zaY]) ?_;by_cases hl:ts.length = sums.length
 case neg =>
  rw [decide_eq_false hl];refine zai rfl rfl (bne_iff_ne.2 (show ((ts.length:Nat):Int) ≠ sums.length by omega)) ?_;refine mT ?_;refine mP ?_;exact mR
 rw [decide_eq_true hl];refine zan rfl rfl (by rw [hl]; exact bne_self_eq_false _) ?_;refine mK ?_;refine mO ?_;refine za1 (p:=0) (cs:=vC v) rfl rfl rfl rfl ?_;refine zab (zbh v) (sumS_fn (T:=T) (hT:=hT) v hv.wf hv.bulk hv.few) ?_;refine mN ?_;have hzl:(ts.zip sums).length = ts.length:=by rw [List.length_zip]; omega
 refine zay (fun st => has st.tm [(4,.d (pU root)),(12,.d (pU (climbL (sumV v) (ts.zip sums))))]) ?_ ?_
 ·refine mP ?_
  refine zad ?_;refine zaw (ChI v ts sums root) ts.length ⟨0,sumV v,t,Nat.zero_le _,rfl,⟨rfl,rfl,rfl,rfl,rfl,trivial⟩,zgs v,rfl⟩ ?_;rintro m tm bx nt live ⟨j,x,t1,hj,rfl,ht1,hx,hxe⟩;obtain ⟨tm1,rfl⟩:=zae ht1;clear ht1;refine mM ?_;(iterate 2 refine mS ?_);refine zat (n:=ts.length) rfl rfl (by rw [zaO,zea]) ?_;refine po_b rfl rfl (fun b hb => ?_);refine zaa ?_;refine zbB (p:=(j:Int) < ts.length) hb rfl (fun him _ => ?_) (fun him _ => ?_)
  rotate_left
  ·refine zaB ?_
   have:j = ts.length:=by omega
   subst this;rw [<- hzl,take_length] at hxe;rw [<- hxe];exact ⟨rfl,rfl,trivial⟩
  have hjt:j < ts.length:=by omega
  have hjs:j < sums.length:=by omega
  have hstep:climbL (sumV v) ((ts.zip sums).take (j + 1)) = stepL x (ts[j],sums[j]):=by
   rw [take_succ_eq_append_getElem (by rw [hzl]; exact hjt),hxe];simp [climbL]
  have hs4:=hs.get j hjs;refine zak ?_;refine zay (fun st => has st.tm [(3,.d (.sl 0 (aR (uV sums)))),(4,.d (pU root)),(11,.d (.sl t1 (aR (bV ts)))),(12,.d (pU (stepL x (ts[j],sums[j])))),(13,.d (pI j))]) ?_ ?_
  ·refine zad ?_
   refine mO ?_;(iterate 2 refine mS ?_);refine zaV (es:=aR (bV ts)) (e:=[pB ts[j]]) rfl rfl rfl ⟨by omega,by rw [Int.toNat_natCast]; exact bR_get hjt⟩ rfl ?_;refine mL ?_
   cases hb2:ts[j] with
   | true =>
    refine mwT ?_;refine zah ?_;(iterate 3 refine mS ?_);refine zaV (es:=aR (uV sums)) (e:=[pU sums[j]]) rfl rfl rfl ⟨by omega,by rw [Int.toNat_natCast]; exact uR_get hjs⟩ rfl ?_;refine mS ?_;refine zab (args:=[.d (pU x),.d (pU sums[j])]) rfl (zeZ (T:=T) (hT:=hT) x sums[j] hx hs4) ?_;refine mN ?_
    exact ⟨rfl,rfl,rfl,rfl,rfl,trivial⟩
   | false =>
    refine mwF ?_;refine zah ?_;(iterate 2 refine mS ?_);refine zaV (es:=aR (uV sums)) (e:=[pU sums[j]]) rfl rfl rfl ⟨by omega,by rw [Int.toNat_natCast]; exact uR_get hjs⟩ rfl ?_;(iterate 2 refine mS ?_);refine zab (args:=[.d (pU sums[j]),.d (pU x)]) rfl (zeZ (T:=T) (hT:=hT) sums[j] x hs4 hx) ?_;refine mN ?_;exact ⟨rfl,rfl,rfl,rfl,rfl,trivial⟩
  rintro tm bx nt live ht1;obtain ⟨tm2,rfl⟩:=zae ht1;clear ht1;refine zah ?_;refine mS ?_;refine zap (n:=((j + 1:Nat):Int)) rfl rfl rfl (by omega) (by omega) ?_;refine mN ?_;exact ⟨_,by show ts.length - (j + 1) < ts.length - j; omega,j + 1,stepL x (ts[j],sums[j]),t1,by omega,rfl,⟨rfl,rfl,rfl,rfl,rfl,trivial⟩,zc3 _ _,hstep.symm⟩
 rintro tm bx nt live ht1;obtain ⟨tm1,rfl⟩:=zae ht1;refine mO ?_;(iterate 2 refine mS ?_)
 refine po_q (v:=.d (pB (decide (climbL (sumV v) (ts.zip sums) = root)))) rfl (by
  show some (PV.d (.v (.bool (((climbL (sumV v) (ts.zip sums):Nat):Int) == (root:Int))))) = _;rw [eqU]; rfl) ?_
 refine mN ?_;exact mR
theorem ze3 (hTab:∀ w,T w -> Tabs w) (v:V) (hv:Gd 1048576 v) (i n:Int) (sums:List Nat) (root:Nat) (hs:U4 sums) (hsl:sums.length <= 4294967295):FnV (env T hT) 12 [.ag (vC v),.d (pI i),.d (pI n),.d (.sl 0 (aR (uV sums))),.d (pU root)] (.d (pB (chkB v i n sums root))):=by
 refine zaQ (zaf zdi) (by show 5 <= 45; decide) fun B hB => ?_
 unfold m_i_CheckBranch;refine mO ?_;refine zbd (cs:=vC v) rfl ?_;refine mN ?_;unfold chkB;refine mM ?_;refine mS ?_;refine zab (args:=[.d (pI n),.d (pI 1),.d (pI 1000)]) rfl (zbR (T:=T) (hT:=hT) n 1 1000) ?_;(iterate 2 refine mS ?_);by_cases hn:1 <= n /\ n <= 1000
 case neg =>
  rw [decide_eq_false hn];refine mZ ?_;refine mT ?_;refine mP ?_;exact mR
 rw [decide_eq_true hn];(iterate 2 refine mS ?_);refine za2 (n:=n - 1) rfl rfl rfl (by omega) (by omega) ?_;refine za4 (args:=[.d (pI i),.d (pI 0),.d (pI (n - 1))]) (b:=true) rfl (fun _ => rfl) (fun _ => zbR (T:=T) (hT:=hT) i 0 (n - 1)) ?_;by_cases hi:0 <= i /\ i <= n - 1
 case neg =>
  rw [decide_eq_false hi];refine mT ?_;refine mP ?_;exact mR
 rw [decide_eq_true hi];refine mK ?_;obtain ⟨k,rfl⟩:∃ k:Nat,i = k:=⟨i.toNat,by omega⟩;obtain ⟨q,rfl⟩:∃ q:Nat,n = q:=⟨n.toNat,by omega⟩;simp only [Int.toNat_natCast,Bool.true_and];refine mO ?_;refine za1 (p:=0) (cs:=vC v) rfl rfl rfl rfl ?_;refine zab (zbh v) (sumI_fn (T:=T) (hT:=hT) hTab v hv.wf hv.bulk hv.few) ?_;(iterate 3 refine mS ?_);refine zab (cl_args _ _ _ _) (climb_fn (T:=T) (hT:=hT) q k (sumV v) sums (by omega) (by omega) (by omega) (zgs v) hs hsl) ?_;rw [zew];generalize turnsL k q = ts;by_cases hle:ts.length <= sums.length
 case neg =>
  have hck:chkT (sumV v) ts sums root = false:=by unfold chkT; rw [decide_eq_false (by omega)]; rfl
  rw [if_neg hle,hck];refine po_s (v:=clV none) rfl rfl rfl ?_;refine po_s (v:=.d (pU 0)) rfl rfl rfl ?_;refine po_s (v:=.d (.sl 0 [])) rfl rfl rfl ?_;refine po_s (v:=.d (pB false)) rfl rfl rfl ?_;refine mN ?_;refine mO ?_;(iterate 2 refine mS ?_);refine mZ ?_;(iterate 2 refine mS ?_);refine mZ ?_;refine mN ?_;exact mR
 rw [if_pos hle];refine po_s (v:=clV (some (climbL (sumV v) (ts.zip sums),sums.drop ts.length))) rfl rfl rfl ?_;refine po_s (v:=.d (pU (climbL (sumV v) (ts.zip sums)))) rfl rfl rfl ?_;refine po_s (v:=.d (.sl 0 (aR (uV (sums.drop ts.length))))) rfl rfl rfl ?_;refine po_s (v:=.d (pB true)) rfl rfl rfl ?_;refine mN ?_;refine mO ?_;(iterate 3 refine mS ?_);refine zat (n:=sums.length - ts.length) rfl rfl (by rw [zaO,zaY,length_drop]) ?_;unfold chkT;by_cases hl:ts.length = sums.length
 ·rw [decide_eq_true hl]
  refine zai rfl rfl (beq_iff_eq.2 (by omega)) ?_;(iterate 4 refine mS ?_)
  refine po_q (v:=.d (pB (decide (climbL (sumV v) (ts.zip sums) = root)))) rfl (by
   show some (PV.d (.v (.bool (((climbL (sumV v) (ts.zip sums):Nat):Int) == (root:Int))))) = _;rw [eqU]; rfl) ?_
  refine mN ?_;exact mR
 ·rw [decide_eq_false hl]
  refine zan rfl rfl (beq_eq_false_iff_ne.2 (by omega)) ?_;(iterate 2 refine mS ?_);refine mZ ?_;refine mN ?_;exact mR
end
section
def m_l_big:M:=so [qo 2 (.mv (cB false))] (so [qm 3 0,qo 4 (.len 3),qo 5 (.bin .gtr false 4 (ci 1048576)),qm 2 5] .ret)
theorem lk_l_big:look Tryz.prog 4 = some (6,m_l_big,[.tm 2]):=by kernel_rfl
end
section
theorem ngl_of {w:World} (h:w.ShapedOpen Tryz.prog):ngl <= w.heap.size:=by
 have hlt:ngl < (begin Tryz.prog (fun _ _ => 0) default).world.heap.size:=of_decide_eq_true (by unfold ngl; kernel_rfl);obtain ⟨o,_,h2,_⟩:=h.2 ngl lR hlt;exact Nat.le_of_lt (zaA h2)
section
variable {T:World -> Prop} {hT:Low ngl T} {w:World} {hn:ngl <= w.heap.size}
end
theorem FnV.bool {E:Env} {f:Nat} {args:List PV} {b:Bool} (h:FnV E f args (.d (pB b))) {w:World} (hng:E.NG <= w.heap.size) (hT:E.T w) {vs:List Value} (hl:vs.length = args.length) (hv:∀ (j:Nat) (x:PV) (y:Value),args[j]? = some x -> vs[j]? = some y -> RpV (C0 w) w x y) :
  Calls E.P f vs.toArray w fun e w' => e = .returned (.bool b) /\ Below w.heap.size w w':=by
 refine (Fn.use h hng hT hl hv).mono ?_;rintro e w' ⟨u,x,bx,live,C',rfl,h1,_,h3,h4,_⟩
 have hx:x = .d (pB b):=by
  cases x with
  | d c =>
   simp only [PV.dat,sI,PV.d.injEq] at h1
   cases c with
   | v y => simp only [PC.er] at h1; rw [h1]
   | sl t es => simp [PC.er,pB] at h1
   | bld p T t U => simp [PC.er,pB] at h1
   | anyp => simp [PC.er,pB] at h1
   | row => simp [PC.er,pB] at h1
  | _ => simp [PV.dat] at h1
 subst hx
 cases h3 with
 | d _ _ h => cases h; exact ⟨rfl,h4⟩
end
section
def dU (x:UInt8):D:=.one (.int .u8 x.toNat)
def dBy (b:L8):D:=.sl 1 (b.map dU)
theorem dBy_wf (b:L8):(dBy b).wf:=by
 simp only [dBy,D.wf];refine ⟨fun e he => by obtain ⟨k,_,rfl⟩:=mem_map.1 he; rfl,?_⟩
 induction b with
 | nil => trivial
 | cons k ks ih => exact ⟨rfl,ih⟩
theorem dBy_pc (b:L8):(dBy b).pc = [.sl 0 (pcB b)]:=by
 simp only [dBy,D.pc,D.pcE_map,map_map,pcB]; rfl
theorem code_rp {w:World} {b:L8} {v:Value} (h:Rd w (dBy b) [v]):RpV (C0 w) w (.d (.sl 0 (pcB b))) v:=rd1 h (dBy_wf b) (dBy_pc b)
theorem trod_code {H:Type} {enc:TypeId × Value -> H} {w:World} {base:Nat} {spare:Nat -> Bool} {held:Bool} (fuel:Nat) (cs:List Value) (y:DataW H × List MemPlace)
  (h:DataW.trod enc Tryz.prog w base spare held fuel 22 cs = some y):∃ (b:L8) (v:Value),cs = [v] /\ Rd w (dBy b) [v] /\ b.length <= maxLen:=by
 obtain ⟨xs,v,h1,h2,_,h4⟩:=trod_sl (f:=dU) (ok:=fun _ => True) Tryz.underlying22 (by kernel_rfl) (by decide) (fun _ => rfl) (fun n cs y _ h => by
  obtain ⟨m,rfl,_,hm⟩:=DataW.trod_int Tryz.underlying5 h
  have hb:0 <= m /\ m <= 255:=by
   simp [Lit.wf,IntKind.min,IntKind.max,IntKind.bits,IntKind.signed] at hm; exact ⟨by omega,by omega⟩
  exact ⟨UInt8.ofNat m.toNat,by simp [Rd,dU,RepC]; omega,trivial⟩) h
 exact ⟨xs,v,h1,h2,h4⟩
theorem fnLaw {E:Env} {f:Nat} {b:L8} (h:FnV E f [.d (.sl 0 (pcB b))] (.d (pB true))) {w:World} (hng:E.NG <= w.heap.size) (hT:E.T w) {v:Value} (hr:Rd w (dBy b) [v]):Calls E.P f #[v] w fun e w' => e = .returned (.bool true) /\ Below w.heap.size w w' :=
 FnV.bool h hng hT (vs:=[v]) rfl fun j x y hx hy => by
  match j with
  | 0 => simp at hx hy; subst hx; subst hy; exact code_rp hr
  | j + 1 => simp at hx
end
section
variable {T:World -> Prop} {hT:Low ngl T}
attribute [local irreducible] po mw pt
theorem new_l {b:L8} (hb:b.length <= 2147483647) {bx:LP PC} (nt:Nat) (live:List Nat):FnG (env T hT) 15 [.d (.sl 0 (pcB b))] bx nt live (fun x b' n l => ∃ c,x = .ref bx.length 0 /\ b' = bx ++ [c] /\ Cu b c /\ n = nt /\ l = live):=by
 refine (FnG.liftR (new_g (T:=T) (hT:=hT) hb nt live) ⟨by simp only [PV.lw,PC.lw]; exact pcB_lw 0 b,trivial⟩).mono ?_;rintro x b' n l ⟨x0,b0,rfl,rfl,c,rfl,rfl,hc,rfl,rfl⟩;refine ⟨c,by simp [PV.shB],?_,hc,rfl,rfl⟩;rw [map_cons,map_nil,zf1 hc.lw]
theorem big_fn0 (b:L8):FnV (env T hT) 4 [.d (.sl 0 (pcB b))] (.d (pB (decide ((b.length:Int) > 1048576)))):=by
 refine zaQ (zaf lk_l_big) (by show 1 <= 6; decide) fun B hB => ?_
 unfold m_l_big;refine mP ?_;refine mQ ?_;refine zat (n:=b.length) rfl rfl (zaP b) ?_;refine po_q rfl rfl ?_;refine mN ?_;exact mR
section
variable {E:Env} {K:St -> Prop} {tm:Nat -> PV} {bx:LP PC} {nt d:Nat} {live:List Nat} {r:List MOpr} {c:List X}
theorem ze4 {f:Nat} {xs:List X} {args:List PV} {R:PV -> (Nat -> Prop) -> Prop} (hd:PV.dats (xs.map (ev tm)) = some args) (hF:Fn E f args R) (h:∀ x lv,R x lv -> ∃ y,x.dat = some y /\ po E r K ⟨up d y tm,bx,nt,live⟩):po E (⟨some d,.call f xs,none,c⟩ :: r) K ⟨tm,bx,nt,live⟩ :=
 by
 unfold po;exact ⟨true,rfl,.inl ⟨rfl,.inl ⟨args,R,hd,hF,.inl fun x lv hx => by obtain ⟨y,h1,h2⟩:=h x lv hx; exact ⟨y,h1,by rw [zbb]; exact h2⟩⟩⟩⟩
end
theorem pcB_er (b:L8):erLL (pcB b) = pcB b:=by
 rw [zaR]; unfold pcB; rw [map_map]; rfl
end
section
def m_l_FnRoot:M:=so [qo 2 (.mv (cB false))] (.seq (so [qm 15 0,qc 16 4 [15] 1] (.cond 16 (so [qo 2 (.mv (cB true))] .ret) .skip)) (so [qm 17 0,qc 18 5 [17] 1,qm 3 18] (so [qm 19 3,qc 20 6 [19] 1,qm 4 20] (so [qm 22 0,qc 23 7 [22] 1,qm 21 23,qe 24 21 0,qe 25 21 1,qm 5 24,qm 6 25] (so [qm 26 5,qm 27 6,qc 28 8 [26,27] 1,qm 7 28] (so [qm 29 5,qm 30 6,qc 31 9 [29,30] 1,qm 8 31] (so [qm 33 0,qc 34 10 [33] 1,qm 32 34,qe 35 32 0,qe 36 32 1,qe 37 32 2,qe 38 32 3,qe 39 32 4,⟨some 9,.zero [.int .i64 0,.int .i64 0,.int .i64 0,.string ⟨[].toArray⟩,.slice none 0 0],none,[]⟩,qS 5 9 35,qm 10 36,qm 11 37,qm 12 38,qm 13 39] (.seq (so [qm 40 4,qm 41 3,qc 42 11 [41] 0,qo 43 (.bin .neq false 40 42),qm 44 43,qg 45 7 44 false,⟨some 46,.len 45,some (44,false),[]⟩,qg 47 8 44 false,⟨some 48,.len 47,some (44,false),[]⟩,⟨some 49,.bin .neq false 46 48,some (44,false),[]⟩,qo 50 (.pick 44 (cB true) 49),qm 51 50,⟨some 52,.load true 5 9,some (51,false),[]⟩,qg 53 10 51 false,qg 54 11 51 false,qg 55 12 51 false,qg 56 13 51 false,⟨some 58,.load true 5 9,some (51,false),[]⟩,qg 59 10 51 false,qg 60 11 51 false,qg 61 12 51 false,qg 62 13 51 false,⟨some 57,.call 12 [52,53,54,55,56],some (51,false),[.f 0,9]⟩,⟨some 63,.call 13 [58,59,60,61,62],some (51,false),[.f 0]⟩,⟨some 64,.bin .neq true 57 63,some (51,false),[]⟩,qo 65 (.pick 51 (cB true) 64)] (.cond 65 (so [qo 2 (.mv (cB false))] .ret) .skip)) (.seq (so [qo 14 (.mv (ci 0))] (.block 0 (.loop (.seq (so [qm 66 14,qm 67 7,qo 68 (.len 67),qo 69 (.bin .lss false 66 68)] (.cond 69 .skip (.exit 0))) (.seq (.block 1 (so [qm 72 7,qm 73 14,qo 74 (.ix 1 72 73),ql 75 1 74,qm 76 8,qm 77 14,qo 78 (.ix 1 76 77),ql 79 1 78,qo 80 (.bin .neq false 75 79)] (.cond 80 (so [qo 2 (.mv (cB false))] .ret) .skip))) (.ops [qm 70 14,qo 71 (.bin .add false 70 (ci 1)),qm 14 71])))))) (.seq (so [qm 81 6,qo 82 (.bin .lss false 81 (ci 0)),qm 83 82,qg 84 6 83 false,qg 85 5 83 false,⟨some 86,.len 85,some (83,false),[]⟩,⟨some 87,.bin .geq false 84 86,some (83,false),[]⟩,qo 88 (.pick 83 (cB true) 87)] (.cond 88 (so [qm 89 7,qo 90 (.len 89),qo 91 (.bin .eql false 90 (ci 0)),qm 2 91] .ret) .skip)) (.seq (so [qm 92 5,qm 93 6,qo 94 (.ix 5 92 93),qL 95 5 94,qm 96 6,qm 97 5,qo 98 (.len 97),qm 99 7,qm 100 5,⟨some 101,.call 6 [100],none,[.f 0,94]⟩,qc 102 12 [95,96,98,99,101] 0,qo 103 (.not 102),qm 104 103,qg 105 5 104 false,qg 106 6 104 false,⟨some 107,.ix 5 105 106,some (104,false),[]⟩,⟨some 108,.load true 5 107,some (104,false),[]⟩,qg 109 6 104 false,qg 110 5 104 false,⟨some 111,.len 110,some (104,false),[]⟩,qg 113 7 104 false,⟨some 115,.litq 1 [.c (.int .u32 1)],some (104,false),[]⟩,qg 117 5 104 false,⟨some 112,.lit 1 [],some (104,false),[]⟩,⟨some 114,.app 1 112 113,some (104,false),[]⟩,⟨some 116,.app 1 114 115,some (104,false),[]⟩,⟨some 118,.call 6 [117],some (104,false),[.f 0,107]⟩,⟨some 119,.call 12 [108,109,111,116,118],some (104,false),[.f 0]⟩,qo 120 (.pick 104 (cB true) 119)] (.cond 120 (so [qo 2 (.mv (cB false))] .ret) .skip)) (so [qm 121 7,qo 122 (.len 121),qo 123 (.bin .eql false 122 (ci 0)),qm 124 123,qg 125 5 124 false,qg 126 6 124 false,⟨some 127,.ix 5 125 126,some (124,false),[]⟩,⟨some 128,.load true 5 127,some (124,false),[]⟩,qg 129 6 124 false,qg 130 5 124 false,⟨some 131,.len 130,some (124,false),[]⟩,qg 132 7 124 false,⟨some 133,.ix 1 132 (ci 0),some (124,false),[]⟩,⟨some 134,.load false 1 133,some (124,false),[]⟩,⟨some 135,.bin .xor false 134 (.c (.int .u32 1)),some (124,false),[]⟩,qg 137 7 124 false,⟨some 138,.slc 1 137 (some (ci 1)) none,some (124,false),[]⟩,qg 140 5 124 false,⟨some 136,.lit 1 [135],some (124,false),[]⟩,⟨some 139,.app 1 136 138,some (124,false),[]⟩,⟨some 141,.call 6 [140],some (124,false),[.f 0,127]⟩,⟨some 142,.call 12 [128,129,131,139,141],some (124,false),[.f 0]⟩,⟨some 143,.not 142,some (124,false),[]⟩,qo 144 (.pick 124 (cB true) 143),qm 2 144] .ret))))))))))))
theorem zgy:look Tryz.prog 3 = some (145,m_l_FnRoot,[.tm 2]):=by kernel_rfl
def m_s_DrawRoot:M:=so [qo 2 (.mv (.c (.slice none 0 0)))] (so [qm 3 0,qc 4 15 [3] 1,qc 5 14 [4] 1,qm 2 5] .ret)
theorem ze5:look Tryz.prog 5 = some (6,m_s_DrawRoot,[.tm 2]):=by kernel_rfl
def m_s_DrawBranch:M:=so [qo 2 (.mv (.c (.slice none 0 0))),qo 3 (.mv (ci 0))] (so [qm 6 0,qc 7 15 [6] 1,qm 4 7] (so [qm 8 4,qc 9 14 [8] 1,qm 5 9] (so [qm 10 5,qm 11 4,qm 12 5,qo 13 (.len 12),qo 14 (.bin .add false 13 (ci 2)),qc 15 18 [11,14] 1,qo 16 (.bin .sub false 15 (ci 1)),qm 2 10,qm 3 16] .ret)))
theorem zec:look Tryz.prog 7 = some (17,m_s_DrawBranch,[.tm 2,.tm 3]):=by kernel_rfl
def m_s_DrawCheckBranch:M:=so [⟨some 2,.zero [.int .i64 0,.int .i64 0,.int .i64 0,.string ⟨[].toArray⟩,.slice none 0 0],none,[]⟩,qo 3 (.mv (ci 0)),qo 4 (.mv (ci 0)),qo 5 (.mv (.c (.slice none 0 0))),qo 6 (.mv (.c (.int .u32 0)))] (so [qm 14 0,qc 15 15 [14] 1,qm 7 15] (so [qm 16 7,qc 17 14 [16] 1,qm 18 7,qc 19 21 [18,ci 1,cB false] 1,qo 20 (.lit 5 [19]),⟨some 21,.app 5 17 20,none,[.f 1]⟩,qm 8 21] (so [qm 22 7,qm 23 8,qo 24 (.len 23),qc 25 18 [22,24] 1,qm 9 25] (so [qm 26 8,qm 27 9,qc 28 9 [26,27] 1,qm 29 8,qc 30 11 [29] 1,qm 31 8,qo 32 (.len 31),qm 10 28,qm 11 30,qm 12 32] (so [qm 33 8,qm 34 9,qo 35 (.ix 5 33 34),qL 36 5 35,⟨some 13,.zero [.int .i64 0,.int .i64 0,.int .i64 0,.string ⟨[].toArray⟩,.slice none 0 0],none,[]⟩,qS 5 13 36] (.seq (so [qm 37 7,qc 38 18 [37,ci 6] 1] (.block 0 (so [qo 40 (.bin .eql false 38 (ci 0)),qm 39 40] (.cond 39 (.ops [qm 41 7,qc 42 21 [41,ci 1,cB false] 1,qS 5 13 42]) (so [qo 44 (.bin .eql false 38 (ci 1)),qm 43 44] (.cond 43 (.ops [qm 45 7,qm 46 12,qo 47 (.lit 1 [ci (-1),ci 0,ci 1,46]),qc 48 22 [45,47] 1,qm 9 48]) (so [qo 50 (.bin .eql false 38 (ci 2)),qm 49 50] (.cond 49 (.ops [qm 51 7,qo 52 (.lit 1 [ci 0,ci 1,ci 2,ci 1000,ci 1001,ci (-9223372036854775808)]),qc 53 22 [51,52] 1,qm 12 53]) (so [qo 55 (.bin .eql false 38 (ci 3)),qm 54 55] (.cond 54 (.ops [qm 56 11,qo 57 (.bin .add false 56 (.c (.int .u32 1))),qm 11 57]) .skip)))))))))) (so [qL 58 5 13,qm 59 9,qm 60 12,qm 61 10,qm 62 11,qS 5 2 58,qm 3 59,qm 4 60,qm 5 61,qm 6 62] .ret)))))))
theorem zcl:look Tryz.prog 10 = some (63,m_s_DrawCheckBranch,[.cell true 5 2,.tm 3,.tm 4,.tm 5,.tm 6]):=by kernel_rfl
def m_s_l13List:M:=so [qo 2 (.mv (.c (.slice none 0 0)))] (so [qo 6 (.lit 5 []),qm 3 6] (so [qm 7 0,qc 8 18 [7,ci 6] 1,qm 4 8] (.seq (so [qo 5 (.mv (ci 0))] (.block 0 (.loop (.seq (so [qm 9 5,qm 10 4,qo 11 (.bin .lss false 9 10)] (.cond 11 .skip (.exit 0))) (.seq (.block 1 (.ops [qm 14 3,qm 15 0,qc 16 27 [15] 1,qo 17 (.lit 5 [16]),⟨some 18,.app 5 14 17,none,[.f 1]⟩,qm 3 18])) (.ops [qm 12 5,qo 13 (.bin .add false 12 (ci 1)),qm 5 13])))))) (so [qm 19 3,qm 2 19] .ret))))
theorem zfU:look Tryz.prog 14 = some (20,m_s_l13List,[.tm 2]):=by kernel_rfl
end
end Go.Proofs.YthgeaoidcffmeaaGreatDoor
