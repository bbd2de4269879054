/- Part 3 of a proof: TblM, PvG1M, MsgDef, Hd, PvG1, PvG2, PvG3, PvF1M, GetHead, MsgTop, At, Sgw, At2, DictDef, PvF1, CborPut, CmpDef, CmpM, Cmp, PvLift, PvRow, Lcg, Drw0, Drw1M, IntM, Drw1, Drw2, Drw3, Lcg2, Drw4, Drw5, Drw6, Drw7 -/
import Derived.Test.YtmmcehkdnnolkaaGreatDoorDb2
namespace Go.Proofs.YtmmcehkdnnolkaaGreatDoor
open Go.RowKit
set_option maxHeartbeats 4000000
set_option maxRecDepth 100000
open List
section
def m_s_l14Dict:M:=so [qo 2 (.zero [.slice none 0 0,.slice none 0 0])] (so [⟨some 4,.lit 1 [.c (.string ⟨[110,97,109,101].toArray⟩),.c (.string ⟨[105,100].toArray⟩)],none,[]⟩,qo 5 (.build [.slice none 0 0,.slice none 0 0] [(0,1,4)]),qo 3 (.zero [.slice none 0 0,.slice none 0 0]),qS 2 3 5] (.seq (so [qm 6 0,qc 7 34 [6,ci 2] 1] (.cond 7 (.ops [⟨some 8,.call 35 [.c (.string ⟨[99,111,109,109,111,110,32,118,97,108,117,101].toArray⟩)],none,[.f 1]⟩,qc 9 36 [ci 0] 1,qc 10 37 [ci 1] 1,qo 11 (.lit 5 [9,10]),⟨some 12,.build [.int .i64 0,.int .i64 0,.int .i64 0,.string ⟨[].toArray⟩,.slice none 0 0] [(0,1,ci 7),(4,1,11)],none,[]⟩,qo 13 (.lit 5 [8,12]),qF 14 1 3,qS 1 14 13]) .skip)) (.seq (so [qm 15 0,qc 16 38 [15,ci 5] 1] (.block 0 (so [qo 18 (.bin .eql false 16 (ci 0)),qm 17 18] (.cond 17 (.ops [qm 19 0,qc 20 39 [19] 1,qF 21 0 3,qS 1 21 20]) (so [qo 23 (.bin .eql false 16 (ci 1)),qm 22 23] (.cond 22 (.ops [qm 24 0,qc 25 40 [24] 1,qF 26 1 3,qS 1 26 25]) .skip)))))) (so [qL 27 2 3,qS 2 2 27] .ret))))
theorem zgv:look Tryz.prog 15 = some (28,m_s_l14Dict,[.cell true 2 2]):=by kernel_rfl
def m_s_l12RefTo:M:=so [⟨some 2,.zero [.int .i64 0,.int .i64 0,.int .i64 0,.string ⟨[].toArray⟩,.slice none 0 0],none,[]⟩] (so [qm 3 0,qc 4 37 [3] 1,qo 5 (.lit 5 [4]),⟨some 6,.build [.int .i64 0,.int .i64 0,.int .i64 0,.string ⟨[].toArray⟩,.slice none 0 0] [(0,1,ci 9),(1,1,ci 6),(4,1,5)],none,[]⟩,qS 5 2 6] .ret)
theorem zfv:look Tryz.prog 36 = some (7,m_s_l12RefTo,[.cell true 5 2]):=by kernel_rfl
def m_s_l12Table:M:=so [qo 2 (.mv (.c (.slice none 0 0)))] (so [qm 6 0,qc 7 70 [6] 1,⟨some 3,.zero [.int .i64 0,.int .i64 0,.int .i64 0,.string ⟨[].toArray⟩,.slice none 0 0],none,[]⟩,qS 5 3 7] (.seq (.tree (.node [qL 8 5 3,qL 9 5 3,qm 11 0,qm 14 0] (.alt ⟨some 10,.call 72 [9],none,[.f 0,3]⟩ (.node [] (.alt ⟨some 12,.call 70 [11],none,[.f 0,3]⟩ (.node [] (.alt (qo 13 (.lit 5 [8,10,12])) (.node [] (.alt (qo 15 (.lit 1 [ci 60,ci 3,ci 1])) (.node [] (.alt ⟨some 16,.call 69 [14,15],none,[.f 0,3]⟩ (.node [] (.alt (qc 17 71 [13,16] 0) (.node [qm 4 17] .leaf) .leaf)) .leaf)) .leaf)) (.alt (qo 15 (.lit 1 [ci 60,ci 3,ci 1])) (.node [] (.alt (qo 13 (.lit 5 [8,10,12])) (.node [] (.alt ⟨some 16,.call 69 [14,15],none,[.f 0,3]⟩ (.node [] (.alt (qc 17 71 [13,16] 0) (.node [qm 4 17] .leaf) .leaf)) .leaf)) (.alt ⟨some 16,.call 69 [14,15],none,[.f 0,3]⟩ (.node [] (.alt (qo 13 (.lit 5 [8,10,12])) (.node [] (.alt (qc 17 71 [13,16] 0) (.node [qm 4 17] .leaf) .leaf)) .leaf)) .leaf))) .leaf))) (.alt (qo 15 (.lit 1 [ci 60,ci 3,ci 1])) (.node [] (.alt ⟨some 12,.call 70 [11],none,[.f 0,3]⟩ (.node [] (.alt (qo 13 (.lit 5 [8,10,12])) (.node [] (.alt ⟨some 16,.call 69 [14,15],none,[.f 0,3]⟩ (.node [] (.alt (qc 17 71 [13,16] 0) (.node [qm 4 17] .leaf) .leaf)) .leaf)) (.alt ⟨some 16,.call 69 [14,15],none,[.f 0,3]⟩ (.node [] (.alt (qo 13 (.lit 5 [8,10,12])) (.node [] (.alt (qc 17 71 [13,16] 0) (.node [qm 4 17] .leaf) .leaf)) .leaf)) .leaf))) .leaf)) .leaf))) (.alt (qo 15 (.lit 1 [ci 60,ci 3,ci 1])) (.node [] (.alt ⟨some 10,.call 72 [9],none,[.f 0,3]⟩ (.node [] (.alt ⟨some 12,.call 70 [11],none,[.f 0,3]⟩ (.node [] (.alt (qo 13 (.lit 5 [8,10,12])) (.node [] (.alt ⟨some 16,.call 69 [14,15],none,[.f 0,3]⟩ (.node [] (.alt (qc 17 71 [13,16] 0) (.node [qm 4 17] .leaf) .leaf)) .leaf)) (.alt ⟨some 16,.call 69 [14,15],none,[.f 0,3]⟩ (.node [] (.alt (qo 13 (.lit 5 [8,10,12])) (.node [] (.alt (qc 17 71 [13,16] 0) (.node [qm 4 17] .leaf) .leaf)) .leaf)) .leaf))) .leaf)) .leaf)) .leaf)))) (.seq (so [qm 18 4,qo 19 (.len 18),qo 20 (.bin .gtr false 19 (ci 0)),qm 21 20,qg 22 0 21 true,⟨some 23,.call 34 [22,ci 2],some (21,true),[.f 1]⟩,qo 24 (.pick 21 23 (cB false))] (.cond 24 (.ops [qm 25 4,qc 26 36 [ci 0] 1,⟨some 27,.call 35 [.c (.string ⟨[99,111,109,109,111,110,32,118,97,108,117,101].toArray⟩)],none,[.f 1]⟩,qm 28 4,qo 29 (.len 28),qo 30 (.bin .sub false 29 (ci 1)),qc 31 36 [30] 1,qo 32 (.lit 5 [26,27,31]),⟨some 33,.build [.int .i64 0,.int .i64 0,.int .i64 0,.string ⟨[].toArray⟩,.slice none 0 0] [(0,1,ci 7),(4,1,32)],none,[]⟩,qo 34 (.lit 5 [33]),⟨some 35,.app 5 25 34,none,[.f 1]⟩,qm 4 35]) .skip)) (.seq (so [qm 36 0,qc 37 38 [36,ci 12] 1] (.block 0 (so [qo 39 (.bin .eql false 37 (ci 0)),qm 38 39] (.cond 38 (so [qm 40 4,qm 41 4,qo 42 (.len 41),qm 43 0,qc 44 38 [43,ci 2] 1,qo 45 (.bin .add false 42 44),qc 46 36 [45] 1,qo 47 (.lit 5 [46]),⟨some 48,.app 5 40 47,none,[.f 1]⟩,qm 2 48] .ret) (so [qo 50 (.bin .eql false 37 (ci 1)),qm 49 50] (.cond 49 (so [qm 51 4,⟨some 52,.call 35 [.c (.string ⟨[120].toArray⟩)],none,[.f 1]⟩,qo 53 (.lit 5 [52]),⟨some 54,.build [.int .i64 0,.int .i64 0,.int .i64 0,.string ⟨[].toArray⟩,.slice none 0 0] [(0,1,ci 9),(1,1,ci 6),(4,1,53)],none,[]⟩,qo 55 (.lit 5 [54]),⟨some 56,.app 5 51 55,none,[.f 1]⟩,qm 2 56] .ret) (so [qo 58 (.bin .eql false 37 (ci 2)),qm 57 58] (.cond 57 (so [qo 5 (.mv (ci 0))] (.block 1 (.loop (.seq (so [qm 59 5,qo 60 (.bin .lss false 59 (ci 8))] (.cond 60 .skip (.exit 1))) (.seq (.block 2 (.ops [qm 63 4,qm 64 4,qo 65 (.len 64),qo 66 (.bin .sub false 65 (ci 1)),qc 67 36 [66] 1,qm 68 4,qo 69 (.len 68),qo 70 (.bin .sub false 69 (ci 1)),qc 71 36 [70] 1,qm 72 4,qo 73 (.len 72),qo 74 (.bin .sub false 73 (ci 1)),qc 75 36 [74] 1,qo 76 (.lit 5 [67,71,75]),⟨some 77,.build [.int .i64 0,.int .i64 0,.int .i64 0,.string ⟨[].toArray⟩,.slice none 0 0] [(0,1,ci 7),(4,1,76)],none,[]⟩,qo 78 (.lit 5 [77]),⟨some 79,.app 5 63 78,none,[.f 1]⟩,qm 4 79])) (.ops [qm 61 5,qo 62 (.bin .add false 61 (ci 1)),qm 5 62])))))) (so [qo 81 (.bin .eql false 37 (ci 3)),qm 80 81] (.cond 80 (so [⟨some 82,.call 35 [.c (.string ⟨[99,111,109,109,111,110,32,118,97,108,117,101].toArray⟩)],none,[.f 1]⟩,qc 83 36 [ci 0] 1,qc 84 37 [ci 1] 1,qo 85 (.lit 5 [83,84]),⟨some 86,.build [.int .i64 0,.int .i64 0,.int .i64 0,.string ⟨[].toArray⟩,.slice none 0 0] [(0,1,ci 7),(4,1,85)],none,[]⟩,qo 87 (.lit 5 [82,86]),qm 2 87] .ret) .skip)))))))))) (so [qm 88 4,qm 2 88] .ret)))))
theorem zfw:look Tryz.prog 40 = some (89,m_s_l12Table,[.tm 2]):=by kernel_rfl
def m_s_Build:M:=so [qo 4 (.mv (.c (.slice none 0 0)))] (so [qo 12 (.lit 5 []),qm 5 12] (.seq (so [qo 6 (.mv (ci 0))] (.block 0 (.loop (.seq (so [qm 13 6,qm 14 0,qo 15 (.len 14),qo 16 (.bin .lss false 13 15)] (.cond 16 .skip (.exit 0))) (.seq (.block 1 (.seq (so [qm 19 0,qm 20 6,qo 21 (.ix 5 19 20),qL 22 5 21,qc 23 100 [22] 1,qo 24 (.not 23),qm 25 24,qg 26 0 25 false,qg 27 6 25 false,⟨some 28,.ix 5 26 27,some (25,false),[]⟩,⟨some 29,.load true 5 28,some (25,false),[]⟩,⟨some 30,.call 101 [29,ci 6,ci 6],some (25,false),[.f 1]⟩,qo 31 (.pick 25 (cB true) 30)] (.cond 31 (so [qo 32 (.lit 5 []),qm 4 32] .ret) .skip)) (.ops [qm 33 5,qm 34 0,qm 35 6,qo 36 (.ix 5 34 35),qL 37 5 36,qc 38 102 [37] 1,⟨some 39,.app 5 33 38,none,[.f 1]⟩,qm 5 39]))) (.ops [qm 17 6,qo 18 (.bin .add false 17 (ci 1)),qm 6 18])))))) (so [qo 40 (.lit 5 []),qm 7 40] (so [qo 41 (.lit 1 []),qm 8 41] (.seq (so [qo 9 (.mv (ci 0))] (.block 2 (.loop (.seq (so [qm 42 9,qm 43 5,qo 44 (.len 43),qo 45 (.bin .lss false 42 44),qm 46 45,qg 47 1 46 true,⟨some 48,.call 27 [47,ci 0,ci 60],some (46,true),[.f 1]⟩,qo 49 (.pick 46 48 (cB false))] (.cond 49 .skip (.exit 2))) (.seq (.block 3 (so [qm 52 5,qm 53 5,qm 54 9,qo 55 (.ix 5 53 54),qL 56 5 55,qc 57 103 [52,56] 1,qm 10 57] (.seq (so [qm 58 10,qo 59 (.bin .eql false 58 (ci 0)),qm 60 59,qg 61 7 60 false,qg 62 5 60 false,qg 63 9 60 false,⟨some 64,.ix 5 62 63,some (60,false),[]⟩,⟨some 65,.load true 5 64,some (60,false),[]⟩,⟨some 66,.call 104 [61,65],some (60,false),[.f 1]⟩,⟨some 67,.bin .gtr false 66 (ci 0),some (60,false),[]⟩,qo 68 (.pick 60 (cB true) 67)] (.cond 68 (.exit 3) .skip)) (so [qm 69 7,qo 70 (.len 69),qm 11 70] (.seq (.block 4 (.loop (.seq (so [qm 71 11,qo 72 (.bin .gtr false 71 (ci 0)),qm 73 72,qg 74 8 73 true,qg 75 11 73 true,⟨some 76,.bin .sub false 75 (ci 1),some (73,true),[]⟩,⟨some 77,.ix 1 74 76,some (73,true),[]⟩,⟨some 78,.load false 1 77,some (73,true),[]⟩,qg 79 10 73 true,⟨some 80,.bin .lss false 78 79,some (73,true),[]⟩,qg 81 80 73 true,qg 82 8 81 false,qg 83 11 81 false,⟨some 84,.bin .sub false 83 (ci 1),some (81,false),[]⟩,⟨some 85,.ix 1 82 84,some (81,false),[]⟩,⟨some 86,.load false 1 85,some (81,false),[]⟩,qg 87 10 81 false,⟨some 88,.bin .eql false 86 87,some (81,false),[]⟩,qg 89 88 81 false,qg 90 7 89 true,qg 91 11 89 true,⟨some 92,.bin .sub false 91 (ci 1),some (89,true),[]⟩,⟨some 93,.ix 5 90 92,some (89,true),[]⟩,⟨some 94,.load true 5 93,some (89,true),[]⟩,qg 95 5 89 true,qg 96 9 89 true,⟨some 97,.ix 5 95 96,some (89,true),[]⟩,⟨some 98,.load true 5 97,some (89,true),[]⟩,⟨some 99,.call 105 [94,98],some (89,true),[.f 0]⟩,⟨some 100,.bin .gtr false 99 (ci 0),some (89,true),[]⟩,⟨some 101,.pick 89 100 (cB false),some (81,false),[]⟩,⟨some 102,.pick 81 (cB true) 101,some (73,true),[]⟩,qo 103 (.pick 73 102 (cB false))] (.cond 103 .skip (.exit 4))) (.block 5 (.ops [qm 104 11,qo 105 (.bin .sub false 104 (ci 1)),qm 11 105]))))) (so [qm 107 7,qm 108 11,qo 109 (.slc 5 107 none (some 108)),qm 111 5,qm 112 9,qo 113 (.ix 5 111 112),qL 114 5 113,qo 115 (.litq 5 [114]),qm 117 7,qm 118 11,qo 119 (.slc 5 117 (some 118) none),qo 106 (.lit 5 []),qo 110 (.app 5 106 109),⟨some 116,.app 5 110 115,none,[.f 0]⟩,⟨some 120,.app 5 116 119,none,[.f 0]⟩,qm 7 120] (.ops [qm 122 8,qm 123 11,qo 124 (.slc 1 122 none (some 123)),qm 126 10,qo 127 (.litq 1 [126]),qm 129 8,qm 130 11,qo 131 (.slc 1 129 (some 130) none),qo 121 (.lit 1 []),⟨some 125,.app 1 121 124,none,[.f 0]⟩,⟨some 128,.app 1 125 127,none,[.f 0]⟩,⟨some 132,.app 1 128 131,none,[.f 0]⟩,qm 8 132]))))))) (.ops [qm 50 9,qo 51 (.bin .add false 50 (ci 1)),qm 9 51])))))) (.seq (so [qm 133 7,qo 134 (.len 133),qm 135 1,qo 136 (.bin .gtr false 134 135),qm 137 136,qg 138 1 137 true,⟨some 139,.bin .geq false 138 (ci 0),some (137,true),[]⟩,qo 140 (.pick 137 139 (cB false))] (.cond 140 (.ops [qm 141 7,qm 142 1,qo 143 (.slc 5 141 none (some 142)),qm 7 143]) .skip)) (so [qo 144 (.lit 5 []),qm 145 7,qc 146 106 [145] 1,⟨some 147,.app 5 144 146,none,[.f 1]⟩,qm 4 147] .ret)))))))
theorem lk_s_Build:look Tryz.prog 71 = some (148,m_s_Build,[.tm 4]):=by kernel_rfl
def m_s_l12Parts:M:=so [qo 1 (.box 0),qo 2 (.mv (.c (.slice none 0 0)))] (so [qL 5 5 1,qo 6 (.lit 5 [5]),qm 3 6] (.seq (so [qo 4 (.mv (ci 0))] (.block 0 (.loop (.seq (so [qm 7 4,qF 8 4 1,ql 9 1 8,qo 10 (.len 9),qo 11 (.bin .lss false 7 10)] (.cond 11 .skip (.exit 0))) (.seq (.block 1 (so [qF 14 0 1,ql 15 1 14,qo 16 (.bin .neq false 15 (ci 8)),qm 17 16,qg 18 4 17 false,⟨some 19,.bin .rem false 18 (ci 2),some (17,false),[]⟩,⟨some 20,.bin .eql false 19 (ci 1),some (17,false),[]⟩,qo 21 (.pick 17 (cB true) 20)] (.cond 21 (.ops [qm 22 3,qF 23 4 1,ql 24 1 23,qm 25 4,qo 26 (.ix 5 24 25),qL 27 5 26,qc 28 102 [27] 1,⟨some 29,.app 5 22 28,none,[.f 1]⟩,qm 3 29]) .skip))) (.ops [qm 12 4,qo 13 (.bin .add false 12 (ci 1)),qm 4 13])))))) (so [qm 30 3,qm 2 30] .ret)))
theorem zfx:look Tryz.prog 102 = some (31,m_s_l12Parts,[.tm 2]):=by kernel_rfl
def m_s_l12Worth:M:=so [qo 3 (.box 1),qo 4 (.mv (ci 0))] (so [qm 7 0,qL 8 5 3,qL 10 5 3,⟨some 9,.call 104 [7,8],none,[.f 0,3]⟩,qc 11 122 [10] 0,qm 5 9,qm 6 11] (.seq (so [qm 12 5,qo 13 (.bin .lss false 12 (ci 2)),qm 14 13,qg 15 6 14 false,⟨some 16,.bin .lss false 15 (ci 4),some (14,false),[]⟩,qo 17 (.pick 14 (cB true) 16)] (.cond 17 (so [qo 4 (.mv (ci 0))] .ret) .skip)) (so [qm 18 6,qm 19 5,qo 20 (.bin .sub false 19 (ci 1)),qo 21 (.bin .mul false 18 20),qm 4 21] .ret)))
theorem zfy:look Tryz.prog 103 = some (22,m_s_l12Worth,[.tm 4]):=by kernel_rfl
def m_s_l12Often:M:=so [qo 3 (.box 1),qo 4 (.mv (ci 0))] (so [qo 5 (.mv (ci 0))] (.seq (so [qo 6 (.mv (ci 0))] (.block 0 (.loop (.seq (so [qm 7 6,qm 8 0,qo 9 (.len 8),qo 10 (.bin .lss false 7 9)] (.cond 10 .skip (.exit 0))) (.seq (.block 1 (so [qm 13 0,qm 14 6,qo 15 (.ix 5 13 14),qL 16 5 15,qL 17 5 3,qc 18 123 [16,17] 0] (.cond 18 (.ops [qm 19 5,qo 20 (.bin .add false 19 (ci 1)),qm 5 20]) .skip))) (.ops [qm 11 6,qo 12 (.bin .add false 11 (ci 1)),qm 6 12])))))) (so [qm 21 5,qm 4 21] .ret)))
theorem zfz:look Tryz.prog 104 = some (22,m_s_l12Often,[.tm 4]):=by kernel_rfl
def m_s_CborSize:M:=so [qo 1 (.box 0),qo 2 (.mv (ci 0))] (so [qL 3 5 1,qc 4 137 [3] 1,qo 5 (.lens 4),qm 2 5] .ret)
theorem zfA:look Tryz.prog 122 = some (6,m_s_CborSize,[.tm 2]):=by kernel_rfl
def m_s_PutCbor:M:=so [qo 1 (.box 0),⟨some 2,.mv (.c (.string ⟨[].toArray⟩)),none,[]⟩] (.seq (so [qL 3 5 1,qc 4 100 [3] 1,qo 5 (.not 4)] (.cond 5 (so [⟨some 2,.mv (.c (.string ⟨[].toArray⟩)),none,[]⟩] .ret) .skip)) (so [qL 6 5 1,qc 7 140 [6] 1,qm 2 7] .ret))
theorem zgw:look Tryz.prog 137 = some (8,m_s_PutCbor,[.tm 2]):=by kernel_rfl
def m_s_l05Put:M:=so [qo 1 (.box 0),⟨some 2,.mv (.c (.string ⟨[].toArray⟩)),none,[]⟩] (so [⟨some 3,.mv (.c (.string ⟨[].toArray⟩)),none,[]⟩] (.seq (so [qF 5 0 1,ql 6 1 5] (.block 0 (so [qo 12 (.bin .eql false 6 (ci 0)),qm 11 12] (.cond 11 (so [qc 13 30 [ci 7,.c (.int .u64 22)] 1,qm 2 13] .ret) (.seq (so [qo 15 (.bin .eql false 6 (ci 1)),qm 14 15] (.cond 14 .skip (.ops [qo 16 (.bin .eql false 6 (ci 2)),qm 14 16]))) (.cond 14 (so [qF 17 0 1,ql 18 1 17,qo 19 (.bin .add false (ci 19) 18),qo 20 (.conv .u64 19),qc 21 30 [ci 7,20] 1,qm 2 21] .ret) (so [qo 23 (.bin .eql false 6 (ci 3)),qm 22 23] (.cond 22 (so [qF 24 1 1,ql 25 1 24,qc 26 141 [25] 1,qm 2 26] .ret) (so [qo 28 (.bin .eql false 6 (ci 4)),qm 27 28] (.cond 27 (so [qF 32 2 1,ql 33 1 32,qF 36 1 1,ql 37 1 36,⟨some 29,.call 30 [ci 6,.c (.int .u64 4)],none,[.f 0,32,36]⟩,⟨some 30,.call 30 [ci 4,.c (.int .u64 2)],none,[.f 0,32,36]⟩,qo 31 (.bin .add false 29 30),⟨some 34,.call 141 [33],none,[.f 0,36]⟩,qo 35 (.bin .add false 31 34),qc 38 141 [37] 0,qo 39 (.bin .add false 35 38),qm 2 39] .ret) (so [qo 41 (.bin .eql false 6 (ci 5)),qm 40 41] (.cond 40 (so [qF 42 3 1,ql 43 1 42,qo 44 (.lens 43),qo 45 (.conv .u64 44),qF 47 3 1,ql 48 1 47,⟨some 46,.call 30 [ci 3,45],none,[.f 0,47]⟩,qo 49 (.bin .add false 46 48),qm 2 49] .ret) (so [qo 51 (.bin .eql false 6 (ci 6)),qm 50 51] (.cond 50 (so [qF 52 3 1,ql 53 1 52,qo 54 (.lens 53),qo 55 (.conv .u64 54),qF 57 3 1,ql 58 1 57,⟨some 56,.call 30 [ci 2,55],none,[.f 0,57]⟩,qo 59 (.bin .add false 56 58),qm 2 59] .ret) (so [qo 61 (.bin .eql false 6 (ci 7)),qm 60 61] (.cond 60 (.ops [qF 62 4 1,ql 63 1 62,qo 64 (.len 63),qo 65 (.conv .u64 64),qc 66 30 [ci 4,65] 1,qm 3 66]) (so [qo 68 (.bin .eql false 6 (ci 8)),qm 67 68] (.cond 67 (.ops [qF 69 4 1,ql 70 1 69,qo 71 (.len 70),qo 72 (.bin .quo false 71 (ci 2)),qo 73 (.conv .u64 72),qc 74 30 [ci 5,73] 1,qm 3 74]) (.ops [qF 7 1 1,ql 8 1 7,qo 9 (.conv .u64 8),qc 10 30 [ci 6,9] 1,qm 3 10]))))))))))))))))))) (.seq (so [qo 4 (.mv (ci 0))] (.block 1 (.loop (.seq (so [qm 75 4,qF 76 4 1,ql 77 1 76,qo 78 (.len 77),qo 79 (.bin .lss false 75 78)] (.cond 79 .skip (.exit 1))) (.seq (.block 2 (.ops [qm 82 3,qF 83 4 1,ql 84 1 83,qm 85 4,qo 86 (.ix 5 84 85),qL 87 5 86,qc 88 140 [87] 1,qo 89 (.bin .add false 82 88),qm 3 89])) (.ops [qm 80 4,qo 81 (.bin .add false 80 (ci 1)),qm 4 81])))))) (so [qm 90 3,qm 2 90] .ret))))
theorem zhy:look Tryz.prog 140 = some (91,m_s_l05Put,[.tm 2]):=by kernel_rfl
def m_s_l05Num:M:=so [⟨some 2,.mv (.c (.string ⟨[].toArray⟩)),none,[]⟩] (.seq (so [qm 3 0,qo 4 (.bin .geq false 3 (ci 0))] (.cond 4 (so [qm 5 0,qo 6 (.conv .u64 5),qc 7 30 [ci 0,6] 1,qm 2 7] .ret) .skip)) (so [qm 8 0,qo 9 (.bin .sub false (ci (-1)) 8),qo 10 (.conv .u64 9),qc 11 30 [ci 1,10] 1,qm 2 11] .ret))
theorem zhz:look Tryz.prog 141 = some (12,m_s_l05Num,[.tm 2]):=by kernel_rfl
end
section
def m_s_l01In:M:=so [qo 6 (.mv (cB false))] (so [qm 7 0,qm 8 1,qo 9 (.bin .geq false 7 8),qm 10 9,qg 11 0 10 true,qg 12 2 10 true,⟨some 13,.bin .leq false 11 12,some (10,true),[]⟩,qo 14 (.pick 10 13 (cB false)),qm 6 14] .ret)
theorem lk_s_l01In:look Tryz.prog 27 = some (15,m_s_l01In,[.tm 6]):=by kernel_rfl
def m_s_PutMsg:M:=so [qo 1 (.box 0),⟨some 2,.mv (.c (.string ⟨[].toArray⟩)),none,[]⟩] (.seq (so [qL 3 5 1,qc 4 61 [3] 1,qo 5 (.not 4)] (.cond 5 (so [⟨some 2,.mv (.c (.string ⟨[].toArray⟩)),none,[]⟩] .ret) .skip)) (so [qL 6 5 1,qc 7 64 [6] 1,qm 2 7] .ret))
theorem zhA:look Tryz.prog 31 = some (8,m_s_PutMsg,[.tm 2]):=by kernel_rfl
def m_s_l06Put:M:=so [qo 1 (.box 0),⟨some 2,.mv (.c (.string ⟨[].toArray⟩)),none,[]⟩] (so [⟨some 3,.mv (.c (.string ⟨[].toArray⟩)),none,[]⟩] (.seq (so [qF 5 0 1,ql 6 1 5] (.block 0 (.seq (so [qo 12 (.bin .eql false 6 (ci 0)),qm 11 12] (.cond 11 .skip (so [qo 13 (.bin .eql false 6 (ci 1)),qm 11 13] (.cond 11 .skip (.ops [qo 14 (.bin .eql false 6 (ci 2)),qm 11 14]))))) (.cond 11 (so [⟨some 15,.lit 1 [.c (.string ⟨[192].toArray⟩),.c (.string ⟨[194].toArray⟩),.c (.string ⟨[195].toArray⟩)],none,[]⟩,qF 16 0 1,ql 17 1 16,qo 18 (.ix 1 15 17),ql 19 1 18,qm 2 19] .ret) (so [qo 21 (.bin .eql false 6 (ci 3)),qm 20 21] (.cond 20 (so [qF 22 1 1,ql 23 1 22,qc 24 93 [23] 1,qm 2 24] .ret) (so [qo 26 (.bin .eql false 6 (ci 4)),qm 25 26] (.cond 25 (so [qF 27 2 1,ql 28 1 27,qF 31 1 1,ql 32 1 31,⟨some 29,.call 94 [28,ci 1],none,[.f 0,31]⟩,⟨some 30,.bin .add false (.c (.string ⟨[199,9,4].toArray⟩)) 29,none,[]⟩,qc 33 94 [32,ci 8] 0,qo 34 (.bin .add false 30 33),qm 2 34] .ret) (so [qo 36 (.bin .eql false 6 (ci 5)),qm 35 36] (.cond 35 (so [qF 37 3 1,ql 38 1 37,qo 39 (.lens 38),qF 41 3 1,ql 42 1 41,⟨some 40,.call 95 [39,ci 32,ci 160,ci 217,ci 218],none,[.f 0,41]⟩,qo 43 (.bin .add false 40 42),qm 2 43] .ret) (so [qo 45 (.bin .eql false 6 (ci 6)),qm 44 45] (.cond 44 (so [qF 46 3 1,ql 47 1 46,qo 48 (.lens 47),qF 50 3 1,ql 51 1 50,⟨some 49,.call 95 [48,ci 0,ci 0,ci 196,ci 197],none,[.f 0,50]⟩,qo 52 (.bin .add false 49 51),qm 2 52] .ret) (so [qo 54 (.bin .eql false 6 (ci 7)),qm 53 54] (.cond 53 (.ops [qF 55 4 1,ql 56 1 55,qo 57 (.len 56),qc 58 95 [57,ci 16,ci 144,ci 0,ci 220] 1,qm 3 58]) (so [qo 60 (.bin .eql false 6 (ci 8)),qm 59 60] (.cond 59 (.ops [qF 61 4 1,ql 62 1 61,qo 63 (.len 62),qo 64 (.bin .quo false 63 (ci 2)),qc 65 95 [64,ci 16,ci 128,ci 0,ci 222] 1,qm 3 65]) (.ops [qF 7 1 1,ql 8 1 7,qc 9 94 [8,ci 4] 1,⟨some 10,.bin .add false (.c (.string ⟨[199,4,6].toArray⟩)) 9,none,[]⟩,qm 3 10]))))))))))))))))) (.seq (so [qo 4 (.mv (ci 0))] (.block 1 (.loop (.seq (so [qm 66 4,qF 67 4 1,ql 68 1 67,qo 69 (.len 68),qo 70 (.bin .lss false 66 69)] (.cond 70 .skip (.exit 1))) (.seq (.block 2 (.ops [qm 73 3,qF 74 4 1,ql 75 1 74,qm 76 4,qo 77 (.ix 5 75 76),qL 78 5 77,qc 79 64 [78] 1,qo 80 (.bin .add false 73 79),qm 3 80])) (.ops [qm 71 4,qo 72 (.bin .add false 71 (ci 1)),qm 4 72])))))) (so [qm 81 3,qm 2 81] .ret))))
theorem zhB:look Tryz.prog 64 = some (82,m_s_l06Put,[.tm 2]):=by kernel_rfl
def m_s_l06Int:M:=so [⟨some 2,.mv (.c (.string ⟨[].toArray⟩)),none,[]⟩] (.seq (.block 0 (so [qm 4 0,qc 5 27 [4,ci (-32),ci 127] 1,qm 3 5] (.cond 3 (so [qm 6 0,qc 7 94 [6,ci 1] 1,qm 2 7] .ret) (so [qm 9 0,qc 10 27 [9,ci 0,ci 255] 1,qm 8 10] (.cond 8 (so [qm 11 0,qc 12 94 [11,ci 1] 1,⟨some 13,.bin .add false (.c (.string ⟨[204].toArray⟩)) 12,none,[]⟩,qm 2 13] .ret) (so [qm 15 0,qc 16 27 [15,ci 0,ci 65535] 1,qm 14 16] (.cond 14 (so [qm 17 0,qc 18 94 [17,ci 2] 1,⟨some 19,.bin .add false (.c (.string ⟨[205].toArray⟩)) 18,none,[]⟩,qm 2 19] .ret) (so [qm 21 0,qc 22 27 [21,ci 0,ci 4294967295] 1,qm 20 22] (.cond 20 (so [qm 23 0,qc 24 94 [23,ci 4] 1,⟨some 25,.bin .add false (.c (.string ⟨[206].toArray⟩)) 24,none,[]⟩,qm 2 25] .ret) (so [qm 27 0,qo 28 (.bin .geq false 27 (ci 0)),qm 26 28] (.cond 26 (so [qm 29 0,qc 30 94 [29,ci 8] 1,⟨some 31,.bin .add false (.c (.string ⟨[207].toArray⟩)) 30,none,[]⟩,qm 2 31] .ret) (so [qm 33 0,qo 34 (.bin .geq false 33 (ci (-128))),qm 32 34] (.cond 32 (so [qm 35 0,qc 36 94 [35,ci 1] 1,⟨some 37,.bin .add false (.c (.string ⟨[208].toArray⟩)) 36,none,[]⟩,qm 2 37] .ret) (so [qm 39 0,qo 40 (.bin .geq false 39 (ci (-32768))),qm 38 40] (.cond 38 (so [qm 41 0,qc 42 94 [41,ci 2] 1,⟨some 43,.bin .add false (.c (.string ⟨[209].toArray⟩)) 42,none,[]⟩,qm 2 43] .ret) (so [qm 45 0,qo 46 (.bin .geq false 45 (ci (-2147483648))),qm 44 46] (.cond 44 (so [qm 47 0,qc 48 94 [47,ci 4] 1,⟨some 49,.bin .add false (.c (.string ⟨[210].toArray⟩)) 48,none,[]⟩,qm 2 49] .ret) .skip))))))))))))))))) (so [qm 50 0,qc 51 94 [50,ci 8] 1,⟨some 52,.bin .add false (.c (.string ⟨[211].toArray⟩)) 51,none,[]⟩,qm 2 52] .ret))
theorem zhC:look Tryz.prog 93 = some (53,m_s_l06Int,[.tm 2]):=by kernel_rfl
def m_s_PutWide:M:=so [⟨some 4,.mv (.c (.string ⟨[].toArray⟩)),none,[]⟩] (.seq (so [qm 5 1,qc 6 27 [5,ci 1,ci 8] 1,qo 7 (.not 6)] (.cond 7 (so [⟨some 4,.mv (.c (.string ⟨[].toArray⟩)),none,[]⟩] .ret) .skip)) (so [qm 8 0,qo 9 (.conv .u64 8),qm 10 1,qc 11 63 [9,10] 1,qm 4 11] .ret))
theorem zgx:look Tryz.prog 94 = some (12,m_s_PutWide,[.tm 4]):=by kernel_rfl
def m_s_l06Many:M:=so [⟨some 10,.mv (.c (.string ⟨[].toArray⟩)),none,[]⟩] (.seq (.block 0 (so [qm 12 0,qm 13 1,qo 14 (.bin .lss false 12 13),qm 11 14] (.cond 11 (so [qm 15 2,qm 16 0,qo 17 (.bin .add false 15 16),qc 18 94 [17,ci 1] 1,qm 10 18] .ret) (so [qm 20 0,qo 21 (.bin .lss false 20 (ci 256)),qm 22 21,qg 23 3 22 true,⟨some 24,.bin .gtr false 23 (ci 0),some (22,true),[]⟩,qo 25 (.pick 22 24 (cB false)),qm 19 25] (.cond 19 (so [qm 26 3,qc 27 94 [26,ci 1] 1,qm 28 0,qc 29 94 [28,ci 1] 1,qo 30 (.bin .add false 27 29),qm 10 30] .ret) .skip))))) (so [qm 31 4,qc 32 94 [31,ci 1] 1,qm 33 0,qc 34 94 [33,ci 2] 1,qo 35 (.bin .add false 32 34),qm 10 35] .ret))
theorem zgy:look Tryz.prog 95 = some (36,m_s_l06Many,[.tm 10]):=by kernel_rfl
def m_s_SignOf:M:=so [qo 4 (.mv (ci 0))] (.seq (so [qm 7 1,qc 8 27 [7,ci 1,ci 7] 1,qo 9 (.not 8)] (.cond 9 (so [qm 10 0,qm 4 10] .ret) .skip)) (so [qo 5 (.mv (ci 1))] (.seq (so [qo 6 (.mv (ci 0))] (.block 0 (.loop (.seq (so [qm 11 6,qm 12 1,qo 13 (.bin .lss false 11 12)] (.cond 13 .skip (.exit 0))) (.seq (.block 1 (.ops [qm 16 5,qo 17 (.bin .mul false 16 (ci 256)),qm 5 17])) (.ops [qm 14 6,qo 15 (.bin .add false 14 (ci 1)),qm 6 15])))))) (so [qm 18 0,qm 19 5,qo 20 (.bin .sub false 19 (ci 1)),qo 21 (.bin .and false 18 20),qm 0 21] (.seq (so [qm 22 0,qm 23 5,qo 24 (.bin .quo false 23 (ci 2)),qo 25 (.bin .geq false 22 24)] (.cond 25 (so [qm 26 0,qm 27 5,qo 28 (.bin .sub false 26 27),qm 4 28] .ret) .skip)) (so [qm 29 0,qm 4 29] .ret))))))
theorem zhD:look Tryz.prog 130 = some (30,m_s_SignOf,[.tm 4]):=by kernel_rfl
end
section
def msgInt (n:Int):L8 :=
 if -32 <= n /\ n <= 127 then be 1 (lo64 n)
 else if 0 <= n /\ n <= 255 then [204] ++ be 1 (lo64 n)
 else if 0 <= n /\ n <= 65535 then [205] ++ be 2 (lo64 n)
 else if 0 <= n /\ n <= 4294967295 then [206] ++ be 4 (lo64 n)
 else if n ≥ 0 then [207] ++ be 8 (lo64 n)
 else if n ≥ -128 then [208] ++ be 1 (lo64 n)
 else if n ≥ -32768 then [209] ++ be 2 (lo64 n)
 else if n ≥ -2147483648 then [210] ++ be 4 (lo64 n)
 else [211] ++ be 8 (lo64 n)
theorem msgInt_len (n:Int):(msgInt n).length <= 9:=by
 unfold msgInt
 repeat' split
 all_goals simp [zag]
def msgMany (n least low one two:Int):L8 :=
 if n < least then be 1 (lo64 (low + n))
 else if n < 256 /\ one > 0 then be 1 (lo64 one) ++ be 1 (lo64 n)
 else be 1 (lo64 two) ++ be 2 (lo64 n)
theorem zbx (n a b c d:Int):(msgMany n a b c d).length <= 3:=by
 unfold msgMany
 repeat' split
 all_goals simp [zag]
def msgHd (v:V):L8 :=
 if v.kind = 0 then [192] else if v.kind = 1 then [194] else if v.kind = 2 then [195]
 else if v.kind = 3 then msgInt v.num
 else if v.kind = 4 then [199,9,4] ++ be 1 (lo64 v.exp) ++ be 8 (lo64 v.num)
 else if v.kind = 5 then msgMany v.text.length 32 160 217 218 ++ v.text
 else if v.kind = 6 then msgMany v.text.length 0 0 196 197 ++ v.text
 else if v.kind = 7 then msgMany v.kids.length 16 144 0 220
 else if v.kind = 8 then msgMany ((v.kids.length / 2:Nat):Int) 16 128 0 222
 else [199,4,6] ++ be 4 (lo64 v.num)
theorem msgHd_len (v:V):(msgHd v).length <= 12 + v.text.length:=by
 have h1:=msgInt_len v.num;have h2:=zbx v.text.length 32 160 217 218;have h3:=zbx v.text.length 0 0 196 197;have h4:=zbx v.kids.length 16 144 0 220;have h5:=zbx ((v.kids.length / 2:Nat):Int) 16 128 0 222;unfold msgHd;by_cases k0:v.kind = 0
 ·rw [if_pos k0]; simp only [length_cons,length_nil]; omega
 rw [if_neg k0];by_cases k1:v.kind = 1
 ·rw [if_pos k1]; simp only [length_cons,length_nil]; omega
 rw [if_neg k1];by_cases k2:v.kind = 2
 ·rw [if_pos k2]; simp only [length_cons,length_nil]; omega
 rw [if_neg k2];by_cases k3:v.kind = 3
 ·rw [if_pos k3]; omega
 rw [if_neg k3];by_cases k4:v.kind = 4
 ·rw [if_pos k4]; simp only [zag,length_append,length_cons,length_nil]; omega
 rw [if_neg k4];by_cases k5:v.kind = 5
 ·rw [if_pos k5,length_append]; omega
 rw [if_neg k5];by_cases k6:v.kind = 6
 ·rw [if_pos k6,length_append]; omega
 rw [if_neg k6];by_cases k7:v.kind = 7
 ·rw [if_pos k7]; omega
 rw [if_neg k7];by_cases k8:v.kind = 8
 ·rw [if_pos k8]; omega
 rw [if_neg k8]; simp only [zag,length_append,length_cons,length_nil]; omega
mutual
def msg:V -> L8
 | .mk k n e s kids => msgHd (.mk k n e s kids) ++ msgs kids
def msgs:List V -> L8
 | [] => []
 | v :: vs => msg v ++ msgs vs
end
theorem zes (v:V):msg v = msgHd v ++ msgs v.kids:=by obtain ⟨k,n,e,s,kids⟩:=v; rw [msg]; rfl
theorem zde:∀ (vs:List V) (v:V),msgs (vs ++ [v]) = msgs vs ++ msg v
 | [],v => by simp [msgs]
 | x :: xs,v => by simp only [cons_append,msgs,zde xs v,append_assoc]
theorem zgz {vs:List V} {j:Nat} (h:j < vs.length):msgs (vs.take (j + 1)) = msgs (vs.take j) ++ msg vs[j]:=by
 rw [take_succ_eq_append_getElem h,zde]
mutual
theorem zhE:∀ v:V,(msg v).length <= 12 * v.nodes + v.bulk
 | .mk k n e s kids => by
  have h1:=msgHd_len (.mk k n e s kids);have h2:=msgs_len kids;rw [msg,length_append];simp only [V.text] at h1;simp only [V.nodes,V.bulk]; omega
theorem msgs_len:∀ vs:List V,(msgs vs).length <= 12 * V.nodess vs + V.bulks vs
 | [] => by simp [msgs]
 | v :: vs => by
  have h1:=zhE v; have h2:=msgs_len vs
  rw [msgs,length_append];simp only [V.nodess,V.bulks]; omega
end
end
section
theorem tyB:ElemTy Tryz.prog 22 5 1 1:=ElemTy.mk' (z:=.int .u8 0) Tryz.underlying22 (by kernel_rfl) rfl (by decide)
theorem l05Big_any (n k:Nat) (w:World) (hk:k <= 8) (hn:n < 18446744073709551616) :
  Calls Tryz.prog 63 #[.int .u64 n,.int .i64 k] w fun e w' => e = .returned (.string ⟨(be k n).toArray⟩) /\ Below w.heap.size w w':=by
 go_enter Tryz.func63,Tryz.ntmps63
 go_wp2
 go_loopw [0,5,6] (fun x v i wr => ∃ j:Nat,j <= k /\ i = .int .i64 j /\ x = .int .u64 (n / 256 ^ j:Nat) /\ OwnB wr w.heap.size 5 v (be j n) /\ v ≠ .slice none 0 0 /\ Below w.heap.size w wr) (fun _ _ i _ => k - (intOf i).toNat)
 case atStart => exact ⟨0,Nat.zero_le _,rfl,by simp,OwnB.start,by simp,(Below.refl _ _).alloc lR _⟩
 case round =>
  obtain ⟨j,hj,rfl,rfl,hown,hnn,hbel⟩:=hrel;obtain ⟨g,c,rfl,hg⟩:=hown.form' hnn;have hsz:=hbel.size;have hcs:=hown.cells g rfl;by_cases hlt:j < k
  ·have HS:=Lib.hid (be_cons j n)
   have HD:=Lib.hid (Nat.div_div_eq_div_mul n (256 ^ j) 256);generalize hm:n / 256 ^ j = m at *;have HM:=Lib.hid hm; clear hm
   have hbv:=byte_val m;have hlt64:m < 18446744073709551616:=by rw [<- HM.out]; exact Nat.lt_of_le_of_lt (Nat.div_le_self _ _) hn
   go_wp2_with (at_builtin; refine wp_appB tyB rfl rfl w.heap.size (OwnB.one _ hsz) rfl ⟨g,0,none⟩ c rfl ((hown.alloc _).cells g rfl) (by simp [zag]; omega) (by simp; omega) ?_)
   intro v' w1 hown1 hgr hnn1;have hbel1:=OwnB.below (OwnB.one (byteOf m) hsz) (hbel.alloc hsz _) hgr (by simp; omega);clear hcs hown hbel;go_wp2;go_roundw
   case rel => exact ⟨j + 1,by omega,by go_num,by rw [Nat.pow_succ,<- HD.out]; go_num,by rw [HS.out]; exact hown1,hnn1,hbel1⟩
   case measure => simp [intOf] <;> omega
  ·obtain rfl:j = k:=by omega
   have hstr:=hown.str (P:=Tryz.prog) 22 Tryz.underlying22 Tryz.underlying5 9 Tryz.underlying9;simp only [zag] at hstr;go_wp2;go_ret;exact ⟨rfl,hbel⟩
theorem zhF (n:Int) (k:Nat) (w:World) (hk:1 <= k /\ k <= 8) (hn:-9223372036854775808 <= n /\ n <= 9223372036854775807) :
  Calls Tryz.prog 77 #[.int .i64 n,.int .i64 k] w fun e w' => e = .returned (.string ⟨(be k (lo64 n)).toArray⟩) /\ Below w.heap.size w w':=by
 obtain ⟨hk1,hk2⟩:=hk;obtain ⟨hn1,hn2⟩:=hn;have hin:inR k 1 8 = true:=zaM (by omega)
 go_enter Tryz.func77,Tryz.ntmps77
 go_wp2_with (go_at_call 54; refine (za2 _ _ _ _).mono ?_; rintro e w' ⟨rfl,rfl⟩)
 go_loopw [5,6] (fun v i wr => ∃ j q:Nat,j + q = k /\ i = .int .i64 ((q:Int) - 1) /\ OwnB wr w.heap.size 5 v (be j (lo64 n / 256 ^ q)) /\ v ≠ .slice none 0 0 /\ Below w.heap.size w wr) (fun _ i _ => (intOf i + 1).toNat)
 case atStart => exact ⟨0,k,by omega,rfl,OwnB.start,by simp,(Below.refl _ _).alloc lR _⟩
 case round =>
  obtain ⟨j,q,hjq,rfl,hown,hnn,hbel⟩:=hrel;obtain ⟨g,c,rfl,hg⟩:=hown.form' hnn;have hsz:=hbel.size;by_cases hlt:0 < q
  ·obtain ⟨q,rfl⟩:∃ p,q = p + 1:=⟨q - 1,by omega⟩
   rw [show ((q + 1:Nat):Int) - 1 = q by omega];have hq8:q <= 7:=by omega
   have hbv:n / 2 ^ (8 * q) % 256 = ((byteOf (lo64 n / 256 ^ q)).toNat:Nat):=wide_byte n q hq8 hn1 hn2;have HS:=Lib.hid (be_step (lo64 n) j q)
   go_wp2_with (at_builtin; refine wp_appB (r:=[byteOf (lo64 n / 256 ^ q)]) tyB rfl rfl w.heap.size (hown.alloc _) rfl ⟨wr.heap.size,0,none⟩ 1 rfl (cell_one_new _ _ _) (by simp [zag]; omega) (by simp; omega) ?_)
   intro v' w1 hown1 hgr hnn1;have hbel1:=OwnB.below (hown.alloc _) (hbel.alloc hsz _) hgr (by simp; omega);have hnn2:¬ v' = .slice none 0 0:=fun h => by simpa using hnn1 h
   clear hown hbel hnn1;go_wp2;go_roundw
   case rel => exact ⟨j + 1,q,by omega,rfl,by rw [HS.out]; exact hown1,hnn2,hbel1⟩
   case measure => simp [intOf]
  ·obtain rfl:q = 0:=by omega
   obtain rfl:j = k:=by omega
   simp only [Nat.pow_zero,Nat.div_one] at hown;have hstr:=hown.str (P:=Tryz.prog) 22 Tryz.underlying22 Tryz.underlying5 9 Tryz.underlying9;simp only [zag] at hstr;go_wp2;go_ret;exact ⟨rfl,hbel⟩
theorem l05Big_i (n k:Int) (w:World) (hk:0 <= k /\ k <= 8) (hn:0 <= n /\ n <= 18446744073709551615) :
  Calls Tryz.prog 63 #[.int .u64 n,.int .i64 k] w fun e w' => e = .returned (.string ⟨(be k.toNat n.toNat).toArray⟩) /\ Below w.heap.size w w':=by
 obtain ⟨n,rfl⟩:=Int.eq_ofNat_of_zero_le hn.1;obtain ⟨k,rfl⟩:=Int.eq_ofNat_of_zero_le hk.1;exact l05Big_any n k w (by omega) (by omega)
theorem zdQ (m n:Int) (w:World) (hm:0 <= m /\ m <= 7) (hn:0 <= n /\ n <= 18446744073709551615) :
  Calls Tryz.prog 30 #[.int .i64 m,.int .u64 n] w fun e w' => e = .returned (.string ⟨(hd m.toNat n.toNat).toArray⟩) /\ Below w.heap.size w w':=by
 have hin:inR m 0 7 = true:=zaM hm;obtain ⟨hm1,hm2⟩:=hm;obtain ⟨hn1,hn2⟩:=hn
 go_enter Tryz.func30,Tryz.ntmps30
 go_wp2_with (first | (go_at_call 27; refine (zaT _ _ _ _).mono ?_; rintro e w' ⟨rfl,rfl⟩) | (go_at_call 63; refine (l05Big_i _ _ _ (by omega) (by omega)).mono ?_; rintro e w' ⟨rfl,hb⟩))
 all_goals
  go_ret;refine ⟨zch ?_,by first | assumption | exact zaB (by assumption) (by assumption) lR⟩;unfold hd
  repeat (first | rw [if_pos (by omega)] | rw [if_neg (by omega)])
  first | exact be_eq (by omega) | exact zf9 (be_eq (by omega)) (be_eq (by omega))
theorem zgA (n k:Int) (w:World) (hk:1 <= k /\ k <= 8) (hn:-9223372036854775808 <= n /\ n <= 9223372036854775807) :
  Calls Tryz.prog 77 #[.int .i64 n,.int .i64 k] w fun e w' => e = .returned (.string ⟨(be k.toNat (lo64 n)).toArray⟩) /\ Below w.heap.size w w':=by
 obtain ⟨k,rfl⟩:=Int.eq_ofNat_of_zero_le (show 0 <= k by omega);exact zhF n k w (by omega) hn
theorem putWide_w (n k:Int) (w:World) (hk:1 <= k /\ k <= 8) (hn:0 <= n /\ n <= 18446744073709551615) :
  Calls Tryz.prog 77 #[.int .i64 (IntKind.i64.wrap n),.int .i64 k] w fun e w' => e = .returned (.string ⟨(be k.toNat n.toNat).toArray⟩) /\ Below w.heap.size w w':=by
 have:=zgA (IntKind.i64.wrap n) k w hk (wrap_bd n)
 rwa [lo64_wrap,lo64_of n hn] at this
theorem zdR (m n:Int) (w:World) (hm:0 <= m /\ m <= 7) (hn:0 <= n /\ n <= 18446744073709551615) :
  Calls Tryz.prog 48 #[.int .i64 m,.int .u64 n] w fun e w' => e = .returned (.string ⟨(hd m.toNat n.toNat).toArray⟩) /\ Below w.heap.size w w':=by
 have hin:inR m 0 7 = true:=zaM hm;obtain ⟨hm1,hm2⟩:=hm;obtain ⟨hn1,hn2⟩:=hn;have hcv:=fun b c w => conv1 (P:=Tryz.prog) Tryz.underlying22 Tryz.underlying5 Tryz.underlying9 b c w
 go_enter Tryz.func48,Tryz.ntmps48
 go_wp2_with (go_at_call 54; refine (za2 _ _ _ _).mono ?_; rintro e w' ⟨rfl,rfl⟩)
 ·have hlt:n < 24:=by assumption
  go_ret;refine ⟨zch ?_,(Below.refl _ _).alloc lR _⟩;rw [be1_plain m n ⟨hm1,hm2⟩ hn1,hd,if_pos (by omega)]
 all_goals
  go_region_with (go_at_call 77; refine (putWide_w n _ _ (by decide) ⟨hn1,hn2⟩).mono ?_; rintro e w' ⟨rfl,hb⟩; obtain ⟨hc,hf⟩:=zbF hb)
 all_goals
  go_wp2;go_ret;refine ⟨zch ?_,?_⟩
  ·unfold hd
   repeat (first | rw [if_pos (by omega)] | rw [if_neg (by omega)])
   first | exact zf9 (zd1 m 24 ⟨hm1,hm2⟩ (by decide)) rfl | exact zf9 (zd1 m 25 ⟨hm1,hm2⟩ (by decide)) rfl | exact zf9 (zd1 m 26 ⟨hm1,hm2⟩ (by decide)) rfl | exact zf9 (zd1 m 27 ⟨hm1,hm2⟩ (by decide)) rfl
  ·first | exact (((Below.refl _ _).alloc lR _).drew.trans (hb.mono (by simp))) | exact ((Below.refl w.heap.size w).drew.trans hb).alloc hb.size _
end
section
variable {T:World -> Prop} {hT:Low ngl T}
theorem zbV {C:Cx} {W:World} {k:IntKind} {n:Int} {y:Value} (h:RpV C W (.d (.v (.int k n))) y):y = .int k n:=by
 cases h with
 | d _ _ h => cases h; rfl
theorem zet (x a b:Int):FnV (env T hT) 27 [.d (pI x),.d (pI a),.d (pI b)] (.d (pB (decide (a <= x /\ x <= b)))):=by
 refine zaW (zaj lk_s_l01In) (by show 3 <= 15; decide) fun B hB => ?_
 unfold m_s_l01In;refine mO ?_;refine po_q rfl rfl ?_;refine zaa ?_;refine mO ?_
 iterate 2 (refine po_q rfl rfl ?_)
 refine po_b rfl rfl (fun b1 hb1 => ?_);refine po_q rfl rfl ?_
 cases b1
 ·refine mZ ?_
  iterate 2 (refine po_q rfl rfl ?_)
  refine zaa ?_;refine zae ⟨.inr rfl,_,rfl,?_⟩;have h1:¬ x ≥ a:=of_decide_eq_false hb1.symm;rw [decide_eq_false (by omega)]; rfl
 ·iterate 2 (refine po_q rfl rfl ?_)
  refine po_b rfl rfl (fun b2 hb2 => ?_)
  iterate 2 (refine po_q rfl rfl ?_)
  refine zaa ?_;refine zae ⟨.inr rfl,_,rfl,?_⟩;have h1:x ≥ a:=of_decide_eq_true hb1.symm;have e:decide (a <= x /\ x <= b) = b2:=by rw [hb2]; exact decide_eq_decide.2 ⟨fun h => h.2,fun h => ⟨h1,h⟩⟩
  rw [e]; rfl
theorem big_fn (n:Int) (k:Int) (hk:0 <= k /\ k <= 8) (hn:0 <= n /\ n <= 18446744073709551615):FnV (env T hT) 63 [.d (.v (.int .u64 n)),.d (pI k)] (.d (pS (be k.toNat n.toNat))):=by
 refine FnV.old rfl fun w C vs hF _ _ hlen hv => ?_
 match vs,hlen with
 | [a,b],_ =>
  have h1:=zbV (hv 0 _ _ rfl rfl); have h2:=zbV (hv 1 _ _ rfl rfl)
  subst h1; subst h2
  exact l05Big_i n k w hk hn
theorem zhG (n k:Int) (hk:1 <= k /\ k <= 8):FnV (env T hT) 94 [.d (pI n),.d (pI k)] (.d (pS (be k.toNat (lo64 n)))):=by
 refine zaW (zaj zgx) (by show 2 <= 12; decide) fun B hB => ?_
 unfold m_s_PutWide;refine mO ?_;refine po_q rfl rfl ?_;refine zaa ?_;refine mM ?_;refine po_q rfl rfl ?_;refine zad (args:=[.d (pI k),.d (pI 1),.d (pI 8)]) rfl (zet k 1 8) ?_;rw [decide_eq_true hk];refine po_q rfl rfl ?_;refine zaa ?_;refine mwF ?_;refine zai ?_;refine mO ?_;refine po_q rfl rfl ?_;have hw:IntKind.u64.wrap n = (lo64 n:Int):=by rw [IntKind.wrap_u64]; unfold lo64; omega
 have hlt:=lo64_lt n;refine po_q (v:=.d (.v (.int .u64 (lo64 n:Int)))) rfl (by show some (PV.d (.v (.int .u64 (IntKind.u64.wrap n)))) = _; rw [hw]) ?_;refine po_q rfl rfl ?_;refine zad (args:=[.d (.v (.int .u64 (lo64 n:Int))),.d (pI k)]) rfl (big_fn _ k (by omega) (by omega)) ?_;refine po_q rfl rfl ?_;refine zaa ?_;exact mR
theorem msgInt_fn (n:Int):FnV (env T hT) 93 [.d (pI n)] (.d (pS (msgInt n))):=by
 have hwide:=fun k hk => zhG (T:=T) (hT:=hT) n k hk
 refine zaW (zaj zhC) (by show 1 <= 53; decide) fun B hB => ?_
 unfold m_s_l06Int msgInt;refine mO ?_;refine po_q rfl rfl ?_;refine zaa ?_;refine zak (zab (zak (zaf ?_)));refine po_q rfl rfl ?_;refine zad (args:=[.d (pI n),.d (pI (-32)),.d (pI 127)]) rfl (zet n (-32) 127) ?_;refine po_q rfl rfl ?_;refine zaa ?_;refine zaU rfl (fun hc => ?_) (fun hc => ?_)
 ·rw [if_pos (of_decide_eq_true hc)]
  refine mO ?_;refine po_q rfl rfl ?_;refine zad (args:=[.d (pI n),.d (pI 1)]) rfl (hwide 1 (by omega)) ?_;refine po_q rfl rfl ?_;refine zaa ?_;exact mR
 rw [if_neg (of_decide_eq_false hc)];refine mO ?_;refine po_q rfl rfl ?_;refine zad (args:=[.d (pI n),.d (pI 0),.d (pI 255)]) rfl (zet n 0 255) ?_;refine po_q rfl rfl ?_;refine zaa ?_;refine zaU rfl (fun hc => ?_) (fun hc => ?_)
 ·rw [if_pos (of_decide_eq_true hc)]
  refine mO ?_;refine po_q rfl rfl ?_;refine zad (args:=[.d (pI n),.d (pI 1)]) rfl (hwide 1 (by omega)) ?_;refine zax (la:=[204]) rfl rfl rfl (by rw [zag]; simp) ?_;refine po_q rfl rfl ?_;refine zaa ?_;exact mR
 rw [if_neg (of_decide_eq_false hc)];refine zcl (fun s => has s.tm [(0,.d (pI n))]) ⟨rfl,trivial⟩ (fun tm bx nt live ht => ?_);obtain ⟨tm0,rfl⟩:=zac ht;refine mO ?_;refine po_q rfl rfl ?_;refine zad (args:=[.d (pI n),.d (pI 0),.d (pI 65535)]) rfl (zet n 0 65535) ?_;refine po_q rfl rfl ?_;refine zaa ?_;refine zaU rfl (fun hc => ?_) (fun hc => ?_)
 ·rw [if_pos (of_decide_eq_true hc)]
  refine mO ?_;refine po_q rfl rfl ?_;refine zad (args:=[.d (pI n),.d (pI 2)]) rfl (hwide 2 (by omega)) ?_;refine zax (la:=[205]) rfl rfl rfl (by rw [zag]; simp) ?_;refine po_q rfl rfl ?_;refine zaa ?_;exact mR
 rw [if_neg (of_decide_eq_false hc)];refine mO ?_;refine po_q rfl rfl ?_;refine zad (args:=[.d (pI n),.d (pI 0),.d (pI 4294967295)]) rfl (zet n 0 4294967295) ?_;refine po_q rfl rfl ?_;refine zaa ?_;refine zaU rfl (fun hc => ?_) (fun hc => ?_)
 ·rw [if_pos (of_decide_eq_true hc)]
  refine mO ?_;refine po_q rfl rfl ?_;refine zad (args:=[.d (pI n),.d (pI 4)]) rfl (hwide 4 (by omega)) ?_;refine zax (la:=[206]) rfl rfl rfl (by rw [zag]; simp) ?_;refine po_q rfl rfl ?_;refine zaa ?_;exact mR
 rw [if_neg (of_decide_eq_false hc)];refine zcl (fun s => has s.tm [(0,.d (pI n))]) ⟨rfl,trivial⟩ (fun tm bx nt live ht => ?_);obtain ⟨tm0,rfl⟩:=zac ht;refine mO ?_;refine po_q rfl rfl ?_;refine po_b rfl rfl (fun b hb => ?_);refine po_q rfl rfl ?_;refine zaa ?_;refine zaU rfl (fun hc => ?_) (fun hc => ?_)
 ·rw [if_pos (of_decide_eq_true (hb.symm.trans hc))]
  refine mO ?_;refine po_q rfl rfl ?_;refine zad (args:=[.d (pI n),.d (pI 8)]) rfl (hwide 8 (by omega)) ?_;refine zax (la:=[207]) rfl rfl rfl (by rw [zag]; simp) ?_;refine po_q rfl rfl ?_;refine zaa ?_;exact mR
 rw [if_neg (of_decide_eq_false (hb.symm.trans hc))];refine zcl (fun s => has s.tm [(0,.d (pI n))]) ⟨rfl,trivial⟩ (fun tm bx nt live ht => ?_);obtain ⟨tm0,rfl⟩:=zac ht;refine mO ?_;refine po_q rfl rfl ?_;refine po_b rfl rfl (fun b hb => ?_);refine po_q rfl rfl ?_;refine zaa ?_;refine zaU rfl (fun hc => ?_) (fun hc => ?_)
 ·rw [if_pos (of_decide_eq_true (hb.symm.trans hc))]
  refine mO ?_;refine po_q rfl rfl ?_;refine zad (args:=[.d (pI n),.d (pI 1)]) rfl (hwide 1 (by omega)) ?_;refine zax (la:=[208]) rfl rfl rfl (by rw [zag]; simp) ?_;refine po_q rfl rfl ?_;refine zaa ?_;exact mR
 rw [if_neg (of_decide_eq_false (hb.symm.trans hc))];refine zcl (fun s => has s.tm [(0,.d (pI n))]) ⟨rfl,trivial⟩ (fun tm bx nt live ht => ?_);obtain ⟨tm0,rfl⟩:=zac ht;refine mO ?_;refine po_q rfl rfl ?_;refine po_b rfl rfl (fun b hb => ?_);refine po_q rfl rfl ?_;refine zaa ?_;refine zaU rfl (fun hc => ?_) (fun hc => ?_)
 ·rw [if_pos (of_decide_eq_true (hb.symm.trans hc))]
  refine mO ?_;refine po_q rfl rfl ?_;refine zad (args:=[.d (pI n),.d (pI 2)]) rfl (hwide 2 (by omega)) ?_;refine zax (la:=[209]) rfl rfl rfl (by rw [zag]; simp) ?_;refine po_q rfl rfl ?_;refine zaa ?_;exact mR
 rw [if_neg (of_decide_eq_false (hb.symm.trans hc))];refine zcl (fun s => has s.tm [(0,.d (pI n))]) ⟨rfl,trivial⟩ (fun tm bx nt live ht => ?_);obtain ⟨tm0,rfl⟩:=zac ht;refine mO ?_;refine po_q rfl rfl ?_;refine po_b rfl rfl (fun b hb => ?_);refine po_q rfl rfl ?_;refine zaa ?_;refine zaU rfl (fun hc => ?_) (fun hc => ?_)
 ·rw [if_pos (of_decide_eq_true (hb.symm.trans hc))]
  refine mO ?_;refine po_q rfl rfl ?_;refine zad (args:=[.d (pI n),.d (pI 4)]) rfl (hwide 4 (by omega)) ?_;refine zax (la:=[210]) rfl rfl rfl (by rw [zag]; simp) ?_;refine po_q rfl rfl ?_;refine zaa ?_;exact mR
 rw [if_neg (of_decide_eq_false (hb.symm.trans hc))];refine zai ?_;refine mO ?_;refine po_q rfl rfl ?_;refine zad (args:=[.d (pI n),.d (pI 8)]) rfl (hwide 8 (by omega)) ?_;refine zax (la:=[211]) rfl rfl rfl (by rw [zag]; simp) ?_;refine po_q rfl rfl ?_;refine zaa ?_;exact mR
theorem msgMany_fn (n least low one two:Int) (hb:0 <= n /\ n <= 4611686018427387904) (hl:0 <= low /\ low <= 1000):FnV (env T hT) 95 [.d (pI n),.d (pI least),.d (pI low),.d (pI one),.d (pI two)] (.d (pS (msgMany n least low one two))):=by
 have hwide:=fun x k hk => zhG (T:=T) (hT:=hT) x k hk
 refine zaW (zaj zgy) (by show 5 <= 36; decide) fun B hB => ?_
 unfold m_s_l06Many msgMany;refine mO ?_;refine po_q rfl rfl ?_;refine zaa ?_;refine zak (zab (zak (zaf ?_)))
 iterate 2 (refine po_q rfl rfl ?_)
 refine po_b rfl rfl (fun b hb1 => ?_);refine po_q rfl rfl ?_;refine zaa ?_;refine zaU rfl (fun hc => ?_) (fun hc => ?_)
 ·rw [if_pos (of_decide_eq_true (hb1.symm.trans hc))]
  refine mO ?_
  iterate 2 (refine po_q rfl rfl ?_)
  refine zam (n:=low + n) rfl rfl rfl rfl (by omega) ?_;refine zad (args:=[.d (pI (low + n)),.d (pI 1)]) rfl (hwide _ 1 (by omega)) ?_;refine po_q rfl rfl ?_;refine zaa ?_;exact mR
 rw [if_neg (of_decide_eq_false (hb1.symm.trans hc))];refine zan (fun s => has s.tm [(0,.d (pI n)),(3,.d (pI one)),(4,.d (pI two)),(19,.d (pB (decide (n < 256 /\ one > 0))))]) ?_ ?_
 ·refine zaf ?_
  refine po_q rfl rfl ?_;refine po_b rfl rfl (fun b2 hb2 => ?_);refine po_q rfl rfl ?_
  cases b2
  ·refine mZ ?_
   iterate 2 (refine po_q rfl rfl ?_)
   refine zaa ?_;have h1:¬ n < 256:=of_decide_eq_false hb2.symm;exact ⟨rfl,rfl,rfl,by rw [decide_eq_false (by omega)]; rfl,trivial⟩
  ·refine po_q rfl rfl ?_
   refine po_b rfl rfl (fun b3 hb3 => ?_)
   iterate 2 (refine po_q rfl rfl ?_)
   refine zaa ?_;have h1:n < 256:=of_decide_eq_true hb2.symm;have e:decide (n < 256 /\ one > 0) = b3:=by rw [hb3]; exact decide_eq_decide.2 ⟨fun h => h.2,fun h => ⟨h1,h⟩⟩
   exact ⟨rfl,rfl,rfl,by rw [e]; rfl,trivial⟩
 rintro tm bx nt live ht;obtain ⟨tm0,rfl⟩:=zac ht;refine zaU rfl (fun hc => ?_) (fun hc => ?_)
 ·rw [if_pos (of_decide_eq_true hc)]
  refine mO ?_;refine po_q rfl rfl ?_;refine zad (args:=[.d (pI one),.d (pI 1)]) rfl (hwide _ 1 (by omega)) ?_;refine po_q rfl rfl ?_;refine zad (args:=[.d (pI n),.d (pI 1)]) rfl (hwide _ 1 (by omega)) ?_;refine zax rfl rfl rfl (by rw [zag,zag]; simp) ?_;refine po_q rfl rfl ?_;refine zaa ?_;exact mR
 rw [if_neg (of_decide_eq_false hc)];refine zai ?_;refine mO ?_;refine po_q rfl rfl ?_;refine zad (args:=[.d (pI two),.d (pI 1)]) rfl (hwide _ 1 (by omega)) ?_;refine po_q rfl rfl ?_;refine zad (args:=[.d (pI n),.d (pI 2)]) rfl (hwide _ 2 (by omega)) ?_;refine zax rfl rfl rfl (by rw [zag,zag]; simp) ?_;refine po_q rfl rfl ?_;refine zaa ?_;exact mR
theorem zfB:∀ a b:List V,msgs (a ++ b) = msgs a ++ msgs b
 | [],b => rfl
 | x :: a,b => by simp only [cons_append,msgs,zfB a b,append_assoc]
theorem zdf (j:Nat) (vs:List V):(msgs (vs.take j)).length <= (msgs vs).length:=by
 have h:=zfB (vs.take j) (vs.drop j);rw [take_append_drop] at h;rw [h,length_append]; omega
theorem V.ok_flat {v:V} (h:v.ok = true) (hk:v.kind = 0 \/ v.kind = 1 \/ v.kind = 2 \/ v.kind = 3 \/ v.kind = 4 \/ v.kind = 5 \/ v.kind = 6):v.kids = []:=by
 obtain ⟨k,n,e,s,kids⟩:=v;unfold V.ok at h;simp only [V.rightBy,Bool.and_eq_true,decide_eq_true_eq] at h;have h2:=h.1.2.2;clear h;simp only [V.kind] at hk;show kids = []
 rcases hk with rfl | rfl | rfl | rfl | rfl | rfl | rfl <;> simp [V.selfBy] at h2 <;> simp [h2]
theorem V.ok_nodes {v:V} (h:v.ok = true):v.nodes <= 300:=by
 unfold V.ok at h;simp only [Bool.and_eq_true,decide_eq_true_eq] at h;exact h.2
theorem V.ok_msg {v:V} (h:v.ok = true):(msgHd v).length + (msgs v.kids).length <= 1052176 /\ v.text.length <= 1048576:=by
 have h1:=zhE v;have h2:=V.ok_nodes h;have h3:=V.ok_bulk h;rw [zes,length_append] at h1;refine ⟨by omega,?_⟩;obtain ⟨k,n,e,s,kids⟩:=v;simp only [V.bulk] at h3;show s.length <= _;omega
theorem zdg {v:V} (h:v.kids = []):msg v = msgHd v:=by
 rw [zes,h]; exact append_nil _
theorem hd012 {v:V} (h:v.kind = 0 \/ v.kind = 1 \/ v.kind = 2):0 <= v.kind /\ ([[pS [192]],[pS [194]],[pS [195]]]:LP PC)[v.kind.toNat]? = some [pS (msgHd v)]:=by
 unfold msgHd
 rcases h with h | h | h <;> rw [h] <;> exact ⟨by decide,rfl⟩
def PutP (T:World -> Prop) (hT:Low ngl T) (N:Nat):Prop:=∀ v:V,v.nodes <= N -> v.wf -> v.ok = true -> FnV (env T hT) 64 [.ag (vC v)] (.d (pS (msg v)))
def PutI (v:V) (m:Nat) (s:St):Prop:=∃ i:Nat,i <= v.kids.length /\ m = v.kids.length - i /\ has s.tm [(1,.ref 0 0),(3,.d (pS (msgHd v ++ msgs (v.kids.take i)))),(4,.d (pI i))] /\ s.bx = [vC v]
theorem put_step {N:Nat} (hS:PutP T hT N) (v:V) (hn:v.nodes <= N + 1) (hw:v.wf) (hk:v.ok = true):FnV (env T hT) 64 [.ag (vC v)] (.d (pS (msg v))):=by
 obtain ⟨hml,htl⟩:=V.ok_msg hk;have hvlen:(vK v.kids).length = v.kids.length:=zaY _;have hkl:=V.ok_len hk;have hmany:=fun x a b c d h1 h2 => msgMany_fn (T:=T) (hT:=hT) x a b c d h1 h2
 have hwide:=fun x k h => zhG (T:=T) (hT:=hT) x k h
 have hint:=msgInt_fn (T:=T) (hT:=hT) v.num;have hkid:∀ (i:Nat) (h:i < v.kids.length),FnV (env T hT) 64 [.ag (vC v.kids[i])] (.d (pS (msg v.kids[i]))):=fun i h => hS v.kids[i] (V.nodes_kid hn i h) (V.wf_kid hw i h) (V.ok_kid hk i h)
 have mm:=zbx;refine zaW (zaj zhB) (by show 1 <= 82; decide) fun B hB => ?_
 unfold m_s_l06Put;refine mO ?_;refine zbf rfl ?_;refine po_q rfl rfl ?_;refine zaa ?_;refine mO ?_;refine po_q rfl rfl ?_;refine zaa ?_;refine zan (fun s => has s.tm [(1,.ref 0 0),(3,.d (pS (msgHd v)))] /\ s.bx = [vC v]) ?_ ?_
 ·refine mO ?_
  iterate 2 (refine po_q rfl rfl ?_)
  refine zaa ?_;refine zab ?_;refine zan (fun s => has s.tm [(1,.ref 0 0),(6,.d (pI v.kind)),(11,.d (pB (decide (v.kind = 0 \/ v.kind = 1 \/ v.kind = 2))))] /\ s.bx = [vC v]) ?_ ?_
  ·refine mO ?_
   refine po_b rfl rfl (fun b hb0 => ?_);refine po_q rfl rfl ?_;refine zaa ?_;by_cases h0:v.kind = 0
   ·obtain rfl:b = true:=by rw [hb0]; exact decide_eq_true h0
    refine mwT ?_;refine zai ?_;exact ⟨⟨rfl,rfl,by rw [decide_eq_true (.inl h0)]; rfl,trivial⟩,rfl⟩
   obtain rfl:b = false:=by rw [hb0]; exact decide_eq_false h0
   refine mwF ?_;refine mO ?_;refine po_b rfl rfl (fun b hb1 => ?_);refine po_q rfl rfl ?_;refine zaa ?_;by_cases h1:v.kind = 1
   ·obtain rfl:b = true:=by rw [hb1]; exact decide_eq_true h1
    refine mwT ?_;refine zai ?_;exact ⟨⟨rfl,rfl,by rw [decide_eq_true (.inr (.inl h1))]; rfl,trivial⟩,rfl⟩
   obtain rfl:b = false:=by rw [hb1]; exact decide_eq_false h1
   refine mwF ?_;refine zaf ?_;refine po_b rfl rfl (fun b hb2 => ?_);refine po_q rfl rfl ?_;refine zaa ?_;refine ⟨⟨rfl,rfl,?_,trivial⟩,rfl⟩
   have:b = decide (v.kind = 0 \/ v.kind = 1 \/ v.kind = 2):=by rw [hb2]; exact decide_eq_decide.2 ⟨fun h => .inr (.inr h),fun h => (h.resolve_left h0).resolve_left h1⟩
   rw [<- this]; rfl
  rintro tm bx nt live ⟨ht,hbx⟩;obtain ⟨tm0,rfl⟩:=zac ht;simp only at hbx; subst hbx
  clear ht;by_cases h012:v.kind = 0 \/ v.kind = 1 \/ v.kind = 2
  ·rw [decide_eq_true h012,zdg (V.ok_flat hk (by omega))]
   refine mwT ?_;refine mO ?_;refine zaq (es:=[[pS [192]],[pS [194]],[pS [195]]]) rfl ?_
   iterate 2 (refine po_q rfl rfl ?_)
   refine zaH (j:=v.kind) (es:=[[pS [192]],[pS [194]],[pS [195]]]) (e:=[pS (msgHd v)]) rfl rfl rfl (hd012 h012) rfl ?_
   iterate 2 (refine po_q rfl rfl ?_)
   refine zaa ?_;exact mR
  rw [decide_eq_false h012];refine mwF ?_;refine mO ?_;refine po_b rfl rfl (fun b hb0 => ?_);refine po_q rfl rfl ?_;refine zaa ?_;by_cases h3:v.kind = 3
  ·obtain rfl:b = true:=by rw [hb0]; exact decide_eq_true h3
   refine mwT ?_;rw [zdg (V.ok_flat hk (by omega)),show msgHd v = msgInt v.num from by unfold msgHd; rw [h3]; rfl];refine mO ?_;refine po_q rfl rfl ?_;refine po_q rfl rfl ?_;refine zad (args:=[.d (pI v.num)]) rfl hint ?_;refine po_q rfl rfl ?_;refine zaa ?_;exact mR
  obtain rfl:b = false:=by rw [hb0]; exact decide_eq_false h3
  refine mwF ?_;refine zcl (fun s => has s.tm [(1,.ref 0 0),(6,.d (pI v.kind))] /\ s.bx = [vC v]) ⟨⟨rfl,rfl,trivial⟩,rfl⟩ (fun tm bx nt live ht => ?_);obtain ⟨ht,hbx⟩:=ht;obtain ⟨tm0,rfl⟩:=zac ht;simp only at hbx; subst hbx
  clear ht hb0;refine mO ?_;refine po_b rfl rfl (fun b hb0 => ?_);refine po_q rfl rfl ?_;refine zaa ?_;by_cases h4:v.kind = 4
  ·obtain rfl:b = true:=by rw [hb0]; exact decide_eq_true h4
   refine mwT ?_;rw [zdg (V.ok_flat hk (by omega)),show msgHd v = [199,9,4] ++ be 1 (lo64 v.exp) ++ be 8 (lo64 v.num) from by unfold msgHd; rw [h4]; rfl];refine mO ?_;refine po_q rfl rfl ?_;refine po_q rfl rfl ?_;refine po_q rfl rfl ?_;refine po_q rfl rfl ?_;refine zad (args:=[.d (pI v.exp),.d (pI 1)]) rfl (hwide v.exp 1 (by omega)) ?_;refine zax (la:=[199,9,4]) (lb:=be 1 (lo64 v.exp)) rfl rfl rfl (by rw [zag]; simp) ?_;refine zad (args:=[.d (pI v.num),.d (pI 8)]) rfl (hwide v.num 8 (by omega)) ?_;refine zax (la:=[199,9,4] ++ be 1 (lo64 v.exp)) (lb:=be 8 (lo64 v.num)) rfl rfl rfl (by rw [length_append,zag,zag]; simp) ?_;refine po_q rfl rfl ?_;refine zaa ?_;exact mR
  obtain rfl:b = false:=by rw [hb0]; exact decide_eq_false h4
  refine mwF ?_;refine zcl (fun s => has s.tm [(1,.ref 0 0),(6,.d (pI v.kind))] /\ s.bx = [vC v]) ⟨⟨rfl,rfl,trivial⟩,rfl⟩ (fun tm bx nt live ht => ?_);obtain ⟨ht,hbx⟩:=ht;obtain ⟨tm0,rfl⟩:=zac ht;simp only at hbx; subst hbx
  clear ht hb0;refine mO ?_;refine po_b rfl rfl (fun b hb0 => ?_);refine po_q rfl rfl ?_;refine zaa ?_;by_cases h5:v.kind = 5
  ·obtain rfl:b = true:=by rw [hb0]; exact decide_eq_true h5
   refine mwT ?_;rw [zdg (V.ok_flat hk (by omega)),show msgHd v = msgMany v.text.length 32 160 217 218 ++ v.text from by unfold msgHd; rw [h5]; rfl];refine mO ?_;refine po_q rfl rfl ?_;refine po_q rfl rfl ?_;refine po_q (v:=.d (pI v.text.length)) rfl rfl ?_;refine po_q rfl rfl ?_;refine po_q rfl rfl ?_;refine zad (args:=[.d (pI v.text.length),.d (pI 32),.d (pI 160),.d (pI 217),.d (pI 218)]) rfl (hmany _ 32 160 217 218 (by omega) (by omega)) ?_;refine zax (lb:=v.text) rfl rfl rfl (by have:=mm v.text.length 32 160 217 218; omega) ?_;refine po_q rfl rfl ?_;refine zaa ?_;exact mR
  obtain rfl:b = false:=by rw [hb0]; exact decide_eq_false h5
  refine mwF ?_;refine zcl (fun s => has s.tm [(1,.ref 0 0),(6,.d (pI v.kind))] /\ s.bx = [vC v]) ⟨⟨rfl,rfl,trivial⟩,rfl⟩ (fun tm bx nt live ht => ?_);obtain ⟨ht,hbx⟩:=ht;obtain ⟨tm0,rfl⟩:=zac ht;simp only at hbx; subst hbx
  clear ht hb0;refine mO ?_;refine po_b rfl rfl (fun b hb0 => ?_);refine po_q rfl rfl ?_;refine zaa ?_;by_cases h6:v.kind = 6
  ·obtain rfl:b = true:=by rw [hb0]; exact decide_eq_true h6
   refine mwT ?_;rw [zdg (V.ok_flat hk (by omega)),show msgHd v = msgMany v.text.length 0 0 196 197 ++ v.text from by unfold msgHd; rw [h6]; rfl];refine mO ?_;refine po_q rfl rfl ?_;refine po_q rfl rfl ?_;refine po_q (v:=.d (pI v.text.length)) rfl rfl ?_;refine po_q rfl rfl ?_;refine po_q rfl rfl ?_;refine zad (args:=[.d (pI v.text.length),.d (pI 0),.d (pI 0),.d (pI 196),.d (pI 197)]) rfl (hmany _ 0 0 196 197 (by omega) (by omega)) ?_;refine zax (lb:=v.text) rfl rfl rfl (by have:=mm v.text.length 0 0 196 197; omega) ?_;refine po_q rfl rfl ?_;refine zaa ?_;exact mR
  obtain rfl:b = false:=by rw [hb0]; exact decide_eq_false h6
  refine mwF ?_;refine zcl (fun s => has s.tm [(1,.ref 0 0),(6,.d (pI v.kind))] /\ s.bx = [vC v]) ⟨⟨rfl,rfl,trivial⟩,rfl⟩ (fun tm bx nt live ht => ?_);obtain ⟨ht,hbx⟩:=ht;obtain ⟨tm0,rfl⟩:=zac ht;simp only at hbx; subst hbx
  clear ht hb0;refine mO ?_;refine po_b rfl rfl (fun b hb0 => ?_);refine po_q rfl rfl ?_;refine zaa ?_;by_cases h7:v.kind = 7
  ·obtain rfl:b = true:=by rw [hb0]; exact decide_eq_true h7
   refine mwT ?_;have e7:msgHd v = msgMany v.kids.length 16 144 0 220:=by unfold msgHd; rw [h7]; rfl
   refine zaf ?_;refine po_q rfl rfl ?_;refine po_q rfl rfl ?_;refine po_q (v:=.d (pI v.kids.length)) rfl (by show some (PV.d (.v (.int .i64 ((vK v.kids).length:Nat)))) = _; rw [hvlen]; rfl) ?_;refine zad (args:=[.d (pI v.kids.length),.d (pI 16),.d (pI 144),.d (pI 0),.d (pI 220)]) rfl (hmany _ 16 144 0 220 (by omega) (by omega)) ?_;refine po_q rfl rfl ?_;refine zaa ?_;exact ⟨⟨rfl,by rw [e7]; rfl,trivial⟩,rfl⟩
  obtain rfl:b = false:=by rw [hb0]; exact decide_eq_false h7
  refine mwF ?_;refine zcl (fun s => has s.tm [(1,.ref 0 0),(6,.d (pI v.kind))] /\ s.bx = [vC v]) ⟨⟨rfl,rfl,trivial⟩,rfl⟩ (fun tm bx nt live ht => ?_);obtain ⟨ht,hbx⟩:=ht;obtain ⟨tm0,rfl⟩:=zac ht;simp only at hbx; subst hbx
  clear ht hb0;refine mO ?_;refine po_b rfl rfl (fun b hb0 => ?_);refine po_q rfl rfl ?_;refine zaa ?_;by_cases h8:v.kind = 8
  ·obtain rfl:b = true:=by rw [hb0]; exact decide_eq_true h8
   refine mwT ?_;have e8:msgHd v = msgMany ((v.kids.length / 2:Nat):Int) 16 128 0 222:=by unfold msgHd; rw [h8]; rfl
   refine zaf ?_;refine po_q rfl rfl ?_;refine po_q rfl rfl ?_;refine po_q (v:=.d (pI v.kids.length)) rfl (by show some (PV.d (.v (.int .i64 ((vK v.kids).length:Nat)))) = _; rw [hvlen]; rfl) ?_;have eq:IntKind.wrap .i64 (((v.kids.length:Nat):Int).tdiv 2) = ((v.kids.length / 2:Nat):Int):=by rw [IntKind.wrap_i64,Int.tdiv_eq_ediv_of_nonneg (by omega)]; omega
   refine po_q (v:=.d (pI ((v.kids.length / 2:Nat):Int))) rfl (by show some (PV.d (.v (.int .i64 (IntKind.wrap .i64 (((v.kids.length:Nat):Int).tdiv 2))))) = _; rw [eq]; rfl) ?_;refine zad (args:=[.d (pI ((v.kids.length / 2:Nat):Int)),.d (pI 16),.d (pI 128),.d (pI 0),.d (pI 222)]) rfl (hmany _ 16 128 0 222 (by omega) (by omega)) ?_;refine po_q rfl rfl ?_;refine zaa ?_;exact ⟨⟨rfl,by rw [e8]; rfl,trivial⟩,rfl⟩
  obtain rfl:b = false:=by rw [hb0]; exact decide_eq_false h8
  refine mwF ?_;refine zcl (fun s => has s.tm [(1,.ref 0 0),(6,.d (pI v.kind))] /\ s.bx = [vC v]) ⟨⟨rfl,rfl,trivial⟩,rfl⟩ (fun tm bx nt live ht => ?_);obtain ⟨ht,hbx⟩:=ht;obtain ⟨tm0,rfl⟩:=zac ht;simp only at hbx; subst hbx
  clear ht hb0
  have e9:msgHd v = [199,4,6] ++ be 4 (lo64 v.num):=by
   unfold msgHd;rw [if_neg (fun h => h012 (.inl h)),if_neg (fun h => h012 (.inr (.inl h))),if_neg (fun h => h012 (.inr (.inr h))),if_neg h3,if_neg h4,if_neg h5,if_neg h6,if_neg h7,if_neg h8]
  refine zaf ?_
  iterate 2 (refine po_q rfl rfl ?_)
  refine zad (args:=[.d (pI v.num),.d (pI 4)]) rfl (hwide v.num 4 (by omega)) ?_;refine zax (la:=[199,4,6]) (lb:=be 4 (lo64 v.num)) rfl rfl rfl (by rw [zag]; simp) ?_;refine po_q rfl rfl ?_;refine zaa ?_;exact ⟨⟨rfl,by rw [e9]; rfl,trivial⟩,rfl⟩
 rintro tm bx nt live ⟨ht,hbx⟩;obtain ⟨tm0,rfl⟩:=zac ht;simp only at hbx; subst hbx
 clear ht;refine zan (fun s => ∃ m,PutI v m s /\ m = 0) ?_ ?_
 ·refine mO ?_
  refine po_q rfl rfl ?_;refine zaa ?_;refine zab ?_;refine zas (PutI v) v.kids.length ⟨0,Nat.zero_le _,by simp,⟨rfl,by rw [take_zero]; show PV.d (pS (msgHd v)) = .d (pS (msgHd v ++ [])); rw [append_nil],rfl,trivial⟩,rfl⟩ ?_;rintro m tm bx nt live ⟨i,hi,rfl,ht,hbx⟩;obtain ⟨tm0,rfl⟩:=zac ht;simp only at hbx; subst hbx
  refine mM ?_
  iterate 3 (refine po_q rfl rfl ?_)
  refine po_q (v:=.d (pI v.kids.length)) rfl (by show some (PV.d (.v (.int .i64 ((vK v.kids).length:Nat)))) = _; rw [hvlen]; rfl) ?_;refine po_b rfl rfl (fun b1 hb1 => ?_);refine zaa ?_;refine zaU rfl (fun hc1 => ?_) (fun hc1 => ?_)
  ·have hlt:i < v.kids.length:=by
    subst hb1; have:=of_decide_eq_true hc1; omega
   have hT:=zgz hlt;have hL:=zdf (i + 1) v.kids;rw [hT,length_append] at hL;refine zai ?_;refine zak (zab (zaf ?_))
   iterate 4 (refine po_q rfl rfl ?_)
   refine zaH (es:=vK v.kids) (e:=vC v.kids[i]) rfl rfl rfl ⟨by omega,by rw [Int.toNat_natCast]; exact zbo hlt⟩ rfl ?_;refine po_q rfl rfl ?_;refine zad (zbA _) (hkid i hlt) ?_;refine zax (la:=msgHd v ++ msgs (v.kids.take i)) (lb:=msg v.kids[i]) rfl rfl rfl (by rw [length_append]; omega) ?_;refine po_q rfl rfl ?_;refine zaa ?_;refine zaf ?_;refine po_q rfl rfl ?_;refine zam (n:=((i + 1:Nat):Int)) rfl rfl rfl (by omega) (by omega) ?_;refine po_q rfl rfl ?_;refine zaa ?_;exact ⟨v.kids.length - (i + 1),by omega,i + 1,hlt,rfl,⟨rfl,by rw [hT,<- append_assoc]; rfl,rfl,trivial⟩,rfl⟩
  ·have hge:i = v.kids.length:=by
    subst hb1; have:=of_decide_eq_false hc1; omega
   refine zat ?_;exact ⟨0,⟨i,hi,by omega,⟨rfl,rfl,rfl,trivial⟩,rfl⟩,rfl⟩
 rintro tm bx nt live ⟨m,⟨i,hi,rfl,ht,hbx⟩,hm⟩;obtain ⟨tm0,rfl⟩:=zac ht;have hie:i = v.kids.length:=by omega
 subst hie;rw [take_length,<- zes];refine mO ?_
 iterate 2 (refine po_q rfl rfl ?_)
 refine zaa ?_;exact mR
theorem put_P:∀ N,PutP T hT N
 | 0 => fun v hn => by obtain ⟨k,n,e,s,kids⟩:=v; simp only [V.nodes] at hn; omega
 | N + 1 => fun v hn hw hk => put_step (put_P N) v hn hw hk
theorem put_fn (v:V) (hw:v.wf) (hk:v.ok = true):FnV (env T hT) 64 [.ag (vC v)] (.d (pS (msg v))):=put_P v.nodes v lR hw hk
def msgTop (v:V):L8:=if v.ok = true then msg v else []
theorem zgB (v:V) (hw:v.wf) (hb:v.bulk <= 4294967295):FnV (env T hT) 31 [.ag (vC v)] (.d (pS (msgTop v))):=by
 have hput:=fun hk => put_fn (T:=T) (hT:=hT) v hw hk
 have hvok:=vok_fn (T:=T) (hT:=hT) v hw hb;refine zaW (zaj zhA) (by show 1 <= 8; decide) fun B hB => ?_
 unfold m_s_PutMsg;refine mO ?_;refine zbf rfl ?_;refine po_q rfl rfl ?_;refine zaa ?_;refine mM ?_;refine po_q rfl rfl ?_;refine zad (zbA v) hvok ?_;refine po_q rfl rfl ?_;refine zaa ?_;unfold msgTop;by_cases hk:v.ok = true
 ·rw [if_pos hk,hk]
  refine mwF ?_;refine zai ?_;refine mO ?_;refine po_q rfl rfl ?_;refine zad (zbA v) (hput hk) ?_;refine po_q rfl rfl ?_;refine zaa ?_;exact mR
 ·have hk':v.ok = false:=by simpa using hk
  rw [if_neg hk,hk'];refine mwT ?_;refine mO ?_;refine po_q rfl rfl ?_;refine zaa ?_;exact mR
end
section
def m_s_GetDict:M:=so [qo 2 (.zero [.slice none 0 0,.slice none 0 0]),qo 3 (.mv (cB false))] (so [qm 12 0,qc 13 24 [12,ci 0,ci 100] 1,qm 11 13,qe 14 11 0,qe 15 11 1,qm 4 14,qm 5 15] (.seq (so [qm 16 5,qo 17 (.bin .lss false 16 (ci 0))] (.cond 17 (so [qo 18 (.build [.slice none 0 0,.slice none 0 0] []),qS 2 2 18,qo 3 (.mv (cB false))] .ret) .skip)) (so [qm 20 0,qm 21 5,qm 22 4,qc 23 25 [20,21,22] 1,qm 19 23,qe 24 19 0,qe 25 19 1,qm 6 24,qm 7 25] (.seq (so [qm 26 7,qo 27 (.bin .lss false 26 (ci 0))] (.cond 27 (so [qo 28 (.build [.slice none 0 0,.slice none 0 0] []),qS 2 2 28,qo 3 (.mv (cB false))] .ret) .skip)) (so [qm 30 0,qm 31 7,qc 32 24 [30,31,ci 60] 1,qm 29 32,qe 33 29 0,qe 34 29 1,qm 4 33,qm 5 34] (.seq (so [qm 35 5,qo 36 (.bin .lss false 35 (ci 0))] (.cond 36 (so [qo 37 (.build [.slice none 0 0,.slice none 0 0] []),qS 2 2 37,qo 3 (.mv (cB false))] .ret) .skip)) (so [qm 39 0,qm 40 5,qm 41 4,qc 42 26 [39,40,41] 1,qm 38 42,qe 43 38 0,qe 44 38 1,qm 8 43,qm 9 44] (so [qm 45 6,qm 46 8,qo 47 (.build [.slice none 0 0,.slice none 0 0] [(0,1,45),(1,1,46)]),qo 10 (.zero [.slice none 0 0,.slice none 0 0]),qS 2 10 47] (.seq (so [qm 48 9,qo 49 (.bin .lss false 48 (ci 0)),qm 50 49,⟨some 51,.load true 2 10,some (50,false),[]⟩,⟨some 52,.call 12 [51],some (50,false),[.f 1]⟩,⟨some 53,.not 52,some (50,false),[]⟩,qo 54 (.pick 50 (cB true) 53),qm 55 54,⟨some 56,.load true 2 10,some (55,false),[]⟩,⟨some 57,.call 13 [56],some (55,false),[.f 1]⟩,qg 58 0 55 false,⟨some 59,.bin .neq false 57 58,some (55,false),[]⟩,qo 60 (.pick 55 (cB true) 59)] (.cond 60 (so [qo 61 (.build [.slice none 0 0,.slice none 0 0] []),qS 2 2 61,qo 3 (.mv (cB false))] .ret) .skip)) (so [qL 62 2 10,qS 2 2 62,qo 3 (.mv (cB true))] .ret))))))))))
theorem zgC:look Tryz.prog 10 = some (63,m_s_GetDict,[.cell true 2 2,.tm 3]):=by kernel_rfl
def m_s_DictOk:M:=so [qo 1 (.box 0),qo 2 (.mv (cB false))] (so [qL 3 2 1,qc 4 13 [3] 1,qo 5 (.lens 4),qc 6 27 [5,ci 1,ci 60000] 1,qm 2 6] .ret)
theorem zhH:look Tryz.prog 12 = some (7,m_s_DictOk,[.tm 2]):=by kernel_rfl
def m_s_PutDict:M:=so [qo 1 (.box 0),⟨some 2,.mv (.c (.string ⟨[].toArray⟩)),none,[]⟩] (.seq (so [qF 6 0 1,ql 7 1 6,qc 8 28 [7] 1,qo 9 (.not 8),qm 10 9,⟨some 11,.fld 1 1,some (10,false),[]⟩,⟨some 12,.load false 1 11,some (10,false),[]⟩,⟨some 13,.call 29 [12],some (10,false),[.f 1]⟩,⟨some 14,.not 13,some (10,false),[]⟩,qo 15 (.pick 10 (cB true) 14)] (.cond 15 (so [⟨some 2,.mv (.c (.string ⟨[].toArray⟩)),none,[]⟩] .ret) .skip)) (so [qF 16 0 1,ql 17 1 16,qo 18 (.len 17),qo 19 (.conv .u64 18),qc 20 30 [ci 4,19] 1,qm 3 20] (.seq (so [qo 4 (.mv (ci 0))] (.block 0 (.loop (.seq (so [qm 21 4,qF 22 0 1,ql 23 1 22,qo 24 (.len 23),qo 25 (.bin .lss false 21 24)] (.cond 25 .skip (.exit 0))) (.seq (.block 1 (.ops [qm 28 3,qF 29 0 1,ql 30 1 29,qm 31 4,qo 32 (.ix 1 30 31),ql 33 1 32,qo 34 (.lens 33),qo 35 (.conv .u64 34),qF 38 0 1,ql 39 1 38,qm 40 4,qo 41 (.ix 1 39 40),ql 42 1 41,⟨some 36,.call 30 [ci 3,35],none,[.f 0,38,41]⟩,qo 37 (.bin .add false 28 36),qo 43 (.bin .add false 37 42),qm 3 43])) (.ops [qm 26 4,qo 27 (.bin .add false 26 (ci 1)),qm 4 27])))))) (so [qm 44 3,qF 45 1 1,ql 46 1 45,qo 47 (.len 46),qo 48 (.conv .u64 47),qc 49 30 [ci 4,48] 1,qo 50 (.bin .add false 44 49),qm 3 50] (.seq (so [qo 5 (.mv (ci 0))] (.block 2 (.loop (.seq (so [qm 51 5,qF 52 1 1,ql 53 1 52,qo 54 (.len 53),qo 55 (.bin .lss false 51 54)] (.cond 55 .skip (.exit 2))) (.seq (.block 3 (.ops [qm 58 3,qF 59 1 1,ql 60 1 59,qm 61 5,qo 62 (.ix 5 60 61),qL 63 5 62,qc 64 31 [63] 1,qo 65 (.bin .add false 58 64),qm 3 65])) (.ops [qm 56 5,qo 57 (.bin .add false 56 (ci 1)),qm 5 57])))))) (so [qm 66 3,qm 2 66] .ret))))))
theorem zgD:look Tryz.prog 13 = some (67,m_s_PutDict,[.tm 2]):=by kernel_rfl
def m_s_l14Count:M:=so [qo 6 (.mv (ci 0)),qo 7 (.mv (ci 0))] (so [qm 12 0,qm 13 1,qc 14 57 [12,13] 1,qm 11 14,qe 15 11 0,qe 16 11 1,qe 17 11 2,qm 8 15,qm 9 16,qm 10 17] (.seq (so [qm 18 10,qo 19 (.bin .lss false 18 (ci 0)),qm 20 19,qg 21 8 20 false,⟨some 22,.bin .neq false 21 (ci 4),some (20,false),[]⟩,qo 23 (.pick 20 (cB true) 22),qm 24 23,qg 25 9 24 false,qg 26 2 24 false,⟨some 27,.conv .u64 26,some (24,false),[]⟩,⟨some 28,.bin .gtr false 25 27,some (24,false),[]⟩,qo 29 (.pick 24 (cB true) 28)] (.cond 29 (so [qo 6 (.mv (ci 0)),qo 7 (.mv (ci (-1)))] .ret) .skip)) (so [qm 30 9,qo 31 (.conv .i64 30),qm 32 10,qm 6 31,qm 7 32] .ret)))
theorem zfC:look Tryz.prog 24 = some (33,m_s_l14Count,[.tm 6,.tm 7]):=by kernel_rfl
def m_s_l14Names:M:=so [qo 6 (.mv (.c (.slice none 0 0))),qo 7 (.mv (ci 0))] (so [qo 13 (.lit 1 []),qm 8 13] (.seq (so [qo 9 (.mv (ci 0))] (.block 0 (.loop (.seq (so [qm 14 9,qm 15 2,qo 16 (.bin .lss false 14 15)] (.cond 16 .skip (.exit 0))) (.seq (.block 1 (so [qm 20 0,qm 21 1,qc 22 57 [20,21] 1,qm 19 22,qe 23 19 0,qe 24 19 1,qe 25 19 2,qm 10 23,qm 11 24,qm 12 25] (.seq (so [qm 26 12,qo 27 (.bin .lss false 26 (ci 0)),qm 28 27,qg 29 10 28 false,⟨some 30,.bin .neq false 29 (ci 3),some (28,false),[]⟩,qo 31 (.pick 28 (cB true) 30),qm 32 31,qg 33 11 32 false,qg 34 0 32 false,⟨some 35,.lens 34,some (32,false),[]⟩,qg 36 12 32 false,⟨some 37,.bin .sub false 35 36,some (32,false),[]⟩,⟨some 38,.conv .u64 37,some (32,false),[]⟩,⟨some 39,.bin .gtr false 33 38,some (32,false),[]⟩,qo 40 (.pick 32 (cB true) 39)] (.cond 40 (so [qm 41 8,qm 6 41,qo 7 (.mv (ci (-1)))] .ret) .skip)) (so [qm 42 12,qm 43 11,qo 44 (.conv .i64 43),qo 45 (.bin .add false 42 44),qm 1 45] (.ops [qm 46 8,qm 47 0,qm 48 12,qm 49 1,qo 50 (.slcs 47 (some 48) (some 49)),qo 51 (.lit 1 [50]),⟨some 52,.app 1 46 51,none,[.f 1]⟩,qm 8 52]))))) (.ops [qm 17 9,qo 18 (.bin .add false 17 (ci 1)),qm 9 18])))))) (so [qm 53 8,qm 54 1,qm 6 53,qm 7 54] .ret)))
theorem zfD:look Tryz.prog 25 = some (55,m_s_l14Names,[.tm 6,.tm 7]):=by kernel_rfl
def m_s_l14Table:M:=so [qo 6 (.mv (.c (.slice none 0 0))),qo 7 (.mv (ci 0))] (so [qo 12 (.lit 5 []),qm 8 12] (.seq (so [qo 9 (.mv (ci 0))] (.block 0 (.loop (.seq (so [qm 13 9,qm 14 2,qo 15 (.bin .lss false 13 14)] (.cond 15 .skip (.exit 0))) (.seq (.block 1 (so [qm 19 0,qm 20 1,qc 21 58 [19,20] 1,qm 18 21,qe 22 18 0,qe 23 18 1,⟨some 10,.zero [.int .i64 0,.int .i64 0,.int .i64 0,.string ⟨[].toArray⟩,.slice none 0 0],none,[]⟩,qS 5 10 22,qm 11 23] (.seq (so [qm 24 11,qo 25 (.bin .lss false 24 (ci 0))] (.cond 25 (so [qm 26 8,qm 6 26,qo 7 (.mv (ci (-1)))] .ret) .skip)) (so [qm 27 8,qL 28 5 10,qo 29 (.lit 5 [28]),⟨some 30,.app 5 27 29,none,[.f 1]⟩,qm 8 30] (.ops [qm 31 11,qm 1 31]))))) (.ops [qm 16 9,qo 17 (.bin .add false 16 (ci 1)),qm 9 17])))))) (so [qm 32 8,qm 33 1,qm 6 32,qm 7 33] .ret)))
theorem zfE:look Tryz.prog 26 = some (34,m_s_l14Table,[.tm 6,.tm 7]):=by kernel_rfl
def m_s_NamesOk:M:=so [qo 2 (.mv (cB false))] (.seq (so [qo 3 (.mv (ci 0))] (.block 0 (.loop (.seq (so [qm 4 3,qm 5 0,qo 6 (.len 5),qo 7 (.bin .lss false 4 6)] (.cond 7 .skip (.exit 0))) (.seq (.block 1 (so [qm 10 0,qm 11 3,qo 12 (.ix 1 10 11),ql 13 1 12,qc 14 59 [13] 1,qo 15 (.not 14),qm 16 15,qg 17 0 16 false,qg 18 3 16 false,⟨some 19,.ix 1 17 18,some (16,false),[]⟩,⟨some 20,.load false 1 19,some (16,false),[]⟩,⟨some 21,.lens 20,some (16,false),[]⟩,⟨some 22,.bin .gtr false 21 (ci 100),some (16,false),[]⟩,qo 23 (.pick 16 (cB true) 22),qm 24 23,qg 25 0 24 false,qg 26 0 24 false,qg 27 3 24 false,⟨some 28,.ix 1 26 27,some (24,false),[]⟩,⟨some 29,.load false 1 28,some (24,false),[]⟩,⟨some 30,.call 60 [25,29],some (24,false),[.f 1]⟩,qg 31 3 24 false,⟨some 32,.bin .neq false 30 31,some (24,false),[]⟩,qo 33 (.pick 24 (cB true) 32)] (.cond 33 (so [qo 2 (.mv (cB false))] .ret) .skip))) (.ops [qm 8 3,qo 9 (.bin .add false 8 (ci 1)),qm 3 9])))))) (so [qm 34 0,qo 35 (.len 34),qo 36 (.bin .leq false 35 (ci 100)),qm 2 36] .ret))
theorem zgE:look Tryz.prog 28 = some (37,m_s_NamesOk,[.tm 2]):=by kernel_rfl
def m_s_TableOk:M:=so [qo 2 (.mv (cB false))] (.seq (so [qo 3 (.mv (ci 0))] (.block 0 (.loop (.seq (so [qm 4 3,qm 5 0,qo 6 (.len 5),qo 7 (.bin .lss false 4 6)] (.cond 7 .skip (.exit 0))) (.seq (.block 1 (so [qm 10 0,qm 11 3,qo 12 (.ix 5 10 11),qL 13 5 12,qc 14 61 [13] 1,qo 15 (.not 14),qm 16 15,qg 17 0 16 false,qg 18 3 16 false,⟨some 19,.ix 5 17 18,some (16,false),[]⟩,⟨some 20,.load true 5 19,some (16,false),[]⟩,qg 21 3 16 false,⟨some 22,.call 62 [20,21],some (16,false),[.f 1]⟩,⟨some 23,.not 22,some (16,false),[]⟩,qo 24 (.pick 16 (cB true) 23)] (.cond 24 (so [qo 2 (.mv (cB false))] .ret) .skip))) (.ops [qm 8 3,qo 9 (.bin .add false 8 (ci 1)),qm 3 9])))))) (so [qm 25 0,qo 26 (.len 25),qo 27 (.bin .leq false 26 (ci 60)),qm 2 27] .ret))
theorem zgF:look Tryz.prog 29 = some (28,m_s_TableOk,[.tm 2]):=by kernel_rfl
def m_s_l12Ahead:M:=so [qo 2 (.box 0),qo 4 (.mv (cB false))] (.seq (so [qL 7 5 2,qc 8 92 [7] 1,qm 5 8] (so [qF 9 0 2,ql 10 1 9,qo 11 (.bin .eql false 10 (ci 9)),qm 12 11,⟨some 13,.fld 1 2,some (12,true),[]⟩,⟨some 14,.load false 1 13,some (12,true),[]⟩,⟨some 15,.bin .eql false 14 (ci 6),some (12,true),[]⟩,qo 16 (.pick 12 15 (cB false))] (.cond 16 (so [qm 17 5,qo 18 (.bin .geq false 17 (ci 0)),qm 19 18,qg 20 5 19 true,qg 21 1 19 true,⟨some 22,.bin .lss false 20 21,some (19,true),[]⟩,qo 23 (.pick 19 22 (cB false)),qm 4 23] .ret) .skip))) (.seq (so [qo 6 (.mv (ci 0))] (.block 0 (.loop (.seq (so [qm 24 6,qF 25 4 2,ql 26 1 25,qo 27 (.len 26),qo 28 (.bin .lss false 24 27)] (.cond 28 .skip (.exit 0))) (.seq (.block 1 (so [qF 31 4 2,ql 32 1 31,qm 33 6,qo 34 (.ix 5 32 33),qL 35 5 34,qm 36 1,qc 37 62 [35,36] 1,qo 38 (.not 37)] (.cond 38 (so [qo 4 (.mv (cB false))] .ret) .skip))) (.ops [qm 29 6,qo 30 (.bin .add false 29 (ci 1)),qm 6 30])))))) (so [qo 4 (.mv (cB true))] .ret)))
theorem zfF:look Tryz.prog 62 = some (39,m_s_l12Ahead,[.tm 4]):=by kernel_rfl
def m_s_l12Ref:M:=so [qo 1 (.box 0),qo 2 (.mv (ci 0))] (.seq (so [qF 3 0 1,ql 4 1 3,qo 5 (.bin .neq false 4 (ci 9)),qm 6 5,⟨some 7,.fld 1 1,some (6,false),[]⟩,⟨some 8,.load false 1 7,some (6,false),[]⟩,⟨some 9,.bin .neq false 8 (ci 6),some (6,false),[]⟩,qo 10 (.pick 6 (cB true) 9),qm 11 10,⟨some 12,.fld 4 1,some (11,false),[]⟩,⟨some 13,.load false 1 12,some (11,false),[]⟩,⟨some 14,.len 13,some (11,false),[]⟩,⟨some 15,.bin .neq false 14 (ci 1),some (11,false),[]⟩,qo 16 (.pick 11 (cB true) 15),qm 17 16,⟨some 18,.fld 4 1,some (17,false),[]⟩,⟨some 19,.load false 1 18,some (17,false),[]⟩,⟨some 20,.ix 5 19 (ci 0),some (17,false),[]⟩,⟨some 21,.fld 0 20,some (17,false),[]⟩,⟨some 22,.load false 1 21,some (17,false),[]⟩,⟨some 23,.bin .neq false 22 (ci 3),some (17,false),[]⟩,qo 24 (.pick 17 (cB true) 23),qm 25 24,⟨some 26,.fld 4 1,some (25,false),[]⟩,⟨some 27,.load false 1 26,some (25,false),[]⟩,⟨some 28,.ix 5 27 (ci 0),some (25,false),[]⟩,⟨some 29,.fld 1 28,some (25,false),[]⟩,⟨some 30,.load false 1 29,some (25,false),[]⟩,⟨some 31,.bin .lss false 30 (ci 0),some (25,false),[]⟩,qo 32 (.pick 25 (cB true) 31)] (.cond 32 (so [qo 2 (.mv (ci (-1)))] .ret) .skip)) (so [qF 33 4 1,ql 34 1 33,qo 35 (.ix 5 34 (ci 0)),qF 36 1 35,ql 37 1 36,qm 2 37] .ret))
theorem zhI:look Tryz.prog 92 = some (38,m_s_l12Ref,[.tm 2]):=by kernel_rfl
end
section
theorem snoc_ind {α:Type} {P:List α -> Prop} (h0:P []) (h1:∀ l a,P l -> P (l ++ [a])):∀ l,P l:=fun l => by
 have h:∀ r:List α,P r.reverse:=by
  intro r; induction r with
  | nil => exact h0
  | cons a r ih => rw [reverse_cons]; exact h1 _ _ ih
 have:=h l.reverse; rwa [reverse_reverse] at this
def valBE (l:L8):Nat:=l.foldl (fun n b => n * 256 + b.toNat) 0
theorem zcJ (l:L8) (b:UInt8):valBE (l ++ [b]) = valBE l * 256 + b.toNat:=by simp [valBE]
theorem ze5 (l:L8) (k:Nat) (h:k < l.length):valBE (l.take (k + 1)) = valBE (l.take k) * 256 + l[k].toNat:=by
 rw [zga l k h,zcJ]
theorem zdh:∀ (l:L8),valBE l < 256 ^ l.length:=by
 refine snoc_ind (by simp [valBE]) ?_
 ·intro l b ih
  rw [zcJ,length_append,length_singleton,Nat.pow_succ]
  have:=b.toNat_lt; omega
theorem be_valBE:∀ (l:L8),be l.length (valBE l) = l:=by
 refine snoc_ind rfl ?_
 ·intro l b ih
  rw [zcJ,length_append,length_singleton,be];have h:=b.toNat_lt;rw [show (valBE l * 256 + b.toNat) / 256 = valBE l by omega,ih]
  congr 2
  apply UInt8.toNat_inj.1; rw [zaJ]; omega
def anyHd (l:L8) (i:Nat):Option (Nat × Nat × Nat) :=
 match l[i]? with
 | none => none
 | some b =>
  if b.toNat % 32 < 24 then some (b.toNat / 32,b.toNat % 32,i + 1)
  else if 27 < b.toNat % 32 then none
  else if l.length < i + 1 + 2 ^ (b.toNat % 32 - 24) then none
  else some (b.toNat / 32,valBE ((l.drop (i + 1)).take (2 ^ (b.toNat % 32 - 24))),i + 1 + 2 ^ (b.toNat % 32 - 24))
def getHd (l:L8) (i:Nat):Option (Nat × Nat × Nat) :=
 match anyHd l i with
 | some (m,n,x) => if i + (hd m n).length = x then some (m,n,x) else none
 | none => none
theorem zdC {l:L8} {i m n x:Nat} (h:anyHd l i = some (m,n,x)):i < l.length /\ i < x /\ x <= l.length /\ m <= 7 /\ n < 18446744073709551616 /\ x <= i + 9 /\
  ((hd m n = (l.drop i).take (x - i)) ↔ i + (hd m n).length = x):=by
 unfold anyHd at h
 cases hb:l[i]? with
 | none => rw [hb] at h; cases h
 | some b =>
  rw [hb] at h;obtain ⟨hi,hbe⟩:=List.getElem?_eq_some_iff.1 hb;have hlt:=b.toNat_lt;have hdrop:l.drop i = b :: l.drop (i + 1):=by rw [drop_eq_getElem_cons hi,hbe]
  simp only at h
  split at h
  ·rename_i h24
   simp only [sI,Prod.mk.injEq] at h;obtain ⟨rfl,rfl,rfl⟩:=h;refine ⟨hi,by omega,by omega,by omega,by omega,by omega,?_⟩
   have e:hd (b.toNat / 32) (b.toNat % 32) = [b]:=by
    unfold hd; rw [if_pos h24]
    show [byteOf _] = [b]
    congr 1; apply UInt8.toNat_inj.1; rw [zaJ]; omega
   rw [e,hdrop,show i + 1 - i = 1 by omega]; simp
  ·split at h
   ·cases h
   ·split at h
    ·cases h
    ·rename_i h24 h27 hlen
     simp only [sI,Prod.mk.injEq] at h;obtain ⟨rfl,rfl,rfl⟩:=h;generalize hk:b.toNat % 32 - 24 = k at *;have hk4:k = 0 \/ k = 1 \/ k = 2 \/ k = 3:=by omega
     have hp:2 ^ k <= 8 /\ 1 <= 2 ^ k:=by rcases hk4 with rfl | rfl | rfl | rfl <;> decide
     generalize hxs:(l.drop (i + 1)).take (2 ^ k) = xs at *;have hxl:xs.length = 2 ^ k:=by rw [<- hxs,length_take,length_drop]; omega
     have hv:=zdh xs;have hbv:=be_valBE xs;rw [hxl] at hv hbv;have hv64:valBE xs < 18446744073709551616:=by rcases hk4 with rfl | rfl | rfl | rfl <;> simp at hv <;> omega
     refine ⟨hi,by omega,by omega,by omega,hv64,by omega,?_⟩
     have htake:(l.drop i).take (i + 1 + 2 ^ k - i) = b :: xs:=by
      rw [hdrop,show i + 1 + 2 ^ k - i = 2 ^ k + 1 by omega,take_succ_cons,hxs]
     rw [htake]
     constructor
     ·intro e; rw [e,length_cons,hxl]; omega
     ·intro e
      have e':(hd (b.toNat / 32) (valBE xs)).length = 2 ^ k + 1:=by omega
      generalize valBE xs = v at *;have h32:b.toNat = b.toNat / 32 * 32 + (24 + k):=by omega
      have hbb:∀ c,b.toNat = b.toNat / 32 * 32 + c -> be 1 (b.toNat / 32 * 32 + c) = [b]:=by
       intro c hc; rw [<- hc]; show [byteOf _] = [b]; congr 1; apply UInt8.toNat_inj.1; rw [zaJ]; omega
      unfold hd at e' ⊢
      split at e'
      ·simp [zag] at e'
      ·split at e'
       ·simp only [length_append,zag] at e'
        obtain rfl:k = 0:=by rcases hk4 with rfl | rfl | rfl | rfl <;> simp at e' ⊢
        rw [if_neg (by assumption),if_pos (by assumption),hbb 24 h32]; simp only [Nat.pow_zero] at hbv; rw [hbv]; rfl
       ·split at e'
        ·simp only [length_append,zag] at e'
         obtain rfl:k = 1:=by rcases hk4 with rfl | rfl | rfl | rfl <;> simp at e' ⊢
         rw [if_neg (by assumption),if_neg (by assumption),if_pos (by assumption),hbb 25 h32]; simp only [Nat.pow_one] at hbv; rw [hbv]; rfl
        ·split at e'
         ·simp only [length_append,zag] at e'
          obtain rfl:k = 2:=by rcases hk4 with rfl | rfl | rfl | rfl <;> simp at e' ⊢
          rw [if_neg (by assumption),if_neg (by assumption),if_neg (by assumption),if_pos (by assumption),hbb 26 h32]; simp at hbv; rw [hbv]; rfl
         ·simp only [length_append,zag] at e'
          obtain rfl:k = 3:=by rcases hk4 with rfl | rfl | rfl | rfl <;> simp at e' ⊢
          rw [if_neg (by assumption),if_neg (by assumption),if_neg (by assumption),if_neg (by assumption),hbb 27 h32]; simp at hbv; rw [hbv]; rfl
theorem zce {l:L8} {i m n x:Nat} (h:getHd l i = some (m,n,x)):i < l.length /\ i < x /\ x <= l.length /\ m <= 7 /\ n < 18446744073709551616 /\ hd m n = (l.drop i).take (x - i):=by
 unfold getHd at h
 cases ha:anyHd l i with
 | none => rw [ha] at h; cases h
 | some r =>
  obtain ⟨m',n',x'⟩:=r;rw [ha] at h;simp only at h
  split at h
  ·rename_i he
   simp only [sI,Prod.mk.injEq] at h;obtain ⟨rfl,rfl,rfl⟩:=h;obtain ⟨h1,h2,h3,h4,h5,_,h6⟩:=zdC ha;exact ⟨h1,h2,h3,h4,h5,h6.2 he⟩
  ·cases h
def hM:Option (Nat × Nat × Nat) -> Int | some (m,_,_) => m | none => -1
def hN:Option (Nat × Nat × Nat) -> Int | some (_,n,_) => n | none => 0
def hX:Option (Nat × Nat × Nat) -> Int | some (_,_,x) => x | none => -1
def anyAt (l:L8) (i:Int):Option (Nat × Nat × Nat):=if i < 0 then none else anyHd l i.toNat
def getAt (l:L8) (i:Int):Option (Nat × Nat × Nat):=if i < 0 then none else getHd l i.toNat
end
section
inductive MsgTop:V -> Nat -> List UInt8 -> Prop where
 | pos (n:Nat) (h:n < 128):MsgTop (.mk 3 n 0 [] []) n []
 | neg (n:Nat) (h:224 <= n /\ n < 256):MsgTop (.mk 3 ((n:Int) - 256) 0 [] []) n []
 | map (n:Nat) (h:n < 16) (kids:List V) (hl:kids.length = 2 * n):MsgTop (.mk 8 0 0 [] kids) (128 + n) (msgs kids)
 | list (kids:List V) (h:kids.length < 16):MsgTop (.mk 7 0 0 [] kids) (144 + kids.length) (msgs kids)
 | text (s:List UInt8) (h:s.length < 32):MsgTop (.mk 5 0 0 s []) (160 + s.length) s
 | nul:MsgTop (.mk 0 0 0 [] []) 192 []
 | fls:MsgTop (.mk 1 0 0 [] []) 194 []
 | tru:MsgTop (.mk 2 0 0 [] []) 195 []
 | uint (j:Nat) (hj:j < 4) (n:Nat) (h:n < 256 ^ (2 ^ j) /\ n < 9223372036854775808):MsgTop (.mk 3 n 0 [] []) (204 + j) (be (2 ^ j) n)
 | sint (j:Nat) (hj:j < 4) (n:Int) (h:n < 0 /\ -(2 ^ (8 * 2 ^ j - 1):Nat) <= n):MsgTop (.mk 3 n 0 [] []) (208 + j) (be (2 ^ j) (lo64 n))
 | dec (n e:Int) (h:-20 <= e /\ e <= 20) (hn:-999999999999999999 <= n /\ n <= 999999999999999999):MsgTop (.mk 4 n e [] []) 199 ([9,4] ++ be 1 (lo64 e) ++ be 8 (lo64 n))
 | tag (n:Nat) (h:n <= 1000000) (kid:V):MsgTop (.mk 9 n 0 [] [kid]) 199 ([4,6] ++ be 4 n ++ msg kid)
 | text1 (s:List UInt8) (h:32 <= s.length /\ s.length < 256):MsgTop (.mk 5 0 0 s []) 217 (be 1 s.length ++ s)
 | text2 (s:List UInt8) (h:256 <= s.length /\ s.length <= 2000):MsgTop (.mk 5 0 0 s []) 218 (be 2 s.length ++ s)
 | bytes1 (s:List UInt8) (h:s.length < 256):MsgTop (.mk 6 0 0 s []) 196 (be 1 s.length ++ s)
 | bytes2 (s:List UInt8) (h:256 <= s.length /\ s.length <= 2000):MsgTop (.mk 6 0 0 s []) 197 (be 2 s.length ++ s)
 | list2 (kids:List V) (h:16 <= kids.length /\ kids.length <= 600):MsgTop (.mk 7 0 0 [] kids) 220 (be 2 kids.length ++ msgs kids)
 | map2 (n:Nat) (h:16 <= n /\ n <= 300) (kids:List V) (hl:kids.length = 2 * n):MsgTop (.mk 8 0 0 [] kids) 222 (be 2 n ++ msgs kids)
theorem inR_iff {n a b:Int}:inR n a b = true ↔ a <= n /\ n <= b:=by simp [inR]
theorem be1 (n:Nat):be 1 n = [byteOf n]:=rfl
theorem byteOf_id {n:Nat} (h:n < 256):(byteOf n).toNat = n:=by rw [zaJ]; omega
theorem zeu {d:Int} {v:V} (h:v.rightBy pairsOk d = true) (hk:v.kids.length <= 300) (hnum:i64ok v.num):∃ b t,MsgTop v b t /\ b < 256 /\ msg v = byteOf b :: t:=by
 obtain ⟨k,n,e,s,kids⟩:=v;simp only [V.kids] at hk;simp only [V.num,i64ok] at hnum;simp only [V.rightBy,Bool.and_eq_true] at h;have hs:=h.2.2;clear h;rw [zes];unfold msgHd;simp only [V.kind,V.num,V.exp,V.text,V.kids];simp only [V.selfBy] at hs;by_cases k0:k = 0
 ·subst k0; simp at hs; obtain ⟨rfl,rfl,rfl,rfl⟩:=hs
  exact ⟨192,[],.nul,by decide,rfl⟩
 by_cases k1:k = 1
 ·subst k1; simp at hs; obtain ⟨rfl,rfl,rfl,rfl⟩:=hs
  exact ⟨194,[],.fls,by decide,rfl⟩
 by_cases k2:k = 2
 ·subst k2; simp at hs; obtain ⟨rfl,rfl,rfl,rfl⟩:=hs
  exact ⟨195,[],.tru,by decide,rfl⟩
 rw [if_neg (show ¬ (k = 0 \/ k = 1 \/ k = 2) by omega)] at hs;simp only [k0,k1,k2,if_false];by_cases k3:k = 3
 ·subst k3; simp at hs; obtain ⟨rfl,rfl,rfl⟩:=hs
  simp only [if_true,msgs,append_nil];unfold msgInt;by_cases c0:-32 <= n /\ n <= 127
  ·rw [if_pos c0,be1]
   by_cases hp:0 <= n
   ·obtain ⟨m,rfl⟩:=Int.eq_ofNat_of_zero_le hp
    rw [zbL _ (by omega)];exact ⟨m,[],.pos m (by omega),by omega,rfl⟩
   ·refine ⟨(n + 256).toNat,[],?_,by omega,?_⟩
    ·have:=MsgTop.neg (n + 256).toNat (by omega)
     rw [show (((n + 256).toNat:Nat):Int) - 256 = n by omega] at this; exact this
    ·congr 1; apply UInt8.toNat_inj.1; rw [zaJ,zaJ]; unfold lo64; omega
  rw [if_neg c0];by_cases hp:0 <= n
  ·obtain ⟨m,rfl⟩:=Int.eq_ofNat_of_zero_le hp
   rw [zbL _ (by omega)];by_cases c1:0 <= (m:Int) /\ (m:Int) <= 255
   ·rw [if_pos c1]; exact ⟨204,_,.uint 0 (by decide) m ⟨by simp; omega,by omega⟩,by decide,rfl⟩
   rw [if_neg c1];by_cases c2:0 <= (m:Int) /\ (m:Int) <= 65535
   ·rw [if_pos c2]; exact ⟨205,_,.uint 1 (by decide) m ⟨by simp; omega,by omega⟩,by decide,rfl⟩
   rw [if_neg c2];by_cases c3:0 <= (m:Int) /\ (m:Int) <= 4294967295
   ·rw [if_pos c3]; exact ⟨206,_,.uint 2 (by decide) m ⟨by simp; omega,by omega⟩,by decide,rfl⟩
   rw [if_neg c3,if_pos hp]; exact ⟨207,_,.uint 3 (by decide) m ⟨by simp; omega,by omega⟩,by decide,rfl⟩
  ·rw [if_neg (by omega),if_neg (by omega),if_neg (by omega),if_neg (by omega)]
   by_cases c1:n ≥ -128
   ·rw [if_pos c1]; exact ⟨208,_,.sint 0 (by decide) n ⟨by omega,by simp; omega⟩,by decide,rfl⟩
   rw [if_neg c1];by_cases c2:n ≥ -32768
   ·rw [if_pos c2]; exact ⟨209,_,.sint 1 (by decide) n ⟨by omega,by simp; omega⟩,by decide,rfl⟩
   rw [if_neg c2];by_cases c3:n ≥ -2147483648
   ·rw [if_pos c3]; exact ⟨210,_,.sint 2 (by decide) n ⟨by omega,by simp; omega⟩,by decide,rfl⟩
   rw [if_neg c3]; exact ⟨211,_,.sint 3 (by decide) n ⟨by omega,by simp; omega⟩,by decide,rfl⟩
 simp only [k3,if_false] at hs ⊢;by_cases k4:k = 4
 ·subst k4; simp [decOk] at hs; obtain ⟨⟨⟨h1,_,h2,_⟩,_⟩,rfl,rfl⟩:=hs
  have h1:=inR_iff.1 h1; have h2:=inR_iff.1 h2
  simp only [if_true,msgs,append_nil];exact ⟨199,_,.dec n e h1 h2,by decide,rfl⟩
 simp only [k4,if_false] at hs ⊢;by_cases k5:k = 5
 ·subst k5; simp at hs; obtain ⟨rfl,rfl,_,h2,rfl⟩:=hs
  simp only [if_true,msgs,append_nil];unfold msgMany;by_cases c0:(s.length:Int) < 32
  ·rw [if_pos c0,be1]
   refine ⟨160 + s.length,s,.text s (by omega),by omega,?_⟩;simp only [cons_append,nil_append,cons.injEq,and_true]
   congr 1; unfold lo64; omega
  rw [if_neg c0];by_cases c1:(s.length:Int) < 256 /\ (217:Int) > 0
  ·rw [if_pos c1,zbL _ (by omega)]; exact ⟨217,_,.text1 s (by omega),by decide,rfl⟩
  rw [if_neg c1,zbL _ (by omega)]; exact ⟨218,_,.text2 s (by omega),by decide,rfl⟩
 simp only [k5,if_false] at hs ⊢;by_cases k6:k = 6
 ·subst k6; simp at hs; obtain ⟨rfl,rfl,h2,rfl⟩:=hs
  simp only [if_true,msgs,append_nil];unfold msgMany;rw [if_neg (by omega)];by_cases c1:(s.length:Int) < 256 /\ (196:Int) > 0
  ·rw [if_pos c1,zbL _ (by omega)]; exact ⟨196,_,.bytes1 s (by omega),by decide,rfl⟩
  rw [if_neg c1,zbL _ (by omega)]; exact ⟨197,_,.bytes2 s (by omega),by decide,rfl⟩
 simp only [k6,if_false] at hs ⊢;by_cases k7:k = 7
 ·subst k7; simp at hs; obtain ⟨rfl,rfl,rfl⟩:=hs
  simp only [if_true];unfold msgMany;by_cases c0:(kids.length:Int) < 16
  ·rw [if_pos c0,be1]
   refine ⟨144 + kids.length,_,.list kids (by omega),by omega,?_⟩;simp only [cons_append,nil_append,cons.injEq,and_true]
   congr 1; unfold lo64; omega
  rw [if_neg c0,if_neg (by omega),zbL _ (by omega)]; exact ⟨220,_,.list2 kids (by omega),by decide,rfl⟩
 simp only [k7,if_false] at hs ⊢;by_cases k8:k = 8
 ·subst k8; simp at hs; obtain ⟨rfl,rfl,rfl,hp⟩:=hs
  simp only [pairsOk,Bool.and_eq_true,decide_eq_true_eq] at hp;obtain ⟨n,hn⟩:∃ n,kids.length = 2 * n:=⟨kids.length / 2,by omega⟩;simp only [if_true];rw [show kids.length / 2 = n by omega];unfold msgMany;by_cases c0:(n:Int) < 16
  ·rw [if_pos c0,be1]
   refine ⟨128 + n,_,.map n (by omega) kids hn,by omega,?_⟩;simp only [cons_append,nil_append,cons.injEq,and_true]
   congr 1; unfold lo64; omega
  rw [if_neg c0,if_neg (by omega),zbL _ (by omega)]; exact ⟨222,_,.map2 n (by omega) kids hn,by decide,rfl⟩
 simp only [k8,if_false] at hs ⊢;by_cases k9:k = 9
 ·subst k9; simp at hs; obtain ⟨h1,rfl,rfl,h2⟩:=hs
  have h1:=inR_iff.1 h1;obtain ⟨m,rfl⟩:=Int.eq_ofNat_of_zero_le h1.1
  match kids,h2 with
  | [kid],_ =>
   rw [zbL _ (by omega)];refine ⟨199,_,.tag m (by omega) kid,by decide,?_⟩;simp [msgs]; rfl
 ·rw [if_neg k9] at hs; cases hs
end
section
def At (s:L8) (i:Nat) (l:L8):Prop:=∃ r,s.drop i = l ++ r
theorem At.app {s:L8} {i:Nat} {a b:L8} (h:At s i (a ++ b)):At s i a /\ At s (i + a.length) b:=by
 obtain ⟨r,h⟩:=h;refine ⟨⟨b ++ r,by rw [h,append_assoc]⟩,r,?_⟩;rw [<- drop_drop,h,append_assoc,drop_left]
theorem At.len {s:L8} {i:Nat} {l:L8} (h:At s i l) (hi:i <= s.length):i + l.length <= s.length:=by
 obtain ⟨r,h⟩:=h
 have:=congrArg length h
 rw [length_drop,length_append] at this; omega
theorem At.take {s:L8} {i:Nat} {l:L8} (h:At s i l):(s.drop i).take l.length = l:=by
 obtain ⟨r,h⟩:=h;rw [h,take_left]
theorem At.cons {s:L8} {i:Nat} {b:UInt8} {t:L8} (h:At s i (b :: t)):s[i]? = some b /\ At s (i + 1) t:=by
 have h2:=At.app (a:=[b]) (b:=t) h;obtain ⟨r,h⟩:=h;refine ⟨?_,h2.2⟩
 have:=congrArg (fun l => l[0]?) h
 simpa using this
theorem At.lt {s:L8} {i:Nat} {b:UInt8} {t:L8} (h:At s i (b :: t)):i < s.length:=by
 have:=h.cons.1
 rcases Nat.lt_or_ge i s.length with h' | h'
 ·exact h'
 ·rw [getElem?_eq_none h'] at this; cases this
theorem zfG:∀ (k n:Nat),valBE (be k n) = n % 256 ^ k
 | 0,n => by simp [be,valBE,Nat.mod_one]
 | k + 1,n => by
  rw [be,zcJ,zfG k,zaJ,Nat.pow_succ,Nat.mul_comm (256 ^ k) 256,Nat.mod_mul];omega
def gwN (s:L8) (i k:Nat):Int:=IntKind.i64.wrap (valBE ((s.drop i).take k))
theorem At.gw {s:L8} {i k n:Nat} (h:At s i (be k n)):gwN s i k = IntKind.i64.wrap ((n % 256 ^ k:Nat):Int):=by
 have:=h.take
 rw [zag] at this;unfold gwN;rw [this,zfG]
theorem At.gw_id {s:L8} {i k n:Nat} (h:At s i (be k n)) (hn:n < 256 ^ k) (h2:n < 9223372036854775808):gwN s i k = n:=by
 rw [h.gw,Nat.mod_eq_of_lt hn,IntKind.wrap_i64]; omega
theorem zdS (s:L8) (i k:Nat):i64ok (gwN s i k):=by
 unfold gwN i64ok; rw [IntKind.wrap_i64]; omega
theorem zbC (s:L8) (i k:Nat) (hk:k <= 2):0 <= gwN s i k /\ gwN s i k < 256 ^ k:=by
 have h1:=zdh ((s.drop i).take k);have h2:((s.drop i).take k).length <= k:=by rw [length_take]; omega
 have h3:256 ^ ((s.drop i).take k).length <= 256 ^ k:=Nat.pow_le_pow_right (by decide) h2;have h4:256 ^ k <= 256 ^ 2:=Nat.pow_le_pow_right (by decide) hk;have e:((256:Int) ^ k) = ((256 ^ k:Nat):Int):=by simp
 rw [e];unfold gwN;rw [IntKind.wrap_i64];have h5:(256:Nat) ^ 2 = 65536:=rfl;omega
end
section
def sgw (n:Int) (k:Nat):Int:=if 1 <= k /\ k <= 7 then (if n % (256 ^ k:Nat) ≥ (256 ^ k / 2:Nat) then n % (256 ^ k:Nat) - (256 ^ k:Nat) else n % (256 ^ k:Nat)) else n
end
section
theorem zgG {s:L8} {i:Nat} {b:UInt8} {t:L8} (h:At s i (b :: t)):gwN s i 1 = b.toNat:=by
 have h2:At s i (be 1 b.toNat):=by
  have:=At.app (a:=[b]) (b:=t) h
  have e:be 1 b.toNat = [b]:=by rw [be1]; congr 1; apply UInt8.toNat_inj.1; rw [zaJ]; have:=b.toNat_lt; omega
  rw [e]; exact this.1
 exact h2.gw_id (by have:=b.toNat_lt; omega) (by have:=b.toNat_lt; omega)
theorem zd7 (n:Int) (k:Nat) (hk:k = 1 \/ k = 2 \/ k = 4 \/ k = 8) (h:-(2 ^ (8 * k - 1):Nat) <= n /\ n < (2 ^ (8 * k - 1):Nat)):sgw (IntKind.i64.wrap ((lo64 n % 256 ^ k:Nat):Int)) k = n:=by
 rcases hk with rfl | rfl | rfl | rfl
 ·have e1:(2 ^ (8 * 1 - 1):Nat) = 128:=rfl
  rw [e1] at h;unfold sgw lo64;rw [if_pos (by decide),IntKind.wrap_i64,show ((256 ^ 1:Nat):Int) = 256 from rfl,show ((256 ^ 1 / 2:Nat):Int) = 128 from rfl,show (256 ^ 1:Nat) = 256 from rfl]
  split <;> omega
 ·have e1:(2 ^ (8 * 2 - 1):Nat) = 32768:=rfl
  rw [e1] at h;unfold sgw lo64;rw [if_pos (by decide),IntKind.wrap_i64,show ((256 ^ 2:Nat):Int) = 65536 from rfl,show ((256 ^ 2 / 2:Nat):Int) = 32768 from rfl,show (256 ^ 2:Nat) = 65536 from rfl]
  split <;> omega
 ·have e1:(2 ^ (8 * 4 - 1):Nat) = 2147483648:=rfl
  rw [e1] at h;unfold sgw lo64;rw [if_pos (by decide),IntKind.wrap_i64,show ((256 ^ 4:Nat):Int) = 4294967296 from rfl,show ((256 ^ 4 / 2:Nat):Int) = 2147483648 from rfl,show (256 ^ 4:Nat) = 4294967296 from rfl]
  split <;> omega
 ·have e1:(2 ^ (8 * 8 - 1):Nat) = 9223372036854775808:=rfl
  rw [e1] at h;unfold sgw lo64;rw [if_neg (by decide),IntKind.wrap_i64,show (256 ^ 8:Nat) = 18446744073709551616 from rfl];omega
theorem wrap_read (n:Int) (h:i64ok n):IntKind.i64.wrap ((lo64 n % 256 ^ 8:Nat):Int) = n:=by
 have:=zd7 n 8 (by decide) (by unfold i64ok at h; have e1:(2 ^ (8 * 8 - 1):Nat) = 9223372036854775808:=rfl; rw [e1]; omega)
 unfold sgw at this
 rwa [if_neg (by decide)] at this
theorem zcq {s:L8} {p:Nat} {e n:Int} (hp:p <= s.length) (h:At s p ([9,4] ++ be 1 (lo64 e) ++ be 8 (lo64 n))) (he:-20 <= e /\ e <= 20) (hn:i64ok n) :
  p + 11 <= s.length /\ gwN s p 1 = 9 /\ gwN s (p + 1) 1 = 4 /\ sgw (gwN s (p + 2) 1) 1 = e /\ gwN s (p + 3) 8 = n:=by
 have hl:=h.len hp;simp only [length_append,zag,length_cons,length_nil] at hl;have h1:=h.app.1.app.1;have h2:=h.app.1.app.2;have h3:=h.app.2;have h4:=h1.cons.2;simp only [length_append,zag,length_cons,length_nil] at h2 h3;refine ⟨hl,zgG h1,zgG h4,?_,?_⟩
 ·rw [h2.gw]; exact zd7 e 1 (by decide) (by have e1:(2 ^ (8 * 1 - 1):Nat) = 128:=rfl; rw [e1]; omega)
 ·rw [h3.gw]; exact wrap_read n hn
theorem zcr {s:L8} {p m:Nat} {t:L8} (hp:p <= s.length) (h:At s p ([4,6] ++ be 4 m ++ t)) (hm:m <= 1000000) :
  p + 6 <= s.length /\ gwN s p 1 = 4 /\ gwN s (p + 1) 1 = 6 /\ gwN s (p + 2) 4 = m /\ At s (p + 6) t:=by
 have hl:=h.app.1.len hp;simp only [length_append,zag,length_cons,length_nil] at hl;have h1:=h.app.1.app.1;have h2:=h.app.1.app.2;have h3:=h.app.2;have h4:=h1.cons.2;simp only [length_append,zag,length_cons,length_nil] at h2 h3;refine ⟨hl,zgG h1,zgG h4,h2.gw_id (by have e1:(256 ^ 4:Nat) = 4294967296:=rfl; rw [e1]; omega) (by omega),h3⟩
end
section
open Go.Lib (validD)
theorem zcZ {α:Type} {l:List α} {i:Nat} (h:i < l.length) (d:α):l.getD i d = l[i]:=by simp [getD,h]
def allN (n:Nat) (f:Nat -> Bool):Bool:=(range n).all f
theorem allN_yes {n:Nat} {f:Nat -> Bool} (h:∀ i < n,f i = true):allN n f = true:=by
 unfold allN; rw [all_eq_true]; exact fun i hi => h i (mem_range.1 hi)
theorem zhJ {n:Nat} {f:Nat -> Bool} (i:Nat) (hi:i < n) (h:f i = false):allN n f = false:=by
 unfold allN; rw [all_eq_false]; exact ⟨i,mem_range.2 hi,by rw [h]; decide⟩
theorem zhK {n:Nat} {f:Nat -> Bool} (h:allN n f = true) (i:Nat) (hi:i < n):f i = true:=by
 unfold allN at h; rw [all_eq_true] at h; exact h i (mem_range.2 hi)
def nmB (ns:List (L8)) (i:Nat):Bool:=validD (ns.getD i []) && (decide ((ns.getD i []).length <= 100) && decide (ixF ns (ns.getD i []) 0 = i))
def nmsB (ns:List (L8)):Bool:=decide (ns.length <= 100) && allN ns.length (nmB ns)
def refOf (v:V):Int:=if v.kind = 9 /\ v.num = 6 then (match v.kids with | [k] => if k.kind = 3 /\ 0 <= k.num then k.num else -1 | _ => -1) else -1
mutual
def V.ahead (i:Int):V -> Bool
 | .mk k n e s kids => if k = 9 /\ n = 6 then decide (0 <= refOf (.mk k n e s kids)) && decide (refOf (.mk k n e s kids) < i) else V.aheads i kids
def V.aheads (i:Int):List V -> Bool
 | [] => true
 | v :: vs => V.ahead i v && V.aheads i vs
end
theorem V.aheads_all (i:Int):∀ vs:List V,V.aheads i vs = allN vs.length (fun j => (vs.getD j (.mk 0 0 0 [] [])).ahead i)
 | [] => rfl
 | v :: vs => by
  have:=V.aheads_all i vs
  unfold allN at *;rw [V.aheads,this,length_cons,range_succ_eq_map,all_cons,all_map];rfl
theorem V.ahead_eq (i:Int) (v:V):v.ahead i = if v.kind = 9 /\ v.num = 6 then decide (0 <= refOf v) && decide (refOf v < i) else V.aheads i v.kids:=by obtain ⟨k,n,e,s,kids⟩:=v; rw [V.ahead]; rfl
def ownA (i:Int) (v:V):Bool:=if v.kind = 9 /\ v.num = 6 then decide (0 <= refOf v) && decide (refOf v < i) else true
mutual
def V.ahW (i:Int):V -> Bool
 | .mk k n e s kids => ownA i (.mk k n e s kids) && V.ahWs i kids
def V.ahWs (i:Int):List V -> Bool
 | [] => true
 | v :: vs => V.ahW i v && V.ahWs i vs
end
theorem V.ahW_eq (i:Int) (v:V):v.ahW i = (ownA i v && V.ahWs i v.kids):=by obtain ⟨k,n,e,s,kids⟩:=v; rw [V.ahW]; rfl
theorem V.ahWs_app (i:Int):∀ a b:List V,V.ahWs i (a ++ b) = (V.ahWs i a && V.ahWs i b)
 | [],b => by simp [V.ahWs]
 | x :: a,b => by simp only [cons_append,V.ahWs,V.ahWs_app i a b,Bool.and_assoc]
theorem V.ok_self {v:V} (h:v.ok = true):V.selfBy pairsOk v = true:=by
 obtain ⟨k,n,e,s,kids⟩:=v;unfold V.ok at h;simp only [V.rightBy,Bool.and_eq_true] at h;exact h.1.2.2
theorem V.ok_one {v:V} (h:v.ok = true) (h9:v.kind = 9):v.kids.length = 1:=by
 have:=V.ok_self h
 obtain ⟨k,n,e,s,kids⟩:=v;simp only [V.kind] at h9; subst h9
 simp [V.selfBy] at this;exact this.2.2.2
theorem V.ok_leaf {v:V} (h:v.ok = true) (h3:v.kind = 3):v.kids = []:=by
 have:=V.ok_self h
 obtain ⟨k,n,e,s,kids⟩:=v;simp only [V.kind] at h3; subst h3
 simp [V.selfBy] at this;exact this.2.2
theorem zgH (i:Int):∀ (N:Nat) (v:V),v.nodes <= N -> v.ok = true -> v.ahW i = v.ahead i
 | 0,v,hn,_ => by obtain ⟨k,n,e,s,kids⟩:=v; simp only [V.nodes] at hn; omega
 | N + 1,v,hn,hk => by
  have hkids:∀ (l:List V),(∀ (j:Nat) (hj:j < l.length),l[j].nodes <= N /\ l[j].ok = true) -> V.ahWs i l = V.aheads i l:=by
   intro l
   induction l with
   | nil => intro _; rfl
   | cons x l ih =>
    intro h;have h0:=h 0 (Nat.succ_pos _);rw [V.ahWs,V.aheads,zgH i N x h0.1 h0.2,ih fun j hj => h (j + 1) (Nat.succ_lt_succ hj)]
  have hks:=hkids v.kids fun j hj => ⟨V.nodes_kid hn j hj,V.ok_kid hk j hj⟩
  rw [V.ahW_eq,V.ahead_eq,hks,ownA];by_cases h9:v.kind = 9 /\ v.num = 6
  ·rw [if_pos h9,if_pos h9]
   by_cases hr:0 <= refOf v
   ·have h1:=V.ok_one hk h9.1
    have hx:V.aheads i v.kids = true:=by
     match hkk:v.kids,h1 with
     | [x],_ =>
      have hx3:x.kind = 3:=by
       unfold refOf at hr;rw [if_pos h9,hkk] at hr;simp only at hr
       split at hr
       ·rename_i h; exact h.1
       ·exact absurd hr (by decide)
      have hxo:=V.ok_kid hk 0 (by rw [hkk]; exact Nat.succ_pos _);simp only [hkk,getElem_cons_zero] at hxo;rw [V.aheads,V.ahead_eq,if_neg (by omega),V.ok_leaf hxo hx3]; rfl
    rw [hx,Bool.and_true]
   ·rw [decide_eq_false hr]; rfl
  ·rw [if_neg h9,if_neg h9]; rfl
def tabB (vs:List V):Bool:=decide (vs.length <= 60) && allN vs.length (fun i => (vs.getD i (.mk 0 0 0 [] [])).ok && (vs.getD i (.mk 0 0 0 [] [])).ahead i)
theorem zfH {vs:List V} (h:tabB vs = true):vs.length <= 60 /\ ∀ v ∈ vs,v.ok = true:=by
 unfold tabB at h;simp only [Bool.and_eq_true,decide_eq_true_eq] at h;refine ⟨h.1,fun v hv => ?_⟩;obtain ⟨i,hi,rfl⟩:=mem_iff_getElem.1 hv
 have:=zhK h.2 i hi
 simp only [Bool.and_eq_true,zcZ hi] at this;exact this.1
theorem zfI {ns:List (L8)} (h:nmsB ns = true):ns.length <= 100 /\ ∀ n ∈ ns,n.length <= 100:=by
 unfold nmsB at h;simp only [Bool.and_eq_true,decide_eq_true_eq] at h;refine ⟨h.1,fun v hv => ?_⟩;obtain ⟨i,hi,rfl⟩:=mem_iff_getElem.1 hv
 have:=zhK h.2 i hi
 unfold nmB at this;simp only [Bool.and_eq_true,decide_eq_true_eq,zcZ hi] at this;exact this.2.1
def nmsT:List (L8) -> L8
 | [] => []
 | n :: ns => hd 3 n.length ++ n ++ nmsT ns
theorem zdi:∀ a b:List (L8),nmsT (a ++ b) = nmsT a ++ nmsT b
 | [],b => rfl
 | n :: a,b => by simp only [cons_append,nmsT,zdi a b,append_assoc]
theorem zgI {ns:List (L8)} {i:Nat} (h:i < ns.length):nmsT (ns.take (i + 1)) = nmsT (ns.take i) ++ (hd 3 ns[i].length ++ ns[i]):=by
 rw [take_succ_eq_append_getElem h,zdi]; simp [nmsT]
theorem nmsT_len:∀ {ns:List (L8)} {m:Nat},(∀ n ∈ ns,n.length <= m) -> (nmsT ns).length <= (9 + m) * ns.length
 | [],m,_ => by simp [nmsT]
 | n :: ns,m,h => by
  have h1:=h n (mem_cons_self ..);have h2:=nmsT_len (ns:=ns) (m:=m) fun x hx => h x (mem_cons_of_mem _ hx)
  have h3:=za3 3 n.length;rw [nmsT,length_append,length_append,length_cons,Nat.mul_succ]; omega
theorem zcA:∀ a b:List V,msgs (a ++ b) = msgs a ++ msgs b
 | [],b => by simp [msgs]
 | x :: a,b => by simp only [cons_append,msgs,zcA a b,append_assoc]
theorem ze6 {vs:List V} {i:Nat} (h:i < vs.length):msgs (vs.take (i + 1)) = msgs (vs.take i) ++ msg vs[i]:=by
 rw [take_succ_eq_append_getElem h,zcA]; simp [msgs]
theorem zev {v:V} (h:v.ok = true):(msg v).length <= 1052176:=by
 have h1:=zhE v;have h2:v.nodes <= 300:=by unfold V.ok at h; simp only [Bool.and_eq_true,decide_eq_true_eq] at h; exact h.2
 have h3:=V.ok_bulk h;omega
theorem ze7:∀ {vs:List V},(∀ v ∈ vs,v.ok = true) -> (msgs vs).length <= 1052176 * vs.length
 | [],_ => by simp [msgs]
 | v :: vs,h => by
  have h1:=zev (h v (mem_cons_self ..));have h2:=ze7 (vs:=vs) fun x hx => h x (mem_cons_of_mem _ hx)
  rw [msgs,length_append,length_cons,Nat.mul_succ]; omega
def dictT (ns:List (L8)) (vs:List V):L8:=hd 4 ns.length ++ nmsT ns ++ hd 4 vs.length ++ msgs vs
def dictP (ns:List (L8)) (vs:List V):L8:=if nmsB ns && tabB vs then dictT ns vs else []
def dictB (ns:List (L8)) (vs:List V):Bool:=(nmsB ns && tabB vs) && decide ((dictT ns vs).length <= 60000)
theorem zgJ (ns:List (L8)) (vs:List V):1 <= (dictT ns vs).length:=by
 have:=za3 4 ns.length
 simp only [dictT,length_append]; omega
theorem dictB_P (ns:List (L8)) (vs:List V):dictB ns vs = decide (1 <= ((dictP ns vs).length:Int) /\ ((dictP ns vs).length:Int) <= 60000):=by
 unfold dictB dictP
 have:=zgJ ns vs
 cases h:(nmsB ns && tabB vs) with
 | false => simp
 | true => simp only [if_true,Bool.true_and]; exact decide_eq_decide.2 (by omega)
theorem zdj {s:L8} {i m n:Nat} (hm:m <= 7) (hn:n < 18446744073709551616) (hi:i <= s.length) (h:At s i (hd m n)):getHd s i = some (m,n,i + (hd m n).length):=by
 have hlen:=h.len hi
 have long:∀ k,k <= 3 -> n < 256 ^ (2 ^ k) -> hd m n = be 1 (m * 32 + (24 + k)) ++ be (2 ^ k) n -> getHd s i = some (m,n,i + (hd m n).length):=by
  intro k hk hnk he;have hl1:(hd m n).length = 1 + 2 ^ k:=by rw [he,length_append,zag,zag]
  rw [hl1] at hlen ⊢;rw [he] at h;obtain ⟨h1,h2⟩:=At.cons (show At s i (byteOf (m * 32 + (24 + k)) :: be (2 ^ k) n) from h);have hb:(byteOf (m * 32 + (24 + k))).toNat = m * 32 + (24 + k):=by rw [zaJ]; omega
  have ht:=h2.take;rw [zag] at ht;unfold getHd anyHd;rw [h1];simp only [hb];rw [if_neg (by omega),if_neg (by omega),show (m * 32 + (24 + k)) % 32 - 24 = k by omega,if_neg (by omega),ht,zfG,Nat.mod_eq_of_lt hnk,show (m * 32 + (24 + k)) / 32 = m by omega];simp only [hl1];rw [if_pos (by omega),show i + 1 + 2 ^ k = i + (1 + 2 ^ k) by omega]
 by_cases h1:n < 24
 ·have he:hd m n = be 1 (m * 32 + n):=by unfold hd; rw [if_pos h1]
  have hl1:(hd m n).length = 1:=by rw [he,zag]
  rw [hl1];rw [he] at h;obtain ⟨h2,_⟩:=At.cons (show At s i (byteOf (m * 32 + n) :: []) from h);have hb:(byteOf (m * 32 + n)).toNat = m * 32 + n:=by rw [zaJ]; omega
  unfold getHd anyHd;rw [h2];simp only [hb];rw [if_pos (by omega),show (m * 32 + n) % 32 = n by omega,show (m * 32 + n) / 32 = m by omega];simp only [hl1,if_true]
 ·by_cases h2:n < 256
  ·exact long 0 (by decide) (by simpa using h2) (by unfold hd; rw [if_neg h1,if_pos h2])
  ·by_cases h3:n < 65536
   ·exact long 1 (by decide) (by simpa using h3) (by unfold hd; rw [if_neg h1,if_neg h2,if_pos h3])
   ·by_cases h4:n < 4294967296
    ·exact long 2 (by decide) (by simpa using h4) (by unfold hd; rw [if_neg h1,if_neg h2,if_neg h3,if_pos h4])
    ·exact long 3 (by decide) (by simpa using hn) (by unfold hd; rw [if_neg h1,if_neg h2,if_neg h3,if_neg h4])
end
section
open Go.Lib (validD)
variable {T:World -> Prop} {hT:Low ngl T}
attribute [local irreducible] po mw pt
theorem zew {C:Cx} {W:World} {l:L8} {y:Value} (h:RpV C W (.d (pS l)) y):y = .string ⟨l.toArray⟩:=by
 cases h with
 | d _ _ h => cases h; rfl
theorem rd_strRow {w:World} {ls:List (L8)} {v:Value} (h:Rd w (dSs ls) [v]):StrRow w v ls:=by
 obtain ⟨a,c,rfl,hg⟩:=h.strs;exact ⟨a,c,rfl,fun hne => by obtain ⟨_,_,b,o,ha,_,hc⟩:=hg hne; exact ⟨b,o,ha,hc⟩⟩
theorem l11d_fn (ks:List (L8)) (key:L8) (hl:ks.length <= 4294967295):FnV (env T hT) 60 [.d (pSs ks),.d (pS key)] (.d (pI (ixF ks key 0))):=by
 refine FnV.old rfl ?_;intro w C vs hF hng hT hl2 hv
 match vs,hl2 with
 | [v,k],_ =>
  have h1:=vRd1 hF (dSs_wf ks) (dSs_pc ks) (hv 0 _ _ rfl rfl);have h2:=zew (hv 1 _ _ rfl rfl);subst h2;exact l11At_any ks v key w (rd_strRow h1) (by omega)
theorem ks_arg (ks:List (L8)) (key:L8):PV.dats [.d (pSs ks),.d (pS key)] = some [.d (pSs ks),.d (pS key)]:=congrArg (fun x => some [PV.d x,PV.d (pS key)]) (zgk ks)
theorem dats_ks {ks:List (L8)} {key:L8} {a b:PV} (ha:a = .d (pSs ks)) (hb:b = .d (pS key)):PV.dats [a,b] = some [.d (pSs ks),.d (pS key)]:=by subst ha; subst hb; exact ks_arg ks key
theorem toks_fn (l:L8) (hl:l.length <= 4294967295):FnV (env T hT) 59 [.d (pS l)] (.d (pB (validD l))):=by
 refine FnV.old rfl fun w C vs hF _ _ hlen hv => ?_
 match vs,hlen with
 | [x],_ =>
  have h1:=zew (hv 0 _ _ rfl rfl);subst h1;exact zcY l w hl
theorem zbH (m n:Int) (hm:0 <= m /\ m <= 7) (hn:0 <= n /\ n <= 18446744073709551615):FnV (env T hT) 30 [.d (pI m),.d (.v (.int .u64 n))] (.d (pS (hd m.toNat n.toNat))):=by
 refine FnV.old rfl fun w C vs hF _ _ hlen hv => ?_
 match vs,hlen with
 | [x,y],_ =>
  have h1:=zbV (hv 0 _ _ rfl rfl); have h2:=zbV (hv 1 _ _ rfl rfl)
  subst h1; subst h2
  exact zdQ m n w hm hn
theorem nmsB_no {ns:List (L8)} {i:Nat} (h:i < ns.length) (hb:nmB ns i = false):nmsB ns = false:=by unfold nmsB; rw [zhJ i h hb,Bool.and_false]
theorem zcB {n:Nat} {f:Nat -> Bool} (h:allN n f = true) (k:f n = true):allN (n + 1) f = true:=allN_yes fun i hi => by
 rcases Nat.lt_or_ge i n with h' | h'
 ·exact zhK h i h'
 ·obtain rfl:i = n:=by omega
  exact k
def NkI (ns:List (L8)) (m:Nat) (st:St):Prop:=∃ i:Nat,i <= ns.length /\ m = ns.length - i /\ has st.tm [(0,.d (pSs ns)),(3,.d (pI i))] /\ allN i (nmB ns) = true
theorem namesOk_fn (ns:List (L8)) (hl:ns.length <= 4294967295) (hbn:∀ n ∈ ns,n.length <= 4294967295):FnV (env T hT) 28 [.d (pSs ns)] (.d (pB (nmsB ns))):=by
 refine zaW (zaj zgE) (by show 1 <= 37; decide) fun B hB => ?_
 unfold m_s_NamesOk;refine mP ?_;refine zan (fun s => has s.tm [(0,.d (pSs ns))] /\ allN ns.length (nmB ns) = true) ?_ ?_
 ·refine mP ?_
  refine zab ?_;refine zas (NkI ns) ns.length ⟨0,Nat.zero_le _,rfl,⟨rfl,rfl,trivial⟩,rfl⟩ ?_;rintro m tm bx nt live ⟨i,hi,rfl,ht,hall⟩;obtain ⟨tm0,rfl⟩:=zac ht;refine mM ?_;(iterate 2 refine mS ?_);refine zav (n:=ns.length) rfl rfl (zbr ns) ?_;refine po_b rfl rfl (fun b hb => ?_);refine zaa ?_;refine zaZ (p:=(i:Int) < ns.length) hb rfl (fun h _ => ?_) (fun h _ => ?_)
  ·have hil:i < ns.length:=by omega
   have hg:=zcZ hil [];have hno:=nmsB_no hil;unfold nmB at hno;rw [hg] at hno;have htk:=toks_fn (T:=T) (hT:=hT) ns[i] (hbn ns[i] (getElem_mem hil));refine zai ?_;refine zak (zab (zak (zaf ?_)));(iterate 2 refine mS ?_);refine zaH (es:=pSr ns) (e:=[pS ns[i]]) rfl rfl rfl ⟨by omega,by rw [Int.toNat_natCast]; exact zb8 hil⟩ rfl ?_;refine mS ?_;refine zad rfl htk ?_;(iterate 2 refine mS ?_)
   cases hv:validD ns[i] with
   | false =>
    have hF:=hno (by rw [hv]; rfl);refine mZ ?_;(iterate 2 refine mS ?_);refine mZ ?_;refine mT ?_;refine mP ?_;rw [hF]
    exact mR
   | true =>
   (iterate 2 refine mS ?_);refine zaH (es:=pSr ns) (e:=[pS ns[i]]) rfl rfl rfl ⟨by omega,by rw [Int.toNat_natCast]; exact zb8 hil⟩ rfl ?_;refine mS ?_;refine po_q (v:=.d (pI ns[i].length)) rfl rfl ?_;by_cases h100:ns[i].length > 100
   ·have hF:=hno (by rw [hv,decide_eq_false (show ¬ ns[i].length <= 100 by omega)]; rfl)
    refine zah rfl rfl (decide_eq_true (by omega)) ?_;(iterate 2 refine mS ?_);refine mZ ?_;refine mT ?_;refine mP ?_;rw [hF];exact mR
   ·refine zal rfl rfl (decide_eq_false (by omega)) ?_
    (iterate 5 refine mS ?_);refine zaH (es:=pSr ns) (e:=[pS ns[i]]) rfl rfl rfl ⟨by omega,by rw [Int.toNat_natCast]; exact zb8 hil⟩ rfl ?_;refine mS ?_;refine zaC (b:=true) rfl (fun _ => dats_ks rfl rfl) (fun _ => l11d_fn ns ns[i] hl) ?_;refine mS ?_;refine po_b rfl rfl (fun b2 hb2 => ?_);refine mN ?_
    cases b2 with
    | true =>
     have hF:=hno (by rw [hv,decide_eq_true (show ns[i].length <= 100 by omega),decide_eq_false (show ¬ ixF ns ns[i] 0 = (i:Int) by simpa using hb2)]; rfl);refine mwT ?_;refine mP ?_;rw [hF]
     exact mR
    | false =>
     refine mwF ?_;refine zai ?_;refine zaf ?_;refine mS ?_;refine zam (n:=((i + 1:Nat):Int)) rfl rfl rfl (by omega) (by omega) ?_;refine mN ?_;exact ⟨ns.length - (i + 1),by omega,i + 1,hil,rfl,⟨rfl,rfl,trivial⟩,zcB hall (by unfold nmB; rw [hg,hv,decide_eq_true (show ns[i].length <= 100 by omega),decide_eq_true (show ixF ns ns[i] 0 = (i:Int) by simpa using hb2)]; rfl)⟩
  ·refine zat ?_
   have:i = ns.length:=by omega
   subst this;exact ⟨⟨rfl,trivial⟩,hall⟩
 rintro tm bx nt live ⟨ht,hall⟩;obtain ⟨tm0,rfl⟩:=zac ht;refine mQ ?_;refine zav (n:=ns.length) rfl rfl (zbr ns) ?_;refine po_b rfl rfl (fun b hb => ?_);refine mN ?_
 have:nmsB ns = b:=by rw [hb]; unfold nmsB; rw [hall,Bool.and_true]; exact decide_eq_decide.2 (by omega)
 rw [this];exact mR
end
section
variable {T:World -> Prop} {hT:Low ngl T}
attribute [local irreducible] po mw pt
theorem zbW (a b:Int):PV.dats [.d (pI a),.d (.v (.int .u64 b))] = some [.d (pI a),.d (.v (.int .u64 b))]:=rfl
theorem zhL (n:Int) (hn:i64ok n):FnV (env T hT) 141 [.d (pI n)] (.d (pS (cnum n))):=by
 unfold i64ok at hn;refine zaW (zaj zhz) (by show 1 <= 12; decide) fun B hB => ?_
 unfold m_s_l05Num;refine mP ?_;refine mM ?_;refine mS ?_;by_cases h:0 <= n
 ·refine zah rfl rfl (decide_eq_true h) ?_
  refine mT ?_;refine mQ ?_;refine zbb (n:=n) rfl rfl (by rw [IntKind.wrap_u64]; omega) ?_;refine zad (zbW 0 n) (zbH (T:=T) (hT:=hT) 0 n (by omega) (by omega)) ?_;refine mN ?_;refine zae ⟨.inr rfl,[.d (pS (hd 0 n.toNat))],rfl,?_⟩;unfold cnum; rw [if_pos h]; rfl
 ·refine zal rfl rfl (decide_eq_false h) ?_
  refine mK ?_;refine mQ ?_;refine zaK (n:=-1 - n) rfl rfl rfl rfl (by omega) ?_;refine zbb (n:=-1 - n) rfl rfl (by rw [IntKind.wrap_u64]; omega) ?_;refine zad (zbW 1 (-1 - n)) (zbH (T:=T) (hT:=hT) 1 (-1 - n) (by omega) (by omega)) ?_;refine mN ?_;refine zae ⟨.inr rfl,[.d (pS (hd 1 (-1 - n).toNat))],rfl,?_⟩;unfold cnum; rw [if_neg h]; rfl
section
variable {E:Env} {K:St -> Prop} {tm:Nat -> PV} {bx:LP PC} {nt d:Nat} {live:List Nat} {r:List MOpr} {g:Option (Nat × Bool)} {c:List X} {x y:X}
theorem po_quo {a b n:Int} (hg:gd g tm = some true) (hx:ev tm x = .d (pI a)) (hy:ev tm y = .d (pI b)) (hb:b ≠ 0) (hn:IntKind.i64.wrap (a.tdiv b) = n) (h:po E r K ⟨up d (.d (pI n)) tm,bx,nt,live⟩):po E (⟨some d,.bin .quo false x y,g,c⟩ :: r) K ⟨tm,bx,nt,live⟩:=by
 refine po_q hg ?_ h;subst hn
 have e:binV .quo false (.int .i64 a) (.int .i64 b) = some (.int .i64 (IntKind.i64.wrap (a.tdiv b))):=by
  show (if IntKind.i64 = IntKind.i64 then (if b = 0 then none else some (Value.int .i64 (IntKind.i64.wrap (a.tdiv b)))) else none) = _;rw [if_pos rfl,if_neg hb]
 simp only [qf,hx,hy,pI,e,Option.map_some]
end
theorem zfJ:∀ {vs:List V},V.wfs vs -> ∀ v ∈ vs,v.wf
 | [],_,v,h => by cases h
 | x :: xs,h,v,hv => by
  rcases mem_cons.1 hv with rfl | hv
  ·exact h.1
  ·exact zfJ h.2 v hv
theorem V.wf_fld {v:V} (h:v.wf):i64ok v.kind /\ i64ok v.num /\ i64ok v.exp /\ v.kids.length <= 9223372036854775807 /\ V.wfs v.kids:=by
 obtain ⟨k,n,e,s,ks⟩:=v;exact ⟨h.1,h.2.1,h.2.2.1,h.2.2.2.2.1,h.2.2.2.2.2⟩
theorem V.bulk_eq0 (v:V):v.bulk = v.text.length + v.kids.length + V.bulks v.kids:=by
 obtain ⟨k,n,e,s,ks⟩:=v;simp only [V.bulk,V.text,V.kids]; omega
def PuP (T:World -> Prop) (hT:Low ngl T) (N:Nat):Prop:=∀ v:V,v.nodes <= N -> v.wf -> 36 * v.nodes + v.bulk <= 2147483647 -> FnV (env T hT) 140 [.ag (vC v)] (.d (pS v.cbor))
def PuI (v:V) (h:L8) (m:Nat) (st:St):Prop:=∃ i:Nat,i <= v.kids.length /\ m = v.kids.length - i /\ has st.tm [(1,.ref 0 0),(3,.d (pS (h ++ V.cbors (v.kids.take i)))),(4,.d (pI i))] /\ st.bx = [vC v]
theorem cput_step {N:Nat} (ih:PuP T hT N):PuP T hT (N + 1):=by
 intro v hn hw hb;obtain ⟨wk,wn,we,wl,wks⟩:=V.wf_fld hw;have hnk:=V.nodes_eq0 v;have hbe:=V.bulk_eq0 v;have hcl:=V.cbors_len v.kids;have hkn:=V.kids_nodes v.kids;have hsmall:0 <= v.kind /\ v.kind <= 6 -> v.cbor = cborOwn v.kind v.num v.exp v.text v.kids.length:=fun h => by rw [V.cbor_eq,if_pos h,append_nil]
 have hbig:¬ (0 <= v.kind /\ v.kind <= 6) -> v.cbor = cborOwn v.kind v.num v.exp v.text v.kids.length ++ V.cbors v.kids:=fun h => by rw [V.cbor_eq,if_neg h]
 unfold i64ok at wk;have htu:IntKind.u64.wrap ((v.text.length:Nat):Int) = ((v.text.length:Nat):Int):=by rw [IntKind.wrap_u64]; omega
 have hd9:=fun a b => (za3 a b).1
 refine zaW (zaj zhy) (by show 1 <= 91; decide) fun B hB => ?_
 unfold m_s_l05Put;refine mO ?_;refine zbf (cs:=vC v) rfl ?_;refine mN ?_;refine mP ?_;refine zan (fun st => ∃ h:L8,has st.tm [(1,.ref 0 0),(3,.d (pS h))] /\ st.bx = [vC v] /\ h.length <= 9 /\ v.cbor = h ++ V.cbors v.kids) ?_ ?_
 ·refine mP ?_
  refine zab ?_;refine mO ?_;by_cases k0:v.kind = 0
  ·refine zah rfl rfl (beq_iff_eq.2 k0) ?_
   refine mT ?_;refine mO ?_;refine zad (zbW 7 22) (zbH (T:=T) (hT:=hT) 7 22 (by omega) (by omega)) ?_;refine mN ?_;refine zae ⟨.inr rfl,[.d (pS (hd 7 22))],rfl,?_⟩;rw [hsmall (by omega)]; unfold cborOwn; rw [if_pos k0]; rfl
  refine zal rfl rfl (beq_eq_false_iff_ne.2 k0) ?_;refine mF ?_;refine zan (fun st => has st.tm [(1,.ref 0 0),(6,.d (pI v.kind)),(14,.d (pB (decide (v.kind = 1 \/ v.kind = 2))))] /\ st.bx = [vC v]) ?_ ?_
  ·refine mO ?_
   by_cases k1:v.kind = 1
   ·refine zah rfl rfl (beq_iff_eq.2 k1) ?_
    refine mT ?_;refine zai ?_;exact ⟨⟨rfl,rfl,by rw [decide_eq_true (.inl k1)]; rfl,trivial⟩,rfl⟩
   refine zal rfl rfl (beq_eq_false_iff_ne.2 k1) ?_;refine mF ?_;refine zaf ?_;by_cases k2:v.kind = 2
   ·refine zah rfl rfl (beq_iff_eq.2 k2) ?_
    refine mN ?_;exact ⟨⟨rfl,rfl,by rw [decide_eq_true (.inr k2)]; rfl,trivial⟩,rfl⟩
   ·refine zal rfl rfl (beq_eq_false_iff_ne.2 k2) ?_
    refine mN ?_;exact ⟨⟨rfl,rfl,by rw [decide_eq_false (by omega)]; rfl,trivial⟩,rfl⟩
  rintro tm bx nt live ⟨ht,hbx⟩;obtain ⟨tm1,rfl⟩:=zac ht;simp only at hbx; subst hbx
  clear ht;by_cases k12:v.kind = 1 \/ v.kind = 2
  ·rw [decide_eq_true k12]
   refine mwT ?_;refine mO ?_;(iterate 2 refine mS ?_);refine zam (n:=19 + v.kind) rfl rfl rfl rfl (by omega) ?_;refine zbb (n:=19 + v.kind) rfl rfl (by rw [IntKind.wrap_u64]; omega) ?_;refine zad (zbW 7 (19 + v.kind)) (zbH (T:=T) (hT:=hT) 7 (19 + v.kind) (by omega) (by omega)) ?_;refine mN ?_;refine zae ⟨.inr rfl,[.d (pS (hd 7 (19 + v.kind).toNat))],rfl,?_⟩;rw [hsmall (by omega)]; unfold cborOwn; rw [if_neg k0,if_pos k12]; rfl
  rw [decide_eq_false k12];refine mwF ?_;refine mO ?_;by_cases k3:v.kind = 3
  ·refine zah rfl rfl (beq_iff_eq.2 k3) ?_
   refine mT ?_;refine mO ?_;(iterate 2 refine mS ?_);refine zad (args:=[.d (pI v.num)]) rfl (zhL (T:=T) (hT:=hT) v.num wn) ?_;refine mN ?_;refine zae ⟨.inr rfl,[.d (pS (cnum v.num))],rfl,?_⟩;rw [hsmall (by omega)]; unfold cborOwn; rw [if_neg k0,if_neg k12,if_pos k3]; rfl
  refine zal rfl rfl (beq_eq_false_iff_ne.2 k3) ?_;refine mF ?_;refine mO ?_;by_cases k4:v.kind = 4
  ·refine zah rfl rfl (beq_iff_eq.2 k4) ?_
   refine mT ?_;refine mO ?_;have c1:=zd5 v.num;have c2:=zd5 v.exp;have c3:=hd9 6 4;have c4:=hd9 4 2;(iterate 4 refine mS ?_);refine zad (zbW 6 4) (zbH (T:=T) (hT:=hT) 6 4 (by omega) (by omega)) ?_;refine zad (zbW 4 2) (zbH (T:=T) (hT:=hT) 4 2 (by omega) (by omega)) ?_;refine zax (la:=hd 6 4) (lb:=hd 4 2) rfl rfl rfl (by omega) ?_;refine zad (args:=[.d (pI v.exp)]) rfl (zhL (T:=T) (hT:=hT) v.exp we) ?_;refine zax (la:=hd 6 4 ++ hd 4 2) (lb:=cnum v.exp) rfl rfl rfl (by rw [length_append]; omega) ?_;refine zad (args:=[.d (pI v.num)]) rfl (zhL (T:=T) (hT:=hT) v.num wn) ?_;refine zax (la:=hd 6 4 ++ hd 4 2 ++ cnum v.exp) (lb:=cnum v.num) rfl rfl rfl (by rw [length_append,length_append]; omega) ?_;refine mN ?_;refine zae ⟨.inr rfl,[.d (pS (hd 6 4 ++ hd 4 2 ++ cnum v.exp ++ cnum v.num))],rfl,?_⟩;rw [hsmall (by omega)]; unfold cborOwn; rw [if_neg k0,if_neg k12,if_neg k3,if_pos k4]; rfl
  refine zal rfl rfl (beq_eq_false_iff_ne.2 k4) ?_;refine mF ?_;refine mO ?_;by_cases k5:v.kind = 5
  ·refine zah rfl rfl (beq_iff_eq.2 k5) ?_
   refine mT ?_;refine mO ?_;have c1:=hd9 3 v.text.length;(iterate 3 refine mS ?_);refine zbb (n:=((v.text.length:Nat):Int)) rfl rfl htu ?_;(iterate 2 refine mS ?_);refine zad (zbW 3 v.text.length) (zbH (T:=T) (hT:=hT) 3 v.text.length (by omega) (by omega)) ?_;refine zax (la:=hd 3 v.text.length) (lb:=v.text) rfl rfl rfl (by omega) ?_;refine mN ?_;refine zae ⟨.inr rfl,[.d (pS (hd 3 v.text.length ++ v.text))],rfl,?_⟩;rw [hsmall (by omega)]; unfold cborOwn; rw [if_neg k0,if_neg k12,if_neg k3,if_neg k4,if_pos k5]; rfl
  refine zal rfl rfl (beq_eq_false_iff_ne.2 k5) ?_;refine mF ?_;refine mO ?_;by_cases k6:v.kind = 6
  ·refine zah rfl rfl (beq_iff_eq.2 k6) ?_
   refine mT ?_;refine mO ?_;have c1:=hd9 2 v.text.length;(iterate 3 refine mS ?_);refine zbb (n:=((v.text.length:Nat):Int)) rfl rfl htu ?_;(iterate 2 refine mS ?_);refine zad (zbW 2 v.text.length) (zbH (T:=T) (hT:=hT) 2 v.text.length (by omega) (by omega)) ?_;refine zax (la:=hd 2 v.text.length) (lb:=v.text) rfl rfl rfl (by omega) ?_;refine mN ?_;refine zae ⟨.inr rfl,[.d (pS (hd 2 v.text.length ++ v.text))],rfl,?_⟩;rw [hsmall (by omega)]; unfold cborOwn; rw [if_neg k0,if_neg k12,if_neg k3,if_neg k4,if_neg k5,if_pos k6]; rfl
  refine zal rfl rfl (beq_eq_false_iff_ne.2 k6) ?_;refine mF ?_;refine mO ?_;by_cases k7:v.kind = 7
  ·refine zah rfl rfl (beq_iff_eq.2 k7) ?_
   refine mT ?_;refine zaf ?_;(iterate 2 refine mS ?_);refine zav (n:=v.kids.length) rfl rfl (zaY _) ?_;refine zbb (n:=((v.kids.length:Nat):Int)) rfl rfl (by rw [IntKind.wrap_u64]; omega) ?_;refine zad (zbW 4 v.kids.length) (zbH (T:=T) (hT:=hT) 4 v.kids.length (by omega) (by omega)) ?_;refine mN ?_;exact ⟨hd 4 v.kids.length,⟨rfl,rfl,trivial⟩,rfl,hd9 _ _,by rw [hbig (by omega)]; unfold cborOwn; rw [if_neg k0,if_neg k12,if_neg k3,if_neg k4,if_neg k5,if_neg k6,if_pos k7]⟩
  refine zal rfl rfl (beq_eq_false_iff_ne.2 k7) ?_;refine mF ?_;refine mO ?_;by_cases k8:v.kind = 8
  ·refine zah rfl rfl (beq_iff_eq.2 k8) ?_
   refine mT ?_;refine zaf ?_;(iterate 2 refine mS ?_);refine zav (n:=v.kids.length) rfl rfl (zaY _) ?_
   refine po_quo (n:=((v.kids.length / 2:Nat):Int)) rfl rfl rfl (by omega) (by
    have:((v.kids.length:Nat):Int).tdiv 2 = ((v.kids.length / 2:Nat):Int):=by rw [Int.tdiv_eq_ediv_of_nonneg (by omega)]; omega
    rw [this,IntKind.wrap_i64]; omega) ?_
   refine zbb (n:=((v.kids.length / 2:Nat):Int)) rfl rfl (by rw [IntKind.wrap_u64]; omega) ?_;refine zad (zbW 5 ((v.kids.length / 2:Nat):Int)) (zbH (T:=T) (hT:=hT) 5 ((v.kids.length / 2:Nat):Int) (by omega) (by omega)) ?_;refine mN ?_;exact ⟨hd 5 (v.kids.length / 2),⟨rfl,rfl,trivial⟩,rfl,hd9 _ _,by rw [hbig (by omega)]; unfold cborOwn; rw [if_neg k0,if_neg k12,if_neg k3,if_neg k4,if_neg k5,if_neg k6,if_neg k7,if_pos k8]⟩
  refine zal rfl rfl (beq_eq_false_iff_ne.2 k8) ?_;refine mF ?_;refine zaf ?_;(iterate 2 refine mS ?_);refine zbb (n:=IntKind.u64.wrap v.num) rfl rfl rfl ?_;refine zad (zbW 6 (IntKind.u64.wrap v.num)) (zbH (T:=T) (hT:=hT) 6 (IntKind.u64.wrap v.num) (by omega) (by rw [IntKind.wrap_u64]; omega)) ?_;refine mN ?_;exact ⟨hd 6 (IntKind.u64.wrap v.num).toNat,⟨rfl,rfl,trivial⟩,rfl,hd9 _ _,by rw [hbig (by omega)]; unfold cborOwn; rw [if_neg k0,if_neg k12,if_neg k3,if_neg k4,if_neg k5,if_neg k6,if_neg k7,if_neg k8]⟩
 rintro tm bx nt live ⟨h,ht,hbx,hh,hcb⟩;obtain ⟨tm0,rfl⟩:=zac ht;simp only at hbx; subst hbx
 clear ht;refine zan (fun st => has st.tm [(3,.d (pS v.cbor))]) ?_ ?_
 ·refine mP ?_
  refine zab ?_;refine zas (PuI v h) v.kids.length ⟨0,Nat.zero_le _,rfl,⟨rfl,by rw [take_zero,V.cbors,append_nil]; rfl,rfl,trivial⟩,rfl⟩ ?_;rintro m tm bx nt live ⟨i,hi,rfl,ht,hbx⟩;obtain ⟨tm1,rfl⟩:=zac ht;simp only at hbx; subst hbx
  clear ht tm0;refine mM ?_;(iterate 3 refine mS ?_);refine zav (n:=v.kids.length) rfl rfl (zaY _) ?_;refine po_b rfl rfl (fun b hb => ?_);refine zaa ?_;refine zaZ (p:=(i:Int) < v.kids.length) hb rfl (fun him _ => ?_) (fun him _ => ?_)
  rotate_left
  ·refine zat ?_
   have:i = v.kids.length:=by omega
   subst this;rw [take_length,<- hcb];exact ⟨rfl,trivial⟩
  have hia:i < v.kids.length:=by omega
  have hs:=V.cbors_snoc hia;have h1:=V.cbors_take v.kids (i + 1);have h2:=V.nodes_get v.kids i hia;have h3:=V.bulk_get (Nat.le_refl (v.kids.length + V.bulks v.kids)) i hia;have h4:=congrArg length hs;rw [length_append] at h4;refine zai ?_;refine zak (zab (zaf ?_));(iterate 4 refine mS ?_);refine zaH (es:=vK v.kids) (e:=vC v.kids[i]) rfl rfl rfl ⟨by omega,by rw [Int.toNat_natCast]; exact zbo hia⟩ rfl ?_;refine mS ?_;refine zad (zbA _) (ih v.kids[i] (V.nodes_kid hn i hia) (zfJ wks _ (getElem_mem hia)) (by omega)) ?_;refine zax (la:=h ++ V.cbors (v.kids.take i)) (lb:=v.kids[i].cbor) rfl rfl rfl (by rw [length_append]; omega) ?_;rw [append_assoc,<- hs];refine mN ?_;refine zaf ?_;refine mS ?_;refine zam (n:=((i + 1:Nat):Int)) rfl rfl rfl (by omega) (by omega) ?_;refine mN ?_;exact ⟨_,by show v.kids.length - (i + 1) < v.kids.length - i; omega,i + 1,by omega,rfl,⟨rfl,rfl,rfl,trivial⟩,rfl⟩
 rintro tm bx nt live ht;obtain ⟨tm1,rfl⟩:=zac ht;refine mP ?_;exact mR
theorem cput_fn (v:V) (hw:v.wf) (hb:36 * v.nodes + v.bulk <= 2147483647):FnV (env T hT) 140 [.ag (vC v)] (.d (pS v.cbor)):=by
 have all:∀ N,PuP T hT N:=by
  intro N
  induction N with
  | zero => intro a hn; have:=a.nodes_pos; omega
  | succ N ih => exact cput_step ih
 exact all v.nodes v lR hw hb
def V.cborT (v:V):L8:=if v.cfits = true then v.cbor else []
theorem putCbor_fn (v:V) (hw:v.wf) (hb:36 * v.nodes + v.bulk <= 2147483647):FnV (env T hT) 137 [.ag (vC v)] (.d (pS v.cborT)):=by
 refine zaW (zaj zgw) (by show 1 <= 8; decide) fun B hB => ?_
 unfold m_s_PutCbor;refine mO ?_;refine zbf (cs:=vC v) rfl ?_;refine mN ?_;refine mM ?_;refine zaE (p:=0) (cs:=vC v) rfl rfl rfl rfl ?_;refine zad (zbA v) (cfits_fn (T:=T) (hT:=hT) v hw (by omega)) ?_
 cases hc:v.cfits with
 | false =>
  refine mT ?_;refine mP ?_;refine zae ⟨.inr rfl,[.d (pS [])],rfl,?_⟩
  unfold V.cborT; rw [hc]; rfl
 | true =>
  refine mK ?_;refine mO ?_;refine zaE (p:=0) (cs:=vC v) rfl rfl rfl rfl ?_;refine zad (zbA v) (cput_fn (T:=T) (hT:=hT) v hw hb) ?_;refine mN ?_;refine zae ⟨.inr rfl,[.d (pS v.cbor)],rfl,?_⟩;unfold V.cborT; rw [hc]; rfl
theorem zhM (v:V) (hw:v.wf) (hb:36 * v.nodes + v.bulk <= 2147483647):FnV (env T hT) 122 [.ag (vC v)] (.d (pI (v.cborT.length:Nat))):=by
 refine zaW (zaj zfA) (by show 1 <= 6; decide) fun B hB => ?_
 unfold m_s_CborSize;refine mO ?_;refine zbf (cs:=vC v) rfl ?_;refine mN ?_;refine mO ?_;refine zaE (p:=0) (cs:=vC v) rfl rfl rfl rfl ?_;refine zad (zbA v) (putCbor_fn (T:=T) (hT:=hT) v hw hb) ?_;refine mN ?_;exact zae ⟨.inr rfl,[.d (pI (v.cborT.length:Nat))],rfl,rfl⟩
end
section
def lessI (a b:Int):Int:=if a < b then -1 else if b < a then 1 else 0
def lessT (a b:L8):Int:=if Op.bytesLess a b = true then -1 else if Op.bytesLess b a = true then 1 else 0
def firstI:List Int -> Int -> Int
 | [],d => d
 | x :: r,d => if x ≠ 0 then x else firstI r d
mutual
def V.cmp:V -> V -> Int
 | .mk k n e s ks,.mk k' n' e' s' ks' => firstI [lessI k k',lessI n n',lessI e e',lessT s s',lessI ks.length ks'.length] (V.cmps ks ks')
def V.cmps:List V -> List V -> Int
 | x :: xs,y :: ys => if V.cmp x y ≠ 0 then V.cmp x y else V.cmps xs ys
 | _,_ => 0
end
theorem lessI_zero {a b:Int}:lessI a b = 0 ↔ a = b:=by
 unfold lessI
 constructor
 ·intro h; split at h
  ·cases h
  ·split at h
   ·cases h
   ·omega
 ·rintro rfl; rw [if_neg (by omega),if_neg (by omega)]
theorem zcm:∀ a b:L8,Op.bytesLess a b = false -> Op.bytesLess b a = false -> a = b
 | [],[],_,_ => rfl
 | [],y :: b,h,_ => by simp [Op.bytesLess] at h
 | x :: a,[],_,h => by simp [Op.bytesLess] at h
 | x :: a,y :: b,h,k => by
  simp only [Op.bytesLess,Bool.or_eq_false_iff,Bool.and_eq_false_iff,decide_eq_false_iff_not,beq_eq_false_iff_ne] at h k
  have hxy:x = y:=by
   have h1:=h.1; have h2:=k.1
   exact UInt8.toNat_inj.1 (by
    have:¬ x.toNat < y.toNat:=h1
    have:¬ y.toNat < x.toNat:=h2
    omega)
  subst hxy
  have:=zcm a b (h.2.resolve_left (by simp)) (k.2.resolve_left (by simp))
  rw [this]
theorem zdk:∀ a:L8,Op.bytesLess a a = false
 | [] => rfl
 | x :: a => by
  simp only [Op.bytesLess,zdk a,Bool.and_false,Bool.or_false,decide_eq_false_iff_not];show ¬ x.toNat < x.toNat; omega
theorem lessT_zero {a b:L8}:lessT a b = 0 ↔ a = b:=by
 unfold lessT
 constructor
 ·intro h; split at h
  ·cases h
  ·split at h
   ·cases h
   ·exact zcm a b (by simpa using ‹¬ Op.bytesLess a b = true›) (by simpa using ‹¬ Op.bytesLess b a = true›)
 ·rintro rfl; rw [zdk]; rfl
theorem firstI_zero {d:Int}:∀ {l:List Int},firstI l d = 0 ↔ (∀ x ∈ l,x = 0) /\ d = 0
 | [] => by simp [firstI]
 | x :: r => by
  unfold firstI;split
  ·rename_i h; simp only [mem_cons,forall_eq_or_imp]; exact ⟨fun k => absurd k h,fun k => k.1.1⟩
  ·rename_i h; rw [firstI_zero]; simp only [mem_cons,forall_eq_or_imp]; constructor
   ·rintro ⟨a,b⟩; exact ⟨⟨by omega,a⟩,b⟩
   ·rintro ⟨⟨_,a⟩,b⟩; exact ⟨a,b⟩
mutual
theorem V.cmp_zero:∀ a b:V,V.cmp a b = 0 ↔ a = b
 | .mk k n e s ks,.mk k' n' e' s' ks' => by
  unfold V.cmp;rw [firstI_zero];simp only [mem_cons,not_mem_nil,or_false,forall_eq_or_imp,forall_eq,lessI_zero,lessT_zero,V.mk.injEq]
  constructor
  ·rintro ⟨⟨h1,h2,h3,h4,h5⟩,h6⟩
   exact ⟨h1,h2,h3,h4,(V.cmps_zero ks ks' (by omega)).1 h6⟩
  ·rintro ⟨h1,h2,h3,h4,rfl⟩
   exact ⟨⟨h1,h2,h3,h4,rfl⟩,(V.cmps_zero ks ks rfl).2 rfl⟩
theorem V.cmps_zero:∀ a b:List V,a.length = b.length -> (V.cmps a b = 0 ↔ a = b)
 | [],[],_ => by simp [V.cmps]
 | [],y :: b,h => by simp at h
 | x :: a,[],h => by simp at h
 | x :: a,y :: b,h => by
  have h1:=V.cmp_zero x y;have h2:=V.cmps_zero a b (by simpa using h);unfold V.cmps;split
  ·rename_i hne
   simp only [cons.injEq];exact ⟨fun k => absurd k hne,fun k => absurd (h1.2 k.1) hne⟩
  ·rename_i hne
   simp only [cons.injEq];rw [h2];exact ⟨fun k => ⟨h1.1 (by omega),k⟩,fun k => k.2⟩
end
end
section
def m_s_Compare:M:=so [qo 2 (.box 0),qo 3 (.box 1),qo 4 (.mv (ci 0))] (so [qF 9 0 2,ql 10 1 9,qF 11 0 3,ql 12 1 11,qF 14 1 2,ql 15 1 14,qF 16 1 3,ql 17 1 16,qF 19 2 2,ql 20 1 19,qF 21 2 3,ql 22 1 21,qF 24 3 2,ql 25 1 24,qF 26 3 3,ql 27 1 26,qF 29 4 2,ql 30 1 29,qo 31 (.len 30),qF 32 4 3,ql 33 1 32,qo 34 (.len 33),⟨some 13,.call 124 [10,12],none,[.f 0,14,16,19,21,24,26,29,32]⟩,⟨some 18,.call 124 [15,17],none,[.f 0,19,21,24,26,29,32]⟩,⟨some 23,.call 124 [20,22],none,[.f 0,24,26,29,32]⟩,⟨some 28,.call 125 [25,27],none,[.f 0,29,32]⟩,qc 35 124 [31,34] 0,qo 36 (.lit 1 [13,18,23,28,35]),qm 5 36] (.seq (so [qo 6 (.mv (ci 0))] (.block 0 (.loop (.seq (so [qm 37 6,qm 38 5,qo 39 (.len 38),qo 40 (.bin .lss false 37 39)] (.cond 40 .skip (.exit 0))) (.seq (.block 1 (so [qm 43 5,qm 44 6,qo 45 (.ix 1 43 44),ql 46 1 45,qo 47 (.bin .neq false 46 (ci 0))] (.cond 47 (so [qm 48 5,qm 49 6,qo 50 (.ix 1 48 49),ql 51 1 50,qm 4 51] .ret) .skip))) (.ops [qm 41 6,qo 42 (.bin .add false 41 (ci 1)),qm 6 42])))))) (.seq (so [qo 7 (.mv (ci 0))] (.block 2 (.loop (.seq (so [qm 52 7,qF 53 4 2,ql 54 1 53,qo 55 (.len 54),qo 56 (.bin .lss false 52 55)] (.cond 56 .skip (.exit 2))) (.seq (.block 3 (so [qF 59 4 2,ql 60 1 59,qm 61 7,qo 62 (.ix 5 60 61),qL 63 5 62,qF 64 4 3,ql 65 1 64,qm 66 7,qo 67 (.ix 5 65 66),qL 68 5 67,qc 69 105 [63,68] 0,qm 8 69] (so [qm 70 8,qo 71 (.bin .neq false 70 (ci 0))] (.cond 71 (so [qm 72 8,qm 4 72] .ret) .skip)))) (.ops [qm 57 7,qo 58 (.bin .add false 57 (ci 1)),qm 7 58])))))) (so [qo 4 (.mv (ci 0))] .ret))))
theorem zgK:look Tryz.prog 105 = some (73,m_s_Compare,[.tm 4]):=by kernel_rfl
def m_s_Same:M:=so [qo 2 (.box 0),qo 3 (.box 1),qo 4 (.mv (cB false))] (so [qL 5 5 2,qL 6 5 3,qc 7 105 [5,6] 1,qo 8 (.bin .eql false 7 (ci 0)),qm 4 8] .ret)
theorem lk_s_Same:look Tryz.prog 123 = some (9,m_s_Same,[.tm 4]):=by kernel_rfl
def m_s_l02Less:M:=so [qo 4 (.mv (ci 0))] (.seq (.block 0 (so [qm 6 0,qm 7 1,qo 8 (.bin .lss false 6 7),qm 5 8] (.cond 5 (so [qo 4 (.mv (ci (-1)))] .ret) (so [qm 10 0,qm 11 1,qo 12 (.bin .gtr false 10 11),qm 9 12] (.cond 9 (so [qo 4 (.mv (ci 1))] .ret) .skip))))) (so [qo 4 (.mv (ci 0))] .ret))
theorem zgL:look Tryz.prog 124 = some (13,m_s_l02Less,[.tm 4]):=by kernel_rfl
def m_s_l02Texts:M:=so [qo 4 (.mv (ci 0))] (.seq (.block 0 (so [qm 6 0,qm 7 1,qo 8 (.bin .lss false 6 7),qm 5 8] (.cond 5 (so [qo 4 (.mv (ci (-1)))] .ret) (so [qm 10 0,qm 11 1,qo 12 (.bin .gtr false 10 11),qm 9 12] (.cond 9 (so [qo 4 (.mv (ci 1))] .ret) .skip))))) (so [qo 4 (.mv (ci 0))] .ret))
theorem zfK:look Tryz.prog 125 = some (13,m_s_l02Texts,[.tm 4]):=by kernel_rfl
end
section
variable {T:World -> Prop} {hT:Low ngl T}
attribute [local irreducible] po mw pt
section
variable {E:Env} {K:St -> Prop} {tm:Nat -> PV} {bx:LP PC} {nt d:Nat} {live:List Nat} {r:List MOpr} {g:Option (Nat × Bool)} {c:List X} {x y:X}
theorem po_lsT {la lb:L8} {f:Bool} {e:Bool} (hg:gd g tm = some true) (hx:ev tm x = .d (pS la)) (hy:ev tm y = .d (pS lb)) (he:Op.bytesLess la lb = e) (h:po E r K ⟨up d (.d (pB e)) tm,bx,nt,live⟩):po E (⟨some d,.bin .lss f x y,g,c⟩ :: r) K ⟨tm,bx,nt,live⟩:=by
 refine po_q hg ?_ h;subst he;simp only [qf,hx,hy,pS];show some (PV.d (.v (.bool (Op.bytesLess (ByteArray.mk la.toArray).toList (ByteArray.mk lb.toArray).toList)))) = _;rw [ByteArray.toList_eq,ByteArray.toList_eq];rfl
theorem po_gtT {la lb:L8} {f:Bool} {e:Bool} (hg:gd g tm = some true) (hx:ev tm x = .d (pS la)) (hy:ev tm y = .d (pS lb)) (he:(!(Op.bytesLess la lb || la == lb)) = e) (h:po E r K ⟨up d (.d (pB e)) tm,bx,nt,live⟩):po E (⟨some d,.bin .gtr f x y,g,c⟩ :: r) K ⟨tm,bx,nt,live⟩:=by
 refine po_q hg ?_ h;subst he;simp only [qf,hx,hy,pS];show some (PV.d (.v (.bool (!(Op.bytesLess (ByteArray.mk la.toArray).toList (ByteArray.mk lb.toArray).toList || (ByteArray.mk la.toArray).toList == (ByteArray.mk lb.toArray).toList))))) = _;rw [ByteArray.toList_eq,ByteArray.toList_eq];rfl
end
theorem zfL (a b:Int):PV.dats [.d (pI a),.d (pI b)] = some [.d (pI a),.d (pI b)]:=rfl
theorem dats_ss (a b:L8):PV.dats [.d (pS a),.d (pS b)] = some [.d (pS a),.d (pS b)]:=rfl
theorem zfM (a b:Int):FnV (env T hT) 124 [.d (pI a),.d (pI b)] (.d (pI (lessI a b))):=by
 refine zaW (zaj zgL) (by show 2 <= 13; decide) fun B hB => ?_
 unfold m_s_l02Less;refine mP ?_;refine zak (zab (zak (zaf ?_)));(iterate 2 refine mS ?_);by_cases h:a < b
 ·refine zah rfl rfl (decide_eq_true (by omega)) ?_
  refine mT ?_;refine mP ?_;refine zae ⟨.inr rfl,[.d (pI (-1))],rfl,?_⟩;unfold lessI; rw [if_pos h]; rfl
 ·refine zal rfl rfl (decide_eq_false (by omega)) ?_
  refine mF ?_;refine mO ?_;(iterate 2 refine mS ?_);by_cases k:b < a
  ·refine zah rfl rfl (decide_eq_true (by omega)) ?_
   refine mT ?_;refine mP ?_;refine zae ⟨.inr rfl,[.d (pI 1)],rfl,?_⟩;unfold lessI; rw [if_neg h,if_pos k]; rfl
  ·refine zal rfl rfl (decide_eq_false (by omega)) ?_
   refine mK ?_;refine mP ?_;refine zae ⟨.inr rfl,[.d (pI 0)],rfl,?_⟩;unfold lessI; rw [if_neg h,if_neg k]; rfl
theorem texts_fn (a b:L8):FnV (env T hT) 125 [.d (pS a),.d (pS b)] (.d (pI (lessT a b))):=by
 refine zaW (zaj zfK) (by show 2 <= 13; decide) fun B hB => ?_
 unfold m_s_l02Texts;refine mP ?_;refine zak (zab (zak (zaf ?_)));(iterate 2 refine mS ?_)
 cases h:Op.bytesLess a b with
 | true =>
  refine po_lsT (la:=a) (lb:=b) rfl rfl rfl h ?_;refine mT ?_;refine mP ?_;refine zae ⟨.inr rfl,[.d (pI (-1))],rfl,?_⟩
  unfold lessT; rw [if_pos h]; rfl
 | false =>
  refine po_lsT (la:=a) (lb:=b) rfl rfl rfl h ?_;refine mF ?_;refine mO ?_;(iterate 2 refine mS ?_);by_cases k:a = b
  ·refine po_gtT (la:=a) (lb:=b) (e:=false) rfl rfl rfl (by rw [h,k]; simp) ?_
   refine mK ?_;refine mP ?_;refine zae ⟨.inr rfl,[.d (pI 0)],rfl,?_⟩;rw [lessT_zero.2 k]; rfl
  ·refine po_gtT (la:=a) (lb:=b) (e:=true) rfl rfl rfl (by rw [h]; simpa using k) ?_
   refine mT ?_;refine mP ?_;refine zae ⟨.inr rfl,[.d (pI 1)],rfl,?_⟩
   have:Op.bytesLess b a = true:=by
    cases q:Op.bytesLess b a with
    | true => rfl
    | false => exact absurd (zcm a b h q) k
   unfold lessT; rw [if_neg (by rw [h]; decide),if_pos this]; rfl
def cmpL (a b:V):List Int:=[lessI a.kind b.kind,lessI a.num b.num,lessI a.exp b.exp,lessT a.text b.text,lessI a.kids.length b.kids.length]
theorem V.cmp_eq (a b:V):V.cmp a b = firstI (cmpL a b) (V.cmps a.kids b.kids):=by
 obtain ⟨k,n,e,s,ks⟩:=a;obtain ⟨k',n',e',s',ks'⟩:=b;unfold V.cmp; rfl
theorem V.cmps_drop {a b:List V} {i:Nat} (ha:i < a.length) (hb:i < b.length):V.cmps (a.drop i) (b.drop i) = if V.cmp a[i] b[i] ≠ 0 then V.cmp a[i] b[i] else V.cmps (a.drop (i + 1)) (b.drop (i + 1)):=by
 rw [drop_eq_getElem_cons ha,drop_eq_getElem_cons hb]; rfl
theorem zex {L:List Int} {i:Nat} {d:Int} (h:i < L.length):firstI (L.drop i) d = if L[i] ≠ 0 then L[i] else firstI (L.drop (i + 1)) d:=by
 rw [drop_eq_getElem_cons h]; rfl
def CmP (T:World -> Prop) (hT:Low ngl T) (N:Nat):Prop:=∀ a b:V,a.nodes <= N -> a.nodes <= 4294967295 -> FnV (env T hT) 105 [.ag (vC a),.ag (vC b)] (.d (pI (V.cmp a b)))
def iC (L:List Int):LP PC:=L.map fun x => [pI x]
def CmL1 (a b:V) (L:List Int) (m:Nat) (st:St):Prop:=∃ i t:Nat,i <= L.length /\ m = L.length - i /\ has st.tm [(2,.ref 0 0),(3,.ref 1 0),(5,.d (.sl t (iC L))),(6,.d (pI i))] /\ st.bx = [vC a,vC b] /\ ∀ d,firstI L d = firstI (L.drop i) d
def CmL2 (a b:V) (m:Nat) (st:St):Prop:=∃ i:Nat,i <= a.kids.length /\ m = a.kids.length - i /\ has st.tm [(2,.ref 0 0),(3,.ref 1 0),(7,.d (pI i))] /\ st.bx = [vC a,vC b] /\ V.cmps a.kids b.kids = V.cmps (a.kids.drop i) (b.kids.drop i)
theorem cmp_step {N:Nat} (ih:CmP T hT N):CmP T hT (N + 1):=by
 intro a b hn hbn;have hnk:=V.nodes_eq0 a;have hkn:=V.kids_nodes a.kids;refine zaW (zaj zgK) (by show 2 <= 73; decide) fun B hB => ?_
 unfold m_s_Compare;refine mO ?_;refine zbf (cs:=vC a) rfl ?_;refine zbf (cs:=vC b) rfl ?_;refine mN ?_;refine mO ?_;(iterate 18 refine mS ?_);refine zav (n:=a.kids.length) rfl rfl (zaY _) ?_;(iterate 2 refine mS ?_);refine zav (n:=b.kids.length) rfl rfl (zaY _) ?_;refine zad (zfL a.kind b.kind) (zfM _ _) ?_;refine zad (zfL a.num b.num) (zfM _ _) ?_;refine zad (zfL a.exp b.exp) (zfM _ _) ?_;refine zad (dats_ss a.text b.text) (texts_fn _ _) ?_;refine zad (zfL a.kids.length b.kids.length) (zfM _ _) ?_;refine zaq (es:=iC (cmpL a b)) rfl ?_;refine mN ?_;have hcmp:=V.cmp_eq a b;have hlen:lessI a.kids.length b.kids.length ∈ cmpL a b:=by simp [cmpL]
 have h5:(cmpL a b).length = 5:=rfl;generalize cmpL a b = L at hcmp hlen h5;refine zan (fun st => has st.tm [(2,.ref 0 0),(3,.ref 1 0)] /\ st.bx = [vC a,vC b] /\ ∀ d,firstI L d = d) ?_ ?_
 ·refine mP ?_
  refine zab ?_;refine zas (CmL1 a b L) L.length ⟨0,_,Nat.zero_le _,rfl,⟨rfl,rfl,rfl,rfl,trivial⟩,rfl,fun d => rfl⟩ ?_;rintro m tm bx nt live ⟨i,t,hi,rfl,ht,hbx,hf⟩;obtain ⟨tm1,rfl⟩:=zac ht;simp only at hbx; subst hbx
  clear ht;refine mM ?_;(iterate 2 refine mS ?_);refine zav (n:=L.length) rfl rfl (by simp [iC]) ?_;refine po_b rfl rfl (fun q hq => ?_);refine zaa ?_;refine zaZ (p:=(i:Int) < L.length) hq rfl (fun him _ => ?_) (fun him _ => ?_)
  rotate_left
  ·refine zat ?_
   have:i = L.length:=by omega
   subst this;refine ⟨⟨rfl,rfl,trivial⟩,rfl,fun d => ?_⟩;rw [hf,drop_length]; rfl
  have hia:i < L.length:=by omega
  refine zai ?_;refine zak (zab ?_);refine mO ?_;(iterate 2 refine mS ?_);refine zaH (es:=iC L) (e:=[pI L[i]]) rfl rfl rfl ⟨by omega,by rw [Int.toNat_natCast]; simp [iC,getElem?_eq_getElem hia]⟩ rfl ?_;refine mS ?_;by_cases h0:L[i] = 0
  ·refine zal rfl rfl (by rw [h0]; exact bne_self_eq_false _) ?_
   refine mK ?_;refine zaf ?_;refine mS ?_;refine zam (n:=((i + 1:Nat):Int)) rfl rfl rfl (by omega) (by omega) ?_;refine mN ?_;exact ⟨_,by show L.length - (i + 1) < L.length - i; omega,i + 1,t,by omega,rfl,⟨rfl,rfl,rfl,rfl,trivial⟩,rfl,fun d => by rw [hf,zex hia,if_neg (fun h => h h0)]⟩
  ·refine zah rfl rfl (bne_iff_ne.2 h0) ?_
   refine mT ?_;refine mO ?_;(iterate 2 refine mS ?_);refine zaH (es:=iC L) (e:=[pI L[i]]) rfl rfl rfl ⟨by omega,by rw [Int.toNat_natCast]; simp [iC,getElem?_eq_getElem hia]⟩ rfl ?_;refine mN ?_;refine zae ⟨.inr rfl,[.d (pI L[i])],rfl,?_⟩;rw [hcmp,hf,zex hia,if_pos h0]; rfl
 rintro tm bx nt live ⟨ht,hbx,hf⟩;obtain ⟨tm0,rfl⟩:=zac ht;simp only at hbx; subst hbx
 clear ht
 have hll:a.kids.length = b.kids.length:=by
  have:=(firstI_zero.1 (hf 0)).1 _ hlen
  have:=lessI_zero.1 this
  omega
 rw [hf] at hcmp;refine zan (fun st => V.cmps a.kids b.kids = 0) ?_ ?_
 ·refine mP ?_
  refine zab ?_;refine zas (CmL2 a b) a.kids.length ⟨0,Nat.zero_le _,rfl,⟨rfl,rfl,rfl,trivial⟩,rfl,rfl⟩ ?_;rintro m tm bx nt live ⟨i,hi,rfl,ht,hbx,htk⟩;obtain ⟨tm1,rfl⟩:=zac ht;simp only at hbx; subst hbx
  clear ht tm0;refine mM ?_;(iterate 3 refine mS ?_);refine zav (n:=a.kids.length) rfl rfl (zaY _) ?_;refine po_b rfl rfl (fun q hq => ?_);refine zaa ?_;refine zaZ (p:=(i:Int) < a.kids.length) hq rfl (fun him _ => ?_) (fun him _ => ?_)
  rotate_left
  ·refine zat ?_
   have:i = a.kids.length:=by omega
   subst this;rw [htk,drop_length]; unfold V.cmps; rfl
  have hia:i < a.kids.length:=by omega
  have hib:i < b.kids.length:=by omega
  rw [V.cmps_drop hia hib] at htk;refine zai ?_;refine zak (zab ?_);refine mO ?_;(iterate 3 refine mS ?_);refine zaH (es:=vK a.kids) (e:=vC a.kids[i]) rfl rfl rfl ⟨by omega,by rw [Int.toNat_natCast]; exact zbo hia⟩ rfl ?_;(iterate 4 refine mS ?_);refine zaH (es:=vK b.kids) (e:=vC b.kids[i]) rfl rfl rfl ⟨by omega,by rw [Int.toNat_natCast]; exact zbo hib⟩ rfl ?_;refine mS ?_;refine zad (zhx (zb9 _) (zb9 _)) (ih a.kids[i] b.kids[i] (V.nodes_kid hn i hia) (by have:=V.nodes_get a.kids i hia; omega)) ?_;refine mN ?_;refine mQ ?_;by_cases h0:V.cmp a.kids[i] b.kids[i] = 0
  ·refine zal rfl rfl (by rw [h0]; exact bne_self_eq_false _) ?_
   refine mK ?_;refine zaf ?_;refine mS ?_;refine zam (n:=((i + 1:Nat):Int)) rfl rfl rfl (by omega) (by omega) ?_;refine mN ?_;exact ⟨_,by show a.kids.length - (i + 1) < a.kids.length - i; omega,i + 1,by omega,rfl,⟨rfl,rfl,rfl,trivial⟩,rfl,by rw [htk,if_neg (fun h => h h0)]⟩
  ·refine zah rfl rfl (bne_iff_ne.2 h0) ?_
   refine mT ?_;refine mP ?_;refine zae ⟨.inr rfl,[.d (pI (V.cmp a.kids[i] b.kids[i]))],rfl,?_⟩;rw [hcmp,htk,if_pos h0]; rfl
 rintro tm bx nt live hks;refine mP ?_;refine zae ⟨.inr rfl,[.d (pI 0)],rfl,?_⟩;rw [hcmp,hks]; rfl
theorem cmp_fn (a b:V) (hb:a.nodes <= 4294967295):FnV (env T hT) 105 [.ag (vC a),.ag (vC b)] (.d (pI (V.cmp a b))):=by
 have all:∀ N,CmP T hT N:=by
  intro N
  induction N with
  | zero => intro a b hn; have:=a.nodes_pos; omega
  | succ N ih => exact cmp_step ih
 exact all a.nodes a b lR hb
theorem same2_fn (a b:V) (hb:a.nodes <= 4294967295):FnV (env T hT) 123 [.ag (vC a),.ag (vC b)] (.d (pB (decide (a = b)))):=by
 refine zaW (zaj lk_s_Same) (by show 2 <= 9; decide) fun B hB => ?_
 unfold m_s_Same;refine mO ?_;refine zbf (cs:=vC a) rfl ?_;refine zbf (cs:=vC b) rfl ?_;refine mN ?_;refine mO ?_;refine zaE (p:=0) (cs:=vC a) rfl rfl rfl rfl ?_;refine zaE (p:=1) (cs:=vC b) rfl rfl rfl rfl ?_;refine zad (zhx (zb9 _) (zb9 _)) (cmp_fn (T:=T) (hT:=hT) a b hb) ?_;by_cases h:a = b
 ·refine zah rfl rfl (beq_iff_eq.2 ((V.cmp_zero a b).2 h)) ?_
  refine mN ?_;refine zae ⟨.inr rfl,[.d (pB true)],rfl,?_⟩;rw [decide_eq_true h]; rfl
 ·refine zal rfl rfl (beq_eq_false_iff_ne.2 fun k => h ((V.cmp_zero a b).1 k)) ?_
  refine mN ?_;refine zae ⟨.inr rfl,[.d (pB false)],rfl,?_⟩;rw [decide_eq_false h]; rfl
end
section
def mvC (p:Nat):PC -> PC
 | .bld _ T t U => .bld p T t U
 | c => c
def okC0:PC -> Prop
 | .bld q _ _ _ => q = 0
 | c => c.lw 0
theorem mv_down {C:Cx} {w:World} {p:Nat} {x:PC} {v:Value} (h:RpC C w (mvC p x) v) (ho:okC0 x):RpC (C.reb 1 fun _ => C.bx p) w x v:=by
 cases x with
 | bld q T t U =>
  have ho:q = 0:=ho;subst ho;have h:RpC C w (.bld p T t U) v:=h
  cases h with
  | bld _ _ _ _ _ h cs fz ht hv hU => exact .bld (C:=C.reb 1 fun _ => C.bx p) 0 T t U v (by show 0 < 1; omega) cs fz ht hv hU
 | v x => exact RpC.reb (c:=.v x) h ho
 | sl t es => exact RpC.reb (c:=.sl t es) h ho
 | anyp => exact RpC.reb (c:=.anyp) h ho
 | row q l k => exact RpC.reb (c:=.row q l k) h ho
theorem mv_up {C:Cx} {w:World} {p n:Nat} {f:Nat -> Nat} {x:PC} {v:Value} (h:RpC C w x v) (ho:okC0 x) (hf:f p = C.bx 0) (hp:p < n):RpC (C.reb n f) w (mvC p x) v:=by
 cases x with
 | bld q T t U =>
  have ho:q = 0:=ho;subst ho
  cases h with
  | bld _ _ _ _ _ h cs fz ht hv hU => exact .bld (C:=C.reb n f) p T t U v hp cs fz (by show w.heap[f p]? = _; rw [hf]; exact ht) (by show v = .pointer none \/ v = .pointer (some ⟨f p,0,none⟩); rw [hf]; exact hv) hU
 | v x => exact RpC.reb (c:=.v x) h ho
 | sl t es => exact RpC.reb (c:=.sl t es) h ho
 | anyp => exact RpC.reb (c:=.anyp) h ho
 | row q l k => exact RpC.reb (c:=.row q l k) h ho
theorem mvL_down {C:Cx} {w:World} {p:Nat} {cs:List PC} {vs:List Value} (h:RpL C w (cs.map (mvC p)) vs) (ho:∀ y ∈ cs,okC0 y):RpL (C.reb 1 fun _ => C.bx p) w cs vs :=
 ⟨by rw [h.1,length_map],fun j c y h1 h2 => mv_down (h.2 j (mvC p c) y (by rw [getElem?_map,h1]; rfl) h2) (ho c (mem_of_getElem? h1))⟩
theorem mvL_up {C:Cx} {w:World} {p n:Nat} {f:Nat -> Nat} {cs:List PC} {vs:List Value} (h:RpL C w cs vs) (ho:∀ y ∈ cs,okC0 y) (hf:f p = C.bx 0) (hp:p < n):RpL (C.reb n f) w (cs.map (mvC p)) vs:=by
 refine ⟨by rw [length_map]; exact h.1,fun j c y h1 h2 => ?_⟩;rw [getElem?_map] at h1
 cases hj:cs[j]? with
 | none => rw [hj] at h1; cases h1
 | some c0 =>
  rw [hj] at h1; simp only [Option.map_some,sI] at h1; subst h1
  exact mv_up (h.2 j c0 y hj h2) (ho c0 (mem_of_getElem? hj)) hf hp
theorem FnG.liftM {E:Env} {f:Nat} {args:List PV} {c:List PC} {nt:Nat} {live:List Nat} {R:PV -> List PC -> Nat -> List Nat -> Prop}
  (h:FnG E f (.ref 0 0 :: args) [c] nt live (fun x b n l => ∃ c' rest,b = c' :: rest /\ x.lw 0 /\ (∀ y ∈ c',okC0 y) /\ R x c' n l)) (ha:lwVs 0 args) (hc:∀ y ∈ c,okC0 y) {bx:LP PC} {p:Nat} (hp:bx[p]? = some (c.map (mvC p))) :
  FnG E f (.ref p 0 :: args) bx nt live (fun x b n l => ∃ c',b = bx.set p (c'.map (mvC p)) /\ R x c' n l):=by
 intro C w vs hI hnt hold hn2 hlen hv
 have hplt:p < bx.length:=by
  rcases Nat.lt_or_ge p bx.length with h' | h'
  ·exact h'
  ·rw [getElem?_eq_none h'] at hp; cases hp
 have hnb:=hI.nb
 have hI1:Inv E.NG E.T (C.reb 1 fun _ => C.bx p) [c] (· ∈ live) w:=by
  refine ⟨rfl,fun q cs hq => ?_,fun q _ => hI.boxF p hplt,fun q _ => hI.boxG p hplt,fun q r hq hr _ => ?_,fun t ht => ?_,hI.tinj,hI.fin,hI.ng,hI.t⟩
  ·match q with
   | 0 =>
    simp only [getElem?_cons_zero,sI] at hq; subst hq
    obtain ⟨vs,e,h1,h2⟩:=hI.box p _ hp
    exact ⟨vs,e,h1,mvL_down h2 hc⟩
   | q + 1 => simp at hq
  ·simp only [length_singleton] at hq hr; omega
  ·obtain ⟨a1,a2,a3⟩:=hI.tok t ht
   refine ⟨a1,a2,a3.imp id ?_⟩;rintro ⟨b,cur,e,c1,c2,c3,c4,c5,c6,c7,c8,c9,c10⟩;exact ⟨b,cur,e,c1,c2,c3,c4,c5,c6,c7,c8,c9,fun q _ => c10 p hplt⟩
 have hv1:∀ (j:Nat) (x:PV) (y:Value),(PV.ref 0 0 :: args)[j]? = some x -> vs[j]? = some y -> RpV (C.reb 1 fun _ => C.bx p) w x y:=by
  intro j x y hx hy
  match j with
  | 0 =>
   simp only [getElem?_cons_zero,sI] at hx; subst hx
   have:=hv 0 _ y rfl hy
   cases this
   exact RpV.ref (C:=C.reb 1 fun _ => C.bx p) 0 0 (by show 0 < 1; omega)
  | j + 1 =>
   rw [getElem?_cons_succ] at hx;exact (hv (j + 1) x y (by rw [getElem?_cons_succ]; exact hx) hy).reb (zcI j x ha hx)
 refine (h (C.reb 1 fun _ => C.bx p) w vs hI1 hnt hold hn2 (by simpa using hlen) hv1).mono ?_;rintro e w' ⟨u,x,b,n,l,C1,rfl,⟨c',rest,rfl,k1,k2,k3⟩,I1,hn,E1,hx⟩;have hb0:C1.bx 0 = C.bx p:=E1.bx.2 0 (by show 0 < 1; omega);have hle:CxLe C (C1.reb C.nb C.bx):=⟨E1.F,lR,fun _ _ => rfl,E1.tk.1,E1.tk.2⟩;have hF:Fix C w w':=E1.fix
 have hnotok:∀ q,q < bx.length -> ∀ t,t ∈ live -> C.tk t ≠ some (C.bx q):=by
  intro q hq t ht he;obtain ⟨_,_,⟨z,_⟩ | ⟨b,cur,e,c1,c2,c3,c4,c5,c6,c7,c8,c9,c10⟩⟩:=hI.tok t ht
  ·rw [he] at z; cases z
  ·rw [he] at c1; simp only [sI] at c1; subst c1; exact c10 q hq rfl
 have hold2:∀ t,(C.reb 1 fun _ => C.bx p).old t -> t ∈ live:=fun t ht => by
  have:C.old t:=ht
  rw [hold] at this; exact this
 refine ⟨u,x,bx.set p (c'.map (mvC p)),n,l,C1.reb C.nb C.bx,rfl,⟨c',rfl,k3⟩,?_,hn,?_,hx.reb k1⟩
 ·refine ⟨by rw [length_set]; exact hnb,fun q cs hq => ?_,fun q hq o hFo => ?_,by rw [length_set]; exact hI.boxG,by rw [length_set]; exact hI.inj,fun t ht => ?_,I1.tinj,I1.fin,I1.ng,I1.t⟩
  ·by_cases hqp:q = p
   ·subst hqp
    rw [getElem?_set_self hplt] at hq;simp only [sI] at hq; subst hq
    obtain ⟨vs,e,h1,h2⟩:=I1.box 0 c' rfl;rw [hb0] at h1;exact ⟨vs,e,h1,mvL_up h2 k2 hb0.symm (by rw [hnb]; exact hplt)⟩
   ·rw [getElem?_set_ne (fun h => hqp h.symm)] at hq
    have hqlt:q < bx.length:=by
     rcases Nat.lt_or_ge q bx.length with h' | h'
     ·exact h'
     ·rw [getElem?_eq_none h'] at hq; cases hq
    obtain ⟨vs,e,h1,h2⟩:=hI.box q cs hq;refine ⟨vs,e,(E1.block (C.bx q) (zaN h1) (fun r _ he => hqp (hI.inj q p hqlt hplt he.symm)) (fun t ht he => hnotok q hqlt t (hold2 t ht) he)).trans h1,h2.frame hle hF⟩
  ·rw [length_set] at hq
   rcases E1.newF (C.bx q) o hFo with h1 | h1 | ⟨s,h1,h2⟩
   ·exact hI.boxF q hq o h1
   ·have:=hI.lt hq; omega
   ·exact hnotok q hq s (hold2 s h1) h2
  ·obtain ⟨a1,a2,a3⟩:=I1.tok t ht
   refine ⟨a1,a2,a3.imp id ?_⟩;rintro ⟨b,cur,e,c1,c2,c3,c4,c5,c6,c7,c8,c9,c10⟩;refine ⟨b,cur,e,c1,c2,c3,c4,c5,c6,c7,c8,c9,fun q hq he => ?_⟩;rw [length_set] at hq;have he:C.bx q = b:=he
   rcases E1.newT t b ht c1 with h1 | ⟨s,h1,h2⟩
   ·have:=hI.lt hq; omega
   ·exact hnotok q hq s (hold2 s h1) (by rw [he]; exact h2)
 ·exact ⟨E1.os,E1.tape,E1.output,E1.size,E1.F,E1.fix,fun k hk hne ho => E1.block k hk (fun r _ => hne p (by omega)) ho,⟨lR,fun _ _ => rfl⟩,E1.newF,E1.newT,fun q hq hq2 => by rw [length_set] at hq2; omega,E1.tk⟩
theorem FnG.lift0 {E:Env} {f:Nat} {args:List PV} {nt:Nat} {live:List Nat} {R:PV -> Nat -> List Nat -> Prop}
  (h:FnG E f args [] nt live (fun x _ n l => x.lw 0 /\ R x n l)) (ha:lwVs 0 args) {bx:LP PC} :
  FnG E f args bx nt live (fun x b n l => b = bx /\ R x n l):=by
 intro C w vs hI hnt hold hn2 hlen hv;have hnb:=hI.nb
 have hI1:Inv E.NG E.T (C.reb 0 fun _ => 0) [] (· ∈ live) w:=by
  refine ⟨rfl,fun q cs hq => by simp at hq,fun q hq => by simp at hq,fun q hq => by simp at hq,fun q r hq => by simp at hq,fun t ht => ?_,hI.tinj,hI.fin,hI.ng,hI.t⟩;obtain ⟨a1,a2,a3⟩:=hI.tok t ht;refine ⟨a1,a2,a3.imp id ?_⟩;rintro ⟨b,cur,e,c1,c2,c3,c4,c5,c6,c7,c8,c9,c10⟩;exact ⟨b,cur,e,c1,c2,c3,c4,c5,c6,c7,c8,c9,fun q hq => by simp at hq⟩
 have hv1:∀ (j:Nat) (x:PV) (y:Value),args[j]? = some x -> vs[j]? = some y -> RpV (C.reb 0 fun _ => 0) w x y:=fun j x y hx hy => (hv j x y hx hy).reb (zcI j x ha hx)
 refine (h (C.reb 0 fun _ => 0) w vs hI1 hnt hold hn2 hlen hv1).mono ?_;rintro e w' ⟨u,x,b,n,l,C1,rfl,⟨k1,k3⟩,I1,hn,E1,hx⟩;have hle:CxLe C (C1.reb C.nb C.bx):=⟨E1.F,lR,fun _ _ => rfl,E1.tk.1,E1.tk.2⟩;have hF:Fix C w w':=E1.fix
 have hnotok:∀ q,q < bx.length -> ∀ t,t ∈ live -> C.tk t ≠ some (C.bx q):=by
  intro q hq t ht he;obtain ⟨_,_,⟨z,_⟩ | ⟨b,cur,e,c1,c2,c3,c4,c5,c6,c7,c8,c9,c10⟩⟩:=hI.tok t ht
  ·rw [he] at z; cases z
  ·rw [he] at c1; simp only [sI] at c1; subst c1; exact c10 q hq rfl
 have hold2:∀ t,(C.reb 0 fun _ => 0).old t -> t ∈ live:=fun t ht => by
  have:C.old t:=ht
  rw [hold] at this; exact this
 refine ⟨u,x,bx,n,l,C1.reb C.nb C.bx,rfl,⟨rfl,k3⟩,?_,hn,?_,hx.reb k1⟩
 ·refine ⟨hnb,fun q cs hq => ?_,fun q hq o hFo => ?_,hI.boxG,hI.inj,fun t ht => ?_,I1.tinj,I1.fin,I1.ng,I1.t⟩
  ·have hqlt:q < bx.length:=by
    rcases Nat.lt_or_ge q bx.length with h' | h'
    ·exact h'
    ·rw [getElem?_eq_none h'] at hq; cases hq
   obtain ⟨vs,e,h1,h2⟩:=hI.box q cs hq;exact ⟨vs,e,(E1.block (C.bx q) (zaN h1) (fun r hr => by simp [Cx.reb] at hr) (fun t ht he => hnotok q hqlt t (hold2 t ht) he)).trans h1,h2.frame hle hF⟩
  ·rcases E1.newF (C.bx q) o hFo with h1 | h1 | ⟨s,h1,h2⟩
   ·exact hI.boxF q hq o h1
   ·have:=hI.lt hq; omega
   ·exact hnotok q hq s (hold2 s h1) h2
  ·obtain ⟨a1,a2,a3⟩:=I1.tok t ht
   refine ⟨a1,a2,a3.imp id ?_⟩;rintro ⟨b,cur,e,c1,c2,c3,c4,c5,c6,c7,c8,c9,c10⟩;refine ⟨b,cur,e,c1,c2,c3,c4,c5,c6,c7,c8,c9,fun q hq he => ?_⟩;have he:C.bx q = b:=he
   rcases E1.newT t b ht c1 with h1 | ⟨s,h1,h2⟩
   ·have:=hI.lt hq; omega
   ·exact hnotok q hq s (hold2 s h1) (by rw [he]; exact h2)
 ·exact ⟨E1.os,E1.tape,E1.output,E1.size,E1.F,E1.fix,fun k hk hne ho => E1.block k hk (fun r hr => by simp [Cx.reb] at hr) ho,⟨lR,fun _ _ => rfl⟩,E1.newF,E1.newT,fun q hq hq2 => by omega,E1.tk⟩
section
variable {E:Env} {d:Nat} {r:List MOpr} {K:St -> Prop} {tm:Nat -> PV} {bx:LP PC} {nt:Nat} {live:List Nat}
theorem zbg {α:Type} (l:List α) (x:α):(l ++ [x])[l.length]? = some x:=by rw [getElem?_append_right lR,Nat.sub_self]; rfl
theorem zbI {n:Nat} {z:List Value} {x:X} {cs:List PC} {c:List X} (hx:pcells (ev (up d (.ref bx.length 0) tm) x) = some cs) (hn:cs.length = n) (hz:z.length = n) (hc:c.all (apartX (ev (up d (.ref bx.length 0) tm)) (.t d)) = true)
  (h:po E r K ⟨up d (.ref bx.length 0) tm,bx ++ [cs],nt,live⟩):po E (⟨some d,.zero z,none,[]⟩ :: ⟨none,.store n (.t d) x,none,c⟩ :: r) K ⟨tm,bx,nt,live⟩:=by
 refine zcz ?_;have hz0:(bx ++ [z.map ofC])[bx.length]? = some (z.map ofC):=zbg _ _
 have ha:ev (up d (.ref bx.length 0) tm) (.t d) = .ref bx.length 0:=by
  show up d (.ref bx.length 0) tm d = _;rw [<- up_eq]; exact if_pos rfl
 refine zaw ha hx hz0 ⟨hn,by rw [length_map]; omega⟩ hc ?_
 have e1:spl (z.map ofC) 0 cs = cs:=by
  unfold spl;rw [take_zero,nil_append,drop_of_length_le (by rw [length_map]; omega),append_nil]
 have e2:(bx ++ [z.map ofC]).set bx.length cs = bx ++ [cs]:=by
  rw [set_append_right _ _ lR,Nat.sub_self]; rfl
 rw [e1,e2]; exact h
theorem za7 {ag:Bool} {n p o:Nat} {x:X} {c:List X} {g:Option (Nat × Bool)} {cs:List PC} {v:PV} (hg:gd g tm = some true) (hx:ev tm x = .ref p o) (hb:bx[p]? = some cs) (hn:o + n <= cs.length) (hv:ldv ag ((cs.drop o).take n) = some v)
  (h:po E r K ⟨up d v tm,bx,nt,live⟩):po E (⟨some d,.load ag n x,g,c⟩ :: r) K ⟨tm,bx,nt,live⟩:=by
 refine po_q hg ?_ h;simp only [qf,hx,hb,if_pos hn,hv]
theorem zbn {n t p t2:Nat} {cs:List PC} {v:PV} (ht:tm t = .ref p 0) (hb:bx[p]? = some cs) (hn:cs.length = n) (h2:tm t2 = v):ressM ⟨tm,bx,nt,live⟩ [.cell true n t,.tm t2] = some [.ag cs,v]:=by
 simp only [ressM,resM,ht,hb,Nat.zero_add,drop_zero,ldv,hn,Nat.le_refl,if_true,h2];rw [<- hn,take_length]
end
end
section
def okB:PC -> Prop
 | .row _ _ _ => True
 | c => c.lw 0
theorem okB_of {c:PC} (h:c.lw 0):okB c:=by
 cases c with
 | row p l c => trivial
 | _ => exact h
open Classical in
noncomputable def PC.shB (k:Nat) (c:PC):PC:=if okB c then (match c with | .row p l c => .row (p + k) l c | c => c) else .anyp
theorem shB_id {k:Nat} {c:PC} (h:c.lw 0):c.shB k = c:=by
 unfold PC.shB;rw [if_pos (okB_of h)]
 cases c with
 | row p l c => exact absurd h (Nat.not_lt_zero p)
 | _ => rfl
theorem shB_idL {k:Nat}:∀ {cs:List PC},lwL 0 cs -> cs.map (PC.shB k) = cs
 | [],_ => rfl
 | c :: cs,h => by rw [map_cons,shB_id h.1,shB_idL h.2]
mutual
noncomputable def PV.shB (k:Nat):PV -> PV
 | .d c => .d (c.shB k)
 | .ag cs => .ag (cs.map (PC.shB k))
 | .tup vs => .tup (shBs k vs)
 | .ref p o => .ref (p + k) o
 | .pt cs => .pt (cs.map (PC.shB k))
 | .fn f vs => .fn f (shBs k vs)
 | .raw v => .raw v
noncomputable def shBs (k:Nat):List PV -> List PV
 | [] => []
 | v :: vs => PV.shB k v :: shBs k vs
end
theorem zd8 (k:Nat):∀ vs:List PV,shBs k vs = vs.map (PV.shB k)
 | [] => rfl
 | v :: vs => by simp only [shBs,map_cons,zd8 k vs]
section
variable {C:Cx} {w:World} {k n:Nat} {f:Nat -> Nat}
theorem rp_shB {c:PC} {v:Value} (h:RpC C w c v) (hf:∀ p,p < C.nb -> p + k < n /\ f (p + k) = C.bx p):RpC (C.reb n f) w (c.shB k) v:=by
 unfold PC.shB;by_cases ho:okB c
 ·rw [if_pos ho]
  cases c with
  | row p l c => cases h with
   | row _ _ _ h1 h2 h3 =>
    obtain ⟨a1,a2⟩:=hf p h1
    have:=RpC.row (C:=C.reb n f) (w:=w) (p + k) l c a1 h2 h3
    rw [show (C.reb n f).bx (p + k) = C.bx p from a2] at this; exact this
  | v x => exact RpC.reb (c:=.v x) h ho
  | sl t es => exact RpC.reb (c:=.sl t es) h ho
  | anyp => exact RpC.reb (c:=.anyp) h ho
  | bld p T t U => exact absurd ho (Nat.not_lt_zero p)
 ·rw [if_neg ho]; exact .anyp v h.one
theorem rpL_shB {cs:List PC} {vs:List Value} (h:RpL C w cs vs) (hf:∀ p,p < C.nb -> p + k < n /\ f (p + k) = C.bx p):RpL (C.reb n f) w (cs.map (PC.shB k)) vs:=by
 refine ⟨by rw [length_map]; exact h.1,fun j c y h1 h2 => ?_⟩;rw [getElem?_map] at h1
 cases hj:cs[j]? with
 | none => rw [hj] at h1; cases h1
 | some c0 =>
  rw [hj] at h1; simp only [Option.map_some,sI] at h1; subst h1
  exact rp_shB (h.2 j c0 y hj h2) hf
theorem rpV_shB {x:PV} {v:Value} (h:RpV C w x v) (hf:∀ p,p < C.nb -> p + k < n /\ f (p + k) = C.bx p):RpV (C.reb n f) w (x.shB k) v:=by
 have conv:∀ (xs:List PV) (vs:List Value),(∀ (j:Nat) (x:PV) (y:Value),xs[j]? = some x -> vs[j]? = some y -> RpV (C.reb n f) w (x.shB k) y) -> ∀ (j:Nat) (x:PV) (y:Value),(shBs k xs)[j]? = some x -> vs[j]? = some y -> RpV (C.reb n f) w x y:=by
  intro xs vs ih j x y h1 h2;rw [zd8,getElem?_map] at h1
  cases hj:xs[j]? with
  | none => rw [hj] at h1; cases h1
  | some c0 =>
   rw [hj] at h1; simp only [Option.map_some,sI] at h1; subst h1
   exact ih j c0 y hj h2
 induction h with
 | d x v h => exact .d _ v (rp_shB h hf)
 | ag cs vs h => exact .ag _ vs (rpL_shB h hf)
 | tup xs vs hl _ ih => exact .tup _ vs (by rw [zd8,length_map]; exact hl) (conv xs vs ih)
 | raw v => exact .raw v
 | ref p o h =>
  obtain ⟨a1,a2⟩:=hf p h
  have:=RpV.ref (C:=C.reb n f) (w:=w) (p + k) o a1
  rw [show (C.reb n f).bx (p + k) = C.bx p from a2] at this; exact this
 | pt cs b o u hc hF h =>
  refine .pt _ b o u (fun j hj => hc j (by simpa using hj)) (fun j hj => hF j (by simpa using hj)) fun j c hj => ?_
  rw [getElem?_map] at hj
  cases hh:cs[j]? with
  | none => rw [hh] at hj; cases hj
  | some c0 =>
   rw [hh] at hj; simp only [Option.map_some,sI] at hj; subst hj
   exact rp_shB (h j c0 hh) hf
 | fn f xs vs hl h ih => exact .fn f _ vs (by rw [zd8,length_map]; exact hl) (conv xs vs ih)
end
theorem FnG.liftR {E:Env} {f:Nat} {args:List PV} {nt:Nat} {live:List Nat} {R:PV -> LP PC -> Nat -> List Nat -> Prop}
  (h:FnG E f args [] nt live R) (ha:lwVs 0 args) {bx:LP PC} :
  FnG E f args bx nt live (fun x b n l => ∃ x0 b0,x = x0.shB bx.length /\ b = bx ++ b0.map (·.map (PC.shB bx.length)) /\ R x0 b0 n l):=by
 intro C w vs hI hnt hold hn2 hlen hv;have hnb:=hI.nb
 have hI1:Inv E.NG E.T (C.reb 0 fun _ => 0) [] (· ∈ live) w:=by
  refine ⟨rfl,fun q cs hq => by simp at hq,fun q hq => by simp at hq,fun q hq => by simp at hq,fun q r hq => by simp at hq,fun t ht => ?_,hI.tinj,hI.fin,hI.ng,hI.t⟩;obtain ⟨a1,a2,a3⟩:=hI.tok t ht;refine ⟨a1,a2,a3.imp id ?_⟩;rintro ⟨b,cur,e,c1,c2,c3,c4,c5,c6,c7,c8,c9,c10⟩;exact ⟨b,cur,e,c1,c2,c3,c4,c5,c6,c7,c8,c9,fun q hq => by simp at hq⟩
 have hv1:∀ (j:Nat) (x:PV) (y:Value),args[j]? = some x -> vs[j]? = some y -> RpV (C.reb 0 fun _ => 0) w x y:=fun j x y hx hy => (hv j x y hx hy).reb (zcI j x ha hx)
 refine (h (C.reb 0 fun _ => 0) w vs hI1 hnt hold hn2 hlen hv1).mono ?_;rintro e w' ⟨u,x,b,n,l,C1,rfl,k3,I1,hn,E1,hx⟩;have hn1:=I1.nb;obtain ⟨g,hg⟩:∃ g:Nat -> Nat,g = fun p => if p < bx.length then C.bx p else C1.bx (p - bx.length):=⟨_,rfl⟩
 have g0:∀ p,p < bx.length -> g p = C.bx p:=fun p hp => by rw [hg]; exact if_pos hp
 have g1:∀ p,g (p + bx.length) = C1.bx p:=fun p => by rw [hg]; show (if p + bx.length < bx.length then _ else _) = _; rw [if_neg (by omega),Nat.add_sub_cancel]
 have hle:CxLe C (C1.reb (bx.length + b.length) g):=⟨E1.F,by show C.nb <= bx.length + b.length; omega,fun p hp => g0 p (by omega),E1.tk.1,E1.tk.2⟩;have hF:Fix C w w':=E1.fix;have hsh:∀ p,p < C1.nb -> p + bx.length < bx.length + b.length /\ g (p + bx.length) = C1.bx p:=fun p hp => ⟨by omega,g1 p⟩
 have hnotok:∀ q,q < bx.length -> ∀ t,t ∈ live -> C.tk t ≠ some (C.bx q):=by
  intro q hq t ht he;obtain ⟨_,_,⟨z,_⟩ | ⟨b,cur,e,c1,c2,c3,c4,c5,c6,c7,c8,c9,c10⟩⟩:=hI.tok t ht
  ·rw [he] at z; cases z
  ·rw [he] at c1; simp only [sI] at c1; subst c1; exact c10 q hq rfl
 have hold2:∀ t,(C.reb 0 fun _ => 0).old t -> t ∈ live:=fun t ht => by
  have:C.old t:=ht
  rw [hold] at this; exact this
 have hnewB:∀ p,p < b.length -> w.heap.size <= C1.bx p:=fun p hp => E1.newB p (Nat.zero_le _) hp
 have split:∀ q,q < (bx ++ b.map (·.map (PC.shB bx.length))).length -> q < bx.length \/ ∃ p,p < b.length /\ q = p + bx.length:=fun q hq => by
  rw [length_append,length_map] at hq
  rcases Nat.lt_or_ge q bx.length with h' | h'
  ·exact .inl h'
  ·exact .inr ⟨q - bx.length,by omega,by omega⟩
 refine ⟨u,x.shB bx.length,bx ++ b.map (·.map (PC.shB bx.length)),n,l,C1.reb (bx.length + b.length) g,rfl,⟨x,b,rfl,rfl,k3⟩,?_,hn,?_,rpV_shB hx hsh⟩
 ·refine ⟨by rw [length_append,length_map]; rfl,fun q cs hq => ?_,fun q hq o hFo => ?_,fun q hq => ?_,fun p q hp hq he => ?_,fun t ht => ?_,I1.tinj,I1.fin,I1.ng,I1.t⟩
  ·have hlt:q < (bx ++ b.map (·.map (PC.shB bx.length))).length:=by
    rcases Nat.lt_or_ge q (bx ++ b.map (·.map (PC.shB bx.length))).length with h' | h'
    ·exact h'
    ·rw [getElem?_eq_none h'] at hq; cases hq
   rcases split q hlt with hql | ⟨p,hp,rfl⟩
   ·rw [getElem?_append_left hql] at hq
    obtain ⟨vs,e,h1,h2⟩:=hI.box q cs hq;refine ⟨vs,e,?_,h2.frame hle hF⟩;show w'.heap[g q]? = _;rw [g0 q hql];exact (E1.block (C.bx q) (zaN h1) (fun r hr => by simp [Cx.reb] at hr) (fun t ht he => hnotok q hql t (hold2 t ht) he)).trans h1
   ·rw [getElem?_append_right (by omega),Nat.add_sub_cancel,getElem?_map] at hq
    cases hb:b[p]? with
    | none => rw [hb] at hq; cases hq
    | some c0 =>
     rw [hb] at hq; simp only [Option.map_some,sI] at hq; subst hq
     obtain ⟨vs,e,h1,h2⟩:=I1.box p c0 hb;refine ⟨vs,e,?_,rpL_shB h2 hsh⟩;show w'.heap[g (p + bx.length)]? = _;rw [g1]; exact h1
  ·have hFo:C1.F (g q) o:=hFo
   rcases split q hq with hql | ⟨p,hp,rfl⟩
   ·rw [g0 q hql] at hFo
    rcases E1.newF (C.bx q) o hFo with h1 | h1 | ⟨s,h1,h2⟩
    ·exact hI.boxF q hql o h1
    ·have:=hI.lt hql; omega
    ·exact hnotok q hql s (hold2 s h1) h2
   ·rw [g1] at hFo; exact I1.boxF p hp o hFo
  ·show E.NG <= g q
   rcases split q hq with hql | ⟨p,hp,rfl⟩
   ·rw [g0 q hql]; exact hI.boxG q hql
   ·rw [g1]; exact I1.boxG p hp
  ·have he:g p = g q:=he
   rcases split p hp with hpl | ⟨p',hp',rfl⟩ <;> rcases split q hq with hql | ⟨q',hq',rfl⟩
   ·rw [g0 p hpl,g0 q hql] at he; exact hI.inj p q hpl hql he
   ·rw [g0 p hpl,g1] at he; have:=hI.lt hpl; have:=hnewB q' hq'; omega
   ·rw [g0 q hql,g1] at he; have:=hI.lt hql; have:=hnewB p' hp'; omega
   ·rw [g1,g1] at he; rw [I1.inj p' q' hp' hq' he]
  ·obtain ⟨a1,a2,a3⟩:=I1.tok t ht
   refine ⟨a1,a2,a3.imp id ?_⟩;rintro ⟨b',cur,e,c1,c2,c3,c4,c5,c6,c7,c8,c9,c10⟩;refine ⟨b',cur,e,c1,c2,c3,c4,c5,c6,c7,c8,c9,fun q hq he => ?_⟩;have he:g q = b':=he
   rcases split q hq with hql | ⟨p,hp,rfl⟩
   ·rw [g0 q hql] at he
    rcases E1.newT t b' ht c1 with h1 | ⟨s,h1,h2⟩
    ·have:=hI.lt hql; omega
    ·exact hnotok q hql s (hold2 s h1) (by rw [he]; exact h2)
   ·rw [g1] at he; exact c10 p hp he
 ·refine ⟨E1.os,E1.tape,E1.output,E1.size,E1.F,E1.fix,fun k hk hne ho => E1.block k hk (fun r hr => by simp [Cx.reb] at hr) ho,⟨hle.nb,hle.bx⟩,E1.newF,E1.newT,fun q hq hq2 => ?_,E1.tk⟩
  rcases split q hq2 with hql | ⟨p,hp,rfl⟩
  ·omega
  ·show w.heap.size <= g (p + bx.length)
   rw [g1]; exact hnewB p hp
section
variable {E:Env} {K:St -> Prop} {tm:Nat -> PV} {bx:LP PC} {nt d:Nat} {live:List Nat} {r:List MOpr} {g:Option (Nat × Bool)} {cc:List X} {x y:X} {n lo:Nat} {c:PC} {cells:List PC} {lv:List Nat}
end
end
section
def lgA:Nat:=6364136223846793005
def lgC:Nat:=1442695040888963407
def lgN (x:Nat):Nat:=lgA * x + lgC
def lgI:Nat -> Nat -> Nat
 | 0,x => x
 | n + 1,x => lgI n (lgN x)
theorem zhN:∀ (a b x:Nat),lgI (a + b) x = lgI b (lgI a x)
 | 0,b,x => by rw [Nat.zero_add]; rfl
 | a + 1,b,x => by rw [Nat.add_right_comm]; show lgI (a + b) (lgN x) = lgI b (lgI a (lgN x)); exact zhN a b _
theorem lg_pow:∀ k:Nat,∃ m c:Nat,∀ z,lgI (2 ^ k) z = z + 2 ^ k * (4 * (m * z) + (2 * c + 1))
 | 0 => ⟨1591034055961698251,721347520444481703,fun z => by show lgA * z + lgC = _; unfold lgA lgC; omega⟩
 | k + 1 => by
  obtain ⟨m,c,h⟩:=lg_pow k;refine ⟨m + 2 * (2 ^ k * (m * m)),c + 2 ^ k * m * (2 * c + 1),fun z => ?_⟩;rw [show (2:Nat) ^ (k + 1) = 2 ^ k + 2 ^ k by rw [Nat.pow_succ]; omega,zhN,h,h];generalize 2 ^ k = q
  grind
theorem lg_flip (k z:Nat):lgI (2 ^ k) z % 2 ^ (k + 1) = (z + 2 ^ k) % 2 ^ (k + 1):=by
 obtain ⟨m,c,h⟩:=lg_pow k;rw [h,Nat.pow_succ]
 have:z + 2 ^ k * (4 * (m * z) + (2 * c + 1)) = z + 2 ^ k + 2 ^ k * 2 * (2 * (m * z) + c):=by generalize 2 ^ k = q; grind
 rw [this,Nat.add_mul_mod_self_left]
theorem lg_reach (x y:Nat):∀ k:Nat,∃ j,j < 2 ^ k /\ lgI j x % 2 ^ k = y % 2 ^ k
 | 0 => ⟨0,by decide,by rw [Nat.pow_zero,Nat.mod_one,Nat.mod_one]⟩
 | k + 1 => by
  obtain ⟨j,hj,h⟩:=lg_reach x y k;have e:(2:Nat) ^ (k + 1) = 2 ^ k + 2 ^ k:=by rw [Nat.pow_succ]; omega
  by_cases hh:lgI j x % 2 ^ (k + 1) = y % 2 ^ (k + 1)
  ·exact ⟨j,by omega,hh⟩
  ·refine ⟨j + 2 ^ k,by omega,?_⟩
   rw [zhN,lg_flip];have hp:0 < 2 ^ k:=Nat.two_pow_pos k;have h1:=Nat.mod_pow_succ (x:=lgI j x) (b:=2) (k:=k);have h2:=Nat.mod_pow_succ (x:=y) (b:=2) (k:=k);have b1:lgI j x / 2 ^ k % 2 < 2:=Nat.mod_lt _ (by decide);have b2:y / 2 ^ k % 2 < 2:=Nat.mod_lt _ (by decide);rw [h] at h1;rw [h1,h2] at hh;rw [Nat.add_mod,h1,Nat.mod_eq_of_lt (a:=2 ^ k) (by omega),h2];have hlt:y % 2 ^ k < 2 ^ k:=Nat.mod_lt _ hp;generalize y % 2 ^ k = r at *;generalize lgI j x / 2 ^ k % 2 = u at *;generalize y / 2 ^ k % 2 = v at *;generalize 2 ^ k = q at *;rw [e];have hu:u = 0 \/ u = 1:=by omega
   have hv:v = 0 \/ v = 1:=by omega
   rcases hu with rfl | rfl <;> rcases hv with rfl | rfl <;> simp only [Nat.mul_one,Nat.mul_zero,Nat.add_zero] at hh ⊢
   ·exact absurd trivial hh
   ·rw [Nat.mod_eq_of_lt (by omega)]
   ·rw [show r + q + q = r + (q + q) by omega,Nat.add_mod_right,Nat.mod_eq_of_lt (by omega)]
   ·exact absurd trivial hh
end
section
structure NR (nt:Nat) (live:List Nat) (n:Nat) (l:List Nat) (cs:List PC):Prop where
 own:ownedL cs = true
 nd:(toksL cs).Nodup
 mem:∀ t ∈ toksL cs,nt <= t /\ t < n /\ t ∈ l
 keep:∀ t ∈ live,2 <= t -> t < nt -> t ∈ l
 le:nt <= n
theorem NR.refl (nt:Nat) (live:List Nat):NR nt live nt live []:=⟨rfl,nodup_nil,fun t h => (by cases h),fun t h _ _ => h,lR⟩
theorem NR.trans {nt n1 n2:Nat} {live l1 l2:List Nat} {a b:List PC} (h:NR nt live n1 l1 a) (k:NR n1 l1 n2 l2 b):NR nt live n2 l2 (a ++ b):=by
 refine ⟨by rw [zaL,h.own,k.own]; rfl,?_,fun t ht => ?_,fun t ht h2 hlt => k.keep t (h.keep t ht h2 hlt) h2 (by have:=h.le; omega),Nat.le_trans h.le k.le⟩
 ·rw [zau]
  refine nodup_append.2 ⟨h.nd,k.nd,fun x hx y hy e => ?_⟩;subst e
  have:=h.mem x hx; have:=k.mem x hy; omega
 ·rw [zau] at ht
  rcases mem_append.1 ht with ht | ht
  ·obtain ⟨a1,a2,a3⟩:=h.mem t ht
   exact ⟨a1,by have:=k.le; omega,k.keep t a3 (zbN _ t ht) a2⟩
  ·obtain ⟨a1,a2,a3⟩:=k.mem t ht
   exact ⟨by have:=h.le; omega,a2,a3⟩
theorem NR.plain {nt n:Nat} {live l:List Nat} {cs ds:List PC} (h:NR nt live n l cs) (ho:ownedL ds = true) (ht:toksL ds = toksL cs):NR nt live n l ds:=⟨ho,by rw [ht]; exact h.nd,fun t h' => h.mem t (by rw [ht] at h'; exact h'),h.keep,h.le⟩
theorem NR.mono {nt n n':Nat} {live l l':List Nat} {cs:List PC} (h:NR nt live n l cs) (hn:n <= n') (hl:∀ t ∈ l,2 <= t -> t < n -> t ∈ l'):NR nt live n' l' cs :=
 ⟨h.own,h.nd,fun t ht => by obtain ⟨a,b,c⟩:=h.mem t ht; exact ⟨a,by omega,hl t c (zbN _ t ht) b⟩,fun t ht h2 hlt => hl t (h.keep t ht h2 hlt) h2 (by have:=h.le; omega),Nat.le_trans h.le hn⟩
theorem NR.forget {nt n:Nat} {live l:List Nat} {cs:List PC} (h:NR nt live n l cs):NR nt live n l []:=⟨rfl,nodup_nil,fun t h => (by cases h),h.keep,h.le⟩
theorem NR.sub {nt n:Nat} {live l:List Nat} {cs ds:List PC} (h:NR nt live n l cs) (ho:ownedL ds = true) (hs:(toksL ds).Sublist (toksL cs)):NR nt live n l ds:=⟨ho,h.nd.sublist hs,fun t ht => h.mem t (hs.subset ht),h.keep,h.le⟩
theorem zbX:∀ es:LP PC,toksLL es = toksL es.flatten
 | [] => rfl
 | e :: es => by rw [toksLL,flatten_cons,zau,zbX es]
theorem zb4:∀ es:LP PC,ownedLL es = ownedL es.flatten
 | [] => rfl
 | e :: es => by rw [ownedLL,flatten_cons,zaL,zb4 es]
theorem NR.lit {nt n:Nat} {live l:List Nat} {es:LP PC} (h2:2 <= nt) (h:NR nt live n l es.flatten):NR nt live (n + 1) (n :: l) [.sl n es]:=by
 have hn:=h.le;refine ⟨?_,?_,fun t ht => ?_,fun t ht a b => mem_cons_of_mem _ (h.keep t ht a b),by omega⟩
 ·rw [ownedL,zbl (by omega),zb4,h.own]; rfl
 ·rw [toksL,zaF (by omega),zbX]
  simp only [toksL,append_nil];exact nodup_cons.2 ⟨fun hm => by have:=h.mem n hm; omega,h.nd⟩
 ·rw [toksL,zaF (by omega),zbX] at ht
  simp only [toksL,append_nil] at ht
  rcases mem_cons.1 ht with rfl | ht
  ·exact ⟨hn,by omega,mem_cons_self ..⟩
  ·obtain ⟨a,b,c⟩:=h.mem t ht
   exact ⟨a,by omega,mem_cons_of_mem _ c⟩
theorem NR.app {nt n t:Nat} {live l:List Nat} {a b:List PC} {rows ds:LP PC} (h2:2 <= nt) (ht:t = 1 /\ rows = [] \/ 2 <= t) (h:NR nt live n l (a ++ .sl t rows :: b ++ ds.flatten)) :
  NR nt live (n + 1) (n :: l.filter (· != t)) (a ++ .sl n (rows ++ ds) :: b):=by
 have hn:=h.le;obtain ⟨o1,o2,o3,o4,_⟩:=h
 have hO:ownedL a = true /\ ownedLL rows = true /\ ownedL b = true /\ ownedL ds.flatten = true:=by
  rw [zaL,zaL,ownedL] at o1;simp only [Bool.and_eq_true] at o1;refine ⟨o1.1.1,?_,o1.1.2.2,o1.2⟩
  rcases ht with ⟨_,rfl⟩ | ht
  ·rfl
  ·rw [zbl ht] at o1; exact o1.1.2.1
 have hT:∃ L,toksL (a ++ .sl t rows :: b ++ ds.flatten) = toksL a ++ ((L ++ toksLL rows) ++ toksL b) ++ toksL ds.flatten /\ (2 <= t -> t ∈ L):=by
  rcases ht with ⟨rfl,rfl⟩ | ht
  ·exact ⟨[],by rw [zau,zau,toksL]; rfl,fun h => by omega⟩
  ·exact ⟨[t],by rw [zau,zau,toksL,zaF ht]; rfl,fun _ => by simp⟩
 obtain ⟨L,hT,hL⟩:=hT;rw [hT] at o2 o3
 have hne:∀ x,x ∈ toksL a \/ x ∈ toksLL rows \/ x ∈ toksL b \/ x ∈ toksL ds.flatten -> x ≠ t:=fun x hx e => by
  subst e
  have h2x:2 <= x:=by
   rcases hx with hx | hx | hx | hx
   ·exact zbN _ x hx
   ·exact toksLL_ge _ x hx
   ·exact zbN _ x hx
   ·exact zbN _ x hx
  have:=hL h2x
  simp only [nodup_append,mem_append] at o2
  rcases hx with hx | hx | hx | hx
  ·exact o2.1.2.2 x hx x (.inl (.inl this)) rfl
  ·exact o2.1.2.1.1.2.2 x this x hx rfl
  ·exact o2.1.2.1.2.2 x (.inl this) x hx rfl
  ·exact o2.2.2 x (.inr (.inl (.inl this))) x hx rfl
 have hmem:∀ x,x ∈ toksL a \/ x ∈ toksLL rows \/ x ∈ toksL b \/ x ∈ toksL ds.flatten -> nt <= x /\ x < n /\ x ∈ l:=fun x hx => o3 x (by
  simp only [mem_append]
  rcases hx with hx | hx | hx | hx
  ·exact .inl (.inl hx)
  ·exact .inl (.inr (.inl (.inr hx)))
  ·exact .inl (.inr (.inr hx))
  ·exact .inr hx)
 have eT:toksL (a ++ .sl n (rows ++ ds) :: b) = toksL a ++ (n :: (toksLL rows ++ toksL ds.flatten) ++ toksL b):=by
  rw [zau,toksL,zaF (by omega),zba,zbX ds]
 refine ⟨?_,?_,fun x hx => ?_,fun x hx hx2 hlt => ?_,by omega⟩
 ·rw [zaL,ownedL,zbl (by omega),zb7,zb4 ds,hO.1,hO.2.1,hO.2.2.1,hO.2.2.2]; rfl
 ·rw [eT]
  simp only [nodup_append,mem_append,nodup_cons,mem_cons,cons_append] at o2 ⊢;refine ⟨o2.1.1,⟨fun hx => ?_,⟨o2.1.2.1.1.2.1,o2.2.1,fun x hx y hy e => o2.2.2 x (.inr (.inl (.inr hx))) y hy e⟩,o2.1.2.1.2.1,fun x hx y hy e => ?_⟩,fun x hx y hy e => ?_⟩
  ·have:=hmem n (by rcases hx with (hx | hx) | hx <;> simp [hx]); omega
  ·rcases hx with hx | hx
   ·exact o2.1.2.1.2.2 x (.inr hx) y hy e
   ·exact o2.2.2 y (.inr (.inr hy)) x hx e.symm
  ·rcases hy with rfl | (hy | hy) | hy
   ·have:=hmem x (.inl hx); omega
   ·exact o2.1.2.2 x hx y (.inl (.inr hy)) e
   ·exact o2.2.2 x (.inl hx) y hy e
   ·exact o2.1.2.2 x hx y (.inr hy) e
 ·rw [eT] at hx
  simp only [mem_append,mem_cons,cons_append] at hx
  have old:x ∈ toksL a \/ x ∈ toksLL rows \/ x ∈ toksL b \/ x ∈ toksL ds.flatten -> nt <= x /\ x < n + 1 /\ x ∈ n :: l.filter (· != t):=fun h => by
   obtain ⟨a1,a2,a3⟩:=hmem x h;exact ⟨a1,by omega,mem_cons_of_mem _ (mem_filter.2 ⟨a3,by simpa using hne x h⟩)⟩
  rcases hx with hx | rfl | (hx | hx) | hx
  ·exact old (.inl hx)
  ·exact ⟨hn,by omega,mem_cons_self ..⟩
  ·exact old (.inr (.inl hx))
  ·exact old (.inr (.inr (.inr hx)))
  ·exact old (.inr (.inr (.inl hx)))
 ·refine mem_cons_of_mem _ (mem_filter.2 ⟨o4 x hx hx2 hlt,?_⟩)
  simp only [bne_iff_ne,ne_eq];rintro rfl
  have:=o3 x (by have:=hL hx2; simp [this]); omega
theorem NR.lw {nt n k:Nat} {live l:List Nat} {cs:List PC} (h:NR nt live n l cs):lwL k cs:=zaX h.own
theorem po_gt {E:Env} {d:Nat} {k:Nat} {r:List MOpr} {K:St -> Prop} {tm:Nat -> PV} {bx:LP PC} {nt:Nat} {live:List Nat} {f:Nat} {xs:List X} {args:List PV} {g:Option (Nat × Bool)} {R:PV -> LP PC -> Nat -> List Nat -> Prop} (hg:gd g tm = some true) (hd:xs.map (ev tm) = args) (hF:FnG E f args bx nt live R)
  (h:∀ x bx' nt' live',R x bx' nt' live' -> po E r K ⟨up d x tm,bx',nt',live'⟩):po E (⟨some d,.call f xs,g,[.f k]⟩ :: r) K ⟨tm,bx,nt,live⟩:=by
 subst hd;refine ⟨true,hg,.inl ⟨rfl,.inr ⟨rfl,R,hF,fun x bx' nt' live' hR => ⟨fun y hy => by rw [mem_singleton] at hy; subst hy; exact zeg _ _ _ _,?_⟩⟩⟩⟩;rw [zbS]; exact h x bx' nt' live' hR
/-! ### the cursor -/
def cuC (b:L8) (i h:Int):List PC:=[.sl 0 (pcB b),pI i,pI h]
def Cu (b:L8) (c:List PC):Prop:=∃ (i:Nat) (h:Int),i <= b.length /\ i64ok h /\ c = cuC b i h
theorem zhO {b:L8} {k:Nat} {x:UInt8} (h:b[k]? = some x):(pcB b)[k]? = some [.v (.int .u8 x.toNat)]:=by simp [pcB,h]
theorem pcB_lw (n:Nat):∀ b:L8,lwLL n (pcB b)
 | [] => by simp only [pcB,map_nil,lwLL]
 | x :: b => by
  have:=pcB_lw n b
  simp only [pcB,map_cons,lwLL,lwL,PC.lw] at this ⊢;exact ⟨⟨trivial,trivial⟩,this⟩
theorem cuC_lw (b:L8) (i h:Int) (n:Nat):lwL n (cuC b i h):=by
 simp only [cuC,lwL,PC.lw,pI,and_true]; exact pcB_lw n b
theorem Cu.lw {b:L8} {c:List PC} (h:Cu b c):lwL 0 c:=by obtain ⟨i,q,_,_,rfl⟩:=h; exact cuC_lw ..
def Drw (E:Env) (b:L8) (f:Nat) (args:List PV) (Q:Nat -> List Nat -> PV -> Nat -> List Nat -> Prop):Prop :=
 ∀ (c:List PC) (nt:Nat) (live:List Nat),Cu b c -> 2 <= nt -> FnG E f (.ref 0 0 :: args) [c] nt live (fun x bx n l => ∃ c' rest,bx = c' :: rest /\ x.lw 0 /\ lwL 0 c' /\ Cu b c' /\ Q nt live x n l)
theorem Drw.use {E:Env} {b:L8} {f:Nat} {args:List PV} {Q:Nat -> List Nat -> PV -> Nat -> List Nat -> Prop} (h:Drw E b f args Q) (ha:lwVs 0 args) {c:List PC} {bx:LP PC} {p nt:Nat} {live:List Nat} (hc:Cu b c) (hn:2 <= nt) (hp:bx[p]? = some c) :
  FnG E f (.ref p 0 :: args) bx nt live (fun x b' n l => ∃ c',b' = bx.set p c' /\ Cu b c' /\ Q nt live x n l) :=
 FnG.lift1 (R:=fun x c' n l => Cu b c' /\ Q nt live x n l) (h c nt live hc hn) ha hc.lw hp
theorem NR.pass {nt n1 n2:Nat} {live l1 l2:List Nat} {cs:List PC} (h:NR nt live n1 l1 cs) (k:NR n1 l1 n2 l2 []):NR nt live n2 l2 cs:=by
 have:=h.trans k
 rwa [append_nil] at this
def QN (lo hi:Int):Nat -> List Nat -> PV -> Nat -> List Nat -> Prop:=fun nt live x n l => ∃ r:Int,x = .d (pI r) /\ lo <= r /\ r <= hi /\ NR nt live n l []
def QT (P:L8 -> Prop):Nat -> List Nat -> PV -> Nat -> List Nat -> Prop:=fun nt live x n l => ∃ s,x = .d (pS s) /\ P s /\ NR nt live n l []
def QB:Nat -> List Nat -> PV -> Nat -> List Nat -> Prop:=fun nt live x n l => ∃ r:Bool,x = .d (pB r) /\ NR nt live n l []
/-! ### values that are drawn -/
mutual
def V.few:V -> Prop
 | .mk k _ _ _ kids => (k = 8 -> kids.length <= 8) /\ V.fews kids
def V.fews:List V -> Prop
 | [] => True
 | v :: vs => v.few /\ V.fews vs
end
theorem V.fews_all:∀ {vs:List V},V.fews vs ↔ ∀ v ∈ vs,v.few
 | [] => by simp [V.fews]
 | v :: vs => by simp only [V.fews,mem_cons,forall_eq_or_imp,V.fews_all (vs:=vs)]
theorem V.wfs_all:∀ {vs:List V},V.wfs vs ↔ ∀ v ∈ vs,v.wf
 | [] => by simp [V.wfs]
 | v :: vs => by simp only [V.wfs,mem_cons,forall_eq_or_imp,V.wfs_all (vs:=vs)]
structure Gd (B:Nat) (v:V):Prop where
 wf:v.wf
 few:v.few
 bulk:v.bulk <= B
theorem Gd.mono {B B':Nat} {v:V} (h:Gd B v) (k:B <= B'):Gd B' v:=⟨h.wf,h.few,Nat.le_trans h.bulk k⟩
def RowT (cs:List PC):Prop:=∃ (a b c d:PC) (t:Nat) (rows:LP PC),cs = [a,b,c,d,.sl t rows] /\ (t = 1 /\ rows = [] \/ 2 <= t)
def QV (K B:Nat):Nat -> List Nat -> PV -> Nat -> List Nat -> Prop:=fun nt live x n l => ∃ cs v,x = .ag cs /\ NR nt live n l cs /\ erL cs = vC v /\ Gd B v /\ RowT cs /\ v.kids.length <= K
end
section
def m_s_l01New:M:=so [qo 2 (.mv (.c (.pointer none)))] (so [qm 5 0,qo 6 (.len 5),qo 7 (.bin .add false (ci 421421) 6),qm 3 7] (.seq (so [qo 4 (.mv (ci 0))] (.block 0 (.loop (.seq (so [qm 8 4,qm 9 0,qo 10 (.len 9),qo 11 (.bin .lss false 8 10),qm 12 11,qg 13 4 12 true,⟨some 14,.bin .lss false 13 (ci 4000),some (12,true),[]⟩,qo 15 (.pick 12 14 (cB false))] (.cond 15 .skip (.exit 0))) (.seq (.block 1 (.ops [qm 18 3,qo 19 (.bin .mul false 18 (ci 131)),qm 20 0,qm 21 4,qo 22 (.ix 1 20 21),ql 23 1 22,qo 24 (.conv .i64 23),qo 25 (.bin .add false 19 24),qo 26 (.bin .add false 25 (ci 7)),qo 27 (.bin .and false 26 (ci 1073741823)),qm 3 27])) (.ops [qm 16 4,qo 17 (.bin .add false 16 (ci 1)),qm 4 17])))))) (so [qm 28 0,qm 29 3,qo 30 (.build [.slice none 0 0,.int .i64 0,.int .i64 0] [(0,1,28),(2,1,29)]),qo 31 (.box 30),qm 2 31] .ret)))
theorem zhP:look Tryz.prog 16 = some (32,m_s_l01New,[.tm 2]):=by kernel_rfl
def m_s_l01Once:M:=so [qo 4 (.mv (cB false))] (so [qm 5 0,qm 6 1,qc 7 38 [5,6] 1,qo 8 (.bin .eql false 7 (ci 0)),qm 4 8] .ret)
theorem zgM:look Tryz.prog 34 = some (9,m_s_l01Once,[.tm 4]):=by kernel_rfl
def m_s_l02Str:M:=so [⟨some 2,.zero [.int .i64 0,.int .i64 0,.int .i64 0,.string ⟨[].toArray⟩,.slice none 0 0],none,[]⟩] (so [qm 3 0,⟨some 4,.build [.int .i64 0,.int .i64 0,.int .i64 0,.string ⟨[].toArray⟩,.slice none 0 0] [(0,1,ci 5),(3,1,3)],none,[]⟩,qS 5 2 4] .ret)
theorem zey:look Tryz.prog 35 = some (5,m_s_l02Str,[.cell true 5 2]):=by kernel_rfl
def m_s_l01Below:M:=so [qo 4 (.mv (ci 0))] (.seq (so [qm 9 1,qo 10 (.bin .leq false 9 (ci 0))] (.cond 10 (so [qo 4 (.mv (ci 0))] .ret) .skip)) (.seq (so [qm 11 1,qo 12 (.bin .leq false 11 (ci 256))] (.cond 12 (so [qm 13 0,qc 14 66 [13] 1,qm 15 1,qo 16 (.bin .rem false 14 15),qm 4 16] .ret) .skip)) (so [qm 17 0,qc 18 66 [17] 1,qm 5 18] (so [qm 19 0,qc 20 66 [19] 1,qm 6 20] (so [qm 21 0,qc 22 66 [21] 1,qm 7 22] (so [qm 23 0,qc 24 66 [23] 1,qm 8 24] (so [qm 25 5,qo 26 (.bin .mul false 25 (ci 16777216)),qm 27 6,qo 28 (.bin .mul false 27 (ci 65536)),qo 29 (.bin .add false 26 28),qm 30 7,qo 31 (.bin .mul false 30 (ci 256)),qo 32 (.bin .add false 29 31),qm 33 8,qo 34 (.bin .add false 32 33),qm 35 1,qo 36 (.bin .rem false 34 35),qm 4 36] .ret)))))))
theorem zdl:look Tryz.prog 38 = some (37,m_s_l01Below,[.tm 4]):=by kernel_rfl
def m_s_l01Pick:M:=so [⟨some 4,.mv (.c (.string ⟨[].toArray⟩)),none,[]⟩] (so [qm 5 1,qm 6 0,qm 7 1,qo 8 (.len 7),qc 9 38 [6,8] 1,qo 10 (.ix 1 5 9),ql 11 1 10,qm 4 11] .ret)
theorem zgN:look Tryz.prog 51 = some (12,m_s_l01Pick,[.tm 4]):=by kernel_rfl
def m_s_l01Byte:M:=so [qo 2 (.mv (ci 0))] (so [qm 4 0,qm 5 0,qo 6 (.nilc 5),qF 7 2 6,ql 8 1 7,qo 9 (.bin .mul false 8 (ci 6364136223846793005)),qo 10 (.bin .add false 9 (ci 1442695040888963407)),qo 11 (.nilc 4),qF 12 2 11,qS 1 12 10] (so [qm 13 0,qo 14 (.nilc 13),qF 15 2 14,ql 16 1 15,qo 17 (.bin .shr false 16 (.c (.int .u64 33))),qm 18 0,qo 19 (.nilc 18),qF 20 2 19,ql 21 1 20,qo 22 (.bin .shr false 21 (.c (.int .u64 45))),qo 23 (.bin .xor false 17 22),qo 24 (.bin .and false 23 (ci 255)),qm 3 24] (.seq (so [qm 25 0,qo 26 (.nilc 25),qF 27 1 26,ql 28 1 27,qm 29 0,qo 30 (.nilc 29),qF 31 0 30,ql 32 1 31,qo 33 (.len 32),qo 34 (.bin .lss false 28 33)] (.cond 34 (so [qm 35 3,qm 36 0,qo 37 (.nilc 36),qF 38 0 37,ql 39 1 38,qm 40 0,qo 41 (.nilc 40),qF 42 1 41,ql 43 1 42,qo 44 (.ix 1 39 43),ql 45 1 44,qo 46 (.conv .i64 45),qo 47 (.bin .add false 35 46),qo 48 (.bin .and false 47 (ci 255)),qm 3 48] (.ops [qm 49 0,qm 50 0,qo 51 (.nilc 50),qF 52 1 51,ql 53 1 52,qo 54 (.bin .add false 53 (ci 1)),qo 55 (.nilc 49),qF 56 1 55,qS 1 56 54])) .skip)) (so [qm 57 3,qm 2 57] .ret))))
theorem zgO:look Tryz.prog 66 = some (58,m_s_l01Byte,[.tm 2]):=by kernel_rfl
def m_s_l01PickInt:M:=so [qo 4 (.mv (ci 0))] (so [qm 5 1,qm 6 0,qm 7 1,qo 8 (.len 7),qc 9 38 [6,8] 1,qo 10 (.ix 1 5 9),ql 11 1 10,qm 4 11] .ret)
theorem zez:look Tryz.prog 69 = some (12,m_s_l01PickInt,[.tm 4]):=by kernel_rfl
def m_s_l02Any:M:=so [⟨some 2,.zero [.int .i64 0,.int .i64 0,.int .i64 0,.string ⟨[].toArray⟩,.slice none 0 0],none,[]⟩] (so [qm 8 0,qm 9 0,qc 10 34 [9,ci 3] 1,qc 11 99 [8,ci 3,10] 1,⟨some 3,.zero [.int .i64 0,.int .i64 0,.int .i64 0,.string ⟨[].toArray⟩,.slice none 0 0],none,[]⟩,qS 5 3 11] (.seq (so [qm 12 0,qc 13 38 [12,ci 24] 1] (.block 0 (so [qo 15 (.bin .eql false 13 (ci 0)),qm 14 15] (.cond 14 (.ops [qm 16 0,qc 17 38 [16,ci 12] 1,qo 18 (.bin .sub false 17 (ci 1)),qF 19 0 3,qS 1 19 18]) (so [qo 21 (.bin .eql false 13 (ci 1)),qm 20 21] (.cond 20 (.ops [qm 22 0,qo 23 (.lit 1 [ci 1,ci 10,ci (-1),ci 1000001]),qc 24 69 [22,23] 1,qF 25 1 3,qS 1 25 24]) (so [qo 27 (.bin .eql false 13 (ci 2)),qm 26 27] (.cond 26 (.ops [qF 28 4 3,ql 29 1 28,qm 30 0,⟨some 31,.call 120 [30,cB false],none,[.f 0,28]⟩,qo 32 (.litq 5 [31]),⟨some 33,.app 5 29 32,none,[.f 0]⟩,qF 34 4 3,qS 1 34 33]) (so [qo 36 (.bin .eql false 13 (ci 3)),qm 35 36] (.cond 35 (so [⟨some 37,.call 35 [.c (.string ⟨[97].toArray⟩)],none,[.f 1]⟩,qc 38 37 [ci 1] 1,⟨some 39,.call 35 [.c (.string ⟨[97].toArray⟩)],none,[.f 1]⟩,qc 40 37 [ci 2] 1,qo 41 (.lit 5 [37,38,39,40]),⟨some 42,.build [.int .i64 0,.int .i64 0,.int .i64 0,.string ⟨[].toArray⟩,.slice none 0 0] [(0,1,ci 8),(4,1,41)],none,[]⟩,qS 5 2 42] .ret) (so [qo 44 (.bin .eql false 13 (ci 4)),qm 43 44] (.cond 43 (so [qm 45 0,qc 46 38 [45,ci 3] 1,qo 47 (.bin .add false (ci 11) 46),qm 4 47] (so [qo 5 (.mv (ci 0))] (.block 1 (.loop (.seq (so [qm 48 5,qm 49 4,qo 50 (.bin .lss false 48 49)] (.cond 50 .skip (.exit 1))) (.seq (.block 2 (.ops [qL 53 5 3,qo 54 (.lit 5 [53]),⟨some 55,.build [.int .i64 0,.int .i64 0,.int .i64 0,.string ⟨[].toArray⟩,.slice none 0 0] [(0,1,ci 7),(4,1,54)],none,[]⟩,qS 5 3 55])) (.ops [qm 51 5,qo 52 (.bin .add false 51 (ci 1)),qm 5 52]))))))) (so [qo 57 (.bin .eql false 13 (ci 5)),qm 56 57] (.cond 56 (so [qm 58 0,qc 59 38 [58,ci 3] 1,qo 60 (.bin .add false (ci 298) 59),qm 6 60] (so [⟨some 61,.build [.int .i64 0,.int .i64 0,.int .i64 0,.string ⟨[].toArray⟩,.slice none 0 0] [(0,1,ci 7)],none,[]⟩,qS 5 3 61] (so [qo 7 (.mv (ci 0))] (.block 3 (.loop (.seq (so [qm 62 7,qm 63 6,qo 64 (.bin .lss false 62 63)] (.cond 64 .skip (.exit 3))) (.seq (.block 4 (.ops [qF 67 4 3,ql 68 1 67,⟨some 69,.build [.int .i64 0,.int .i64 0,.int .i64 0,.string ⟨[].toArray⟩,.slice none 0 0] [],none,[]⟩,qo 70 (.lit 5 [69]),⟨some 71,.app 5 68 70,none,[.f 1]⟩,qF 72 4 3,qS 1 72 71])) (.ops [qm 65 7,qo 66 (.bin .add false 65 (ci 1)),qm 7 66])))))))) .skip)))))))))))))) (so [qL 73 5 3,qS 5 2 73] .ret)))
theorem zhQ:look Tryz.prog 98 = some (74,m_s_l02Any,[.cell true 5 2]):=by kernel_rfl
def m_s_l02Make:M:=so [⟨some 6,.zero [.int .i64 0,.int .i64 0,.int .i64 0,.string ⟨[].toArray⟩,.slice none 0 0],none,[]⟩] (.seq (so [qm 12 1,qo 13 (.bin .leq false 12 (ci 0)),qm 14 13,qg 15 0 14 false,⟨some 16,.call 34 [15,ci 3],some (14,false),[.f 1]⟩,qo 17 (.pick 14 (cB true) 16)] (.cond 17 (so [qm 18 0,qm 19 2,qc 20 120 [18,19] 1,qS 5 6 20] .ret) .skip)) (so [⟨some 21,.build [.int .i64 0,.int .i64 0,.int .i64 0,.string ⟨[].toArray⟩,.slice none 0 0] [(0,1,ci 7)],none,[]⟩,⟨some 7,.zero [.int .i64 0,.int .i64 0,.int .i64 0,.string ⟨[].toArray⟩,.slice none 0 0],none,[]⟩,qS 5 7 21] (so [qm 22 0,qc 23 38 [22,ci 4] 1,qm 8 23] (.seq (so [qm 24 0,qc 25 38 [24,ci 5] 1] (.block 0 (so [qo 27 (.bin .eql false 25 (ci 0)),qm 26 27] (.cond 26 (so [qm 28 2,qo 29 (.not 28)] (.cond 29 (so [qm 30 0,qo 31 (.lit 1 [ci 0,ci 1,ci 24,ci 1000,ci 1000000]),qc 32 69 [30,31] 1,qm 33 0,qm 34 1,qo 35 (.bin .sub false 34 (ci 1)),qm 36 2,qc 37 99 [33,35,36] 1,qo 38 (.lit 5 [37]),⟨some 39,.build [.int .i64 0,.int .i64 0,.int .i64 0,.string ⟨[].toArray⟩,.slice none 0 0] [(0,1,ci 9),(1,1,32),(4,1,38)],none,[]⟩,qS 5 6 39] .ret) .skip)) (.seq (so [qo 41 (.bin .eql false 25 (ci 1)),qm 40 41] (.cond 40 .skip (.ops [qo 42 (.bin .eql false 25 (ci 2)),qm 40 42]))) (.cond 40 (so [qF 43 0 7,⟨none,.store 1 43 (ci 8),none,[]⟩] (.seq (so [qo 9 (.mv (ci 0))] (.block 1 (.loop (.seq (so [qm 44 9,qm 45 8,qo 46 (.bin .lss false 44 45)] (.cond 46 .skip (.exit 1))) (.seq (.block 2 (so [⟨some 49,.lit 1 [.c (.string ⟨[110,97,109,101].toArray⟩),.c (.string ⟨[105,100].toArray⟩),.c (.string ⟨[108,105,115,116].toArray⟩),.c (.string ⟨[99,111,109,109,111,110,32,107,101,121].toArray⟩)],none,[]⟩,qm 50 9,qo 51 (.ix 1 49 50),ql 52 1 51,qc 53 35 [52] 1,⟨some 10,.zero [.int .i64 0,.int .i64 0,.int .i64 0,.string ⟨[].toArray⟩,.slice none 0 0],none,[]⟩,qS 5 10 53] (.seq (so [qm 54 0,qc 55 34 [54,ci 8] 1,qm 56 55,qg 57 2 56 true,⟨some 58,.not 57,some (56,true),[]⟩,qo 59 (.pick 56 58 (cB false))] (.cond 59 (.ops [qm 60 9,qc 61 37 [60] 1,qS 5 10 61]) .skip)) (.ops [qF 62 4 7,ql 63 1 62,qL 64 5 10,qm 65 0,qm 66 1,qo 67 (.bin .sub false 66 (ci 1)),qm 68 2,⟨some 69,.call 99 [65,67,68],none,[.f 0,62,10]⟩,qo 70 (.litq 5 [64,69]),⟨some 71,.app 5 63 70,none,[.f 0]⟩,qF 72 4 7,qS 1 72 71])))) (.ops [qm 47 9,qo 48 (.bin .add false 47 (ci 1)),qm 9 48])))))) (so [qL 73 5 7,qS 5 6 73] .ret))) .skip)))))) (.seq (so [qo 11 (.mv (ci 0))] (.block 3 (.loop (.seq (so [qm 74 11,qm 75 8,qo 76 (.bin .lss false 74 75)] (.cond 76 .skip (.exit 3))) (.seq (.block 4 (.ops [qF 79 4 7,ql 80 1 79,qm 81 0,qm 82 1,qo 83 (.bin .sub false 82 (ci 1)),qm 84 2,⟨some 85,.call 99 [81,83,84],none,[.f 0,79]⟩,qo 86 (.litq 5 [85]),⟨some 87,.app 5 80 86,none,[.f 0]⟩,qF 88 4 7,qS 1 88 87])) (.ops [qm 77 11,qo 78 (.bin .add false 77 (ci 1)),qm 11 78])))))) (so [qL 89 5 7,qS 5 6 89] .ret))))))
theorem zdT:look Tryz.prog 99 = some (90,m_s_l02Make,[.cell true 5 6]):=by kernel_rfl
def m_s_l02Leaf:M:=so [⟨some 4,.zero [.int .i64 0,.int .i64 0,.int .i64 0,.string ⟨[].toArray⟩,.slice none 0 0],none,[]⟩] (.seq (so [qm 5 0,qc 6 38 [5,ci 9] 1] (.block 0 (so [qo 8 (.bin .eql false 6 (ci 0)),qm 7 8] (.cond 7 (so [qm 9 0,qc 10 38 [9,ci 3] 1,⟨some 11,.build [.int .i64 0,.int .i64 0,.int .i64 0,.string ⟨[].toArray⟩,.slice none 0 0] [(0,1,10)],none,[]⟩,qS 5 4 11] .ret) (so [qo 13 (.bin .eql false 6 (ci 1)),qm 12 13] (.cond 12 (so [qm 14 0,qo 15 (.lit 1 [ci 15,ci (-3),ci 1,ci 9007199254740993,ci (-999999999999999999)]),qc 16 69 [14,15] 1,qm 17 0,qo 18 (.lit 1 [ci (-1),ci (-2),ci 19,ci 20,ci (-20)]),qc 19 69 [17,18] 1,⟨some 20,.build [.int .i64 0,.int .i64 0,.int .i64 0,.string ⟨[].toArray⟩,.slice none 0 0] [(0,1,ci 4),(1,1,16),(2,1,19)],none,[]⟩,qS 5 4 20] .ret) (so [qo 22 (.bin .eql false 6 (ci 2)),qm 21 22] (.cond 21 (so [qm 23 1,qo 24 (.not 23)] (.cond 24 (so [qm 25 0,qm 26 0,qc 27 38 [26,ci 8] 1,qc 28 135 [25,27] 1,⟨some 29,.build [.int .i64 0,.int .i64 0,.int .i64 0,.string ⟨[].toArray⟩,.slice none 0 0] [(0,1,ci 6),(3,1,28)],none,[]⟩,qS 5 4 29] .ret) .skip)) (.seq (so [qo 31 (.bin .eql false 6 (ci 3)),qm 30 31] (.cond 30 .skip (.ops [qo 32 (.bin .eql false 6 (ci 4)),qm 30 32]))) (.cond 30 (so [qm 33 0,⟨some 34,.lit 1 [.c (.string ⟨[99,111,109,109,111,110,32,118,97,108,117,101].toArray⟩),.c (.string ⟨[99,111,109,109,111,110,32,118,97,108].toArray⟩),.c (.string ⟨[97,110,111,116,104,101,114,32,99,111,109,109,111,110,32,118,97,108,117,101].toArray⟩),.c (.string ⟨[120].toArray⟩),.c (.string ⟨[].toArray⟩)],none,[]⟩,qc 35 51 [33,34] 1,qc 36 35 [35] 1,qS 5 4 36] .ret) (so [qo 38 (.bin .eql false 6 (ci 5)),qm 37 38] (.cond 37 (so [qm 39 0,qc 40 136 [39] 1,qc 41 35 [40] 1,qS 5 4 41] .ret) .skip)))))))))))) (so [qm 42 0,qm 43 0,qc 44 38 [43,ci 1000] 1,qo 45 (.lit 1 [ci 0,ci 1,ci 23,ci 24,ci 255,ci 256,ci 65535,ci 65536,ci 4294967295,ci 4294967296,ci (-1),ci (-24),ci (-25),ci (-256),ci (-257),ci 9223372036854775807,ci (-9223372036854775808),44]),qc 46 69 [42,45] 1,qc 47 37 [46] 1,qS 5 4 47] .ret))
theorem zgP:look Tryz.prog 120 = some (48,m_s_l02Leaf,[.cell true 5 4]):=by kernel_rfl
def m_s_l01Text:M:=so [⟨some 4,.mv (.c (.string ⟨[].toArray⟩)),none,[]⟩] (so [qo 12 (.lit 1 []),qm 5 12] (.seq (.block 0 (.loop (.seq (so [qm 13 5,qo 14 (.len 13),qm 15 1,qo 16 (.bin .lss false 14 15)] (.cond 16 .skip (.exit 0))) (.block 1 (so [qm 17 0,qc 18 38 [17,ci 5] 1] (.block 2 (so [qo 27 (.bin .eql false 18 (ci 0)),qm 26 27] (.cond 26 (.ops [qm 28 5,qm 29 0,qc 30 66 [29] 1,qo 31 (.conv .u8 30),qo 32 (.lit 1 [31]),⟨some 33,.app 1 28 32,none,[.f 1]⟩,qm 5 33]) (so [qo 35 (.bin .eql false 18 (ci 1)),qm 34 35] (.cond 34 (so [qm 36 0,qc 37 38 [36,ci 9] 1,qm 6 37] (so [qm 38 0,qc 39 38 [38,ci 4] 1,qo 40 (.bin .add false (ci 97) 39),qo 41 (.conv .u8 40),qm 7 41] (so [qo 8 (.mv (ci 0))] (.block 3 (.loop (.seq (so [qm 42 8,qm 43 6,qo 44 (.bin .lss false 42 43)] (.cond 44 .skip (.exit 3))) (.seq (.block 4 (.ops [qm 47 5,qm 48 7,qo 49 (.lit 1 [48]),⟨some 50,.app 1 47 49,none,[.f 1]⟩,qm 5 50])) (.ops [qm 45 8,qo 46 (.bin .add false 45 (ci 1)),qm 8 46])))))))) (so [qo 52 (.bin .eql false 18 (ci 2)),qm 51 52] (.cond 51 (so [qm 53 5,qo 54 (.len 53),qo 55 (.bin .gtr false 54 (ci 0))] (.cond 55 (so [qm 56 0,qm 57 5,qo 58 (.len 57),qc 59 38 [56,58] 1,qm 9 59] (so [qm 60 0,qc 61 38 [60,ci 20] 1,qm 10 61] (so [qo 11 (.mv (ci 0))] (.block 5 (.loop (.seq (so [qm 62 11,qm 63 10,qo 64 (.bin .lss false 62 63),qm 65 64,qg 66 9 65 true,qg 67 11 65 true,⟨some 68,.bin .add false 66 67,some (65,true),[]⟩,qg 69 5 65 true,⟨some 70,.len 69,some (65,true),[]⟩,⟨some 71,.bin .lss false 68 70,some (65,true),[]⟩,qo 72 (.pick 65 71 (cB false))] (.cond 72 .skip (.exit 5))) (.seq (.block 6 (.ops [qm 75 5,qm 76 5,qm 77 9,qm 78 11,qo 79 (.bin .add false 77 78),qo 80 (.ix 1 76 79),ql 81 1 80,qo 82 (.lit 1 [81]),⟨some 83,.app 1 75 82,none,[.f 1]⟩,qm 5 83])) (.ops [qm 73 11,qo 74 (.bin .add false 73 (ci 1)),qm 11 74])))))))) .skip)) (.ops [qm 19 5,qm 20 0,qc 21 38 [20,ci 26] 1,qo 22 (.bin .add false (ci 97) 21),qo 23 (.conv .u8 22),qo 24 (.lit 1 [23]),⟨some 25,.app 1 19 24,none,[.f 1]⟩,qm 5 25]))))))))))))) (so [qm 84 5,qm 85 1,qo 86 (.slc 1 84 none (some 85)),qo 87 (.b2s 86),qm 4 87] .ret)))
theorem zgQ:look Tryz.prog 135 = some (88,m_s_l01Text,[.tm 4]):=by kernel_rfl
def m_s_l01Some:M:=so [⟨some 2,.mv (.c (.string ⟨[].toArray⟩)),none,[]⟩] (so [⟨some 3,.mv (.c (.string ⟨[].toArray⟩)),none,[]⟩] (so [qm 6 0,qc 7 38 [6,ci 5] 1,qm 4 7] (.seq (so [qo 5 (.mv (ci 0))] (.block 0 (.loop (.seq (so [qm 8 5,qm 9 4,qo 10 (.bin .lss false 8 9)] (.cond 10 .skip (.exit 0))) (.seq (.block 1 (.ops [qm 13 3,qm 14 0,⟨some 15,.lit 1 [.c (.string ⟨[97].toArray⟩),.c (.string ⟨[98].toArray⟩),.c (.string ⟨[110,97,109,101].toArray⟩),.c (.string ⟨[34].toArray⟩),.c (.string ⟨[92].toArray⟩),.c (.string ⟨[10].toArray⟩),.c (.string ⟨[1].toArray⟩),.c (.string ⟨[195,169].toArray⟩),.c (.string ⟨[226,130,172].toArray⟩),.c (.string ⟨[240,159,152,128].toArray⟩),.c (.string ⟨[47].toArray⟩),.c (.string ⟨[48].toArray⟩),.c (.string ⟨[32].toArray⟩)],none,[]⟩,qc 16 51 [14,15] 1,qo 17 (.bin .add false 13 16),qm 3 17])) (.ops [qm 11 5,qo 12 (.bin .add false 11 (ci 1)),qm 5 12])))))) (so [qm 18 3,qm 2 18] .ret))))
theorem zgR:look Tryz.prog 136 = some (19,m_s_l01Some,[.tm 2]):=by kernel_rfl
end
section
def m_s_l02Int:M:=so [⟨some 2,.zero [.int .i64 0,.int .i64 0,.int .i64 0,.string ⟨[].toArray⟩,.slice none 0 0],none,[]⟩] (so [qm 3 0,⟨some 4,.build [.int .i64 0,.int .i64 0,.int .i64 0,.string ⟨[].toArray⟩,.slice none 0 0] [(0,1,ci 3),(1,1,3)],none,[]⟩,qS 5 2 4] .ret)
theorem zc0:look Tryz.prog 37 = some (5,m_s_l02Int,[.cell true 5 2]):=by kernel_rfl
end
section
variable {T:World -> Prop} {hT:Low ngl T}
attribute [local irreducible] po mw pt
def andR (a b:Int):Int:=IntKind.i64.wrap (BitVec.ofInt 64 a &&& BitVec.ofInt 64 b).toNat
def xorR (a b:Int):Int:=IntKind.i64.wrap (BitVec.ofInt 64 a ^^^ BitVec.ofInt 64 b).toNat
theorem wrap_okD (x:Int):i64ok (IntKind.i64.wrap x):=by
 rw [IntKind.wrap_i64]; unfold i64ok; omega
theorem zdD {m:Nat} (a:Int) (hm:m <= 1073741823):0 <= andR a m /\ andR a m <= m:=by
 unfold andR;rw [BitVec.toNat_and]
 have h1:(BitVec.ofInt 64 (m:Int)).toNat = m:=by
  rw [BitVec.toNat_ofInt]; omega
 have h2:=Nat.and_le_right (n:=(BitVec.ofInt 64 a).toNat) (m:=(BitVec.ofInt 64 (m:Int)).toNat);rw [h1] at h2;rw [h1,IntKind.wrap_i64];omega
def lcM (h:Int):Int:=IntKind.i64.wrap (IntKind.i64.wrap (h * 6364136223846793005) + 1442695040888963407)
def lcX (h:Int):Int:=andR (xorR (h.fdiv (2 ^ 33)) (h.fdiv (2 ^ 45))) 255
theorem zeA (h:Int):i64ok (lcM h):=wrap_okD _
theorem lcX_bd (h:Int):0 <= lcX h /\ lcX h <= 255:=zdD (m:=255) _ (by decide)
def ByR (b:L8) (i:Nat) (h:Int) (nt:Nat) (live:List Nat) (x:PV) (bx:LP PC) (n:Nat) (l:List Nat):Prop :=
 ∃ (r:Int) (i':Nat),bx = [cuC b i' (lcM h)] /\ x = .d (pI r) /\ 0 <= r /\ r <= 255 /\ i' <= b.length /\ (i < b.length -> i' = i + 1) /\ (i = b.length -> i' = i /\ r = lcX (lcM h)) /\ n = nt /\ l = live
theorem byte_g {b:L8} (hb:b.length <= 2147483647) {i:Nat} (hi:i <= b.length) (h:Int) (nt:Nat) (live:List Nat) :
  FnG (env T hT) 66 [.ref 0 0] [cuC b i h] nt live (ByR b i h nt live):=by
 refine zaG (zaj zgO) (by show 1 <= 58; decide) fun B hB => ?_
 unfold m_s_l01Byte;refine mP ?_;refine mO ?_;(iterate 4 refine mS ?_);refine za7 (cs:=cuC b i h) (v:=.d (pI h)) rfl rfl rfl (Nat.le_refl 3) rfl ?_;refine po_q rfl rfl ?_;refine po_q rfl rfl ?_;(iterate 2 refine mS ?_);refine zaw (p:=0) (o':=2) (cs:=[pI (lcM h)]) (z:=cuC b i h) rfl rfl rfl ⟨rfl,Nat.le_refl 3⟩ rfl ?_;refine zaa ?_;refine mO ?_;(iterate 3 refine mS ?_);refine za7 (cs:=cuC b i (lcM h)) (v:=.d (pI (lcM h))) rfl rfl rfl (Nat.le_refl 3) rfl ?_;refine po_q rfl rfl ?_;(iterate 3 refine mS ?_);refine za7 (cs:=cuC b i (lcM h)) (v:=.d (pI (lcM h))) rfl rfl rfl (Nat.le_refl 3) rfl ?_;refine po_q rfl rfl ?_;refine po_q rfl rfl ?_;refine po_q (v:=.d (pI (lcX (lcM h)))) rfl rfl ?_;refine mN ?_;obtain ⟨hx0,hx1⟩:=lcX_bd (lcM h);generalize hz:lcX (lcM h) = z at hx0 hx1;refine mM ?_;(iterate 3 refine mS ?_);refine za7 (cs:=cuC b i (lcM h)) (v:=.d (pI i)) rfl rfl rfl (by show 1 + 1 <= 3; decide) rfl ?_
 (iterate 3 refine mS ?_);refine za7 (cs:=cuC b i (lcM h)) (v:=.d (.sl 0 (pcB b))) rfl rfl rfl (by show 0 + 1 <= 3; decide) rfl ?_;refine zav (n:=b.length) rfl rfl (za5 b) ?_;by_cases hlt:i < b.length
 ·refine zah rfl rfl (decide_eq_true (by omega)) ?_
  refine zaa ?_;have hg:b[i]? = some b[i]:=getElem?_eq_getElem hlt;have hbt:=(b[i]).toNat_lt;refine mwT ?_;refine mO ?_;(iterate 4 refine mS ?_);refine za7 (cs:=cuC b i (lcM h)) (v:=.d (.sl 0 (pcB b))) rfl rfl rfl (by show 0 + 1 <= 3; decide) rfl ?_;(iterate 3 refine mS ?_);refine za7 (cs:=cuC b i (lcM h)) (v:=.d (pI i)) rfl rfl rfl (by show 1 + 1 <= 3; decide) rfl ?_;refine zaH (es:=pcB b) (e:=[.v (.int .u8 (b[i]).toNat)]) rfl rfl rfl ⟨by omega,by rw [Int.toNat_natCast]; exact zhO hg⟩ rfl ?_;refine mS ?_;refine zbb (n:=((b[i]).toNat:Int)) rfl rfl (by rw [IntKind.wrap_i64]; omega) ?_;refine zam (n:=z + ((b[i]).toNat:Int)) rfl rfl rfl rfl (by omega) ?_;refine po_q (v:=.d (pI (andR (z + ((b[i]).toNat:Int)) 255))) rfl rfl ?_;refine mN ?_;obtain ⟨hw0,hw1⟩:=zdD (m:=255) (z + ((b[i]).toNat:Int)) (by decide);refine zaf ?_;(iterate 4 refine mS ?_);refine za7 (cs:=cuC b i (lcM h)) (v:=.d (pI i)) rfl rfl rfl (by show 1 + 1 <= 3; decide) rfl ?_
  refine zam (n:=((i + 1:Nat):Int)) rfl rfl rfl (by omega) (by omega) ?_;(iterate 2 refine mS ?_);refine zaw (p:=0) (o':=1) (cs:=[pI ((i + 1:Nat):Int)]) (z:=cuC b i (lcM h)) rfl rfl rfl ⟨rfl,by show 1 + 1 <= 3; decide⟩ rfl ?_;refine zaa ?_;refine mP ?_;exact zae ⟨.inr rfl,[.d (pI (andR (z + ((b[i]).toNat:Int)) 255))],rfl,_,i + 1,rfl,rfl,hw0,hw1,hlt,fun _ => rfl,fun he => absurd he (by omega),rfl,rfl⟩
 ·refine zal rfl rfl (decide_eq_false (by omega)) ?_
  refine zaa ?_;refine mwF ?_;refine zai ?_;refine mP ?_;exact zae ⟨.inr rfl,[.d (pI z)],rfl,z,i,rfl,rfl,hx0,hx1,hi,fun h => absurd h hlt,fun _ => ⟨rfl,hz.symm⟩,rfl,rfl⟩
theorem byte_drw {b:L8} (hb:b.length <= 2147483647):Drw (env T hT) b 66 [] (QN 0 255):=by
 rintro c nt live ⟨i,h,hi,hh,rfl⟩ hn;refine (byte_g hb hi h nt live).mono ?_;rintro x bx n l ⟨r,i',rfl,rfl,h0,h1,hi',_,_,rfl,rfl⟩;exact ⟨_,[],rfl,trivial,cuC_lw ..,⟨i',_,hi',zeA h,rfl⟩,r,rfl,h0,h1,NR.refl _ _⟩
section
variable {E:Env} {K:St -> Prop} {tm:Nat -> PV} {bx:LP PC} {nt d:Nat} {live:List Nat} {r:List MOpr} {g:Option (Nat × Bool)} {c:List X} {x y:X}
theorem po_rem {a b n:Int} (hg:gd g tm = some true) (hx:ev tm x = .d (pI a)) (hy:ev tm y = .d (pI b)) (hb:b ≠ 0) (hn:a.tmod b = n) (h:po E r K ⟨up d (.d (pI n)) tm,bx,nt,live⟩):po E (⟨some d,.bin .rem false x y,g,c⟩ :: r) K ⟨tm,bx,nt,live⟩:=by
 refine po_q hg ?_ h;subst hn
 have e:binV .rem false (.int .i64 a) (.int .i64 b) = some (.int .i64 (a.tmod b)):=by
  show (if IntKind.i64 = IntKind.i64 then (if b = 0 then none else some (Value.int .i64 (a.tmod b))) else none) = _;rw [if_pos rfl,if_neg hb]
 simp only [qf,hx,hy,pI,e,Option.map_some]
theorem zeB {a b:Int} (hg:gd g tm = some true) (hx:ev tm x = .d (pI a)) (hy:ev tm y = .d (pI b)) (ha:0 <= a) (hb:0 < b) (h:∀ n,n = a.tmod b -> 0 <= n -> n < b -> po E r K ⟨up d (.d (pI n)) tm,bx,nt,live⟩):po E (⟨some d,.bin .rem false x y,g,c⟩ :: r) K ⟨tm,bx,nt,live⟩ :=
 po_rem hg hx hy (by omega) rfl (h _ rfl (Int.tmod_nonneg b ha) (Int.tmod_lt_of_pos a hb))
end
def BlR (b:L8) (i:Nat) (h m:Int) (nt:Nat) (live:List Nat) (x:PV) (bx:LP PC) (n:Nat) (l:List Nat):Prop :=
 ∃ (r:Int) (i':Nat),bx = [cuC b i' (lcM h)] /\ x = .d (pI r) /\ 0 <= r /\ r < m /\ i' <= b.length /\ (i < b.length -> i' = i + 1) /\ (i = b.length -> i' = i /\ r = (lcX (lcM h)).tmod m) /\ n = nt /\ l = live
theorem below_g {b:L8} (hb:b.length <= 2147483647) {i:Nat} (hi:i <= b.length) (h:Int) {m:Int} (hm:1 <= m /\ m <= 256) (nt:Nat) (live:List Nat) :
  FnG (env T hT) 38 [.ref 0 0,.d (pI m)] [cuC b i h] nt live (BlR b i h m nt live):=by
 refine zaG (zaj zdl) (by show 2 <= 37; decide) fun B hB => ?_
 unfold m_s_l01Below;refine mP ?_;refine mM ?_;refine mS ?_;refine zal rfl rfl (decide_eq_false (by omega)) ?_;refine zaa ?_;refine mwF ?_;refine zai ?_;refine mM ?_;refine mS ?_;refine zah rfl rfl (decide_eq_true (by omega)) ?_;refine zaa ?_;refine mwT ?_;refine mQ ?_;refine po_g rfl (byte_g (T:=T) (hT:=hT) hb hi h nt live) ?_;rintro x bx n l ⟨r,i',rfl,rfl,h0,h1,hi',e1,e2,rfl,rfl⟩;refine mS ?_;refine zeB rfl rfl rfl h0 (by omega) fun q hq q0 q1 => ?_
 refine mN ?_;exact zae ⟨.inr rfl,[.d (pI q)],rfl,q,i',rfl,rfl,q0,q1,hi',e1,fun he => ⟨(e2 he).1,by rw [hq,(e2 he).2]⟩,rfl,rfl⟩
theorem za6 {b:L8} (hb:b.length <= 2147483647) (m:Int):Drw (env T hT) b 38 [.d (pI m)] (QN 0 (max (m - 1) 0)):=by
 rintro c nt live hc hn;have hB:=byte_drw (T:=T) (hT:=hT) hb;refine zaG (R:=fun x bx n l => ∃ c' rest,bx = c' :: rest /\ x.lw 0 /\ lwL 0 c' /\ Cu b c' /\ QN 0 (max (m - 1) 0) nt live x n l) (zaj zdl) (by show 2 <= 37; decide) fun B hB' => ?_
 unfold m_s_l01Below;refine mP ?_;refine mM ?_;refine mS ?_;by_cases hm0:m <= 0
 ·refine zah rfl rfl (decide_eq_true (by omega)) ?_
  refine zaa ?_;refine mwT ?_;refine mP ?_;exact zae ⟨.inr rfl,[.d (pI 0)],rfl,c,[],rfl,trivial,hc.lw,hc,0,rfl,by omega,by omega,NR.refl _ _⟩
 refine zal rfl rfl (decide_eq_false (by omega)) ?_;refine zaa ?_;refine mwF ?_;refine zai ?_;refine mM ?_;refine mS ?_;by_cases hm1:m <= 256
 ·refine zah rfl rfl (decide_eq_true (by omega)) ?_
  refine zaa ?_;refine mwT ?_;refine mQ ?_;refine po_g rfl (hB.use trivial hc hn (p:=0) rfl) ?_;rintro x bx n l ⟨c',rfl,hc',r,rfl,h0,h1,hN⟩;refine mS ?_;refine zeB rfl rfl rfl h0 (by omega) fun q hq q0 q1 => ?_
  refine mN ?_;exact zae ⟨.inr rfl,[.d (pI q)],rfl,c',[],rfl,trivial,hc'.lw,hc',q,rfl,q0,by omega,hN⟩
 refine zal rfl rfl (decide_eq_false (by omega)) ?_;refine zaa ?_;refine mwF ?_;refine zai ?_;refine mQ ?_;refine po_g rfl (hB.use trivial hc hn (p:=0) rfl) ?_;rintro x bx n1 l1 ⟨c1,rfl,hc1,r1,rfl,h10,h11,hN1⟩;refine mN ?_;refine mQ ?_;refine po_g rfl (hB.use trivial hc1 (by have:=hN1.le; omega) (p:=0) rfl) ?_;rintro x bx n2 l2 ⟨c2,rfl,hc2,r2,rfl,h20,h21,hN2⟩;refine mN ?_;refine mQ ?_;refine po_g rfl (hB.use trivial hc2 (by have:=hN1.le; have:=hN2.le; omega) (p:=0) rfl) ?_;rintro x bx n3 l3 ⟨c3,rfl,hc3,r3,rfl,h30,h31,hN3⟩;refine mN ?_;refine mQ ?_;refine po_g rfl (hB.use trivial hc3 (by have:=hN1.le; have:=hN2.le; have:=hN3.le; omega) (p:=0) rfl) ?_;rintro x bx n4 l4 ⟨c4,rfl,hc4,r4,rfl,h40,h41,hN4⟩;refine mN ?_;refine mQ ?_;refine zcc (n:=r1 * 16777216) rfl rfl rfl rfl (by omega) ?_;refine mS ?_;refine zcc (n:=r2 * 65536) rfl rfl rfl rfl (by omega) ?_;refine zam (n:=r1 * 16777216 + r2 * 65536) rfl rfl rfl rfl (by omega) ?_
 refine mS ?_;refine zcc (n:=r3 * 256) rfl rfl rfl rfl (by omega) ?_;refine zam (n:=r1 * 16777216 + r2 * 65536 + r3 * 256) rfl rfl rfl rfl (by omega) ?_;refine mS ?_;refine zam (n:=r1 * 16777216 + r2 * 65536 + r3 * 256 + r4) rfl rfl rfl rfl (by omega) ?_;refine mS ?_;refine zeB rfl rfl rfl (by omega) (by omega) fun q hq q0 q1 => ?_
 refine mN ?_;exact zae ⟨.inr rfl,[.d (pI q)],rfl,c4,[],rfl,trivial,hc4.lw,hc4,q,rfl,q0,by omega,((hN1.pass hN2).pass hN3).pass hN4⟩
theorem zcn {b:L8} (hb:b.length <= 2147483647) (m:Int):Drw (env T hT) b 34 [.d (pI m)] QB:=by
 rintro c nt live hc hn;refine zaG (R:=fun x bx n l => ∃ c' rest,bx = c' :: rest /\ x.lw 0 /\ lwL 0 c' /\ Cu b c' /\ QB nt live x n l) (zaj zgM) (by show 2 <= 9; decide) fun B hB' => ?_
 unfold m_s_l01Once;refine mP ?_;refine mO ?_;(iterate 2 refine mS ?_);refine po_g rfl ((za6 (T:=T) (hT:=hT) hb m).use ⟨trivial,trivial⟩ hc hn (p:=0) rfl) ?_;rintro x bx n l ⟨c',rfl,hc',r,rfl,h0,h1,hN⟩;refine po_b rfl rfl (fun q hq => ?_);refine mN ?_;exact zae ⟨.inr rfl,[.d (pB q)],rfl,c',[],rfl,trivial,hc'.lw,hc',q,rfl,hN⟩
def allS (p:L8 -> Bool):LP PC -> Bool
 | [] => true
 | [.v (.string s)] :: r => p s.data.toList && allS p r
 | _ :: _ => false
def allI (p:Int -> Bool):LP PC -> Bool
 | [] => true
 | [.v (.int .i64 s)] :: r => p s && allI p r
 | _ :: _ => false
theorem zhR {p:L8 -> Bool}:∀ {es:LP PC} {k:Nat},allS p es = true -> (hk:k < es.length) -> ∃ s,es[k] = [pS s] /\ p s = true
 | [.v (.string s)] :: r,0,h,_ => by
  simp only [allS,Bool.and_eq_true] at h
  exact ⟨s.data.toList,by simp [pS],h.1⟩
 | [.v (.string s)] :: r,k + 1,h,hk => by
  simp only [allS,Bool.and_eq_true] at h;exact zhR (es:=r) (k:=k) h.2 (by simpa using hk)
theorem allI_at {p:Int -> Bool}:∀ {es:LP PC} {k:Nat},allI p es = true -> (hk:k < es.length) -> ∃ s,es[k] = [pI s] /\ p s = true
 | [.v (.int .i64 s)] :: r,0,h,_ => by
  simp only [allI,Bool.and_eq_true] at h
  exact ⟨s,rfl,h.1⟩
 | [.v (.int .i64 s)] :: r,k + 1,h,hk => by
  simp only [allI,Bool.and_eq_true] at h;exact allI_at (es:=r) (k:=k) h.2 (by simpa using hk)
theorem zeC {p:L8 -> Bool}:∀ {es:LP PC},allS p es = true -> lwLL 0 es
 | [],_ => by simp only [lwLL]
 | [.v (.string s)] :: r,h => by
  simp only [allS,Bool.and_eq_true] at h;simp only [lwLL,lwL,PC.lw,and_true,true_and]; exact zeC h.2
theorem zcC {p:Int -> Bool}:∀ {es:LP PC},allI p es = true -> lwLL 0 es
 | [],_ => by simp only [lwLL]
 | [.v (.int .i64 s)] :: r,h => by
  simp only [allI,Bool.and_eq_true] at h;simp only [lwLL,lwL,PC.lw,and_true,true_and]; exact zcC h.2
theorem zd9 {b:L8} (hb:b.length <= 2147483647) (p:L8 -> Bool) {t:Nat} {es:LP PC} (hp:allS p es = true) (h0:0 < es.length):Drw (env T hT) b 51 [.d (.sl t es)] (QT fun s => p s = true):=by
 rintro c nt live hc hn;refine zaG (R:=fun x bx n l => ∃ c' rest,bx = c' :: rest /\ x.lw 0 /\ lwL 0 c' /\ Cu b c' /\ QT (fun s => p s = true) nt live x n l) (zaj zgN) (by show 2 <= 12; decide) fun B hB' => ?_
 unfold m_s_l01Pick;refine mP ?_;refine mO ?_;(iterate 3 refine mS ?_);refine zav (n:=es.length) rfl rfl rfl ?_;refine po_g rfl ((za6 (T:=T) (hT:=hT) hb (es.length:Int)).use ⟨trivial,trivial⟩ hc hn (p:=0) rfl) ?_;rintro x bx n l ⟨c',rfl,hc',r,rfl,r0,r1,hN⟩;obtain ⟨k,rfl⟩:∃ k:Nat,r = k:=⟨r.toNat,by omega⟩;have hk:k < es.length:=by omega
 obtain ⟨s,hs,hps⟩:=zhR hp hk;refine zaH (es:=es) (e:=[pS s]) rfl rfl rfl ⟨r0,by rw [Int.toNat_natCast,getElem?_eq_getElem hk,hs]⟩ rfl ?_;refine mN ?_;exact zae ⟨.inr rfl,[.d (pS s)],rfl,c',[],rfl,trivial,hc'.lw,hc',s,rfl,hps,hN⟩
def QM (p:Int -> Bool):Nat -> List Nat -> PV -> Nat -> List Nat -> Prop:=fun nt live x n l => ∃ r:Int,x = .d (pI r) /\ p r = true /\ NR nt live n l []
theorem zbY {b:L8} (hb:b.length <= 2147483647) (p:Int -> Bool) {t:Nat} {es:LP PC} (hp:allI p es = true) (h0:0 < es.length):Drw (env T hT) b 69 [.d (.sl t es)] (QM p):=by
 rintro c nt live hc hn;refine zaG (R:=fun x bx n l => ∃ c' rest,bx = c' :: rest /\ x.lw 0 /\ lwL 0 c' /\ Cu b c' /\ QM p nt live x n l) (zaj zez) (by show 2 <= 12; decide) fun B hB' => ?_
 unfold m_s_l01PickInt;refine mP ?_;refine mO ?_;(iterate 3 refine mS ?_);refine zav (n:=es.length) rfl rfl rfl ?_;refine po_g rfl ((za6 (T:=T) (hT:=hT) hb (es.length:Int)).use ⟨trivial,trivial⟩ hc hn (p:=0) rfl) ?_;rintro x bx n l ⟨c',rfl,hc',r,rfl,r0,r1,hN⟩;obtain ⟨k,rfl⟩:∃ k:Nat,r = k:=⟨r.toNat,by omega⟩;have hk:k < es.length:=by omega
 obtain ⟨s,hs,hps⟩:=allI_at hp hk;refine zaH (es:=es) (e:=[pI s]) rfl rfl rfl ⟨r0,by rw [Int.toNat_natCast,getElem?_eq_getElem hk,hs]⟩ rfl ?_;refine mN ?_;exact zae ⟨.inr rfl,[.d (pI s)],rfl,c',[],rfl,trivial,hc'.lw,hc',s,rfl,hps,hN⟩
def NewI (b:L8) (m:Nat) (st:St):Prop:=∃ (i:Nat) (h:Int),i <= b.length /\ m = b.length - i /\ i64ok h /\ has st.tm [(0,.d (.sl 0 (pcB b))),(3,.d (pI h)),(4,.d (pI i))] /\ st.bx = []
theorem new_g {b:L8} (hb:b.length <= 2147483647) (nt:Nat) (live:List Nat):FnG (env T hT) 16 [.d (.sl 0 (pcB b))] [] nt live (fun x bx n l => ∃ c,x = .ref 0 0 /\ bx = [c] /\ Cu b c /\ n = nt /\ l = live):=by
 refine zaG (zaj zhP) (by show 1 <= 32; decide) fun B hB => ?_
 unfold m_s_l01New;refine mP ?_;refine mQ ?_;refine zav (n:=b.length) rfl rfl (za5 b) ?_;refine zam (n:=421421 + (b.length:Int)) rfl rfl rfl rfl (by omega) ?_;refine mN ?_;refine zan (fun st => ∃ h,i64ok h /\ has st.tm [(0,.d (.sl 0 (pcB b))),(3,.d (pI h))] /\ st.bx = [] /\ st.nt = nt /\ st.live = live) ?_ ?_
 ·refine mP ?_
  refine zab ?_;refine zas (fun m st => NewI b m st /\ st.nt = nt /\ st.live = live) b.length ⟨⟨0,421421 + (b.length:Int),Nat.zero_le _,rfl,by unfold i64ok; omega,⟨rfl,rfl,rfl,trivial⟩,rfl⟩,rfl,rfl⟩ ?_;rintro m tm bx n l ⟨⟨i,h,hi,rfl,hh,ht,hbx⟩,hn,hl⟩;obtain ⟨tm0,rfl⟩:=zac ht;simp only at hbx hn hl; subst hbx; subst hn; subst hl
  clear ht;refine zak (zan (fun st => has st.tm [(0,.d (.sl 0 (pcB b))),(3,.d (pI h)),(4,.d (pI i)),(15,.d (pB (decide (i < b.length /\ i < 4000))))] /\ st.bx = [] /\ st.nt = n /\ st.live = l) ?_ ?_)
  ·refine zaf ?_
   (iterate 2 refine mS ?_);refine zav (n:=b.length) rfl rfl (za5 b) ?_;by_cases c1:i < b.length
   ·refine zah rfl rfl (decide_eq_true (by omega)) ?_
    (iterate 2 refine mS ?_);by_cases c2:i < 4000
    ·refine zah rfl rfl (decide_eq_true (by omega)) ?_
     refine mN ?_;exact ⟨⟨rfl,rfl,rfl,by rw [decide_eq_true ⟨c1,c2⟩]; rfl,trivial⟩,rfl,rfl,rfl⟩
    ·refine zal rfl rfl (decide_eq_false (by omega)) ?_
     refine mN ?_;exact ⟨⟨rfl,rfl,rfl,by rw [decide_eq_false (by omega)]; rfl,trivial⟩,rfl,rfl,rfl⟩
   ·refine zal rfl rfl (decide_eq_false (by omega)) ?_
    refine mS ?_;refine mZ ?_;refine mN ?_;exact ⟨⟨rfl,rfl,rfl,by rw [decide_eq_false (by omega)]; rfl,trivial⟩,rfl,rfl,rfl⟩
  rintro tm bx n1 l1 ⟨ht,hbx,hn,hl⟩;obtain ⟨tm1,rfl⟩:=zac ht;simp only at hbx hn hl; subst hbx; subst hn; subst hl
  clear ht tm0;refine zbB (p:=i < b.length /\ i < 4000) rfl (fun hc => ?_) (fun hc => ?_)
  ·have hg:b[i]? = some b[i]:=getElem?_eq_getElem hc.1
   have hbt:=(b[i]).toNat_lt;refine zai ?_;refine zak (zab (zaf ?_));refine mS ?_;refine po_q rfl rfl ?_;(iterate 2 refine mS ?_);refine zaH (es:=pcB b) (e:=[.v (.int .u8 (b[i]).toNat)]) rfl rfl rfl ⟨by omega,by rw [Int.toNat_natCast]; exact zhO hg⟩ rfl ?_;refine mS ?_;refine zbb (n:=((b[i]).toNat:Int)) rfl rfl (by rw [IntKind.wrap_i64]; omega) ?_;refine po_q rfl rfl ?_;refine po_q rfl rfl ?_;refine po_q (v:=.d (pI (andR (IntKind.i64.wrap (IntKind.i64.wrap (IntKind.i64.wrap (h * 131) + ((b[i]).toNat:Int)) + 7)) 1073741823))) rfl rfl ?_;obtain ⟨hw0,hw1⟩:=zdD (m:=1073741823) (IntKind.i64.wrap (IntKind.i64.wrap (IntKind.i64.wrap (h * 131) + ((b[i]).toNat:Int)) + 7)) (by decide);generalize andR (IntKind.i64.wrap (IntKind.i64.wrap (IntKind.i64.wrap (h * 131) + ((b[i]).toNat:Int)) + 7)) 1073741823 = h2 at hw0 hw1;refine mN ?_;refine zaf ?_;refine mS ?_;refine zam (n:=((i + 1:Nat):Int)) rfl rfl rfl (by omega) (by omega) ?_
   refine mN ?_;exact ⟨_,by show b.length - (i + 1) < b.length - i; omega,⟨i + 1,h2,by omega,rfl,by unfold i64ok; omega,⟨rfl,rfl,rfl,trivial⟩,rfl⟩,rfl,rfl⟩
  ·refine zat ?_
   exact ⟨h,hh,⟨rfl,rfl,trivial⟩,rfl,rfl,rfl⟩
 rintro tm bx n l ⟨h,hh,ht,hbx,hn,hl⟩;obtain ⟨tm0,rfl⟩:=zac ht;simp only at hbx hn hl; subst hbx; subst hn; subst hl
 clear ht;refine mO ?_;(iterate 2 refine mS ?_);refine po_s (v:=.ag (cuC b 0 h)) rfl rfl rfl ?_;refine zbf (cs:=cuC b 0 h) rfl ?_;refine mN ?_;exact zae ⟨.inr rfl,[.ref 0 0],rfl,cuC b 0 h,rfl,rfl,⟨0,h,Nat.zero_le _,hh,rfl⟩,rfl,rfl⟩
theorem NR.up {nt n:Nat} {live l cs:_} (h:NR nt live n l cs):NR nt live (n + 1) (n :: l) cs:=h.mono (Nat.le_succ _) fun _t ht _ _ => mem_cons_of_mem _ ht
theorem NR.n2 {nt n:Nat} {live l cs:_} (h:NR nt live n l cs) (h2:2 <= nt):2 <= n:=Nat.le_trans h2 h.le
def SmI (b:L8) (nt:Nat) (live:List Nat) (m k:Nat) (st:St):Prop:=∃ (i:Nat) (s:L8) (c:List PC),i <= m /\ k = m - i /\ s.length <= 4 * i /\ Cu b c /\ has st.tm [(0,.ref 0 0),(3,.d (pS s)),(4,.d (pI m)),(5,.d (pI i))] /\ st.bx = [c] /\ NR nt live st.nt st.live []
theorem some_drw {b:L8} (hb:b.length <= 2147483647):Drw (env T hT) b 136 [] (QT fun s => s.length <= 16):=by
 rintro c nt live hc hn;refine zaG (R:=fun x bx n l => ∃ c' rest,bx = c' :: rest /\ x.lw 0 /\ lwL 0 c' /\ Cu b c' /\ QT (fun s => s.length <= 16) nt live x n l) (zaj zgR) (by show 1 <= 19; decide) fun B hB' => ?_
 unfold m_s_l01Some;refine mP ?_;refine mP ?_;refine mQ ?_;refine po_g rfl ((za6 (T:=T) (hT:=hT) hb 5).use ⟨trivial,trivial⟩ hc hn (p:=0) rfl) ?_;rintro x bx n1 l1 ⟨c1,rfl,hc1,r,rfl,r0,r1,hN⟩;obtain ⟨m,rfl⟩:∃ m:Nat,r = m:=⟨r.toNat,by omega⟩;have hm:m <= 4:=by omega
 refine mN ?_;refine zan (fun st => ∃ (s:L8) (c:List PC),s.length <= 16 /\ Cu b c /\ has st.tm [(3,.d (pS s))] /\ st.bx = [c] /\ NR nt live st.nt st.live []) ?_ ?_
 ·refine mP ?_
  refine zab ?_;refine zas (SmI b nt live m) m ⟨0,[],c1,Nat.zero_le _,rfl,lR,hc1,⟨rfl,rfl,rfl,rfl,trivial⟩,rfl,hN⟩ ?_;rintro k tm bx n l ⟨i,s,c2,hi,rfl,hs,hc2,ht,hbx,hN2⟩;obtain ⟨tm0,rfl⟩:=zac ht;simp only at hbx hN2; subst hbx
  clear ht;refine mM ?_;(iterate 2 refine mS ?_);refine po_b rfl rfl (fun q hq => ?_);refine zaa ?_;refine zaZ (p:=(i:Int) < m) hq rfl (fun h _ => ?_) (fun h _ => ?_)
  ·refine zai ?_
   refine zak (zab (zaf ?_));(iterate 2 refine mS ?_);refine zaq rfl ?_;refine po_g rfl ((zd9 (T:=T) (hT:=hT) hb (fun s => decide (s.length <= 4)) rfl (by show 0 < 13; decide)).use ⟨by simp only [PV.lw,PC.lw]; exact zeC (p:=fun s => decide (s.length <= 4)) rfl,trivial⟩ hc2 (by have:=hN2.n2 hn; omega) (p:=0) rfl) ?_;rintro x bx n3 l3 ⟨c3,rfl,hc3,q2,rfl,hq2,hN3⟩;have hq2:q2.length <= 4:=of_decide_eq_true hq2;refine zax rfl rfl rfl (by omega) ?_;refine mN ?_;refine zaf ?_;refine mS ?_;refine zam (n:=((i + 1:Nat):Int)) rfl rfl rfl (by omega) (by omega) ?_;refine mN ?_;exact ⟨_,by show m - (i + 1) < m - i; omega,i + 1,s ++ q2,c3,by omega,rfl,by rw [length_append]; omega,hc3,⟨rfl,rfl,rfl,rfl,trivial⟩,rfl,hN2.up.pass hN3⟩
  ·refine zat ?_
   exact ⟨s,c2,by omega,hc2,⟨rfl,trivial⟩,rfl,hN2⟩
 rintro tm bx n l ⟨s,c2,hs,hc2,ht,hbx,hN2⟩;obtain ⟨tm0,rfl⟩:=zac ht;simp only at hbx hN2; subst hbx
 clear ht;refine mP ?_;exact zae ⟨.inr rfl,[.d (pS s)],rfl,c2,[],rfl,trivial,hc2.lw,hc2,s,rfl,hs,hN2⟩
end
section
def lcI:Nat -> Int -> Int
 | 0,h => h
 | n + 1,h => lcI n (lcM h)
def lcU (h:Int):Nat:=(h % 18446744073709551616).toNat
theorem wrap_mod (z:Int):IntKind.i64.wrap z % 18446744073709551616 = z % 18446744073709551616:=by
 rw [IntKind.wrap_i64]; omega
theorem lcM_mod (h:Int):lcM h % 18446744073709551616 = (h * 6364136223846793005 + 1442695040888963407) % 18446744073709551616:=by
 unfold lcM;rw [wrap_mod,Int.add_emod,wrap_mod,<- Int.add_emod]
theorem lcU_M (h:Int):lcU (lcM h) = lgN (lcU h) % 18446744073709551616:=by
 unfold lcU;rw [lcM_mod,Int.add_emod,Int.mul_emod,<- Int.add_emod];have h0:0 <= h % 18446744073709551616:=Int.emod_nonneg _ (by decide);obtain ⟨u,hu⟩:∃ u:Nat,h % 18446744073709551616 = u:=⟨(h % 18446744073709551616).toNat,by omega⟩;rw [hu,Int.toNat_natCast];unfold lgN lgA lgC
 have e:(((u:Int) * (6364136223846793005 % 18446744073709551616) + 1442695040888963407) % 18446744073709551616) = ((6364136223846793005 * u + 1442695040888963407:Nat):Int) % 18446744073709551616:=by
  rw [show (6364136223846793005:Int) % 18446744073709551616 = 6364136223846793005 from rfl]
  congr 1
  omega
 rw [e];generalize 6364136223846793005 * u + 1442695040888963407 = z;omega
theorem zfN (M:Nat):∀ (j x:Nat),lgI j (x % M) % M = lgI j x % M
 | 0,x => Nat.mod_mod x M
 | j + 1,x => by
  have e:lgN (x % M) % M = lgN x % M:=by
   unfold lgN;rw [Nat.add_mod,Nat.mul_mod,Nat.mod_mod,<- Nat.mul_mod,<- Nat.add_mod]
  have h1:=zfN M j (lgN (x % M));have h2:=zfN M j (lgN x);rw [e] at h1;exact h1.symm.trans h2
theorem lgI_mod (j x:Nat):lgI j (x % 18446744073709551616) % 18446744073709551616 = lgI j x % 18446744073709551616:=zfN _ j x
theorem lcU_I:∀ (j:Nat) (h:Int),lcU (lcI j h) = lgI j (lcU h) % 18446744073709551616
 | 0,h => by simp only [lcI,lgI]; unfold lcU; omega
 | j + 1,h => by
  have h1:=lcU_I j (lcM h);rw [lcU_M,lgI_mod] at h1;exact h1
theorem lcI_ok:∀ (j:Nat) {h:Int},i64ok h -> i64ok (lcI j h)
 | 0,_,h => h
 | j + 1,_,_ => lcI_ok j (zeA _)
theorem lc_reach {h:Int} (hh:i64ok h):∃ j,j <= 18446744073709551616 /\ lcI j h = 9:=by
 obtain ⟨j,hj,he⟩:=lg_reach (lcU h) 9 64;refine ⟨j,Nat.le_of_lt hj,?_⟩;have h1:=lcU_I j h;have h2:=lcI_ok j hh;have he:lgI j (lcU h) % 18446744073709551616 = 9:=he;rw [he] at h1;unfold lcU at h1;unfold i64ok at h2;omega
def Dfl (h:Int):Prop:=3 <= (lcX (lcM h)).tmod 5
def Prg:Nat -> Int -> Prop
 | 0,h => Dfl h
 | n + 1,h => Dfl h \/ (Prg n (lcM h) /\ Prg n (lcM (lcM h)) /\ Prg n (lcM (lcM (lcM h))))
theorem Prg.mono:∀ {n:Nat} {h:Int},Prg n h -> Prg (n + 1) h
 | 0,_,h => .inl h
 | n + 1,_,h => by
  rcases h with h | ⟨a,b,c⟩
  ·exact .inl h
  ·exact .inr ⟨Prg.mono a,Prg.mono b,Prg.mono c⟩
theorem Prg.dfl:∀ {n:Nat} {h:Int},Dfl h -> Prg n h
 | 0,_,h => h
 | _ + 1,_,h => .inl h
theorem dfl9:Dfl 9 /\ Dfl (lcM 9) /\ Dfl (lcM (lcM 9)):=by
 unfold Dfl; decide
theorem zcP:∀ (j:Nat) (h:Int),(lcI j h = 9 \/ h = 9 \/ h = lcM 9 \/ h = lcM (lcM 9)) -> Prg j h
 | j,h,.inr (.inl e) => by subst e; exact Prg.dfl dfl9.1
 | j,h,.inr (.inr (.inl e)) => by subst e; exact Prg.dfl dfl9.2.1
 | j,h,.inr (.inr (.inr e)) => by subst e; exact Prg.dfl dfl9.2.2
 | 0,h,.inl e => by have e:h = 9:=e; subst e; exact dfl9.1
 | 1,h,.inl e => by
  have e:lcM h = 9:=e
  exact .inr ⟨zcP 0 _ (.inr (.inl e)),zcP 0 _ (.inr (.inr (.inl (by rw [e])))),zcP 0 _ (.inr (.inr (.inr (by rw [e]))))⟩
 | 2,h,.inl e => by
  have e:lcM (lcM h) = 9:=e
  exact .inr ⟨zcP 1 _ (.inl e),zcP 1 _ (.inr (.inl e)),zcP 1 _ (.inr (.inr (.inl (by rw [e]))))⟩
 | j + 3,h,.inl e => by
  have e:lcI j (lcM (lcM (lcM h))) = 9:=e;exact .inr ⟨zcP (j + 2) _ (.inl e),(zcP (j + 1) _ (.inl e)).mono,(zcP j _ (.inl e)).mono.mono⟩
theorem prg_all {h:Int} (hh:i64ok h):∃ n,n <= 18446744073709551616 /\ Prg n h:=by
 obtain ⟨j,hj,e⟩:=lc_reach hh;exact ⟨j,hj,zcP j h (.inl e)⟩
end
section
variable {T:World -> Prop} {hT:Low ngl T}
attribute [local irreducible] po mw pt
theorem zgS:∀ l:L8,byteL (pcB l) = some l
 | [] => rfl
 | x :: l => by
  have:=zgS l
  simp only [pcB,map_cons] at this ⊢;simp only [byteL,this,Option.map_some,Int.toNat_natCast,UInt8.ofNat_toNat]
theorem zeD (a b:L8):pcB (a ++ b) = pcB a ++ pcB b:=by simp [pcB]
theorem NR.byte {nt n t:Nat} {live l:List Nat} {out:L8} (h2:2 <= nt) (ht:2 <= t) (h:NR nt live n l [.sl t (pcB out)]) (x:UInt8):NR nt live (n + 1 + 1) ((n + 1) :: (n :: l).filter (· != t)) [.sl (n + 1) (pcB (out ++ [x]))]:=by
 have:=NR.app (a:=[]) (b:=[]) (ds:=[[.v (.int .u8 x.toNat)]]) h2 (.inr ht) (h.up.plain (ds:=[] ++ .sl t (pcB out) :: [] ++ [[PC.v (.int .u8 x.toNat)]].flatten) (by
  have:=h.own
  simp only [nil_append,cons_append,flatten_cons,List.flatten_nil,ownedL,Bool.and_true,PC.owned] at this ⊢;exact this) (by simp [toksL,PC.toks]))
 rw [zeD]; exact this
theorem zdm {E:Env} {d n:Nat} {x:X} {g:Option (Nat × Bool)} {lo hi:Option X} {c:List X} {r:List MOpr} {K:St -> Prop} {tm:Nat -> PV} {bx:LP PC} {nt:Nat} {live:List Nat} {t l h:Nat} {es rs:LP PC} (hg:gd g tm = some true) (hx:ev tm x = .d (.sl t es)) (hl:bound (ev tm) 0 lo = some l) (hh:bound (ev tm) es.length hi = some h) (hle:l <= h /\ h <= es.length) (hw:∀ e ∈ es,e.length = n) (hr:(es.drop l).take (h - l) = rs)
  (k:po E r K ⟨up d (.d (.sl 0 rs)) tm,bx,nt,live⟩):po E (⟨some d,.slc n x lo hi,g,c⟩ :: r) K ⟨tm,bx,nt,live⟩:=by
 refine po_q hg ?_ k;subst hr;simp only [qf,hx,hl,hh];rw [if_pos ⟨hle.1,hle.2,hw⟩]
theorem NR.mem1 {nt n t:Nat} {live l:List Nat} {es:LP PC} (ht:2 <= t) (h:NR nt live n l [.sl t es]):t ∈ l:=(h.mem t (by rw [toksL,zaF ht]; simp)).2.2
theorem lex1 {a a' n n' K:Nat} (h:a' < a) (hn:n' <= K):a' * (K + 1) + n' < a * (K + 1) + n:=by
 have:=Nat.mul_le_mul_right (K + 1) (show a' + 1 <= a from h)
 rw [Nat.add_mul] at this; omega
theorem lex2 {D D' L i i':Nat} (h:D' < D) (hi:L - i' <= L):D' * (L + 1) + (L - i') < D * (L + 1) + (L - i):=by
 have:=Nat.mul_le_mul_right (L + 1) (show D' + 1 <= D from h)
 rw [Nat.add_mul] at this; omega
def DtxS (b:L8) (N nt:Nat) (live:List Nat) (i:Nat) (h:Int) (out:L8) (t:Nat) (st:St):Prop :=
 has st.tm [(0,.ref 0 0),(1,.d (pI N)),(5,.d (.sl t (pcB out)))] /\ st.bx = [cuC b i h] /\ NR nt live st.nt st.live [.sl t (pcB out)] /\ 2 <= t /\ i <= b.length /\ i64ok h /\ out.length <= N + 20
def DtxI (b:L8) (N K nt:Nat) (live:List Nat) (m:Nat) (st:St):Prop :=
 ∃ (i:Nat) (h:Int) (out:L8) (t n:Nat),DtxS b N nt live i h out t st /\ n <= K /\ (i = b.length -> Prg n h) /\ m = ((N - out.length) * (b.length + 1) + (b.length - i)) * (K + 1) + n
theorem text_drw {b:L8} (hb:b.length <= 2147483647) (N:Nat) (hN:N <= 200):Drw (env T hT) b 135 [.d (pI N)] (QT fun s => s.length = N):=by
 rintro c nt live ⟨i0,h0,hi0,hh0,rfl⟩ hn;obtain ⟨K,hK⟩:∃ K,∀ h,i64ok h -> ∃ n,n <= K /\ Prg n h:=⟨_,fun h hh => prg_all hh⟩;have hBy:=fun (i:Nat) (hi:i <= b.length) h nt live => byte_g (T:=T) (hT:=hT) hb hi h nt live
 have hBl:=fun (i:Nat) (hi:i <= b.length) h m (hm:1 <= m /\ m <= 256) nt live => below_g (T:=T) (hT:=hT) hb hi h hm nt live
 refine zaG (R:=fun x bx n l => ∃ c' rest,bx = c' :: rest /\ x.lw 0 /\ lwL 0 c' /\ Cu b c' /\ QT (fun s => s.length = N) nt live x n l) (zaj zgQ) (by show 2 <= 88; decide) fun B hB' => ?_
 unfold m_s_l01Text;refine mP ?_;refine mO ?_;refine zaq (es:=[]) rfl ?_;refine mN ?_;refine zan (fun st => ∃ (i:Nat) (h:Int) (out:L8) (t:Nat),DtxS b N nt live i h out t st /\ N <= out.length) ?_ ?_
 ·refine zab ?_
  obtain ⟨n0,hn0,hp0⟩:=hK h0 hh0;refine zas (DtxI b N K nt live) _ ⟨i0,h0,[],nt,n0,⟨⟨rfl,rfl,rfl,trivial⟩,rfl,NR.lit (es:=[]) hn (NR.refl nt live),hn,hi0,hh0,Nat.zero_le _⟩,hn0,fun _ => hp0,rfl⟩ ?_;rintro m tm bx n1 l1 ⟨i,h,out,t,n,⟨ht,hbx,hNR,ht2,hi,hh,hol⟩,hnK,hpr,rfl⟩
  have fin:∀ (i':Nat) (h':Int) (out':L8) (t':Nat) (st':St),DtxS b N nt live i' h' out' t' st' -> out.length < N -> (out.length < out'.length \/ (out'.length = out.length /\ (i < b.length -> i < i') /\ (i = b.length -> i' = i /\ ∃ n',n' < n /\ Prg n' h'))) -> ∃ m',m' < ((N - out.length) * (b.length + 1) + (b.length - i)) * (K + 1) + n /\ DtxI b N K nt live m' st':=by
   intro i' h' out' t' st' hS hlt hp
   rcases hp with hp | ⟨he,hp1,hp2⟩
   ·obtain ⟨n',hn',hp'⟩:=hK h' hS.2.2.2.2.2.1
    exact ⟨_,lex1 (lex2 (by omega) (by omega)) hn',i',h',out',t',n',hS,hn',fun _ => hp',rfl⟩
   ·by_cases hil:i < b.length
    ·obtain ⟨n',hn',hp'⟩:=hK h' hS.2.2.2.2.2.1
     have:=hp1 hil
     refine ⟨_,lex1 ?_ hn',i',h',out',t',n',hS,hn',fun _ => hp',rfl⟩;rw [he]
     have:=hS.2.2.2.2.1
     omega
    ·obtain ⟨e1,n',hn',hp'⟩:=hp2 (by omega)
     refine ⟨_,?_,i',h',out',t',n',hS,by omega,fun _ => hp',rfl⟩;rw [he,e1]; omega
  have stuck:∀ r:Int,(i = b.length -> r = (lcX (lcM h)).tmod 5) -> r < 3 -> i = b.length -> ∃ n',n' < n /\ Prg n' (lcM h) /\ Prg n' (lcM (lcM h)) /\ Prg n' (lcM (lcM (lcM h))):=by
   intro r hr hr3 he;have hp:=hpr he;have hr:=hr he
   cases n with
   | zero => exact absurd (show 3 <= (lcX (lcM h)).tmod 5 from hp) (by omega)
   | succ n =>
    rcases hp with hp | hp
    ·exact absurd (show 3 <= (lcX (lcM h)).tmod 5 from hp) (by omega)
    ·exact ⟨n,Nat.lt_succ_self _,hp⟩
  obtain ⟨tm0,rfl⟩:=zac ht;simp only at hbx hNR; subst hbx
  clear ht hpr;refine mM ?_;refine mS ?_;refine zav (n:=out.length) rfl rfl (za5 out) ?_;refine mS ?_;refine po_b rfl rfl (fun q hq => ?_);refine zaa ?_;refine zaZ (p:=(out.length:Int) < N) hq rfl (fun hlt _ => ?_) (fun hlt _ => ?_)
  rotate_left
  ·refine zat ?_
   exact ⟨i,h,out,t,⟨⟨rfl,rfl,rfl,trivial⟩,rfl,hNR,ht2,hi,hh,hol⟩,by omega⟩
  have hlt:out.length < N:=by omega
  clear hq;refine zai ?_;refine zab ?_;refine mQ ?_;refine po_g rfl (hBl i hi h 5 (by decide) n1 l1) ?_;rintro x bx n2 l2 ⟨r,i1,rfl,rfl,r0,r5,hi1,e1,e2,rfl,rfl⟩;refine zaa ?_;refine zab ?_;refine mO ?_;by_cases k0:r = 0
  ·refine zah rfl rfl (beq_iff_eq.2 k0) ?_
   refine mT ?_;refine zaf ?_;(iterate 2 refine mS ?_);refine po_g rfl (hBy i1 hi1 (lcM h) n2 l2) ?_;rintro x bx n3 l3 ⟨v,i2,rfl,rfl,v0,v1,hi2,_,_,rfl,rfl⟩;refine zbb (n:=((UInt8.ofNat v.toNat).toNat:Int)) rfl rfl (by rw [IntKind.wrap_u8]; simp; omega) ?_;refine zaq (es:=[[.v (.int .u8 ((UInt8.ofNat v.toNat).toNat:Int))]]) rfl ?_;refine zaQ (t:=t) (es:=pcB out) (ds:=[[.v (.int .u8 ((UInt8.ofNat v.toNat).toNat:Int))]]) rfl rfl (.inr (mem_cons_of_mem _ (hNR.mem1 ht2))) (by rw [za5]; simp only [length_singleton]; omega) (fun e he => by simp only [mem_singleton] at he; subst he; rfl) (zb6 out) ?_;refine mN ?_;exact fin i2 (lcM (lcM h)) (out ++ [UInt8.ofNat v.toNat]) _ _ ⟨⟨rfl,rfl,by rw [zeD]; rfl,trivial⟩,rfl,hNR.byte hn ht2 _,by have:=hNR.n2 hn; omega,hi2,zeA _,by rw [length_append,length_singleton]; omega⟩ hlt (.inl (by rw [length_append,length_singleton]; omega))
  refine zal rfl rfl (beq_eq_false_iff_ne.2 k0) ?_;refine mF ?_;refine mO ?_;by_cases k1:r = 1
  ·refine zah rfl rfl (beq_iff_eq.2 k1) ?_
   refine mT ?_;refine mQ ?_;refine po_g rfl (hBl i1 hi1 (lcM h) 9 (by decide) n2 l2) ?_;rintro x bx n3 l3 ⟨k,i2,rfl,rfl,kk0,kk1,hi2,f1,f2,rfl,rfl⟩;obtain ⟨k,rfl⟩:∃ k':Nat,k = k':=⟨k.toNat,by omega⟩;refine mN ?_;refine mQ ?_;refine po_g rfl (hBl i2 hi2 (lcM (lcM h)) 4 (by decide) n3 l3) ?_;rintro x bx n4 l4 ⟨v,i3,rfl,rfl,v0,v1,hi3,g1,g2,rfl,rfl⟩;refine zam (n:=97 + v) rfl rfl rfl rfl (by omega) ?_;refine zbb (n:=((UInt8.ofNat (97 + v).toNat).toNat:Int)) rfl rfl (by rw [IntKind.wrap_u8]; simp; omega) ?_;refine mN ?_;refine mP ?_;refine zab ?_;refine zas (fun m st => ∃ (j:Nat) (out':L8) (t':Nat),j <= k /\ m = k - j /\ out'.length = out.length + j /\ has st.tm [(0,.ref 0 0),(1,.d (pI N)),(5,.d (.sl t' (pcB out'))),(6,.d (pI k)),(7,.d (.v (.int .u8 ((UInt8.ofNat (97 + v).toNat).toNat:Int)))),(8,.d (pI j))] /\ st.bx = [cuC b i3 (lcM (lcM (lcM h)))] /\ NR nt live st.nt st.live [.sl t' (pcB out')] /\ 2 <= t') k ⟨0,out,t,Nat.zero_le _,rfl,rfl,⟨rfl,rfl,rfl,rfl,rfl,rfl,trivial⟩,rfl,hNR,ht2⟩ ?_
   rintro m tm bx n5 l5 ⟨j,out',t',hj,rfl,hlen,ht,hbx,hNR',ht2'⟩;obtain ⟨tm1,rfl⟩:=zac ht;simp only at hbx hNR'; subst hbx
   clear ht;refine mM ?_;(iterate 2 refine mS ?_);refine po_b rfl rfl (fun q hq => ?_);refine zaa ?_;refine zaZ (p:=(j:Int) < k) hq rfl (fun hjk _ => ?_) (fun hjk _ => ?_)
   ·refine zai ?_
    refine zak (zab (zaf ?_));(iterate 2 refine mS ?_);refine zaq (es:=[[.v (.int .u8 ((UInt8.ofNat (97 + v).toNat).toNat:Int))]]) rfl ?_;refine zaQ (t:=t') (es:=pcB out') (ds:=[[.v (.int .u8 ((UInt8.ofNat (97 + v).toNat).toNat:Int))]]) rfl rfl (.inr (mem_cons_of_mem _ (hNR'.mem1 ht2'))) (by rw [za5]; simp only [length_singleton]; omega) (fun e he => by simp only [mem_singleton] at he; subst he; rfl) (zb6 out') ?_;refine mN ?_;refine zaf ?_;refine mS ?_;refine zam (n:=((j + 1:Nat):Int)) rfl rfl rfl (by omega) (by omega) ?_;refine mN ?_;exact ⟨_,by show k - (j + 1) < k - j; omega,j + 1,out' ++ [UInt8.ofNat (97 + v).toNat],_,by omega,rfl,by rw [length_append,length_singleton]; omega,⟨rfl,rfl,by rw [zeD]; rfl,rfl,rfl,rfl,trivial⟩,rfl,hNR'.byte hn ht2' _,by have:=hNR'.n2 hn; omega⟩
   ·refine zat ?_
    refine fin i3 (lcM (lcM (lcM h))) out' t' _ ⟨⟨rfl,rfl,rfl,trivial⟩,rfl,hNR',ht2',hi3,zeA _,by omega⟩ hlt ?_;by_cases hk:k = 0
    ·right
     refine ⟨by omega,fun hil => ?_,fun hil => ?_⟩
     ·have:=e1 hil
      by_cases c1:i1 < b.length
      ·have:=f1 c1
       by_cases c2:i2 < b.length
       ·have:=g1 c2; omega
       ·have:=(g2 (by omega)).1; omega
      ·have:=(f2 (by omega)).1
       have:=(g2 (by omega)).1; omega
     ·have q1:=(e2 hil).1
      have q2:=(f2 (by omega)).1;have q3:=(g2 (by omega)).1;obtain ⟨n',hn',_,_,hp⟩:=stuck r (fun h => (e2 h).2) (by omega) hil;exact ⟨by omega,n',hn',hp⟩
    ·left; omega
  refine zal rfl rfl (beq_eq_false_iff_ne.2 k1) ?_;refine mF ?_;refine mO ?_;by_cases k2:r = 2
  ·refine zah rfl rfl (beq_iff_eq.2 k2) ?_
   refine mT ?_;refine mQ ?_;refine zav (n:=out.length) rfl rfl (za5 out) ?_;by_cases hz:out.length = 0
   ·refine zal rfl rfl (decide_eq_false (by omega)) ?_
    refine zaa ?_;refine mwF ?_;refine zai ?_;refine fin i1 (lcM h) out t _ ⟨⟨rfl,rfl,rfl,trivial⟩,rfl,hNR,ht2,hi1,zeA _,hol⟩ hlt (.inr ⟨rfl,fun hil => by have:=e1 hil; omega,fun hil => ?_⟩);obtain ⟨n',hn',hp,_,_⟩:=stuck r (fun h => (e2 h).2) (by omega) hil;exact ⟨(e2 hil).1,n',hn',hp⟩
   refine zah rfl rfl (decide_eq_true (by omega)) ?_;refine zaa ?_;refine mwT ?_;refine mO ?_;(iterate 2 refine mS ?_);refine zav (n:=out.length) rfl rfl (za5 out) ?_;refine po_g rfl (hBl i1 hi1 (lcM h) (out.length:Int) (by omega) n2 l2) ?_;rintro x bx n3 l3 ⟨f,i2,rfl,rfl,ff0,ff1,hi2,f1,f2,rfl,rfl⟩;obtain ⟨f,rfl⟩:∃ k':Nat,f = k':=⟨f.toNat,by omega⟩;refine mN ?_;refine mQ ?_;refine po_g rfl (hBl i2 hi2 (lcM (lcM h)) 20 (by decide) n3 l3) ?_;rintro x bx n4 l4 ⟨k,i3,rfl,rfl,v0,v1,hi3,g1,g2,rfl,rfl⟩;obtain ⟨k,rfl⟩:∃ k':Nat,k = k':=⟨k.toNat,by omega⟩;refine mN ?_;refine mP ?_;refine zab ?_;refine zas (fun m st => ∃ (j:Nat) (out':L8) (t':Nat),j <= k /\ m = k - j /\ out'.length = out.length + j /\ has st.tm [(0,.ref 0 0),(1,.d (pI N)),(5,.d (.sl t' (pcB out'))),(9,.d (pI f)),(10,.d (pI k)),(11,.d (pI j))] /\ st.bx = [cuC b i3 (lcM (lcM (lcM h)))] /\ NR nt live st.nt st.live [.sl t' (pcB out')] /\ 2 <= t') k ⟨0,out,t,Nat.zero_le _,rfl,rfl,⟨rfl,rfl,rfl,rfl,rfl,rfl,trivial⟩,rfl,hNR,ht2⟩ ?_
   rintro m tm bx n5 l5 ⟨j,out',t',hj,rfl,hlen,ht,hbx,hNR',ht2'⟩;obtain ⟨tm1,rfl⟩:=zac ht;simp only at hbx hNR'; subst hbx
   clear ht;refine zak (zan (fun st => has st.tm [(0,.ref 0 0),(1,.d (pI N)),(5,.d (.sl t' (pcB out'))),(9,.d (pI f)),(10,.d (pI k)),(11,.d (pI j)),(72,.d (pB (decide (j < k))))] /\ st.bx = [cuC b i3 (lcM (lcM (lcM h)))] /\ st.nt = n5 /\ st.live = l5) ?_ ?_)
   ·refine zaf ?_
    (iterate 2 refine mS ?_);by_cases c1:j < k
    ·refine zah rfl rfl (decide_eq_true (by omega)) ?_
     (iterate 3 refine mS ?_);refine zam (n:=((f + j:Nat):Int)) rfl rfl rfl (by omega) (by omega) ?_;refine mS ?_;refine zav (n:=out'.length) rfl rfl (za5 out') ?_;refine zah rfl rfl (decide_eq_true (by omega)) ?_;refine mN ?_;exact ⟨⟨rfl,rfl,rfl,rfl,rfl,rfl,by rw [decide_eq_true c1]; rfl,trivial⟩,rfl,rfl,rfl⟩
    ·refine zal rfl rfl (decide_eq_false (by omega)) ?_
     refine mS ?_;refine mZ ?_;refine mN ?_;exact ⟨⟨rfl,rfl,rfl,rfl,rfl,rfl,by rw [decide_eq_false c1]; rfl,trivial⟩,rfl,rfl,rfl⟩
   rintro tm bx n6 l6 ⟨ht,hbx,hn6,hl6⟩;obtain ⟨tm2,rfl⟩:=zac ht;simp only at hbx hn6 hl6; subst hbx; subst hn6; subst hl6
   clear ht tm1;refine zbB (p:=j < k) rfl (fun hjk => ?_) (fun hjk => ?_)
   ·have hfj:f + j < out'.length:=by omega
    have hg:out'[f + j]? = some out'[f + j]:=getElem?_eq_getElem hfj;generalize out'[f + j] = y at hg;refine zai ?_;refine zak (zab (zaf ?_));(iterate 4 refine mS ?_);refine zam (n:=((f + j:Nat):Int)) rfl rfl rfl (by omega) (by omega) ?_;refine zaH (es:=pcB out') (e:=[.v (.int .u8 y.toNat)]) rfl rfl rfl ⟨by omega,by rw [Int.toNat_natCast]; exact zhO hg⟩ rfl ?_;refine mS ?_;refine zaq (es:=[[.v (.int .u8 y.toNat)]]) rfl ?_;refine zaQ (t:=t') (es:=pcB out') (ds:=[[.v (.int .u8 y.toNat)]]) rfl rfl (.inr (mem_cons_of_mem _ (hNR'.mem1 ht2'))) (by rw [za5]; simp only [length_singleton]; omega) (fun e he => by simp only [mem_singleton] at he; subst he; rfl) (zb6 out') ?_;refine mN ?_;refine zaf ?_;refine mS ?_;refine zam (n:=((j + 1:Nat):Int)) rfl rfl rfl (by omega) (by omega) ?_;refine mN ?_;exact ⟨_,by show k - (j + 1) < k - j; omega,j + 1,out' ++ [y],_,by omega,rfl,by rw [length_append,length_singleton]; omega,⟨rfl,rfl,by rw [zeD]; rfl,rfl,rfl,rfl,trivial⟩,rfl,hNR'.byte hn ht2' _,by have:=hNR'.n2 hn; omega⟩
   ·refine zat ?_
    refine fin i3 (lcM (lcM (lcM h))) out' t' _ ⟨⟨rfl,rfl,rfl,trivial⟩,rfl,hNR',ht2',hi3,zeA _,by omega⟩ hlt ?_;by_cases hk:k = 0
    ·right
     refine ⟨by omega,fun hil => ?_,fun hil => ?_⟩
     ·have:=e1 hil
      by_cases c1:i1 < b.length
      ·have:=f1 c1
       by_cases c2:i2 < b.length
       ·have:=g1 c2; omega
       ·have:=(g2 (by omega)).1; omega
      ·have:=(f2 (by omega)).1
       have:=(g2 (by omega)).1; omega
     ·have q1:=(e2 hil).1
      have q2:=(f2 (by omega)).1;have q3:=(g2 (by omega)).1;obtain ⟨n',hn',_,_,hp⟩:=stuck r (fun h => (e2 h).2) (by omega) hil;exact ⟨by omega,n',hn',hp⟩
    ·left; omega
  refine zal rfl rfl (beq_eq_false_iff_ne.2 k2) ?_;refine mF ?_;refine zaf ?_;(iterate 2 refine mS ?_);refine po_g rfl (hBl i1 hi1 (lcM h) 26 (by decide) n2 l2) ?_;rintro x bx n3 l3 ⟨v,i2,rfl,rfl,v0,v1,hi2,_,_,rfl,rfl⟩;refine zam (n:=97 + v) rfl rfl rfl rfl (by omega) ?_;refine zbb (n:=((UInt8.ofNat (97 + v).toNat).toNat:Int)) rfl rfl (by rw [IntKind.wrap_u8]; simp; omega) ?_;refine zaq (es:=[[.v (.int .u8 ((UInt8.ofNat (97 + v).toNat).toNat:Int))]]) rfl ?_;refine zaQ (t:=t) (es:=pcB out) (ds:=[[.v (.int .u8 ((UInt8.ofNat (97 + v).toNat).toNat:Int))]]) rfl rfl (.inr (mem_cons_of_mem _ (hNR.mem1 ht2))) (by rw [za5]; simp only [length_singleton]; omega) (fun e he => by simp only [mem_singleton] at he; subst he; rfl) (zb6 out) ?_;refine mN ?_;exact fin i2 (lcM (lcM h)) (out ++ [UInt8.ofNat (97 + v).toNat]) _ _ ⟨⟨rfl,rfl,by rw [zeD]; rfl,trivial⟩,rfl,hNR.byte hn ht2 _,by have:=hNR.n2 hn; omega,hi2,zeA _,by rw [length_append,length_singleton]; omega⟩ hlt (.inl (by rw [length_append,length_singleton]; omega))
 rintro tm bx n1 l1 ⟨i,h,out,t,⟨ht,hbx,hNR,ht2,hi,hh,hol⟩,hlen⟩;obtain ⟨tm0,rfl⟩:=zac ht;simp only at hbx hNR; subst hbx
 clear ht;refine mO ?_;(iterate 2 refine mS ?_);refine zdm (es:=pcB out) (l:=0) (h:=N) (rs:=pcB (out.take N)) rfl rfl rfl (zaD rfl rfl) ⟨Nat.zero_le _,by rw [za5]; exact hlen⟩ (zb6 out) (by simp [pcB,map_take]) ?_;refine po_q (v:=.d (pS (out.take N))) rfl ?_ ?_
 ·show (byteL (pcB (out.take N))).map _ = _
  rw [zgS]; rfl
 refine mN ?_;exact zae ⟨.inr rfl,[.d (pS (out.take N))],rfl,cuC b i h,[],rfl,trivial,cuC_lw ..,⟨i,h,hi,hh,rfl⟩,out.take N,rfl,by show (out.take N).length = N; rw [length_take]; omega,hNR.forget⟩
def DvR (b:L8) (K B nt:Nat) (live:List Nat) (x:PV) (bx:LP PC) (n:Nat) (l:List Nat):Prop:=∃ c' rest,bx = c' :: rest /\ x.lw 0 /\ lwL 0 c' /\ Cu b c' /\ QV K B nt live x n l
theorem zbD {b:L8} {K B nt n:Nat} {live l:List Nat} {c:List PC} {rest:LP PC} {cs:List PC} {v:V} (hc:Cu b c) (hN:NR nt live n l cs) (he:erL cs = vC v) (hg:Gd B v) (hR:RowT cs) (hk:v.kids.length <= K):DvR b K B nt live (.ag cs) (c :: rest) n l :=
 ⟨c,rest,rfl,hN.lw,hc.lw,hc,cs,v,rfl,hN,he,hg,hR,hk⟩
theorem rowT1 {a b c d:PC}:RowT [a,b,c,d,.sl 1 []]:=⟨a,b,c,d,1,[],rfl,.inl ⟨rfl,rfl⟩⟩
theorem zbs {k n e:Int} {s:L8} {B:Nat} (hk:i64ok k) (hn:i64ok n) (he:i64ok e) (hs:s.length <= B) (hB:B <= 1048576):Gd B (.mk k n e s []) :=
 ⟨⟨hk,hn,he,by unfold strok; omega,by simp,trivial⟩,⟨fun _ => Nat.zero_le _,trivial⟩,by simp only [V.bulk,V.bulks,length_nil]; omega⟩
theorem zcK {nt n:Nat} {live l:List Nat} {k m e:Int} {s:L8} (h:NR nt live n l []):NR nt live n l [pI k,pI m,pI e,pS s,.sl 1 []]:=h.plain rfl rfl
theorem zbJ {k m e:Int} {s:L8}:erL [pI k,pI m,pI e,pS s,.sl 1 []] = vC (.mk k m e s []):=rfl
theorem str_fn (s:L8):FnV (env T hT) 35 [.d (pS s)] (.ag (vC (.mk 5 0 0 s []))):=by
 refine zaW (zaj zey) (by show 1 <= 5; decide) fun B hB => ?_
 unfold m_s_l02Str;refine mP ?_;refine mO ?_;(iterate 2 refine mS ?_);refine zar (p:=0) (cs:=[pI 5,pI 0,pI 0,pS s,.sl 1 []]) rfl rfl rfl rfl rfl rfl ?_;refine mN ?_;exact zae ⟨.inr rfl,[.ag [pI 5,pI 0,pI 0,pS s,.sl 1 []]],rfl,rfl⟩
theorem intD_fn (n:Int):FnV (env T hT) 37 [.d (pI n)] (.ag (vC (.mk 3 n 0 [] []))):=by
 refine zaW (zaj zc0) (by show 1 <= 5; decide) fun B hB => ?_
 unfold m_s_l02Int;refine mP ?_;refine mO ?_;(iterate 2 refine mS ?_);refine zar (p:=0) (cs:=[pI 3,pI n,pI 0,pS [],.sl 1 []]) rfl rfl rfl rfl rfl rfl ?_;refine mN ?_;exact zae ⟨.inr rfl,[.ag [pI 3,pI n,pI 0,pS [],.sl 1 []]],rfl,rfl⟩
def vL (k n e:Int) (s:L8):List PC:=[pI k,pI n,pI e,pS s,.sl 1 []]
theorem zdn (s:L8) {bx:LP PC} {nt:Nat} {live:List Nat}:FnG (env T hT) 35 [.d (pS s)] bx nt live (fun x b n l => b = bx /\ x = .ag (vL 5 0 0 s) /\ n = nt /\ l = live):=by
 refine FnG.lift0 (args:=[.d (pS s)]) (R:=fun x n l => x = .ag (vL 5 0 0 s) /\ n = nt /\ l = live) ?_ ⟨trivial,trivial⟩;refine zaG (zaj zey) (by show 1 <= 5; decide) fun B hB => ?_
 unfold m_s_l02Str;refine mP ?_;refine mO ?_;(iterate 2 refine mS ?_);refine zar (p:=0) (cs:=vL 5 0 0 s) rfl rfl rfl rfl rfl rfl ?_;refine mN ?_;exact zae ⟨.inr rfl,[.ag (vL 5 0 0 s)],rfl,⟨trivial,trivial,trivial,trivial,trivial,trivial⟩,rfl,rfl,rfl⟩
theorem int_g (m:Int) {bx:LP PC} {nt:Nat} {live:List Nat}:FnG (env T hT) 37 [.d (pI m)] bx nt live (fun x b n l => b = bx /\ x = .ag (vL 3 m 0 []) /\ n = nt /\ l = live):=by
 refine FnG.lift0 (args:=[.d (pI m)]) (R:=fun x n l => x = .ag (vL 3 m 0 []) /\ n = nt /\ l = live) ?_ ⟨trivial,trivial⟩;refine zaG (zaj zc0) (by show 1 <= 5; decide) fun B hB => ?_
 unfold m_s_l02Int;refine mP ?_;refine mO ?_;(iterate 2 refine mS ?_);refine zar (p:=0) (cs:=vL 3 m 0 []) rfl rfl rfl rfl rfl rfl ?_;refine mN ?_;exact zae ⟨.inr rfl,[.ag (vL 3 m 0 [])],rfl,⟨trivial,trivial,trivial,trivial,trivial,trivial⟩,rfl,rfl,rfl⟩
def i64B (n:Int):Bool:=decide (-9223372036854775808 <= n) && decide (n <= 9223372036854775807)
theorem zfO {n:Int} (h:i64B n = true):i64ok n:=by
 unfold i64B at h;simp only [Bool.and_eq_true,decide_eq_true_eq] at h;exact ⟨h.1,h.2⟩
theorem zap {n:Int} (h:-1000 <= n /\ n <= 2000000):i64ok n:=by unfold i64ok; omega
theorem zfP {b:L8} (hb:b.length <= 2147483647) (pl:Bool):Drw (env T hT) b 120 [.d (pB pl)] (QV 0 20):=by
 rintro c nt live hc hn;refine zaG (R:=DvR b 0 20 nt live) (zaj zgP) (by show 2 <= 48; decide) fun B hB' => ?_
 have hBl:=fun m => za6 (T:=T) (hT:=hT) hb m
 unfold m_s_l02Leaf;refine mP ?_;refine zan (fun st => ∃ c1,Cu b c1 /\ has st.tm [(0,.ref 0 0),(4,.ref 1 0)] /\ st.bx = [c1,[pI 0,pI 0,pI 0,pS [],.sl 1 []]] /\ NR nt live st.nt st.live []) ?_ ?_
 ·refine mQ ?_
  refine po_g rfl ((hBl 9).use ⟨trivial,trivial⟩ hc hn (p:=0) rfl) ?_;rintro x bx n1 l1 ⟨c1,rfl,hc1,r,rfl,r0,r1,hN1⟩;have hn1:=hN1.n2 hn;refine zaa ?_;refine zab ?_;refine mO ?_;by_cases k0:r = 0
  ·refine zah rfl rfl (beq_iff_eq.2 k0) ?_
   refine mT ?_;refine mQ ?_;refine po_g rfl ((hBl 3).use ⟨trivial,trivial⟩ hc1 hn1 (p:=0) rfl) ?_;rintro x bx n2 l2 ⟨c2,rfl,hc2,v,rfl,v0,v1,hN2⟩;refine mS ?_;refine zar (p:=1) (cs:=[pI v,pI 0,pI 0,pS [],.sl 1 []]) rfl rfl rfl rfl rfl rfl ?_;refine mN ?_;exact zae ⟨.inr rfl,[.ag [pI v,pI 0,pI 0,pS [],.sl 1 []]],rfl,zbD hc2 (zcK (hN1.pass hN2)) zbJ (zbs (zap (by omega)) (zap (by omega)) (zap (by omega)) (Nat.zero_le _) (by decide)) rowT1 (Nat.zero_le _)⟩
  refine zal rfl rfl (beq_eq_false_iff_ne.2 k0) ?_;refine mF ?_;refine mO ?_;by_cases k1:r = 1
  ·refine zah rfl rfl (beq_iff_eq.2 k1) ?_
   refine mT ?_;refine mQ ?_;refine zaq rfl ?_;refine po_g rfl ((zbY (T:=T) (hT:=hT) hb i64B rfl (by show 0 < 5; decide)).use ⟨by simp only [PV.lw,PC.lw]; exact zcC (p:=i64B) rfl,trivial⟩ hc1 (by omega) (p:=0) rfl) ?_;rintro x bx n2 l2 ⟨c2,rfl,hc2,v,rfl,hv,hN2⟩;have hN12:=hN1.up.pass hN2;refine mS ?_;refine zaq rfl ?_;refine po_g rfl ((zbY (T:=T) (hT:=hT) hb i64B rfl (by show 0 < 5; decide)).use ⟨by simp only [PV.lw,PC.lw]; exact zcC (p:=i64B) rfl,trivial⟩ hc2 (by have:=hN12.n2 hn; omega) (p:=0) rfl) ?_;rintro x bx n3 l3 ⟨c3,rfl,hc3,e,rfl,he,hN3⟩;refine mS ?_;refine zar (p:=1) (cs:=[pI 4,pI v,pI e,pS [],.sl 1 []]) rfl rfl rfl rfl rfl rfl ?_;refine mN ?_;exact zae ⟨.inr rfl,[.ag [pI 4,pI v,pI e,pS [],.sl 1 []]],rfl,zbD hc3 (zcK (hN12.up.pass hN3)) zbJ (zbs (zap (by omega)) (zfO hv) (zfO he) (Nat.zero_le _) (by decide)) rowT1 (Nat.zero_le _)⟩
  refine zal rfl rfl (beq_eq_false_iff_ne.2 k1) ?_;refine mF ?_;refine mO ?_;by_cases k2:r = 2
  ·refine zah rfl rfl (beq_iff_eq.2 k2) ?_
   refine mT ?_;refine mP ?_
   cases pl with
   | true =>
    refine mwF ?_;refine zai ?_
    exact ⟨c1,hc1,⟨rfl,rfl,trivial⟩,rfl,hN1⟩
   | false =>
   refine mwT ?_;refine mO ?_;(iterate 2 refine mS ?_);refine po_g rfl ((hBl 8).use ⟨trivial,trivial⟩ hc1 hn1 (p:=0) rfl) ?_;rintro x bx n2 l2 ⟨c2,rfl,hc2,v,rfl,v0,v1,hN2⟩;obtain ⟨v,rfl⟩:∃ k':Nat,v = k':=⟨v.toNat,by omega⟩;have hN12:=hN1.pass hN2;refine po_g rfl ((text_drw (T:=T) (hT:=hT) hb v (by omega)).use ⟨trivial,trivial⟩ hc2 (hN12.n2 hn) (p:=0) rfl) ?_;rintro x bx n3 l3 ⟨c3,rfl,hc3,s,rfl,hs,hN3⟩;refine mS ?_;refine zar (p:=1) (cs:=[pI 6,pI 0,pI 0,pS s,.sl 1 []]) rfl rfl rfl rfl rfl rfl ?_;refine mN ?_;exact zae ⟨.inr rfl,[.ag [pI 6,pI 0,pI 0,pS s,.sl 1 []]],rfl,zbD hc3 (zcK (hN12.pass hN3)) zbJ (zbs (zap (by omega)) (zap (by omega)) (zap (by omega)) (by omega) (by decide)) rowT1 (Nat.zero_le _)⟩
  refine zal rfl rfl (beq_eq_false_iff_ne.2 k2) ?_;refine mF ?_;refine zan (fun st => has st.tm [(0,.ref 0 0),(4,.ref 1 0),(6,.d (pI r)),(30,.d (pB (decide (r = 3 \/ r = 4))))] /\ st.bx = [c1,[pI 0,pI 0,pI 0,pS [],.sl 1 []]] /\ st.nt = n1 /\ st.live = l1) ?_ ?_
  ·refine mO ?_
   by_cases k3:r = 3
   ·refine zah rfl rfl (beq_iff_eq.2 k3) ?_
    refine mT ?_;refine zai ?_;exact ⟨⟨rfl,rfl,rfl,by rw [decide_eq_true (.inl k3)]; rfl,trivial⟩,rfl,rfl,rfl⟩
   ·refine zal rfl rfl (beq_eq_false_iff_ne.2 k3) ?_
    refine mF ?_;refine zaf ?_;by_cases k4:r = 4
    ·refine zah rfl rfl (beq_iff_eq.2 k4) ?_
     refine mN ?_;exact ⟨⟨rfl,rfl,rfl,by rw [decide_eq_true (.inr k4)]; rfl,trivial⟩,rfl,rfl,rfl⟩
    ·refine zal rfl rfl (beq_eq_false_iff_ne.2 k4) ?_
     refine mN ?_;exact ⟨⟨rfl,rfl,rfl,by rw [decide_eq_false (by omega)]; rfl,trivial⟩,rfl,rfl,rfl⟩
  rintro tm bx n2 l2 ⟨ht,hbx,hn2,hl2⟩;obtain ⟨tm0,rfl⟩:=zac ht;simp only at hbx hn2 hl2; subst hbx; subst hn2; subst hl2
  clear ht;refine zbB (p:=r = 3 \/ r = 4) rfl (fun k => ?_) (fun k => ?_)
  ·refine mQ ?_
   refine zaq rfl ?_;refine po_g rfl ((zd9 (T:=T) (hT:=hT) hb (fun s => decide (s.length <= 20)) rfl (by show 0 < 5; decide)).use ⟨by simp only [PV.lw,PC.lw]; exact zeC (p:=fun s => decide (s.length <= 20)) rfl,trivial⟩ hc1 (by omega) (p:=0) rfl) ?_;rintro x bx n3 l3 ⟨c3,rfl,hc3,s,rfl,hs,hN3⟩;refine po_g rfl (zdn (T:=T) (hT:=hT) s) ?_;rintro x b' n4 l4 ⟨hb4,rfl,hn4,hl4⟩
   subst hb4; subst hn4; subst hl4
   refine zar (p:=1) (cs:=vL 5 0 0 s) rfl rfl rfl rfl rfl rfl ?_;refine mN ?_;exact zae ⟨.inr rfl,[.ag (vL 5 0 0 s)],rfl,zbD hc3 (zcK (hN1.up.pass hN3)) zbJ (zbs (zap (by omega)) (zap (by omega)) (zap (by omega)) (of_decide_eq_true hs) (by decide)) rowT1 (Nat.zero_le _)⟩
  ·refine mO ?_
   by_cases k5:r = 5
   ·refine zah rfl rfl (beq_iff_eq.2 k5) ?_
    refine mT ?_;refine mQ ?_;refine po_g rfl ((some_drw (T:=T) (hT:=hT) hb).use trivial hc1 hn1 (p:=0) rfl) ?_;rintro x bx n3 l3 ⟨c3,rfl,hc3,s,rfl,hs,hN3⟩;refine po_g rfl (zdn (T:=T) (hT:=hT) s) ?_;rintro x b' n4 l4 ⟨hb4,rfl,hn4,hl4⟩
    subst hb4; subst hn4; subst hl4
    refine zar (p:=1) (cs:=vL 5 0 0 s) rfl rfl rfl rfl rfl rfl ?_;refine mN ?_;exact zae ⟨.inr rfl,[.ag (vL 5 0 0 s)],rfl,zbD hc3 (zcK (hN1.pass hN3)) zbJ (zbs (zap (by omega)) (zap (by omega)) (zap (by omega)) (by omega) (by decide)) rowT1 (Nat.zero_le _)⟩
   ·refine zal rfl rfl (beq_eq_false_iff_ne.2 k5) ?_
    refine mK ?_;exact ⟨c1,hc1,⟨rfl,rfl,trivial⟩,rfl,hN1⟩
 rintro tm bx n1 l1 ⟨c1,hc1,ht,hbx,hN1⟩;obtain ⟨tm0,rfl⟩:=zac ht;simp only at hbx hN1; subst hbx
 clear ht;refine mO ?_;(iterate 2 refine mS ?_);refine po_g rfl ((hBl 1000).use ⟨trivial,trivial⟩ hc1 (hN1.n2 hn) (p:=0) rfl) ?_;rintro x bx n2 l2 ⟨c2,rfl,hc2,v,rfl,v0,v1,hN2⟩;have hN12:=hN1.pass hN2;have hv:i64B v = true:=by unfold i64B; rw [decide_eq_true (by omega),decide_eq_true (by omega)]; rfl
 have hal:allI i64B [[pI 0],[pI 1],[pI 23],[pI 24],[pI 255],[pI 256],[pI 65535],[pI 65536],[pI 4294967295],[pI 4294967296],[pI (-1)],[pI (-24)],[pI (-25)],[pI (-256)],[pI (-257)],[pI 9223372036854775807],[pI (-9223372036854775808)],[pI v]] = true:=by
  show (true && (true && (true && (true && (true && (true && (true && (true && (true && (true && (true && (true && (true && (true && (true && (true && (true && (i64B v && true)))))))))))))))))) = true;rw [hv]; rfl
 refine zaq (es:=[[pI 0],[pI 1],[pI 23],[pI 24],[pI 255],[pI 256],[pI 65535],[pI 65536],[pI 4294967295],[pI 4294967296],[pI (-1)],[pI (-24)],[pI (-25)],[pI (-256)],[pI (-257)],[pI 9223372036854775807],[pI (-9223372036854775808)],[pI v]]) rfl ?_;refine po_g rfl ((zbY (T:=T) (hT:=hT) hb i64B hal (by show 0 < 18; decide)).use ⟨by simp only [PV.lw,PC.lw]; exact zcC hal,trivial⟩ hc2 (by have:=hN12.n2 hn; omega) (p:=0) rfl) ?_;rintro x bx n3 l3 ⟨c3,rfl,hc3,q,rfl,hq,hN3⟩;refine po_g rfl (int_g (T:=T) (hT:=hT) q) ?_;rintro x b' n4 l4 ⟨hb4,rfl,hn4,hl4⟩
 subst hb4; subst hn4; subst hl4
 refine zar (p:=1) (cs:=vL 3 q 0 []) rfl rfl rfl rfl rfl rfl ?_;refine mN ?_;exact zae ⟨.inr rfl,[.ag (vL 3 q 0 [])],rfl,zbD hc3 (zcK (hN12.up.pass hN3)) zbJ (zbs (zap (by omega)) (zfO hq) (zap (by omega)) (Nat.zero_le _) (by decide)) rowT1 (Nat.zero_le _)⟩
def mkB:Nat -> Nat
 | 0 => 20
 | d + 1 => 40 + 3 * mkB d
structure Kd (B:Nat) (rows:LP PC) (ks:List V):Prop where
 er:erLL rows = vK ks
 wf:V.wfs ks
 few:V.fews ks
 bulk:V.bulks ks <= B
theorem Kd.nil:Kd 0 [] []:=⟨rfl,trivial,trivial,lR⟩
theorem Kd.len {B:Nat} {rows:LP PC} {ks:List V} (h:Kd B rows ks):rows.length = ks.length:=by
 have:=congrArg length h.er
 rw [zaO,length_map,zaY] at this; exact this
theorem Kd.wid {B:Nat} {rows:LP PC} {ks:List V} (h:Kd B rows ks):∀ e ∈ rows,e.length = 5:=fun e he => by
 have h1:erL e ∈ vK ks:=by rw [<- h.er,zaO]; exact mem_map_of_mem he
 have:=zgl ks _ h1
 rw [zbj,length_map] at this; exact this
theorem bulks_app:∀ a b:List V,V.bulks (a ++ b) = V.bulks a + V.bulks b
 | [],b => by simp [V.bulks]
 | x :: a,b => by simp only [cons_append,V.bulks,bulks_app a b]; omega
theorem Kd.app {B B':Nat} {rows ds:LP PC} {ks ls:List V} (h:Kd B rows ks) (k:Kd B' ds ls):Kd (B + B') (rows ++ ds) (ks ++ ls):=by
 refine ⟨?_,?_,?_,?_⟩
 ·rw [zaO,map_append,<- zaO,<- zaO,h.er,k.er]; simp [vK]
 ·rw [V.wfs_all] at *
  have h1:=V.wfs_all.1 h.wf; have h2:=V.wfs_all.1 k.wf
  intro v hv; exact (mem_append.1 hv).elim (h1 v) (h2 v)
 ·have h1:=V.fews_all.1 h.few; have h2:=V.fews_all.1 k.few
  rw [V.fews_all];intro v hv; exact (mem_append.1 hv).elim (h1 v) (h2 v)
 ·rw [bulks_app]; have:=h.bulk; have:=k.bulk; omega
theorem Kd.one {B:Nat} {cs:List PC} {v:V} (he:erL cs = vC v) (hg:Gd B v):Kd B [cs] [v]:=by
 refine ⟨?_,⟨hg.wf,trivial⟩,⟨hg.few,trivial⟩,by simp only [V.bulks]; have:=hg.bulk; omega⟩;show [erL cs] = [v.d.pc];rw [he,V.pc_eq]
theorem Kd.mono {B B':Nat} {rows:LP PC} {ks:List V} (h:Kd B rows ks) (k:B <= B'):Kd B' rows ks:=⟨h.er,h.wf,h.few,Nat.le_trans h.bulk k⟩
theorem Kd.gd {B B':Nat} {rows:LP PC} {ks:List V} (h:Kd B rows ks) {k n e:Int} {s:L8} (hk:i64ok k) (hn:i64ok n) (he:i64ok e) (h8:k = 8 -> ks.length <= 8) (hl:ks.length <= 4294967295) (hs:s.length <= 4294967295) (hb:s.length + ks.length + B <= B'):Gd B' (.mk k n e s ks) :=
 ⟨⟨hk,hn,he,by unfold strok; omega,by omega,h.wf⟩,⟨h8,h.few⟩,by simp only [V.bulk]; have:=h.bulk; omega⟩
theorem zdU {B:Nat} {t:Nat} {rows:LP PC} {ks:List V} (h:Kd B rows ks) (k n e:Int) (s:L8):erL [pI k,pI n,pI e,pS s,.sl t rows] = vC (.mk k n e s ks):=by
 show [pI k,pI n,pI e,pS s,.sl 0 (erLL rows)] = _;rw [h.er]; rfl
theorem zbp {cs:List PC} {v:V} (h:erL cs = vC v):cs.length = 5:=by
 have:=congrArg length h
 rw [zbj,length_map] at this; exact this
theorem ze8 {tm:Nat -> PV} {c c':List PC} {r:LP PC} {k p o:Nat} (h:ev tm (.t k) = .ref (p + 1) o):keepX (ev tm) (c :: r) ((c :: r).set 0 c') (.t k):=by
 unfold keepX; rw [h]; rfl
def zV:List PC:=[pI 0,pI 0,pI 0,pS [],.sl 1 []]
def vRow (k t:Nat) (rows:LP PC):List PC:=[pI k,pI 0,pI 0,pS [],.sl t rows]
theorem NR.row0 {nt n:Nat} {live l:List Nat} {k:Nat} (h:NR nt live n l []):NR nt live n l (vRow k 1 []):=h.plain rfl rfl
theorem NR.kids {nt n n2 t k:Nat} {live l l2:List Nat} {rows ds:LP PC} (h2:2 <= nt) (ht:t = 1 /\ rows = [] \/ 2 <= t) (h:NR nt live n l (vRow k t rows)) (hd:NR n l n2 l2 ds.flatten):NR nt live (n2 + 1) (n2 :: l2.filter (· != t)) (vRow k n2 (rows ++ ds)):=by
 have:=NR.app (a:=[pI k,pI 0,pI 0,pS []]) (b:=[]) (rows:=rows) (ds:=ds) h2 ht (h.trans hd)
 exact this
theorem NR.rowt {nt n t k:Nat} {live l:List Nat} {rows:LP PC} (ht:t = 1 /\ rows = [] \/ 2 <= t) (h:NR nt live n l (vRow k t rows)):t = 1 \/ t ∈ l:=by
 rcases ht with ⟨h1,_⟩ | h2
 ·exact .inl h1
 ·exact .inr (h.mem t (by unfold vRow; simp [toksL,PC.toks,pI,pS,h2])).2.2
theorem NR.rowt2 {nt n n2 t k:Nat} {live l l2:List Nat} {rows:LP PC} {cs:List PC} (ht:t = 1 /\ rows = [] \/ 2 <= t) (h:NR nt live n l (vRow k t rows)) (h2:NR n l n2 l2 cs):t = 1 \/ t ∈ l2:=by
 rcases ht with ⟨h1,_⟩ | h3
 ·exact .inl h1
 ·obtain ⟨a,b,c⟩:=h.mem t (by unfold vRow; simp [toksL,PC.toks,pI,pS,h3])
  exact .inr (h2.keep t c h3 b)
theorem zgT {e:X -> PV} {x:X} {a:List PC} {n:Nat} (hx:pcells (e x) = some a) (ha:a.length = n):litP e n [x] = some [a]:=by simp only [litP,hx,ha,if_true]
theorem litP2 {e:X -> PV} {x y:X} {a b:List PC} {n:Nat} (hx:pcells (e x) = some a) (hy:pcells (e y) = some b) (ha:a.length = n) (hb:b.length = n):litP e n [x,y] = some [a,b]:=by simp only [litP,hx,hy,ha,hb,if_true]
section
variable {E:Env} {K:St -> Prop} {tm:Nat -> PV} {bx:LP PC} {nt d:Nat} {live:List Nat} {r:List MOpr} {c:List X}
theorem zdE {n:Nat} {xs:List X} {es:LP PC} (hq:litP (ev tm) n xs = some es) (h:po E r K ⟨up d (.d (.sl 0 es)) tm,bx,nt,live⟩):po E (⟨some d,.litq n xs,none,c⟩ :: r) K ⟨tm,bx,nt,live⟩ :=
 po_q rfl (by show (litP (ev tm) n xs).map _ = _; rw [hq]; rfl) h
end
end
section
variable {T:World -> Prop} {hT:Low ngl T}
attribute [local irreducible] po mw pt
def MkM (b:L8) (d:Nat) (pl:Bool) (m nt:Nat) (live:List Nat) (k:Nat) (st:St):Prop :=
 ∃ (i t:Nat) (rows:LP PC) (ks:List V) (c:List PC) (rest:LP PC),i <= m /\ k = m - i /\ Cu b c /\ has st.tm [(0,.ref 0 0),(1,.d (pI ((d + 1:Nat):Int))),(2,.d (pB pl)),(6,.ref 1 0),(7,.ref 2 0),(8,.d (pI m)),(9,.d (pI i))] /\
  st.bx = c :: zV :: vRow 8 t rows :: rest /\ NR nt live st.nt st.live (vRow 8 t rows) /\ (t = 1 /\ rows = [] \/ 2 <= t) /\ ks.length = 2 * i /\ Kd (i * (10 + mkB d)) rows ks
def MkL (b:L8) (d:Nat) (pl:Bool) (m nt:Nat) (live:List Nat) (k:Nat) (st:St):Prop :=
 ∃ (i t:Nat) (rows:LP PC) (ks:List V) (c:List PC) (rest:LP PC),i <= m /\ k = m - i /\ Cu b c /\ has st.tm [(0,.ref 0 0),(1,.d (pI ((d + 1:Nat):Int))),(2,.d (pB pl)),(6,.ref 1 0),(7,.ref 2 0),(8,.d (pI m)),(11,.d (pI i))] /\
  st.bx = c :: zV :: vRow 7 t rows :: rest /\ NR nt live st.nt st.live (vRow 7 t rows) /\ (t = 1 /\ rows = [] \/ 2 <= t) /\ ks.length = i /\ Kd (i * mkB d) rows ks
theorem leafC (v:V) (h:v.kids = []):ownedL (vC v) = true /\ toksL (vC v) = []:=by
 obtain ⟨k,n,e,s,kids⟩:=v;have h:kids = []:=h
 subst h; exact ⟨rfl,rfl⟩
theorem make_drw {b:L8} (hb:b.length <= 2147483647) (pl:Bool):∀ (d:Nat),d <= 3 -> Drw (env T hT) b 99 [.d (pI d),.d (pB pl)] (QV 6 (mkB d)):=by
 intro d
 induction d with
 | zero =>
  intro _ c nt live hc hn;refine zaG (R:=DvR b 6 (mkB 0) nt live) (zaj zdT) (by show 3 <= 90; decide) fun B hB' => ?_
  unfold m_s_l02Make;refine mP ?_;refine mM ?_;refine mS ?_;refine zah rfl rfl (decide_eq_true (by omega)) ?_;(iterate 1 refine mS ?_);refine mZ ?_;refine mT ?_;refine mO ?_;(iterate 2 refine mS ?_);refine po_g rfl ((zfP (T:=T) (hT:=hT) hb pl).use ⟨trivial,trivial⟩ hc hn (p:=0) rfl) ?_;rintro x bx n l ⟨c1,rfl,hc1,cs,v,rfl,hN,he,hg,hRT,hkl⟩;refine zar (p:=1) (cs:=cs) rfl rfl rfl (zbp he) rfl rfl ?_;refine mN ?_
  exact zae ⟨.inr rfl,[.ag cs],zck rfl rfl (zbp he),zbD hc1 hN he hg hRT (by omega)⟩
 | succ d ih =>
  intro hd c nt live hc hn;have ih:=ih (by omega);refine zaG (R:=DvR b 6 (mkB (d + 1)) nt live) (zaj zdT) (by show 3 <= 90; decide) fun B hB' => ?_
  have hBl:=fun m => za6 (T:=T) (hT:=hT) hb m
  unfold m_s_l02Make;refine mP ?_;refine zan (fun st => ∃ c1,Cu b c1 /\ has st.tm [(0,.ref 0 0),(1,.d (pI ((d + 1:Nat):Int))),(2,.d (pB pl)),(6,.ref 1 0)] /\ st.bx = [c1,zV] /\ NR nt live st.nt st.live []) ?_ ?_
  ·refine mQ ?_
   refine zal rfl rfl (decide_eq_false (by omega)) ?_;(iterate 2 refine mS ?_);refine po_gt rfl rfl ((zcn (T:=T) (hT:=hT) hb 3).use ⟨trivial,trivial⟩ hc hn (p:=0) rfl) ?_;rintro x bx n1 l1 ⟨c1,rfl,hc1,q,rfl,hN1⟩;refine mN ?_
   cases q with
   | false =>
    refine mwF ?_;refine zai ?_
    exact ⟨c1,hc1,⟨rfl,rfl,rfl,rfl,trivial⟩,rfl,hN1⟩
   | true =>
   refine mwT ?_;refine mO ?_;(iterate 2 refine mS ?_);refine po_g rfl ((zfP (T:=T) (hT:=hT) hb pl).use ⟨trivial,trivial⟩ hc1 (hN1.n2 hn) (p:=0) rfl) ?_;rintro x bx n l ⟨c2,rfl,hc2,cs,v,rfl,hN,he,hg,hRT,hkl⟩;refine zar (p:=1) (cs:=cs) rfl rfl rfl (zbp he) rfl rfl ?_;refine mN ?_;exact zae ⟨.inr rfl,[.ag cs],zck rfl rfl (zbp he),zbD hc2 (hN1.trans hN) he (hg.mono (by show 20 <= 40 + 3 * mkB d; omega)) hRT (by omega)⟩
  rintro tm bx n1 l1 ⟨c1,hc1,ht,hbx,hN1⟩;obtain ⟨tm0,rfl⟩:=zac ht;simp only at hbx hN1; subst hbx
  clear ht;have hn1:=hN1.n2 hn;refine mO ?_;refine po_s (v:=.ag (vRow 7 1 [])) rfl rfl rfl ?_;refine zbI (cs:=vRow 7 1 []) rfl rfl rfl rfl ?_;refine mN ?_;refine mQ ?_;refine po_g rfl ((hBl 4).use ⟨trivial,trivial⟩ hc1 hn1 (p:=0) rfl) ?_;rintro x bx n2 l2 ⟨c2,rfl,hc2,m,rfl,m0,m1,hN2⟩;obtain ⟨m,rfl⟩:∃ k':Nat,m = k':=⟨m.toNat,by omega⟩;have hm:m <= 3:=by omega
  have hN12:=hN1.pass hN2;have hn2:=hN12.n2 hn;refine mN ?_;refine zan (fun st => ∃ c1,Cu b c1 /\ has st.tm [(0,.ref 0 0),(1,.d (pI ((d + 1:Nat):Int))),(2,.d (pB pl)),(6,.ref 1 0),(7,.ref 2 0),(8,.d (pI m))] /\ st.bx = [c1,zV,vRow 7 1 []] /\ NR nt live st.nt st.live []) ?_ ?_
  ·refine mQ ?_
   refine po_g rfl ((hBl 5).use ⟨trivial,trivial⟩ hc2 hn2 (p:=0) rfl) ?_;rintro x bx n3 l3 ⟨c3,rfl,hc3,r,rfl,r0,r1,hN3⟩;have hN13:=hN12.pass hN3;have hn3:=hN13.n2 hn;refine zaa ?_;refine zab ?_;refine mO ?_;by_cases k0:r = 0
   ·refine zah rfl rfl (beq_iff_eq.2 k0) ?_
    refine mT ?_;refine mP ?_
    cases pl with
    | true =>
     refine mwF ?_;refine zai ?_
     exact ⟨c3,hc3,⟨rfl,rfl,rfl,rfl,rfl,rfl,trivial⟩,rfl,hN13⟩
    | false =>
    refine mwT ?_;refine mQ ?_;refine zaq rfl ?_;refine po_g rfl ((zbY (T:=T) (hT:=hT) hb (fun r => decide (0 <= r) && decide (r <= 1000000)) rfl (by show 0 < 5; decide)).use ⟨by simp only [PV.lw,PC.lw]; exact zcC (p:=fun r => decide (0 <= r) && decide (r <= 1000000)) rfl,trivial⟩ hc3 (by omega) (p:=0) rfl) ?_;rintro x bx n4 l4 ⟨c4,rfl,hc4,v,rfl,hv,hN4⟩;simp only [Bool.and_eq_true,decide_eq_true_eq] at hv;have hN14:=hN13.up.pass hN4;have hn4:=hN14.n2 hn;(iterate 2 refine mS ?_);refine zaK (n:=(d:Int)) rfl rfl rfl (by omega) (by omega) ?_;refine mS ?_;refine po_g rfl (ih.use ⟨trivial,trivial,trivial⟩ hc4 hn4 (p:=0) rfl) ?_;rintro x bx n5 l5 ⟨c5,rfl,hc5,cs,w,rfl,hN5,he,hg,hRT,hkl⟩;have hcl:=zbp he;refine zaq (es:=[cs]) (by show (if cs.length = 5 then some [cs] else none) = some [cs]; rw [if_pos hcl]) ?_;refine po_s (v:=.ag [pI 9,pI v,pI 0,pS [],.sl n5 [cs]]) rfl rfl rfl ?_
    refine zar (p:=1) (cs:=[pI 9,pI v,pI 0,pS [],.sl n5 [cs]]) rfl rfl rfl rfl rfl rfl ?_;refine mN ?_;have hNl:=NR.lit (es:=[cs]) hn (by simpa using (hN14.trans hN5));exact zae ⟨.inr rfl,[.ag [pI 9,pI v,pI 0,pS [],.sl n5 [cs]]],rfl,zbD hc5 (hNl.plain (by simpa [ownedL,PC.owned,pI,pS] using hNl.own) (by simp [toksL,PC.toks,pI,pS])) (zdU (Kd.one he hg) 9 v 0 []) ((Kd.one he hg).gd (zap (by omega)) (zap (by omega)) (zap (by omega)) (fun h => by cases h) (by simp) (by simp) (by show 0 + 1 + mkB d <= 40 + 3 * mkB d; omega)) ⟨_,_,_,_,n5,[cs],rfl,.inr (by have:=hN5.n2 hn4; omega)⟩ (by show 1 <= 6; decide)⟩
   refine zal rfl rfl (beq_eq_false_iff_ne.2 k0) ?_;refine mF ?_;refine zan (fun st => has st.tm [(0,.ref 0 0),(1,.d (pI ((d + 1:Nat):Int))),(2,.d (pB pl)),(6,.ref 1 0),(7,.ref 2 0),(8,.d (pI m)),(40,.d (pB (decide (r = 1 \/ r = 2))))] /\ st.bx = [c3,zV,vRow 7 1 []] /\ st.nt = n3 /\ st.live = l3) ?_ ?_
   ·refine mO ?_
    by_cases k3:r = 1
    ·refine zah rfl rfl (beq_iff_eq.2 k3) ?_
     refine mT ?_;refine zai ?_;exact ⟨⟨rfl,rfl,rfl,rfl,rfl,rfl,by rw [decide_eq_true (.inl k3)]; rfl,trivial⟩,rfl,rfl,rfl⟩
    ·refine zal rfl rfl (beq_eq_false_iff_ne.2 k3) ?_
     refine mF ?_;refine zaf ?_;by_cases k4:r = 2
     ·refine zah rfl rfl (beq_iff_eq.2 k4) ?_
      refine mN ?_;exact ⟨⟨rfl,rfl,rfl,rfl,rfl,rfl,by rw [decide_eq_true (.inr k4)]; rfl,trivial⟩,rfl,rfl,rfl⟩
     ·refine zal rfl rfl (beq_eq_false_iff_ne.2 k4) ?_
      refine mN ?_;exact ⟨⟨rfl,rfl,rfl,rfl,rfl,rfl,by rw [decide_eq_false (by omega)]; rfl,trivial⟩,rfl,rfl,rfl⟩
   rintro tm bx n4 l4 ⟨ht,hbx,hn4,hl4⟩;obtain ⟨tm1,rfl⟩:=zac ht;simp only at hbx hn4 hl4; subst hbx; subst hn4; subst hl4
   clear ht tm0;refine zbB (p:=r = 1 \/ r = 2) rfl (fun k => ?_) (fun k => ?_)
   rotate_left
   ·refine zai ?_
    exact ⟨c3,hc3,⟨rfl,rfl,rfl,rfl,rfl,rfl,trivial⟩,rfl,hN13⟩
   refine mQ ?_;refine zaw (p:=2) (o':=0) (cs:=[pI 8]) (z:=vRow 7 1 []) rfl rfl rfl ⟨rfl,by show 0 + 1 <= 5; decide⟩ rfl ?_;refine zaa ?_;refine zan (fun st => ∃ (t:Nat) (rows:LP PC) (ks:List V) (c:List PC) (rest:LP PC),Cu b c /\ has st.tm [(6,.ref 1 0),(7,.ref 2 0)] /\ st.bx = c :: zV :: vRow 8 t rows :: rest /\ NR nt live st.nt st.live (vRow 8 t rows) /\ (t = 1 /\ rows = [] \/ 2 <= t) /\ ks.length <= 6 /\ Kd (3 * (10 + mkB d)) rows ks) ?_ ?_
   ·refine mP ?_
    refine zab ?_;refine zas (MkM b d pl m nt live) m ⟨0,1,[],[],c3,[],Nat.zero_le _,rfl,hc3,⟨rfl,rfl,rfl,rfl,rfl,rfl,rfl,trivial⟩,rfl,hN13.row0,.inl ⟨rfl,rfl⟩,rfl,by rw [Nat.zero_mul]; exact Kd.nil⟩ ?_;rintro k' tm bx n4 l4 ⟨i,t,rows,ks,c4,rest,hi,rfl,hc4,ht,hbx,hN4,ht2,hks,hKd⟩;obtain ⟨tm0,rfl⟩:=zac ht;simp only at hbx hN4; subst hbx
    clear ht;have hn4:=hN4.n2 hn;refine mM ?_;(iterate 2 refine mS ?_);refine po_b rfl rfl (fun q hq => ?_);refine zaa ?_;refine zaZ (p:=(i:Int) < m) hq rfl (fun him _ => ?_) (fun him _ => ?_)
    rotate_left
    ·refine zat ?_
     have hmul:i * (10 + mkB d) <= 3 * (10 + mkB d):=Nat.mul_le_mul_right _ (by omega);exact ⟨t,rows,ks,c4,rest,hc4,⟨rfl,rfl,trivial⟩,rfl,hN4,ht2,by omega,hKd.mono hmul⟩
    refine zai ?_;refine zak (zab ?_);refine mO ?_;refine zaq rfl ?_;refine mS ?_;have hi3:i < [[pS [110,97,109,101]],[pS [105,100]],[pS [108,105,115,116]],[pS [99,111,109,109,111,110,32,107,101,121]]].length:=by show i < 4; omega
    obtain ⟨s,hs,hsl⟩:=zhR (p:=fun s => decide (s.length <= 10)) rfl hi3;have hsl:=of_decide_eq_true hsl;refine zaH (es:=[[pS [110,97,109,101]],[pS [105,100]],[pS [108,105,115,116]],[pS [99,111,109,109,111,110,32,107,101,121]]]) (e:=[pS s]) rfl rfl rfl ⟨by omega,by rw [Int.toNat_natCast,getElem?_eq_getElem hi3,hs]⟩ rfl ?_;refine mS ?_;refine zad rfl (str_fn (T:=T) (hT:=hT) s) ?_;refine zbI (cs:=vC (.mk 5 0 0 s [])) rfl rfl rfl rfl ?_;refine mN ?_;refine zan (fun st => ∃ (c:List PC) (kv:V),Cu b c /\ (Gd 10 kv /\ kv.kids = []) /\ NR nt live st.nt st.live (vRow 8 t rows) /\ has st.tm [(0,.ref 0 0),(1,.d (pI ((d + 1:Nat):Int))),(2,.d (pB pl)),(6,.ref 1 0),(7,.ref 2 0),(8,.d (pI m)),(9,.d (pI i)),(10,.ref (rest.length + 3) 0)] /\ st.bx = c :: zV :: vRow 8 t rows :: (rest ++ [vC kv])) ?_ ?_
    ·refine zan (fun st => ∃ (c:List PC) (q:Bool),Cu b c /\ NR nt live st.nt st.live (vRow 8 t rows) /\ has st.tm [(0,.ref 0 0),(1,.d (pI ((d + 1:Nat):Int))),(2,.d (pB pl)),(6,.ref 1 0),(7,.ref 2 0),(8,.d (pI m)),(9,.d (pI i)),(10,.ref (rest.length + 3) 0),(59,.d (pB q))] /\ st.bx = c :: zV :: vRow 8 t rows :: (rest ++ [vC (.mk 5 0 0 s [])])) ?_ ?_
     ·refine zaf ?_
      refine mS ?_;refine po_g rfl ((zcn (T:=T) (hT:=hT) hb 8).use ⟨trivial,trivial⟩ hc4 (by omega) (p:=0) rfl) ?_;rintro x bx n5 l5 ⟨c5,rfl,hc5,q,rfl,hN5⟩;have hN45:=(hN4.up.trans hN5);rw [append_nil] at hN45;refine mS ?_
      cases q with
      | true =>
       (iterate 2 refine mS ?_);refine mN ?_
       exact ⟨c5,!pl,hc5,hN45,⟨rfl,rfl,rfl,rfl,rfl,rfl,rfl,rfl,rfl,trivial⟩,rfl⟩
      | false =>
       refine mZ ?_;refine mN ?_;exact ⟨c5,false,hc5,hN45,⟨rfl,rfl,rfl,rfl,rfl,rfl,rfl,rfl,rfl,trivial⟩,rfl⟩
     rintro tm bx n5 l5 ⟨c5,q,hc5,hN5,ht,hbx⟩;obtain ⟨tm1,rfl⟩:=zac ht;simp only at hbx hN5; subst hbx
     clear ht
     cases q with
     | false =>
      refine mwF ?_;refine zai ?_
      exact ⟨c5,.mk 5 0 0 s [],hc5,⟨zbs (zap (by omega)) (zap (by omega)) (zap (by omega)) hsl (by decide),rfl⟩,hN5,⟨rfl,rfl,rfl,rfl,rfl,rfl,rfl,rfl,trivial⟩,rfl⟩
     | true =>
      refine mwT ?_;refine zaf ?_;refine mS ?_;refine zad rfl (intD_fn (T:=T) (hT:=hT) (i:Int)) ?_;refine zar (p:=rest.length + 3) (cs:=vC (.mk 3 i 0 [] [])) (z:=vC (.mk 5 0 0 s [])) rfl rfl (zbg rest _) rfl rfl rfl ?_;refine mN ?_;refine ⟨c5,.mk 3 i 0 [] [],hc5,⟨zbs (zap (by omega)) (zap (by omega)) (zap (by omega)) (Nat.zero_le _) (by decide),rfl⟩,hN5,⟨rfl,rfl,rfl,rfl,rfl,rfl,rfl,rfl,trivial⟩,?_⟩;show c5 :: zV :: vRow 8 t rows :: ((rest ++ [vC (.mk 5 0 0 s [])]).set rest.length _) = _;rw [set_append_right _ _ lR,Nat.sub_self]; rfl
    rintro tm bx n5 l5 ⟨c5,kv,hc5,⟨hkv,hkk⟩,hN5,ht,hbx⟩;obtain ⟨tm1,rfl⟩:=zac ht;simp only at hbx hN5; subst hbx
    clear ht tm0;have hn5:=hN5.n2 hn;refine zaf ?_;refine mS ?_;refine za7 (cs:=vRow 8 t rows) (v:=.d (.sl t rows)) rfl rfl rfl (by show 4 + 1 <= 5; decide) rfl ?_;refine zaE (p:=rest.length + 3) (cs:=vC kv) rfl rfl (zbg rest _) rfl ?_;(iterate 2 refine mS ?_);refine zaK (n:=(d:Int)) rfl rfl rfl (by omega) (by omega) ?_;refine mS ?_;refine zfq rfl (ih.use ⟨trivial,trivial,trivial⟩ hc5 hn5 (p:=0) rfl) ?_ ?_
    ·rintro x bx n l ⟨c',rfl,_⟩ y hy
     simp only [mem_cons,not_mem_nil,or_false] at hy
     rcases hy with rfl | rfl
     ·exact ze8 (p:=1) (o:=4) rfl
     ·exact ze8 (p:=rest.length + 2) (o:=0) rfl
    rintro x bx n6 l6 ⟨c6,rfl,hc6,cs,w,rfl,hN6,he,hg,hRT,hkl⟩;have hcl:=zbp he;refine zdE (litP2 (a:=vC kv) (b:=cs) rfl rfl rfl hcl) ?_;refine zaQ (t:=t) (t':=0) (es:=rows) (ds:=[vC kv,cs]) rfl rfl (NR.rowt2 ht2 hN5 hN6) (by rw [hKd.len]; simp only [length_cons,length_nil]; omega) (fun e he => by simp only [mem_cons,not_mem_nil,or_false] at he; rcases he with rfl | rfl; rfl; exact hcl) hKd.wid ?_;refine mS ?_;refine zaw (p:=2) (o':=4) (cs:=[.sl n6 (rows ++ [vC kv,cs])]) (z:=vRow 8 t rows) rfl rfl rfl ⟨rfl,by show 4 + 1 <= 5; decide⟩ rfl ?_;refine zaa ?_;refine zaf ?_;refine mS ?_;refine zam (n:=((i + 1:Nat):Int)) rfl rfl rfl (by omega) (by omega) ?_;refine mN ?_
    have hds:NR n5 l5 n6 l6 [vC kv,cs].flatten:=by
     obtain ⟨o1,o2⟩:=leafC kv hkk;exact hN6.plain (by show ownedL (vC kv ++ (cs ++ [])) = true; rw [zaL,o1,append_nil,hN6.own]; rfl) (by show toksL (vC kv ++ (cs ++ [])) = _; rw [zau,o2,append_nil]; rfl)
    exact ⟨_,by show m - (i + 1) < m - i; omega,i + 1,n6,rows ++ [vC kv,cs],ks ++ [kv,w],c6,rest ++ [vC kv],by omega,rfl,hc6,⟨rfl,rfl,rfl,rfl,rfl,rfl,rfl,trivial⟩,rfl,NR.kids hn ht2 hN5 hds,.inr (by have:=hN6.n2 hn5; omega),by rw [length_append]; simp only [length_cons,length_nil]; omega,by rw [Nat.succ_mul]; exact hKd.app ((Kd.one (zb9 kv) hkv).app (Kd.one he hg))⟩
   rintro tm bx n4 l4 ⟨t,rows,ks,c4,rest,hc4,ht,hbx,hN4,ht2,hks,hKd⟩;obtain ⟨tm1,rfl⟩:=zac ht;simp only at hbx hN4; subst hbx
   clear ht;refine mO ?_;refine zaE (p:=2) (cs:=vRow 8 t rows) rfl rfl rfl rfl ?_;refine zar (p:=1) (cs:=vRow 8 t rows) rfl rfl rfl rfl rfl rfl ?_;refine mN ?_;exact zae ⟨.inr rfl,[.ag (vRow 8 t rows)],rfl,zbD hc4 hN4 (zdU hKd 8 0 0 []) (hKd.gd (zap (by omega)) (zap (by omega)) (zap (by omega)) (fun _ => by omega) (by omega) (by simp) (by show 0 + ks.length + 3 * (10 + mkB d) <= 40 + 3 * mkB d; omega)) ⟨_,_,_,_,t,rows,rfl,ht2⟩ (by show ks.length <= 6; omega)⟩
  rintro tm bx n3 l3 ⟨c3,hc3,ht,hbx,hN3⟩;obtain ⟨tm1,rfl⟩:=zac ht;simp only at hbx hN3; subst hbx
  clear ht;refine zan (fun st => ∃ (t:Nat) (rows:LP PC) (ks:List V) (c:List PC) (rest:LP PC),Cu b c /\ has st.tm [(6,.ref 1 0),(7,.ref 2 0)] /\ st.bx = c :: zV :: vRow 7 t rows :: rest /\ NR nt live st.nt st.live (vRow 7 t rows) /\ (t = 1 /\ rows = [] \/ 2 <= t) /\ ks.length <= 3 /\ Kd (3 * mkB d) rows ks) ?_ ?_
  ·refine mP ?_
   refine zab ?_;refine zas (MkL b d pl m nt live) m ⟨0,1,[],[],c3,[],Nat.zero_le _,rfl,hc3,⟨rfl,rfl,rfl,rfl,rfl,rfl,rfl,trivial⟩,rfl,hN3.row0,.inl ⟨rfl,rfl⟩,rfl,by rw [Nat.zero_mul]; exact Kd.nil⟩ ?_;rintro k' tm bx n4 l4 ⟨i,t,rows,ks,c4,rest,hi,rfl,hc4,ht,hbx,hN4,ht2,hks,hKd⟩;obtain ⟨tm2,rfl⟩:=zac ht;simp only at hbx hN4; subst hbx
   clear ht;have hn4:=hN4.n2 hn;refine mM ?_;(iterate 2 refine mS ?_);refine po_b rfl rfl (fun q hq => ?_);refine zaa ?_;refine zaZ (p:=(i:Int) < m) hq rfl (fun him _ => ?_) (fun him _ => ?_)
   rotate_left
   ·refine zat ?_
    have hmul:i * mkB d <= 3 * mkB d:=Nat.mul_le_mul_right _ (by omega);exact ⟨t,rows,ks,c4,rest,hc4,⟨rfl,rfl,trivial⟩,rfl,hN4,ht2,by omega,hKd.mono hmul⟩
   refine zai ?_;refine zak (zab (zaf ?_));refine mS ?_;refine za7 (cs:=vRow 7 t rows) (v:=.d (.sl t rows)) rfl rfl rfl (by show 4 + 1 <= 5; decide) rfl ?_;(iterate 2 refine mS ?_);refine zaK (n:=(d:Int)) rfl rfl rfl (by omega) (by omega) ?_;refine mS ?_;refine zfq rfl (ih.use ⟨trivial,trivial,trivial⟩ hc4 hn4 (p:=0) rfl) ?_ ?_
   ·rintro x bx n l ⟨c',rfl,_⟩ y hy
    simp only [mem_cons,not_mem_nil,or_false] at hy;subst hy;exact ze8 (p:=1) (o:=4) rfl
   rintro x bx n6 l6 ⟨c6,rfl,hc6,cs,w,rfl,hN6,he,hg,hRT,hkl⟩;have hcl:=zbp he;refine zdE (zgT (a:=cs) rfl hcl) ?_;refine zaQ (t:=t) (t':=0) (es:=rows) (ds:=[cs]) rfl rfl (NR.rowt2 ht2 hN4 hN6) (by rw [hKd.len]; simp only [length_cons,length_nil]; omega) (fun e he => by simp only [mem_singleton] at he; subst he; exact hcl) hKd.wid ?_;refine mS ?_;refine zaw (p:=2) (o':=4) (cs:=[.sl n6 (rows ++ [cs])]) (z:=vRow 7 t rows) rfl rfl rfl ⟨rfl,by show 4 + 1 <= 5; decide⟩ rfl ?_;refine zaa ?_;refine zaf ?_;refine mS ?_;refine zam (n:=((i + 1:Nat):Int)) rfl rfl rfl (by omega) (by omega) ?_;refine mN ?_;have hds:NR n4 l4 n6 l6 [cs].flatten:=by simpa using hN6
   exact ⟨_,by show m - (i + 1) < m - i; omega,i + 1,n6,rows ++ [cs],ks ++ [w],c6,rest,by omega,rfl,hc6,⟨rfl,rfl,rfl,rfl,rfl,rfl,rfl,trivial⟩,rfl,NR.kids hn ht2 hN4 hds,.inr (by have:=hN6.n2 hn4; omega),by rw [length_append,length_singleton]; omega,by rw [Nat.succ_mul]; exact hKd.app (Kd.one he hg)⟩
  rintro tm bx n4 l4 ⟨t,rows,ks,c4,rest,hc4,ht,hbx,hN4,ht2,hks,hKd⟩;obtain ⟨tm2,rfl⟩:=zac ht;simp only at hbx hN4; subst hbx
  clear ht;refine mO ?_;refine zaE (p:=2) (cs:=vRow 7 t rows) rfl rfl rfl rfl ?_;refine zar (p:=1) (cs:=vRow 7 t rows) rfl rfl rfl rfl rfl rfl ?_;refine mN ?_;exact zae ⟨.inr rfl,[.ag (vRow 7 t rows)],rfl,zbD hc4 hN4 (zdU hKd 7 0 0 []) (hKd.gd (zap (by omega)) (zap (by omega)) (zap (by omega)) (fun h => by cases h) (by omega) (by simp) (by show 0 + ks.length + 3 * mkB d <= 40 + 3 * mkB d; omega)) ⟨_,_,_,_,t,rows,rfl,ht2⟩ (by show ks.length <= 6; omega)⟩
end
end Go.Proofs.YtmmcehkdnnolkaaGreatDoor
