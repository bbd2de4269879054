/- Part 5 of a proof: PvG4M, PvG4, PvH1M, PvH1, PvBl, BuildC, PvBld, PvH2, PvH3, PvI4, DictM, LawM, PvTop, Code, SameV, DDict, PvG5, PvG6, PvG7, PvGot, PvG8, PvG9, ReadHead, ReadHead2, PvF4, PvF5 -/
import Derived.Test.YtmmcehkdnnolkaaGreatDoorDb4
namespace Go.Proofs.YtmmcehkdnnolkaaGreatDoor
open Go.RowKit
set_option maxHeartbeats 4000000
set_option maxRecDepth 100000
open List
section
def m_s_GetMsg:M:=so [⟨some 4,.zero [.int .i64 0,.int .i64 0,.int .i64 0,.string ⟨[].toArray⟩,.slice none 0 0],none,[]⟩,qo 5 (.mv (ci 0))] (.seq (so [qm 9 1,qo 10 (.bin .lss false 9 (ci 0)),qm 11 10,qg 12 1 11 false,qg 13 0 11 false,⟨some 14,.lens 13,some (11,false),[]⟩,⟨some 15,.bin .geq false 12 14,some (11,false),[]⟩,qo 16 (.pick 11 (cB true) 15)] (.cond 16 (so [⟨some 17,.build [.int .i64 0,.int .i64 0,.int .i64 0,.string ⟨[].toArray⟩,.slice none 0 0] [],none,[]⟩,qS 5 4 17,qo 5 (.mv (ci (-1)))] .ret) .skip)) (so [qm 18 0,⟨some 19,.build [.string ⟨[].toArray⟩,.int .i64 0] [(0,1,18),(1,1,ci 300)],none,[]⟩,qo 20 (.box 19),qm 6 20] (so [qm 22 6,qm 23 1,qc 24 88 [22,23,ci 0] 1,qm 21 24,qe 25 21 0,qe 26 21 1,⟨some 7,.zero [.int .i64 0,.int .i64 0,.int .i64 0,.string ⟨[].toArray⟩,.slice none 0 0],none,[]⟩,qS 5 7 25,qm 8 26] (.seq (so [qm 27 8,qo 28 (.bin .lss false 27 (ci 0)),qm 29 28,⟨some 30,.load true 5 7,some (29,false),[]⟩,qg 32 0 29 false,qg 33 1 29 false,qg 34 8 29 false,⟨some 35,.slcs 32 (some 33) (some 34),some (29,false),[]⟩,⟨some 31,.call 31 [30],some (29,false),[.f 0]⟩,⟨some 36,.bin .neq false 31 35,some (29,false),[]⟩,qo 37 (.pick 29 (cB true) 36)] (.cond 37 (so [⟨some 38,.build [.int .i64 0,.int .i64 0,.int .i64 0,.string ⟨[].toArray⟩,.slice none 0 0] [],none,[]⟩,qS 5 4 38,qo 5 (.mv (ci (-1)))] .ret) .skip)) (so [qL 39 5 7,qm 40 8,qS 5 4 39,qm 5 40] .ret)))))
theorem zhY:look Tryz.prog 58 = some (41,m_s_GetMsg,[.cell true 5 4,.tm 5]):=by kernel_rfl
def m_s_l06Get:M:=so [⟨some 6,.zero [.int .i64 0,.int .i64 0,.int .i64 0,.string ⟨[].toArray⟩,.slice none 0 0],none,[]⟩,qo 7 (.mv (ci 0))] (so [qm 13 0,qo 14 (.nilc 13),qF 15 1 14,ql 16 1 15,qo 17 (.bin .sub false 16 (ci 1)),qo 18 (.nilc 13),qF 19 1 18,qS 1 19 17] (.seq (so [qm 20 0,qo 21 (.nilc 20),qF 22 1 21,ql 23 1 22,qo 24 (.bin .lss false 23 (ci 0)),qm 25 24,qg 26 2 25 false,⟨some 27,.bin .gtr false 26 (ci 12),some (25,false),[]⟩,qo 28 (.pick 25 (cB true) 27),qm 29 28,qg 30 1 29 false,qg 31 0 29 false,⟨some 32,.nilc 31,some (29,false),[]⟩,⟨some 33,.fld 0 32,some (29,false),[]⟩,⟨some 34,.load false 1 33,some (29,false),[]⟩,⟨some 35,.lens 34,some (29,false),[]⟩,⟨some 36,.bin .geq false 30 35,some (29,false),[]⟩,qo 37 (.pick 29 (cB true) 36)] (.cond 37 (so [⟨some 38,.build [.int .i64 0,.int .i64 0,.int .i64 0,.string ⟨[].toArray⟩,.slice none 0 0] [],none,[]⟩,qS 5 6 38,qo 7 (.mv (ci (-1)))] .ret) .skip)) (so [qm 39 0,qo 40 (.nilc 39),qF 41 0 40,ql 42 1 41,qm 43 1,qo 44 (.ixs 42 43),qo 45 (.conv .i64 44),qm 8 45] (so [qm 46 1,qo 47 (.bin .add false 46 (ci 1)),qm 1 47] (.seq (.block 0 (so [qm 49 8,qo 50 (.bin .lss false 49 (ci 128)),qm 48 50] (.cond 48 (so [qm 51 8,qc 52 37 [51] 1,qm 53 1,qS 5 6 52,qm 7 53] .ret) (so [qm 55 8,qo 56 (.bin .lss false 55 (ci 144)),qm 54 56] (.cond 54 (so [qm 57 0,qm 58 1,qm 59 8,qo 60 (.bin .sub false 59 (ci 128)),qo 61 (.bin .mul false (ci 2) 60),qm 62 2,qc 63 113 [57,58,ci 8,61,cB true,62] 1,qe 64 63 0,qe 65 63 1,qS 5 6 64,qm 7 65] .ret) (so [qm 67 8,qo 68 (.bin .lss false 67 (ci 160)),qm 66 68] (.cond 66 (so [qm 69 0,qm 70 1,qm 71 8,qo 72 (.bin .sub false 71 (ci 144)),qm 73 2,qc 74 113 [69,70,ci 7,72,cB true,73] 1,qe 75 74 0,qe 76 74 1,qS 5 6 75,qm 7 76] .ret) (so [qm 78 8,qo 79 (.bin .lss false 78 (ci 192)),qm 77 79] (.cond 77 (so [qm 80 0,qm 81 1,qm 82 8,qo 83 (.bin .sub false 82 (ci 160)),qc 84 114 [80,81,ci 5,83,cB true] 1,qe 85 84 0,qe 86 84 1,qS 5 6 85,qm 7 86] .ret) (so [qm 88 8,qo 89 (.bin .geq false 88 (ci 224)),qm 87 89] (.cond 87 (so [qm 90 8,qo 91 (.bin .sub false 90 (ci 256)),qc 92 37 [91] 1,qm 93 1,qS 5 6 92,qm 7 93] .ret) (so [qm 95 8,qo 96 (.bin .eql false 95 (ci 192)),qm 94 96] (.cond 94 (so [⟨some 97,.build [.int .i64 0,.int .i64 0,.int .i64 0,.string ⟨[].toArray⟩,.slice none 0 0] [],none,[]⟩,qm 98 1,qS 5 6 97,qm 7 98] .ret) (so [qm 100 8,qo 101 (.bin .eql false 100 (ci 194)),qm 102 101,qg 103 8 102 false,⟨some 104,.bin .eql false 103 (ci 195),some (102,false),[]⟩,qo 105 (.pick 102 (cB true) 104),qm 99 105] (.cond 99 (so [qm 106 8,qo 107 (.bin .sub false 106 (ci 193)),⟨some 108,.build [.int .i64 0,.int .i64 0,.int .i64 0,.string ⟨[].toArray⟩,.slice none 0 0] [(0,1,107)],none,[]⟩,qm 109 1,qS 5 6 108,qm 7 109] .ret) (so [qm 111 8,qc 112 27 [111,ci 204,ci 211] 1,qm 110 112] (.cond 110 (so [qm 113 0,qm 114 1,qm 115 8,qc 116 115 [113,114,115] 1,qe 117 116 0,qe 118 116 1,qS 5 6 117,qm 7 118] .ret) (so [qm 120 8,qo 121 (.bin .eql false 120 (ci 199)),qm 119 121] (.cond 119 (so [qm 122 0,qm 123 1,qm 124 2,qc 125 116 [122,123,124] 1,qe 126 125 0,qe 127 125 1,qS 5 6 126,qm 7 127] .ret) .skip))))))))))))))))))) (so [qm 129 0,qo 130 (.nilc 129),qF 131 0 130,ql 132 1 131,qm 133 1,qc 134 117 [132,133,ci 1] 1,qm 128 134,qe 135 128 0,qe 136 128 1,qm 9 135,qm 10 136] (so [qm 138 0,qo 139 (.nilc 138),qF 140 0 139,ql 141 1 140,qm 142 1,qc 143 117 [141,142,ci 2] 1,qm 137 143,qe 144 137 0,qe 145 137 1,qm 11 144,qm 12 145] (.seq (so [qm 146 8] (.block 1 (so [qo 148 (.bin .eql false 146 (ci 217)),qm 147 148] (.cond 147 (so [qm 149 0,qm 150 1,qo 151 (.bin .add false 150 (ci 1)),qm 152 9,qm 153 10,qc 154 114 [149,151,ci 5,152,153] 1,qe 155 154 0,qe 156 154 1,qS 5 6 155,qm 7 156] .ret) (so [qo 158 (.bin .eql false 146 (ci 218)),qm 157 158] (.cond 157 (so [qm 159 0,qm 160 1,qo 161 (.bin .add false 160 (ci 2)),qm 162 11,qm 163 12,qc 164 114 [159,161,ci 5,162,163] 1,qe 165 164 0,qe 166 164 1,qS 5 6 165,qm 7 166] .ret) (so [qo 168 (.bin .eql false 146 (ci 196)),qm 167 168] (.cond 167 (so [qm 169 0,qm 170 1,qo 171 (.bin .add false 170 (ci 1)),qm 172 9,qm 173 10,qc 174 114 [169,171,ci 6,172,173] 1,qe 175 174 0,qe 176 174 1,qS 5 6 175,qm 7 176] .ret) (so [qo 178 (.bin .eql false 146 (ci 197)),qm 177 178] (.cond 177 (so [qm 179 0,qm 180 1,qo 181 (.bin .add false 180 (ci 2)),qm 182 11,qm 183 12,qc 184 114 [179,181,ci 6,182,183] 1,qe 185 184 0,qe 186 184 1,qS 5 6 185,qm 7 186] .ret) (so [qo 188 (.bin .eql false 146 (ci 220)),qm 187 188] (.cond 187 (so [qm 189 0,qm 190 1,qo 191 (.bin .add false 190 (ci 2)),qm 192 11,qm 193 12,qm 194 2,qc 195 113 [189,191,ci 7,192,193,194] 1,qe 196 195 0,qe 197 195 1,qS 5 6 196,qm 7 197] .ret) (so [qo 199 (.bin .eql false 146 (ci 222)),qm 198 199] (.cond 198 (so [qm 200 0,qm 201 1,qo 202 (.bin .add false 201 (ci 2)),qm 203 11,qo 204 (.bin .mul false (ci 2) 203),qm 205 12,qm 206 2,qc 207 113 [200,202,ci 8,204,205,206] 1,qe 208 207 0,qe 209 207 1,qS 5 6 208,qm 7 209] .ret) .skip)))))))))))))) (so [⟨some 210,.build [.int .i64 0,.int .i64 0,.int .i64 0,.string ⟨[].toArray⟩,.slice none 0 0] [],none,[]⟩,qS 5 6 210,qo 7 (.mv (ci (-1)))] .ret)))))))))
theorem zhZ:look Tryz.prog 88 = some (211,m_s_l06Get,[.cell true 5 6,.tm 7]):=by kernel_rfl
def m_s_l06Kids:M:=so [⟨some 12,.zero [.int .i64 0,.int .i64 0,.int .i64 0,.string ⟨[].toArray⟩,.slice none 0 0],none,[]⟩,qo 13 (.mv (ci 0))] (so [qm 18 2,⟨some 19,.build [.int .i64 0,.int .i64 0,.int .i64 0,.string ⟨[].toArray⟩,.slice none 0 0] [(0,1,18)],none,[]⟩,⟨some 14,.zero [.int .i64 0,.int .i64 0,.int .i64 0,.string ⟨[].toArray⟩,.slice none 0 0],none,[]⟩,qS 5 14 19] (.seq (so [qm 20 4,qo 21 (.not 20),qm 22 21,qg 23 3 22 false,⟨some 24,.bin .gtr false 23 (ci 600),some (22,false),[]⟩,qo 25 (.pick 22 (cB true) 24)] (.cond 25 (so [qL 26 5 14,qS 5 12 26,qo 13 (.mv (ci (-1)))] .ret) .skip)) (.seq (so [qo 15 (.mv (ci 0))] (.block 0 (.loop (.seq (so [qm 27 15,qm 28 3,qo 29 (.bin .lss false 27 28)] (.cond 29 .skip (.exit 0))) (.seq (.block 1 (so [qm 33 0,qm 34 1,qm 35 5,qo 36 (.bin .add false 35 (ci 1)),qc 37 88 [33,34,36] 1,qm 32 37,qe 38 32 0,qe 39 32 1,⟨some 16,.zero [.int .i64 0,.int .i64 0,.int .i64 0,.string ⟨[].toArray⟩,.slice none 0 0],none,[]⟩,qS 5 16 38,qm 17 39] (.seq (so [qm 40 17,qo 41 (.bin .lss false 40 (ci 0))] (.cond 41 (so [qL 42 5 14,qS 5 12 42,qo 13 (.mv (ci (-1)))] .ret) .skip)) (so [qF 43 4 14,ql 44 1 43,qL 45 5 16,qo 46 (.lit 5 [45]),⟨some 47,.app 5 44 46,none,[.f 1]⟩,qF 48 4 14,qS 1 48 47] (.ops [qm 49 17,qm 1 49]))))) (.ops [qm 30 15,qo 31 (.bin .add false 30 (ci 1)),qm 15 31])))))) (so [qL 50 5 14,qm 51 1,qS 5 12 50,qm 13 51] .ret))))
theorem zg9:look Tryz.prog 113 = some (52,m_s_l06Kids,[.cell true 5 12,.tm 13]):=by kernel_rfl
def m_s_l06Str:M:=so [⟨some 10,.zero [.int .i64 0,.int .i64 0,.int .i64 0,.string ⟨[].toArray⟩,.slice none 0 0],none,[]⟩,qo 11 (.mv (ci 0))] (.seq (so [qm 12 4,qo 13 (.not 12),qm 14 13,qg 15 3 14 false,qg 16 0 14 false,⟨some 17,.nilc 16,some (14,false),[]⟩,⟨some 18,.fld 0 17,some (14,false),[]⟩,⟨some 19,.load false 1 18,some (14,false),[]⟩,⟨some 20,.lens 19,some (14,false),[]⟩,qg 21 1 14 false,⟨some 22,.bin .sub false 20 21,some (14,false),[]⟩,⟨some 23,.bin .gtr false 15 22,some (14,false),[]⟩,qo 24 (.pick 14 (cB true) 23)] (.cond 24 (so [⟨some 25,.build [.int .i64 0,.int .i64 0,.int .i64 0,.string ⟨[].toArray⟩,.slice none 0 0] [],none,[]⟩,qS 5 10 25,qo 11 (.mv (ci (-1)))] .ret) .skip)) (so [qm 26 2,qm 27 0,qo 28 (.nilc 27),qF 29 0 28,ql 30 1 29,qm 31 1,qm 32 1,qm 33 3,qo 34 (.bin .add false 32 33),qo 35 (.slcs 30 (some 31) (some 34)),⟨some 36,.build [.int .i64 0,.int .i64 0,.int .i64 0,.string ⟨[].toArray⟩,.slice none 0 0] [(0,1,26),(3,1,35)],none,[]⟩,qm 37 1,qm 38 3,qo 39 (.bin .add false 37 38),qS 5 10 36,qm 11 39] .ret))
theorem zh0:look Tryz.prog 114 = some (40,m_s_l06Str,[.cell true 5 10,.tm 11]):=by kernel_rfl
def m_s_l06Wide:M:=so [⟨some 6,.zero [.int .i64 0,.int .i64 0,.int .i64 0,.string ⟨[].toArray⟩,.slice none 0 0],none,[]⟩,qo 7 (.mv (ci 0))] (so [qo 11 (.lit 1 [ci 1,ci 2,ci 4,ci 8]),qm 12 2,qo 13 (.bin .and false 12 (ci 3)),qo 14 (.ix 1 11 13),ql 15 1 14,qm 8 15] (so [qm 17 0,qo 18 (.nilc 17),qF 19 0 18,ql 20 1 19,qm 21 1,qm 22 8,qc 23 117 [20,21,22] 1,qm 16 23,qe 24 16 0,qe 25 16 1,qm 9 24,qm 10 25] (.seq (so [qm 26 10,qo 27 (.not 26)] (.cond 27 (so [⟨some 28,.build [.int .i64 0,.int .i64 0,.int .i64 0,.string ⟨[].toArray⟩,.slice none 0 0] [],none,[]⟩,qS 5 6 28,qo 7 (.mv (ci (-1)))] .ret) .skip)) (.seq (so [qm 29 2,qo 30 (.bin .geq false 29 (ci 208))] (.cond 30 (.ops [qm 31 9,qm 32 8,qc 33 130 [31,32] 1,qm 9 33]) .skip)) (so [qm 34 9,qc 35 37 [34] 1,qm 36 1,qm 37 8,qo 38 (.bin .add false 36 37),qS 5 6 35,qm 7 38] .ret)))))
theorem zha:look Tryz.prog 115 = some (39,m_s_l06Wide,[.cell true 5 6,.tm 7]):=by kernel_rfl
def m_s_l06Ext:M:=so [⟨some 6,.zero [.int .i64 0,.int .i64 0,.int .i64 0,.string ⟨[].toArray⟩,.slice none 0 0],none,[]⟩,qo 7 (.mv (ci 0))] (so [qm 21 0,qo 22 (.nilc 21),qF 23 0 22,ql 24 1 23,qm 25 1,qc 26 117 [24,25,ci 1] 1,qm 20 26,qe 27 20 0,qe 28 20 1,qm 8 27,qm 9 28] (so [qm 30 0,qo 31 (.nilc 30),qF 32 0 31,ql 33 1 32,qm 34 1,qo 35 (.bin .add false 34 (ci 1)),qc 36 117 [33,35,ci 1] 1,qm 29 36,qe 37 29 0,qe 38 29 1,qm 10 37,qm 11 38] (.seq (.block 0 (so [qm 40 9,qo 41 (.not 40),qm 42 41,qg 43 11 42 false,⟨some 44,.not 43,some (42,false),[]⟩,qo 45 (.pick 42 (cB true) 44),qm 39 45] (.cond 39 (so [⟨some 46,.build [.int .i64 0,.int .i64 0,.int .i64 0,.string ⟨[].toArray⟩,.slice none 0 0] [],none,[]⟩,qS 5 6 46,qo 7 (.mv (ci (-1)))] .ret) (so [qm 48 8,qo 49 (.bin .eql false 48 (ci 9)),qm 50 49,qg 51 10 50 true,⟨some 52,.bin .eql false 51 (ci 4),some (50,true),[]⟩,qo 53 (.pick 50 52 (cB false)),qm 47 53] (.cond 47 (so [qm 55 0,qo 56 (.nilc 55),qF 57 0 56,ql 58 1 57,qm 59 1,qo 60 (.bin .add false 59 (ci 2)),qc 61 117 [58,60,ci 1] 1,qm 54 61,qe 62 54 0,qe 63 54 1,qm 12 62,qm 13 63] (so [qm 65 0,qo 66 (.nilc 65),qF 67 0 66,ql 68 1 67,qm 69 1,qo 70 (.bin .add false 69 (ci 3)),qc 71 117 [68,70,ci 8] 1,qm 64 71,qe 72 64 0,qe 73 64 1,qm 14 72,qm 15 73] (.seq (so [qm 74 13,qo 75 (.not 74),qm 76 75,qg 77 15 76 false,⟨some 78,.not 77,some (76,false),[]⟩,qo 79 (.pick 76 (cB true) 78)] (.cond 79 (so [⟨some 80,.build [.int .i64 0,.int .i64 0,.int .i64 0,.string ⟨[].toArray⟩,.slice none 0 0] [],none,[]⟩,qS 5 6 80,qo 7 (.mv (ci (-1)))] .ret) .skip)) (so [qm 81 14,qm 82 12,qc 83 130 [82,ci 1] 1,⟨some 84,.build [.int .i64 0,.int .i64 0,.int .i64 0,.string ⟨[].toArray⟩,.slice none 0 0] [(0,1,ci 4),(1,1,81),(2,1,83)],none,[]⟩,qm 85 1,qo 86 (.bin .add false 85 (ci 11)),qS 5 6 84,qm 7 86] .ret)))) (so [qm 88 8,qo 89 (.bin .eql false 88 (ci 4)),qm 90 89,qg 91 10 90 true,⟨some 92,.bin .eql false 91 (ci 6),some (90,true),[]⟩,qo 93 (.pick 90 92 (cB false)),qm 87 93] (.cond 87 (so [qm 95 0,qo 96 (.nilc 95),qF 97 0 96,ql 98 1 97,qm 99 1,qo 100 (.bin .add false 99 (ci 2)),qc 101 117 [98,100,ci 4] 1,qm 94 101,qe 102 94 0,qe 103 94 1,qm 16 102,qm 17 103] (.seq (so [qm 104 17,qo 105 (.not 104)] (.cond 105 (so [⟨some 106,.build [.int .i64 0,.int .i64 0,.int .i64 0,.string ⟨[].toArray⟩,.slice none 0 0] [],none,[]⟩,qS 5 6 106,qo 7 (.mv (ci (-1)))] .ret) .skip)) (so [qm 108 0,qm 109 1,qo 110 (.bin .add false 109 (ci 6)),qm 111 2,qc 112 113 [108,110,ci 9,ci 1,cB true,111] 1,qm 107 112,qe 113 107 0,qe 114 107 1,⟨some 18,.zero [.int .i64 0,.int .i64 0,.int .i64 0,.string ⟨[].toArray⟩,.slice none 0 0],none,[]⟩,qS 5 18 113,qm 19 114] (so [qm 115 16,qF 116 1 18,qS 1 116 115] (so [qL 117 5 18,qm 118 19,qS 5 6 117,qm 7 118] .ret))))) .skip))))))) (so [⟨some 119,.build [.int .i64 0,.int .i64 0,.int .i64 0,.string ⟨[].toArray⟩,.slice none 0 0] [],none,[]⟩,qS 5 6 119,qo 7 (.mv (ci (-1)))] .ret))))
theorem zh1:look Tryz.prog 116 = some (120,m_s_l06Ext,[.cell true 5 6,.tm 7]):=by kernel_rfl
def m_s_GetWide:M:=so [qo 6 (.mv (ci 0)),qo 7 (.mv (cB false))] (.seq (so [qm 10 2,qc 11 27 [10,ci 1,ci 8] 1,qo 12 (.not 11),qm 13 12,qg 14 1 13 false,⟨some 15,.bin .lss false 14 (ci 0),some (13,false),[]⟩,qo 16 (.pick 13 (cB true) 15),qm 17 16,qg 18 1 17 false,qg 19 0 17 false,⟨some 20,.lens 19,some (17,false),[]⟩,qg 21 2 17 false,⟨some 22,.bin .sub false 20 21,some (17,false),[]⟩,⟨some 23,.bin .gtr false 18 22,some (17,false),[]⟩,qo 24 (.pick 17 (cB true) 23)] (.cond 24 (so [qo 6 (.mv (ci 0)),qo 7 (.mv (cB false))] .ret) .skip)) (so [qo 8 (.mv (.c (.int .u64 0)))] (.seq (so [qo 9 (.mv (ci 0))] (.block 0 (.loop (.seq (so [qm 25 9,qm 26 2,qo 27 (.bin .lss false 25 26)] (.cond 27 .skip (.exit 0))) (.seq (.block 1 (.ops [qm 30 8,qo 31 (.bin .mul false (.c (.int .u64 256)) 30),qm 32 0,qm 33 1,qm 34 9,qo 35 (.bin .add false 33 34),qo 36 (.ixs 32 35),qo 37 (.conv .u64 36),qo 38 (.bin .add false 31 37),qm 8 38])) (.ops [qm 28 9,qo 29 (.bin .add false 28 (ci 1)),qm 9 29])))))) (so [qm 39 8,qo 40 (.conv .i64 39),qm 6 40,qo 7 (.mv (cB true))] .ret))))
theorem zhb:look Tryz.prog 117 = some (41,m_s_GetWide,[.tm 6,.tm 7]):=by kernel_rfl
end
section
variable {T:World -> Prop} {hT:Low ngl T}
theorem zdq {k:Nat} (h:k <= 7):1 <= 256 ^ k /\ 256 ^ k <= 72057594037927936:=⟨Nat.one_le_iff_ne_zero.2 (by simp),Nat.pow_le_pow_right (n:=256) (by decide) h⟩
def SgI (n:Int) (k:Nat) (m:Nat) (s:St):Prop:=∃ i:Nat,i <= k /\ m = k - i /\ has s.tm [(0,.d (pI n)),(1,.d (pI k)),(5,.d (pI (256 ^ i:Nat))),(6,.d (pI i))]
theorem sgn_fn (n:Int) (k:Nat) (hk:1 <= k /\ k <= 8):FnV (env T hT) 130 [.d (pI n),.d (pI k)] (.d (pI (sgw n k))):=by
 refine zaW (zaj zhD) (by show 2 <= 30; decide) fun B hB => ?_
 unfold m_s_SignOf;refine mP ?_;refine mM ?_;refine mN ?_;refine zad rfl (zet k 1 7) ?_;by_cases h7:k <= 7
 ·rw [decide_eq_true (show (1:Int) <= k /\ (k:Int) <= 7 by omega)]
  refine mK ?_;refine mP ?_;refine zan (fun s => ∃ m,SgI n k m s /\ m = 0) ?_ ?_
  ·refine mP ?_
   refine zab ?_;refine zas (SgI n k) k ⟨0,Nat.zero_le _,rfl,rfl,rfl,rfl,rfl,trivial⟩ ?_;rintro m tm bx nt live ⟨i,hi,rfl,ht⟩;obtain ⟨tm0,rfl⟩:=zac ht;refine mM ?_;(iterate 2 refine mS ?_);refine po_b rfl rfl (fun b hb => ?_);refine zaa ?_;refine zaZ (p:=(i:Int) < k) hb rfl (fun h _ => ?_) (fun h _ => ?_)
   ·have hlt:i < k:=by omega
    have hp:=zdq (k:=i + 1) (by omega);refine zai ?_;refine zak (zab (zaf ?_));refine mS ?_;refine zcc (n:=((256 ^ (i + 1):Nat):Int)) rfl rfl rfl (by rw [Nat.pow_succ]; simp) (by omega) ?_;refine mN ?_;refine zaf ?_;refine mS ?_;refine zam (n:=((i + 1:Nat):Int)) rfl rfl rfl (by omega) (by omega) ?_;refine mN ?_;exact ⟨k - (i + 1),by omega,i + 1,hlt,rfl,rfl,rfl,rfl,rfl,trivial⟩
   ·refine zat ?_
    exact ⟨0,⟨i,hi,by omega,rfl,rfl,rfl,rfl,trivial⟩,rfl⟩
  rintro tm bx nt live ⟨m,⟨i,hi,rfl,ht⟩,hm⟩;obtain ⟨tm0,rfl⟩:=zac ht
  obtain rfl:i = k:=by omega
  have hp:=zdq (k:=i) h7
  have hand:bits .and .i64 n ((256 ^ i:Nat) - 1:Int) = n % (256 ^ i:Nat):=by
   have e:(256:Nat) ^ i = 2 ^ (8 * i):=by rw [Nat.pow_mul]
   have:=zbO n (8 * i) (by omega) (((256 ^ i:Nat):Int) - 1) (by rw [e]; simp)
   rw [this,e]; simp
  have hm0:=Int.emod_nonneg n (show ((256 ^ i:Nat):Int) ≠ 0 by omega);have hm1:=Int.emod_lt_of_pos n (show (0:Int) < ((256 ^ i:Nat):Int) by omega);refine mO ?_;(iterate 2 refine mS ?_);refine zaK (n:=((256 ^ i:Nat):Int) - 1) rfl rfl rfl rfl (by omega) ?_;refine po_q (v:=.d (pI (n % (256 ^ i:Nat)))) rfl (by show some (PV.d (.v (.int .i64 (bits .and .i64 n (((256 ^ i:Nat):Int) - 1))))) = _; rw [hand]; rfl) ?_;refine mN ?_;refine mM ?_;(iterate 2 refine mS ?_);refine po_q (v:=.d (pI (256 ^ i / 2:Nat))) rfl (by show some (PV.d (.v (.int .i64 (IntKind.wrap .i64 (((256 ^ i:Nat):Int).tdiv 2))))) = _; rw [Int.tdiv_eq_ediv_of_nonneg (by omega),wrap_lt (by omega) (by omega)]; rfl) ?_;refine po_b rfl rfl (fun b hb => ?_);refine mN ?_;unfold sgw;rw [if_pos (by omega)];refine zaZ (p:=n % ((256 ^ i:Nat):Int) ≥ ((256 ^ i / 2:Nat):Int)) hb rfl (fun h _ => ?_) (fun h _ => ?_)
  ·rw [if_pos h]
   refine mO ?_;(iterate 2 refine mS ?_);refine zaK (n:=n % ((256 ^ i:Nat):Int) - ((256 ^ i:Nat):Int)) rfl rfl rfl rfl (by omega) ?_;refine mN ?_;exact mR
  ·rw [if_neg h]
   refine zai ?_;refine mP ?_;exact mR
 ·rw [decide_eq_false (show ¬ ((1:Int) <= k /\ (k:Int) <= 7) by omega)]
  refine mT ?_;refine mP ?_;unfold sgw;rw [if_neg (by omega)];exact mR
theorem int_fn (n:Int):FnV (env T hT) 37 [.d (pI n)] (.ag (vC (.mk 3 n 0 [] []))):=by
 refine zaW (zaj zc0) (by show 1 <= 5; decide) fun B hB => ?_
 unfold m_s_l02Int;refine mP ?_;refine mP ?_;refine zaw rfl rfl rfl ⟨rfl,Nat.le_of_ble_eq_true rfl⟩ rfl ?_;refine mN ?_;exact mR
def gwV (s:L8) (i k:Nat):PV:=if i + k <= s.length then .tup [.d (pI (IntKind.i64.wrap (valBE ((s.drop i).take k)))),.d (pB true)] else .tup [.d (pI 0),.d (pB false)]
theorem zh2 (s:L8) (k:Nat) (hk:k <= 8):valBE (s.take k) < 18446744073709551616:=by
 have h1:=zdh (s.take k);have h2:(s.take k).length <= 8:=by rw [length_take]; omega
 exact Nat.lt_of_lt_of_le h1 (Nat.pow_le_pow_right (n:=256) (by decide) h2)
def GwI (s:L8) (i k:Nat) (m:Nat) (st:St):Prop:=∃ j:Nat,j <= k /\ m = k - j /\ has st.tm [(0,.d (pS s)),(1,.d (pI i)),(2,.d (pI k)),(8,.d (.v (.int .u64 (valBE ((s.drop i).take j):Nat)))),(9,.d (pI j))]
theorem zh3 (s:L8) (i k:Nat) (hk:1 <= k /\ k <= 8) (hi:i <= 4611686018427387904) (hl:s.length <= 4611686018427387904):FnV (env T hT) 117 [.d (pS s),.d (pI i),.d (pI k)] (gwV s i k):=by
 refine zaW (zaj zhb) (by show 3 <= 41; decide) fun B hB => ?_
 unfold m_s_GetWide;refine mP ?_;refine mM ?_;refine mN ?_;refine zad rfl (zet k 1 8) ?_;rw [decide_eq_true (show (1:Int) <= k /\ (k:Int) <= 8 by omega)];refine mN ?_;refine zal rfl rfl (decide_eq_false (by omega)) ?_;refine mN ?_;refine zaK (n:=(s.length:Int) - k) rfl rfl rfl rfl (by omega) ?_;unfold gwV;by_cases hb:i + k <= s.length
 ·rw [if_pos hb]
  refine zal rfl rfl (decide_eq_false (by omega)) ?_;refine mK ?_;refine mP ?_;refine zan (fun st => ∃ m,GwI s i k m st /\ m = 0) ?_ ?_
  ·refine mP ?_
   refine zab ?_;refine zas (GwI s i k) k ⟨0,Nat.zero_le _,rfl,rfl,rfl,rfl,rfl,rfl,trivial⟩ ?_;rintro m tm bx nt live ⟨j,hj,rfl,ht⟩;obtain ⟨tm0,rfl⟩:=zac ht;refine mM ?_;(iterate 2 refine mS ?_);refine po_b rfl rfl (fun b hb => ?_);refine zaa ?_;refine zaZ (p:=(j:Int) < k) hb rfl (fun h _ => ?_) (fun h _ => ?_)
   ·have hlt:j < k:=by omega
    have hjs:i + j < s.length:=by omega
    have hstep:valBE ((s.drop i).take (j + 1)) = valBE ((s.drop i).take j) * 256 + s[i + j].toNat:=by
     rw [ze5 _ _ (by rw [length_drop]; omega),getElem_drop]
    have hvb:=zh2 (s.drop i) (j + 1) (by omega);have hby:=(s[i + j]).toNat_lt;rw [hstep] at hvb;refine zai ?_;refine zak (zab (zaf ?_));refine mS ?_;refine po_q (v:=.d (.v (.int .u64 ((256 * valBE ((s.drop i).take j):Nat):Int)))) rfl (by show some (PV.d (.v (.int .u64 (IntKind.wrap .u64 (256 * (valBE ((s.drop i).take j):Int)))))) = _; rw [show IntKind.wrap .u64 (256 * (valBE ((s.drop i).take j):Int)) = ((256 * valBE ((s.drop i).take j):Nat):Int) by rw [IntKind.wrap_u64]; omega]) ?_;(iterate 3 refine mS ?_);refine zam (n:=((i + j:Nat):Int)) rfl rfl rfl (by omega) (by omega) ?_;refine po_ixs (k:=i + j) rfl rfl rfl rfl (getElem?_eq_getElem hjs) ?_;refine po_q (v:=.d (.v (.int .u64 ((s[i + j]).toNat:Int)))) rfl (by show some (PV.d (.v (.int .u64 (IntKind.wrap .u64 ((s[i + j]).toNat:Int))))) = _; rw [show IntKind.wrap .u64 ((s[i + j]).toNat:Int) = ((s[i + j]).toNat:Int) by rw [IntKind.wrap_u64]; omega]) ?_
    refine po_q (v:=.d (.v (.int .u64 (valBE ((s.drop i).take (j + 1)):Nat)))) rfl (by show some (PV.d (.v (.int .u64 (IntKind.wrap .u64 (((256 * valBE ((s.drop i).take j):Nat):Int) + ((s[i + j]).toNat:Int)))))) = _; rw [hstep,show IntKind.wrap .u64 (((256 * valBE ((s.drop i).take j):Nat):Int) + ((s[i + j]).toNat:Int)) = ((valBE ((s.drop i).take j) * 256 + s[i + j].toNat:Nat):Int) by rw [IntKind.wrap_u64]; omega]) ?_;refine mN ?_;refine zaf ?_;refine mS ?_;refine zam (n:=((j + 1:Nat):Int)) rfl rfl rfl (by omega) (by omega) ?_;refine mN ?_;exact ⟨k - (j + 1),by omega,j + 1,hlt,rfl,rfl,rfl,rfl,rfl,rfl,trivial⟩
   ·refine zat ?_
    exact ⟨0,⟨j,hj,by omega,rfl,rfl,rfl,rfl,rfl,trivial⟩,rfl⟩
  rintro tm bx nt live ⟨m,⟨j,hj,rfl,ht⟩,hm⟩;obtain ⟨tm0,rfl⟩:=zac ht
  obtain rfl:j = k:=by omega
  refine mQ ?_;refine po_q (v:=.d (pI (IntKind.i64.wrap (valBE ((s.drop i).take j))))) rfl rfl ?_;refine mN ?_;exact mR
 ·rw [if_neg hb]
  refine zah rfl rfl (decide_eq_true (by omega)) ?_;refine mT ?_;refine mP ?_;exact mR
end
section
def m_i_putMsg:M:=so [qo 3 (.box 1)] (.seq (so [qF 6 0 3,ql 7 1 6] (.block 0 (so [qo 9 (.bin .eql false 7 (ci 0)),qm 8 9] (.cond 8 (.ops [qm 10 0,qc 11 78 [10,.c (.int .u8 192)] 1]) (so [qo 13 (.bin .eql false 7 (ci 1)),qm 12 13] (.cond 12 (.ops [qm 14 0,qc 15 78 [14,.c (.int .u8 194)] 1]) (so [qo 17 (.bin .eql false 7 (ci 2)),qm 16 17] (.cond 16 (.ops [qm 18 0,qc 19 78 [18,.c (.int .u8 195)] 1]) (so [qo 21 (.bin .eql false 7 (ci 3)),qm 20 21] (.cond 20 (.ops [qm 22 0,qF 23 1 3,ql 24 1 23,qc 25 79 [24] 1,qc 26 47 [22,25] 1]) (so [qo 28 (.bin .eql false 7 (ci 5)),qm 27 28] (.cond 27 (.ops [qm 29 0,qF 30 3 3,ql 31 1 30,qo 32 (.lens 31),qF 34 3 3,ql 35 1 34,⟨some 33,.call 80 [32,ci 160,ci 32,ci 217,ci 218],none,[.f 0,34]⟩,qo 36 (.bin .add false 33 35),qc 37 47 [29,36] 0]) (so [qo 39 (.bin .eql false 7 (ci 6)),qm 38 39] (.cond 38 (.ops [qm 40 0,qF 41 3 3,ql 42 1 41,qo 43 (.lens 42),qF 45 3 3,ql 46 1 45,⟨some 44,.call 80 [43,ci 0,ci 0,ci 196,ci 197],none,[.f 0,45]⟩,qo 47 (.bin .add false 44 46),qc 48 47 [40,47] 0]) (so [qo 50 (.bin .eql false 7 (ci 7)),qm 49 50] (.cond 49 (.ops [qm 51 0,qF 52 4 3,ql 53 1 52,qo 54 (.len 53),qc 55 80 [54,ci 144,ci 16,ci 0,ci 220] 1,qc 56 47 [51,55] 1]) (so [qo 58 (.bin .eql false 7 (ci 8)),qm 57 58] (.cond 57 (.ops [qm 59 0,qF 60 4 3,ql 61 1 60,qo 62 (.len 61),qo 63 (.bin .quo false 62 (ci 2)),qc 64 80 [63,ci 128,ci 16,ci 0,ci 222] 1,qc 65 47 [59,64] 1]) (so [qo 67 (.bin .eql false 7 (ci 4)),qm 66 67] (.cond 66 (.tree (.node [qm 68 0,qF 71 2 3,ql 72 1 71,qF 75 1 3,ql 76 1 75] (.alt (qo 69 (.lit 1 [.c (.int .u8 199),.c (.int .u8 9),.c (.int .u8 4)])) (.node [qo 70 (.b2s 69)] (.alt ⟨some 73,.call 77 [72,ci 1],none,[.f 0,75]⟩ (.node [qo 74 (.bin .add false 70 73)] (.alt (qc 77 77 [76,ci 8] 0) (.node [qo 78 (.bin .add false 74 77)] (.alt (qc 79 47 [68,78] 0) (.node [] .leaf) .leaf)) .leaf)) .leaf)) (.alt ⟨some 73,.call 77 [72,ci 1],none,[.f 0,75]⟩ (.node [] (.alt (qo 69 (.lit 1 [.c (.int .u8 199),.c (.int .u8 9),.c (.int .u8 4)])) (.node [qo 70 (.b2s 69),qo 74 (.bin .add false 70 73)] (.alt (qc 77 77 [76,ci 8] 0) (.node [qo 78 (.bin .add false 74 77)] (.alt (qc 79 47 [68,78] 0) (.node [] .leaf) .leaf)) .leaf)) (.alt (qc 77 77 [76,ci 8] 0) (.node [] (.alt (qo 69 (.lit 1 [.c (.int .u8 199),.c (.int .u8 9),.c (.int .u8 4)])) (.node [qo 70 (.b2s 69),qo 74 (.bin .add false 70 73),qo 78 (.bin .add false 74 77)] (.alt (qc 79 47 [68,78] 0) (.node [] .leaf) .leaf)) .leaf)) .leaf))) .leaf)))) (so [qo 81 (.bin .eql false 7 (ci 9)),qm 80 81] (.cond 80 (.tree (.node [qm 82 0,qF 85 1 3,ql 86 1 85] (.alt (qo 83 (.lit 1 [.c (.int .u8 199),.c (.int .u8 4),.c (.int .u8 6)])) (.node [qo 84 (.b2s 83)] (.alt (qc 87 77 [86,ci 4] 0) (.node [qo 88 (.bin .add false 84 87)] (.alt (qc 89 47 [82,88] 0) (.node [] .leaf) .leaf)) .leaf)) (.alt (qc 87 77 [86,ci 4] 0) (.node [] (.alt (qo 83 (.lit 1 [.c (.int .u8 199),.c (.int .u8 4),.c (.int .u8 6)])) (.node [qo 84 (.b2s 83),qo 88 (.bin .add false 84 87)] (.alt (qc 89 47 [82,88] 0) (.node [] .leaf) .leaf)) .leaf)) .leaf)))) .skip)))))))))))))))))))))) (so [qF 90 4 3,ql 91 1 90,qo 92 (.len 91),qo 93 (.mv (ci 0))] (.block 1 (.loop (so [qo 94 (.bin .lss false 93 92)] (.seq (.cond 94 .skip (.exit 1)) (.seq (.block 2 (so [qo 95 (.ix 5 91 93),qL 96 5 95,⟨some 5,.zero [.int .i64 0,.int .i64 0,.int .i64 0,.string ⟨[].toArray⟩,.slice none 0 0],none,[]⟩,qS 5 5 96] (.ops [qm 97 0,qL 98 5 5,qc 99 49 [97,98] 1]))) (.ops [qo 100 (.bin .add false 93 (ci 1)),qm 93 100]))))))))
theorem zh4:look Tryz.prog 49 = some (101,m_i_putMsg,[]):=by kernel_rfl
def m_i_PutMsg:M:=so [qo 1 (.box 0),⟨some 2,.mv (.c (.string ⟨[].toArray⟩)),none,[]⟩] (.seq (so [qL 4 5 1,qc 5 43 [4] 1,qo 6 (.not 5)] (.cond 6 (so [⟨some 2,.mv (.c (.string ⟨[].toArray⟩)),none,[]⟩] .ret) .skip)) (so [qo 3 (.zbld 80 5)] (so [qL 7 5 1,qc 8 49 [3,7] 1] (so [qc 9 50 [3] 1,qm 2 9] .ret))))
theorem zh5:look Tryz.prog 56 = some (10,m_i_PutMsg,[.tm 2]):=by kernel_rfl
def m_i_putNumber:M:=so [⟨some 2,.mv (.c (.string ⟨[].toArray⟩)),none,[]⟩] (.seq (so [qm 5 0,qc 6 54 [5,ci (-32),ci 127] 1] (.cond 6 (so [qm 7 0,qc 8 77 [7,ci 1] 1,qm 2 8] .ret) .skip)) (.seq (so [qo 9 (.lit 1 [ci 1,ci 2,ci 4,ci 8]),qo 10 (.len 9),qo 11 (.mv (ci 0))] (.block 0 (.loop (so [qo 12 (.bin .lss false 11 10)] (.seq (.cond 12 .skip (.exit 0)) (.seq (.block 1 (so [qm 13 11,qo 14 (.ix 1 9 11),ql 15 1 14,qm 3 13,qm 4 15] (.block 2 (so [qm 17 0,qo 18 (.bin .geq false 17 (ci 0)),qm 19 18,qg 20 4 19 true,⟨some 21,.bin .eql false 20 (ci 8),some (19,true),[]⟩,qg 22 21 19 true,qg 23 0 22 false,qg 24 4 22 false,⟨some 25,.bin .mul false (ci 8) 24,some (22,false),[]⟩,⟨some 26,.bin .shl false (ci 1) 25,some (22,false),[]⟩,⟨some 27,.bin .lss false 23 26,some (22,false),[]⟩,⟨some 28,.pick 22 (cB true) 27,some (19,true),[]⟩,qo 29 (.pick 19 28 (cB false)),qm 16 29] (.cond 16 (.seq (.tree (.node [qm 30 3,qo 31 (.bin .add false (ci 204) 30),qo 32 (.conv .u8 31),qm 35 0,qm 36 4] (.alt (qo 33 (.lit 1 [32])) (.node [qo 34 (.b2s 33)] (.alt (qc 37 77 [35,36] 0) (.node [qo 38 (.bin .add false 34 37),qm 2 38] .leaf) .leaf)) (.alt (qc 37 77 [35,36] 0) (.node [] (.alt (qo 33 (.lit 1 [32])) (.node [qo 34 (.b2s 33),qo 38 (.bin .add false 34 37),qm 2 38] .leaf) .leaf)) .leaf)))) .ret) (so [qm 40 0,qo 41 (.bin .lss false 40 (ci 0)),qm 42 41,qg 43 0 42 true,qg 44 4 42 true,⟨some 45,.call 85 [43,44],some (42,true),[.f 1]⟩,qg 46 0 42 true,⟨some 47,.bin .eql false 45 46,some (42,true),[]⟩,qo 48 (.pick 42 47 (cB false)),qm 39 48] (.cond 39 (.seq (.tree (.node [qm 49 3,qo 50 (.bin .add false (ci 208) 49),qo 51 (.conv .u8 50),qm 54 0,qm 55 4] (.alt (qo 52 (.lit 1 [51])) (.node [qo 53 (.b2s 52)] (.alt (qc 56 77 [54,55] 0) (.node [qo 57 (.bin .add false 53 56),qm 2 57] .leaf) .leaf)) (.alt (qc 56 77 [54,55] 0) (.node [] (.alt (qo 52 (.lit 1 [51])) (.node [qo 53 (.b2s 52),qo 57 (.bin .add false 53 56),qm 2 57] .leaf) .leaf)) .leaf)))) .ret) .skip))))))) (.ops [qo 58 (.bin .add false 11 (ci 1)),qm 11 58]))))))) (so [⟨some 2,.mv (.c (.string ⟨[].toArray⟩)),none,[]⟩] .ret)))
theorem zeV:look Tryz.prog 79 = some (59,m_i_putNumber,[.tm 2]):=by kernel_rfl
def m_i_putLength:M:=so [⟨some 10,.mv (.c (.string ⟨[].toArray⟩)),none,[]⟩] (.seq (.block 0 (so [qm 12 0,qm 13 2,qo 14 (.bin .lss false 12 13),qm 11 14] (.cond 11 (so [qm 15 1,qm 16 0,qo 17 (.bin .add false 15 16),qo 18 (.conv .u8 17),qo 19 (.lit 1 [18]),qo 20 (.b2s 19),qm 10 20] .ret) (so [qm 22 0,qo 23 (.bin .lss false 22 (ci 256)),qm 24 23,qg 25 3 24 true,⟨some 26,.bin .gtr false 25 (ci 0),some (24,true),[]⟩,qo 27 (.pick 24 26 (cB false)),qm 21 27] (.cond 21 (.seq (.tree (.node [qm 28 3,qo 29 (.conv .u8 28),qm 32 0] (.alt (qo 30 (.lit 1 [29])) (.node [qo 31 (.b2s 30)] (.alt (qc 33 77 [32,ci 1] 0) (.node [qo 34 (.bin .add false 31 33),qm 10 34] .leaf) .leaf)) (.alt (qc 33 77 [32,ci 1] 0) (.node [] (.alt (qo 30 (.lit 1 [29])) (.node [qo 31 (.b2s 30),qo 34 (.bin .add false 31 33),qm 10 34] .leaf) .leaf)) .leaf)))) .ret) .skip))))) (.seq (.tree (.node [qm 35 4,qo 36 (.conv .u8 35),qm 39 0] (.alt (qo 37 (.lit 1 [36])) (.node [qo 38 (.b2s 37)] (.alt (qc 40 77 [39,ci 2] 0) (.node [qo 41 (.bin .add false 38 40),qm 10 41] .leaf) .leaf)) (.alt (qc 40 77 [39,ci 2] 0) (.node [] (.alt (qo 37 (.lit 1 [36])) (.node [qo 38 (.b2s 37),qo 41 (.bin .add false 38 40),qm 10 41] .leaf) .leaf)) .leaf)))) .ret))
theorem zeW:look Tryz.prog 80 = some (42,m_i_putLength,[.tm 10]):=by kernel_rfl
def m_i_SignOf:M:=so [qo 4 (.mv (ci 0))] (.seq (so [qm 6 1,qc 7 54 [6,ci 1,ci 8] 1,qo 8 (.not 7)] (.cond 8 (so [qm 9 0,qm 4 9] .ret) .skip)) (so [qm 10 1,qo 11 (.bin .mul false (ci 8) 10),qo 12 (.bin .sub false (ci 64) 11),qm 5 12] (so [qm 13 0,qm 14 5,qo 15 (.bin .shl false 13 14),qm 16 5,qo 17 (.bin .shr false 15 16),qm 4 17] .ret)))
theorem zh6:look Tryz.prog 85 = some (18,m_i_SignOf,[.tm 4]):=by kernel_rfl
end
section
variable {T:World -> Prop} {hT:Low ngl T}
attribute [local irreducible] po mw pt
theorem pS_inv {C:Cx} {W:World} {l:L8} {y:Value} (h:RpV C W (.d (pS l)) y):y = .string ⟨l.toArray⟩:=by
 cases h with
 | d _ _ h => cases h; rfl
theorem zcG (n a b:Int):FnV (env T hT) 54 [.d (pI n),.d (pI a),.d (pI b)] (.d (pB (decide (a <= n /\ n <= b)))):=by
 refine FnV.old rfl fun w C vs hF _ _ hlen hv => ?_
 match vs,hlen with
 | [x,y,z],_ =>
  have h1:=zbV (hv 0 _ _ rfl rfl); have h2:=zbV (hv 1 _ _ rfl rfl); have h3:=zbV (hv 2 _ _ rfl rfl)
  subst h1; subst h2; subst h3
  refine (za2 n a b w).mono ?_;rintro e w' ⟨rfl,rfl⟩;refine ⟨?_,Below.refl _ _⟩;by_cases h:a <= n /\ n <= b
  ·rw [zaM h,decide_eq_true h]
  ·rw [zbk h,decide_eq_false h]
theorem zh7 (n k:Int) (hk:1 <= k /\ k <= 8) (hn:i64ok n):FnV (env T hT) 77 [.d (pI n),.d (pI k)] (.d (pS (be k.toNat (lo64 n)))):=by
 refine FnV.old rfl fun w C vs hF _ _ hlen hv => ?_
 match vs,hlen with
 | [x,y],_ =>
  have h1:=zbV (hv 0 _ _ rfl rfl); have h2:=zbV (hv 1 _ _ rfl rfl)
  subst h1; subst h2
  exact zgA n k w hk hn
theorem zhc {E:Env} {K:St -> Prop} {tm:Nat -> PV} {bx:LP PC} {nt d:Nat} {live:List Nat} {r:List MOpr} {g:Option (Nat × Bool)} {c:List X} {x y:X} {a b n:Int} (hg:gd g tm = some true) (hx:ev tm x = .d (pI a)) (hy:ev tm y = .d (pI b)) (hb:0 <= b) (hn:IntKind.wrap .i64 (a * 2 ^ (min b.toNat 64)) = n) (h:po E r K ⟨up d (.d (pI n)) tm,bx,nt,live⟩):po E (⟨some d,.bin .shl false x y,g,c⟩ :: r) K ⟨tm,bx,nt,live⟩:=by
 refine po_q hg ?_ h;subst hn;simp only [qf,hx,hy,pI];show Option.map _ (if b < 0 then none else some (Value.int .i64 (IntKind.wrap .i64 (a * 2 ^ (min b.toNat 64))))) = _;rw [if_neg (by omega)]; rfl
theorem zb5 (a:Int) (b:Int) (hb:0 < b):a.fdiv b = a / b:=Int.fdiv_eq_ediv_of_nonneg a (by omega)
theorem shsh (n:Int) (k:Nat) (hk:1 <= k /\ k <= 8) (hn:i64ok n):(IntKind.wrap .i64 (n * 2 ^ (min (64 - 8 * (k:Int)).toNat IntKind.i64.bits))).fdiv (2 ^ (min (64 - 8 * (k:Int)).toNat IntKind.i64.bits)) = sgw n k:=by
 have hb:IntKind.i64.bits = 64:=rfl;obtain ⟨hn1,hn2⟩:=hn;have hc:k = 1 \/ k = 2 \/ k = 3 \/ k = 4 \/ k = 5 \/ k = 6 \/ k = 7 \/ k = 8:=by omega
 rw [hb]
 rcases hc with rfl | rfl | rfl | rfl | rfl | rfl | rfl | rfl
 ·rw [show (2:Int) ^ (min (64 - 8 * ((1:Nat):Int)).toNat 64) = 72057594037927936 from rfl,zb5 _ _ (by decide),IntKind.wrap_i64]
  unfold sgw;rw [if_pos (by decide),show ((256 ^ 1:Nat):Int) = 256 from rfl,show ((256 ^ 1 / 2:Nat):Int) = 128 from rfl]
  split <;> omega
 ·rw [show (2:Int) ^ (min (64 - 8 * ((2:Nat):Int)).toNat 64) = 281474976710656 from rfl,zb5 _ _ (by decide),IntKind.wrap_i64]
  unfold sgw;rw [if_pos (by decide),show ((256 ^ 2:Nat):Int) = 65536 from rfl,show ((256 ^ 2 / 2:Nat):Int) = 32768 from rfl]
  split <;> omega
 ·rw [show (2:Int) ^ (min (64 - 8 * ((3:Nat):Int)).toNat 64) = 1099511627776 from rfl,zb5 _ _ (by decide),IntKind.wrap_i64]
  unfold sgw;rw [if_pos (by decide),show ((256 ^ 3:Nat):Int) = 16777216 from rfl,show ((256 ^ 3 / 2:Nat):Int) = 8388608 from rfl]
  split <;> omega
 ·rw [show (2:Int) ^ (min (64 - 8 * ((4:Nat):Int)).toNat 64) = 4294967296 from rfl,zb5 _ _ (by decide),IntKind.wrap_i64]
  unfold sgw;rw [if_pos (by decide),show ((256 ^ 4:Nat):Int) = 4294967296 from rfl,show ((256 ^ 4 / 2:Nat):Int) = 2147483648 from rfl]
  split <;> omega
 ·rw [show (2:Int) ^ (min (64 - 8 * ((5:Nat):Int)).toNat 64) = 16777216 from rfl,zb5 _ _ (by decide),IntKind.wrap_i64]
  unfold sgw;rw [if_pos (by decide),show ((256 ^ 5:Nat):Int) = 1099511627776 from rfl,show ((256 ^ 5 / 2:Nat):Int) = 549755813888 from rfl]
  split <;> omega
 ·rw [show (2:Int) ^ (min (64 - 8 * ((6:Nat):Int)).toNat 64) = 65536 from rfl,zb5 _ _ (by decide),IntKind.wrap_i64]
  unfold sgw;rw [if_pos (by decide),show ((256 ^ 6:Nat):Int) = 281474976710656 from rfl,show ((256 ^ 6 / 2:Nat):Int) = 140737488355328 from rfl]
  split <;> omega
 ·rw [show (2:Int) ^ (min (64 - 8 * ((7:Nat):Int)).toNat 64) = 256 from rfl,zb5 _ _ (by decide),IntKind.wrap_i64]
  unfold sgw;rw [if_pos (by decide),show ((256 ^ 7:Nat):Int) = 72057594037927936 from rfl,show ((256 ^ 7 / 2:Nat):Int) = 36028797018963968 from rfl]
  split <;> omega
 ·rw [show (2:Int) ^ (min (64 - 8 * ((8:Nat):Int)).toNat 64) = 1 from rfl,zb5 _ _ (by decide),IntKind.wrap_i64]
  unfold sgw;rw [if_neg (by decide)]; omega
theorem zfZ (n:Int) (k:Nat) (hk:1 <= k /\ k <= 8) (hn:i64ok n):FnV (env T hT) 85 [.d (pI n),.d (pI k)] (.d (pI (sgw n k))):=by
 refine zaW (zaj zh6) (by show 2 <= 18; decide) fun B hB => ?_
 unfold m_i_SignOf;refine mP ?_;refine mM ?_;refine mN ?_;refine zad rfl (zcG k 1 8) ?_;rw [decide_eq_true (show (1:Int) <= k /\ (k:Int) <= 8 by omega)];refine mK ?_;refine mQ ?_;refine zcc (n:=8 * (k:Int)) rfl rfl rfl rfl (by omega) ?_;refine zaK (n:=64 - 8 * (k:Int)) rfl rfl rfl rfl (by omega) ?_;refine mN ?_;refine mO ?_;(iterate 2 refine mS ?_)
 refine po_q (v:=.d (pI (IntKind.wrap .i64 (n * 2 ^ (min (64 - 8 * (k:Int)).toNat IntKind.i64.bits))))) rfl (by
  show Option.map _ (if 64 - 8 * (k:Int) < 0 then none else some (Value.int .i64 (IntKind.wrap .i64 (n * 2 ^ (min (64 - 8 * (k:Int)).toNat IntKind.i64.bits))))) = _;rw [if_neg (by omega)]; rfl) ?_
 refine mS ?_
 refine po_q (v:=.d (pI (sgw n k))) rfl (by
  show Option.map _ (if 64 - 8 * (k:Int) < 0 then none else some (Value.int .i64 ((IntKind.wrap .i64 (n * 2 ^ (min (64 - 8 * (k:Int)).toNat IntKind.i64.bits))).fdiv (2 ^ (min (64 - 8 * (k:Int)).toNat IntKind.i64.bits))))) = _;rw [if_neg (by omega),shsh n k hk hn]; rfl) ?_
 refine mN ?_;exact mR
def pnP:Nat -> Int
 | 0 => 128 | 1 => 256 | 2 => 65536 | _ => 4294967296
def pnN:Nat -> Int
 | 0 => -32 | 1 => -128 | 2 => -32768 | _ => -2147483648
def PnI (n:Int) (m:Nat) (s:St):Prop:=∃ i:Nat,i <= 3 /\ m = 4 - i /\ (0 <= n -> pnP i <= n) /\ (n < 0 -> n < pnN i) /\ has s.tm [(0,.d (pI n)),(9,.d (.sl 2 [[pI 1],[pI 2],[pI 4],[pI 8]])),(10,.d (pI 4)),(11,.d (pI i))]
theorem putNum_fn (n:Int) (hn:i64ok n):FnV (env T hT) 79 [.d (pI n)] (.d (pS (msgInt n))):=by
 have hput:=fun (k:Int) (hk:1 <= k /\ k <= 8) => zh7 (T:=T) (hT:=hT) n k hk hn
 have hsg:=fun (k:Nat) (hk:1 <= k /\ k <= 8) => zfZ (T:=T) (hT:=hT) n k hk hn
 obtain ⟨hn1,hn2⟩:=hn;refine zaW (zaj zeV) (by show 1 <= 59; decide) fun B hB => ?_
 unfold m_i_putNumber;refine mP ?_;refine mM ?_;refine mN ?_;refine zad rfl (zcG n (-32) 127) ?_;refine zaa ?_;refine zbB (p:=-32 <= n /\ n <= 127) rfl (fun h => ?_) (fun h => ?_)
 ·refine mP ?_
  refine zad rfl (hput 1 (by omega)) ?_;refine mN ?_;exact zae ⟨.inr rfl,_,rfl,by unfold msgInt; rw [if_pos h]; rfl⟩
 refine zai ?_;refine mM ?_;refine zaq (es:=[[pI 1],[pI 2],[pI 4],[pI 8]]) rfl ?_;refine zav (n:=4) rfl rfl rfl ?_;refine mN ?_;refine zab ?_;refine zas (PnI n) 4 ⟨0,by omega,rfl,fun h => by simp only [pnP]; omega,fun h => by simp only [pnN]; omega,rfl,rfl,rfl,rfl,trivial⟩ ?_;rintro m tm bx nt live ⟨i,hi,rfl,hp,hq,ht⟩;obtain ⟨tm0,rfl⟩:=zac ht;clear ht;have hc:i = 0 \/ i = 1 \/ i = 2 \/ i = 3:=by omega
 rcases hc with rfl | rfl | rfl | rfl
 ·simp only [pnP,pnN] at hp hq
  refine mO ?_;refine zah rfl rfl rfl ?_;refine zaa ?_;refine zak ?_;refine mwT ?_;refine zai ?_;refine zak (zab (zak (zaf ?_)));refine mS ?_;refine zaH (es:=[[pI 1],[pI 2],[pI 4],[pI 8]]) (e:=[pI 1]) rfl rfl rfl ⟨by decide,rfl⟩ rfl ?_;refine mN ?_;refine zab (zak (zaf ?_));refine mS ?_;by_cases h0:0 <= n
  ·have hp:=hp h0
   refine zah rfl rfl (decide_eq_true (show n ≥ 0 from h0)) ?_;(iterate 2 refine mS ?_);refine zal rfl rfl rfl ?_;(iterate 3 refine mS ?_);refine zcc (n:=8) rfl rfl rfl rfl (by decide) ?_;refine zhc (n:=256) rfl rfl rfl (by decide) (by decide) ?_;by_cases hf:n < 256
   ·refine zah rfl rfl (decide_eq_true hf) ?_
    (iterate 3 refine mS ?_);refine zaa ?_;refine mwT ?_
    have hres:msgInt n = [204] ++ be 1 (lo64 n):=by
     unfold msgInt
     repeat (first | rw [if_pos (by omega)] | rw [if_neg (by omega)])
    refine zak (zbq ?_);refine zao ?_;refine mS ?_;refine zam (n:=204) rfl rfl rfl rfl (by decide) ?_;refine zbb (n:=204) rfl rfl (by decide) ?_;refine mS ?_;refine mL ?_;refine zaz ?_;refine zaA ?_ ?_
    ·refine zaq (es:=[[.v (.int .u8 204)]]) rfl ?_
     refine zaa ?_;refine zao ?_;refine mL ?_;refine zaz ?_;refine zaA ?_ zay;refine zad rfl (hput 1 (by omega)) ?_;refine zaa ?_;refine zao ?_;refine zax (la:=[204]) (lb:=be 1 (lo64 n)) rfl rfl rfl (by rw [zag]; simp) ?_;refine mL ?_;refine zaR ?_;refine zae ⟨.inr rfl,[.d (pS ([204] ++ be 1 (lo64 n)))],rfl,?_⟩;rw [hres]; rfl
    ·refine zaA ?_ zay
     refine zad rfl (hput 1 (by omega)) ?_;refine zaa ?_;refine zao ?_;refine zaa ?_;refine zaz ?_;refine zaA ?_ zay;refine zaq (es:=[[.v (.int .u8 204)]]) rfl ?_;refine zaa ?_;refine zao ?_;refine mS ?_;refine zax (la:=[204]) (lb:=be 1 (lo64 n)) rfl rfl rfl (by rw [zag]; simp) ?_;refine mL ?_;refine zaR ?_;refine zae ⟨.inr rfl,[.d (pS ([204] ++ be 1 (lo64 n)))],rfl,?_⟩;rw [hres]; rfl
   ·refine zal rfl rfl (decide_eq_false hf) ?_
    (iterate 3 refine mS ?_);refine zaa ?_;refine mwF ?_;refine mQ ?_;refine zal rfl rfl (decide_eq_false (show ¬ n < 0 by omega)) ?_;refine mS ?_;refine mZ ?_;(iterate 2 refine mS ?_);refine zaa ?_;refine mwF ?_;refine zai ?_;refine zaf ?_;refine zam (n:=1) rfl rfl rfl rfl (by decide) ?_;refine mN ?_;exact ⟨3,by omega,1,by omega,rfl,fun _ => by simp only [pnP]; omega,fun h => by omega,rfl,rfl,rfl,rfl,trivial⟩
  ·have hq:=hq (by omega)
   refine zal rfl rfl (decide_eq_false (show ¬ n ≥ 0 from h0)) ?_;refine mS ?_;refine mZ ?_;(iterate 2 refine mS ?_);refine zaa ?_;refine mwF ?_;refine mQ ?_;refine zah rfl rfl (decide_eq_true (show n < 0 by omega)) ?_;(iterate 3 refine mS ?_);refine zaC (b:=true) rfl (fun _ => rfl) (fun _ => hsg 1 (by omega)) ?_;refine mS ?_;by_cases hf:sgw n 1 = n
   ·refine zah rfl rfl (decide_eq_true hf) ?_
    (iterate 2 refine mS ?_);refine zaa ?_;refine mwT ?_
    have hres:msgInt n = [208] ++ be 1 (lo64 n):=by
     unfold sgw at hf;rw [if_pos (by decide),show ((256 ^ 1:Nat):Int) = 256 from rfl,show ((256 ^ 1 / 2:Nat):Int) = 128 from rfl] at hf
     split at hf
     ·unfold msgInt
      repeat (first | rw [if_pos (by omega)] | rw [if_neg (by omega)])
     ·omega
    refine zak (zbq ?_);refine zao ?_;refine mS ?_;refine zam (n:=208) rfl rfl rfl rfl (by decide) ?_;refine zbb (n:=208) rfl rfl (by decide) ?_;refine mS ?_;refine mL ?_;refine zaz ?_;refine zaA ?_ ?_
    ·refine zaq (es:=[[.v (.int .u8 208)]]) rfl ?_
     refine zaa ?_;refine zao ?_;refine mL ?_;refine zaz ?_;refine zaA ?_ zay;refine zad rfl (hput 1 (by omega)) ?_;refine zaa ?_;refine zao ?_;refine zax (la:=[208]) (lb:=be 1 (lo64 n)) rfl rfl rfl (by rw [zag]; simp) ?_;refine mL ?_;refine zaR ?_;refine zae ⟨.inr rfl,[.d (pS ([208] ++ be 1 (lo64 n)))],rfl,?_⟩;rw [hres]; rfl
    ·refine zaA ?_ zay
     refine zad rfl (hput 1 (by omega)) ?_;refine zaa ?_;refine zao ?_;refine zaa ?_;refine zaz ?_;refine zaA ?_ zay;refine zaq (es:=[[.v (.int .u8 208)]]) rfl ?_;refine zaa ?_;refine zao ?_;refine mS ?_;refine zax (la:=[208]) (lb:=be 1 (lo64 n)) rfl rfl rfl (by rw [zag]; simp) ?_;refine mL ?_;refine zaR ?_;refine zae ⟨.inr rfl,[.d (pS ([208] ++ be 1 (lo64 n)))],rfl,?_⟩;rw [hres]; rfl
   ·refine zal rfl rfl (decide_eq_false hf) ?_
    (iterate 2 refine mS ?_);refine zaa ?_;refine mwF ?_;refine zai ?_
    have hlow:n < -128:=by
     apply Decidable.byContradiction
     intro hlt
     apply hf
     unfold sgw;rw [if_pos (by decide),show ((256 ^ 1:Nat):Int) = 256 from rfl,show ((256 ^ 1 / 2:Nat):Int) = 128 from rfl]
     split <;> omega
    refine zaf ?_;refine zam (n:=1) rfl rfl rfl rfl (by decide) ?_;refine mN ?_;exact ⟨3,by omega,1,by omega,rfl,fun h => by omega,fun _ => by simp only [pnN]; omega,rfl,rfl,rfl,rfl,trivial⟩
 ·simp only [pnP,pnN] at hp hq
  refine mO ?_;refine zah rfl rfl rfl ?_;refine zaa ?_;refine zak ?_;refine mwT ?_;refine zai ?_;refine zak (zab (zak (zaf ?_)));refine mS ?_;refine zaH (es:=[[pI 1],[pI 2],[pI 4],[pI 8]]) (e:=[pI 2]) rfl rfl rfl ⟨by decide,rfl⟩ rfl ?_;refine mN ?_;refine zab (zak (zaf ?_));refine mS ?_;by_cases h0:0 <= n
  ·have hp:=hp h0
   refine zah rfl rfl (decide_eq_true (show n ≥ 0 from h0)) ?_;(iterate 2 refine mS ?_);refine zal rfl rfl rfl ?_;(iterate 3 refine mS ?_);refine zcc (n:=16) rfl rfl rfl rfl (by decide) ?_;refine zhc (n:=65536) rfl rfl rfl (by decide) (by decide) ?_;by_cases hf:n < 65536
   ·refine zah rfl rfl (decide_eq_true hf) ?_
    (iterate 3 refine mS ?_);refine zaa ?_;refine mwT ?_
    have hres:msgInt n = [205] ++ be 2 (lo64 n):=by
     unfold msgInt
     repeat (first | rw [if_pos (by omega)] | rw [if_neg (by omega)])
    refine zak (zbq ?_);refine zao ?_;refine mS ?_;refine zam (n:=205) rfl rfl rfl rfl (by decide) ?_;refine zbb (n:=205) rfl rfl (by decide) ?_;refine mS ?_;refine mL ?_;refine zaz ?_;refine zaA ?_ ?_
    ·refine zaq (es:=[[.v (.int .u8 205)]]) rfl ?_
     refine zaa ?_;refine zao ?_;refine mL ?_;refine zaz ?_;refine zaA ?_ zay;refine zad rfl (hput 2 (by omega)) ?_;refine zaa ?_;refine zao ?_;refine zax (la:=[205]) (lb:=be 2 (lo64 n)) rfl rfl rfl (by rw [zag]; simp) ?_;refine mL ?_;refine zaR ?_;refine zae ⟨.inr rfl,[.d (pS ([205] ++ be 2 (lo64 n)))],rfl,?_⟩;rw [hres]; rfl
    ·refine zaA ?_ zay
     refine zad rfl (hput 2 (by omega)) ?_;refine zaa ?_;refine zao ?_;refine zaa ?_;refine zaz ?_;refine zaA ?_ zay;refine zaq (es:=[[.v (.int .u8 205)]]) rfl ?_;refine zaa ?_;refine zao ?_;refine mS ?_;refine zax (la:=[205]) (lb:=be 2 (lo64 n)) rfl rfl rfl (by rw [zag]; simp) ?_;refine mL ?_;refine zaR ?_;refine zae ⟨.inr rfl,[.d (pS ([205] ++ be 2 (lo64 n)))],rfl,?_⟩;rw [hres]; rfl
   ·refine zal rfl rfl (decide_eq_false hf) ?_
    (iterate 3 refine mS ?_);refine zaa ?_;refine mwF ?_;refine mQ ?_;refine zal rfl rfl (decide_eq_false (show ¬ n < 0 by omega)) ?_;refine mS ?_;refine mZ ?_;(iterate 2 refine mS ?_);refine zaa ?_;refine mwF ?_;refine zai ?_;refine zaf ?_;refine zam (n:=2) rfl rfl rfl rfl (by decide) ?_;refine mN ?_;exact ⟨2,by omega,2,by omega,rfl,fun _ => by simp only [pnP]; omega,fun h => by omega,rfl,rfl,rfl,rfl,trivial⟩
  ·have hq:=hq (by omega)
   refine zal rfl rfl (decide_eq_false (show ¬ n ≥ 0 from h0)) ?_;refine mS ?_;refine mZ ?_;(iterate 2 refine mS ?_);refine zaa ?_;refine mwF ?_;refine mQ ?_;refine zah rfl rfl (decide_eq_true (show n < 0 by omega)) ?_;(iterate 3 refine mS ?_);refine zaC (b:=true) rfl (fun _ => rfl) (fun _ => hsg 2 (by omega)) ?_;refine mS ?_;by_cases hf:sgw n 2 = n
   ·refine zah rfl rfl (decide_eq_true hf) ?_
    (iterate 2 refine mS ?_);refine zaa ?_;refine mwT ?_
    have hres:msgInt n = [209] ++ be 2 (lo64 n):=by
     unfold sgw at hf;rw [if_pos (by decide),show ((256 ^ 2:Nat):Int) = 65536 from rfl,show ((256 ^ 2 / 2:Nat):Int) = 32768 from rfl] at hf
     split at hf
     ·unfold msgInt
      repeat (first | rw [if_pos (by omega)] | rw [if_neg (by omega)])
     ·omega
    refine zak (zbq ?_);refine zao ?_;refine mS ?_;refine zam (n:=209) rfl rfl rfl rfl (by decide) ?_;refine zbb (n:=209) rfl rfl (by decide) ?_;refine mS ?_;refine mL ?_;refine zaz ?_;refine zaA ?_ ?_
    ·refine zaq (es:=[[.v (.int .u8 209)]]) rfl ?_
     refine zaa ?_;refine zao ?_;refine mL ?_;refine zaz ?_;refine zaA ?_ zay;refine zad rfl (hput 2 (by omega)) ?_;refine zaa ?_;refine zao ?_;refine zax (la:=[209]) (lb:=be 2 (lo64 n)) rfl rfl rfl (by rw [zag]; simp) ?_;refine mL ?_;refine zaR ?_;refine zae ⟨.inr rfl,[.d (pS ([209] ++ be 2 (lo64 n)))],rfl,?_⟩;rw [hres]; rfl
    ·refine zaA ?_ zay
     refine zad rfl (hput 2 (by omega)) ?_;refine zaa ?_;refine zao ?_;refine zaa ?_;refine zaz ?_;refine zaA ?_ zay;refine zaq (es:=[[.v (.int .u8 209)]]) rfl ?_;refine zaa ?_;refine zao ?_;refine mS ?_;refine zax (la:=[209]) (lb:=be 2 (lo64 n)) rfl rfl rfl (by rw [zag]; simp) ?_;refine mL ?_;refine zaR ?_;refine zae ⟨.inr rfl,[.d (pS ([209] ++ be 2 (lo64 n)))],rfl,?_⟩;rw [hres]; rfl
   ·refine zal rfl rfl (decide_eq_false hf) ?_
    (iterate 2 refine mS ?_);refine zaa ?_;refine mwF ?_;refine zai ?_
    have hlow:n < -32768:=by
     apply Decidable.byContradiction
     intro hlt
     apply hf
     unfold sgw;rw [if_pos (by decide),show ((256 ^ 2:Nat):Int) = 65536 from rfl,show ((256 ^ 2 / 2:Nat):Int) = 32768 from rfl]
     split <;> omega
    refine zaf ?_;refine zam (n:=2) rfl rfl rfl rfl (by decide) ?_;refine mN ?_;exact ⟨2,by omega,2,by omega,rfl,fun h => by omega,fun _ => by simp only [pnN]; omega,rfl,rfl,rfl,rfl,trivial⟩
 ·simp only [pnP,pnN] at hp hq
  refine mO ?_;refine zah rfl rfl rfl ?_;refine zaa ?_;refine zak ?_;refine mwT ?_;refine zai ?_;refine zak (zab (zak (zaf ?_)));refine mS ?_;refine zaH (es:=[[pI 1],[pI 2],[pI 4],[pI 8]]) (e:=[pI 4]) rfl rfl rfl ⟨by decide,rfl⟩ rfl ?_;refine mN ?_;refine zab (zak (zaf ?_));refine mS ?_;by_cases h0:0 <= n
  ·have hp:=hp h0
   refine zah rfl rfl (decide_eq_true (show n ≥ 0 from h0)) ?_;(iterate 2 refine mS ?_);refine zal rfl rfl rfl ?_;(iterate 3 refine mS ?_);refine zcc (n:=32) rfl rfl rfl rfl (by decide) ?_;refine zhc (n:=4294967296) rfl rfl rfl (by decide) (by decide) ?_;by_cases hf:n < 4294967296
   ·refine zah rfl rfl (decide_eq_true hf) ?_
    (iterate 3 refine mS ?_);refine zaa ?_;refine mwT ?_
    have hres:msgInt n = [206] ++ be 4 (lo64 n):=by
     unfold msgInt
     repeat (first | rw [if_pos (by omega)] | rw [if_neg (by omega)])
    refine zak (zbq ?_);refine zao ?_;refine mS ?_;refine zam (n:=206) rfl rfl rfl rfl (by decide) ?_;refine zbb (n:=206) rfl rfl (by decide) ?_;refine mS ?_;refine mL ?_;refine zaz ?_;refine zaA ?_ ?_
    ·refine zaq (es:=[[.v (.int .u8 206)]]) rfl ?_
     refine zaa ?_;refine zao ?_;refine mL ?_;refine zaz ?_;refine zaA ?_ zay;refine zad rfl (hput 4 (by omega)) ?_;refine zaa ?_;refine zao ?_;refine zax (la:=[206]) (lb:=be 4 (lo64 n)) rfl rfl rfl (by rw [zag]; simp) ?_;refine mL ?_;refine zaR ?_;refine zae ⟨.inr rfl,[.d (pS ([206] ++ be 4 (lo64 n)))],rfl,?_⟩;rw [hres]; rfl
    ·refine zaA ?_ zay
     refine zad rfl (hput 4 (by omega)) ?_;refine zaa ?_;refine zao ?_;refine zaa ?_;refine zaz ?_;refine zaA ?_ zay;refine zaq (es:=[[.v (.int .u8 206)]]) rfl ?_;refine zaa ?_;refine zao ?_;refine mS ?_;refine zax (la:=[206]) (lb:=be 4 (lo64 n)) rfl rfl rfl (by rw [zag]; simp) ?_;refine mL ?_;refine zaR ?_;refine zae ⟨.inr rfl,[.d (pS ([206] ++ be 4 (lo64 n)))],rfl,?_⟩;rw [hres]; rfl
   ·refine zal rfl rfl (decide_eq_false hf) ?_
    (iterate 3 refine mS ?_);refine zaa ?_;refine mwF ?_;refine mQ ?_;refine zal rfl rfl (decide_eq_false (show ¬ n < 0 by omega)) ?_;refine mS ?_;refine mZ ?_;(iterate 2 refine mS ?_);refine zaa ?_;refine mwF ?_;refine zai ?_;refine zaf ?_;refine zam (n:=3) rfl rfl rfl rfl (by decide) ?_;refine mN ?_;exact ⟨1,by omega,3,by omega,rfl,fun _ => by simp only [pnP]; omega,fun h => by omega,rfl,rfl,rfl,rfl,trivial⟩
  ·have hq:=hq (by omega)
   refine zal rfl rfl (decide_eq_false (show ¬ n ≥ 0 from h0)) ?_;refine mS ?_;refine mZ ?_;(iterate 2 refine mS ?_);refine zaa ?_;refine mwF ?_;refine mQ ?_;refine zah rfl rfl (decide_eq_true (show n < 0 by omega)) ?_;(iterate 3 refine mS ?_);refine zaC (b:=true) rfl (fun _ => rfl) (fun _ => hsg 4 (by omega)) ?_;refine mS ?_;by_cases hf:sgw n 4 = n
   ·refine zah rfl rfl (decide_eq_true hf) ?_
    (iterate 2 refine mS ?_);refine zaa ?_;refine mwT ?_
    have hres:msgInt n = [210] ++ be 4 (lo64 n):=by
     unfold sgw at hf;rw [if_pos (by decide),show ((256 ^ 4:Nat):Int) = 4294967296 from rfl,show ((256 ^ 4 / 2:Nat):Int) = 2147483648 from rfl] at hf
     split at hf
     ·unfold msgInt
      repeat (first | rw [if_pos (by omega)] | rw [if_neg (by omega)])
     ·omega
    refine zak (zbq ?_);refine zao ?_;refine mS ?_;refine zam (n:=210) rfl rfl rfl rfl (by decide) ?_;refine zbb (n:=210) rfl rfl (by decide) ?_;refine mS ?_;refine mL ?_;refine zaz ?_;refine zaA ?_ ?_
    ·refine zaq (es:=[[.v (.int .u8 210)]]) rfl ?_
     refine zaa ?_;refine zao ?_;refine mL ?_;refine zaz ?_;refine zaA ?_ zay;refine zad rfl (hput 4 (by omega)) ?_;refine zaa ?_;refine zao ?_;refine zax (la:=[210]) (lb:=be 4 (lo64 n)) rfl rfl rfl (by rw [zag]; simp) ?_;refine mL ?_;refine zaR ?_;refine zae ⟨.inr rfl,[.d (pS ([210] ++ be 4 (lo64 n)))],rfl,?_⟩;rw [hres]; rfl
    ·refine zaA ?_ zay
     refine zad rfl (hput 4 (by omega)) ?_;refine zaa ?_;refine zao ?_;refine zaa ?_;refine zaz ?_;refine zaA ?_ zay;refine zaq (es:=[[.v (.int .u8 210)]]) rfl ?_;refine zaa ?_;refine zao ?_;refine mS ?_;refine zax (la:=[210]) (lb:=be 4 (lo64 n)) rfl rfl rfl (by rw [zag]; simp) ?_;refine mL ?_;refine zaR ?_;refine zae ⟨.inr rfl,[.d (pS ([210] ++ be 4 (lo64 n)))],rfl,?_⟩;rw [hres]; rfl
   ·refine zal rfl rfl (decide_eq_false hf) ?_
    (iterate 2 refine mS ?_);refine zaa ?_;refine mwF ?_;refine zai ?_
    have hlow:n < -2147483648:=by
     apply Decidable.byContradiction
     intro hlt
     apply hf
     unfold sgw;rw [if_pos (by decide),show ((256 ^ 4:Nat):Int) = 4294967296 from rfl,show ((256 ^ 4 / 2:Nat):Int) = 2147483648 from rfl]
     split <;> omega
    refine zaf ?_;refine zam (n:=3) rfl rfl rfl rfl (by decide) ?_;refine mN ?_;exact ⟨1,by omega,3,by omega,rfl,fun h => by omega,fun _ => by simp only [pnN]; omega,rfl,rfl,rfl,rfl,trivial⟩
 ·simp only [pnP,pnN] at hp hq
  refine mO ?_;refine zah rfl rfl rfl ?_;refine zaa ?_;refine zak ?_;refine mwT ?_;refine zai ?_;refine zak (zab (zak (zaf ?_)));refine mS ?_;refine zaH (es:=[[pI 1],[pI 2],[pI 4],[pI 8]]) (e:=[pI 8]) rfl rfl rfl ⟨by decide,rfl⟩ rfl ?_;refine mN ?_;refine zab (zak (zaf ?_));refine mS ?_;by_cases h0:0 <= n
  ·have hp:=hp h0
   refine zah rfl rfl (decide_eq_true (show n ≥ 0 from h0)) ?_;(iterate 2 refine mS ?_);refine zah rfl rfl rfl ?_;refine mS ?_;refine mZ ?_;(iterate 3 refine mS ?_);refine zaa ?_;refine mwT ?_
   have hres:msgInt n = [207] ++ be 8 (lo64 n):=by
    unfold msgInt
    repeat (first | rw [if_pos (by omega)] | rw [if_neg (by omega)])
   refine zak (zbq ?_);refine zao ?_;refine mS ?_;refine zam (n:=207) rfl rfl rfl rfl (by decide) ?_;refine zbb (n:=207) rfl rfl (by decide) ?_;refine mS ?_;refine mL ?_;refine zaz ?_;refine zaA ?_ ?_
   ·refine zaq (es:=[[.v (.int .u8 207)]]) rfl ?_
    refine zaa ?_;refine zao ?_;refine mL ?_;refine zaz ?_;refine zaA ?_ zay;refine zad rfl (hput 8 (by omega)) ?_;refine zaa ?_;refine zao ?_;refine zax (la:=[207]) (lb:=be 8 (lo64 n)) rfl rfl rfl (by rw [zag]; simp) ?_;refine mL ?_;refine zaR ?_;refine zae ⟨.inr rfl,[.d (pS ([207] ++ be 8 (lo64 n)))],rfl,?_⟩;rw [hres]; rfl
   ·refine zaA ?_ zay
    refine zad rfl (hput 8 (by omega)) ?_;refine zaa ?_;refine zao ?_;refine zaa ?_;refine zaz ?_;refine zaA ?_ zay;refine zaq (es:=[[.v (.int .u8 207)]]) rfl ?_;refine zaa ?_;refine zao ?_;refine mS ?_;refine zax (la:=[207]) (lb:=be 8 (lo64 n)) rfl rfl rfl (by rw [zag]; simp) ?_;refine mL ?_;refine zaR ?_;refine zae ⟨.inr rfl,[.d (pS ([207] ++ be 8 (lo64 n)))],rfl,?_⟩;rw [hres]; rfl
  ·have hq:=hq (by omega)
   refine zal rfl rfl (decide_eq_false (show ¬ n ≥ 0 from h0)) ?_;refine mS ?_;refine mZ ?_;(iterate 2 refine mS ?_);refine zaa ?_;refine mwF ?_;refine mQ ?_;refine zah rfl rfl (decide_eq_true (show n < 0 by omega)) ?_;(iterate 3 refine mS ?_);refine zaC (b:=true) rfl (fun _ => rfl) (fun _ => hsg 8 (by omega)) ?_;refine mS ?_;have hf:sgw n 8 = n:=by unfold sgw; rw [if_neg (by decide)]
   refine zah rfl rfl (decide_eq_true hf) ?_;(iterate 2 refine mS ?_);refine zaa ?_;refine mwT ?_
   have hres:msgInt n = [211] ++ be 8 (lo64 n):=by
    unfold msgInt
    repeat (first | rw [if_pos (by omega)] | rw [if_neg (by omega)])
   refine zak (zbq ?_);refine zao ?_;refine mS ?_;refine zam (n:=211) rfl rfl rfl rfl (by decide) ?_;refine zbb (n:=211) rfl rfl (by decide) ?_;refine mS ?_;refine mL ?_;refine zaz ?_;refine zaA ?_ ?_
   ·refine zaq (es:=[[.v (.int .u8 211)]]) rfl ?_
    refine zaa ?_;refine zao ?_;refine mL ?_;refine zaz ?_;refine zaA ?_ zay;refine zad rfl (hput 8 (by omega)) ?_;refine zaa ?_;refine zao ?_;refine zax (la:=[211]) (lb:=be 8 (lo64 n)) rfl rfl rfl (by rw [zag]; simp) ?_;refine mL ?_;refine zaR ?_;refine zae ⟨.inr rfl,[.d (pS ([211] ++ be 8 (lo64 n)))],rfl,?_⟩;rw [hres]; rfl
   ·refine zaA ?_ zay
    refine zad rfl (hput 8 (by omega)) ?_;refine zaa ?_;refine zao ?_;refine zaa ?_;refine zaz ?_;refine zaA ?_ zay;refine zaq (es:=[[.v (.int .u8 211)]]) rfl ?_;refine zaa ?_;refine zao ?_;refine mS ?_;refine zax (la:=[211]) (lb:=be 8 (lo64 n)) rfl rfl rfl (by rw [zag]; simp) ?_;refine mL ?_;refine zaR ?_;refine zae ⟨.inr rfl,[.d (pS ([211] ++ be 8 (lo64 n)))],rfl,?_⟩;rw [hres]; rfl
def u8w (x:Int):Int:=IntKind.wrap .u8 x
theorem be1_u8 (x:Int):be 1 (lo64 x) = [UInt8.ofNat (u8w x).toNat]:=by
 rw [be1]
 congr 1
 apply UInt8.toNat_inj.1
 rw [zaJ];unfold u8w lo64;rw [IntKind.wrap_u8];simp;omega
theorem putLen_fn (n least low one two:Int) (hb:0 <= n /\ n <= 4611686018427387904) (hl:0 <= low /\ low <= 1000) (hl2:0 <= least /\ least <= 1000):FnV (env T hT) 80 [.d (pI n),.d (pI low),.d (pI least),.d (pI one),.d (pI two)] (.d (pS (msgMany n least low one two))):=by
 have hput:=fun (k:Int) (hk:1 <= k /\ k <= 8) => zh7 (T:=T) (hT:=hT) n k hk (by unfold i64ok; omega)
 refine zaW (zaj zeW) (by show 5 <= 42; decide) fun B hB => ?_
 unfold m_i_putLength;refine mP ?_;refine zak (zab (zak (zaf ?_)));(iterate 2 refine mS ?_);refine po_b rfl rfl (fun b hb1 => ?_);refine mL ?_;refine zaZ (p:=n < least) hb1 rfl (fun h _ => ?_) (fun h _ => ?_)
 ·refine mO ?_
  (iterate 2 refine mS ?_);refine zam (n:=low + n) rfl rfl rfl rfl (by omega) ?_;refine zbb (n:=(u8w (low + n))) rfl rfl rfl ?_;refine zaq (es:=[[.v (.int .u8 (u8w (low + n)))]]) rfl ?_;refine mN ?_;exact zae ⟨.inr rfl,_,rfl,by unfold msgMany; rw [if_pos h,be1_u8]; rfl⟩
 refine zcl (fun s => has s.tm [(0,.d (pI n)),(3,.d (pI one)),(4,.d (pI two))]) ⟨rfl,rfl,rfl,trivial⟩ (fun tm bx nt live ht => ?_);obtain ⟨tm0,rfl⟩:=zac ht;clear ht hb1;refine mQ ?_;by_cases h2:n < 256
 ·refine zah rfl rfl (decide_eq_true h2) ?_
  (iterate 2 refine mS ?_);by_cases h3:one > 0
  ·refine zah rfl rfl (decide_eq_true h3) ?_
   (iterate 2 refine mS ?_);refine zaa ?_;refine mwT ?_
   have hres:msgMany n least low one two = [UInt8.ofNat (u8w one).toNat] ++ be 1 (lo64 n):=by
    unfold msgMany; rw [if_neg h,if_pos ⟨h2,h3⟩,be1_u8]
   refine zak (zbq ?_);refine zao ?_;refine mS ?_;refine zbb (n:=(u8w one)) rfl rfl rfl ?_;refine mL ?_;refine zaz ?_;refine zaA ?_ ?_
   ·refine zaq (es:=[[.v (.int .u8 (u8w one))]]) rfl ?_
    refine zaa ?_;refine zao ?_;refine mL ?_;refine zaz ?_;refine zaA ?_ zay;refine zad rfl (hput 1 (by omega)) ?_;refine zaa ?_;refine zao ?_;refine zax (la:=[UInt8.ofNat (u8w one).toNat]) (lb:=be 1 (lo64 n)) rfl rfl rfl (by rw [zag]; simp) ?_;refine mL ?_;refine zaR ?_;refine zae ⟨.inr rfl,[.d (pS ([UInt8.ofNat (u8w one).toNat] ++ be 1 (lo64 n)))],rfl,?_⟩;rw [hres]; rfl
   ·refine zaA ?_ zay
    refine zad rfl (hput 1 (by omega)) ?_;refine zaa ?_;refine zao ?_;refine zaa ?_;refine zaz ?_;refine zaA ?_ zay;refine zaq (es:=[[.v (.int .u8 (u8w one))]]) rfl ?_;refine zaa ?_;refine zao ?_;refine mS ?_;refine zax (la:=[UInt8.ofNat (u8w one).toNat]) (lb:=be 1 (lo64 n)) rfl rfl rfl (by rw [zag]; simp) ?_;refine mL ?_;refine zaR ?_;refine zae ⟨.inr rfl,[.d (pS ([UInt8.ofNat (u8w one).toNat] ++ be 1 (lo64 n)))],rfl,?_⟩;rw [hres]; rfl
  ·refine zal rfl rfl (decide_eq_false h3) ?_
   (iterate 2 refine mS ?_);refine zaa ?_;refine mwF ?_;refine zai ?_
   have hres:msgMany n least low one two = [UInt8.ofNat (u8w two).toNat] ++ be 2 (lo64 n):=by
    unfold msgMany; rw [if_neg h,if_neg (fun h => h3 h.2),be1_u8]
   refine zak (zbq ?_);refine zao ?_;refine mS ?_;refine zbb (n:=(u8w two)) rfl rfl rfl ?_;refine mL ?_;refine zaz ?_;refine zaA ?_ ?_
   ·refine zaq (es:=[[.v (.int .u8 (u8w two))]]) rfl ?_
    refine zaa ?_;refine zao ?_;refine mL ?_;refine zaz ?_;refine zaA ?_ zay;refine zad rfl (hput 2 (by omega)) ?_;refine zaa ?_;refine zao ?_;refine zax (la:=[UInt8.ofNat (u8w two).toNat]) (lb:=be 2 (lo64 n)) rfl rfl rfl (by rw [zag]; simp) ?_;refine mL ?_;refine zaR ?_;refine zae ⟨.inr rfl,[.d (pS ([UInt8.ofNat (u8w two).toNat] ++ be 2 (lo64 n)))],rfl,?_⟩;rw [hres]; rfl
   ·refine zaA ?_ zay
    refine zad rfl (hput 2 (by omega)) ?_;refine zaa ?_;refine zao ?_;refine zaa ?_;refine zaz ?_;refine zaA ?_ zay;refine zaq (es:=[[.v (.int .u8 (u8w two))]]) rfl ?_;refine zaa ?_;refine zao ?_;refine mS ?_;refine zax (la:=[UInt8.ofNat (u8w two).toNat]) (lb:=be 2 (lo64 n)) rfl rfl rfl (by rw [zag]; simp) ?_;refine mL ?_;refine zaR ?_;refine zae ⟨.inr rfl,[.d (pS ([UInt8.ofNat (u8w two).toNat] ++ be 2 (lo64 n)))],rfl,?_⟩;rw [hres]; rfl
 ·refine zal rfl rfl (decide_eq_false h2) ?_
  refine mS ?_;refine mZ ?_;(iterate 2 refine mS ?_);refine zaa ?_;refine mwF ?_;refine zai ?_
  have hres:msgMany n least low one two = [UInt8.ofNat (u8w two).toNat] ++ be 2 (lo64 n):=by
   unfold msgMany; rw [if_neg h,if_neg (fun h => h2 h.1),be1_u8]
  refine zak (zbq ?_);refine zao ?_;refine mS ?_;refine zbb (n:=(u8w two)) rfl rfl rfl ?_;refine mL ?_;refine zaz ?_;refine zaA ?_ ?_
  ·refine zaq (es:=[[.v (.int .u8 (u8w two))]]) rfl ?_
   refine zaa ?_;refine zao ?_;refine mL ?_;refine zaz ?_;refine zaA ?_ zay;refine zad rfl (hput 2 (by omega)) ?_;refine zaa ?_;refine zao ?_;refine zax (la:=[UInt8.ofNat (u8w two).toNat]) (lb:=be 2 (lo64 n)) rfl rfl rfl (by rw [zag]; simp) ?_;refine mL ?_;refine zaR ?_;refine zae ⟨.inr rfl,[.d (pS ([UInt8.ofNat (u8w two).toNat] ++ be 2 (lo64 n)))],rfl,?_⟩;rw [hres]; rfl
  ·refine zaA ?_ zay
   refine zad rfl (hput 2 (by omega)) ?_;refine zaa ?_;refine zao ?_;refine zaa ?_;refine zaz ?_;refine zaA ?_ zay;refine zaq (es:=[[.v (.int .u8 (u8w two))]]) rfl ?_;refine zaa ?_;refine zao ?_;refine mS ?_;refine zax (la:=[UInt8.ofNat (u8w two).toNat]) (lb:=be 2 (lo64 n)) rfl rfl rfl (by rw [zag]; simp) ?_;refine mL ?_;refine zaR ?_;refine zae ⟨.inr rfl,[.d (pS ([UInt8.ofNat (u8w two).toNat] ++ be 2 (lo64 n)))],rfl,?_⟩;rw [hres]; rfl
end
section
section
variable {P:Program} {NG:Nat} {T:World -> Prop}
theorem zcg {w:World} {ops:Array Oper} {rest:List Oper} {o:Oper} {a:Act} {Q:Exit -> Act -> World -> Prop} (hgd:o.guard = none) (sl x:Operand) (t u:TypeId)
  (ho:o.op = .call { callee:=.builtin .append,args:=#[sl,x],argTypes:=#[t,u] }) (v y v':Value) (w':World) (hs:a.eval sl = v) (hx:a.eval x = y) (hr:(Builtin.append_ #[t,u] o.type #[v,y]).run P w = .ok v' w') (h:wpList P ops Q rest (a.put o.dst v') w'):wpList P ops Q (o :: rest) a w:=by
 refine wpList_plain hgd fun K hK => ?_
 unfold Oper.wp execOp;simp only [ho,resolve,invoke,builtin,Sem.run_bind,Sem.run_pure,Result.andThen_ok,map_toArray,map_cons,map_nil,hs,hx,hr];exact hK _ _ h
theorem Inv.alloc (hL:Low NG T) {C:Cx} {bx:LP PC} {live:Nat -> Prop} {w:World} (h:Inv NG T C bx live w) (o:Obj):Inv NG T C bx live (w.alloc o):=by
 have hold:∀ k,k < w.heap.size -> (w.alloc o).heap[k]? = w.heap[k]?:=fun k hk => heap_alloc_old w o hk
 have hfix:=zc8 h.fin o;have hs:w.heap.size <= (w.alloc o).heap.size:=by simp
 refine ⟨h.nb,fun p cs hp => ?_,h.boxF,h.boxG,h.inj,fun t ht => ?_,h.tinj,fun b o' hF => Nat.lt_of_lt_of_le (h.fin b o' hF) hs,Nat.le_trans h.ng hs,hL w _ h.t hs fun k hk => hold k (Nat.lt_of_lt_of_le hk h.ng)⟩
 ·obtain ⟨vs,e,h1,h2⟩:=h.box p cs hp
  exact ⟨vs,e,(hold _ (zaN h1)).trans h1,h2.frame (CxLe.refl C) hfix⟩
 ·obtain ⟨a1,a2,a3⟩:=h.tok t ht
  refine ⟨a1,a2,a3.imp id ?_⟩;rintro ⟨b,cur,e,c1,c2,c3,c4⟩;exact ⟨b,cur,e,c1,c2,(hold _ (zaN c3)).trans c3,c4⟩
theorem Inv.drewn (hL:Low NG T) {C:Cx} {bx:LP PC} {live:Nat -> Prop} {w:World} (h:Inv NG T C bx live w) (n:Nat):Inv NG T C bx live { w with drawn:=n } /\ Fix C w { w with drawn:=n }:=by
 have hF:Fix C w { w with drawn:=n }:=⟨fun _ _ _ => rfl,fun _ _ cs fz h => ⟨cs,fz,h⟩⟩;refine ⟨⟨h.nb,fun p cs hp => ?_,h.boxF,h.boxG,h.inj,h.tok,h.tinj,h.fin,h.ng,hL w _ h.t lR (fun _ _ => rfl)⟩,hF⟩;obtain ⟨vs,e,hh,hl⟩:=h.box p cs hp;exact ⟨vs,e,hh,hl.frame (CxLe.refl C) hF⟩
theorem Ext.start {C:Cx} {bx:LP PC} {live:List Nat} {w:World} (h:Inv NG T C bx (· ∈ live) w) (hold:C.old = (· ∈ live)):Ext C w C bx.length (· ∈ live) w :=
 ⟨rfl,rfl,rfl,lR,fun _ _ h => h,Fix.refl C w,fun _ _ _ _ => rfl,⟨lR,fun _ _ => rfl⟩,fun _ _ h => .inl h,(fun t b ht hb => .inr ⟨t,by rw [hold]; exact ht,hb⟩),(fun p hp hp2 => by have h1:=h.nb; omega),⟨lR,fun _ _ => ⟨rfl,rfl,rfl,rfl⟩⟩⟩
theorem set_self {bx:LP PC} {p:Nat} {cs:List PC} (h:bx[p]? = some cs):bx.set p cs = bx:=by
 apply ext_getElem?
 intro q;by_cases hq:p = q
 ·subst hq
  have hlt:p < bx.length:=by
   rcases Nat.lt_or_ge p bx.length with h' | h'
   ·exact h'
   ·rw [getElem?_eq_none h'] at h; cases h
  rw [getElem?_set_self hlt,h]
 ·rw [getElem?_set_ne hq]
theorem zh8 {C:Cx} {bx:LP PC} {live:Nat -> Prop} {w:World} (hI:Inv NG T C bx live w) {p t:Nat} {TT U:TypeId} {es:LP PC} (hp:bx[p]? = some [.bld p TT t U,.sl t es]) :
  ∃ v0 v1,w.heap[C.bx p]? = some (.cells #[v0,v1] TT (0,0)) /\ (v0 = .pointer none \/ v0 = .pointer (some ⟨C.bx p,0,none⟩)) /\ RpC C w (.sl t es) v1 /\ (t = 1 \/ 2 <= t /\ t < C.nt /\ ∀ b,C.tk t = some b -> ∃ cs fz,w.heap[b]? = some (.cells cs U fz)):=by
 obtain ⟨vs,e,hh,hl⟩:=hI.box p _ hp;obtain ⟨v0,vr,rfl,h0,h1⟩:=hl.inv1;obtain ⟨v1,vr,rfl,k1,k2⟩:=h1.inv1
 obtain rfl:=k2.inv0
 cases h0 with
 | bld _ _ _ _ _ h cs fz ht hv hU =>
  rw [ht] at hh;simp only [sI,Obj.cells.injEq] at hh;obtain ⟨rfl,rfl,rfl⟩:=hh;exact ⟨v0,v1,ht,hv,k1,hU⟩
theorem Inv.froze (hL:Low NG T) {C:Cx} {bx:LP PC} {live:List Nat} {w:World} (h:Inv NG T C bx (· ∈ live) w) {t g n:Nat} (ht:t ∈ live) (hg:C.tk t = some g) :
  Inv NG T C bx (· ∈ live.filter (· != t)) (w.freeze ⟨g,0,none⟩ n) /\ Fix C w (w.freeze ⟨g,0,none⟩ n) /\ (w.freeze ⟨g,0,none⟩ n).os = w.os /\ (w.freeze ⟨g,0,none⟩ n).tape = w.tape /\ (w.freeze ⟨g,0,none⟩ n).output = w.output /\ (w.freeze ⟨g,0,none⟩ n).heap.size = w.heap.size /\ ∀ k,k ≠ g -> (w.freeze ⟨g,0,none⟩ n).heap[k]? = w.heap[k]?:=by
 obtain ⟨_,_,⟨z,_⟩ | ⟨g',cur,e,c1,c2,c3,c4,c5,c6,c7,c8,c9,c10⟩⟩:=h.tok t ht
 ·rw [hg] at z; cases z
 rw [hg] at c1; simp only [sI] at c1; subst c1
 have other:∀ k,k ≠ g -> (w.freeze ⟨g,0,none⟩ n).heap[k]? = w.heap[k]?:=by
  intro k hk;have hk':g ≠ k:=fun h => hk h.symm
  unfold World.freeze;split
  ·rfl
  ·simp [Array.getElem?_modify,hk']
 have hat:∃ fz,(w.freeze ⟨g,0,none⟩ n).heap[g]? = some (.cells cur e fz):=by
  unfold World.freeze;split
  ·exact ⟨_,c3⟩
  ·simp [Array.getElem?_modify,c3]
 obtain ⟨fz0,hat⟩:=hat
 have hcell:∀ b o,(w.freeze ⟨g,0,none⟩ n).cell? ⟨b,o,none⟩ = w.cell? ⟨b,o,none⟩:=by
  intro b o;by_cases hb:b = g
  ·subst hb; simp [World.cell?,hat,c3]
  ·exact World.cell?_of_block (a:=⟨b,o,none⟩) (other b hb)
 have hs:(w.freeze ⟨g,0,none⟩ n).heap.size = w.heap.size:=by
  unfold World.freeze; split <;> simp
 have o1:(w.freeze ⟨g,0,none⟩ n).os = w.os:=by unfold World.freeze; split <;> rfl
 have o2:(w.freeze ⟨g,0,none⟩ n).tape = w.tape:=by unfold World.freeze; split <;> rfl
 have o3:(w.freeze ⟨g,0,none⟩ n).output = w.output:=by unfold World.freeze; split <;> rfl
 have hF:Fix C w (w.freeze ⟨g,0,none⟩ n):=⟨fun b o _ => hcell b o,fun k T cs fz hh => by
  by_cases hk:k = g
  ·subst hk; rw [c3] at hh; simp only [sI,Obj.cells.injEq] at hh; obtain ⟨_,rfl,_⟩:=hh; exact ⟨_,_,hat⟩
  ·exact ⟨cs,fz,(other k hk).trans hh⟩⟩
 refine ⟨⟨h.nb,fun p cs hp => ?_,h.boxF,h.boxG,h.inj,fun s hs' => ?_,fun a b c ha hb => h.tinj a b c (mem_filter.1 ha).1 (mem_filter.1 hb).1,by rw [hs]; exact h.fin,by rw [hs]; exact h.ng,hL w _ h.t (by rw [hs]; exact lR) fun k hk => other k (by omega)⟩,hF,o1,o2,o3,hs,other⟩
 ·obtain ⟨vs,e',h1,h2⟩:=h.box p cs hp
  have hlt:p < bx.length:=by
   rcases Nat.lt_or_ge p bx.length with h' | h'
   ·exact h'
   ·rw [getElem?_eq_none h'] at hp; cases hp
  exact ⟨vs,e',(other _ (c10 p hlt)).trans h1,h2.frame (CxLe.refl C) hF⟩
 ·obtain ⟨m1,m2⟩:=mem_filter.1 hs'
  obtain ⟨a1,a2,a3⟩:=h.tok s m1;refine ⟨a1,a2,a3.imp id ?_⟩;rintro ⟨b,cur',e',d1,d2,d3,d4⟩;refine ⟨b,cur',e',d1,d2,(other b fun hb => ?_).trans d3,d4⟩;subst hb
  have:=h.tinj s t b m1 ht d1 hg
  subst this; simp at m2
end
end
section
theorem sizeBld:(Tryz.prog.info? 80).map (·.size) = some 2:=by kernel_rfl
theorem liesBld:liesAt Tryz.prog Tryz.prog.depth 80 (2 / Tryz.prog.cellsOf 80) 0 80 1 = true:=by kernel_rfl
theorem zhd:(Tryz.prog.info? 5).map (fun i => (i.zero,i.size,i.bytes)) = some (some (.int .u8 0),1,1):=by kernel_rfl
theorem zeX (b:Nat) (w:World) (h0:w.cell? ⟨b,0,none⟩ = some (.pointer (some ⟨b,0,none⟩))) :
  Calls Tryz.prog 76 #[.pointer (some ⟨b,0,none⟩)] w fun e w' => e = .returned (.tuple #[]) /\ w' = w:=by
 obtain ⟨j,hj,_⟩:=Option.map_eq_some_iff.1 sizeBld
 go_enter Tryz.func76,Tryz.ntmps76
 go_wp2;rw [Lib.run_neq_ptr_same w _ Tryz.underlying78 hj];go_wp2
 go_end0
 exact ⟨rfl,rfl⟩
theorem zeJ (b:Nat) (w:World) (h0:w.cell? ⟨b,0,none⟩ = some (.pointer none)) (hsh:w.shape? b = some (80,2)) (hfz:w.frozen? ⟨b,0,none⟩ = false) :
  Calls Tryz.prog 76 #[.pointer (some ⟨b,0,none⟩)] w fun e w' => e = .returned (.tuple #[]) /\ w' = w.setCell ⟨b,0,none⟩ (.pointer (some ⟨b,0,none⟩)):=by
 obtain ⟨j,hj,hjs⟩:=Option.map_eq_some_iff.1 sizeBld
 go_enter Tryz.func76,Tryz.ntmps76
 go_wp2;rw [Lib.run_to_unsafe w ⟨b,0,none⟩ Tryz.underlying78 Tryz.underlying137 hj (by rw [hjs]; decide) hsh (Nat.zero_lt_succ 1)];simp only [Result.andThen];rw [Oper.upon_value];go_wp2;rw [run_callFunc_extern Tryz.func112 (by kernel_rfl) (by kernel_rfl) (by kernel_rfl) (e:=Extern.AbiNoEscape.same) (by kernel_rfl)];rw [Lib.run_noEscape];simp only [Result.andThen];rw [Oper.upon_value];go_wp2;rw [Lib.run_from_unsafe w ⟨b,0,none⟩ Tryz.underlying137 Tryz.underlying78 hj hsh liesBld];simp only [Result.andThen];rw [Oper.upon_value];go_wp2
 go_end0
 exact ⟨rfl,rfl⟩
end
section
variable {T:World -> Prop} {hT:Low ngl T}
def bldC (p t:Nat) (l:L8):List PC:=[.bld p 80 t 5,.sl t (pcB l)]
def CcP (C:Cx) (w:World) (bx:LP PC) (live:List Nat) (T:World -> Prop) (b:Nat) (v1:Value) (w':World):Prop :=
 Inv ngl T C bx (· ∈ live) w' /\ Fix C w w' /\ w'.os = w.os /\ w'.tape = w.tape /\ w'.output = w.output /\ w'.heap.size = w.heap.size /\ (∀ k,k ≠ b -> w'.heap[k]? = w.heap[k]?) /\ w'.heap[b]? = some (.cells #[.pointer (some ⟨b,0,none⟩),v1] 80 (0,0))
theorem ccheck {C:Cx} {bx:LP PC} {live:List Nat} {w:World} (hI:Inv ngl T C bx (· ∈ live) w) {p t:Nat} {l:L8} (hp:bx[p]? = some (bldC p t l)) (hL:Low ngl T) :
  ∃ v1,Calls Tryz.prog 76 #[.pointer (some ⟨C.bx p,0,none⟩)] w (fun e w' => e = .returned (.tuple #[]) /\ CcP C w bx live T (C.bx p) v1 w') /\ RpC C w (.sl t (pcB l)) v1:=by
 obtain ⟨v0,v1,hh,hv,h1,hU⟩:=zh8 hI hp
 have hlt:p < bx.length:=by
  rcases Nat.lt_or_ge p bx.length with h' | h'
  ·exact h'
  ·rw [getElem?_eq_none h'] at hp; cases hp
 have c0:w.cell? ⟨C.bx p,0,none⟩ = some v0:=by rw [Lib.cell_of_heap hh]; rfl
 refine ⟨v1,?_,h1⟩
 rcases hv with rfl | rfl
 ·refine (zeJ (C.bx p) w c0 (by simp [World.shape?,hh]) (Lib.frozen_of_heap hh 0)).mono ?_
  rintro e w' ⟨rfl,rfl⟩
  have hnew:(w.setCell ⟨C.bx p,0,none⟩ (.pointer (some ⟨C.bx p,0,none⟩))).heap[C.bx p]? = some (.cells #[.pointer (some ⟨C.bx p,0,none⟩),v1] 80 (0,0)):=by
   simp [World.setCell,Array.getElem?_modify,hh]
  have hother:∀ k,k ≠ C.bx p -> (w.setCell ⟨C.bx p,0,none⟩ (.pointer (some ⟨C.bx p,0,none⟩))).heap[k]? = w.heap[k]?:=by
   intro k hk;have hk':C.bx p ≠ k:=fun h => hk h.symm
   simp [World.setCell,Array.getElem?_modify,hk']
  have hsz:w.heap.size = (w.setCell ⟨C.bx p,0,none⟩ (.pointer (some ⟨C.bx p,0,none⟩))).heap.size:=by simp [World.setCell]
  obtain ⟨k1,k2⟩:=hI.write hL hlt (us:=[.pointer (some ⟨C.bx p,0,none⟩),v1]) (cs:=bldC p t l) (e:=80) hnew (.cons (.bld _ _ _ _ _ (by rw [hI.nb]; exact hlt) _ _ hh (.inr rfl) hU) (.cons h1 .nil)) (fun T cs0 h0 => by rw [hh] at h0; simp only [sI,Obj.cells.injEq] at h0; exact h0.2.1) hsz hother;rw [set_self hp] at k1;exact ⟨rfl,⟨k1,k2,rfl,rfl,rfl,hsz.symm,hother,hnew⟩⟩
 ·refine (zeX (C.bx p) w c0).mono ?_
  rintro e w' ⟨rfl,rfl⟩;exact ⟨rfl,⟨hI,Fix.refl _ _,rfl,rfl,rfl,rfl,fun _ _ => rfl,hh⟩⟩
def WrP (C:Cx) (w:World) (bx:LP PC) (live:List Nat) (T:World -> Prop) (p t:Nat) (l:L8) (w':World):Prop :=
 ∃ C',Inv ngl T C' (bx.set p (bldC p C.nt l)) (· ∈ C.nt :: live.filter (· != t)) w' /\ C'.nt = C.nt + 1 /\ Ext C w C' (bx.set p (bldC p C.nt l)).length (· ∈ C.nt :: live.filter (· != t)) w'
theorem bld_done (hL:Low ngl T) {C:Cx} {bx:LP PC} {live:List Nat} {w w1 w2 w':World} (hI:Inv ngl T C bx (· ∈ live) w1) (hE:Ext C w C bx.length (· ∈ live) w1) (hn2:2 <= C.nt) {p t:Nat} {l l':L8} (hp:bx[p]? = some (bldC p t l)) {u self:Value} {g:Option Nat} {cap:Nat}
  (k2:Inv ngl T (C.tok g cap (pcB l').length 1) bx (· ∈ C.nt :: live.filter (· != t)) w2) (k3:Fix C w1 w2) (k4:RpC (C.tok g cap (pcB l').length 1) w2 (.sl C.nt (pcB l')) u) (k5:w2.os = w1.os) (k6:w2.tape = w1.tape) (k7:w2.output = w1.output) (k8:w1.heap.size <= w2.heap.size)
  (k9:∀ k,k < w1.heap.size -> g ≠ some k -> w2.heap[k]? = w1.heap[k]?) (k10:∀ b,g = some b -> (w1.heap.size <= b /\ ∃ cs,w2.heap[b]? = some (.cells cs 5 (0,0))) \/ (t ∈ live /\ C.tk t = some b))
  (hs:self = .pointer (some ⟨C.bx p,0,none⟩)) (hw2:∃ v1,w2.heap[C.bx p]? = some (.cells #[self,v1] 80 (0,0)))
  (hw:w' = w2.setCell ⟨C.bx p,1,none⟩ u):WrP C w bx live T p t l' w':=by
 obtain ⟨v1,hw2⟩:=hw2;subst hw
 have hlt:p < bx.length:=by
  rcases Nat.lt_or_ge p bx.length with h' | h'
  ·exact h'
  ·rw [getElem?_eq_none h'] at hp; cases hp
 have hbx:(C.tok g cap (pcB l').length 1).bx p = C.bx p:=rfl
 have hnew:(w2.setCell ⟨C.bx p,1,none⟩ u).heap[C.bx p]? = some (.cells #[self,u] 80 (0,0)):=by
  simp [World.setCell,Array.getElem?_modify,hw2]
 have hother:∀ k,k ≠ C.bx p -> (w2.setCell ⟨C.bx p,1,none⟩ u).heap[k]? = w2.heap[k]?:=by
  intro k hk;have hk':C.bx p ≠ k:=fun h => hk h.symm
  simp [World.setCell,Array.getElem?_modify,hk']
 have hsz:w2.heap.size = (w2.setCell ⟨C.bx p,1,none⟩ u).heap.size:=by simp [World.setCell]
 obtain ⟨v0',v1',hh1,_,_,hU⟩:=zh8 hI hp;have htok:=(Cx.tok_new C g cap (pcB l').length 1).1
 have hgw:∀ b,g = some b -> w.heap.size <= b \/ ∃ s,C.old s /\ C.tk s = some b:=by
  intro b hb
  rcases k10 b hb with ⟨h,_⟩ | ⟨h,h'⟩
  ·have:=hE.size; exact .inl (by omega)
  ·exact hE.newT t b h h'
 obtain ⟨q1,q2⟩:=k2.write hL hlt (us:=[self,u]) (cs:=bldC p C.nt l') (e:=80) hnew (.cons (.bld _ _ _ _ _ (by show p < C.nb; rw [hI.nb]; exact hlt) _ _ hw2 (.inr hs) (.inr ⟨hn2,by simp [Cx.tok],fun b hb => by
   rw [htok] at hb
   rcases k10 b hb with ⟨_,cs,h⟩ | ⟨h,h'⟩
   ·exact ⟨cs,_,h⟩
   ·rcases hU with rfl | ⟨_,_,h3⟩
    ·have:=(hI.tok 1 h).1; omega
    ·obtain ⟨cs,fz,h4⟩:=h3 b h'
     exact k3.2 _ _ _ _ h4⟩)) (.cons k4 .nil)) (fun T cs0 h0 => by rw [hbx,hw2] at h0; simp only [sI,Obj.cells.injEq] at h0; exact h0.2.1) hsz hother
 refine ⟨_,q1,by simp [Cx.tok],?_⟩
 have hE2:Ext C w (C.tok g cap (pcB l').length 1) bx.length (· ∈ C.nt :: live.filter (· != t)) w2:=by
  refine hE.step (Cx.tok_le _ _ _ _ _) k3 k5 k6 k7 k8 (fun k hk _ ho => k9 k (by have:=hE.size; omega) (fun hgk => by
   rcases hgw k hgk with h | ⟨t,h1,h2⟩
   ·omega
   ·exact ho t h1 h2)) ?_ ?_ (fun p hp hp2 => hE.newB p hp hp2)
  ·rintro b o (hb | ⟨hb,_⟩)
   ·exact .inl hb
   ·exact .inr (hgw b hb)
  ·intro s b htl hb
   simp only [mem_cons,mem_filter] at htl;by_cases htn:s = C.nt
   ·subst htn; rw [htok] at hb; exact hgw b hb
   ·have hm:s ∈ live:=(htl.resolve_left htn).1
    rw [((Cx.tok_le C _ _ _ _).tk s (hI.tok s hm).2.1).1] at hb; exact hE.newT s b hm hb
 have hE3:=hE2.step (C':=C.tok g cap (pcB l').length 1) (nb':=bx.length) (live':=(· ∈ C.nt :: live.filter (· != t))) (CxLe.refl _) q2 rfl rfl rfl (by omega) (fun k hk hne _ => hother k fun hkp => hne p (by rw [hI.nb]; exact hlt) hkp.symm) (fun b o x => .inl x) hE2.newT hE2.newB;rw [length_set]; exact hE3
theorem zby {bx:LP PC} {nt p t:Nat} {live:List Nat} {l:L8} (s:L8) (hp:bx[p]? = some (bldC p t l)) (ht:t = 1 \/ t ∈ live) (hlen:l.length + s.length <= 4294967296) :
  FnG (env T hT) 47 [.ref p 0,.d (pS s)] bx nt live (fun _ bx' nt' live' => bx' = bx.set p (bldC p nt (l ++ s)) /\ nt' = nt + 1 /\ live' = nt :: live.filter (· != t)):=by
 intro C w vs hI hnt hold hn2 hl hv
 match vs,hl with
 | [a0,a1],_ =>
  have g0:=hv 0 _ _ rfl rfl; have g1:=hv 1 _ _ rfl rfl
  have e1:a1 = .string ⟨s.toArray⟩:=by
   cases g1 with
   | d _ _ h => cases h; rfl
  have e0:a0 = .pointer (some ⟨C.bx p,0,none⟩):=by
   cases g0; rfl
  subst e0; subst e1
  obtain ⟨i0,hi,hz0,hz1,hz2⟩:=info_parts zhd;obtain ⟨v1,hc,hr1⟩:=ccheck hI hp hT;have HC:=Lib.hid hc; clear hc
  have hE0:=Ext.start hI hold
  have HF:=Lib.hid (fun w' (h:WrP C w bx live T p t (l ++ s) w') => show ∃ u x bx' nt' live' C',Ending.returned (.tuple #[.int .i64 s.length,.nilIface]) = .returned u /\ (bx' = bx.set p (bldC p nt (l ++ s)) /\ nt' = nt + 1 /\ live' = nt :: live.filter (· != t)) /\ Inv ngl T C' bx' (· ∈ live') w' /\ C'.nt = nt' /\ Ext C w C' bx'.length (· ∈ live') w' /\ RpV C' w' x u by
   obtain ⟨C',h1,h2,h3⟩:=h;rw [hnt] at h1 h2 h3;exact ⟨_,.raw _,_,_,_,C',rfl,⟨rfl,rfl,rfl⟩,h1,h2,h3,.raw _⟩)
  have HD:=Lib.hid (fun w1 w2 w' u self g cap hI1 hE1 => bld_done (C:=C) (w:=w) (w1:=w1) (w2:=w2) (w':=w') (u:=u) (self:=self) (g:=g) (cap:=cap) (l:=l) (l':=l ++ s) (bx:=bx) (live:=live) hT hI1 hE1 (by omega) hp);obtain ⟨b,hb⟩:∃ b,b = C.bx p:=⟨_,rfl⟩;rw [<- hb] at HC HD ⊢;have HB:=Lib.hid hb; clear hb
  show Calls Tryz.prog 47 #[.pointer (some ⟨b,0,none⟩),.string ⟨s.toArray⟩] w _
  go_enter Tryz.func47,Tryz.ntmps47
  go_wp2_with (go_at_call 76; refine HC.out.mono ?_)
  rintro e1 w1 rfl ⟨hI1,hF1,o1,o2,o3,o4,o5,hbk⟩;have hE1:Ext C w C bx.length (· ∈ live) w1:=hE0.step (CxLe.refl C) hF1 o1 o2 o3 (by omega) (fun k _ hne _ => o5 k fun h => hne p (by rw [hI.nb]; rcases Nat.lt_or_ge p bx.length with h' | h'; exact h'; rw [getElem?_eq_none h'] at hp; cases hp) (by rw [h]; exact HB.out.symm)) (fun b o x => .inl x) hE0.newT hE0.newB;have c0:w1.cell? ⟨b,0,none⟩ = some (.pointer (some ⟨b,0,none⟩)):=by rw [Lib.cell_of_heap hbk]; rfl
  have c1:w1.cell? ⟨b,1,none⟩ = some v1:=by rw [Lib.cell_of_heap hbk]; rfl
  obtain ⟨u,w2,g,cap,k1,k2,k3,k4,k5,k6,k7,k8,k9,k10⟩:=apps_run (P:=Tryz.prog) hT hI1 (by omega) (t:=22) (t':=9) (e:=5) (i:=i0) Tryz.underlying22 Tryz.underlying9 hi hz0 hz1 hz2 (hr1.frame (CxLe.refl C) hF1) ht s (by rw [za5]; exact hlen) (zb6 l) 22;have hcat:pcB l ++ pcB s = pcB (l ++ s):=by simp [pcB]
  rw [hcat] at k2 k4
  have hne:g ≠ some b:=fun h => by
   rcases k10 b h with ⟨h1,_⟩ | ⟨h1,h2⟩
   ·have:=zaN hbk; omega
   ·obtain ⟨_,_,⟨z,_⟩ | ⟨b',cur,e',d1,_,d3,_,_,_,_,_,_,d9⟩⟩:=hI1.tok t h1
    ·rw [z] at h2; cases h2
    ·rw [h2] at d1; simp only [sI] at d1; subst d1
     exact d9 p (by rcases Nat.lt_or_ge p bx.length with h' | h'; exact h'; rw [getElem?_eq_none h'] at hp; cases hp) HB.out.symm
  have hb2:w2.heap[b]? = some (.cells #[.pointer (some ⟨b,0,none⟩),v1] 80 (0,0)):=(k9 b (zaN hbk) hne).trans hbk;have HW:=Lib.hid (HD.out w1 _ _ _ _ _ _ hI1 hE1 k2 k3 k4 k5 k6 k7 k8 k9 k10 rfl ⟨v1,hb2⟩ rfl);have d0:w2.cell? ⟨b,0,none⟩ = some (.pointer (some ⟨b,0,none⟩)):=by rw [Lib.cell_of_heap hb2]; rfl
  have d1:w2.cell? ⟨b,1,none⟩ = some v1:=by rw [Lib.cell_of_heap hb2]; rfl
  have f1:w2.frozen? ⟨b,1,none⟩ = false:=Lib.frozen_of_heap hb2 1;obtain ⟨ao,cp,rfl,_⟩:=sl_form k4;clear k2 k3 k4 k5 k6 k7 k8 k9 k10 hI hI1 hE0 hE1 hF1 HD o1 o2 o3 o4 o5 hr1
  go_wp2_with (at_builtin; refine zcg rfl _ _ 22 9 rfl _ _ _ _ rfl rfl k1 ?_)
  go_wp2
  go_ret2
  exact HF.out _ HW.out
theorem zf0 {bx:LP PC} {nt p t:Nat} {live:List Nat} {l:L8} (s:UInt8) (hp:bx[p]? = some (bldC p t l)) (ht:t = 1 \/ t ∈ live) (hlen:l.length + 1 <= 4294967296) :
  FnG (env T hT) 78 [.ref p 0,.d (.v (.int .u8 s.toNat))] bx nt live (fun _ bx' nt' live' => bx' = bx.set p (bldC p nt (l ++ [s])) /\ nt' = nt + 1 /\ live' = nt :: live.filter (· != t)):=by
 intro C w vs hI hnt hold hn2 hl hv
 match vs,hl with
 | [a0,a1],_ =>
  have g0:=hv 0 _ _ rfl rfl; have g1:=hv 1 _ _ rfl rfl
  have e1:a1 = .int .u8 s.toNat:=by
   cases g1 with
   | d _ _ h => cases h; rfl
  have e0:a0 = .pointer (some ⟨C.bx p,0,none⟩):=by
   cases g0; rfl
  subst e0; subst e1
  obtain ⟨i0,hi,hz0,hz1,hz2⟩:=info_parts zhd;obtain ⟨v1,hc,hr1⟩:=ccheck hI hp hT;have HC:=Lib.hid hc; clear hc
  have hE0:=Ext.start hI hold
  have HF:=Lib.hid (fun w' (h:WrP C w bx live T p t (l ++ [s]) w') => show ∃ u x bx' nt' live' C',Ending.returned (.nilIface) = .returned u /\ (bx' = bx.set p (bldC p nt (l ++ [s])) /\ nt' = nt + 1 /\ live' = nt :: live.filter (· != t)) /\ Inv ngl T C' bx' (· ∈ live') w' /\ C'.nt = nt' /\ Ext C w C' bx'.length (· ∈ live') w' /\ RpV C' w' x u by
   obtain ⟨C',h1,h2,h3⟩:=h;rw [hnt] at h1 h2 h3;exact ⟨_,.raw _,_,_,_,C',rfl,⟨rfl,rfl,rfl⟩,h1,h2,h3,.raw _⟩)
  have HD:=Lib.hid (fun w1 w2 w' u self g cap hI1 hE1 => bld_done (C:=C) (w:=w) (w1:=w1) (w2:=w2) (w':=w') (u:=u) (self:=self) (g:=g) (cap:=cap) (l:=l) (l':=l ++ [s]) (bx:=bx) (live:=live) hT hI1 hE1 (by omega) hp);obtain ⟨b,hb⟩:∃ b,b = C.bx p:=⟨_,rfl⟩;rw [<- hb] at HC HD ⊢;have HB:=Lib.hid hb; clear hb
  show Calls Tryz.prog 78 #[.pointer (some ⟨b,0,none⟩),.int .u8 s.toNat] w _
  go_enter Tryz.func78,Tryz.ntmps78
  go_wp2_with (go_at_call 76; refine HC.out.mono ?_)
  rintro e1 w0 rfl ⟨hI1,hF1,o1,o2,o3,o4,o5,hbk⟩
  have hplt:p < bx.length:=by
   rcases Nat.lt_or_ge p bx.length with h' | h'
   ·exact h'
   ·rw [getElem?_eq_none h'] at hp; cases hp
  have hE1:Ext C w C bx.length (· ∈ live) w0:=hE0.step (CxLe.refl C) hF1 o1 o2 o3 (by omega) (fun k _ hne _ => o5 k fun h => hne p (by rw [hI.nb]; exact hplt) (by rw [h]; exact HB.out.symm)) (fun b o x => .inl x) hE0.newT hE0.newB;obtain ⟨w1,hw1⟩:∃ w1,w1 = w0.alloc (.cells #[.int .u8 s.toNat] 5):=⟨_,rfl⟩;have hI2:Inv ngl T C bx (· ∈ live) w1:=by rw [hw1]; exact hI1.alloc hT _
  have hF2:Fix C w0 w1:=by rw [hw1]; exact zc8 hI1.fin _
  have hE2:Ext C w C bx.length (· ∈ live) w1:=hE1.step (CxLe.refl C) hF2 (by rw [hw1]; rfl) (by rw [hw1]; rfl) (by rw [hw1]; rfl) (by rw [hw1]; simp) (fun k hk _ _ => by rw [hw1]; exact heap_alloc_old w0 _ (by have:=hE1.size; omega)) (fun b o x => .inl x) hE1.newT hE1.newB;have hcell:w1.cell? ⟨w0.heap.size,0,none⟩ = some (.int .u8 s.toNat):=by rw [hw1,Lib.cell_of_heap (za1 w0 _)]; rfl
  have hbk1:w1.heap[b]? = some (.cells #[.pointer (some ⟨b,0,none⟩),v1] 80 (0,0)):=by rw [hw1]; exact (heap_alloc_old w0 _ (zaN hbk)).trans hbk
  have c0:w1.cell? ⟨b,0,none⟩ = some (.pointer (some ⟨b,0,none⟩)):=by rw [Lib.cell_of_heap hbk1]; rfl
  have c1:w1.cell? ⟨b,1,none⟩ = some v1:=by rw [Lib.cell_of_heap hbk1]; rfl
  have c2:w0.cell? ⟨b,1,none⟩ = some v1:=by rw [Lib.cell_of_heap hbk]; rfl
  obtain ⟨u,w2,g,cap,k1,k2,k3,k4,k5,k6,k7,k8,k9,k10⟩:=appc_run (P:=Tryz.prog) hT hI2 (by omega) (t:=22) (e:=5) (i:=i0) Tryz.underlying22 hi hz0 hz1 hz2 ((hr1.frame (CxLe.refl C) hF1).frame (CxLe.refl C) hF2) ht s (cy:=1) hcell (by rw [za5]; exact hlen) (zb6 l) 22;have hcat:pcB l ++ pcB [s] = pcB (l ++ [s]):=by simp [pcB]
  rw [hcat] at k2 k4
  have hne:g ≠ some b:=fun h => by
   rcases k10 b h with ⟨h1,_⟩ | ⟨h1,h2⟩
   ·have:=zaN hbk1; omega
   ·obtain ⟨_,_,⟨z,_⟩ | ⟨b',cur,e',d1,_,d3,_,_,_,_,_,_,d9⟩⟩:=hI2.tok t h1
    ·rw [z] at h2; cases h2
    ·rw [h2] at d1; simp only [sI] at d1; subst d1
     exact d9 p hplt HB.out.symm
  have hb2:w2.heap[b]? = some (.cells #[.pointer (some ⟨b,0,none⟩),v1] 80 (0,0)):=(k9 b (zaN hbk1) hne).trans hbk1;have HW:=Lib.hid (HD.out w1 _ _ _ _ _ _ hI2 hE2 k2 k3 k4 k5 k6 k7 k8 k9 k10 rfl ⟨v1,hb2⟩ rfl);have d0:w2.cell? ⟨b,0,none⟩ = some (.pointer (some ⟨b,0,none⟩)):=by rw [Lib.cell_of_heap hb2]; rfl
  have d1:w2.cell? ⟨b,1,none⟩ = some v1:=by rw [Lib.cell_of_heap hb2]; rfl
  have f1:w2.frozen? ⟨b,1,none⟩ = false:=Lib.frozen_of_heap hb2 1;obtain ⟨ao,cp,rfl,_⟩:=sl_form k4;clear k2 k3 k4 k5 k6 k7 k8 k9 k10 hI hI1 hI2 hE0 hE1 hE2 hF1 hF2 HD o1 o2 o3 o4 o5 hr1;subst hw1
  go_wp2_with (at_builtin; refine zcg rfl _ _ 22 22 rfl _ _ _ _ rfl rfl k1 ?_)
  go_wp2;go_ret;exact HF.out _ HW.out
theorem cellsByteB:(Tryz.prog.cellsOf 5) = 1:=by kernel_rfl
theorem bstr_fn {bx:LP PC} {nt p t:Nat} {live:List Nat} {l:L8} (hl0:l ≠ []) (hp:bx[p]? = some (bldC p t l)) (ht:t = 1 \/ t ∈ live) :
  FnG (env T hT) 50 [.ref p 0] bx nt live (fun x bx' nt' live' => x = .d (pS l) /\ bx' = bx /\ nt' = nt /\ live' = live.filter (· != t)):=by
 intro C w vs hI hnt hold hn2 hl hv
 match vs,hl with
 | [a0],_ =>
  have g0:=hv 0 _ _ rfl rfl
  have e0:a0 = .pointer (some ⟨C.bx p,0,none⟩):=by
   cases g0; rfl
  subst e0;obtain ⟨v0,v1,hh,hv0,h1,hU⟩:=zh8 hI hp;have hE0:=Ext.start hI hold;have hne:pcB l ≠ []:=by simpa [pcB] using hl0
  have hpl:0 < l.length:=by cases l with | nil => exact absurd rfl hl0 | cons => simp
  obtain ⟨g,cap,cur,rfl,htl,htk,hg,hcp,hcm,hcs,hcell⟩:∃ g cap cur,v1 = .slice (some ⟨g,0,none⟩) l.length cap /\ t ∈ live /\ C.tk t = some g /\ w.heap[g]? = some (.cells cur 5 (0,0)) /\ l.length <= cap /\ cap <= maxLen /\ l.length <= cur.size /\ ∀ j x,l[j]? = some x -> w.cell? ((⟨g,0,none⟩:Addr).add j) = some (.int .u8 x.toNat):=by
   generalize hes:pcB l = es at h1 hne
   cases h1 with
   | emp => exact absurd rfl hne
   | nil => exact absurd rfl hne
   | nilo => exact absurd rfl hne
   | rd es b o n c u hl hc hr h =>
    rcases ht with h0 | h0
    ·cases h0
    ·have:=(hI.tok 0 h0).1; omega
   | own t es b u h2 hlt hb hlen hcl hc hr h =>
    have htl:t ∈ live:=ht.resolve_left (by omega);subst hes;obtain ⟨_,_,⟨z,_⟩ | ⟨b',cur,e',d1,_,d3,d4,d5,d6,d7,_,_,_⟩⟩:=hI.tok t htl
    ·rw [hb] at z; cases z
    rw [hb] at d1; simp only [sI] at d1; subst d1
    obtain ⟨_,_,h3⟩:=hU.resolve_left (by omega);obtain ⟨cs,fz,h4⟩:=h3 b hb;rw [d3] at h4; simp only [sI,Obj.cells.injEq] at h4
    obtain ⟨_,rfl,_⟩:=h4
    have hn1:C.tn t = 1:=by
     obtain ⟨d,hd⟩:=exists_mem_of_ne_nil _ hne;rw [<- hr.wid d hd,zb6 l d hd]
    rw [hn1] at d4;rw [za5] at hcl ⊢;refine ⟨b,C.cp t,cur,rfl,htl,hb,d3,hcl,hc,by omega,fun j x hx => ?_⟩
    have hj:j < l.length:=by
     rcases Nat.lt_or_ge j l.length with h' | h'
     ·exact h'
     ·rw [getElem?_eq_none h'] at hx; cases hx
    have q1:=hr.cell j 0 (by rw [za5]; exact hj) (by omega);have q2:=h j 0 [.v (.int .u8 x.toNat)] _ (by simp [pcB,hx]) rfl;rw [hn1,Nat.one_mul,Nat.add_zero,Nat.zero_add] at q1;rw [za0,Nat.zero_add,q1];generalize u j 0 = y at q2
    cases q2; rfl
  obtain ⟨b,hb⟩:∃ b,b = C.bx p:=⟨_,rfl⟩;obtain ⟨hId,hFd⟩:=hI.drewn hT (w.drawn + 1);obtain ⟨q1,q2,q3,q4,q5,q6,q7⟩:=hId.froze hT (n:=l.length) htl htk;have hE1:Ext C w C bx.length (· ∈ live) { w with drawn:=w.drawn + 1 }:=hE0.step (CxLe.refl C) hFd rfl rfl rfl lR (fun _ _ _ _ => rfl) (fun b o x => .inl x) hE0.newT hE0.newB;have hE2:=hE1.step (CxLe.refl C) (live':=(· ∈ live.filter (· != t))) (nb':=bx.length) q2 q3 q4 q5 (by omega) (fun k hk hne ho => q7 k fun h => ho t (by rw [hold]; exact htl) (by rw [htk,h])) (fun b o x => .inl x) (fun s b hs hb => hE1.newT s b (mem_filter.1 hs).1 hb) hE1.newB;have HF:=Lib.hid (show ∃ u x bx' nt' live' C',Ending.returned (.string ⟨l.toArray⟩) = .returned u /\ (x = .d (pS l) /\ bx' = bx /\ nt' = nt /\ live' = live.filter (· != t)) /\ Inv ngl T C' bx' (· ∈ live') (w.drew.freeze ⟨g,0,none⟩ l.length) /\ C'.nt = nt' /\ Ext C w C' bx'.length (· ∈ live') (w.drew.freeze ⟨g,0,none⟩ l.length) /\ RpV C' (w.drew.freeze ⟨g,0,none⟩ l.length) x u from ⟨_,_,bx,nt,_,C,rfl,⟨rfl,rfl,rfl,rfl⟩,q1,hnt,hE2,.d _ _ (.v _ rfl)⟩)
  rw [<- hb] at hh hv0 ⊢;clear hb
  have c1:w.drew.cell? ⟨b,1,none⟩ = some (.slice (some ⟨g,0,none⟩) l.length cap):=by
   have:w.drew.heap[b]? = some (.cells #[v0,.slice (some ⟨g,0,none⟩) l.length cap] 80 (0,0)):=hh
   rw [Lib.cell_of_heap this]; rfl
  have hSD:(Builtin.unsafeSliceData_ #[22] 111 #[.slice (some ⟨g,0,none⟩) l.length cap]).run Tryz.prog w.drew = .ok (.pointer (some ⟨g,0,none⟩)) w.drew :=
   Lib.run_unsafeSliceData_row _ _ _ _ _ _ (by omega)
  have hUS:(Builtin.unsafeString_ #[111,3] 9 #[.pointer (some ⟨g,0,none⟩),.int .i64 l.length]).run Tryz.prog w.drew = .ok (.string ⟨l.toArray⟩) (w.drew.freeze ⟨g,0,none⟩ l.length):=by
   refine Lib.run_unsafeString_row w.drew 111 3 9 5 Tryz.underlying111 cellsByteB g cur.size (by have hg':w.drew.heap[g]? = some (.cells cur 5 (0,0)):=hg; simp [World.shape?,hg']) l hl0 (by omega) (by unfold maxLen at hcm; omega) ?_;intro j x hx;exact hcell j x hx
  clear q1 q2 q3 q4 q5 q6 q7 hE1 hE2 hE0 hI hId hFd hcell h1 hU hcs;show Calls Tryz.prog 50 #[.pointer (some ⟨b,0,none⟩)] w _
  go_enter Tryz.func50,Tryz.ntmps50
  go_wp2
  go_region
  all_goals (go_wp2; go_ret; exact HF.out)
end
section
variable {T:World -> Prop} {hT:Low ngl T}
attribute [local irreducible] po mw pt
def WrN (t:Nat) (live:List Nat) (nt:Nat) (t' nt':Nat) (live':List Nat):Prop:=(t' = 1 \/ t' ∈ live') /\ nt <= nt' /\ (∀ s ∈ live,s < nt -> s ≠ t -> s ∈ live') /\ (t' = t \/ nt <= t')
theorem WrN.step {t nt n1:Nat} {live l1:List Nat} (hn:nt <= n1) (hl:∀ s ∈ live,s ∈ l1):WrN t live nt n1 (n1 + 1) (n1 :: l1.filter (· != t)) :=
 ⟨.inr (mem_cons_self ..),by omega,fun s hs _ hne => mem_cons_of_mem _ (mem_filter.2 ⟨hl s hs,by simpa using hne⟩),.inr hn⟩
theorem WrN.trans {t t1 t2 nt n1 n2:Nat} {live l1 l2:List Nat} (h:WrN t live nt t1 n1 l1) (k:WrN t1 l1 n1 t2 n2 l2):WrN t live nt t2 n2 l2:=by
 obtain ⟨_,h2,h3,h4⟩:=h;obtain ⟨k1,k2,k3,k4⟩:=k;exact ⟨k1,by omega,fun s hs hlt hne => k3 s (h3 s hs hlt hne) (by omega) (by omega),by omega⟩
mutual
theorem er_lw:∀ {c:PC},c.er = c -> c.lw 0
 | .v _,_ => by simp only [PC.lw]
 | .bld _ _ _ _,h => by simp [PC.er] at h
 | .anyp,_ => by simp only [PC.lw]
 | .row _ _ _,h => by simp [PC.er] at h
 | .sl t es,h => by
  simp only [PC.er,PC.sl.injEq] at h;simp only [PC.lw];exact erLL_lw h.2
theorem erL_lw:∀ {c:List PC},erL c = c -> lwL 0 c
 | [],_ => by simp only [lwL]
 | c :: cs,h => by
  simp only [erL,cons.injEq] at h;simp only [lwL];exact ⟨er_lw h.1,erL_lw h.2⟩
theorem erLL_lw:∀ {c:LP PC},erLL c = c -> lwLL 0 c
 | [],_ => by simp only [lwLL]
 | c :: cs,h => by
  simp only [erLL,cons.injEq] at h;simp only [lwLL];exact ⟨erL_lw h.1,erLL_lw h.2⟩
end
theorem lw_vC (v:V):lwL 0 (vC v):=erL_lw (zb9 v)
theorem V.wf_num {v:V} (h:v.wf):i64ok v.num:=by obtain ⟨k,n,e,s,kids⟩:=v; exact h.2.1
theorem V.wf_exp {v:V} (h:v.wf):i64ok v.exp:=by obtain ⟨k,n,e,s,kids⟩:=v; exact h.2.2.1
theorem zf1 (t:Nat) (l:L8):∀ y ∈ bldC 0 t l,okC0 y:=by
 intro y hy;simp only [bldC,mem_cons,mem_nil_iff,or_false] at hy
 rcases hy with rfl | rfl
 ·rfl
 ·show PC.lw 0 (.sl t (pcB l))
  simp only [PC.lw];unfold pcB
  induction l with
  | nil => simp [lwLL]
  | cons b l ih => simp only [map_cons,lwLL,lwL,PC.lw,true_and]; exact ih
theorem V.ok_kind9 {v:V} (h:v.ok = true) (h0:¬ v.kind = 0) (h1:¬ v.kind = 1) (h2:¬ v.kind = 2) (h3:¬ v.kind = 3) (h4:¬ v.kind = 4) (h5:¬ v.kind = 5) (h6:¬ v.kind = 6) (h7:¬ v.kind = 7) (h8:¬ v.kind = 8):v.kind = 9:=by
 obtain ⟨k,n,e,s,kids⟩:=v;unfold V.ok at h;simp only [V.rightBy,Bool.and_eq_true,decide_eq_true_eq] at h;have h2':=h.1.2.2;simp only [V.kind] at *;simp only [V.selfBy] at h2';rw [if_neg (by omega)] at h2';simp only [h3,h4,h5,h6,h7,h8,if_false] at h2'
 split at h2'
 ·assumption
 ·cases h2'
def PmG (T:World -> Prop) (hT:Low ngl T) (v:V):Prop:=∀ (t nt:Nat) (live:List Nat) (l:L8),(t = 1 \/ t ∈ live) -> l.length + (msg v).length <= 4294967296 ->
 FnG (env T hT) 49 [.ref 0 0,.ag (vC v)] [bldC 0 t l] nt live (fun x b n l' => ∃ c' rest,b = c' :: rest /\ x.lw 0 /\ (∀ y ∈ c',okC0 y) /\ ∃ t',c' = bldC 0 t' (l ++ msg v) /\ WrN t live nt t' n l')
def PmL (v:V) (l:L8) (t nt:Nat) (live:List Nat) (m:Nat) (s:St):Prop:=∃ i:Nat,i <= v.kids.length /\ m = v.kids.length - i /\ has s.tm [(0,.ref 0 0),(91,.d (.sl 0 (vK v.kids))),(92,.d (pI v.kids.length)),(93,.d (pI i))] /\
 ∃ t' rest,s.bx = bldC 0 t' (l ++ (msgHd v ++ msgs (v.kids.take i))) :: vC v :: rest /\ WrN t live nt t' s.nt s.live
theorem pm_step {v:V} (hw:v.wf) (hk:v.ok = true) (hkid:∀ (i:Nat) (h:i < v.kids.length),PmG T hT v.kids[i]):PmG T hT v:=by
 intro t nt live l ht htot;obtain ⟨hml,htl⟩:=V.ok_msg hk;have hvlen:(vK v.kids).length = v.kids.length:=zaY _;have hkl:=V.ok_len hk;have mm:=zbx;have wnum:i64ok v.num:=V.wf_num hw;have wexp:i64ok v.exp:=V.wf_exp hw;have hnum:=putNum_fn (T:=T) (hT:=hT) v.num wnum;have hwide:=fun x k h hx => zh7 (T:=T) (hT:=hT) x k h hx
 have hlen5:=fun n a b c d h1 h2 h3 => putLen_fn (T:=T) (hT:=hT) n a b c d h1 h2 h3
 have hM:(msg v).length = (msgHd v).length + (msgs v.kids).length:=by rw [zes,length_append]
 have ht2:t = 1 \/ t ∈ nt :: live:=ht.imp id fun h => mem_cons_of_mem _ h
 refine zaG (zaj zh4) (by show 2 <= 101; decide) fun B hB => ?_
 unfold m_i_putMsg;refine mO ?_;refine zbf rfl ?_;refine zaa ?_;refine zan (fun s => has s.tm [(0,.ref 0 0),(3,.ref 1 0)] /\ ∃ t',s.bx = [bldC 0 t' (l ++ msgHd v),vC v] /\ WrN t live nt t' s.nt s.live) ?_ ?_
 ·refine mO ?_
  (iterate 2 refine mS ?_);refine zaa ?_;refine zab (zak (zaf ?_));by_cases h0:v.kind = 0
  ·refine zah rfl rfl (decide_eq_true h0) ?_
   refine mT ?_;have e:msgHd v = [192]:=by unfold msgHd; simp [h0]
   have hlen:1 <= (msg v).length:=by rw [hM,e]; exact Nat.le_add_right 1 _
   refine zaf ?_;refine mS ?_;refine po_g rfl (zf0 192 (l:=l) (t:=t) rfl ht (by omega)) ?_;rintro x _ _ _ ⟨rfl,rfl,rfl⟩;refine zaa ?_;exact ⟨⟨rfl,rfl,trivial⟩,nt,by rw [e]; rfl,WrN.step lR fun _ h => h⟩
  refine zal rfl rfl (decide_eq_false h0) ?_;refine mF ?_;refine mO ?_;by_cases h1:v.kind = 1
  ·refine zah rfl rfl (decide_eq_true h1) ?_
   refine mT ?_;have e:msgHd v = [194]:=by unfold msgHd; simp [h1]
   have hlen:1 <= (msg v).length:=by rw [hM,e]; exact Nat.le_add_right 1 _
   refine zaf ?_;refine mS ?_;refine po_g rfl (zf0 194 (l:=l) (t:=t) rfl ht (by omega)) ?_;rintro x _ _ _ ⟨rfl,rfl,rfl⟩;refine zaa ?_;exact ⟨⟨rfl,rfl,trivial⟩,nt,by rw [e]; rfl,WrN.step lR fun _ h => h⟩
  refine zal rfl rfl (decide_eq_false h1) ?_;refine mF ?_;refine mO ?_;by_cases h2:v.kind = 2
  ·refine zah rfl rfl (decide_eq_true h2) ?_
   refine mT ?_;have e:msgHd v = [195]:=by unfold msgHd; simp [h2]
   have hlen:1 <= (msg v).length:=by rw [hM,e]; exact Nat.le_add_right 1 _
   refine zaf ?_;refine mS ?_;refine po_g rfl (zf0 195 (l:=l) (t:=t) rfl ht (by omega)) ?_;rintro x _ _ _ ⟨rfl,rfl,rfl⟩;refine zaa ?_;exact ⟨⟨rfl,rfl,trivial⟩,nt,by rw [e]; rfl,WrN.step lR fun _ h => h⟩
  refine zal rfl rfl (decide_eq_false h2) ?_;refine mF ?_;refine mO ?_;by_cases h3:v.kind = 3
  ·refine zah rfl rfl (decide_eq_true h3) ?_
   refine mT ?_;have e:msgHd v = msgInt v.num:=by unfold msgHd; simp [h3]
   have hlen:(msgInt v.num).length <= (msg v).length:=by rw [hM,e]; exact Nat.le_add_right _ _
   refine zaf ?_;(iterate 3 refine mS ?_);refine zad rfl hnum ?_;refine po_g rfl (zby (msgInt v.num) (l:=l) (t:=t) rfl ht (by omega)) ?_;rintro x _ _ _ ⟨rfl,rfl,rfl⟩;refine zaa ?_;exact ⟨⟨rfl,rfl,trivial⟩,nt,by rw [e]; rfl,WrN.step lR (fun _ h => h)⟩
  refine zal rfl rfl (decide_eq_false h3) ?_;refine mF ?_;refine mO ?_;by_cases h5:v.kind = 5
  ·refine zah rfl rfl (decide_eq_true h5) ?_
   refine mT ?_;have e:msgHd v = msgMany v.text.length 32 160 217 218 ++ v.text:=by unfold msgHd; simp [h5]
   have hlen:(msgMany v.text.length 32 160 217 218 ++ v.text).length <= (msg v).length:=by rw [hM,e]; exact Nat.le_add_right _ _
   refine zaf ?_;(iterate 4 refine mS ?_);(iterate 2 refine mS ?_);refine zad (args:=[.d (pI v.text.length),.d (pI 160),.d (pI 32),.d (pI 217),.d (pI 218)]) rfl (hlen5 v.text.length 32 160 217 218 (by omega) (by omega) (by omega)) ?_;refine zax (lb:=v.text) rfl rfl rfl (by have:=mm v.text.length 32 160 217 218; omega) ?_;refine po_g rfl (zby (msgMany v.text.length 32 160 217 218 ++ v.text) (l:=l) (t:=t) rfl ht (by omega)) ?_;rintro x _ _ _ ⟨rfl,rfl,rfl⟩;refine zaa ?_;exact ⟨⟨rfl,rfl,trivial⟩,nt,by rw [e]; rfl,WrN.step lR (fun _ h => h)⟩
  refine zal rfl rfl (decide_eq_false h5) ?_;refine mF ?_;refine mO ?_;by_cases h6:v.kind = 6
  ·refine zah rfl rfl (decide_eq_true h6) ?_
   refine mT ?_;have e:msgHd v = msgMany v.text.length 0 0 196 197 ++ v.text:=by unfold msgHd; simp [h6]
   have hlen:(msgMany v.text.length 0 0 196 197 ++ v.text).length <= (msg v).length:=by rw [hM,e]; exact Nat.le_add_right _ _
   refine zaf ?_;(iterate 4 refine mS ?_);(iterate 2 refine mS ?_);refine zad (args:=[.d (pI v.text.length),.d (pI 0),.d (pI 0),.d (pI 196),.d (pI 197)]) rfl (hlen5 v.text.length 0 0 196 197 (by omega) (by omega) (by omega)) ?_;refine zax (lb:=v.text) rfl rfl rfl (by have:=mm v.text.length 0 0 196 197; omega) ?_;refine po_g rfl (zby (msgMany v.text.length 0 0 196 197 ++ v.text) (l:=l) (t:=t) rfl ht (by omega)) ?_;rintro x _ _ _ ⟨rfl,rfl,rfl⟩;refine zaa ?_;exact ⟨⟨rfl,rfl,trivial⟩,nt,by rw [e]; rfl,WrN.step lR (fun _ h => h)⟩
  refine zal rfl rfl (decide_eq_false h6) ?_;refine mF ?_;refine mO ?_;by_cases h7:v.kind = 7
  ·refine zah rfl rfl (decide_eq_true h7) ?_
   refine mT ?_;have e:msgHd v = msgMany v.kids.length 16 144 0 220:=by unfold msgHd; simp [h7]
   have hlen:(msgMany v.kids.length 16 144 0 220).length <= (msg v).length:=by rw [hM,e]; exact Nat.le_add_right _ _
   refine zaf ?_;(iterate 3 refine mS ?_);refine zav (n:=v.kids.length) rfl rfl hvlen ?_;refine zad (args:=[.d (pI v.kids.length),.d (pI 144),.d (pI 16),.d (pI 0),.d (pI 220)]) rfl (hlen5 v.kids.length 16 144 0 220 (by omega) (by omega) (by omega)) ?_;refine po_g rfl (zby (msgMany v.kids.length 16 144 0 220) (l:=l) (t:=t) rfl ht (by omega)) ?_;rintro x _ _ _ ⟨rfl,rfl,rfl⟩;refine zaa ?_;exact ⟨⟨rfl,rfl,trivial⟩,nt,by rw [e]; rfl,WrN.step lR (fun _ h => h)⟩
  refine zal rfl rfl (decide_eq_false h7) ?_;refine mF ?_;refine mO ?_;by_cases h8:v.kind = 8
  ·refine zah rfl rfl (decide_eq_true h8) ?_
   refine mT ?_;have e:msgHd v = msgMany ((v.kids.length / 2:Nat):Int) 16 128 0 222:=by unfold msgHd; simp [h8]
   have hlen:(msgMany ((v.kids.length / 2:Nat):Int) 16 128 0 222).length <= (msg v).length:=by rw [hM,e]; exact Nat.le_add_right _ _
   refine zaf ?_;(iterate 3 refine mS ?_);refine zav (n:=v.kids.length) rfl rfl hvlen ?_;refine po_q (v:=.d (pI ((v.kids.length / 2:Nat):Int))) rfl (by show some (PV.d (.v (.int .i64 (IntKind.wrap .i64 (((v.kids.length:Nat):Int).tdiv 2))))) = _; rw [show IntKind.wrap .i64 (((v.kids.length:Nat):Int).tdiv 2) = ((v.kids.length / 2:Nat):Int) by rw [IntKind.wrap_i64,Int.tdiv_eq_ediv_of_nonneg (by omega)]; omega]; rfl) ?_;refine zad (args:=[.d (pI ((v.kids.length / 2:Nat):Int)),.d (pI 128),.d (pI 16),.d (pI 0),.d (pI 222)]) rfl (hlen5 ((v.kids.length / 2:Nat):Int) 16 128 0 222 (by omega) (by omega) (by omega)) ?_;refine po_g rfl (zby (msgMany ((v.kids.length / 2:Nat):Int) 16 128 0 222) (l:=l) (t:=t) rfl ht (by omega)) ?_;rintro x _ _ _ ⟨rfl,rfl,rfl⟩;refine zaa ?_;exact ⟨⟨rfl,rfl,trivial⟩,nt,by rw [e]; rfl,WrN.step lR (fun _ h => h)⟩
  refine zal rfl rfl (decide_eq_false h8) ?_;refine mF ?_;refine mO ?_;by_cases h4:v.kind = 4
  ·refine zah rfl rfl (decide_eq_true h4) ?_
   refine mT ?_;have e:msgHd v = [199,9,4] ++ be 1 (lo64 v.exp) ++ be 8 (lo64 v.num):=by unfold msgHd; simp [h4]
   have hlen:([199,9,4] ++ be 1 (lo64 v.exp) ++ be 8 (lo64 v.num)).length <= (msg v).length:=by rw [hM,e]; exact Nat.le_add_right _ _
   refine zbq ?_;refine zao ?_;refine mS ?_;refine mS ?_;refine mS ?_;refine mS ?_;refine mL ?_;refine zaz ?_;refine zaA ?_ ?_
   ·refine zaq (es:=[[.v (.int .u8 199)],[.v (.int .u8 9)],[.v (.int .u8 4)]]) rfl ?_
    refine zaa ?_;refine zao ?_;refine mL ?_;refine zaz ?_;refine zaA ?_ zay;refine zad rfl (hwide v.exp 1 (by omega) wexp) ?_;refine zaa ?_;refine zao ?_;refine zax (la:=[199,9,4]) (lb:=be 1 (lo64 v.exp)) rfl rfl rfl (by rw [zag]; simp) ?_;refine zaa ?_;refine zaz ?_;refine zaA ?_ zay;refine zad rfl (hwide v.num 8 (by omega) wnum) ?_;refine zaa ?_;refine zao ?_;refine zax (la:=[199,9,4] ++ be 1 (lo64 v.exp)) (lb:=be 8 (lo64 v.num)) rfl rfl rfl (by rw [length_append,zag,zag]; simp) ?_;refine zaa ?_;refine zaz ?_;refine zaA ?_ zay;refine po_g rfl (zby ([199,9,4] ++ be 1 (lo64 v.exp) ++ be 8 (lo64 v.num)) (l:=l) (t:=t) rfl ht2 (by omega)) ?_;rintro x _ _ _ ⟨rfl,rfl,rfl⟩;refine zaa ?_;refine zao ?_;refine zaa ?_;refine zaR ?_;exact ⟨⟨rfl,rfl,trivial⟩,nt + 1,by rw [e]; rfl,WrN.step (Nat.le_succ _) fun _ h => mem_cons_of_mem _ h⟩
   refine zaA ?_ zay;refine zad rfl (hwide v.exp 1 (by omega) wexp) ?_;refine zaa ?_;refine zao ?_;refine zaa ?_;refine zaz ?_;refine zaA ?_ ?_
   ·refine zaq (es:=[[.v (.int .u8 199)],[.v (.int .u8 9)],[.v (.int .u8 4)]]) rfl ?_
    refine zaa ?_;refine zao ?_;refine mS ?_;refine zax (la:=[199,9,4]) (lb:=be 1 (lo64 v.exp)) rfl rfl rfl (by rw [zag]; simp) ?_;refine zaa ?_;refine zaz ?_;refine zaA ?_ zay;refine zad rfl (hwide v.num 8 (by omega) wnum) ?_;refine zaa ?_;refine zao ?_;refine zax (la:=[199,9,4] ++ be 1 (lo64 v.exp)) (lb:=be 8 (lo64 v.num)) rfl rfl rfl (by rw [length_append,zag,zag]; simp) ?_;refine zaa ?_;refine zaz ?_;refine zaA ?_ zay;refine po_g rfl (zby ([199,9,4] ++ be 1 (lo64 v.exp) ++ be 8 (lo64 v.num)) (l:=l) (t:=t) rfl ht2 (by omega)) ?_;rintro x _ _ _ ⟨rfl,rfl,rfl⟩;refine zaa ?_;refine zao ?_;refine zaa ?_;refine zaR ?_;exact ⟨⟨rfl,rfl,trivial⟩,nt + 1,by rw [e]; rfl,WrN.step (Nat.le_succ _) fun _ h => mem_cons_of_mem _ h⟩
   refine zaA ?_ zay;refine zad rfl (hwide v.num 8 (by omega) wnum) ?_;refine zaa ?_;refine zao ?_;refine zaa ?_;refine zaz ?_;refine zaA ?_ zay;refine zaq (es:=[[.v (.int .u8 199)],[.v (.int .u8 9)],[.v (.int .u8 4)]]) rfl ?_;refine zaa ?_;refine zao ?_;refine mS ?_;refine zax (la:=[199,9,4]) (lb:=be 1 (lo64 v.exp)) rfl rfl rfl (by rw [zag]; simp) ?_;refine zax (la:=[199,9,4] ++ be 1 (lo64 v.exp)) (lb:=be 8 (lo64 v.num)) rfl rfl rfl (by rw [length_append,zag,zag]; simp) ?_;refine zaa ?_;refine zaz ?_;refine zaA ?_ zay;refine po_g rfl (zby ([199,9,4] ++ be 1 (lo64 v.exp) ++ be 8 (lo64 v.num)) (l:=l) (t:=t) rfl ht2 (by omega)) ?_;rintro x _ _ _ ⟨rfl,rfl,rfl⟩;refine zaa ?_;refine zao ?_;refine zaa ?_;refine zaR ?_;exact ⟨⟨rfl,rfl,trivial⟩,nt + 1,by rw [e]; rfl,WrN.step (Nat.le_succ _) fun _ h => mem_cons_of_mem _ h⟩
  refine zal rfl rfl (decide_eq_false h4) ?_;refine mF ?_;refine mO ?_;have h9:v.kind = 9:=V.ok_kind9 hk h0 h1 h2 h3 h4 h5 h6 h7 h8;refine zah rfl rfl (decide_eq_true h9) ?_;refine mT ?_;have e:msgHd v = [199,4,6] ++ be 4 (lo64 v.num):=by unfold msgHd; simp [h9]
  have hlen:([199,4,6] ++ be 4 (lo64 v.num)).length <= (msg v).length:=by rw [hM,e]; exact Nat.le_add_right _ _
  refine zbq ?_;refine zao ?_;refine mS ?_;refine mS ?_;refine mL ?_;refine zaz ?_;refine zaA ?_ ?_
  ·refine zaq (es:=[[.v (.int .u8 199)],[.v (.int .u8 4)],[.v (.int .u8 6)]]) rfl ?_
   refine zaa ?_;refine zao ?_;refine mL ?_;refine zaz ?_;refine zaA ?_ zay;refine zad rfl (hwide v.num 4 (by omega) wnum) ?_;refine zaa ?_;refine zao ?_;refine zax (la:=[199,4,6]) (lb:=be 4 (lo64 v.num)) rfl rfl rfl (by rw [zag]; simp) ?_;refine zaa ?_;refine zaz ?_;refine zaA ?_ zay;refine po_g rfl (zby ([199,4,6] ++ be 4 (lo64 v.num)) (l:=l) (t:=t) rfl ht2 (by omega)) ?_;rintro x _ _ _ ⟨rfl,rfl,rfl⟩;refine zaa ?_;refine zao ?_;refine zaa ?_;refine zaR ?_;exact ⟨⟨rfl,rfl,trivial⟩,nt + 1,by rw [e]; rfl,WrN.step (Nat.le_succ _) fun _ h => mem_cons_of_mem _ h⟩
  refine zaA ?_ zay;refine zad rfl (hwide v.num 4 (by omega) wnum) ?_;refine zaa ?_;refine zao ?_;refine zaa ?_;refine zaz ?_;refine zaA ?_ zay;refine zaq (es:=[[.v (.int .u8 199)],[.v (.int .u8 4)],[.v (.int .u8 6)]]) rfl ?_;refine zaa ?_;refine zao ?_;refine mS ?_;refine zax (la:=[199,4,6]) (lb:=be 4 (lo64 v.num)) rfl rfl rfl (by rw [zag]; simp) ?_;refine zaa ?_;refine zaz ?_;refine zaA ?_ zay;refine po_g rfl (zby ([199,4,6] ++ be 4 (lo64 v.num)) (l:=l) (t:=t) rfl ht2 (by omega)) ?_;rintro x _ _ _ ⟨rfl,rfl,rfl⟩;refine zaa ?_;refine zao ?_;refine zaa ?_;refine zaR ?_;exact ⟨⟨rfl,rfl,trivial⟩,nt + 1,by rw [e]; rfl,WrN.step (Nat.le_succ _) fun _ h => mem_cons_of_mem _ h⟩
 rintro tm bx nt1 live1 ⟨ht0,t1,hbx,hW⟩;obtain ⟨tm0,rfl⟩:=zac ht0;simp only at hbx hW; subst hbx
 clear ht0;refine mO ?_;(iterate 2 refine mS ?_);refine zav (n:=v.kids.length) rfl rfl hvlen ?_;refine mN ?_;refine zab ?_;refine zas (PmL v l t nt live) v.kids.length ⟨0,Nat.zero_le _,by simp,⟨rfl,rfl,rfl,rfl,trivial⟩,t1,[],by rw [take_zero]; show [bldC 0 t1 (l ++ msgHd v),vC v] = [bldC 0 t1 (l ++ (msgHd v ++ [])),vC v]; rw [append_nil],hW⟩ ?_;rintro m tm bx n2 live2 ⟨i,hi,rfl,ht0,t2,rest,hbx,hV⟩;obtain ⟨tm0,rfl⟩:=zac ht0;simp only at hbx hV; subst hbx
 clear ht0;refine mO ?_;refine po_b rfl rfl (fun b hb => ?_);refine zaa ?_;refine zak ?_;refine zaZ (p:=(i:Int) < (v.kids.length:Int)) hb rfl (fun h _ => ?_) (fun h _ => ?_)
 ·have hil:i < v.kids.length:=by omega
  have hT1:=zgz hil;have hL:=zdf (i + 1) v.kids;rw [hT1,length_append] at hL;refine zai ?_;refine zak (zab (zak (zaf ?_)));refine zaH (es:=vK v.kids) (e:=vC v.kids[i]) rfl rfl rfl ⟨by omega,by rw [Int.toNat_natCast]; exact zbo hil⟩ rfl ?_;refine mS ?_;refine zbI (cs:=vC v.kids[i]) rfl rfl rfl rfl ?_;refine zaa ?_;refine zaf ?_;refine mS ?_;refine za7 (cs:=vC v.kids[i]) (v:=.ag (vC v.kids[i])) rfl rfl (zbg (bldC 0 t2 (l ++ (msgHd v ++ msgs (v.kids.take i))) :: vC v :: rest) _) (Nat.le_refl 5) rfl ?_;refine po_g rfl (FnG.liftM (p:=0) (hkid i hil t2 n2 live2 (l ++ (msgHd v ++ msgs (v.kids.take i))) hV.1 (by simp only [length_append] at *; omega)) ⟨lw_vC _,trivial⟩ (zf1 _ _) rfl) ?_;rintro x _ n3 live3 ⟨c',rfl,t3,rfl,hW2⟩;refine zaa ?_;refine zaf ?_;refine zam (n:=((i + 1:Nat):Int)) rfl rfl rfl (by omega) (by omega) ?_
  refine mN ?_;refine ⟨v.kids.length - (i + 1),by omega,i + 1,hil,rfl,⟨rfl,rfl,rfl,rfl,trivial⟩,t3,rest ++ [vC v.kids[i]],?_,hV.trans hW2⟩;rw [hT1]; simp only [append_assoc]; rfl
 ·refine zat ?_
  have hie:i = v.kids.length:=by omega
  subst hie;refine ⟨.inl rfl,[],rfl,_,_,rfl,?_,zf1 t2 _,t2,?_,hV⟩
  ·trivial
  ·rw [take_length,zes]
theorem pm_all:∀ (N:Nat) (v:V),v.nodes <= N -> v.wf -> v.ok = true -> PmG T hT v
 | 0,v,hn,_,_ => by obtain ⟨k,n,e,s,kids⟩:=v; simp only [V.nodes] at hn; omega
 | N + 1,v,hn,hw,hk => pm_step hw hk fun i h => pm_all N v.kids[i] (V.nodes_kid hn i h) (V.wf_kid hw i h) (V.ok_kid hk i h)
theorem V.ok_right {v:V} (h:v.ok = true):v.rightBy pairsOk 12 = true:=by
 unfold V.ok at h; simp only [Bool.and_eq_true] at h; exact h.1
theorem msg_ne {v:V} (hw:v.wf) (h:v.ok = true):msg v ≠ []:=by
 obtain ⟨b,t,_,_,e⟩:=zeu (V.ok_right h) (V.ok_len h) (V.wf_num hw);rw [e]; exact fun h => by cases h
theorem putMsgI_fn (hTab:∀ w,T w -> Tabs w) (v:V) (hw:v.wf) (hb:v.bulk <= 4294967295):FnV (env T hT) 56 [.ag (vC v)] (.d (pS (msgTop v))):=by
 have hvok:=voki_fn (T:=T) (hT:=hT) hTab v hw hb;have hpm:=fun hk => pm_all (T:=T) (hT:=hT) v.nodes v lR hw hk
 refine zaW (zaj zh5) (by show 1 <= 10; decide) fun B hB => ?_
 unfold m_i_PutMsg;refine mP ?_;refine mM ?_;refine mS ?_;refine zad (zbA v) hvok ?_;refine mN ?_;unfold msgTop;by_cases hk:v.ok = true
 ·rw [if_pos hk,hk]
  refine mwF ?_;refine zai ?_;refine mO ?_;refine po_zbld ?_;refine zaa ?_;refine mQ ?_;have hml:=V.ok_msg hk;refine po_g rfl (FnG.liftM (p:=1) (hpm hk 1 _ _ [] (.inl rfl) (by rw [zes,length_append]; simp only [length_nil]; omega)) ⟨lw_vC _,trivial⟩ (zf1 1 []) rfl) ?_;rintro x _ n1 live1 ⟨c',rfl,t1,rfl,hW⟩;refine zaa ?_;refine mO ?_;refine po_g rfl (bstr_fn (p:=1) (t:=t1) (l:=[] ++ msg v) (msg_ne hw hk) rfl hW.1) ?_;rintro x _ _ _ ⟨rfl,rfl,rfl,rfl⟩;refine mN ?_;exact mR
 ·have hk':v.ok = false:=by simpa using hk
  rw [if_neg hk,hk'];refine mwT ?_;refine mP ?_;exact mR
theorem headI_fn (m n:Int) (hm:0 <= m /\ m <= 7) (hn:0 <= n /\ n <= 18446744073709551615):FnV (env T hT) 48 [.d (pI m),.d (.v (.int .u64 n))] (.d (pS (hd m.toNat n.toNat))):=by
 refine FnV.old rfl fun w C vs hF _ _ hlen hv => ?_
 match vs,hlen with
 | [x,y],_ =>
  have h1:=zbV (hv 0 _ _ rfl rfl); have h2:=zbV (hv 1 _ _ rfl rfl)
  subst h1; subst h2
  exact zdR m n w hm hn
def DnI (ns:List (L8)) (vs:List V) (m:Nat) (s:St):Prop:=∃ i t:Nat,i <= ns.length /\ m = ns.length - i /\ has s.tm [(1,.ref 0 0),(3,.ref 1 0),(15,.d (pSs ns)),(16,.d (pI ns.length)),(17,.d (pI i))] /\ s.bx = [dC ns vs,bldC 1 t (hd 4 ns.length ++ nmsT (ns.take i))] /\ (t = 1 \/ t ∈ s.live)
def DvI (ns:List (L8)) (vs:List V) (m:Nat) (s:St):Prop:=∃ (i t:Nat) (rest:LP PC),i <= vs.length /\ m = vs.length - i /\ has s.tm [(3,.ref 1 0),(36,.d (.sl 0 (vK vs))),(37,.d (pI vs.length)),(38,.d (pI i))] /\ s.bx = dC ns vs :: bldC 1 t (hd 4 ns.length ++ nmsT ns ++ hd 4 vs.length ++ msgs (vs.take i)) :: rest /\ (t = 1 \/ t ∈ s.live)
theorem zc4 (ns:List (L8)) (vs:List V) (hn:nmsB ns = true) (hv:tabB vs = true) (d4:∀ v ∈ vs,v.wf):FnV (env T hT) 19 [.ag (dC ns vs)] (.d (pS (dictT ns vs))):=by
 have hhd:=fun (m n:Nat) (h:m <= 7 /\ n <= 18446744073709551615) => headI_fn (T:=T) (hT:=hT) m n (by omega) (by omega)
 obtain ⟨n1,n2⟩:=zfI hn;obtain ⟨v1,v2⟩:=zfH hv;have hd4:=za3 4 ns.length;have hd4v:=za3 4 vs.length;have ht0:=zcf hn;have hm0:=zdG hv;have htN:=zcf hn ns.length;rw [take_length] at htN;refine zaW (zaj zg2) (by show 1 <= 46; decide) fun B hB => ?_
 unfold m_i_putDict;refine mP ?_;refine mO ?_;refine po_zbld ?_;refine zaa ?_;refine mO ?_;(iterate 2 refine mS ?_);refine zav (n:=ns.length) rfl rfl (zbr ns) ?_;refine zbb (n:=(ns.length:Int)) rfl rfl (by rw [IntKind.wrap_u64]; omega) ?_;refine zad (args:=[.d (pI (4:Nat)),.d (.v (.int .u64 (ns.length:Nat)))]) rfl (hhd 4 ns.length (by omega)) ?_;refine po_g rfl (zby (hd 4 ns.length) (p:=1) (l:=[]) (t:=1) rfl (.inl rfl) (by simp only [length_nil]; omega)) ?_;rintro x b2 nt2 l2 ⟨rfl,rfl,rfl⟩;refine zaa ?_;refine zan (fun s => has s.tm [(1,.ref 0 0),(3,.ref 1 0)] /\ ∃ t,s.bx = [dC ns vs,bldC 1 t (hd 4 ns.length ++ nmsT ns)] /\ (t = 1 \/ t ∈ s.live)) ?_ ?_
 ·refine mO ?_
  (iterate 2 refine mS ?_);refine zav (n:=ns.length) rfl rfl (zbr ns) ?_;refine mN ?_;refine zab ?_;refine zas (DnI ns vs) ns.length ⟨0,_,Nat.zero_le _,rfl,⟨rfl,rfl,rfl,rfl,rfl,trivial⟩,by rw [take_zero]; show _ = [dC ns vs,bldC 1 _ (hd 4 ns.length ++ [])]; rw [append_nil]; rfl,.inr (mem_cons_self ..)⟩ ?_;rintro m tm bx nt live ⟨i,t,hi,rfl,ht,hbx,htl⟩;obtain ⟨tm0,rfl⟩:=zac ht;simp only at hbx htl; subst hbx
  refine mO ?_;refine po_b rfl rfl (fun b hb => ?_);refine zaa ?_;refine zak ?_;refine zaZ (p:=(i:Int) < ns.length) hb rfl (fun h _ => ?_) (fun h _ => ?_)
  ·have hil:i < ns.length:=by omega
   have hnl:=n2 _ (getElem_mem hil);have hh3:=za3 3 ns[i].length;have hti:=ht0 i;refine zai ?_;refine zak (zab (zak (zaf ?_)));refine zaH (es:=pSr ns) (e:=[pS ns[i]]) rfl rfl rfl ⟨by omega,by rw [Int.toNat_natCast]; exact zb8 hil⟩ rfl ?_;refine mN ?_;refine zaf ?_;refine mS ?_;refine po_q (v:=.d (pI ns[i].length)) rfl rfl ?_;refine zbb (n:=(ns[i].length:Int)) rfl rfl (by rw [IntKind.wrap_u64]; omega) ?_;refine zad (args:=[.d (pI (3:Nat)),.d (.v (.int .u64 (ns[i].length:Nat)))]) rfl (hhd 3 ns[i].length (by omega)) ?_;refine mS ?_;refine zax (la:=hd 3 ns[i].length) (lb:=ns[i]) rfl rfl rfl (by omega) ?_;refine po_g rfl (zby (hd 3 ns[i].length ++ ns[i]) (p:=1) (l:=hd 4 ns.length ++ nmsT (ns.take i)) (t:=t) rfl htl (by simp only [length_append]; omega)) ?_;rintro x b3 nt3 l3 ⟨rfl,rfl,rfl⟩;refine zaa ?_;refine zaf ?_;refine zam (n:=((i + 1:Nat):Int)) rfl rfl rfl (by omega) (by omega) ?_
   refine mN ?_;exact ⟨ns.length - (i + 1),by omega,i + 1,_,hil,rfl,⟨rfl,rfl,rfl,rfl,rfl,trivial⟩,by rw [show hd 4 ns.length ++ nmsT (ns.take (i + 1)) = hd 4 ns.length ++ nmsT (ns.take i) ++ (hd 3 ns[i].length ++ ns[i]) by rw [zgI hil,append_assoc]]; rfl,.inr (mem_cons_self ..)⟩
  ·refine zat ?_
   have:i = ns.length:=by omega
   subst this;exact ⟨⟨rfl,rfl,trivial⟩,t,by rw [take_length],htl⟩
 rintro tm bx nt live ⟨ht,t,hbx,htl⟩;obtain ⟨tm0,rfl⟩:=zac ht;simp only at hbx htl; subst hbx
 clear ht;refine mO ?_;(iterate 2 refine mS ?_);refine zav (n:=vs.length) rfl rfl (zaY vs) ?_;refine zbb (n:=(vs.length:Int)) rfl rfl (by rw [IntKind.wrap_u64]; omega) ?_;refine zad (args:=[.d (pI (4:Nat)),.d (.v (.int .u64 (vs.length:Nat)))]) rfl (hhd 4 vs.length (by omega)) ?_;refine po_g rfl (zby (hd 4 vs.length) (p:=1) (l:=hd 4 ns.length ++ nmsT ns) (t:=t) rfl htl (by simp only [length_append]; omega)) ?_;rintro x b2 nt2 l2 ⟨rfl,rfl,rfl⟩;refine zaa ?_;refine zan (fun s => has s.tm [(3,.ref 1 0)] /\ ∃ t rest,s.bx = dC ns vs :: bldC 1 t (dictT ns vs) :: rest /\ (t = 1 \/ t ∈ s.live)) ?_ ?_
 ·refine mO ?_
  (iterate 2 refine mS ?_);refine zav (n:=vs.length) rfl rfl (zaY vs) ?_;refine mN ?_;refine zab ?_;refine zas (DvI ns vs) vs.length ⟨0,_,[],Nat.zero_le _,rfl,⟨rfl,rfl,rfl,rfl,trivial⟩,by rw [take_zero]; show _ = [dC ns vs,bldC 1 _ (hd 4 ns.length ++ nmsT ns ++ hd 4 vs.length ++ [])]; rw [append_nil]; rfl,.inr (mem_cons_self ..)⟩ ?_;rintro m tm bx nt live ⟨i,t,rest,hi,rfl,ht,hbx,htl⟩;obtain ⟨tm0,rfl⟩:=zac ht;simp only at hbx htl; subst hbx
  refine mO ?_;refine po_b rfl rfl (fun b hb => ?_);refine zaa ?_;refine zak ?_;refine zaZ (p:=(i:Int) < vs.length) hb rfl (fun h _ => ?_) (fun h _ => ?_)
  ·have hil:i < vs.length:=by omega
   have hmem:=getElem_mem hil;have hok:=v2 _ hmem;have hmi:=hm0 i;have hml:=zev hok;have hpm:=pm_all (T:=T) (hT:=hT) vs[i].nodes vs[i] lR (d4 _ hmem) hok;refine zai ?_;refine zak (zab (zak (zaf ?_)));refine zaH (es:=vK vs) (e:=vC vs[i]) rfl rfl rfl ⟨by omega,by rw [Int.toNat_natCast]; exact zbo hil⟩ rfl ?_;refine po_q (v:=.ag (vC vs[i])) rfl rfl ?_;refine zbI (cs:=vC vs[i]) rfl rfl rfl rfl ?_;refine zaa ?_;refine zaf ?_;refine za7 (cs:=vC vs[i]) (v:=.ag (vC vs[i])) rfl rfl (zbg (dC ns vs :: bldC 1 t (hd 4 ns.length ++ nmsT ns ++ hd 4 vs.length ++ msgs (vs.take i)) :: rest) _) (Nat.le_of_ble_eq_true rfl) rfl ?_;refine po_g rfl (FnG.liftM (p:=1) (hpm t nt live (hd 4 ns.length ++ nmsT ns ++ hd 4 vs.length ++ msgs (vs.take i)) htl (by simp only [length_append]; omega)) ⟨lw_vC _,trivial⟩ (zf1 _ _) rfl) ?_;rintro x b3 nt3 l3 ⟨c',rfl,t3,rfl,hW2⟩
   refine zaa ?_;refine zaf ?_;refine zam (n:=((i + 1:Nat):Int)) rfl rfl rfl (by omega) (by omega) ?_;refine mN ?_;exact ⟨vs.length - (i + 1),by omega,i + 1,t3,rest ++ [vC vs[i]],hil,rfl,⟨rfl,rfl,rfl,rfl,trivial⟩,by rw [ze6 hil,<- append_assoc]; rfl,hW2.1⟩
  ·refine zat ?_
   have:i = vs.length:=by omega
   subst this;exact ⟨⟨rfl,trivial⟩,t,rest,by rw [take_length]; rfl,htl⟩
 rintro tm bx nt live ⟨ht,t,rest,hbx,htl⟩;obtain ⟨tm0,rfl⟩:=zac ht;simp only at hbx htl; subst hbx
 have hne:dictT ns vs ≠ []:=fun h => by have:=zgJ ns vs; rw [h] at this; simp at this
 refine mO ?_;refine po_g rfl (bstr_fn (p:=1) (t:=t) (l:=dictT ns vs) hne rfl htl) ?_;rintro x _ _ _ ⟨rfl,rfl,rfl,rfl⟩;refine mN ?_;exact mR
theorem dats_d {ns:List (L8)} {vs:List V} {cs:List PC} {a:PV} (ha:a = .ag cs) (he:erL cs = dC ns vs):PV.dats [a] = some [.ag (dC ns vs)]:=by subst ha; exact zgu he
theorem zfb (hTab:∀ w,T w -> Tabs w) (ns:List (L8)) (vs:List V) (hD:DSm ns vs):FnV (env T hT) 11 [.ag (dC ns vs)] (.d (pB (dictB ns vs))):=by
 obtain ⟨d1,d2,d3,d4,d5⟩:=hD;have hnm:=zeH (T:=T) (hT:=hT) hTab ns d1 d2;have htb:=zeI (T:=T) (hT:=hT) hTab vs d3 d4 d5;refine zaW (zaj zhV) (by show 1 <= 17; decide) fun B hB => ?_
 unfold m_i_DictOk;refine mP ?_;refine mO ?_;(iterate 2 refine mS ?_);refine zad (zhU ns) hnm ?_;refine mS ?_;unfold dictB
 cases hn:nmsB ns with
 | false =>
  refine mZ ?_;(iterate 2 refine mS ?_);refine mZ ?_;refine mN ?_
  exact mR
 | true =>
 (iterate 2 refine mS ?_);refine zaC (b:=true) (args:=[.d (.sl 0 (vK vs))]) rfl (fun _ => zfY rfl) (fun _ => htb) ?_;(iterate 2 refine mS ?_)
 cases hv:tabB vs with
 | false =>
  refine mZ ?_;refine mN ?_
  exact mR
 | true =>
 refine za7 (p:=0) (cs:=dC ns vs) (v:=.ag (dC ns vs)) rfl rfl rfl (Nat.le_of_ble_eq_true rfl) rfl ?_;refine zaC (b:=true) (args:=[.ag (dC ns vs)]) rfl (fun _ => dats_d rfl (dC_er ns vs)) (fun _ => zc4 ns vs hn hv d4) ?_;refine po_q (v:=.d (pI (dictT ns vs).length)) rfl rfl ?_;refine po_b rfl rfl (fun b hb => ?_);refine mN ?_
 have:(true && true && decide ((dictT ns vs).length <= 60000)) = b:=by rw [hb]; simp only [Bool.true_and]; exact decide_eq_decide.2 (by omega)
 rw [this];exact mR
end
section
def m_l_FnDict:M:=so [qo 2 (.mv (cB false))] (.seq (so [qm 13 0,qc 14 4 [13] 1] (.cond 14 (so [qo 2 (.mv (cB true))] .ret) .skip)) (so [qm 15 0,qc 16 5 [15] 1,qo 3 (.zero [.slice none 0 0,.slice none 0 0]),qS 2 3 16] (so [qm 17 0,qc 18 6 [17] 1,qo 4 (.zero [.slice none 0 0,.slice none 0 0]),qS 2 4 18] (so [qL 19 2 4,qc 20 7 [19] 1,qm 5 20] (so [qm 21 0,qc 22 8 [21] 1,qm 6 22] (so [qm 24 6,qc 25 9 [24] 1,qm 23 25,qe 26 23 0,qe 27 23 1,qo 7 (.zero [.slice none 0 0,.slice none 0 0]),qS 2 7 26,qm 8 27] (so [qm 29 6,qc 30 10 [29] 1,qm 28 30,qe 31 28 0,qe 32 28 1,qo 9 (.zero [.slice none 0 0,.slice none 0 0]),qS 2 9 31,qm 10 32] (.seq (so [qL 33 2 3,qL 35 2 3,⟨some 34,.call 11 [33],none,[.f 0,3]⟩,qc 36 12 [35] 0,qo 37 (.bin .neq true 34 36),qm 38 37,qg 39 5 38 false,⟨some 40,.load true 2 4,some (38,false),[]⟩,⟨some 41,.call 13 [40],some (38,false),[.f 0]⟩,⟨some 42,.bin .neq false 39 41,some (38,false),[]⟩,qo 43 (.pick 38 (cB true) 42),qm 44 43,⟨some 45,.load true 2 7,some (44,false),[]⟩,⟨some 46,.load true 2 9,some (44,false),[]⟩,⟨some 47,.call 14 [45,46],some (44,false),[.f 0]⟩,⟨some 48,.not 47,some (44,false),[]⟩,qo 49 (.pick 44 (cB true) 48),qm 50 49,qg 51 8 50 false,qg 52 10 50 false,⟨some 53,.bin .neq true 51 52,some (50,false),[]⟩,qo 54 (.pick 50 (cB true) 53),qm 55 54,qg 56 8 55 false,qg 57 56 55 false,⟨some 58,.load true 2 7,some (57,true),[]⟩,qg 60 6 57 true,⟨some 59,.call 7 [58],some (57,true),[.f 0]⟩,⟨some 61,.bin .neq false 59 60,some (57,true),[]⟩,⟨some 62,.pick 57 61 (cB false),some (55,false),[]⟩,qo 63 (.pick 55 (cB true) 62)] (.cond 63 (so [qo 2 (.mv (cB false))] .ret) .skip)) (.seq (so [qL 64 2 4,qc 65 12 [64] 1,qo 66 (.not 65)] (.cond 66 (so [qo 2 (.mv (cB true))] .ret) .skip)) (so [qm 68 5,qc 69 9 [68] 1,qm 67 69,qe 70 67 0,qe 71 67 1,qo 11 (.zero [.slice none 0 0,.slice none 0 0]),qS 2 11 70,qm 12 71] (so [qm 72 12,qm 73 72,⟨some 74,.load true 2 11,some (73,true),[]⟩,⟨some 75,.load true 2 4,some (73,true),[]⟩,⟨some 76,.call 14 [74,75],some (73,true),[.f 1]⟩,qo 77 (.pick 73 76 (cB false)),qm 2 77] .ret)))))))))))
theorem zh9:look Tryz.prog 3 = some (78,m_l_FnDict,[.tm 2]):=by kernel_rfl
def m_s_DrawDictOk:M:=so [qo 2 (.zero [.slice none 0 0,.slice none 0 0])] (so [qm 3 0,qc 4 16 [3] 1,qc 5 15 [4] 1,qS 2 2 5] .ret)
theorem zeK:look Tryz.prog 5 = some (6,m_s_DrawDictOk,[.cell true 2 2]):=by kernel_rfl
def m_s_DrawPutDict:M:=so [qo 2 (.zero [.slice none 0 0,.slice none 0 0])] (so [qm 3 0,qc 4 16 [3] 1,qc 5 15 [4] 1,qS 2 2 5] .ret)
theorem zdZ:look Tryz.prog 6 = some (6,m_s_DrawPutDict,[.cell true 2 2]):=by kernel_rfl
def m_i_PutDict:M:=so [qo 1 (.box 0),⟨some 2,.mv (.c (.string ⟨[].toArray⟩)),none,[]⟩] (.seq (so [qF 3 0 1,ql 4 1 3,qc 5 17 [4] 1,qo 6 (.not 5),qm 7 6,⟨some 8,.fld 1 1,some (7,false),[]⟩,⟨some 9,.load false 1 8,some (7,false),[]⟩,⟨some 10,.call 18 [9],some (7,false),[.f 1]⟩,⟨some 11,.not 10,some (7,false),[]⟩,qo 12 (.pick 7 (cB true) 11)] (.cond 12 (so [⟨some 2,.mv (.c (.string ⟨[].toArray⟩)),none,[]⟩] .ret) .skip)) (so [qL 13 2 1,qc 14 19 [13] 1,qm 2 14] .ret))
theorem zhe:look Tryz.prog 7 = some (15,m_i_PutDict,[.tm 2]):=by kernel_rfl
def m_s_DrawGetDict:M:=so [⟨some 2,.mv (.c (.string ⟨[].toArray⟩)),none,[]⟩] (so [qm 4 0,qc 5 16 [4] 1,qm 3 5] (so [qm 6 3,qm 7 3,qc 8 15 [7] 1,qc 9 13 [8] 1,qc 10 20 [6,9] 1,qm 2 10] .ret))
theorem zd0:look Tryz.prog 8 = some (11,m_s_DrawGetDict,[.tm 2]):=by kernel_rfl
def m_l_sameDict:M:=so [qo 2 (.box 0),qo 3 (.box 1),qo 4 (.mv (cB false))] (so [qF 5 0 2,ql 6 1 5,qF 7 0 3,ql 8 1 7,qc 9 32 [6,8] 1,qm 10 9,⟨some 11,.fld 1 2,some (10,true),[]⟩,⟨some 12,.load false 1 11,some (10,true),[]⟩,⟨some 13,.fld 1 3,some (10,true),[]⟩,⟨some 14,.load false 1 13,some (10,true),[]⟩,⟨some 15,.call 33 [12,14],some (10,true),[.f 1]⟩,qo 16 (.pick 10 15 (cB false)),qm 4 16] .ret)
theorem zf2:look Tryz.prog 14 = some (17,m_l_sameDict,[.tm 4]):=by kernel_rfl
def m_s_l01Bent:M:=so [⟨some 4,.mv (.c (.string ⟨[].toArray⟩)),none,[]⟩] (so [qm 6 0,qm 7 1,qo 8 (.lens 7),qo 9 (.bin .add false 8 (ci 1)),qc 10 38 [6,9] 1,qm 5 10] (.seq (so [qm 11 0,qc 12 38 [11,ci 8] 1] (.block 0 (so [qo 14 (.bin .eql false 12 (ci 0)),qm 13 14] (.cond 13 (so [qm 15 1,qm 16 5,qo 17 (.slcs 15 none (some 16)),qm 4 17] .ret) (so [qo 19 (.bin .eql false 12 (ci 1)),qm 18 19] (.cond 18 (so [qm 20 1,qm 21 5,qo 22 (.slcs 20 none (some 21)),qm 23 0,qm 27 1,qm 28 5,qo 29 (.slcs 27 (some 28) none),⟨some 24,.lit 1 [.c (.string ⟨[48].toArray⟩),.c (.string ⟨[32].toArray⟩),.c (.string ⟨[255].toArray⟩),.c (.string ⟨[128].toArray⟩),.c (.string ⟨[34].toArray⟩),.c (.string ⟨[92].toArray⟩),.c (.string ⟨[97].toArray⟩),.c (.string ⟨[44].toArray⟩)],none,[]⟩,qc 25 51 [23,24] 0,qo 26 (.bin .add false 22 25),qo 30 (.bin .add false 26 29),qm 4 30] .ret) (so [qo 32 (.bin .eql false 12 (ci 2)),qm 31 32] (.cond 31 (so [qm 33 5,qm 34 1,qo 35 (.lens 34),qo 36 (.bin .lss false 33 35)] (.cond 36 (so [qm 37 1,qm 38 5,qo 39 (.slcs 37 none (some 38)),qm 40 0,qm 44 1,qm 45 5,qo 46 (.bin .add false 45 (ci 1)),qo 47 (.slcs 44 (some 46) none),⟨some 41,.lit 1 [.c (.string ⟨[48].toArray⟩),.c (.string ⟨[192].toArray⟩),.c (.string ⟨[0].toArray⟩),.c (.string ⟨[57].toArray⟩),.c (.string ⟨[93].toArray⟩)],none,[]⟩,qc 42 51 [40,41] 0,qo 43 (.bin .add false 39 42),qo 48 (.bin .add false 43 47),qm 4 48] .ret) .skip)) .skip)))))))) (so [qm 49 1,qm 4 49] .ret)))
theorem zhf:look Tryz.prog 20 = some (50,m_s_l01Bent,[.tm 4]):=by kernel_rfl
def m_l_sameTexts:M:=so [qo 4 (.mv (cB false))] (.seq (so [qm 6 0,qo 7 (.len 6),qm 8 1,qo 9 (.len 8),qo 10 (.bin .neq false 7 9)] (.cond 10 (so [qo 4 (.mv (cB false))] .ret) .skip)) (.seq (so [qo 5 (.mv (ci 0))] (.block 0 (.loop (.seq (so [qm 11 5,qm 12 0,qo 13 (.len 12),qo 14 (.bin .lss false 11 13)] (.cond 14 .skip (.exit 0))) (.seq (.block 1 (so [qm 17 0,qm 18 5,qo 19 (.ix 1 17 18),ql 20 1 19,qm 21 1,qm 22 5,qo 23 (.ix 1 21 22),ql 24 1 23,qo 25 (.bin .neq false 20 24)] (.cond 25 (so [qo 4 (.mv (cB false))] .ret) .skip))) (.ops [qm 15 5,qo 16 (.bin .add false 15 (ci 1)),qm 5 16])))))) (so [qo 4 (.mv (cB true))] .ret)))
theorem zeY:look Tryz.prog 32 = some (26,m_l_sameTexts,[.tm 4]):=by kernel_rfl
def m_l_sameAll:M:=so [qo 4 (.mv (cB false))] (.seq (so [qm 6 0,qo 7 (.len 6),qm 8 1,qo 9 (.len 8),qo 10 (.bin .neq false 7 9)] (.cond 10 (so [qo 4 (.mv (cB false))] .ret) .skip)) (.seq (so [qo 5 (.mv (ci 0))] (.block 0 (.loop (.seq (so [qm 11 5,qm 12 0,qo 13 (.len 12),qo 14 (.bin .lss false 11 13)] (.cond 14 .skip (.exit 0))) (.seq (.block 1 (so [qm 17 0,qm 18 5,qo 19 (.ix 5 17 18),qL 20 5 19,qm 21 1,qm 22 5,qo 23 (.ix 5 21 22),qL 24 5 23,qc 25 65 [20,24] 0,qo 26 (.not 25)] (.cond 26 (so [qo 4 (.mv (cB false))] .ret) .skip))) (.ops [qm 15 5,qo 16 (.bin .add false 15 (ci 1)),qm 5 16])))))) (so [qo 4 (.mv (cB true))] .ret)))
theorem zhg:look Tryz.prog 33 = some (27,m_l_sameAll,[.tm 4]):=by kernel_rfl
end
section
def m_l_big:M:=so [qo 2 (.mv (cB false))] (so [qm 3 0,qo 4 (.len 3),qo 5 (.bin .gtr false 4 (ci 1048576)),qm 2 5] .ret)
theorem lk_l_big:look Tryz.prog 4 = some (6,m_l_big,[.tm 2]):=by kernel_rfl
def m_l_same:M:=so [qo 2 (.box 0),qo 3 (.box 1),qo 4 (.mv (cB false))] (.seq (so [qF 6 0 2,ql 7 1 6,qF 8 0 3,ql 9 1 8,qo 10 (.bin .neq false 7 9),qm 11 10,⟨some 12,.fld 1 2,some (11,false),[]⟩,⟨some 13,.load false 1 12,some (11,false),[]⟩,⟨some 14,.fld 1 3,some (11,false),[]⟩,⟨some 15,.load false 1 14,some (11,false),[]⟩,⟨some 16,.bin .neq false 13 15,some (11,false),[]⟩,qo 17 (.pick 11 (cB true) 16),qm 18 17,⟨some 19,.fld 2 2,some (18,false),[]⟩,⟨some 20,.load false 1 19,some (18,false),[]⟩,⟨some 21,.fld 2 3,some (18,false),[]⟩,⟨some 22,.load false 1 21,some (18,false),[]⟩,⟨some 23,.bin .neq false 20 22,some (18,false),[]⟩,qo 24 (.pick 18 (cB true) 23),qm 25 24,⟨some 26,.fld 3 2,some (25,false),[]⟩,⟨some 27,.load false 1 26,some (25,false),[]⟩,⟨some 28,.fld 3 3,some (25,false),[]⟩,⟨some 29,.load false 1 28,some (25,false),[]⟩,⟨some 30,.bin .neq false 27 29,some (25,false),[]⟩,qo 31 (.pick 25 (cB true) 30),qm 32 31,⟨some 33,.fld 4 2,some (32,false),[]⟩,⟨some 34,.load false 1 33,some (32,false),[]⟩,⟨some 35,.len 34,some (32,false),[]⟩,⟨some 36,.fld 4 3,some (32,false),[]⟩,⟨some 37,.load false 1 36,some (32,false),[]⟩,⟨some 38,.len 37,some (32,false),[]⟩,⟨some 39,.bin .neq false 35 38,some (32,false),[]⟩,qo 40 (.pick 32 (cB true) 39)] (.cond 40 (so [qo 4 (.mv (cB false))] .ret) .skip)) (.seq (so [qo 5 (.mv (ci 0))] (.block 0 (.loop (.seq (so [qm 41 5,qF 42 4 2,ql 43 1 42,qo 44 (.len 43),qo 45 (.bin .lss false 41 44)] (.cond 45 .skip (.exit 0))) (.seq (.block 1 (so [qF 48 4 2,ql 49 1 48,qm 50 5,qo 51 (.ix 5 49 50),qL 52 5 51,qF 53 4 3,ql 54 1 53,qm 55 5,qo 56 (.ix 5 54 55),qL 57 5 56,qc 58 65 [52,57] 0,qo 59 (.not 58)] (.cond 59 (so [qo 4 (.mv (cB false))] .ret) .skip))) (.ops [qm 46 5,qo 47 (.bin .add false 46 (ci 1)),qm 5 47])))))) (so [qo 4 (.mv (cB true))] .ret)))
theorem lk_l_same:look Tryz.prog 65 = some (60,m_l_same,[.tm 4]):=by kernel_rfl
end
section
theorem ngl_of {w:World} (h:w.ShapedOpen Tryz.prog):ngl <= w.heap.size:=by
 have hlt:ngl < (begin Tryz.prog (fun _ _ => 0) default).world.heap.size:=of_decide_eq_true (by unfold ngl; kernel_rfl);obtain ⟨o,_,h2,_⟩:=h.2 ngl lR hlt;exact Nat.le_of_lt (zaN h2)
section
variable {T:World -> Prop} {hT:Low ngl T} {w:World} {hn:ngl <= w.heap.size}
end
theorem FnV.bool {E:Env} {f:Nat} {args:List PV} {b:Bool} (h:FnV E f args (.d (pB b))) {w:World} (hng:E.NG <= w.heap.size) (hT:E.T w) {vs:List Value} (hl:vs.length = args.length) (hv:∀ (j:Nat) (x:PV) (y:Value),args[j]? = some x -> vs[j]? = some y -> RpV (C0 w) w x y) :
  Calls E.P f vs.toArray w fun e w' => e = .returned (.bool b) /\ Below w.heap.size w w':=by
 refine (Fn.use h hng hT hl hv).mono ?_;rintro e w' ⟨u,x,bx,live,C',rfl,h1,_,h3,h4,_⟩
 have hx:x = .d (pB b):=by
  cases x with
  | d c =>
   simp only [PV.dat,sI,PV.d.injEq] at h1
   cases c with
   | v y => simp only [PC.er] at h1; rw [h1]
   | sl t es => simp [PC.er,pB] at h1
   | bld p T t U => simp [PC.er,pB] at h1
   | anyp => simp [PC.er,pB] at h1
   | row => simp [PC.er,pB] at h1
  | _ => simp [PV.dat] at h1
 subst hx
 cases h3 with
 | d _ _ h => cases h; exact ⟨rfl,h4⟩
end
section
def dU (x:UInt8):D:=.one (.int .u8 x.toNat)
def dBy (b:L8):D:=.sl 1 (b.map dU)
theorem dBy_wf (b:L8):(dBy b).wf:=by
 simp only [dBy,D.wf];refine ⟨fun e he => by obtain ⟨k,_,rfl⟩:=mem_map.1 he; rfl,?_⟩
 induction b with
 | nil => trivial
 | cons k ks ih => exact ⟨rfl,ih⟩
theorem dBy_pc (b:L8):(dBy b).pc = [.sl 0 (pcB b)]:=by
 simp only [dBy,D.pc,D.pcE_map,map_map,pcB]; rfl
theorem code_rp {w:World} {b:L8} {v:Value} (h:Rd w (dBy b) [v]):RpV (C0 w) w (.d (.sl 0 (pcB b))) v:=rd1 h (dBy_wf b) (dBy_pc b)
theorem trod_code {H:Type} {enc:TypeId × Value -> H} {w:World} {base:Nat} {spare:Nat -> Bool} {held:Bool} (fuel:Nat) (cs:List Value) (y:DataW H × List MemPlace)
  (h:DataW.trod enc Tryz.prog w base spare held fuel 22 cs = some y):∃ (b:L8) (v:Value),cs = [v] /\ Rd w (dBy b) [v] /\ b.length <= maxLen:=by
 obtain ⟨xs,v,h1,h2,_,h4⟩:=trod_sl (f:=dU) (ok:=fun _ => True) Tryz.underlying22 (by kernel_rfl) (by decide) (fun _ => rfl) (fun n cs y _ h => by
  obtain ⟨m,rfl,_,hm⟩:=DataW.trod_int Tryz.underlying5 h
  have hb:0 <= m /\ m <= 255:=by
   simp [Lit.wf,IntKind.min,IntKind.max,IntKind.bits,IntKind.signed] at hm; exact ⟨by omega,by omega⟩
  exact ⟨UInt8.ofNat m.toNat,by simp [Rd,dU,RepC]; omega,trivial⟩) h
 exact ⟨xs,v,h1,h2,h4⟩
theorem fnLaw {E:Env} {f:Nat} {b:L8} (h:FnV E f [.d (.sl 0 (pcB b))] (.d (pB true))) {w:World} (hng:E.NG <= w.heap.size) (hT:E.T w) {v:Value} (hr:Rd w (dBy b) [v]):Calls E.P f #[v] w fun e w' => e = .returned (.bool true) /\ Below w.heap.size w w' :=
 FnV.bool h hng hT (vs:=[v]) rfl fun j x y hx hy => by
  match j with
  | 0 => simp at hx hy; subst hx; subst hy; exact code_rp hr
  | j + 1 => simp at hx
end
section
variable {T:World -> Prop} {hT:Low ngl T}
attribute [local irreducible] po mw pt
section
variable {E:Env} {K:St -> Prop} {tm:Nat -> PV} {bx:LP PC} {nt d:Nat} {live:List Nat} {r:List MOpr} {g:Option (Nat × Bool)} {c:List X} {x y:X}
theorem po_neS {la lb:L8} {f:Bool} {e:Bool} (hg:gd g tm = some true) (hx:ev tm x = .d (pS la)) (hy:ev tm y = .d (pS lb)) (he:decide (la ≠ lb) = e) (h:po E r K ⟨up d (.d (pB e)) tm,bx,nt,live⟩):po E (⟨some d,.bin .neq f x y,g,c⟩ :: r) K ⟨tm,bx,nt,live⟩:=by
 refine po_q hg ?_ h;subst he;simp only [qf,hx,hy,pS];show some (PV.d (.v (.bool (!((ByteArray.mk la.toArray).toList == (ByteArray.mk lb.toArray).toList))))) = _;rw [ByteArray.toList_eq,ByteArray.toList_eq];show some (PV.d (.v (.bool (!(la == lb))))) = some (PV.d (.v (.bool (decide (la ≠ lb)))));have e:(!(la == lb)) = decide (la ≠ lb):=by by_cases h:la = lb <;> simp [h]
 rw [e]
end
def SmP (T:World -> Prop) (hT:Low ngl T) (N:Nat):Prop:=∀ a b:V,a.nodes <= N -> a.bulk <= 4294967295 -> FnV (env T hT) 65 [.ag (vC a),.ag (vC b)] (.d (pB (decide (a = b))))
def SmL (a b:V) (m:Nat) (st:St):Prop:=∃ i:Nat,i <= a.kids.length /\ m = a.kids.length - i /\ has st.tm [(2,.ref 0 0),(3,.ref 1 0),(5,.d (pI i))] /\ st.bx = [vC a,vC b] /\ a.kids.take i = b.kids.take i
theorem V.ext5 {a b:V}:a = b ↔ a.kind = b.kind /\ a.num = b.num /\ a.exp = b.exp /\ a.text = b.text /\ a.kids = b.kids:=by
 obtain ⟨k,n,e,s,ks⟩:=a;obtain ⟨k',n',e',s',ks'⟩:=b;simp only [V.mk.injEq,V.kind,V.num,V.exp,V.text,V.kids]
theorem same_step {N:Nat} (ih:SmP T hT N):SmP T hT (N + 1):=by
 intro a b hn hbk
 have hkl:a.kids.length + V.bulks a.kids <= 4294967295:=by
  obtain ⟨k,n,e,s,ks⟩:=a;simp only [V.bulk] at hbk; show ks.length + V.bulks ks <= _; omega
 refine zaW (zaj lk_l_same) (by show 2 <= 60; decide) fun B hB => ?_
 unfold m_l_same;refine mO ?_;refine zbf (cs:=vC a) rfl ?_;refine zbf (cs:=vC b) rfl ?_;refine mN ?_;refine zan (fun st => has st.tm [(2,.ref 0 0),(3,.ref 1 0)] /\ st.bx = [vC a,vC b] /\ a.kind = b.kind /\ a.num = b.num /\ a.exp = b.exp /\ a.text = b.text /\ a.kids.length = b.kids.length) ?_ ?_
 ·refine zan (fun st => has st.tm [(2,.ref 0 0),(3,.ref 1 0),(40,.d (pB (!(decide (a.kind = b.kind /\ a.num = b.num /\ a.exp = b.exp /\ a.text = b.text /\ a.kids.length = b.kids.length)))))] /\ st.bx = [vC a,vC b]) ?_ ?_
  ·refine zaf ?_
   (iterate 4 refine mS ?_);by_cases h0:a.kind = b.kind
   case neg =>
    refine zah rfl rfl (bne_iff_ne.2 h0) ?_;refine mS ?_;refine mZ ?_;(iterate 2 refine mS ?_);refine mZ ?_;(iterate 2 refine mS ?_);refine mZ ?_;(iterate 2 refine mS ?_);refine mZ ?_;refine mN ?_;exact ⟨⟨rfl,rfl,by rw [decide_eq_false (by omega)]; rfl,trivial⟩,rfl⟩
   refine zal rfl rfl (by rw [h0]; exact bne_self_eq_false _) ?_;refine mS ?_;(iterate 4 refine mS ?_);by_cases h1:a.num = b.num
   case neg =>
    refine zah rfl rfl (bne_iff_ne.2 h1) ?_;(iterate 2 refine mS ?_);refine mZ ?_;(iterate 2 refine mS ?_);refine mZ ?_;(iterate 2 refine mS ?_);refine mZ ?_;refine mN ?_;exact ⟨⟨rfl,rfl,by rw [decide_eq_false (by omega)]; rfl,trivial⟩,rfl⟩
   refine zal rfl rfl (by rw [h1]; exact bne_self_eq_false _) ?_;(iterate 2 refine mS ?_);(iterate 4 refine mS ?_);by_cases h2:a.exp = b.exp
   case neg =>
    refine zah rfl rfl (bne_iff_ne.2 h2) ?_;(iterate 2 refine mS ?_);refine mZ ?_;(iterate 2 refine mS ?_);refine mZ ?_;refine mN ?_;exact ⟨⟨rfl,rfl,by rw [decide_eq_false (by omega)]; rfl,trivial⟩,rfl⟩
   refine zal rfl rfl (by rw [h2]; exact bne_self_eq_false _) ?_;(iterate 2 refine mS ?_);(iterate 4 refine mS ?_);by_cases h3:a.text = b.text
   case neg =>
    refine po_neS (la:=a.text) (lb:=b.text) rfl rfl rfl (decide_eq_true h3) ?_;(iterate 2 refine mS ?_);refine mZ ?_;refine mN ?_;exact ⟨⟨rfl,rfl,by rw [decide_eq_false (fun h => h3 h.2.2.2.1)]; rfl,trivial⟩,rfl⟩
   refine po_neS (la:=a.text) (lb:=b.text) rfl rfl rfl (decide_eq_false (fun h => h h3)) ?_;(iterate 2 refine mS ?_);(iterate 2 refine mS ?_);refine zav (n:=a.kids.length) rfl rfl (zaY _) ?_;(iterate 2 refine mS ?_);refine zav (n:=b.kids.length) rfl rfl (zaY _) ?_;by_cases h4:a.kids.length = b.kids.length
   ·refine zal rfl rfl (by rw [h4]; exact bne_self_eq_false _) ?_
    refine mN ?_;exact ⟨⟨rfl,rfl,by rw [decide_eq_true ⟨h0,h1,h2,h3,h4⟩]; rfl,trivial⟩,rfl⟩
   ·refine zah rfl rfl (bne_iff_ne.2 (show ((a.kids.length:Nat):Int) ≠ b.kids.length by omega)) ?_
    refine mN ?_;exact ⟨⟨rfl,rfl,by rw [decide_eq_false (fun h => h4 h.2.2.2.2)]; rfl,trivial⟩,rfl⟩
  rintro tm bx nt live ⟨ht,hbx⟩;obtain ⟨tm0,rfl⟩:=zac ht;simp only at hbx; subst hbx
  clear ht;by_cases hh:a.kind = b.kind /\ a.num = b.num /\ a.exp = b.exp /\ a.text = b.text /\ a.kids.length = b.kids.length
  ·rw [decide_eq_true hh]
   refine mwF ?_;refine zai ?_;exact ⟨⟨rfl,rfl,trivial⟩,rfl,hh⟩
  ·rw [decide_eq_false hh]
   refine mwT ?_;refine mP ?_;refine zae ⟨.inr rfl,[.d (pB false)],rfl,?_⟩;rw [decide_eq_false (fun h => hh (by subst h; exact ⟨rfl,rfl,rfl,rfl,rfl⟩))]; rfl
 rintro tm bx nt live ⟨ht,hbx,h0,h1,h2,h3,h4⟩;obtain ⟨tm0,rfl⟩:=zac ht;simp only at hbx; subst hbx
 clear ht;refine zan (fun st => a.kids = b.kids) ?_ ?_
 ·refine mP ?_
  refine zab ?_;refine zas (SmL a b) a.kids.length ⟨0,Nat.zero_le _,rfl,⟨rfl,rfl,rfl,trivial⟩,rfl,rfl⟩ ?_;rintro m tm bx nt live ⟨i,hi,rfl,ht,hbx,htk⟩;obtain ⟨tm1,rfl⟩:=zac ht;simp only at hbx; subst hbx
  clear ht tm0;refine mM ?_;(iterate 3 refine mS ?_);refine zav (n:=a.kids.length) rfl rfl (zaY _) ?_;refine po_b rfl rfl (fun q hq => ?_);refine zaa ?_;refine zaZ (p:=(i:Int) < a.kids.length) hq rfl (fun him _ => ?_) (fun him _ => ?_)
  rotate_left
  ·refine zat ?_
   have:i = a.kids.length:=by omega
   subst this;rw [take_length,h4,take_length] at htk; exact htk
  have hia:i < a.kids.length:=by omega
  have hib:i < b.kids.length:=by omega
  refine zai ?_;refine zak (zab ?_);refine mO ?_;(iterate 3 refine mS ?_);refine zaH (es:=vK a.kids) (e:=vC a.kids[i]) rfl rfl rfl ⟨by omega,by rw [Int.toNat_natCast]; exact zbo hia⟩ rfl ?_;(iterate 4 refine mS ?_);refine zaH (es:=vK b.kids) (e:=vC b.kids[i]) rfl rfl rfl ⟨by omega,by rw [Int.toNat_natCast]; exact zbo hib⟩ rfl ?_;refine mS ?_;refine zad (zhx (zb9 _) (zb9 _)) (ih a.kids[i] b.kids[i] (V.nodes_kid hn i hia) (V.bulk_get hkl i hia)) ?_;by_cases hk:a.kids[i] = b.kids[i]
  ·rw [decide_eq_true hk]
   refine mK ?_;refine zaf ?_;refine mS ?_;refine zam (n:=((i + 1:Nat):Int)) rfl rfl rfl (by omega) (by omega) ?_;refine mN ?_;exact ⟨_,by show a.kids.length - (i + 1) < a.kids.length - i; omega,i + 1,by omega,rfl,⟨rfl,rfl,rfl,trivial⟩,rfl,by rw [take_succ_eq_append_getElem hia,take_succ_eq_append_getElem hib,htk,hk]⟩
  ·rw [decide_eq_false hk]
   refine mT ?_;refine mP ?_;refine zae ⟨.inr rfl,[.d (pB false)],rfl,?_⟩;rw [decide_eq_false (fun h => hk (by subst h; rfl))]; rfl
 rintro tm bx nt live hks;refine mP ?_;refine zae ⟨.inr rfl,[.d (pB true)],rfl,?_⟩;rw [decide_eq_true (V.ext5.2 ⟨h0,h1,h2,h3,hks⟩)]; rfl
theorem lsame_fn (a b:V) (hb:a.bulk <= 4294967295):FnV (env T hT) 65 [.ag (vC a),.ag (vC b)] (.d (pB (decide (a = b)))):=by
 have all:∀ N,SmP T hT N:=by
  intro N
  induction N with
  | zero => intro a b hn; have:=a.nodes_pos; omega
  | succ N ih => exact same_step ih
 exact all a.nodes a b lR hb
theorem new_l {b:L8} (hb:b.length <= 2147483647) {bx:LP PC} (nt:Nat) (live:List Nat):FnG (env T hT) 16 [.d (.sl 0 (pcB b))] bx nt live (fun x b' n l => ∃ c,x = .ref bx.length 0 /\ b' = bx ++ [c] /\ Cu b c /\ n = nt /\ l = live):=by
 refine (FnG.liftR (new_g (T:=T) (hT:=hT) hb nt live) ⟨by simp only [PV.lw,PC.lw]; exact pcB_lw 0 b,trivial⟩).mono ?_;rintro x b' n l ⟨x0,b0,rfl,rfl,c,rfl,rfl,hc,rfl,rfl⟩;refine ⟨c,by simp [PV.shB],?_,hc,rfl,rfl⟩;rw [map_cons,map_nil,shB_idL hc.lw]
theorem big_fn0 (b:L8):FnV (env T hT) 4 [.d (.sl 0 (pcB b))] (.d (pB (decide ((b.length:Int) > 1048576)))):=by
 refine zaW (zaj lk_l_big) (by show 1 <= 6; decide) fun B hB => ?_
 unfold m_l_big;refine mP ?_;refine mQ ?_;refine zav (n:=b.length) rfl rfl (za5 b) ?_;refine po_q rfl rfl ?_;refine mN ?_;exact mR
section
variable {E:Env} {K:St -> Prop} {tm:Nat -> PV} {bx:LP PC} {nt d:Nat} {live:List Nat} {r:List MOpr} {c:List X}
theorem zf3 {f:Nat} {xs:List X} {args:List PV} {R:PV -> (Nat -> Prop) -> Prop} (hd:PV.dats (xs.map (ev tm)) = some args) (hF:Fn E f args R) (h:∀ x lv,R x lv -> ∃ y,x.dat = some y /\ po E r K ⟨up d y tm,bx,nt,live⟩):po E (⟨some d,.call f xs,none,c⟩ :: r) K ⟨tm,bx,nt,live⟩ :=
 by
 unfold po;exact ⟨true,rfl,.inl ⟨rfl,.inl ⟨args,R,hd,hF,.inl fun x lv hx => by obtain ⟨y,h1,h2⟩:=h x lv hx; exact ⟨y,h1,by rw [zbS]; exact h2⟩⟩⟩⟩
end
theorem pcB_er (b:L8):erLL (pcB b) = pcB b:=by
 rw [zaO]; unfold pcB; rw [map_map]; rfl
theorem dcs_er {ns:List (L8)} {vs:List V} {rows:LP PC} (t1 t2:Nat) (h:erLL rows = vK vs):erL [.sl t1 (pSr ns),.sl t2 rows] = dC ns vs:=by
 show [(pSs ns).er,PC.sl 0 (erLL rows)] = _;rw [zgk,h]; rfl
theorem pSr_lw (k:Nat):∀ ns:List (L8),lwLL k (pSr ns)
 | [] => by simp only [pSr,map_nil,lwLL]
 | n :: ns => by
  have:=pSr_lw k ns
  simp only [pSr,map_cons,lwLL,lwL,PC.lw,pS] at this ⊢;exact ⟨⟨trivial,trivial⟩,this⟩
def DcQ (ns:List (L8)) (vs:List V):Prop:=NmQ ns /\ vs.length <= 70 /\ ∀ v ∈ vs,Gd 8100 v
theorem DcQ.sm {ns:List (L8)} {vs:List V} (h:DcQ ns vs):DSm ns vs :=
 ⟨by have:=h.1.1; omega,fun n hn => by have:=h.1.2 n hn; omega,by have:=h.2.1; omega,fun v hv => (h.2.2 v hv).wf,fun v hv => by have:=(h.2.2 v hv).bulk; omega⟩
def QDc:Nat -> List Nat -> PV -> Nat -> List Nat -> Prop:=fun nt live x n l => ∃ (ns:List (L8)) (vs:List V) (cs:List PC),x = .ag cs /\ erL cs = dC ns vs /\ DcQ ns vs /\ NR nt live n l []
def DdR (b:L8) (nt:Nat) (live:List Nat) (x:PV) (bx:LP PC) (n:Nat) (l:List Nat):Prop:=∃ c' rest,bx = c' :: rest /\ x.lw 0 /\ lwL 0 c' /\ Cu b c' /\ QDc nt live x n l
def DdI (b:L8) (nt:Nat) (live:List Nat) (st:St):Prop :=
 ∃ (c:List PC) (t1 t2:Nat) (ns:List (L8)) (vs:List V) (rows:LP PC),Cu b c /\ has st.tm [(0,.ref 0 0),(2,.ref 1 0),(3,.ref 2 0)] /\ st.bx = [c,[.sl 1 [],.sl 1 []],[.sl t1 (pSr ns),.sl t2 rows]] /\ NR nt live st.nt st.live [] /\ erLL rows = vK vs /\ DcQ ns vs
theorem zf4 {b:L8} (hb:b.length <= 2147483647):Drw (env T hT) b 15 [] QDc:=by
 rintro c nt live hc hn;refine zaG (R:=DdR b nt live) (zaj zgv) (by show 1 <= 28; decide) fun B hB' => ?_
 unfold m_s_l14Dict;refine mP ?_;refine mO ?_;refine zaq (es:=pSr [[110,97,109,101],[105,100]]) rfl ?_;refine po_s (v:=.ag [.sl nt (pSr [[110,97,109,101],[105,100]]),.sl 1 []]) rfl rfl rfl ?_;refine zbI (cs:=[.sl nt (pSr [[110,97,109,101],[105,100]]),.sl 1 []]) rfl rfl rfl rfl ?_;refine mN ?_;have hN:NR nt live (nt + 1) (nt :: live) []:=(NR.refl nt live).up;have hQ0:DcQ [[110,97,109,101],[105,100]] []:=⟨⟨by decide,by decide⟩,by decide,fun v hv => by cases hv⟩;refine zan (DdI b nt live) ?_ ?_
 ·refine mQ ?_
  refine po_g rfl ((zcn (T:=T) (hT:=hT) hb 2).use ⟨trivial,trivial⟩ hc (hN.n2 hn) (p:=0) rfl) ?_;rintro x bx n2 l2 ⟨c2,rfl,hc2,z,rfl,hN2⟩;have hN:=hN.pass hN2;have hn2:=hN.n2 hn;refine zaa ?_
  cases z with
  | false =>
   refine mwF ?_;refine zai ?_
   exact ⟨c2,nt,1,_,[],[],hc2,⟨rfl,rfl,rfl,trivial⟩,rfl,hN,rfl,hQ0⟩
  | true =>
   refine mwT ?_;refine zaf ?_;refine po_g rfl (zdn (T:=T) (hT:=hT) comV) ?_;rintro x b' n6 l6 ⟨hb6,rfl,hn6,hl6⟩
   subst hb6; subst hn6; subst hl6
   refine po_g rfl (zcF (T:=T) (hT:=hT) 0 hn2) ?_;rintro x b' n7 l7 ⟨hb7,rfl,rfl,rfl⟩;subst hb7;refine po_g rfl (int_g (T:=T) (hT:=hT) 1) ?_;rintro x b' n8 l8 ⟨hb8,rfl,hn8,hl8⟩
   subst hb8; subst hn8; subst hl8
   refine zaq (es:=[vcs 9 6 0 [] n6 [vL 3 0 0 []],vL 3 1 0 []]) (litP2 rfl rfl rfl rfl) ?_;refine po_s (v:=.ag (vcs 7 0 0 [] (n6 + 1) [vcs 9 6 0 [] n6 [vL 3 0 0 []],vL 3 1 0 []])) rfl rfl rfl ?_;refine zaq (es:=[vL 5 0 0 comV,vcs 7 0 0 [] (n6 + 1) [vcs 9 6 0 [] n6 [vL 3 0 0 []],vL 3 1 0 []]]) (litP2 rfl rfl rfl rfl) ?_;have hK1:=dct_kd n6 (n6 + 1);refine mS ?_;refine zaw (p:=2) (o':=1) (cs:=[.sl (n6 + 1 + 1) [vL 5 0 0 comV,vcs 7 0 0 [] (n6 + 1) [vcs 9 6 0 [] n6 [vL 3 0 0 []],vL 3 1 0 []]]]) rfl rfl rfl ⟨rfl,Nat.le_of_ble_eq_true rfl⟩ rfl ?_;refine mN ?_;exact ⟨c2,nt,n6 + 1 + 1,_,_,_,hc2,⟨rfl,rfl,rfl,trivial⟩,rfl,hN.up.up.up,hK1.er,hQ0.1,by decide,fun x hx => (hK1.mem x hx).mono (by decide)⟩
 clear hN hc hQ0;rintro tm bx n1 l1 ⟨c1,t1,t2,ns,vs,rows,hc1,ht,hbx,hN,her,hQ⟩;obtain ⟨tm1,rfl⟩:=zac ht;simp only at hbx hN; subst hbx
 clear ht;refine zan (DdI b nt live) ?_ ?_
 ·refine mQ ?_
  refine po_g rfl ((za6 (T:=T) (hT:=hT) hb 5).use ⟨trivial,trivial⟩ hc1 (hN.n2 hn) (p:=0) rfl) ?_;rintro x bx n5 l5 ⟨c5,rfl,hc5,r,rfl,r0,r1,hN5⟩;have hN:=hN.pass hN5;have hn5:=hN.n2 hn;refine zaa ?_;refine zab ?_;refine mO ?_;by_cases k0:r = 0
  ·refine zah rfl rfl (beq_iff_eq.2 k0) ?_
   refine mT ?_;refine zaf ?_;refine mS ?_;refine po_g rfl ((nms_drw (T:=T) (hT:=hT) hb).use trivial hc5 hn5 (p:=0) rfl) ?_;rintro x bx n6 l6 ⟨c6,rfl,hc6,q,ss,rfl,hq,hN6,hss⟩;refine mS ?_;refine zaw (p:=2) (o':=0) (cs:=[.sl q (pSr ss)]) rfl rfl rfl ⟨rfl,Nat.le_of_ble_eq_true rfl⟩ rfl ?_;refine mN ?_;exact ⟨c6,q,t2,ss,vs,rows,hc6,⟨rfl,rfl,rfl,trivial⟩,rfl,hN.pass hN6.forget,her,hss,hQ.2⟩
  refine zal rfl rfl (beq_eq_false_iff_ne.2 k0) ?_;refine mF ?_;refine mO ?_;by_cases k1:r = 1
  ·refine zah rfl rfl (beq_iff_eq.2 k1) ?_
   refine mT ?_;refine zaf ?_;refine mS ?_;refine po_g rfl ((tab_drw (T:=T) (hT:=hT) hb).use trivial hc5 hn5 (p:=0) rfl) ?_;rintro x bx n6 l6 ⟨c6,rfl,hc6,q,out,ks,rfl,hN6,hq,heo,hlo,hgo⟩;refine mS ?_;refine zaw (p:=2) (o':=1) (cs:=[.sl q out]) rfl rfl rfl ⟨rfl,Nat.le_of_ble_eq_true rfl⟩ rfl ?_;refine mN ?_;exact ⟨c6,t1,q,ns,ks,out,hc6,⟨rfl,rfl,rfl,trivial⟩,rfl,hN.pass hN6.forget,heo,hQ.1,hlo,hgo⟩
  refine zal rfl rfl (beq_eq_false_iff_ne.2 k1) ?_;refine mK ?_;exact ⟨c5,t1,t2,ns,vs,rows,hc5,⟨rfl,rfl,rfl,trivial⟩,rfl,hN,her,hQ⟩
 clear hN hc1 her hQ;rintro tm bx n1 l1 ⟨c1,t1,t2,ns,vs,rows,hc1,ht,hbx,hN,her,hQ⟩;obtain ⟨tm2,rfl⟩:=zac ht;simp only at hbx hN; subst hbx
 clear ht tm1;refine mO ?_;refine zaE (p:=2) (cs:=[.sl t1 (pSr ns),.sl t2 rows]) rfl rfl rfl rfl ?_;refine zar (p:=1) (cs:=[.sl t1 (pSr ns),.sl t2 rows]) rfl rfl rfl rfl rfl rfl ?_;refine mN ?_;have hlw:lwL 0 [PC.sl t1 (pSr ns),.sl t2 rows]:=⟨pSr_lw 0 ns,slw t2 her,trivial⟩;exact zae ⟨.inr rfl,[.ag [.sl t1 (pSr ns),.sl t2 rows]],rfl,c1,_,rfl,hlw,hc1.lw,hc1,ns,vs,_,rfl,dcs_er t1 t2 her,hQ,hN⟩
/-! ### a bent text -/
def BnR (b:L8) (m nt:Nat) (live:List Nat) (x:PV) (bx:LP PC) (n:Nat) (l:List Nat):Prop:=∃ c' rest,bx = c' :: rest /\ x.lw 0 /\ lwL 0 c' /\ Cu b c' /\ QT (fun r => r.length <= m) nt live x n l
theorem bnR_of {b:L8} {m nt n:Nat} {live l:List Nat} {c:List PC} {rest:LP PC} {r:L8} (hc:Cu b c) (hN:NR nt live n l []) (hr:r.length <= m):BnR b m nt live (.d (pS r)) (c :: rest) n l:=⟨c,rest,rfl,trivial,hc.lw,hc,r,rfl,hr,hN⟩
def BnI (b s:L8) (nt:Nat) (live:List Nat) (st:St):Prop:=∃ c:List PC,Cu b c /\ has st.tm [(1,.d (pS s))] /\ st.bx = [c] /\ NR nt live st.nt st.live []
theorem bent_drw {b:L8} (hb:b.length <= 2147483647) (s:L8) (hs:s.length <= 2147483647):Drw (env T hT) b 20 [.d (pS s)] (QT fun r => r.length <= s.length + 1):=by
 rintro c nt live hc hn;refine zaG (R:=BnR b (s.length + 1) nt live) (zaj zhf) (by show 2 <= 50; decide) fun B hB' => ?_
 unfold m_s_l01Bent;refine mP ?_;refine mO ?_;(iterate 2 refine mS ?_);refine po_s (v:=.d (pI s.length)) rfl rfl rfl ?_;refine zam (n:=((s.length + 1:Nat):Int)) rfl rfl rfl (by omega) (by omega) ?_;refine po_g rfl ((za6 (T:=T) (hT:=hT) hb ((s.length + 1:Nat):Int)).use ⟨trivial,trivial⟩ hc hn (p:=0) rfl) ?_;rintro x bx n1 l1 ⟨c1,rfl,hc1,i,rfl,i0,i1,hN⟩;obtain ⟨k,rfl⟩:∃ k:Nat,i = k:=⟨i.toNat,by omega⟩;have hk:k <= s.length:=by omega
 refine mN ?_;refine zan (BnI b s nt live) ?_ ?_
 ·refine mQ ?_
  refine po_g rfl ((za6 (T:=T) (hT:=hT) hb 8).use ⟨trivial,trivial⟩ hc1 (hN.n2 hn) (p:=0) rfl) ?_;rintro x bx n5 l5 ⟨c5,rfl,hc5,r,rfl,r0,r1,hN5⟩;have hN:=hN.pass hN5;have hn5:=hN.n2 hn;refine zaa ?_;refine zab ?_;refine mO ?_;by_cases k0:r = 0
  ·refine zah rfl rfl (beq_iff_eq.2 k0) ?_
   refine mT ?_;refine mO ?_;(iterate 2 refine mS ?_);refine zbU (l:=s) (a:=0) (b:=k) (rs:=s.take k) rfl rfl rfl (zaD (i:=(k:Int)) rfl rfl) ⟨Nat.zero_le _,hk⟩ (by simp) ?_;refine mN ?_;exact zae ⟨.inr rfl,[.d (pS (s.take k))],rfl,bnR_of hc5 hN (by rw [length_take]; omega)⟩
  refine zal rfl rfl (beq_eq_false_iff_ne.2 k0) ?_;refine mF ?_;refine mO ?_;by_cases k1:r = 1
  ·refine zah rfl rfl (beq_iff_eq.2 k1) ?_
   refine mT ?_;refine mO ?_;(iterate 2 refine mS ?_);refine zbU (l:=s) (a:=0) (b:=k) (rs:=s.take k) rfl rfl rfl (zaD (i:=(k:Int)) rfl rfl) ⟨Nat.zero_le _,hk⟩ (by simp) ?_;(iterate 3 refine mS ?_);refine zbU (l:=s) (a:=k) (b:=s.length) (rs:=s.drop k) rfl rfl (zaD (i:=(k:Int)) rfl rfl) rfl ⟨hk,lR⟩ (by rw [<- length_drop,take_length]) ?_;refine zaq rfl ?_;refine po_g rfl ((zd9 (T:=T) (hT:=hT) hb (fun s => decide (s.length <= 1)) rfl (by show 0 < 8; decide)).use ⟨by simp only [PV.lw,PC.lw]; exact zeC (p:=fun s => decide (s.length <= 1)) rfl,trivial⟩ hc5 (by omega) (p:=0) rfl) ?_;rintro x bx n6 l6 ⟨c6,rfl,hc6,r6,rfl,hr6,hN6⟩;have hr6:=of_decide_eq_true hr6;refine zax (la:=s.take k) (lb:=r6) rfl rfl rfl (by rw [length_take]; omega) ?_;refine zax (la:=s.take k ++ r6) (lb:=s.drop k) rfl rfl rfl (by rw [length_append,length_take,length_drop]; omega) ?_
   refine mN ?_;exact zae ⟨.inr rfl,[.d (pS (s.take k ++ r6 ++ s.drop k))],rfl,bnR_of hc6 (hN.up.pass hN6) (by rw [length_append,length_append,length_take,length_drop]; omega)⟩
  refine zal rfl rfl (beq_eq_false_iff_ne.2 k1) ?_;refine mF ?_;refine mO ?_;by_cases k2:r = 2
  ·refine zah rfl rfl (beq_iff_eq.2 k2) ?_
   refine mT ?_;refine mO ?_;(iterate 2 refine mS ?_);refine po_s (v:=.d (pI s.length)) rfl rfl rfl ?_;refine po_b rfl rfl (fun p hp => ?_);refine zaa ?_;refine zaZ (p:=(k:Int) < s.length) hp rfl (fun him _ => ?_) (fun him _ => ?_)
   ·have hk1:k + 1 <= s.length:=by omega
    refine mO ?_;(iterate 2 refine mS ?_);refine zbU (l:=s) (a:=0) (b:=k) (rs:=s.take k) rfl rfl rfl (zaD (i:=(k:Int)) rfl rfl) ⟨Nat.zero_le _,hk⟩ (by simp) ?_;(iterate 3 refine mS ?_);refine zam (n:=((k + 1:Nat):Int)) rfl rfl rfl (by omega) (by omega) ?_;refine zbU (l:=s) (a:=k + 1) (b:=s.length) (rs:=s.drop (k + 1)) rfl rfl (zaD (i:=((k + 1:Nat):Int)) rfl rfl) rfl ⟨hk1,lR⟩ (by rw [<- length_drop,take_length]) ?_;refine zaq rfl ?_;refine po_g rfl ((zd9 (T:=T) (hT:=hT) hb (fun s => decide (s.length <= 1)) rfl (by show 0 < 5; decide)).use ⟨by simp only [PV.lw,PC.lw]; exact zeC (p:=fun s => decide (s.length <= 1)) rfl,trivial⟩ hc5 (by omega) (p:=0) rfl) ?_;rintro x bx n6 l6 ⟨c6,rfl,hc6,r6,rfl,hr6,hN6⟩;have hr6:=of_decide_eq_true hr6;refine zax (la:=s.take k) (lb:=r6) rfl rfl rfl (by rw [length_take]; omega) ?_;refine zax (la:=s.take k ++ r6) (lb:=s.drop (k + 1)) rfl rfl rfl (by rw [length_append,length_take,length_drop]; omega) ?_
    refine mN ?_;exact zae ⟨.inr rfl,[.d (pS (s.take k ++ r6 ++ s.drop (k + 1)))],rfl,bnR_of hc6 (hN.up.pass hN6) (by rw [length_append,length_append,length_take,length_drop]; omega)⟩
   ·refine zai ?_
    exact ⟨c5,hc5,⟨rfl,trivial⟩,rfl,hN⟩
  refine zal rfl rfl (beq_eq_false_iff_ne.2 k2) ?_;refine mK ?_;exact ⟨c5,hc5,⟨rfl,trivial⟩,rfl,hN⟩
 rintro tm bx n2 l2 ⟨c2,hc2,ht,hbx,hN2⟩;obtain ⟨tm1,rfl⟩:=zac ht;simp only at hbx hN2; subst hbx
 clear ht;refine mP ?_;exact zae ⟨.inr rfl,[.d (pS s)],rfl,bnR_of hc2 hN2 (Nat.le_succ _)⟩
/-! ### the draws -/
theorem drawDO_f {b:L8} (hb:b.length <= 2147483647):Fn (env T hT) 5 [.d (.sl 0 (pcB b))] (fun x _ => ∃ ns vs,x.dat = some (.ag (dC ns vs)) /\ DcQ ns vs):=by
 refine zaW (zaj zeK) (by show 1 <= 6; decide) fun B hB => ?_
 unfold m_s_DrawDictOk;refine mP ?_;refine mQ ?_;refine po_g rfl (new_l (T:=T) (hT:=hT) hb 2 []) ?_;rintro x bx n l ⟨c,rfl,rfl,hc,rfl,rfl⟩;refine po_g rfl ((zf4 (T:=T) (hT:=hT) hb).use trivial hc (Nat.le_refl 2) (p:=1) rfl) ?_;rintro x bx n l ⟨c',rfl,hc',ns,vs,cs,rfl,he,hQ,hN⟩;have hl:cs.length = 2:=by have:=congrArg length he; rw [zbj,length_map] at this; exact this
 refine zar (p:=0) (cs:=cs) rfl rfl rfl hl rfl rfl ?_;refine mN ?_;exact zae ⟨.inr rfl,[.ag cs],zck rfl rfl hl,ns,vs,by rw [<- he]; rfl,hQ⟩
theorem drawPD_f {b:L8} (hb:b.length <= 2147483647):Fn (env T hT) 6 [.d (.sl 0 (pcB b))] (fun x _ => ∃ ns vs,x.dat = some (.ag (dC ns vs)) /\ DcQ ns vs):=by
 refine zaW (zaj zdZ) (by show 1 <= 6; decide) fun B hB => ?_
 unfold m_s_DrawPutDict;refine mP ?_;refine mQ ?_;refine po_g rfl (new_l (T:=T) (hT:=hT) hb 2 []) ?_;rintro x bx n l ⟨c,rfl,rfl,hc,rfl,rfl⟩;refine po_g rfl ((zf4 (T:=T) (hT:=hT) hb).use trivial hc (Nat.le_refl 2) (p:=1) rfl) ?_;rintro x bx n l ⟨c',rfl,hc',ns,vs,cs,rfl,he,hQ,hN⟩;have hl:cs.length = 2:=by have:=congrArg length he; rw [zbj,length_map] at this; exact this
 refine zar (p:=0) (cs:=cs) rfl rfl rfl hl rfl rfl ?_;refine mN ?_;exact zae ⟨.inr rfl,[.ag cs],zck rfl rfl hl,ns,vs,by rw [<- he]; rfl,hQ⟩
theorem zhh (ns:List (L8)) (vs:List V):(dictP ns vs).length <= 70000000:=by
 unfold dictP
 cases h:(nmsB ns && tabB vs) with
 | false => simp
 | true =>
  rw [Bool.and_eq_true] at h;have h1:=zcf h.1 ns.length;have h2:=zdG h.2 vs.length;have h3:=za3 4 ns.length;have h4:=za3 4 vs.length;rw [take_length] at h1 h2;simp only [if_true,dictT,length_append]; omega
theorem drawGD_f {b:L8} (hb:b.length <= 2147483647):Fn (env T hT) 8 [.d (.sl 0 (pcB b))] (fun x _ => ∃ s:L8,x.dat = some (.d (pS s)) /\ s.length <= 80000000):=by
 refine zaW (zaj zd0) (by show 1 <= 11; decide) fun B hB => ?_
 unfold m_s_DrawGetDict;refine mP ?_;refine mQ ?_;refine po_g rfl (new_l (T:=T) (hT:=hT) hb 2 []) ?_;rintro x bx n l ⟨c,rfl,rfl,hc,rfl,rfl⟩;refine mN ?_;refine mO ?_;(iterate 2 refine mS ?_);refine po_g rfl ((zf4 (T:=T) (hT:=hT) hb).use trivial hc (Nat.le_refl 2) (p:=0) rfl) ?_;rintro x bx n l ⟨c1,rfl,hc1,ns,vs,cs,rfl,he,hQ,hN⟩;have hlen:=zhh ns vs;refine zad (dats_d rfl he) (zcL (T:=T) (hT:=hT) ns vs hQ.sm) ?_;refine po_g rfl ((bent_drw (T:=T) (hT:=hT) hb (dictP ns vs) (by omega)).use ⟨trivial,trivial⟩ hc1 (hN.n2 (Nat.le_refl 2)) (p:=0) rfl) ?_;rintro x bx n l ⟨c2,rfl,hc2,s,rfl,hs,hN2⟩;refine mN ?_;exact zae ⟨.inr rfl,[.d (pS s)],rfl,s,rfl,by omega⟩
def fV (k n e:Int) (s:L8):List PC:=[pI k,pI n,pI e,pS s,.sl 1 []]
theorem fV_er (k n e:Int) (s:L8):erL (fV k n e s) = vC (.mk k n e s []):=rfl
theorem zbe (k n e:Int) (s:L8) (a b:Nat):NewL a b (fV k n e s):=⟨rfl,nodup_nil,fun t ht => by cases ht⟩
theorem zbK (k n e:Int) (s:L8):toksL (fV k n e s) = []:=rfl
def strV (s:L8) (i:Nat) (kind:Int) (many:Nat) (ok:Bool):PV:=if ok = true /\ (many:Int) <= s.length - i then .tup [.ag (fV kind 0 0 ((s.drop i).take many)),.d (pI ((i + many:Nat):Int))] else .tup [.ag (fV 0 0 0 []),.d (pI (-1))]
def Same (s:L8) (left:Int) (nt:Nat) (live:List Nat) (y x:PV) (b:LP PC) (n:Nat) (l:List Nat):Prop:=∃ c' rest,b = c' :: rest /\ x.lw 0 /\ lwL 0 c' /\ (c' = [pS s,pI left] /\ n = nt /\ l = live /\ x = y)
theorem str_g (s:L8) (left:Int) (i:Nat) (kind:Int) (many:Nat) (ok:Bool) (hi:i <= 4611686018427387904) (hm:many <= 4611686018427387904) (hs:s.length <= 4611686018427387904) (nt:Nat) (live:List Nat) :
  FnG (env T hT) 114 [.ref 0 0,.d (pI i),.d (pI kind),.d (pI many),.d (pB ok)] [[pS s,pI left]] nt live (Same s left nt live (strV s i kind many ok)):=by
 refine zaG (zaj zh0) (by show 5 <= 40; decide) fun B hB => ?_
 unfold m_s_l06Str;refine mP ?_;refine mM ?_;refine mS ?_
 cases ok with
 | false =>
  refine po_q (v:=.d (pB true)) rfl rfl ?_;refine mS ?_;refine mZ ?_;refine mT ?_;refine mQ ?_;refine zar (p:=1) (cs:=fV 0 0 0 []) rfl rfl rfl rfl rfl rfl ?_;refine mN ?_;refine zae ⟨.inr rfl,[.ag (fV 0 0 0 []),.d (pI (-1))],rfl,_,_,rfl,⟨⟨trivial,trivial,trivial,trivial,trivial,trivial⟩,trivial,trivial⟩,⟨trivial,trivial,trivial⟩,rfl,rfl,rfl,?_⟩
  unfold strV; rw [if_neg (fun h => by cases h.1)]; rfl
 | true =>
  refine po_q (v:=.d (pB false)) rfl rfl ?_;(iterate 6 refine mS ?_);refine po_q (v:=.d (pI s.length)) rfl rfl ?_;refine mS ?_;refine zaK (n:=(s.length:Int) - i) rfl rfl rfl rfl (by omega) ?_;by_cases h:(many:Int) <= s.length - i
  ·refine zal rfl rfl (decide_eq_false (show ¬ (many:Int) > s.length - i by omega)) ?_
   refine mK ?_;refine mO ?_;(iterate 8 refine mS ?_);refine zam (n:=((i + many:Nat):Int)) rfl rfl rfl (by omega) (by omega) ?_;refine zbU (a:=i) (b:=i + many) (rs:=(s.drop i).take many) rfl rfl (zaD rfl rfl) (zaD rfl rfl) (by omega) (by rw [Nat.add_sub_cancel_left]) ?_;refine mS ?_;(iterate 2 refine mS ?_);refine zam (n:=((i + many:Nat):Int)) rfl rfl rfl (by omega) (by omega) ?_;refine zar (p:=1) (cs:=fV kind 0 0 ((s.drop i).take many)) rfl rfl rfl rfl rfl rfl ?_;refine mN ?_;refine zae ⟨.inr rfl,[.ag (fV kind 0 0 ((s.drop i).take many)),.d (pI ((i + many:Nat):Int))],rfl,_,_,rfl,⟨⟨trivial,trivial,trivial,trivial,trivial,trivial⟩,trivial,trivial⟩,⟨trivial,trivial,trivial⟩,rfl,rfl,rfl,?_⟩;unfold strV; rw [if_pos ⟨rfl,h⟩]; rfl
  ·refine zah rfl rfl (decide_eq_true (show (many:Int) > s.length - i by omega)) ?_
   refine mT ?_;refine mQ ?_;refine zar (p:=1) (cs:=fV 0 0 0 []) rfl rfl rfl rfl rfl rfl ?_;refine mN ?_;refine zae ⟨.inr rfl,[.ag (fV 0 0 0 []),.d (pI (-1))],rfl,_,_,rfl,⟨⟨trivial,trivial,trivial,trivial,trivial,trivial⟩,trivial,trivial⟩,⟨trivial,trivial,trivial⟩,rfl,rfl,rfl,?_⟩;unfold strV; rw [if_neg (fun hh => h hh.2)]; rfl
def wideN (s:L8) (i:Nat) (b:Nat):Int:=if b ≥ 208 then sgw (gwN s i (2 ^ (b % 4))) (2 ^ (b % 4)) else gwN s i (2 ^ (b % 4))
def wideV (s:L8) (i:Nat) (b:Nat):PV:=if i + 2 ^ (b % 4) <= s.length then .tup [.ag (vC (.mk 3 (wideN s i b) 0 [] [])),.d (pI ((i + 2 ^ (b % 4):Nat):Int))] else .tup [.ag (fV 0 0 0 []),.d (pI (-1))]
theorem pow24 (b:Nat):1 <= 2 ^ (b % 4) /\ 2 ^ (b % 4) <= 8 /\ ([[pI 1],[pI 2],[pI 4],[pI 8]]:LP PC)[b % 4]? = some [pI (2 ^ (b % 4):Nat)]:=by
 have h:b % 4 = 0 \/ b % 4 = 1 \/ b % 4 = 2 \/ b % 4 = 3:=by omega
 rcases h with h | h | h | h <;> rw [h] <;> exact ⟨by decide,by decide,rfl⟩
theorem wide_g (s:L8) (left:Int) (i b:Nat) (hb:b < 256) (hi:i <= 4611686018427387800) (hs:s.length <= 4611686018427387904) (nt:Nat) (live:List Nat) :
  FnG (env T hT) 115 [.ref 0 0,.d (pI i),.d (pI b)] [[pS s,pI left]] nt live (fun x bx n l => ∃ c' rest,bx = c' :: rest /\ x.lw 0 /\ lwL 0 c' /\ (c' = [pS s,pI left] /\ n = nt + 1 /\ l = nt :: live /\ x = wideV s i b)):=by
 obtain ⟨p1,p2,p3⟩:=pow24 b;refine zaG (zaj zha) (by show 3 <= 39; decide) fun B hB => ?_
 unfold m_s_l06Wide;refine mP ?_;refine mO ?_;refine zaq (es:=[[pI 1],[pI 2],[pI 4],[pI 8]]) rfl ?_;refine mS ?_
 have hand:bits .and .i64 (b:Int) 3 = ((b % 4:Nat):Int):=by
  rw [zbO b 2 (by decide) 3 (by decide)]; simp
 refine po_q (v:=.d (pI ((b % 4:Nat):Int))) rfl (by show some (PV.d (.v (.int .i64 (bits .and .i64 (b:Int) 3)))) = _; rw [hand]; rfl) ?_;refine zaH (es:=[[pI 1],[pI 2],[pI 4],[pI 8]]) (e:=[pI (2 ^ (b % 4):Nat)]) rfl rfl rfl ⟨by omega,by rw [Int.toNat_natCast]; exact p3⟩ rfl ?_;refine mN ?_;refine mO ?_;(iterate 6 refine mS ?_);refine zad (args:=[.d (pS s),.d (pI i),.d (pI (2 ^ (b % 4):Nat))]) rfl (zh3 s i (2 ^ (b % 4)) ⟨p1,p2⟩ (by omega) hs) ?_;unfold gwV wideV;by_cases h:i + 2 ^ (b % 4) <= s.length
 ·rw [if_pos h,if_pos h]
  refine mN ?_;refine mM ?_;refine mK ?_;refine zan (fun st => has st.tm [(0,.ref 0 0),(1,.d (pI i)),(6,.ref 1 0),(8,.d (pI (2 ^ (b % 4):Nat))),(9,.d (pI (wideN s i b)))] /\ st.bx = [[pS s,pI left],fV 0 0 0 []] /\ st.nt = nt + 1 /\ st.live = nt :: live) ?_ ?_
  ·refine mQ ?_
   refine po_b rfl rfl (fun b1 hb1 => ?_);refine zaa ?_;refine zaZ (p:=(b:Int) ≥ 208) hb1 rfl (fun h8 _ => ?_) (fun h8 _ => ?_)
   ·refine zaf ?_
    (iterate 2 refine mS ?_);refine zad (args:=[.d (pI (gwN s i (2 ^ (b % 4)))),.d (pI (2 ^ (b % 4):Nat))]) rfl (sgn_fn (gwN s i (2 ^ (b % 4))) (2 ^ (b % 4)) ⟨p1,p2⟩) ?_;refine mN ?_;exact ⟨⟨rfl,rfl,rfl,rfl,by unfold wideN; rw [if_pos (by omega)]; rfl,trivial⟩,rfl,rfl,rfl⟩
   ·refine zai ?_
    exact ⟨⟨rfl,rfl,rfl,rfl,by unfold wideN; rw [if_neg (by omega)]; rfl,trivial⟩,rfl,rfl,rfl⟩
  rintro tm bx n1 l1 ⟨ht,rfl,rfl,rfl⟩;obtain ⟨tm0,rfl⟩:=zac ht;refine mQ ?_;refine zad (args:=[.d (pI (wideN s i b))]) rfl (int_fn (wideN s i b)) ?_;(iterate 2 refine mS ?_);refine zam (n:=((i + 2 ^ (b % 4):Nat):Int)) rfl rfl rfl (by omega) (by omega) ?_;refine zar (p:=1) (cs:=vC (.mk 3 (wideN s i b) 0 [] [])) rfl rfl rfl rfl rfl rfl ?_;refine mN ?_;exact zae ⟨.inr rfl,[.ag (vC (.mk 3 (wideN s i b) 0 [] [])),.d (pI ((i + 2 ^ (b % 4):Nat):Int))],rfl,_,_,rfl,⟨⟨trivial,trivial,trivial,trivial,trivial,trivial⟩,trivial,trivial⟩,⟨trivial,trivial,trivial⟩,rfl,rfl,rfl,rfl⟩
 ·rw [if_neg h,if_neg h]
  refine mN ?_;refine mM ?_;refine mT ?_;refine mQ ?_;refine zar (p:=1) (cs:=fV 0 0 0 []) rfl rfl rfl rfl rfl rfl ?_;refine mN ?_;exact zae ⟨.inr rfl,[.ag (fV 0 0 0 []),.d (pI (-1))],rfl,_,_,rfl,⟨⟨trivial,trivial,trivial,trivial,trivial,trivial⟩,trivial,trivial⟩,⟨trivial,trivial,trivial⟩,rfl,rfl,rfl,rfl⟩
def GotV (s:L8) (d left:Int) (i nt:Nat) (live:List Nat) (x:PV) (left':Int) (nt':Nat) (live':List Nat):Prop :=
 ∃ (cs:List PC) (next:Int),x = .tup [.ag cs,.d (pI next)] /\ cs.length = 5 /\ NewL nt nt' cs /\ (∀ t ∈ toksL cs,t ∈ live') /\ (∀ t ∈ live,2 <= t -> t < nt -> t ∈ live') /\ nt <= nt' /\ (-1 <= left' /\ left' <= left) /\
 (next = -1 \/ ∃ (j:Nat) (u:V),next = j /\ erL cs = vC u /\ u.wf /\ i < j /\ j <= s.length /\ u.bulk + 1 <= 2 * (j - i) /\ 0 <= left') /\
 (∀ v:V,v.wf -> v.rightBy pairsOk (12 - d) = true -> (v.nodes:Int) <= left -> At s i (msg v) -> next = ((i + (msg v).length:Nat):Int) /\ erL cs = vC v /\ left' = left - v.nodes)
def GotK (s:L8) (d left kind many:Int) (ok:Bool) (i nt:Nat) (live:List Nat) (x:PV) (left':Int) (nt':Nat) (live':List Nat):Prop :=
 ∃ (cs:List PC) (next:Int),x = .tup [.ag cs,.d (pI next)] /\ cs.length = 5 /\ NewL nt nt' cs /\ (∀ t ∈ toksL cs,t ∈ live') /\ (∀ t ∈ live,2 <= t -> t < nt -> t ∈ live') /\ nt <= nt' /\ (-1 <= left' /\ left' <= left) /\
 (next = -1 \/ ∃ (j:Nat) (vs:List V),next = j /\ erL cs = vC (.mk kind 0 0 [] vs) /\ V.wfs vs /\ (vs.length:Int) = many /\ many <= 600 /\ i <= j /\ j <= s.length /\ V.bulks vs + vs.length <= 2 * (j - i) /\ 0 <= left' /\ ok = true) /\
 (∀ us:List V,V.wfs us -> V.rightsBy pairsOk (12 - d - 1) us = true -> (V.nodess us:Int) <= left -> (us.length:Int) = many -> ok = true -> At s i (msgs us) -> next = ((i + (msgs us).length:Nat):Int) /\ erL cs = vC (.mk kind 0 0 [] us) /\ left' = left - V.nodess us)
def GetG (T:World -> Prop) (hT:Low ngl T) (s:L8) (d:Int):Prop:=∀ (i:Nat) (left:Int) (nt:Nat) (live:List Nat),i <= s.length -> 0 <= left -> left <= 300 -> 2 <= nt ->
 FnG (env T hT) 88 [.ref 0 0,.d (pI i),.d (pI d)] [[pS s,pI left]] nt live (fun x b n l => ∃ c' rest,b = c' :: rest /\ x.lw 0 /\ lwL 0 c' /\ ∃ left',c' = [pS s,pI left'] /\ GotV s d left i nt live x left' n l)
def KidsG (T:World -> Prop) (hT:Low ngl T) (s:L8) (d:Int):Prop:=∀ (i:Nat) (left kind many:Int) (ok:Bool) (nt:Nat) (live:List Nat),(ok = true -> i <= s.length) -> i <= 4611686018427387904 -> 0 <= left -> left <= 300 -> 2 <= nt -> 0 <= many -> i64ok kind ->
 FnG (env T hT) 113 [.ref 0 0,.d (pI i),.d (pI kind),.d (pI many),.d (pB ok),.d (pI d)] [[pS s,pI left]] nt live (fun x b n l => ∃ c' rest,b = c' :: rest /\ x.lw 0 /\ lwL 0 c' /\ ∃ left',c' = [pS s,pI left'] /\ GotK s d left kind many ok i nt live x left' n l)
theorem zb1 (s:L8) (left:Int):lwL 0 [pS s,pI left]:=⟨trivial,trivial,trivial⟩
theorem zbE {cs:List PC} {a b:Nat} (h:NewL a b cs) (n:Int):PV.lw 0 (.tup [.ag cs,.d (pI n)]):=⟨zaX h.own,trivial,trivial⟩
theorem V.wfs_app:∀ {a b:List V},V.wfs a -> V.wfs b -> V.wfs (a ++ b)
 | [],_,_,hb => hb
 | _ :: _,_,ha,hb => ⟨ha.1,V.wfs_app ha.2 hb⟩
theorem V.bulks_app:∀ a b:List V,V.bulks (a ++ b) = V.bulks a + V.bulks b
 | [],b => by simp [V.bulks]
 | x :: a,b => by simp only [cons_append,V.bulks,V.bulks_app a b]; omega
theorem V.nodess_app:∀ a b:List V,V.nodess (a ++ b) = V.nodess a + V.nodess b
 | [],b => by simp [V.nodess]
 | x :: a,b => by simp only [cons_append,V.nodess,V.nodess_app a b]; omega
theorem nodess_take (us:List V) (k:Nat) (h:k < us.length):V.nodess us = V.nodess (us.take k) + (us[k].nodes + V.nodess (us.drop (k + 1))):=by
 have e:us = us.take k ++ (us[k] :: us.drop (k + 1)):=by rw [<- drop_eq_getElem_cons h,take_append_drop]
 have:=congrArg V.nodess e
 rw [V.nodess_app] at this;simpa only [V.nodess] using this
theorem zia {s:L8} {i:Nat} {us:List V} (h:At s i (msgs us)) (k:Nat) (hk:k < us.length):At s (i + (msgs (us.take k)).length) (msg us[k]):=by
 have e:us = us.take k ++ (us[k] :: us.drop (k + 1)):=by rw [<- drop_eq_getElem_cons hk,take_append_drop]
 rw [e,zfB] at h;have h2:=h.app.2;simp only [msgs] at h2;exact h2.app.1
theorem OwnL.mono2 {nt nt':Nat} {live live':List Nat} {cs:List PC} (h:OwnL nt live cs) (hn:nt <= nt') (hl:∀ t ∈ live,2 <= t -> t < nt -> t ∈ live'):OwnL nt' live' cs :=
 ⟨h.own,h.nd,fun t ht => ⟨hl t (h.mem t ht).1 (zbN cs t ht) (h.mem t ht).2,Nat.lt_of_lt_of_le (h.mem t ht).2 hn⟩⟩
theorem pI_inj {a b:Int} (h:pI a = pI b):a = b:=by simpa [pI] using h
theorem pS_inj {a b:L8} (h:pS a = pS b):a = b:=by simpa [pS] using h
mutual
theorem zfc:∀ {a b:V},vC a = vC b -> a = b
 | .mk k n e s ks,.mk k' n' e' s' ks',h => by
  simp only [vC,cons.injEq,V.kind,V.num,V.exp,V.text,V.kids,PC.sl.injEq,true_and,and_true] at h;obtain ⟨h1,h2,h3,h4,h5⟩:=h;rw [zcj,zcj] at h5
  obtain rfl:=pI_inj h1; obtain rfl:=pI_inj h2; obtain rfl:=pI_inj h3; obtain rfl:=pS_inj h4; obtain rfl:=vCs_inj h5
  rfl
theorem vCs_inj:∀ {a b:List V},a.map vC = b.map vC -> a = b
 | [],[],_ => rfl
 | [],_ :: _,h => by simp at h
 | _ :: _,[],h => by simp at h
 | x :: a,y :: b,h => by
  simp only [map_cons,cons.injEq] at h;rw [zfc h.1,vCs_inj h.2]
end
def KdP (s:L8) (d left _kind many:Int) (i _nt:Nat) (_live:List Nat) (k:Nat) (vs:List V) (j:Nat) (left':Int):Prop :=
 vs.length = k /\ V.wfs vs /\ i <= j /\ j <= s.length /\ V.bulks vs + vs.length <= 2 * (j - i) /\ 0 <= left' /\ left' <= left /\
 (∀ us:List V,V.wfs us -> V.rightsBy pairsOk (12 - d - 1) us = true -> (V.nodess us:Int) <= left -> (us.length:Int) = many -> At s i (msgs us) -> us.take k = vs /\ j = i + (msgs vs).length /\ left' = left - V.nodess vs)
def KdI (s:L8) (d left kind many:Int) (i nt:Nat) (live:List Nat) (m:Nat) (st:St):Prop:=∃ (k:Nat) (vs:List V) (j tk:Nat) (rows rest:LP PC) (left':Int),(k:Int) <= many /\ (m:Int) = many - k /\
 has st.tm [(0,.ref 0 0),(1,.d (pI j)),(3,.d (pI many)),(5,.d (pI d)),(12,.ref 1 0),(14,.ref 2 0),(15,.d (pI k))] /\
 st.bx = [pS s,pI left'] :: fV 0 0 0 [] :: [pI kind,pI 0,pI 0,pS [],.sl tk rows] :: rest /\ erLL rows = vK vs /\ (tk = 1 /\ rows = [] \/ 2 <= tk) /\ OwnL st.nt st.live ([pI kind,pI 0,pI 0,pS []] ++ .sl tk rows :: []) /\ (∀ t ∈ toksL [pI kind,pI 0,pI 0,pS [],.sl tk rows],nt <= t) /\ nt <= st.nt /\ (∀ t ∈ live,2 <= t -> t < nt -> t ∈ st.live) /\
 KdP s d left kind many i nt live k vs j left'
theorem ownNew {nt a:Nat} {l:List Nat} {cs:List PC} (h:OwnL a l cs) (ho:∀ t ∈ toksL cs,nt <= t):NewL nt a cs:=⟨h.own,h.nd,fun t ht => ⟨ho t ht,(h.mem t ht).2⟩⟩
theorem kids_g {s:L8} (hs:s.length <= 2147483647) {d:Int} (hd:0 <= d /\ d <= 13) (hG:GetG T hT s (d + 1)):KidsG T hT s d:=by
 intro i left kind many ok nt live hi hi2 hl0 hl hnt hmany hkind;refine zaG (zaj zg9) (by show 6 <= 52; decide) fun B hB => ?_
 unfold m_s_l06Kids;refine mP ?_;refine mO ?_;(iterate 2 refine mS ?_);refine zbI (cs:=fV kind 0 0 []) rfl rfl rfl rfl ?_;refine zaa ?_;refine mM ?_;refine mS ?_
 have hfail:∀ (hc:ok = false \/ many > 600),GotK s d left kind many ok i nt live (.tup [.ag (fV kind 0 0 []),.d (pI (-1))]) left nt live:=fun hc =>
  ⟨_,_,rfl,rfl,zbe _ _ _ _ _ _,(fun t ht => by rw [zbK] at ht; cases ht),fun t ht _ _ => ht,lR,by omega,.inl rfl,(fun us h1 h2 h3 h4 h5 h6 => by
   have:=V.kids_nodes us
   rcases hc with hc | hc
   ·rw [hc] at h5; cases h5
   ·omega)⟩
 cases ok with
 | false =>
  refine po_q (v:=.d (pB true)) rfl rfl ?_;refine mS ?_;refine mZ ?_;refine mT ?_;refine mQ ?_;refine zar (p:=1) (cs:=fV kind 0 0 []) rfl rfl rfl rfl rfl rfl ?_;refine mN ?_
  exact zae ⟨.inr rfl,[.ag (fV kind 0 0 []),.d (pI (-1))],rfl,_,_,rfl,zbE (zbe _ _ _ _ nt nt) _,zb1 s left,left,rfl,hfail (.inl rfl)⟩
 | true =>
 have hi:=hi rfl;refine po_q (v:=.d (pB false)) rfl rfl ?_;(iterate 2 refine mS ?_);by_cases hm:many > 600
 ·refine zah rfl rfl (decide_eq_true hm) ?_
  refine mT ?_;refine mQ ?_;refine zar (p:=1) (cs:=fV kind 0 0 []) rfl rfl rfl rfl rfl rfl ?_;refine mN ?_;exact zae ⟨.inr rfl,[.ag (fV kind 0 0 []),.d (pI (-1))],rfl,_,_,rfl,zbE (zbe _ _ _ _ nt nt) _,zb1 s left,left,rfl,hfail (.inr hm)⟩
 refine zal rfl rfl (decide_eq_false hm) ?_;refine mK ?_;refine zan (fun st => ∃ m,KdI s d left kind many i nt live m st /\ m = 0) ?_ ?_
 ·refine mP ?_
  refine zab ?_;refine zas (KdI s d left kind many i nt live) many.toNat ⟨0,[],i,1,[],[],left,hmany,by omega,⟨rfl,rfl,rfl,rfl,rfl,rfl,rfl,trivial⟩,rfl,rfl,.inl ⟨rfl,rfl⟩,⟨rfl,nodup_nil,fun t ht => by cases ht⟩,(fun t ht => by cases ht),lR,fun t ht _ _ => ht,rfl,trivial,lR,hi,by simp [V.bulks],hl0,Int.le_refl _,fun us _ _ _ _ _ => ⟨by simp,by simp [msgs],by simp [V.nodess]⟩⟩ ?_;rintro m tm bx n1 l1 ⟨k,vs,j,tk,rows,rest,left1,hk,hmk,ht,hbx,hrows,htk,hown,hge,hn1,hlv,hP⟩;obtain ⟨tm0,rfl⟩:=zac ht;simp only at hbx hown hn1 hlv; subst hbx
  obtain ⟨hvl,hvw,hij,hjs,hvb,hl1,hl2,hcp⟩:=hP;refine mM ?_;(iterate 2 refine mS ?_);refine po_b rfl rfl (fun b hb => ?_);refine zaa ?_;refine zaZ (p:=(k:Int) < many) hb rfl (fun h _ => ?_) (fun h _ => ?_)
  ·refine zai ?_
   refine zak (zab (zak (zaf ?_)));(iterate 3 refine mS ?_);refine zam (n:=d + 1) rfl rfl rfl rfl (by omega) ?_;refine po_g rfl (FnG.lift1 (p:=0) (hG j left1 n1 l1 hjs hl1 (by omega) (by omega)) ⟨trivial,trivial,trivial⟩ (zb1 s left1) rfl) ?_;rintro x _ n2 l2 ⟨c',rfl,left2,rfl,cs,next,rfl,hc5,hnew,hctk,hlv2,hn2,hl3,hres,hcomp⟩;(iterate 3 refine mS ?_);refine zbI (cs:=cs) rfl hc5 rfl rfl ?_;refine mL ?_;refine mM ?_;refine mS ?_;refine po_b rfl rfl (fun b2 hb2 => ?_);refine zaa ?_;have hown2:OwnL n2 l2 ([pI kind,pI 0,pI 0,pS []] ++ .sl tk rows :: []):=hown.mono2 hn2 hlv2;refine zaZ (p:=next < 0) hb2 rfl (fun h2 _ => ?_) (fun h2 _ => ?_)
   ·clear hres
    refine mO ?_;refine zaE (p:=2) (cs:=[pI kind,pI 0,pI 0,pS [],.sl tk rows]) rfl rfl rfl rfl ?_;refine zar (p:=1) (cs:=[pI kind,pI 0,pI 0,pS [],.sl tk rows]) rfl rfl rfl rfl rfl rfl ?_;refine mN ?_;have hN:=ownNew hown2 hge;refine zae ⟨.inr rfl,[.ag [pI kind,pI 0,pI 0,pS [],.sl tk rows],.d (pI (-1))],rfl,_,_,rfl,zbE hN _,zb1 s left2,left2,rfl,_,_,rfl,rfl,hN,(fun t ht => (hown2.mem t ht).1),fun t ht h22 hlt => hlv2 t (hlv t ht h22 hlt) h22 (Nat.lt_of_lt_of_le hlt hn1),Nat.le_trans hn1 hn2,by omega,.inl rfl,fun us h3 h4 h5 h6 h7 h8 => ?_⟩;obtain ⟨e1,e2,e3⟩:=hcp us h3 h4 h5 h6 h8;have hku:k < us.length:=by omega
    have hA:=zia h8 k hku;rw [e1,<- e2] at hA;have hnd:=nodess_take us k hku;rw [e1] at hnd;rw [V.rightsBy_all,all_eq_true] at h4
    have:=(hcomp us[k] (V.wfs_get h3 k hku) (by rw [show 12 - (d + 1) = 12 - d - 1 by omega]; exact h4 _ (getElem_mem hku)) (by omega) hA).1
    omega
   ·obtain ⟨j2,u,rfl,he,huw,hj2,hj2s,hub,hl4⟩:=hres.resolve_left (fun h => h2 (by rw [h]; decide))
    clear hres;refine zai ?_;refine mQ ?_;refine mS ?_;refine zaE (p:=([pS s,pI left2] :: fV 0 0 0 [] :: [pI kind,pI 0,pI 0,pS [],.sl tk rows] :: rest).length) (cs:=cs) rfl rfl (zbg ([pS s,pI left2] :: fV 0 0 0 [] :: [pI kind,pI 0,pI 0,pS [],.sl tk rows] :: rest) cs) hc5 ?_
    have hlit:litP (ev (up 45 (.ag cs) tm0)) 5 [.t 45] = some [cs]:=by
     show (if cs.length = 5 then some [cs] else none) = some [cs];rw [if_pos hc5]
    refine zaq (es:=[cs]) (by
     show (if cs.length = 5 then some [cs] else none) = some [cs];rw [if_pos hc5]) ?_
    have hrl:rows.length = vs.length:=by rw [zd4 hrows,zaY]
    refine zaQ (t:=tk) (t':=n2) (es:=rows) (ds:=[cs]) rfl rfl (hown2.app htk [n2]) (by simp only [length_singleton]; omega) (fun e he => by simp only [mem_singleton] at he; subst he; exact hc5) (fun e he => zfr hrows (zgl vs) e he) ?_;refine mS ?_;refine zaw (p:=2) (o':=4) (cs:=[.sl (n2 + 1) (rows ++ [cs])]) (z:=[pI kind,pI 0,pI 0,pS [],.sl tk rows]) rfl rfl rfl ⟨rfl,Nat.le_of_ble_eq_true rfl⟩ rfl ?_;refine zaa ?_;refine zaf ?_;refine mN ?_;refine zaf ?_;refine mS ?_;refine zam (n:=((k + 1:Nat):Int)) rfl rfl rfl (by omega) (by omega) ?_;refine mN ?_
    have hpush:OwnL (n2 + 2) ((n2 + 1) :: (n2 :: l2).filter (· != tk)) ([pI kind,pI 0,pI 0,pS []] ++ .sl (n2 + 1) (rows ++ [cs]) :: []):=by
     have h0:OwnL n1 (l1.filter (fun t => decide (t < n1))) ([pI kind,pI 0,pI 0,pS []] ++ .sl tk rows :: []):=⟨hown.own,hown.nd,fun t ht => ⟨mem_filter.2 ⟨(hown.mem t ht).1,decide_eq_true (hown.mem t ht).2⟩,(hown.mem t ht).2⟩⟩
     have:=h0.pushA (nt':=n2 + 1) (e:=cs) htk (by omega) hnew.own hnew.nd (fun t ht => by have:=hnew.mem t ht; omega) (by omega)
     refine this.mono2 (by omega) fun t ht h22 hlt => ?_
     rcases mem_cons.1 ht with rfl | ht
     ·exact mem_cons_self ..
     ·obtain ⟨m1,m2⟩:=mem_filter.1 ht
      refine mem_cons_of_mem _ (mem_filter.2 ⟨?_,m2⟩)
      rcases mem_append.1 m1 with m1 | m1
      ·exact mem_cons_of_mem _ (hctk t m1)
      ·obtain ⟨m3,m4⟩:=mem_filter.1 m1
       exact mem_cons_of_mem _ (hlv2 t m3 h22 (of_decide_eq_true m4))
    have htkn:tk = 1 \/ nt <= tk:=htk.imp (fun h => h.1) fun h => hge tk (by simp [toksL,PC.toks,pI,pS,h])
    have hrge:∀ t ∈ toksLL rows,nt <= t:=by
     intro t ht
     rcases htk with ⟨_,rfl⟩ | h22
     ·cases ht
     ·exact hge t (by simp [toksL,PC.toks,pI,pS,h22,ht])
    refine ⟨m - 1,by omega,k + 1,vs ++ [u],j2,n2 + 1,rows ++ [cs],rest ++ [cs],left2,by omega,by omega,⟨rfl,rfl,rfl,rfl,rfl,rfl,rfl,trivial⟩,rfl,?_,.inr (by omega),hpush,?_,(show nt <= n2 + 2 by omega),?_,by simp [hvl],V.wfs_app hvw ⟨huw,trivial⟩,by omega,hj2s,?_,hl4,by omega,?_⟩
    ·rw [zbT,hrows,zcj,zcj,map_append]; simp only [erLL,he]; rfl
    ·intro t ht
     have ht:t ∈ PC.toks (.sl (n2 + 1) (rows ++ [cs])):=by simpa [toksL,PC.toks,pI,pS] using ht
     rw [zaF (by omega),zba] at ht
     rcases mem_cons.1 ht with rfl | ht
     ·omega
     ·rcases mem_append.1 ht with ht | ht
      ·exact hrge t ht
      ·have ht:t ∈ toksL cs:=by simpa [toksLL] using ht
       have:=hnew.mem t ht; omega
    ·intro t ht h22 hlt
     refine mem_cons_of_mem _ (mem_filter.2 ⟨mem_cons_of_mem _ (hlv2 t (hlv t ht h22 hlt) h22 (by omega)),?_⟩);simp only [bne_iff_ne,ne_eq]; omega
    ·rw [V.bulks_app,length_append]; simp only [V.bulks,length_singleton]; omega
    ·intro us h3 h4 h5 h6 h8
     obtain ⟨e1,e2,e3⟩:=hcp us h3 h4 h5 h6 h8;have hku:k < us.length:=by omega
     have hA:=zia h8 k hku;rw [e1,<- e2] at hA;have hnd:=nodess_take us k hku;rw [e1] at hnd;have h4':=h4;rw [V.rightsBy_all,all_eq_true] at h4';obtain ⟨q1,q2,q3⟩:=hcomp us[k] (V.wfs_get h3 k hku) (by rw [show 12 - (d + 1) = 12 - d - 1 by omega]; exact h4' _ (getElem_mem hku)) (by omega) hA;have huk:us[k] = u:=zfc (q2.symm.trans he);refine ⟨by rw [take_succ_eq_append_getElem hku,e1,huk],?_,?_⟩
     ·rw [zde,length_append,<- huk]; omega
     ·rw [V.nodess_app,<- huk]; simp only [V.nodess]; omega
  ·refine zat ?_
   exact ⟨0,⟨k,vs,j,tk,rows,rest,left1,hk,by omega,⟨rfl,rfl,rfl,rfl,rfl,rfl,rfl,trivial⟩,rfl,hrows,htk,hown,hge,hn1,hlv,hvl,hvw,hij,hjs,hvb,hl1,hl2,hcp⟩,rfl⟩
 rintro tm bx n1 l1 ⟨m,⟨k,vs,j,tk,rows,rest,left1,hk,hmk,ht,hbx,hrows,htk,hown,hge,hn1,hlv,hP⟩,hm0⟩;obtain ⟨tm0,rfl⟩:=zac ht;simp only at hbx hown hn1 hlv; subst hbx
 obtain ⟨hvl,hvw,hij,hjs,hvb,hl1,hl2,hcp⟩:=hP;have hkm:(k:Int) = many:=by omega
 have hN:=ownNew hown hge
 have her:erL [pI kind,pI 0,pI 0,pS [],.sl tk rows] = vC (.mk kind 0 0 [] vs):=by
  simp only [erL,PC.er,hrows]; rfl
 refine mO ?_;refine zaE (p:=2) (cs:=[pI kind,pI 0,pI 0,pS [],.sl tk rows]) rfl rfl rfl rfl ?_;refine mS ?_;refine zar (p:=1) (cs:=[pI kind,pI 0,pI 0,pS [],.sl tk rows]) rfl rfl rfl rfl rfl rfl ?_;refine mN ?_;refine zae ⟨.inr rfl,[.ag [pI kind,pI 0,pI 0,pS [],.sl tk rows],.d (pI j)],rfl,_,_,rfl,zbE hN _,zb1 s left1,left1,rfl,_,_,rfl,rfl,hN,fun t ht => (hown.mem t ht).1,hlv,hn1,by omega,.inr ⟨j,vs,rfl,her,hvw,by omega,by omega,hij,hjs,hvb,hl1,rfl⟩,fun us h3 h4 h5 h6 h7 h8 => ?_⟩;obtain ⟨e1,e2,e3⟩:=hcp us h3 h4 h5 h6 h8
 have:us.take k = us:=take_of_length_le (by omega)
 rw [this] at e1;subst e1;exact ⟨by rw [e2],her,e3⟩
def gwz (s:L8) (i k:Nat):Int:=if i + k <= s.length then gwN s i k else 0
theorem gwV_eq (s:L8) (i k:Nat):gwV s i k = .tup [.d (pI (gwz s i k)),.d (pB (decide (i + k <= s.length)))]:=by
 unfold gwV gwz;by_cases h:i + k <= s.length
 ·rw [if_pos h,if_pos h,decide_eq_true h]; rfl
 ·rw [if_neg h,if_neg h,decide_eq_false h]
theorem zdW {s:L8} {i k:Nat} (h:i + k <= s.length):gwz s i k = gwN s i k:=by unfold gwz; rw [if_pos h]
theorem zcs {v:V} {t0:L8} (h:MsgTop v 199 t0):(∃ n e:Int,(-20 <= e /\ e <= 20) /\ (-999999999999999999 <= n /\ n <= 999999999999999999) /\ v = .mk 4 n e [] [] /\ t0 = [9,4] ++ be 1 (lo64 e) ++ be 8 (lo64 n)) \/ ∃ (m:Nat) (kid:V),m <= 1000000 /\ v = .mk 9 m 0 [] [kid] /\ t0 = [4,6] ++ be 4 m ++ msg kid:=by
 generalize hb:199 = b at h
 cases h with
 | dec n e h hn => exact .inl ⟨n,e,h,hn,rfl,rfl⟩
 | tag n h kid => exact .inr ⟨n,kid,h,rfl,rfl⟩
 | _ => exfalso; omega
def GotX (s:L8) (d left:Int) (p nt:Nat) (live:List Nat) (x:PV) (left':Int) (nt':Nat) (live':List Nat):Prop :=
 ∃ (cs:List PC) (next:Int),x = .tup [.ag cs,.d (pI next)] /\ cs.length = 5 /\ NewL nt nt' cs /\ (∀ t ∈ toksL cs,t ∈ live') /\ (∀ t ∈ live,2 <= t -> t < nt -> t ∈ live') /\ nt <= nt' /\ (-1 <= left' /\ left' <= left) /\
 (next = -1 \/ ∃ (j:Nat) (u:V),next = j /\ erL cs = vC u /\ u.wf /\ p <= j /\ j <= s.length /\ u.bulk <= 1 + 2 * (j - p) /\ 0 <= left') /\
 (∀ (v:V) (t0:L8),v.wf -> v.rightBy pairsOk (12 - d) = true -> (v.nodes:Int) <= left + 1 -> MsgTop v 199 t0 -> At s p t0 -> next = ((p + t0.length:Nat):Int) /\ erL cs = vC v /\ left' = left + 1 - v.nodes)
theorem zdr {s:L8} {d left:Int} {p nt:Nat} {live:List Nat} (hl:0 <= left) (h:∀ (v:V) (t0:L8),v.wf -> v.rightBy pairsOk (12 - d) = true -> (v.nodes:Int) <= left + 1 -> MsgTop v 199 t0 -> ¬ At s p t0) (k n e:Int) (t:L8) :
  GotX s d left p nt live (.tup [.ag (fV k n e t),.d (pI (-1))]) left nt live :=
 ⟨_,_,rfl,rfl,zbe _ _ _ _ _ _,(fun t ht => by rw [zbK] at ht; cases ht),fun t ht _ _ => ht,lR,by omega,.inl rfl,fun v t0 a b c d e => absurd e (h v t0 a b c d)⟩
theorem five {α:Type} {l:List α} (h:l.length = 5):∃ a b c d e,l = [a,b,c,d,e]:=by
 match l,h with
 | [a,b,c,d,e],_ => exact ⟨a,b,c,d,e,rfl⟩
theorem new_num {nt nt':Nat} {a0 a1 a2 a3 a4:PC} (h:NewL nt nt' [a0,a1,a2,a3,a4]) (b:PC) (ho:b.owned = true) (ht:b.toks = []):NewL nt nt' [a0,b,a2,a3,a4] /\ ∀ t ∈ toksL [a0,b,a2,a3,a4],t ∈ toksL [a0,a1,a2,a3,a4]:=by
 have hsub:(toksL [a0,b,a2,a3,a4]).Sublist (toksL [a0,a1,a2,a3,a4]):=by
  simp only [toksL,ht,nil_append];exact Sublist.append (Sublist.refl _) (sublist_append_right _ _)
 refine ⟨⟨?_,h.nd.sublist hsub,fun t ht => h.mem t (hsub.subset ht)⟩,fun t ht => hsub.subset ht⟩
 have:=h.own
 simp only [ownedL,Bool.and_eq_true] at this ⊢;exact ⟨this.1,ho,this.2.2⟩
theorem er_num {a0 a1 a2 a3 a4:PC} {k n e:Int} {t:L8} {ks:List V} (h:erL [a0,a1,a2,a3,a4] = vC (.mk k n e t ks)) (m:Int):erL [a0,pI m,a2,a3,a4] = vC (.mk k m e t ks):=by
 simp only [erL,vC,cons.injEq,and_true,V.kind,V.num,V.exp,V.text,V.kids] at h ⊢;exact ⟨h.1,rfl,h.2.2⟩
theorem ext_g {s:L8} (hs:s.length <= 2147483647) {d:Int} (_hd:0 <= d /\ d <= 12) (hK:KidsG T hT s d) (p:Nat) (left:Int) (nt:Nat) (live:List Nat) (hp:p <= s.length) (hl0:0 <= left) (hl:left <= 300) (hnt:2 <= nt) :
  FnG (env T hT) 116 [.ref 0 0,.d (pI p),.d (pI d)] [[pS s,pI left]] nt live (fun x b n l => ∃ c' rest,b = c' :: rest /\ x.lw 0 /\ lwL 0 c' /\ ∃ left',c' = [pS s,pI left'] /\ GotX s d left p nt live x left' n l):=by
 have hgw:∀ (i k:Nat),1 <= k /\ k <= 8 -> i <= 4611686018427387904 -> FnV (env T hT) 117 [.d (pS s),.d (pI i),.d (pI k)] (.tup [.d (pI (gwz s i k)),.d (pB (decide (i + k <= s.length)))]):=fun i k hk hi => by
  rw [<- gwV_eq]; exact zh3 s i k hk hi (by omega)
 refine zaG (zaj zh1) (by show 3 <= 120; decide) fun B hB => ?_
 unfold m_s_l06Ext;refine mP ?_;refine mO ?_;(iterate 5 refine mS ?_);refine zad (args:=[.d (pS s),.d (pI p),.d (pI ((1:Nat):Int))]) rfl (hgw p 1 (by decide) (by omega)) ?_;refine mN ?_;refine mO ?_;(iterate 5 refine mS ?_);refine zam (n:=((p + 1:Nat):Int)) rfl rfl rfl (by omega) (by omega) ?_;refine zad (args:=[.d (pS s),.d (pI ((p + 1:Nat):Int)),.d (pI ((1:Nat):Int))]) rfl (hgw (p + 1) 1 (by decide) (by omega)) ?_;refine mN ?_;by_cases hb:p + 2 <= s.length
 case neg =>
  refine zak (zab ?_);refine zan (fun st => has st.tm [(0,.ref 0 0),(6,.ref 1 0),(39,.d (pB true))] /\ st.bx = [[pS s,pI left],fV 0 0 0 []] /\ st.nt = nt /\ st.live = live) ?_ ?_
  ·refine zaf ?_
   refine mS ?_;refine po_b rfl rfl (fun a1 ha1 => ?_);refine mS ?_
   cases a1 with
   | true =>
    refine mZ ?_;refine mN ?_
    exact ⟨⟨rfl,rfl,rfl,trivial⟩,rfl,rfl,rfl⟩
   | false =>
    refine mS ?_;refine po_q (v:=.d (pB true)) rfl (by show some (PV.d (.v (.bool (!decide (p + 1 + 1 <= s.length))))) = _; rw [decide_eq_false (by omega)]; rfl) ?_;refine mN ?_;exact ⟨⟨rfl,rfl,rfl,trivial⟩,rfl,rfl,rfl⟩
  rintro tm bx n1 l1 ⟨ht,rfl,rfl,rfl⟩;obtain ⟨tm0,rfl⟩:=zac ht;refine mwT ?_;refine mQ ?_;refine zar (p:=1) (cs:=fV 0 0 0 []) rfl rfl rfl rfl rfl rfl ?_;refine mN ?_;refine zae ⟨.inr rfl,[.ag (fV 0 0 0 []),.d (pI (-1))],rfl,_,_,rfl,zbE (zbe _ _ _ _ n1 n1) _,zb1 s left,left,rfl,zdr hl0 (fun v t0 h1 h2 h3 h4 h5 => ?_) _ _ _ _⟩
  rcases zcs h4 with ⟨n,e,he,hn,rfl,rfl⟩ | ⟨m,kid,hm,rfl,rfl⟩
  ·have:=(zcq hp h5 he (by unfold i64ok; omega)).1; omega
  ·have:=(zcr hp h5 hm).1; omega
 case pos =>
 have ha:p + 1 <= s.length:=by omega
 refine zak (zab (zak (zaf ?_)));refine mS ?_;refine po_q (v:=.d (pB false)) rfl (by show some (PV.d (.v (.bool (!decide (p + 1 <= s.length))))) = _; rw [decide_eq_true ha]; rfl) ?_;(iterate 2 refine mS ?_);refine po_q (v:=.d (pB false)) rfl (by show some (PV.d (.v (.bool (!decide (p + 1 + 1 <= s.length))))) = _; rw [decide_eq_true hb]; rfl) ?_;refine mF ?_;rw [zdW ha,zdW (show p + 1 + 1 <= s.length from hb)];refine zcl (fun st => has st.tm [(0,.ref 0 0),(1,.d (pI p)),(2,.d (pI d)),(6,.ref 1 0),(8,.d (pI (gwN s p 1))),(10,.d (pI (gwN s (p + 1) 1)))] /\ st.bx = [[pS s,pI left],fV 0 0 0 []] /\ st.nt = nt /\ st.live = live) ⟨⟨rfl,rfl,rfl,rfl,rfl,rfl,trivial⟩,rfl,rfl,rfl⟩ (fun tm bx n1 l1 hh => ?_);obtain ⟨ht,hbx,hn,hlv⟩:=hh;obtain ⟨tm0,rfl⟩:=zac ht;simp only at hbx hn hlv; subst hbx; subst hn; subst hlv
 clear ht;refine zan (fun st => has st.tm [(0,.ref 0 0),(1,.d (pI p)),(2,.d (pI d)),(6,.ref 1 0),(8,.d (pI (gwN s p 1))),(10,.d (pI (gwN s (p + 1) 1))),(47,.d (pB (decide (gwN s p 1 = 9 /\ gwN s (p + 1) 1 = 4))))] /\ st.bx = [[pS s,pI left],fV 0 0 0 []] /\ st.nt = n1 /\ st.live = l1) ?_ ?_
 ·refine zaf ?_
  refine mS ?_;by_cases c1:gwN s p 1 = 9
  ·refine zah rfl rfl (decide_eq_true c1) ?_
   (iterate 2 refine mS ?_);refine po_b rfl rfl (fun b2 hb2 => ?_);refine mN ?_;refine ⟨⟨rfl,rfl,rfl,rfl,rfl,rfl,?_,trivial⟩,rfl,rfl,rfl⟩
   have:decide (gwN s p 1 = 9 /\ gwN s (p + 1) 1 = 4) = b2:=by rw [hb2]; exact decide_eq_decide.2 ⟨fun h => h.2,fun h => ⟨c1,h⟩⟩
   rw [this]; rfl
  ·refine zal rfl rfl (decide_eq_false c1) ?_
   refine mS ?_;refine mZ ?_;refine mN ?_;exact ⟨⟨rfl,rfl,rfl,rfl,rfl,rfl,by rw [decide_eq_false (fun h => c1 h.1)]; rfl,trivial⟩,rfl,rfl,rfl⟩
 rintro tm bx n2 l2 ⟨ht,rfl,rfl,rfl⟩;obtain ⟨tm1,rfl⟩:=zac ht;clear ht;refine zbB (p:=gwN s p 1 = 9 /\ gwN s (p + 1) 1 = 4) rfl (fun hc => ?_) (fun hc => ?_)
 ·refine mO ?_
  (iterate 5 refine mS ?_);refine zam (n:=((p + 2:Nat):Int)) rfl rfl rfl (by omega) (by omega) ?_;refine zad (args:=[.d (pS s),.d (pI ((p + 2:Nat):Int)),.d (pI ((1:Nat):Int))]) rfl (hgw (p + 2) 1 (by decide) (by omega)) ?_;refine mN ?_;refine mO ?_;(iterate 5 refine mS ?_);refine zam (n:=((p + 3:Nat):Int)) rfl rfl rfl (by omega) (by omega) ?_;refine zad (args:=[.d (pS s),.d (pI ((p + 3:Nat):Int)),.d (pI ((8:Nat):Int))]) rfl (hgw (p + 3) 8 (by decide) (by omega)) ?_;refine mN ?_;by_cases h11:p + 3 + 8 <= s.length
  ·refine mM ?_
   refine mS ?_;refine po_q (v:=.d (pB false)) rfl (by show some (PV.d (.v (.bool (!decide (p + 2 + 1 <= s.length))))) = _; rw [decide_eq_true (by omega)]; rfl) ?_;(iterate 2 refine mS ?_);refine po_q (v:=.d (pB false)) rfl (by show some (PV.d (.v (.bool (!decide (p + 3 + 8 <= s.length))))) = _; rw [decide_eq_true h11]; rfl) ?_;refine mK ?_;refine mO ?_;rw [zdW (show p + 2 + 1 <= s.length by omega),zdW h11];(iterate 2 refine mS ?_);refine zad (args:=[.d (pI (gwN s (p + 2) 1)),.d (pI ((1:Nat):Int))]) rfl (sgn_fn (gwN s (p + 2) 1) 1 (by decide)) ?_;(iterate 2 refine mS ?_);refine zam (n:=((p + 11:Nat):Int)) rfl rfl rfl (by omega) (by omega) ?_;refine zar (p:=1) (cs:=fV 4 (gwN s (p + 3) 8) (sgw (gwN s (p + 2) 1) 1) []) rfl rfl rfl rfl rfl rfl ?_;refine mN ?_
   have hsg:i64ok (sgw (gwN s (p + 2) 1) 1):=by
    have:=zbC s (p + 2) 1 (by decide)
    unfold sgw i64ok;rw [if_pos (by decide),show ((256 ^ 1:Nat):Int) = 256 from rfl,show ((256 ^ 1 / 2:Nat):Int) = 128 from rfl]
    split <;> omega
   refine zae ⟨.inr rfl,[.ag (fV 4 (gwN s (p + 3) 8) (sgw (gwN s (p + 2) 1) 1) []),.d (pI ((p + 11:Nat):Int))],rfl,_,_,rfl,zbE (zbe _ _ _ _ n2 n2) _,zb1 s left,left,rfl,_,_,rfl,rfl,zbe _ _ _ _ _ _,(fun t ht => by rw [zbK] at ht; cases ht),fun t ht _ _ => ht,lR,by omega,.inr ⟨p + 11,.mk 4 (gwN s (p + 3) 8) (sgw (gwN s (p + 2) 1) 1) [] [],rfl,rfl,⟨by unfold i64ok; omega,zdS _ _ _,hsg,by unfold strok; simp,by simp,trivial⟩,by omega,by omega,by simp [V.bulk,V.bulks],hl0⟩,fun v t0 h1 h2 h3 h4 h5 => ?_⟩
   rcases zcs h4 with ⟨n,e,he,hn,rfl,rfl⟩ | ⟨m,kid,hm,rfl,rfl⟩
   ·obtain ⟨q1,q2,q3,q4,q5⟩:=zcq hp h5 he (by unfold i64ok; omega)
    refine ⟨?_,?_,?_⟩
    ·simp [zag]
    ·rw [q4,q5]; rfl
    ·simp [V.nodes,V.nodess]
   ·have:=(zcr hp h5 hm).2.1; omega
  ·refine zak ?_
   refine zan (fun st => has st.tm [(0,.ref 0 0),(6,.ref 1 0),(79,.d (pB true))] /\ st.bx = [[pS s,pI left],fV 0 0 0 []] /\ st.nt = n2 /\ st.live = l2) ?_ ?_
   ·refine zaf ?_
    refine mS ?_;refine po_b rfl rfl (fun a1 ha1 => ?_);refine mS ?_
    cases a1 with
    | true =>
     refine mZ ?_;refine mN ?_
     exact ⟨⟨rfl,rfl,rfl,trivial⟩,rfl,rfl,rfl⟩
    | false =>
     refine mS ?_;refine po_q (v:=.d (pB true)) rfl (by show some (PV.d (.v (.bool (!decide (p + 3 + 8 <= s.length))))) = _; rw [decide_eq_false h11]; rfl) ?_;refine mN ?_;exact ⟨⟨rfl,rfl,rfl,trivial⟩,rfl,rfl,rfl⟩
   rintro tm bx n1 l1 ⟨ht,rfl,rfl,rfl⟩;obtain ⟨tm0,rfl⟩:=zac ht;refine mwT ?_;refine mQ ?_;refine zar (p:=1) (cs:=fV 0 0 0 []) rfl rfl rfl rfl rfl rfl ?_;refine mN ?_;refine zae ⟨.inr rfl,[.ag (fV 0 0 0 []),.d (pI (-1))],rfl,_,_,rfl,zbE (zbe _ _ _ _ n1 n1) _,zb1 s left,left,rfl,zdr hl0 (fun v t0 h1 h2 h3 h4 h5 => ?_) _ _ _ _⟩
   rcases zcs h4 with ⟨n,e,he,hn,rfl,rfl⟩ | ⟨m,kid,hm,rfl,rfl⟩
   ·have:=(zcq hp h5 he (by unfold i64ok; omega)).1; omega
   ·have:=(zcr hp h5 hm).2.1; omega
 refine zcl (fun st => has st.tm [(0,.ref 0 0),(1,.d (pI p)),(2,.d (pI d)),(6,.ref 1 0),(8,.d (pI (gwN s p 1))),(10,.d (pI (gwN s (p + 1) 1)))] /\ st.bx = [[pS s,pI left],fV 0 0 0 []] /\ st.nt = n2 /\ st.live = l2) ⟨⟨rfl,rfl,rfl,rfl,rfl,rfl,trivial⟩,rfl,rfl,rfl⟩ (fun tm bx n1 l1 hh => ?_);obtain ⟨ht,hbx,hn,hlv⟩:=hh;obtain ⟨tm2,rfl⟩:=zac ht;simp only at hbx hn hlv; subst hbx; subst hn; subst hlv
 clear ht;refine zan (fun st => has st.tm [(0,.ref 0 0),(1,.d (pI p)),(2,.d (pI d)),(6,.ref 1 0),(87,.d (pB (decide (gwN s p 1 = 4 /\ gwN s (p + 1) 1 = 6))))] /\ st.bx = [[pS s,pI left],fV 0 0 0 []] /\ st.nt = n1 /\ st.live = l1) ?_ ?_
 ·refine zaf ?_
  refine mS ?_;by_cases c1:gwN s p 1 = 4
  ·refine zah rfl rfl (decide_eq_true c1) ?_
   (iterate 2 refine mS ?_);refine po_b rfl rfl (fun b2 hb2 => ?_);refine mN ?_;refine ⟨⟨rfl,rfl,rfl,rfl,?_,trivial⟩,rfl,rfl,rfl⟩
   have:decide (gwN s p 1 = 4 /\ gwN s (p + 1) 1 = 6) = b2:=by rw [hb2]; exact decide_eq_decide.2 ⟨fun h => h.2,fun h => ⟨c1,h⟩⟩
   rw [this]; rfl
  ·refine zal rfl rfl (decide_eq_false c1) ?_
   refine mS ?_;refine mZ ?_;refine mN ?_;exact ⟨⟨rfl,rfl,rfl,rfl,by rw [decide_eq_false (fun h => c1 h.1)]; rfl,trivial⟩,rfl,rfl,rfl⟩
 rintro tm bx n2 l2 ⟨ht,rfl,rfl,rfl⟩;obtain ⟨tm3,rfl⟩:=zac ht;clear ht;refine zbB (p:=gwN s p 1 = 4 /\ gwN s (p + 1) 1 = 6) rfl (fun hc6 => ?_) (fun hc6 => ?_)
 ·refine mO ?_
  (iterate 5 refine mS ?_);refine zam (n:=((p + 2:Nat):Int)) rfl rfl rfl (by omega) (by omega) ?_;refine zad (args:=[.d (pS s),.d (pI ((p + 2:Nat):Int)),.d (pI ((4:Nat):Int))]) rfl (hgw (p + 2) 4 (by decide) (by omega)) ?_;refine mN ?_;by_cases h6:p + 2 + 4 <= s.length
  ·refine mM ?_
   refine mS ?_;refine po_q (v:=.d (pB false)) rfl (by show some (PV.d (.v (.bool (!decide (p + 2 + 4 <= s.length))))) = _; rw [decide_eq_true h6]; rfl) ?_;refine mK ?_;refine mO ?_;rw [zdW h6];(iterate 2 refine mS ?_);refine zam (n:=((p + 6:Nat):Int)) rfl rfl rfl (by omega) (by omega) ?_;refine mS ?_;refine po_g rfl (FnG.lift1 (p:=0) (hK (p + 6) left 9 1 true n2 l2 (fun _ => by omega) (by omega) hl0 hl hnt (by omega) (by unfold i64ok; omega)) ⟨trivial,trivial,trivial,trivial,trivial,trivial⟩ (zb1 s left) rfl) ?_;rintro x _ n3 l3 ⟨c',rfl,left2,rfl,cs,next,rfl,hc5,hnew,hctk,hlv2,hn2,hl3,hres,hcomp⟩;(iterate 3 refine mS ?_);refine zbI (cs:=cs) rfl hc5 rfl rfl ?_;refine mL ?_;refine mO ?_;(iterate 2 refine mS ?_);obtain ⟨a0,a1,a2,a3,a4,rfl⟩:=five hc5;refine zaw (p:=2) (o':=1) (cs:=[pI (gwN s (p + 2) 4)]) (z:=[a0,a1,a2,a3,a4]) rfl rfl rfl ⟨rfl,Nat.le_of_ble_eq_true rfl⟩ rfl ?_
   refine zaa ?_;refine mO ?_;refine zaE (p:=2) (cs:=[a0,pI (gwN s (p + 2) 4),a2,a3,a4]) rfl rfl rfl rfl ?_;refine mS ?_;refine zar (p:=1) (cs:=[a0,pI (gwN s (p + 2) 4),a2,a3,a4]) rfl rfl rfl rfl rfl rfl ?_;refine mN ?_;have hN:=new_num hnew (pI (gwN s (p + 2) 4)) rfl rfl;refine zae ⟨.inr rfl,[.ag [a0,pI (gwN s (p + 2) 4),a2,a3,a4],.d (pI next)],rfl,_,_,rfl,zbE hN.1 _,zb1 s left2,left2,rfl,_,_,rfl,rfl,hN.1,fun t ht => hctk t (hN.2 t ht),hlv2,hn2,hl3,?_,fun v t0 h1 h2 h3 h4 h5 => ?_⟩
   ·rcases hres with h | ⟨j,vs,rfl,he,hvw,hv1,_,hj1,hj2,hvb,hl4,_⟩
    ·exact .inl h
    ·refine .inr ⟨j,.mk 9 (gwN s (p + 2) 4) 0 [] vs,rfl,er_num he _,⟨by unfold i64ok; omega,zdS _ _ _,by unfold i64ok; omega,by unfold strok; simp,by omega,hvw⟩,by omega,hj2,by simp only [V.bulk,length_nil]; omega,hl4⟩
   ·rcases zcs h4 with ⟨n,e,he,hn,rfl,rfl⟩ | ⟨m,kid,hm,rfl,rfl⟩
    ·have:=(zcq hp h5 he (by unfold i64ok; omega)).2.1; omega
    ·obtain ⟨q1,q2,q3,q4,q5⟩:=zcr hp h5 hm
     have h2':=h2;simp only [V.rightBy,Bool.and_eq_true] at h2';obtain ⟨r1,r2,r3⟩:=hcomp [kid] ⟨h1.2.2.2.2.2.1,trivial⟩ h2'.1 (by simp only [V.nodes,V.nodess] at h3 ⊢; omega) rfl rfl (by simpa [msgs] using q5);refine ⟨?_,?_,?_⟩
     ·rw [r1]; simp [msgs,zag]; omega
     ·rw [q4]; exact er_num r2 _
     ·rw [r3]; simp only [V.nodes,V.nodess]; omega
  ·refine mM ?_
   refine mS ?_;refine po_q (v:=.d (pB true)) rfl (by show some (PV.d (.v (.bool (!decide (p + 2 + 4 <= s.length))))) = _; rw [decide_eq_false h6]; rfl) ?_;refine mT ?_;refine mQ ?_;refine zar (p:=1) (cs:=fV 0 0 0 []) rfl rfl rfl rfl rfl rfl ?_;refine mN ?_;refine zae ⟨.inr rfl,[.ag (fV 0 0 0 []),.d (pI (-1))],rfl,_,_,rfl,zbE (zbe _ _ _ _ n2 n2) _,zb1 s left,left,rfl,zdr hl0 (fun v t0 h1 h2 h3 h4 h5 => ?_) _ _ _ _⟩
   rcases zcs h4 with ⟨n,e,he,hn,rfl,rfl⟩ | ⟨m,kid,hm,rfl,rfl⟩
   ·have:=(zcq hp h5 he (by unfold i64ok; omega)).2.1; omega
   ·have:=(zcr hp h5 hm).1; omega
 ·refine zai ?_
  refine mQ ?_;refine zar (p:=1) (cs:=fV 0 0 0 []) rfl rfl rfl rfl rfl rfl ?_;refine mN ?_;refine zae ⟨.inr rfl,[.ag (fV 0 0 0 []),.d (pI (-1))],rfl,_,_,rfl,zbE (zbe _ _ _ _ n2 n2) _,zb1 s left,left,rfl,zdr hl0 (fun v t0 h1 h2 h3 h4 h5 => ?_) _ _ _ _⟩
  rcases zcs h4 with ⟨n,e,he,hn,rfl,rfl⟩ | ⟨m,kid,hm,rfl,rfl⟩
  ·have:=zcq hp h5 he (by unfold i64ok; omega); exact hc ⟨this.2.1,this.2.2.1⟩
  ·have:=zcr hp h5 hm; exact hc6 ⟨this.2.1,this.2.2.1⟩
end
section
def HdC (s:L8) (d left:Int) (i bb:Nat):Prop:=∀ v:V,v.wf -> v.rightBy pairsOk (12 - d) = true -> (v.nodes:Int) <= left -> At s i (msg v) -> ∃ t0,MsgTop v bb t0 /\ At s (i + 1) t0 /\ (msg v).length = 1 + t0.length
theorem hdC {s:L8} {d left:Int} {i:Nat} (hl:left <= 300) (hi:i < s.length):HdC s d left i s[i].toNat:=by
 intro v hw hr hn hA
 obtain ⟨b,t0,hM,hb,he⟩:=zeu hr (by
  obtain ⟨k,n,e,x,kids⟩:=v
  have:=V.kids_nodes kids
  simp only [V.nodes] at hn;show kids.length <= 300
  omega) (by obtain ⟨k,n,e,x,kids⟩:=v; exact hw.2.1)
 rw [he] at hA;have h1:=hA.cons;rw [getElem?_eq_getElem hi] at h1
 have hbb:s[i].toNat = b:=by
  have:=Option.some.inj h1.1
  rw [this,byteOf_id hb]
 rw [hbb,he];exact ⟨t0,hM,h1.2,by simp only [length_cons]; omega⟩
theorem zeL {s:L8} {d left left':Int} {i bb nt nt':Nat} {live live':List Nat} (HC:HdC s d left i bb) (hn:nt <= nt') (hlv:∀ t ∈ live,2 <= t -> t < nt -> t ∈ live') (hl:-1 <= left' /\ left' <= left)
  (hc:∀ (v:V) (t0:L8),v.wf -> MsgTop v bb t0 -> ¬ At s (i + 1) t0) (k n e:Int) (t:L8):GotV s d left i nt live (.tup [.ag (fV k n e t),.d (pI (-1))]) left' nt' live' :=
 ⟨_,_,rfl,rfl,zbe _ _ _ _ _ _,(fun t ht => by rw [zbK] at ht; cases ht),hlv,hn,hl,.inl rfl,fun v h1 h2 h3 h4 => by
  obtain ⟨t0,q1,q2,_⟩:=HC v h1 h2 h3 h4;exact absurd q2 (hc v t0 h1 q1)⟩
theorem zb2 {s:L8} {d left:Int} {i bb j nt nt':Nat} {live live':List Nat} {cs:List PC} {u:V} (HC:HdC s d left i bb) (he:erL cs = vC u) (h5:cs.length = 5) (ho:ownedL cs = true) (ht:toksL cs = []) (hk:u.nodes = 1) (hw:u.wf) (hj:i < j /\ j <= s.length) (hb:u.bulk + 1 <= 2 * (j - i)) (hl:1 <= left) (hn:nt <= nt') (hlv:∀ t ∈ live,2 <= t -> t < nt -> t ∈ live')
  (hc:∀ (v:V) (t0:L8),v.wf -> MsgTop v bb t0 -> At s (i + 1) t0 -> v = u /\ j = i + 1 + t0.length):GotV s d left i nt live (.tup [.ag cs,.d (pI j)]) (left - 1) nt' live' :=
 ⟨_,_,rfl,h5,⟨ho,by rw [ht]; exact nodup_nil,fun t h => by rw [ht] at h; cases h⟩,(fun t h => by rw [ht] at h; cases h),hlv,hn,by omega,.inr ⟨j,u,rfl,he,hw,hj.1,hj.2,hb,by omega⟩,fun v h1 h2 h3 h4 => by
  obtain ⟨t0,q1,q2,q3⟩:=HC v h1 h2 h3 h4;obtain ⟨rfl,q4⟩:=hc v t0 h1 q1 q2;exact ⟨by rw [q3,q4]; congr 1; omega,he,by rw [hk]; rfl⟩⟩
theorem zds {s:L8} {d left left' kind many:Int} {ok:Bool} {i bb i2 c nt nt':Nat} {live live':List Nat} {x:PV} (_hs:s.length <= 2147483647) (HC:HdC s d left i bb) (hi2:i2 = i + 1 + c) (hkind:i64ok kind) (hG:GotK s d (left - 1) kind many ok i2 nt live x left' nt' live')
  (hc:∀ (v:V) (t0:L8),v.wf -> MsgTop v bb t0 -> At s (i + 1) t0 -> ∃ us,v = .mk kind 0 0 [] us /\ (us.length:Int) = many /\ At s i2 (msgs us) /\ t0.length = c + (msgs us).length /\ ok = true):GotV s d left i nt live x left' nt' live':=by
 obtain ⟨cs,next,rfl,h5,hN,hct,hlv,hn,hl,hres,hcomp⟩:=hG;refine ⟨cs,next,rfl,h5,hN,hct,hlv,hn,by omega,?_,fun v h1 h2 h3 h4 => ?_⟩
 ·rcases hres with h | ⟨j,vs,rfl,he,hvw,hv1,hv2,hj1,hj2,hvb,hl4,_⟩
  ·exact .inl h
  ·exact .inr ⟨j,_,rfl,he,⟨hkind,by unfold i64ok; omega,by unfold i64ok; omega,by unfold strok; simp,by omega,hvw⟩,by omega,hj2,by simp only [V.bulk,length_nil]; omega,hl4⟩
 ·obtain ⟨t0,q1,q2,q3⟩:=HC v h1 h2 h3 h4
  obtain ⟨us,rfl,e2,e3,e4,e5⟩:=hc v t0 h1 q1 q2;simp only [V.rightBy,Bool.and_eq_true] at h2;obtain ⟨r1,r2,r3⟩:=hcomp us h1.2.2.2.2.2 h2.1 (by simp only [V.nodes] at h3; omega) e2 e5 e3;exact ⟨by rw [r1,q3,e4,hi2]; congr 1; omega,r2,by rw [r3]; simp only [V.nodes]; omega⟩
theorem zdt {s:L8} {d left kind:Int} {ok:Bool} {i bb i2 c many nt:Nat} {live:List Nat} (hs:s.length <= 2147483647) (HC:HdC s d left i bb) (hi2:i2 = i + 1 + c) (hkind:i64ok kind) (hl:1 <= left)
  (hc:∀ (v:V) (t0:L8),v.wf -> MsgTop v bb t0 -> At s (i + 1) t0 -> ∃ tx,v = .mk kind 0 0 tx [] /\ tx.length = many /\ At s i2 tx /\ t0.length = c + tx.length /\ ok = true) (hi:i < s.length) (hok:ok = true -> i2 <= s.length):GotV s d left i nt live (strV s i2 kind many ok) (left - 1) nt live:=by
 unfold strV;by_cases h:ok = true /\ (many:Int) <= s.length - i2
 ·rw [if_pos h]
  have h2:=hok h.1;have hlen:((s.drop i2).take many).length = many:=by rw [length_take,length_drop]; omega
  refine zb2 HC (fV_er kind 0 0 _) rfl rfl (zbK _ _ _ _) (by simp [V.nodes,V.nodess]) ⟨hkind,by unfold i64ok; omega,by unfold i64ok; omega,by unfold strok; omega,by simp,trivial⟩ (by omega) (by simp only [V.bulk,V.bulks,length_nil]; omega) hl lR (fun t ht _ _ => ht) fun v t0 h1 h3 h4 => ?_
  obtain ⟨tx,rfl,e2,e3,e4,_⟩:=hc v t0 h1 h3 h4
  have:=e3.take
  rw [e2] at this;exact ⟨by rw [this],by omega⟩
 ·rw [if_neg h]
  refine zeL HC lR (fun t ht _ _ => ht) (by omega) (fun v t0 h1 h3 h4 => ?_) _ _ _ _;obtain ⟨tx,rfl,e2,e3,e4,e5⟩:=hc v t0 h1 h3 h4;have h2:=hok e5
  have:=e3.len h2
  exact h ⟨e5,by omega⟩
theorem gotV_ext {s:L8} {d left left':Int} {i nt nt':Nat} {live live':List Nat} {x:PV} (HC:HdC s d left i 199) (hG:GotX s d (left - 1) (i + 1) nt live x left' nt' live'):GotV s d left i nt live x left' nt' live':=by
 obtain ⟨cs,next,rfl,h5,hN,hct,hlv,hn,hl,hres,hcomp⟩:=hG;refine ⟨cs,next,rfl,h5,hN,hct,hlv,hn,by omega,?_,fun v h1 h2 h3 h4 => ?_⟩
 ·rcases hres with h | ⟨j,u,rfl,he,hvw,hj1,hj2,hvb,hl4⟩
  ·exact .inl h
  ·exact .inr ⟨j,_,rfl,he,hvw,by omega,hj2,by omega,hl4⟩
 ·obtain ⟨t0,q1,q2,q3⟩:=HC v h1 h2 h3 h4
  obtain ⟨r1,r2,r3⟩:=hcomp v t0 h1 h2 (by omega) q1 q2;exact ⟨by rw [r1,q3]; congr 1; omega,r2,by omega⟩
theorem wide_num (s:L8) (i b:Nat):i64ok (wideN s i b):=by
 unfold wideN;have h0:=zdS s i (2 ^ (b % 4));split
 ·unfold sgw
  split
  ·rename_i h
   have hp:=zdq (k:=2 ^ (b % 4)) h.2;have h1:=Int.emod_nonneg (gwN s i (2 ^ (b % 4))) (show ((256 ^ 2 ^ (b % 4):Nat):Int) ≠ 0 by omega);have h2:=Int.emod_lt_of_pos (gwN s i (2 ^ (b % 4))) (show (0:Int) < ((256 ^ 2 ^ (b % 4):Nat):Int) by omega);unfold i64ok
   split <;> omega
  ·exact h0
 ·exact h0
theorem gotV_wide {s:L8} {d left:Int} {i bb nt:Nat} {live:List Nat} (HC:HdC s d left i bb) (hb:204 <= bb /\ bb <= 211) (hl:1 <= left) (hi:i < s.length):GotV s d left i nt live (wideV s (i + 1) bb) (left - 1) (nt + 1) (nt :: live):=by
 have key:∀ (v:V) (t0:L8),v.wf -> MsgTop v bb t0 -> At s (i + 1) t0 -> v = .mk 3 (wideN s (i + 1) bb) 0 [] [] /\ t0.length = 2 ^ (bb % 4):=by
  intro v t0 hw hM hA
  cases hM with
  | uint j hj n h =>
   have e:(204 + j) % 4 = j:=by omega
   unfold wideN;rw [e,if_neg (by omega),hA.gw_id h.1 h.2]
   exact ⟨rfl,by rw [zag]⟩
  | sint j hj n h =>
   have e:(208 + j) % 4 = j:=by omega
   unfold wideN;rw [e,if_pos (by omega),hA.gw]
   have hj':2 ^ j = 1 \/ 2 ^ j = 2 \/ 2 ^ j = 4 \/ 2 ^ j = 8:=by
    have:j = 0 \/ j = 1 \/ j = 2 \/ j = 3:=by omega
    rcases this with rfl | rfl | rfl | rfl <;> decide
   rw [zd7 n (2 ^ j) hj' ⟨h.2,by have:=Nat.pow_pos (n:=8 * 2 ^ j - 1) (show 0 < 2 by decide); omega⟩]
   exact ⟨rfl,by rw [zag]⟩
  | _ => exfalso; omega
 unfold wideV;by_cases h:i + 1 + 2 ^ (bb % 4) <= s.length
 ·rw [if_pos h]
  have:=(pow24 bb).1
  refine zb2 HC (zb9 _) rfl rfl rfl (by simp [V.nodes,V.nodess]) ⟨by unfold i64ok; omega,wide_num _ _ _,by unfold i64ok; omega,by unfold strok; simp,by simp,trivial⟩ (by omega) (by simp only [V.bulk,V.bulks,length_nil]; omega) hl (Nat.le_succ _) (fun t ht _ _ => mem_cons_of_mem _ ht) fun v t0 h1 h3 h4 => ?_
  obtain ⟨k1,k2⟩:=key v t0 h1 h3 h4;exact ⟨k1,by rw [k2]⟩
 ·rw [if_neg h]
  refine zeL HC (Nat.le_succ _) (fun t ht _ _ => mem_cons_of_mem _ ht) (by omega) (fun v t0 h1 h3 h4 => ?_) _ _ _ _
  have:=(key v t0 h1 h3 h4).2
  have:=h4.len (by omega)
  omega
end
section
variable {T:World -> Prop} {hT:Low ngl T}
attribute [local irreducible] po mw pt
def GetR (s:L8) (d left:Int) (i nt:Nat) (live:List Nat) (x:PV) (b:LP PC) (n:Nat) (l:List Nat):Prop:=∃ c' rest,b = c' :: rest /\ x.lw 0 /\ lwL 0 c' /\ ∃ left',c' = [pS s,pI left'] /\ GotV s d left i nt live x left' n l
theorem zbc {s:L8} {d left left' next:Int} {i nt n:Nat} {live l:List Nat} {cs:List PC} {rest:LP PC} (h:GotV s d left i nt live (.tup [.ag cs,.d (pI next)]) left' n l):GetR s d left i nt live (.tup [.ag cs,.d (pI next)]) ([pS s,pI left'] :: rest) n l:=by
 refine ⟨_,_,rfl,?_,zb1 s left',left',rfl,h⟩;obtain ⟨cs',next',e,_,hN,_⟩:=h;simp only [PV.tup.injEq,cons.injEq,PV.ag.injEq,and_true] at e;obtain ⟨rfl,_⟩:=e;exact zbE hN _
theorem get_g {s:L8} (hs:s.length <= 2147483647) {d:Int} (hd:0 <= d /\ d <= 13) (hK:d <= 12 -> KidsG T hT s d):GetG T hT s d:=by
 intro i left nt live hi hl0 hl hnt
 have hgw:∀ (i k:Nat),1 <= k /\ k <= 8 -> i <= 4611686018427387904 -> FnV (env T hT) 117 [.d (pS s),.d (pI i),.d (pI k)] (.tup [.d (pI (gwz s i k)),.d (pB (decide (i + k <= s.length)))]):=fun i k hk hi => by
  rw [<- gwV_eq]; exact zh3 s i k hk hi (by omega)
 refine zaG (R:=GetR s d left i nt live) (zaj zhZ) (by show 3 <= 211; decide) fun B hB => ?_
 unfold m_s_l06Get;refine mP ?_;refine mO ?_;(iterate 4 refine mS ?_);refine zaK (n:=left - 1) rfl rfl rfl rfl (by omega) ?_;(iterate 2 refine mS ?_);refine zaw (p:=0) (o':=1) (cs:=[pI (left - 1)]) (z:=[pS s,pI left]) rfl rfl rfl ⟨rfl,Nat.le_of_ble_eq_true rfl⟩ rfl ?_;refine zaa ?_;refine zak ?_;refine zan (fun st => has st.tm [(0,.ref 0 0),(1,.d (pI i)),(2,.d (pI d)),(6,.ref 1 0),(37,.d (pB (decide (left = 0 \/ d > 12 \/ i ≥ s.length))))] /\ st.bx = [[pS s,pI (left - 1)],fV 0 0 0 []] /\ st.nt = nt /\ st.live = live) ?_ ?_
 ·refine zaf ?_
  (iterate 4 refine mS ?_);by_cases c1:left = 0
  ·refine zah rfl rfl (decide_eq_true (show left - 1 < 0 by omega)) ?_
   refine mS ?_;refine mZ ?_;(iterate 2 refine mS ?_);refine mZ ?_;refine mN ?_;exact ⟨⟨rfl,rfl,rfl,rfl,by rw [decide_eq_true (.inl c1)]; rfl,trivial⟩,rfl,rfl,rfl⟩
  refine zal rfl rfl (decide_eq_false (show ¬ left - 1 < 0 by omega)) ?_;(iterate 2 refine mS ?_);by_cases c2:d > 12
  ·refine zah rfl rfl (decide_eq_true c2) ?_
   (iterate 2 refine mS ?_);refine mZ ?_;refine mN ?_;exact ⟨⟨rfl,rfl,rfl,rfl,by rw [decide_eq_true (.inr (.inl c2))]; rfl,trivial⟩,rfl,rfl,rfl⟩
  refine zal rfl rfl (decide_eq_false c2) ?_;(iterate 7 refine mS ?_);refine po_q (v:=.d (pI s.length)) rfl rfl ?_;by_cases c3:i ≥ s.length
  ·refine zah rfl rfl (decide_eq_true (show (i:Int) ≥ s.length by omega)) ?_
   refine mN ?_;exact ⟨⟨rfl,rfl,rfl,rfl,by rw [decide_eq_true (.inr (.inr c3))]; rfl,trivial⟩,rfl,rfl,rfl⟩
  ·refine zal rfl rfl (decide_eq_false (show ¬ (i:Int) ≥ s.length by omega)) ?_
   refine mN ?_;exact ⟨⟨rfl,rfl,rfl,rfl,by rw [decide_eq_false (by omega)]; rfl,trivial⟩,rfl,rfl,rfl⟩
 rintro tm bx n1 l1 ⟨ht,rfl,rfl,rfl⟩;obtain ⟨tm0,rfl⟩:=zac ht;clear ht;refine zbB (p:=left = 0 \/ d > 12 \/ i ≥ s.length) rfl (fun hc => ?_) (fun hc => ?_)
 ·refine mQ ?_
  refine zar (p:=1) (cs:=fV 0 0 0 []) rfl rfl rfl rfl rfl rfl ?_;refine mN ?_;refine zae ⟨.inr rfl,[.ag (fV 0 0 0 []),.d (pI (-1))],rfl,zbc ⟨_,_,rfl,rfl,zbe _ _ _ _ _ _,(fun t ht => by rw [zbK] at ht; cases ht),fun t ht _ _ => ht,lR,by omega,.inl rfl,fun v h1 h2 h3 h4 => ?_⟩⟩;exfalso;have hnp:=v.nodes_pos
  have h2':0 <= 12 - d:=by
   obtain ⟨k,n,e,x,kids⟩:=v;simp only [V.rightBy,Bool.and_eq_true,decide_eq_true_eq] at h2;exact h2.2.1
  obtain ⟨b,t0,_,_,he⟩:=zeu h2 (by
   obtain ⟨k,n,e,x,kids⟩:=v
   have:=V.kids_nodes kids
   simp only [V.nodes] at h3;show kids.length <= 300
   omega) (by obtain ⟨k,n,e,x,kids⟩:=v; exact h1.2.1)
  rw [he] at h4
  have:=h4.lt
  omega
 refine zai ?_;have hil:i < s.length:=by omega
 have hl1:1 <= left:=by omega
 have hd12:d <= 12:=by omega
 have hK:=hK hd12;have HC:=hdC (d:=d) hl hil;have hbt:=(s[i]).toNat_lt;refine mO ?_;(iterate 5 refine mS ?_);refine po_ixs (k:=i) rfl rfl rfl rfl (getElem?_eq_getElem hil) ?_;refine zbb (n:=((s[i]).toNat:Int)) rfl rfl (by rw [IntKind.wrap_i64]; omega) ?_;refine mN ?_;refine mQ ?_;refine zam (n:=((i + 1:Nat):Int)) rfl rfl rfl (by omega) (by omega) ?_;refine mN ?_;generalize s[i].toNat = bb at HC hbt;refine zcl (fun st => has st.tm [(0,.ref 0 0),(1,.d (pI ((i + 1:Nat):Int))),(2,.d (pI d)),(6,.ref 1 0),(8,.d (pI bb))] /\ st.bx = [[pS s,pI (left - 1)],fV 0 0 0 []] /\ st.nt = n1 /\ st.live = l1) ⟨⟨rfl,rfl,rfl,rfl,rfl,trivial⟩,rfl,rfl,rfl⟩ (fun tm bx n2 l2 hh => ?_);obtain ⟨ht,hbx,hn,hlv⟩:=hh;obtain ⟨tm1,rfl⟩:=zac ht;simp only at hbx hn hlv; subst hbx; subst hn; subst hlv
 clear ht;have hz:lwL 0 [pS s,pI (left - 1)]:=zb1 s (left - 1);have live0:∀ t ∈ l2,2 <= t -> t < n2 -> t ∈ l2:=fun t ht _ _ => ht
 refine zak (zab ?_);refine mQ ?_;by_cases k:(bb:Int) < 128
 ·refine zah rfl rfl (decide_eq_true k) ?_
  refine mT ?_;refine mQ ?_;refine zad rfl (int_fn ((bb:Int))) ?_;refine mS ?_;refine zar (p:=1) (cs:=vC (.mk 3 ((bb:Int)) 0 [] [])) rfl rfl rfl rfl rfl rfl ?_;refine mN ?_;refine zae ⟨.inr rfl,[.ag (vC (.mk 3 ((bb:Int)) 0 [] [])),.d (pI ((i + 1:Nat):Int))],rfl,zbc (zb2 HC (zb9 _) rfl rfl rfl (by simp [V.nodes,V.nodess]) ⟨by unfold i64ok; omega,by unfold i64ok; omega,by unfold i64ok; omega,by unfold strok; simp,by simp,trivial⟩ (by omega) (by simp only [V.bulk,V.bulks,length_nil]; omega) hl1 lR live0 fun v t0 h1 hM hA => ?_)⟩
  cases hM <;> first | (exfalso; omega) | exact ⟨rfl,rfl⟩
 refine zal rfl rfl (decide_eq_false k) ?_;refine mF ?_;refine mQ ?_;by_cases k:(bb:Int) < 144
 ·refine zah rfl rfl (decide_eq_true k) ?_
  refine mT ?_;refine mQ ?_;refine mS ?_;refine mS ?_;refine zaK (n:=(bb:Int) - 128) rfl rfl rfl rfl (by omega) ?_;refine zcc (n:=2 * ((bb:Int) - 128)) rfl rfl rfl rfl (by omega) ?_;refine mS ?_;refine po_g rfl (FnG.lift1 (p:=0) (hK (i + 1) (left - 1) 8 (2 * ((bb:Int) - 128)) true n2 l2 (fun _ => by omega) (by omega) (by omega) (by omega) hnt (by omega) (by unfold i64ok; omega)) ⟨trivial,trivial,trivial,trivial,trivial,trivial⟩ hz rfl) ?_;rintro x _ n3 l3 ⟨c',rfl,left2,rfl,hGK⟩
  have hGV:=zds (bb:=bb) (c:=0) hs HC (by omega) (by unfold i64ok; omega) hGK (fun v t0 h1 hM hA => by
   cases hM with
   | map n h kids hl => exact ⟨kids,rfl,by omega,hA,by simp,rfl⟩
   | _ => exfalso; omega)
  obtain ⟨cs,next,rfl,hc5,_⟩:=hGK;(iterate 2 refine mS ?_);refine zar (p:=1) (cs:=cs) rfl rfl rfl hc5 rfl rfl ?_;refine mN ?_;exact zae ⟨.inr rfl,[.ag cs,.d (pI next)],zbn rfl rfl hc5 rfl,zbc hGV⟩
 refine zal rfl rfl (decide_eq_false k) ?_;refine mF ?_;refine mQ ?_;by_cases k:(bb:Int) < 160
 ·refine zah rfl rfl (decide_eq_true k) ?_
  refine mT ?_;refine mQ ?_;refine mS ?_;refine mS ?_;refine zaK (n:=(bb:Int) - 144) rfl rfl rfl rfl (by omega) ?_;refine mS ?_;refine po_g rfl (FnG.lift1 (p:=0) (hK (i + 1) (left - 1) 7 ((bb:Int) - 144) true n2 l2 (fun _ => by omega) (by omega) (by omega) (by omega) hnt (by omega) (by unfold i64ok; omega)) ⟨trivial,trivial,trivial,trivial,trivial,trivial⟩ hz rfl) ?_;rintro x _ n3 l3 ⟨c',rfl,left2,rfl,hGK⟩
  have hGV:=zds (bb:=bb) (c:=0) hs HC (by omega) (by unfold i64ok; omega) hGK (fun v t0 h1 hM hA => by
   cases hM with
   | list kids h => exact ⟨kids,rfl,by omega,hA,by simp,rfl⟩
   | _ => exfalso; omega)
  obtain ⟨cs,next,rfl,hc5,_⟩:=hGK;(iterate 2 refine mS ?_);refine zar (p:=1) (cs:=cs) rfl rfl rfl hc5 rfl rfl ?_;refine mN ?_;exact zae ⟨.inr rfl,[.ag cs,.d (pI next)],zbn rfl rfl hc5 rfl,zbc hGV⟩
 refine zal rfl rfl (decide_eq_false k) ?_;refine mF ?_;refine mQ ?_;by_cases k:(bb:Int) < 192
 ·refine zah rfl rfl (decide_eq_true k) ?_
  refine mT ?_;refine mQ ?_;refine mS ?_;refine mS ?_;refine zaK (n:=((bb - 160:Nat):Int)) rfl rfl rfl (by omega) (by omega) ?_
  have hGV:=zdt (bb:=bb) (nt:=n2) (live:=l2) (ok:=true) (many:=bb - 160) (i2:=i + 1) (c:=0) (kind:=5) hs HC (by omega) (by unfold i64ok; omega) hl1 (fun v t0 h1 hM hA => by
   cases hM with
   | text tx h => exact ⟨t0,rfl,by omega,hA,by simp,rfl⟩
   | _ => exfalso; omega) hil (fun _ => by omega)
  refine po_g rfl (FnG.lift1 (p:=0) (R:=fun x c' n l => c' = [pS s,pI (left - 1)] /\ n = n2 /\ l = l2 /\ x = strV s (i + 1) 5 (bb - 160) true) (str_g s (left - 1) (i + 1) 5 (bb - 160) true (by omega) (by omega) (by omega) n2 l2) ⟨trivial,trivial,trivial,trivial,trivial⟩ hz rfl) ?_;rintro x _ _ _ ⟨_,rfl,rfl,rfl,rfl,rfl⟩;obtain ⟨cs,next,hx,hc5,_⟩:=id hGV;rw [hx] at hGV ⊢;(iterate 2 refine mS ?_);refine zar (p:=1) (cs:=cs) rfl rfl rfl hc5 rfl rfl ?_;refine mN ?_;exact zae ⟨.inr rfl,[.ag cs,.d (pI next)],zbn rfl rfl hc5 rfl,zbc hGV⟩
 refine zal rfl rfl (decide_eq_false k) ?_;refine mF ?_;refine mQ ?_;by_cases k:(bb:Int) ≥ 224
 ·refine zah rfl rfl (decide_eq_true k) ?_
  refine mT ?_;refine mQ ?_;refine zaK (n:=(bb:Int) - 256) rfl rfl rfl rfl (by omega) ?_;refine zad rfl (int_fn ((bb:Int) - 256)) ?_;refine mS ?_;refine zar (p:=1) (cs:=vC (.mk 3 ((bb:Int) - 256) 0 [] [])) rfl rfl rfl rfl rfl rfl ?_;refine mN ?_;refine zae ⟨.inr rfl,[.ag (vC (.mk 3 ((bb:Int) - 256) 0 [] [])),.d (pI ((i + 1:Nat):Int))],rfl,zbc (zb2 HC (zb9 _) rfl rfl rfl (by simp [V.nodes,V.nodess]) ⟨by unfold i64ok; omega,by unfold i64ok; omega,by unfold i64ok; omega,by unfold strok; simp,by simp,trivial⟩ (by omega) (by simp only [V.bulk,V.bulks,length_nil]; omega) hl1 lR live0 fun v t0 h1 hM hA => ?_)⟩
  cases hM <;> first | (exfalso; omega) | exact ⟨rfl,rfl⟩
 refine zal rfl rfl (decide_eq_false k) ?_;refine mF ?_;refine mQ ?_;by_cases k:(bb:Int) = 192
 ·refine zah rfl rfl (decide_eq_true k) ?_
  refine mT ?_;refine mQ ?_;refine mS ?_;refine zar (p:=1) (cs:=fV 0 0 0 []) rfl rfl rfl rfl rfl rfl ?_;refine mN ?_;refine zae ⟨.inr rfl,[.ag (fV 0 0 0 []),.d (pI ((i + 1:Nat):Int))],rfl,zbc (zb2 HC (fV_er 0 0 0 []) rfl rfl rfl (by simp [V.nodes,V.nodess]) ⟨by unfold i64ok; omega,by unfold i64ok; omega,by unfold i64ok; omega,by unfold strok; simp,by simp,trivial⟩ (by omega) (by simp only [V.bulk,V.bulks,length_nil]; omega) hl1 lR live0 fun v t0 h1 hM hA => ?_)⟩
  cases hM <;> first | (exfalso; omega) | exact ⟨rfl,rfl⟩
 refine zal rfl rfl (decide_eq_false k) ?_;refine mF ?_;refine mQ ?_;by_cases k4:(bb:Int) = 194
 ·refine zah rfl rfl (decide_eq_true k4) ?_
  refine mS ?_;refine mZ ?_;refine mT ?_;refine mQ ?_;refine zaK (n:=1) rfl rfl rfl (by omega) (by omega) ?_;refine mS ?_;refine mS ?_;refine zar (p:=1) (cs:=fV 1 0 0 []) rfl rfl rfl rfl rfl rfl ?_;refine mN ?_;refine zae ⟨.inr rfl,[.ag (fV 1 0 0 []),.d (pI ((i + 1:Nat):Int))],rfl,zbc (zb2 HC (fV_er 1 0 0 []) rfl rfl rfl (by simp [V.nodes,V.nodess]) ⟨by unfold i64ok; omega,by unfold i64ok; omega,by unfold i64ok; omega,by unfold strok; simp,by simp,trivial⟩ (by omega) (by simp only [V.bulk,V.bulks,length_nil]; omega) hl1 lR live0 fun v t0 h1 hM hA => ?_)⟩
  cases hM <;> first | (exfalso; omega) | exact ⟨rfl,rfl⟩
 refine zal rfl rfl (decide_eq_false k4) ?_;(iterate 2 refine mS ?_);by_cases k5:(bb:Int) = 195
 ·refine zah rfl rfl (decide_eq_true k5) ?_
  refine mT ?_;refine mQ ?_;refine zaK (n:=2) rfl rfl rfl (by omega) (by omega) ?_;refine mS ?_;refine mS ?_;refine zar (p:=1) (cs:=fV 2 0 0 []) rfl rfl rfl rfl rfl rfl ?_;refine mN ?_;refine zae ⟨.inr rfl,[.ag (fV 2 0 0 []),.d (pI ((i + 1:Nat):Int))],rfl,zbc (zb2 HC (fV_er 2 0 0 []) rfl rfl rfl (by simp [V.nodes,V.nodess]) ⟨by unfold i64ok; omega,by unfold i64ok; omega,by unfold i64ok; omega,by unfold strok; simp,by simp,trivial⟩ (by omega) (by simp only [V.bulk,V.bulks,length_nil]; omega) hl1 lR live0 fun v t0 h1 hM hA => ?_)⟩
  cases hM <;> first | (exfalso; omega) | exact ⟨rfl,rfl⟩
 refine zal rfl rfl (decide_eq_false k5) ?_;refine mF ?_;refine zcl (fun st => has st.tm [(0,.ref 0 0),(1,.d (pI ((i + 1:Nat):Int))),(2,.d (pI d)),(6,.ref 1 0),(8,.d (pI bb))] /\ st.bx = [[pS s,pI (left - 1)],fV 0 0 0 []] /\ st.nt = n2 /\ st.live = l2) ⟨⟨rfl,rfl,rfl,rfl,rfl,trivial⟩,rfl,rfl,rfl⟩ (fun tm bx n2' l2' hh => ?_);obtain ⟨ht,hbx,hn,hlv⟩:=hh;obtain ⟨tm2,rfl⟩:=zac ht;simp only at hbx hn hlv; subst hbx; subst hn; subst hlv
 clear ht;refine mQ ?_;refine zad rfl (zet bb 204 211) ?_;by_cases k6:(204:Int) <= bb /\ (bb:Int) <= 211
 ·rw [decide_eq_true k6]
  refine mT ?_;refine mO ?_;(iterate 3 refine mS ?_);have hGV:=gotV_wide (nt:=n2') (live:=l2') HC (by omega) hl1 hil;refine po_g rfl (FnG.lift1 (p:=0) (R:=fun x c' n l => c' = [pS s,pI (left - 1)] /\ n = n2' + 1 /\ l = n2' :: l2' /\ x = wideV s (i + 1) bb) (wide_g s (left - 1) (i + 1) bb hbt (by omega) (by omega) n2' l2') ⟨trivial,trivial,trivial⟩ hz rfl) ?_;rintro x _ _ _ ⟨_,rfl,rfl,rfl,rfl,rfl⟩;obtain ⟨cs,next,hx,hc5,_⟩:=id hGV;rw [hx] at hGV ⊢;(iterate 2 refine mS ?_);refine zar (p:=1) (cs:=cs) rfl rfl rfl hc5 rfl rfl ?_;refine mN ?_;exact zae ⟨.inr rfl,[.ag cs,.d (pI next)],zbn rfl rfl hc5 rfl,zbc hGV⟩
 rw [decide_eq_false k6];refine mF ?_;refine mQ ?_;by_cases k7:(bb:Int) = 199
 ·refine zah rfl rfl (decide_eq_true k7) ?_
  refine mT ?_;refine mO ?_;(iterate 3 refine mS ?_)
  obtain rfl:bb = 199:=by omega
  refine po_g rfl (FnG.lift1 (p:=0) (ext_g hs (by omega) hK (i + 1) (left - 1) n2' l2' (by omega) (by omega) (by omega) hnt) ⟨trivial,trivial,trivial⟩ hz rfl) ?_;rintro x _ n3 l3 ⟨c',rfl,left2,rfl,hGX⟩;have hGV:=gotV_ext HC hGX;obtain ⟨cs,next,rfl,hc5,_⟩:=hGX;(iterate 2 refine mS ?_);refine zar (p:=1) (cs:=cs) rfl rfl rfl hc5 rfl rfl ?_;refine mN ?_;exact zae ⟨.inr rfl,[.ag cs,.d (pI next)],zbn rfl rfl hc5 rfl,zbc hGV⟩
 refine zal rfl rfl (decide_eq_false k7) ?_;refine mK ?_;refine mO ?_;(iterate 5 refine mS ?_);refine zad (args:=[.d (pS s),.d (pI ((i + 1:Nat):Int)),.d (pI ((1:Nat):Int))]) rfl (hgw (i + 1) 1 (by decide) (by omega)) ?_;refine mN ?_;refine mO ?_;(iterate 5 refine mS ?_);refine zad (args:=[.d (pS s),.d (pI ((i + 1:Nat):Int)),.d (pI ((2:Nat):Int))]) rfl (hgw (i + 1) 2 (by decide) (by omega)) ?_;refine mN ?_
 obtain ⟨m1,hm1,hm1b⟩:∃ m1:Nat,gwz s (i + 1) 1 = m1 /\ m1 < 256:=by
  have:=zbC s (i + 1) 1 (by decide)
  unfold gwz;split
  ·exact ⟨(gwN s (i + 1) 1).toNat,by omega,by omega⟩
  ·exact ⟨0,rfl,by omega⟩
 obtain ⟨m2,hm2,hm2b⟩:∃ m2:Nat,gwz s (i + 1) 2 = m2 /\ m2 < 65536:=by
  have:=zbC s (i + 1) 2 (by decide)
  unfold gwz;split
  ·exact ⟨(gwN s (i + 1) 2).toNat,by omega,by omega⟩
  ·exact ⟨0,rfl,by omega⟩
 rw [hm1,hm2]
 have one:∀ {l t0:L8},l.length < 256 -> t0 = be 1 l.length ++ l -> At s (i + 1) t0 -> l.length = m1 /\ At s (i + 1 + 1) l /\ t0.length = 1 + l.length /\ decide (i + 1 + 1 <= s.length) = true:=by
  rintro l t0 hl rfl hA;have h1:=hA.app.1;have h2:=hA.app.2;have h3:=h1.len (by omega);rw [zag] at h2 h3;have h4:=h1.gw_id (by omega) (by omega);rw [zdW h3,h4] at hm1;exact ⟨by omega,h2,by rw [length_append,zag],decide_eq_true h3⟩
 have two:∀ {n:Nat} {l t0:L8},n < 65536 -> t0 = be 2 n ++ l -> At s (i + 1) t0 -> n = m2 /\ At s (i + 1 + 2) l /\ t0.length = 2 + l.length /\ decide (i + 1 + 2 <= s.length) = true:=by
  rintro n l t0 hl rfl hA;have h1:=hA.app.1;have h2:=hA.app.2;have h3:=h1.len (by omega);rw [zag] at h2 h3;have h4:=h1.gw_id (by omega) (by omega);rw [zdW h3,h4] at hm2;exact ⟨by omega,h2,by rw [length_append,zag],decide_eq_true h3⟩
 refine zcl (fun st => has st.tm [(0,.ref 0 0),(1,.d (pI ((i + 1:Nat):Int))),(2,.d (pI d)),(6,.ref 1 0),(8,.d (pI bb)),(9,.d (pI m1)),(10,.d (pB (decide (i + 1 + 1 <= s.length)))),(11,.d (pI m2)),(12,.d (pB (decide (i + 1 + 2 <= s.length))))] /\ st.bx = [[pS s,pI (left - 1)],fV 0 0 0 []] /\ st.nt = n2' /\ st.live = l2') ⟨⟨rfl,rfl,rfl,rfl,rfl,rfl,rfl,rfl,rfl,trivial⟩,rfl,rfl,rfl⟩ (fun tm bx n2 l2 hh => ?_);obtain ⟨ht,hbx,hn,hlv⟩:=hh;obtain ⟨tm3,rfl⟩:=zac ht;simp only at hbx hn hlv; subst hbx; subst hn; subst hlv
 clear ht;have live0:∀ t ∈ l2,2 <= t -> t < n2 -> t ∈ l2:=fun t ht _ _ => ht
 generalize hk1:decide (i + 1 + 1 <= s.length) = ok1 at one;generalize hk2:decide (i + 1 + 2 <= s.length) = ok2 at two;have of1:ok1 = true -> i + 1 + 1 <= s.length:=fun h => of_decide_eq_true (hk1.trans h)
 have of2:ok2 = true -> i + 1 + 2 <= s.length:=fun h => of_decide_eq_true (hk2.trans h)
 refine mM ?_;refine mN ?_;refine zab (zak (zaf ?_));by_cases q217:(bb:Int) = 217
 ·refine zah rfl rfl (decide_eq_true q217) ?_
  refine mT ?_;refine mQ ?_;refine mS ?_;refine zam (n:=((i + 1 + 1:Nat):Int)) rfl rfl rfl (by omega) (by omega) ?_;refine mS ?_;refine mS ?_
  have hGV:=zdt (bb:=bb) (nt:=n2) (live:=l2) (ok:=ok1) (many:=m1) (i2:=i + 1 + 1) (c:=1) (kind:=5) hs HC (by omega) (by unfold i64ok; omega) hl1 (fun v t0 h1 hM hA => by
   cases hM with
   | text1 tx h =>
    obtain ⟨e1,e2,e3,e4⟩:=one (l:=tx) h.2 rfl hA
    exact ⟨tx,rfl,e1,e2,e3,e4⟩
   | _ => exfalso; omega) hil (of1)
  refine po_g rfl (FnG.lift1 (p:=0) (R:=fun x c' n l => c' = [pS s,pI (left - 1)] /\ n = n2 /\ l = l2 /\ x = strV s (i + 1 + 1) 5 (m1) ok1) (str_g s (left - 1) (i + 1 + 1) 5 (m1) ok1 (by omega) (by omega) (by omega) n2 l2) ⟨trivial,trivial,trivial,trivial,trivial⟩ hz rfl) ?_;rintro x _ _ _ ⟨_,rfl,rfl,rfl,rfl,rfl⟩;obtain ⟨cs,next,hx,hc5,_⟩:=id hGV;rw [hx] at hGV ⊢;(iterate 2 refine mS ?_);refine zar (p:=1) (cs:=cs) rfl rfl rfl hc5 rfl rfl ?_;refine mN ?_;exact zae ⟨.inr rfl,[.ag cs,.d (pI next)],zbn rfl rfl hc5 rfl,zbc hGV⟩
 refine zal rfl rfl (decide_eq_false q217) ?_;refine mF ?_;refine mO ?_;by_cases q218:(bb:Int) = 218
 ·refine zah rfl rfl (decide_eq_true q218) ?_
  refine mT ?_;refine mQ ?_;refine mS ?_;refine zam (n:=((i + 1 + 2:Nat):Int)) rfl rfl rfl (by omega) (by omega) ?_;refine mS ?_;refine mS ?_
  have hGV:=zdt (bb:=bb) (nt:=n2) (live:=l2) (ok:=ok2) (many:=m2) (i2:=i + 1 + 2) (c:=2) (kind:=5) hs HC (by omega) (by unfold i64ok; omega) hl1 (fun v t0 h1 hM hA => by
   cases hM with
   | text2 tx h =>
    obtain ⟨e1,e2,e3,e4⟩:=two (l:=tx) (by omega) rfl hA
    exact ⟨tx,rfl,e1,e2,e3,e4⟩
   | _ => exfalso; omega) hil (of2)
  refine po_g rfl (FnG.lift1 (p:=0) (R:=fun x c' n l => c' = [pS s,pI (left - 1)] /\ n = n2 /\ l = l2 /\ x = strV s (i + 1 + 2) 5 (m2) ok2) (str_g s (left - 1) (i + 1 + 2) 5 (m2) ok2 (by omega) (by omega) (by omega) n2 l2) ⟨trivial,trivial,trivial,trivial,trivial⟩ hz rfl) ?_;rintro x _ _ _ ⟨_,rfl,rfl,rfl,rfl,rfl⟩;obtain ⟨cs,next,hx,hc5,_⟩:=id hGV;rw [hx] at hGV ⊢;(iterate 2 refine mS ?_);refine zar (p:=1) (cs:=cs) rfl rfl rfl hc5 rfl rfl ?_;refine mN ?_;exact zae ⟨.inr rfl,[.ag cs,.d (pI next)],zbn rfl rfl hc5 rfl,zbc hGV⟩
 refine zal rfl rfl (decide_eq_false q218) ?_;refine mF ?_;refine mO ?_;by_cases q196:(bb:Int) = 196
 ·refine zah rfl rfl (decide_eq_true q196) ?_
  refine mT ?_;refine mQ ?_;refine mS ?_;refine zam (n:=((i + 1 + 1:Nat):Int)) rfl rfl rfl (by omega) (by omega) ?_;refine mS ?_;refine mS ?_
  have hGV:=zdt (bb:=bb) (nt:=n2) (live:=l2) (ok:=ok1) (many:=m1) (i2:=i + 1 + 1) (c:=1) (kind:=6) hs HC (by omega) (by unfold i64ok; omega) hl1 (fun v t0 h1 hM hA => by
   cases hM with
   | bytes1 tx h =>
    obtain ⟨e1,e2,e3,e4⟩:=one (l:=tx) h rfl hA
    exact ⟨tx,rfl,e1,e2,e3,e4⟩
   | _ => exfalso; omega) hil (of1)
  refine po_g rfl (FnG.lift1 (p:=0) (R:=fun x c' n l => c' = [pS s,pI (left - 1)] /\ n = n2 /\ l = l2 /\ x = strV s (i + 1 + 1) 6 (m1) ok1) (str_g s (left - 1) (i + 1 + 1) 6 (m1) ok1 (by omega) (by omega) (by omega) n2 l2) ⟨trivial,trivial,trivial,trivial,trivial⟩ hz rfl) ?_;rintro x _ _ _ ⟨_,rfl,rfl,rfl,rfl,rfl⟩;obtain ⟨cs,next,hx,hc5,_⟩:=id hGV;rw [hx] at hGV ⊢;(iterate 2 refine mS ?_);refine zar (p:=1) (cs:=cs) rfl rfl rfl hc5 rfl rfl ?_;refine mN ?_;exact zae ⟨.inr rfl,[.ag cs,.d (pI next)],zbn rfl rfl hc5 rfl,zbc hGV⟩
 refine zal rfl rfl (decide_eq_false q196) ?_;refine mF ?_;refine mO ?_;by_cases q197:(bb:Int) = 197
 ·refine zah rfl rfl (decide_eq_true q197) ?_
  refine mT ?_;refine mQ ?_;refine mS ?_;refine zam (n:=((i + 1 + 2:Nat):Int)) rfl rfl rfl (by omega) (by omega) ?_;refine mS ?_;refine mS ?_
  have hGV:=zdt (bb:=bb) (nt:=n2) (live:=l2) (ok:=ok2) (many:=m2) (i2:=i + 1 + 2) (c:=2) (kind:=6) hs HC (by omega) (by unfold i64ok; omega) hl1 (fun v t0 h1 hM hA => by
   cases hM with
   | bytes2 tx h =>
    obtain ⟨e1,e2,e3,e4⟩:=two (l:=tx) (by omega) rfl hA
    exact ⟨tx,rfl,e1,e2,e3,e4⟩
   | _ => exfalso; omega) hil (of2)
  refine po_g rfl (FnG.lift1 (p:=0) (R:=fun x c' n l => c' = [pS s,pI (left - 1)] /\ n = n2 /\ l = l2 /\ x = strV s (i + 1 + 2) 6 (m2) ok2) (str_g s (left - 1) (i + 1 + 2) 6 (m2) ok2 (by omega) (by omega) (by omega) n2 l2) ⟨trivial,trivial,trivial,trivial,trivial⟩ hz rfl) ?_;rintro x _ _ _ ⟨_,rfl,rfl,rfl,rfl,rfl⟩;obtain ⟨cs,next,hx,hc5,_⟩:=id hGV;rw [hx] at hGV ⊢;(iterate 2 refine mS ?_);refine zar (p:=1) (cs:=cs) rfl rfl rfl hc5 rfl rfl ?_;refine mN ?_;exact zae ⟨.inr rfl,[.ag cs,.d (pI next)],zbn rfl rfl hc5 rfl,zbc hGV⟩
 refine zal rfl rfl (decide_eq_false q197) ?_;refine mF ?_;refine mO ?_;by_cases q220:(bb:Int) = 220
 ·refine zah rfl rfl (decide_eq_true q220) ?_
  refine mT ?_;refine mQ ?_;refine mS ?_;refine zam (n:=((i + 1 + 2:Nat):Int)) rfl rfl rfl (by omega) (by omega) ?_;refine mS ?_;refine mS ?_;refine mS ?_;refine po_g rfl (FnG.lift1 (p:=0) (hK (i + 1 + 2) (left - 1) 7 ((m2:Int)) ok2 n2 l2 (of2) (by omega) (by omega) (by omega) hnt (by omega) (by unfold i64ok; omega)) ⟨trivial,trivial,trivial,trivial,trivial,trivial⟩ hz rfl) ?_;rintro x _ n3 l3 ⟨c',rfl,left2,rfl,hGK⟩
  have hGV:=zds (bb:=bb) (c:=2) hs HC (by omega) (by unfold i64ok; omega) hGK (fun v t0 h1 hM hA => by
   cases hM with
   | list2 ks h =>
    obtain ⟨e1,e2,e3,e4⟩:=two (l:=msgs ks) (by omega) rfl hA
    exact ⟨ks,rfl,by omega,e2,e3,e4⟩
   | _ => exfalso; omega)
  obtain ⟨cs,next,rfl,hc5,_⟩:=hGK;(iterate 2 refine mS ?_);refine zar (p:=1) (cs:=cs) rfl rfl rfl hc5 rfl rfl ?_;refine mN ?_;exact zae ⟨.inr rfl,[.ag cs,.d (pI next)],zbn rfl rfl hc5 rfl,zbc hGV⟩
 refine zal rfl rfl (decide_eq_false q220) ?_;refine mF ?_;refine mO ?_;by_cases q222:(bb:Int) = 222
 ·refine zah rfl rfl (decide_eq_true q222) ?_
  refine mT ?_;refine mQ ?_;refine mS ?_;refine zam (n:=((i + 1 + 2:Nat):Int)) rfl rfl rfl (by omega) (by omega) ?_;refine mS ?_;refine zcc (n:=2 * (m2:Int)) rfl rfl rfl rfl (by omega) ?_;refine mS ?_;refine mS ?_;refine po_g rfl (FnG.lift1 (p:=0) (hK (i + 1 + 2) (left - 1) 8 (2 * (m2:Int)) ok2 n2 l2 (of2) (by omega) (by omega) (by omega) hnt (by omega) (by unfold i64ok; omega)) ⟨trivial,trivial,trivial,trivial,trivial,trivial⟩ hz rfl) ?_;rintro x _ n3 l3 ⟨c',rfl,left2,rfl,hGK⟩
  have hGV:=zds (bb:=bb) (c:=2) hs HC (by omega) (by unfold i64ok; omega) hGK (fun v t0 h1 hM hA => by
   cases hM with
   | map2 n h ks hl =>
    obtain ⟨e1,e2,e3,e4⟩:=two (l:=msgs ks) (by omega) rfl hA
    exact ⟨ks,rfl,by omega,e2,e3,e4⟩
   | _ => exfalso; omega)
  obtain ⟨cs,next,rfl,hc5,_⟩:=hGK;(iterate 2 refine mS ?_);refine zar (p:=1) (cs:=cs) rfl rfl rfl hc5 rfl rfl ?_;refine mN ?_;exact zae ⟨.inr rfl,[.ag cs,.d (pI next)],zbn rfl rfl hc5 rfl,zbc hGV⟩
 refine zal rfl rfl (decide_eq_false q222) ?_;refine mK ?_;refine mQ ?_;refine zar (p:=1) (cs:=fV 0 0 0 []) rfl rfl rfl rfl rfl rfl ?_;refine mN ?_;refine zae ⟨.inr rfl,[.ag (fV 0 0 0 []),.d (pI (-1))],rfl,zbc (zeL HC lR live0 (by omega) (fun v t0 h1 hM hA => ?_) _ _ _ _)⟩
 cases hM <;> (exfalso; omega)
theorem getG_all {s:L8} (hs:s.length <= 2147483647):∀ n:Nat,n <= 13 -> GetG T hT s ((13 - n:Nat):Int)
 | 0,_ => get_g hs (by omega) fun h => by omega
 | n + 1,h => by
  refine get_g hs (by omega) fun _ => kids_g hs (by omega) ?_
  rw [show ((13 - (n + 1):Nat):Int) + 1 = ((13 - n:Nat):Int) by omega];exact getG_all hs n (by omega)
def GmR (s:L8) (i:Int) (nt:Nat) (live:List Nat) (x:PV) (nt':Nat) (live':List Nat):Prop :=
 ∃ (cs:List PC) (next:Int),x = .tup [.ag cs,.d (pI next)] /\ cs.length = 5 /\ NewL nt nt' cs /\ (∀ t ∈ toksL cs,t ∈ live') /\ (∀ t ∈ live,2 <= t -> t < nt -> t ∈ live') /\ nt <= nt' /\
 ((next = -1 /\ erL cs = vC (.mk 0 0 0 [] []) /\ ∀ v:V,v.wf -> v.ok = true -> 0 <= i -> ¬ At s i.toNat (msg v)) \/
  ∃ (k:Nat) (v:V),i = k /\ v.wf /\ v.ok = true /\ At s k (msg v) /\ next = ((k + (msg v).length:Nat):Int) /\ k + (msg v).length <= s.length /\ erL cs = vC v /\ ∀ v':V,v'.wf -> v'.ok = true -> At s k (msg v') -> v' = v)
theorem zfd {s:L8} {i j:Nat} {l:L8} (h:l = (s.drop i).take (j - i)):At s i l:=⟨(s.drop i).drop (j - i),by rw [h,take_append_drop]⟩
theorem ok_nodes {v:V} (h:v.ok = true):(v.nodes:Int) <= 300:=by
 unfold V.ok at h; simp only [Bool.and_eq_true,decide_eq_true_eq] at h; omega
theorem zeM {v:V} (h:v.ok = true):v.rightBy pairsOk (12 - 0) = true:=by
 unfold V.ok at h; simp only [Bool.and_eq_true] at h; exact h.1
theorem zib {v:V} (hw:v.wf) (h:v.ok = true):0 < (msg v).length:=by
 obtain ⟨b,t,_,_,e⟩:=zeu (zeM h) (V.ok_len h) (by obtain ⟨k,n,e,s,kids⟩:=v; exact hw.2.1);rw [e]; simp
theorem strEq (a b:L8):((ByteArray.mk a.toArray).toList == (ByteArray.mk b.toArray).toList) = decide (a = b):=by
 rw [ByteArray.toList_eq,ByteArray.toList_eq];show (a == b) = decide (a = b);by_cases h:a = b
 ·subst h; simp
 ·simp [h]
theorem po_ne {E:Env} {K:St -> Prop} {tm:Nat -> PV} {bx:LP PC} {nt d:Nat} {live:List Nat} {r:List MOpr} {g:Option (Nat × Bool)} {c:List X} {x y:X} {la lb:L8} {f:Bool} (hg:gd g tm = some true) (hx:ev tm x = .d (pS la)) (hy:ev tm y = .d (pS lb)) (h:po E r K ⟨up d (.d (pB (decide (la ≠ lb)))) tm,bx,nt,live⟩):po E (⟨some d,.bin .neq f x y,g,c⟩ :: r) K ⟨tm,bx,nt,live⟩:=by
 refine po_q hg ?_ h;simp only [qf,hx,hy,pS];show some (PV.d (.v (.bool (!((ByteArray.mk la.toArray).toList == (ByteArray.mk lb.toArray).toList))))) = _;rw [strEq];by_cases h:la = lb
 ·rw [decide_eq_true h,decide_eq_false (fun hn => hn h)]; rfl
 ·rw [decide_eq_false h,decide_eq_true h]; rfl
theorem getMsg_g {s:L8} (hs:s.length <= 2147483647) (i:Int) (nt:Nat) (live:List Nat) (hnt:2 <= nt) :
  FnG (env T hT) 58 [.d (pS s),.d (pI i)] [] nt live (fun x _ n l => x.lw 0 /\ GmR s i nt live x n l):=by
 have hput:=fun v hw hb => zgB (T:=T) (hT:=hT) v hw hb
 refine zaG (zaj zhY) (by show 2 <= 41; decide) fun B hB => ?_
 unfold m_s_GetMsg;refine mP ?_;refine zak ?_;refine zan (fun st => has st.tm [(0,.d (pS s)),(1,.d (pI i)),(4,.ref 0 0),(16,.d (pB (decide (i < 0 \/ i ≥ s.length))))] /\ st.bx = [fV 0 0 0 []] /\ st.nt = nt /\ st.live = live) ?_ ?_
 ·refine zaf ?_
  refine mS ?_;by_cases c1:i < 0
  ·refine zah rfl rfl (decide_eq_true c1) ?_
   refine mS ?_;refine mZ ?_;refine mN ?_;exact ⟨⟨rfl,rfl,rfl,by rw [decide_eq_true (.inl c1)]; rfl,trivial⟩,rfl,rfl,rfl⟩
  ·refine zal rfl rfl (decide_eq_false c1) ?_
   (iterate 3 refine mS ?_);refine po_q (v:=.d (pI s.length)) rfl rfl ?_;refine po_b rfl rfl (fun b hb => ?_);refine mN ?_
   have:decide (i < 0 \/ i ≥ s.length) = b:=by rw [hb]; exact decide_eq_decide.2 ⟨fun h => h.resolve_left c1,.inr⟩
   exact ⟨⟨rfl,rfl,rfl,by rw [this]; rfl,trivial⟩,rfl,rfl,rfl⟩
 rintro tm bx n1 l1 ⟨ht,rfl,rfl,rfl⟩;obtain ⟨tm0,rfl⟩:=zac ht;clear ht
 have hfl:∀ (n2:Nat) (l2:List Nat),n1 <= n2 -> (∀ t ∈ l1,2 <= t -> t < n1 -> t ∈ l2) -> (∀ v:V,v.wf -> v.ok = true -> 0 <= i -> ¬ At s i.toNat (msg v)) -> GmR s i n1 l1 (.tup [.ag (fV 0 0 0 []),.d (pI (-1))]) n2 l2:=fun n2 l2 h1 h2 h3 =>
  ⟨_,_,rfl,rfl,zbe _ _ _ _ _ _,(fun t ht => by rw [zbK] at ht; cases ht),h2,h1,.inl ⟨rfl,rfl,h3⟩⟩
 refine zbB (p:=i < 0 \/ i ≥ s.length) rfl (fun hc => ?_) (fun hc => ?_)
 ·refine mQ ?_
  refine zar (p:=0) (cs:=fV 0 0 0 []) rfl rfl rfl rfl rfl rfl ?_;refine mN ?_;refine zae ⟨.inr rfl,[.ag (fV 0 0 0 []),.d (pI (-1))],rfl,zbE (zbe _ _ _ _ 0 0) _,hfl _ _ lR (fun t ht _ _ => ht) fun v h1 h2 h3 h4 => ?_⟩
  have:=zib h1 h2
  obtain ⟨r,hr⟩:=h4;rw [drop_of_length_le (by omega)] at hr
  have:=congrArg length hr
  simp only [length_nil,length_append] at this; omega
 obtain ⟨k,rfl⟩:=Int.eq_ofNat_of_zero_le (show 0 <= i by omega);have hk:k < s.length:=by omega
 refine zai ?_;refine mO ?_;(iterate 2 refine mS ?_);refine mN ?_;refine mO ?_;(iterate 2 refine mS ?_);refine po_g rfl (FnG.lift1 (p:=1) (by have:=getG_all (T:=T) (hT:=hT) hs 13 (by omega) k 300 n1 l1 (by omega) (by omega) (by omega) hnt; exact this) (args:=[.d (pI k),.d (pI 0)]) ⟨trivial,trivial,trivial⟩ (zb1 s 300) rfl) ?_;rintro x _ n2 l2 ⟨c',rfl,left2,rfl,cs,next,rfl,hc5,hnew,hctk,hlv,hn2,_,hres,hcomp⟩
 have hcomp:∀ v:V,v.wf -> v.ok = true -> At s k (msg v) -> next = ((k + (msg v).length:Nat):Int) /\ erL cs = vC v:=fun v h1 h2 h3 => by
  obtain ⟨q1,q2,_⟩:=hcomp v h1 (zeM h2) (ok_nodes h2) h3;exact ⟨q1,q2⟩
 (iterate 3 refine mS ?_);refine zbI (cs:=cs) rfl hc5 rfl rfl ?_;refine mL ?_;refine zak ?_
 obtain ⟨f,hf⟩:∃ f:Bool,f = true ↔ ¬ ∃ v:V,v.wf /\ v.ok = true /\ At s k (msg v):=by
  by_cases h:∃ v:V,v.wf /\ v.ok = true /\ At s k (msg v)
  ·exact ⟨false,by simp only [h,not_true]; decide⟩
  ·exact ⟨true,by simp only [h,not_false_iff]⟩
 refine zan (fun st => has st.tm [(4,.ref 0 0),(7,.ref 2 0),(8,.d (pI next)),(37,.d (pB f))] /\ (∃ c',st.bx = [fV 0 0 0 [],c',cs]) /\ st.nt = n2 /\ st.live = l2) ?_ ?_
 ·refine zaf ?_
  refine mS ?_
  rcases hres with hnx | ⟨j,u,hnx,he,huw,hkj,hjs,hub,_⟩
  ·refine zah rfl rfl (decide_eq_true (show next < 0 by omega)) ?_
   refine mS ?_;refine mZ ?_;refine mN ?_;refine ⟨⟨rfl,rfl,rfl,?_,trivial⟩,⟨_,rfl⟩,rfl,rfl⟩
   have:f = true:=hf.2 (by
    rintro ⟨v,h1,h2,h3⟩
    have:=(hcomp v h1 h2 h3).1
    omega)
   rw [this]; rfl
  ·refine zal rfl rfl (decide_eq_false (show ¬ next < 0 by omega)) ?_
   refine mS ?_;refine zaE (p:=2) (cs:=cs) rfl rfl rfl hc5 ?_;(iterate 3 refine mS ?_);refine zbU (a:=k) (b:=j) (rs:=(s.drop k).take (j - k)) rfl rfl (zaD rfl rfl) (zaD rfl hnx) (by omega) rfl ?_;refine zaC (b:=true) (args:=[.ag (vC u)]) rfl (fun _ => zgu he) (fun _ => hput u huw (by omega)) ?_;refine po_ne (la:=msgTop u) (lb:=(s.drop k).take (j - k)) rfl rfl rfl ?_;refine mN ?_;refine ⟨⟨rfl,rfl,rfl,?_,trivial⟩,⟨_,rfl⟩,rfl,rfl⟩
   have hiff:(msgTop u ≠ (s.drop k).take (j - k)) ↔ ¬ ∃ v:V,v.wf /\ v.ok = true /\ At s k (msg v):=by
    constructor
    ·rintro hne ⟨v,h1,h2,h3⟩
     obtain ⟨q1,q2⟩:=hcomp v h1 h2 h3;have huv:u = v:=zfc (he.symm.trans q2);subst huv
     apply hne
     unfold msgTop;rw [if_pos h2,show j - k = (msg u).length by omega,h3.take]
    ·intro hno heq
     apply hno
     by_cases hok:u.ok = true
     ·refine ⟨u,huw,hok,?_⟩
      unfold msgTop at heq;rw [if_pos hok] at heq;exact zfd heq
     ·exfalso
      unfold msgTop at heq;rw [if_neg hok] at heq
      have:=congrArg length heq
      rw [length_take,length_drop,length_nil] at this;omega
   have:decide (msgTop u ≠ (s.drop k).take (j - k)) = f:=by rw [Bool.eq_iff_iff,decide_eq_true_iff,hiff,hf]
   rw [<- this]; rfl
 rintro tm bx n3 l3 ⟨ht,⟨c',rfl⟩,rfl,rfl⟩;obtain ⟨tm1,rfl⟩:=zac ht;clear ht;refine zaU (t:=f) rfl (fun hno => ?_) (fun hyes => ?_)
 ·have hno:=hf.1 hno
  refine mQ ?_;refine zar (p:=0) (cs:=fV 0 0 0 []) rfl rfl rfl rfl rfl rfl ?_;refine mN ?_;exact zae ⟨.inr rfl,[.ag (fV 0 0 0 []),.d (pI (-1))],rfl,zbE (zbe _ _ _ _ 0 0) _,hfl _ _ hn2 hlv fun v h1 h2 h3 h4 => hno ⟨v,h1,h2,h4⟩⟩
 ·obtain ⟨v,h1,h2,h3⟩:∃ v:V,v.wf /\ v.ok = true /\ At s k (msg v):=Classical.byContradiction fun h => by rw [hf.2 h] at hyes; cases hyes
  obtain ⟨q1,q2⟩:=hcomp v h1 h2 h3;refine zai ?_;refine mO ?_;refine zaE (p:=2) (cs:=cs) rfl rfl rfl hc5 ?_;refine mS ?_;refine zar (p:=0) (cs:=cs) rfl rfl rfl hc5 rfl rfl ?_;refine mN ?_;exact zae ⟨.inr rfl,[.ag cs,.d (pI next)],zbn rfl rfl hc5 rfl,zbE hnew _,cs,next,rfl,hc5,hnew,hctk,hlv,hn2,.inr ⟨k,v,rfl,h1,h2,h3,q1,h3.len (by omega),q2,fun v' r1 r2 r3 => zfc ((hcomp v' r1 r2 r3).2.symm.trans q2)⟩⟩
end
section
theorem anyHd_lt {l:L8} {j:Nat} (hj:j < l.length) (h:l[j].toNat % 32 < 24):anyHd l j = some (l[j].toNat / 32,l[j].toNat % 32,j + 1):=by
 unfold anyHd; rw [getElem?_eq_getElem hj]; simp only; rw [if_pos h]
theorem anyHd_gt {l:L8} {j:Nat} (hj:j < l.length) (h:27 < l[j].toNat % 32):anyHd l j = none:=by
 unfold anyHd; rw [getElem?_eq_getElem hj]; simp only; rw [if_neg (by omega),if_pos h]
theorem zeN {l:L8} {j k:Nat} (hj:j < l.length) (h:l[j].toNat % 32 = 24 + k) (hk:k <= 3) (hl:l.length < j + 1 + 2 ^ k):anyHd l j = none:=by
 unfold anyHd; rw [getElem?_eq_getElem hj]; simp only; rw [h,if_neg (by omega),if_neg (by omega),Nat.add_sub_cancel_left,if_pos hl]
theorem zfe {l:L8} {j k:Nat} (hj:j < l.length) (h:l[j].toNat % 32 = 24 + k) (hk:k <= 3) (hl:j + 1 + 2 ^ k <= l.length):anyHd l j = some (l[j].toNat / 32,valBE ((l.drop (j + 1)).take (2 ^ k)),j + 1 + 2 ^ k):=by
 unfold anyHd; rw [getElem?_eq_getElem hj]; simp only; rw [h,if_neg (by omega),if_neg (by omega),Nat.add_sub_cancel_left,if_neg (by omega)]
theorem zff (l:L8) (s k:Nat) (h:s + k < l.length):valBE ((l.drop s).take (k + 1)) = valBE ((l.drop s).take k) * 256 + l[s + k].toNat:=by
 rw [ze5 (l.drop s) k (by simp; omega),getElem_drop]
theorem zcp (l:L8) (j t:Nat) (h:j + (t + 1) < l.length):valBE ((l.drop (j + 1)).take (t + 1)) = valBE ((l.drop (j + 1)).take t) * 256 + l[j + (t + 1)].toNat:=by
 have:=zff l (j + 1) t (by omega)
 rw [this]; congr 3; omega
theorem zea (l:L8) (j t:Nat) (h:t <= 7):valBE ((l.drop (j + 1)).take t) < 72057594037927936 :=
 Nat.lt_of_lt_of_le (zdh _) (Nat.le_trans (Nat.pow_le_pow_right (by decide) (show _ <= 7 by rw [length_take]; omega)) (by decide))
theorem zeb (l:L8) (j k m:Nat) (w:World) (hj:j < l.length) (hm:m = 2 ^ k) (hk:k <= 3) (hq:l[j].toNat % 32 = 24 + k) (hl:l.length <= 9223372036854775000) :
  Calls Tryz.prog 87 #[.string ⟨l.toArray⟩,.int .i64 (j:Nat)] w fun e w' => e = .returned (.tuple #[.int .i64 (hM (anyHd l j)),.int .u64 (hN (anyHd l j)),.int .i64 (hX (anyHd l j))]) /\ Below w.heap.size w w':=by
 have hb:=l[j].toNat_lt;have p1:(0:Int) <= j:=by omega
 have p2:(j:Int) < l.length:=by omega
 have hmk:(k = 0 /\ m = 1) \/ (k = 1 /\ m = 2) \/ (k = 2 /\ m = 4) \/ (k = 3 /\ m = 8):=by
  have:k = 0 \/ k = 1 \/ k = 2 \/ k = 3:=by omega
  rcases this with rfl | rfl | rfl | rfl <;> simp_all
 by_cases hs:l.length < j + 1 + m
 ·have H:=Lib.hid (zeN hj hq hk (by rw [<- hm]; exact hs))
  rw [H.out];have HM:=Lib.hid hm;clear hm;generalize hqq:l[j].toNat = q at *;have hmr:(k = 0 /\ m = 1 /\ (q:Int) % 32 = 24) \/ (k = 1 /\ m = 2 /\ (q:Int) % 32 = 25) \/ (k = 2 /\ m = 4 /\ (q:Int) % 32 = 26) \/ (k = 3 /\ m = 8 /\ (q:Int) % 32 = 27):=by omega
  clear hmk hq
  rcases hmr with ⟨rfl,rfl,hr⟩ | ⟨rfl,rfl,hr⟩ | ⟨rfl,rfl,hr⟩ | ⟨rfl,rfl,hr⟩
  all_goals
   go_enter Tryz.func87,Tryz.ntmps87
   go_wp2
   go_quiet (fail)
   have hbel:=below_drewN (Below.refl w.heap.size w) nq;generalize w.drewN nq = w1 at *;have hsz:=hbel.size;go_wp2
   go_ret3
   exact ⟨by simp [hM,hN,hX],hbel.alloc hsz _⟩
 ·have H:=Lib.hid (zfe hj hq hk (by rw [<- hm]; omega))
  rw [H.out];have HM:=Lib.hid hm;rw [<- hm];clear hm;generalize hqq:l[j].toNat = q at *;have hmr:(k = 0 /\ m = 1 /\ (q:Int) % 32 = 24) \/ (k = 1 /\ m = 2 /\ (q:Int) % 32 = 25) \/ (k = 2 /\ m = 4 /\ (q:Int) % 32 = 26) \/ (k = 3 /\ m = 8 /\ (q:Int) % 32 = 27):=by omega
  clear hmk hq
  rcases hmr with ⟨rfl,rfl,hr⟩ | ⟨rfl,rfl,hr⟩ | ⟨rfl,rfl,hr⟩ | ⟨rfl,rfl,hr⟩
  ·go_enter Tryz.func87,Tryz.ntmps87
   go_wp2
   go_quiet (fail)
   have hbel:=below_drewN (Below.refl w.heap.size w) nq;generalize w.drewN nq = w1 at *;have hsz:=hbel.size;go_wp2;have HRR:=Lib.hid hr;clear hr p1 p2
   go_loopw [10,11] (fun n i wr => ∃ t:Nat,t <= 1 /\ i = .int .i64 ((t:Int) + 1) /\ n = .int .u64 (valBE ((l.drop (j + 1)).take t):Nat) /\ Below w.heap.size w wr) (fun _ i _ => (1 + 1 - intOf i).toNat)
   case atStart => exact ⟨0,by omega,rfl,rfl,hbel.alloc hsz _⟩
   case round =>
    obtain ⟨t,ht,rfl,rfl,hbel2⟩:=hrel;by_cases htm:t < 1
    ·have hlt:j + (t + 1) < l.length:=by omega
     have HS:=Lib.hid (zcp l j t hlt);have hv7:=zea l j t (by omega);have hby:=(l[j + (t + 1)]).toNat_lt;generalize hvv:valBE ((l.drop (j + 1)).take t) = v at *;clear hvv;generalize hbb:(l[j + (t + 1)]).toNat = bb at *;have p3:(j:Int) + (↑t + 1) < l.length:=by omega
     go_wp2;go_roundw
     case rel => exact ⟨t + 1,by omega,by go_num,by rw [HS.out]; go_num,hbel2⟩
     case measure => simp [intOf] <;> omega
    ·obtain rfl:t = 1:=by omega
     go_wp2
     go_ret3
     exact ⟨by simp [hM,hN,hX],hbel2⟩
  ·go_enter Tryz.func87,Tryz.ntmps87
   go_wp2
   go_quiet (fail)
   have hbel:=below_drewN (Below.refl w.heap.size w) nq;generalize w.drewN nq = w1 at *;have hsz:=hbel.size;go_wp2;have HRR:=Lib.hid hr;clear hr p1 p2
   go_loopw [10,11] (fun n i wr => ∃ t:Nat,t <= 2 /\ i = .int .i64 ((t:Int) + 1) /\ n = .int .u64 (valBE ((l.drop (j + 1)).take t):Nat) /\ Below w.heap.size w wr) (fun _ i _ => (2 + 1 - intOf i).toNat)
   case atStart => exact ⟨0,by omega,rfl,rfl,hbel.alloc hsz _⟩
   case round =>
    obtain ⟨t,ht,rfl,rfl,hbel2⟩:=hrel;by_cases htm:t < 2
    ·have hlt:j + (t + 1) < l.length:=by omega
     have HS:=Lib.hid (zcp l j t hlt);have hv7:=zea l j t (by omega);have hby:=(l[j + (t + 1)]).toNat_lt;generalize hvv:valBE ((l.drop (j + 1)).take t) = v at *;clear hvv;generalize hbb:(l[j + (t + 1)]).toNat = bb at *;have p3:(j:Int) + (↑t + 1) < l.length:=by omega
     go_wp2;go_roundw
     case rel => exact ⟨t + 1,by omega,by go_num,by rw [HS.out]; go_num,hbel2⟩
     case measure => simp [intOf] <;> omega
    ·obtain rfl:t = 2:=by omega
     go_wp2
     go_ret3
     exact ⟨by simp [hM,hN,hX],hbel2⟩
  ·go_enter Tryz.func87,Tryz.ntmps87
   go_wp2
   go_quiet (fail)
   have hbel:=below_drewN (Below.refl w.heap.size w) nq;generalize w.drewN nq = w1 at *;have hsz:=hbel.size;go_wp2;have HRR:=Lib.hid hr;clear hr p1 p2
   go_loopw [10,11] (fun n i wr => ∃ t:Nat,t <= 4 /\ i = .int .i64 ((t:Int) + 1) /\ n = .int .u64 (valBE ((l.drop (j + 1)).take t):Nat) /\ Below w.heap.size w wr) (fun _ i _ => (4 + 1 - intOf i).toNat)
   case atStart => exact ⟨0,by omega,rfl,rfl,hbel.alloc hsz _⟩
   case round =>
    obtain ⟨t,ht,rfl,rfl,hbel2⟩:=hrel;by_cases htm:t < 4
    ·have hlt:j + (t + 1) < l.length:=by omega
     have HS:=Lib.hid (zcp l j t hlt);have hv7:=zea l j t (by omega);have hby:=(l[j + (t + 1)]).toNat_lt;generalize hvv:valBE ((l.drop (j + 1)).take t) = v at *;clear hvv;generalize hbb:(l[j + (t + 1)]).toNat = bb at *;have p3:(j:Int) + (↑t + 1) < l.length:=by omega
     go_wp2;go_roundw
     case rel => exact ⟨t + 1,by omega,by go_num,by rw [HS.out]; go_num,hbel2⟩
     case measure => simp [intOf] <;> omega
    ·obtain rfl:t = 4:=by omega
     go_wp2
     go_ret3
     exact ⟨by simp [hM,hN,hX],hbel2⟩
  ·go_enter Tryz.func87,Tryz.ntmps87
   go_wp2
   go_quiet (fail)
   have hbel:=below_drewN (Below.refl w.heap.size w) nq;generalize w.drewN nq = w1 at *;have hsz:=hbel.size;go_wp2;have HRR:=Lib.hid hr;clear hr p1 p2
   go_loopw [10,11] (fun n i wr => ∃ t:Nat,t <= 8 /\ i = .int .i64 ((t:Int) + 1) /\ n = .int .u64 (valBE ((l.drop (j + 1)).take t):Nat) /\ Below w.heap.size w wr) (fun _ i _ => (8 + 1 - intOf i).toNat)
   case atStart => exact ⟨0,by omega,rfl,rfl,hbel.alloc hsz _⟩
   case round =>
    obtain ⟨t,ht,rfl,rfl,hbel2⟩:=hrel;by_cases htm:t < 8
    ·have hlt:j + (t + 1) < l.length:=by omega
     have HS:=Lib.hid (zcp l j t hlt);have hv7:=zea l j t (by omega);have hby:=(l[j + (t + 1)]).toNat_lt;generalize hvv:valBE ((l.drop (j + 1)).take t) = v at *;clear hvv;generalize hbb:(l[j + (t + 1)]).toNat = bb at *;have p3:(j:Int) + (↑t + 1) < l.length:=by omega
     go_wp2;go_roundw
     case rel => exact ⟨t + 1,by omega,by go_num,by rw [HS.out]; go_num,hbel2⟩
     case measure => simp [intOf] <;> omega
    ·obtain rfl:t = 8:=by omega
     go_wp2
     go_ret3
     exact ⟨by simp [hM,hN,hX],hbel2⟩
theorem zfg (l:L8) (i:Int) (w:World) (hi:i64ok i) (hl:l.length <= 9223372036854775000) :
  Calls Tryz.prog 87 #[.string ⟨l.toArray⟩,.int .i64 i] w fun e w' => e = .returned (.tuple #[.int .i64 (hM (anyAt l i)),.int .u64 (hN (anyAt l i)),.int .i64 (hX (anyAt l i))]) /\ Below w.heap.size w w':=by
 by_cases h0:i < 0
 ·have HR:=Lib.hid (show anyAt l i = none by unfold anyAt; rw [if_pos h0])
  rw [HR.out]
  go_enter Tryz.func87,Tryz.ntmps87
  go_wp2
  go_ret3
  exact ⟨rfl,Below.refl _ _⟩
 ·obtain ⟨j,rfl⟩:=Int.eq_ofNat_of_zero_le (show 0 <= i by omega)
  have HR:=Lib.hid (show anyAt l (j:Nat) = anyHd l j by unfold anyAt; rw [if_neg h0]; rfl);rw [HR.out];by_cases hj:j < l.length
  ·have hb:=l[j].toNat_lt
   generalize hq:l[j].toNat = q at *;have HQ:=Lib.hid hq;have p1:(0:Int) <= j:=by omega
   have p2:(j:Int) < l.length:=by omega
   by_cases h24:q % 32 < 24
   ·have H:=Lib.hid (anyHd_lt hj (by rw [hq]; exact h24))
    rw [H.out,hq]
    go_enter Tryz.func87,Tryz.ntmps87
    go_wp2
    go_quiet (fail)
    go_wp2
    go_ret3
    exact ⟨by simp [hM,hN,hX],below_drewN (Below.refl _ _) _⟩
   ·by_cases h27:27 < q % 32
    ·have H:=Lib.hid (anyHd_gt hj (by rw [hq]; exact h27))
     rw [H.out]
     go_enter Tryz.func87,Tryz.ntmps87
     go_wp2
     go_quiet (fail)
     go_wp2
     go_ret3
     exact ⟨by simp [hM,hN,hX],below_drewN (Below.refl _ _) _⟩
    ·have hk:q % 32 = 24 \/ q % 32 = 25 \/ q % 32 = 26 \/ q % 32 = 27:=by omega
     rcases hk with hk | hk | hk | hk
     ·exact zeb l j 0 1 w hj rfl (by omega) (by rw [hq]; exact hk) hl
     ·exact zeb l j 1 2 w hj rfl (by omega) (by rw [hq]; exact hk) hl
     ·exact zeb l j 2 4 w hj rfl (by omega) (by rw [hq]; exact hk) hl
     ·exact zeb l j 3 8 w hj rfl (by omega) (by rw [hq]; exact hk) hl
  ·have H:=Lib.hid (show anyHd l j = none by unfold anyHd; rw [getElem?_eq_none (by omega)])
   rw [H.out]
   go_enter Tryz.func87,Tryz.ntmps87
   go_wp2
   go_ret3
   exact ⟨rfl,Below.refl _ _⟩
end
section
theorem zhi (l:L8) (i:Int):getAt l i = match anyAt l i with | some (m,n,x) => if i.toNat + (hd m n).length = x then some (m,n,x) else none | none => none:=by
 unfold getAt anyAt getHd
 split <;> rfl
theorem zhj (l:L8) (i:Int) (w:World) (hi:i64ok i) (hl:l.length <= 9223372036854775000) :
  Calls Tryz.prog 57 #[.string ⟨l.toArray⟩,.int .i64 i] w fun e w' => e = .returned (.tuple #[.int .i64 (hM (getAt l i)),.int .u64 (hN (getAt l i)),.int .i64 (hX (getAt l i))]) /\ Below w.heap.size w w':=by
 have hg:=zhi l i
 cases ha:anyAt l i with
 | none =>
  rw [ha] at hg;have HG:=Lib.hid hg;rw [HG.out]
  go_enter Tryz.func57,Tryz.ntmps57
  go_wp2_with (go_at_call 87; refine (zfg l i _ hi hl).mono ?_; rw [ha]; simp only [hM,hN,hX]; rintro e w1 ⟨rfl,hb1⟩)
  go_quiet (fail)
  go_wp2
  go_ret3
  exact ⟨rfl,below_drewN hb1 _⟩
 | some r =>
  obtain ⟨m,n,x⟩:=r;rw [ha] at hg;simp only at hg;have hi0:¬ i < 0:=by intro h; unfold anyAt at ha; rw [if_pos h] at ha; cases ha
  have haa:anyHd l i.toNat = some (m,n,x):=by unfold anyAt at ha; rw [if_neg hi0] at ha; exact ha
  obtain ⟨h1,h2,h3,h4,h5,h6,h7⟩:=zdC haa;obtain ⟨j,rfl⟩:=Int.eq_ofNat_of_zero_le (show 0 <= i by omega);simp only [Int.toNat_natCast] at *;have p1:(0:Int) <= x:=by omega
  have p2:(j:Int) <= x:=by omega
  have p3:(x:Int) <= l.length:=by omega
  have HA:=Lib.hid ha;have HG:=Lib.hid hg;have H7:=Lib.hid h7;clear ha haa hi0 hg h7
  go_enter Tryz.func57,Tryz.ntmps57
  go_wp2_with (go_at_call 87; refine (zfg l j _ hi hl).mono ?_; rw [HA.out]; simp only [hM,hN,hX]; rintro e w1 ⟨rfl,hb1⟩)
  have hB:=hb1;have pd:decide ((x:Int) < 0) = false:=by simp
  have q1:(0:Int) <= m /\ (m:Int) <= 7:=by omega
  have q2:(0:Int) <= n /\ (n:Int) <= 18446744073709551615:=by omega
  go_region_held3 (fun W => Below w.heap.size w W) (first | exact hB | exact hB.drew)
   (first | (go_at_call 30; refine (zdQ _ _ _ q1 q2).mono ?_; rintro e w2 ⟨rfl,hb2⟩; replace hB:=zaB (by first | exact hB | exact hB.drew) hb2 lR))
  go_wp2
  ·have hne:(!hd m n == take (x - j) (drop j l)) = true:=by assumption
   have hne':¬ (j + (hd m n).length = x):=by rw [<- H7.out]; simpa using hne
   have hg:=HG.out;rw [if_neg hne'] at hg
   go_ret3
   exact ⟨by rw [hg]; rfl,hB⟩
  ·have heq:(!hd m n == take (x - j) (drop j l)) = false:=by assumption
   have heq':j + (hd m n).length = x:=by rw [<- H7.out]; simpa using heq
   have hg:=HG.out;rw [if_pos heq'] at hg
   go_ret3
   exact ⟨by rw [hg]; rfl,hB⟩
def sw (v:Nat):Int:=IntKind.i64.wrap (v:Nat)
theorem or_byte (v:Nat) (b:Nat) (hb:b < 256):bits .or .i64 (wrap64 (sw v * 256)) (b:Int) = sw (v * 256 + b):=by
 have e1:(BitVec.ofInt 64 (wrap64 (sw v * 256))).toNat = v * 256 % 18446744073709551616:=by
  rw [BitVec.toNat_ofInt]; unfold wrap64 sw; rw [IntKind.wrap_i64]; omega
 have e2:(BitVec.ofInt 64 (b:Int)).toNat = b:=by rw [BitVec.toNat_ofInt]; omega
 have e3:bits .or .i64 (wrap64 (sw v * 256)) (b:Int) = IntKind.i64.wrap ((BitVec.ofInt 64 (wrap64 (sw v * 256)) ||| BitVec.ofInt 64 (b:Int)).toNat:Nat):=rfl;rw [e3,BitVec.toNat_or,e1,e2,nat_join8 _ _ (by omega) hb];unfold sw;rw [IntKind.wrap_i64,IntKind.wrap_i64];omega
theorem zc5 (l:L8) (j k:Nat) (w:World) (hk:1 <= k /\ k <= 8) (hj:j <= l.length) (hl:l.length <= 9223372036854775000) :
  Calls Tryz.prog 81 #[.string ⟨l.toArray⟩,.int .i64 (j:Nat),.int .i64 (k:Nat)] w fun e w' =>
   e = .returned (if j + k <= l.length then .tuple #[.int .i64 (IntKind.i64.wrap (valBE ((l.drop j).take k):Nat)),.bool true] else .tuple #[.int .i64 0,.bool false]) /\ Below w.heap.size w w':=by
 have hin:inR k 1 8 = true:=zaM (by omega);obtain ⟨hk1,hk2⟩:=hk;by_cases h:j + k <= l.length
 ·rw [if_pos h]
  go_enter Tryz.func81,Tryz.ntmps81
  go_wp2_with (go_at_call 54; refine (za2 _ _ _ _).mono ?_; rintro e w' ⟨rfl,rfl⟩)
  go_loop [8,26] (fun n i => ∃ t:Nat,t <= k /\ i = .int .i64 (t:Nat) /\ n = .int .i64 (sw (valBE ((l.drop j).take t)))) (fun _ i => k - (intOf i).toNat)
  case atStart => exact ⟨0,by omega,rfl,rfl⟩
  case round =>
   obtain ⟨t,ht,rfl,rfl⟩:=hrel;by_cases htk:t < k
   ·have hlt:j + t < l.length:=by omega
    have HS:=Lib.hid (zff l j t hlt);have hby:=(l[j + t]).toNat_lt;generalize hvv:valBE ((l.drop j).take t) = v at *;clear hvv;generalize hbb:(l[j + t]).toNat = bb at *;have p3:(j:Int) + ↑t < l.length:=by omega
    go_wp2
    go_round
    case rel => exact ⟨t + 1,by omega,by go_num,by rw [HS.out,or_byte v bb hby]⟩
    case measure => simp [intOf] <;> omega
   ·obtain rfl:t = k:=by omega
    go_wp2
    go_ret2
    exact ⟨rfl,Below.refl _ _⟩
 ·rw [if_neg h]
  go_enter Tryz.func81,Tryz.ntmps81
  go_wp2_with (go_at_call 54; refine (za2 _ _ _ _).mono ?_; rintro e w' ⟨rfl,rfl⟩)
  go_ret2
  exact ⟨rfl,Below.refl _ _⟩
end
section
open Go.Lib (validD)
variable {T:World -> Prop} {hT:Low ngl T}
attribute [local irreducible] po mw pt
theorem zf5 {nt n1 n2 tk:Nat} {l1 l2:List Nat} {a b:List PC} {rows:LP PC} {cs:List PC} (hown:OwnL n1 l1 (a ++ .sl tk rows :: b)) (htk:tk = 1 /\ rows = [] \/ 2 <= tk) (hge:∀ t ∈ toksL (a ++ .sl tk rows :: b),nt <= t) (hnt:nt <= n1) (hn2:n1 <= n2) (h22:2 <= n2)
  (hnew:NewL n1 n2 cs) (hctk:∀ t ∈ toksL cs,t ∈ l2) (hlv2:∀ t ∈ l1,2 <= t -> t < n1 -> t ∈ l2) :
  OwnL (n2 + 2) ((n2 + 1) :: (n2 :: l2).filter (· != tk)) (a ++ .sl (n2 + 1) (rows ++ [cs]) :: b) /\ (∀ t ∈ toksL (a ++ .sl (n2 + 1) (rows ++ [cs]) :: b),nt <= t):=by
 constructor
 ·have h0:OwnL n1 (l1.filter (fun t => decide (t < n1))) (a ++ .sl tk rows :: b):=⟨hown.own,hown.nd,fun t ht => ⟨mem_filter.2 ⟨(hown.mem t ht).1,decide_eq_true (hown.mem t ht).2⟩,(hown.mem t ht).2⟩⟩
  have:=h0.pushA (nt':=n2 + 1) (e:=cs) htk (by omega) hnew.own hnew.nd (fun t ht => by have:=hnew.mem t ht; omega) (by omega)
  refine this.mono2 (by omega) fun t ht h22 hlt => ?_
  rcases mem_cons.1 ht with rfl | ht
  ·exact mem_cons_self ..
  ·obtain ⟨m1,m2⟩:=mem_filter.1 ht
   refine mem_cons_of_mem _ (mem_filter.2 ⟨?_,m2⟩)
   rcases mem_append.1 m1 with m1 | m1
   ·exact mem_cons_of_mem _ (hctk t m1)
   ·obtain ⟨m3,m4⟩:=mem_filter.1 m1
    exact mem_cons_of_mem _ (hlv2 t m3 h22 (of_decide_eq_true m4))
 ·intro t ht
  rw [zau,mem_append] at ht
  rcases ht with ht | ht
  ·exact hge t (by rw [zau]; exact mem_append.2 (.inl ht))
  ·rw [toksL,mem_append] at ht
   rcases ht with ht | ht
   ·rw [zaF (by omega),zba] at ht
    rcases mem_cons.1 ht with rfl | ht
    ·omega
    ·rcases mem_append.1 ht with ht | ht
     ·rcases htk with ⟨_,rfl⟩ | h2
      ·cases ht
      ·refine hge t ?_
       rw [zau,toksL,zaF h2];exact mem_append.2 (.inr (mem_append.2 (.inl (mem_cons_of_mem _ ht))))
     ·have ht:t ∈ toksL cs:=by simpa [toksLL] using ht
      have:=hnew.mem t ht; omega
   ·exact hge t (by rw [zau,toksL]; exact mem_append.2 (.inr (mem_append.2 (.inr ht))))
theorem zeO {nt n1 n2 tk:Nat} {live l1 l2:List Nat} (htk:tk = 1 \/ nt <= tk) (hnt:nt <= n1) (hlv:∀ t ∈ live,2 <= t -> t < nt -> t ∈ l1) (hlv2:∀ t ∈ l1,2 <= t -> t < n1 -> t ∈ l2):∀ t ∈ live,2 <= t -> t < nt -> t ∈ (n2 + 1) :: (n2 :: l2).filter (· != tk):=fun t ht h22 hlt => by
 refine mem_cons_of_mem _ (mem_filter.2 ⟨mem_cons_of_mem _ (hlv2 t (hlv t ht h22 hlt) h22 (by omega)),?_⟩);simp only [bne_iff_ne,ne_eq]; omega
theorem tk_ge {nt tk:Nat} {a b:List PC} {rows:LP PC} (htk:tk = 1 /\ rows = [] \/ 2 <= tk) (hge:∀ t ∈ toksL (a ++ .sl tk rows :: b),nt <= t):tk = 1 \/ nt <= tk :=
 htk.imp (fun h => h.1) fun h => hge tk (by rw [zau,toksL,zaF h]; exact mem_append.2 (.inr (mem_append.2 (.inl (mem_cons_self ..)))))
theorem zf6 {nt:Nat} (hnt:2 <= nt) (live:List Nat):OwnL (nt + 1) (nt :: live) ([] ++ .sl nt [] :: []) /\ (∀ t ∈ toksL ([] ++ .sl nt [] :: []),nt <= t):=by
 have e:toksL ([] ++ .sl nt [] :: []) = [nt]:=by show PC.toks (.sl nt []) ++ [] = _; rw [zaF hnt]; rfl
 refine ⟨⟨by show (PC.owned (.sl nt []) && true) = true; rw [zbl hnt]; rfl,by rw [e]; simp,fun t ht => ?_⟩,fun t ht => ?_⟩
 ·rw [e] at ht; simp at ht; subst ht; exact ⟨mem_cons_self ..,Nat.lt_succ_self _⟩
 ·rw [e] at ht; simp at ht; omega
theorem pS_new (n1 n2:Nat) (l:L8):NewL n1 n2 [pS l]:=⟨rfl,nodup_nil,fun t ht => by cases ht⟩
theorem FnV.oldT3 {E:Env} {f:Nat} {args:List PV} {a b d:Value} (ha:a.oneCell' = true) (hb1:b.oneCell' = true) (hd1:d.oneCell' = true) (h:∀ (w:World) (C:Cx) (vs:List Value),(∀ b o,C.F b o -> b < w.heap.size) -> E.NG <= w.heap.size -> E.T w -> vs.length = args.length -> (∀ (j:Nat) (x:PV) (y:Value),args[j]? = some x -> vs[j]? = some y -> RpV C w x y) ->
  Calls E.P f vs.toArray w fun e w' => e = .returned (.tuple #[a,b,d]) /\ Below w.heap.size w w'):FnV E f args (.tup [.d (.v a),.d (.v b),.d (.v d)]):=by
 intro C w vs hI hnt hold hl hv;refine (h w C vs hI.fin hI.ng hI.t hl hv).mono ?_;rintro e w' ⟨rfl,hb⟩;have hF:Fix C w w':=.of (fun b o hF => World.cell?_of_block (a:=⟨b,o,none⟩) (hb.block b (hI.fin b o hF))) hb.block
 refine ⟨_,.tup [.d (.v a),.d (.v b),.d (.v d)],[],fun _ => False,C,rfl,rfl,⟨hI.nb,fun p cs hp => by simp at hp,fun p hp => by simp at hp,fun p hp => by simp at hp,fun p q hp => by simp at hp,fun t ht => ht.elim,fun t s b ht => ht.elim,fun b o h => Nat.lt_of_lt_of_le (hI.fin b o h) hb.size,Nat.le_trans hI.ng hb.size,E.low w w' hI.t hb.size (fun k hk => hb.block k (Nat.lt_of_lt_of_le hk hI.ng))⟩,
  ⟨hb.os,hb.tape,hb.output,hb.size,fun _ _ h => h,hF,fun k hk _ _ => hb.block k hk,⟨lR,fun _ _ => rfl⟩,fun _ _ h => .inl h,fun t b ht => ht.elim,(fun p hp hp2 => by simp at hp2),⟨lR,fun _ _ => ⟨rfl,rfl,rfl,rfl⟩⟩⟩,.tup _ [a,b,d] rfl ?_⟩
 intro j x y hx hy
 match j with
 | 0 => simp at hx hy; subst hx; subst hy; exact .d _ _ (.v a ha)
 | 1 => simp at hx hy; subst hx; subst hy; exact .d _ _ (.v b hb1)
 | 2 => simp at hx hy; subst hx; subst hy; exact .d _ _ (.v d hd1)
 | j + 3 => simp at hx
def hdV (r:Option (Nat × Nat × Nat)):PV:=.tup [.d (pI (hM r)),.d (.v (.int .u64 (hN r))),.d (pI (hX r))]
theorem ghead_fn (s:L8) (i:Int) (hi:i64ok i) (hs:s.length <= 2147483647):FnV (env T hT) 57 [.d (pS s),.d (pI i)] (hdV (getAt s i)):=by
 refine FnV.oldT3 rfl rfl rfl fun w C vs hF _ _ hlen hv => ?_
 match vs,hlen with
 | [x,y],_ =>
  have h1:=zew (hv 0 _ _ rfl rfl); have h2:=zbV (hv 1 _ _ rfl rfl)
  subst h1; subst h2
  exact zhj s i w hi (by omega)
theorem zeP (s:L8) (i:Nat):getAt s (i:Int) = getHd s i:=by unfold getAt; rw [if_neg (by omega)]; rfl
def cntOf (s:L8) (i max:Nat):Option (Nat × Nat):=match getHd s i with
 | some (m,n,x) => if m = 4 /\ n <= max then some (n,x) else none
 | none => none
def cN:Option (Nat × Nat) -> Int | some (n,_) => n | none => 0
def cX:Option (Nat × Nat) -> Int | some (_,x) => x | none => -1
theorem cnt_fn (s:L8) (i max:Nat) (hm:max <= 1000) (hi:i <= s.length) (hs:s.length <= 2147483647):FnV (env T hT) 24 [.d (pS s),.d (pI i),.d (pI max)] (.tup [.d (pI (cN (cntOf s i max))),.d (pI (cX (cntOf s i max)))]):=by
 have hg:=ghead_fn (T:=T) (hT:=hT) s i (by unfold i64ok; omega) hs;rw [zeP] at hg;refine zaW (zaj zfC) (by show 3 <= 33; decide) fun B hB => ?_
 unfold m_s_l14Count;refine mP ?_;refine mO ?_;(iterate 2 refine mS ?_);refine zad rfl hg ?_;refine mN ?_;refine mM ?_;unfold cntOf
 cases hr:getHd s i with
 | none =>
  refine mS ?_;refine zah rfl rfl rfl ?_;refine mS ?_;refine mZ ?_;(iterate 2 refine mS ?_);refine mZ ?_;refine mT ?_;refine mP ?_
  exact mR
 | some r =>
  obtain ⟨m,n,x⟩:=r;obtain ⟨g1,g2,g3,g4,g5,g6⟩:=zce hr;refine mS ?_;refine zal rfl rfl (decide_eq_false (show ¬ ((x:Nat):Int) < 0 by omega)) ?_;(iterate 2 refine mS ?_);by_cases h4:m = 4
  case neg =>
   simp only;rw [if_neg (by omega)];refine zah rfl rfl (by show (!decide ((m:Int) = 4)) = true; rw [decide_eq_false (by omega)]; rfl) ?_;(iterate 2 refine mS ?_);refine mZ ?_;refine mT ?_;refine mP ?_;exact mR
  refine zal rfl rfl (by show (!decide ((m:Int) = 4)) = false; rw [decide_eq_true (by omega)]; rfl) ?_;(iterate 4 refine mS ?_);refine zbb (n:=(max:Int)) rfl rfl (by rw [IntKind.wrap_u64]; omega) ?_;by_cases hn:n <= max
  ·simp only
   rw [if_pos ⟨h4,hn⟩];refine zal rfl rfl (decide_eq_false (show ¬ ((n:Nat):Int) > max by omega)) ?_;refine mK ?_;refine mQ ?_;refine zbb (n:=(n:Int)) rfl rfl (by show IntKind.wrap .i64 ((n:Nat):Int) = _; rw [IntKind.wrap_i64]; omega) ?_;refine mN ?_;exact mR
  ·simp only
   rw [if_neg (by omega)];refine zah rfl rfl (decide_eq_true (show ((n:Nat):Int) > max by omega)) ?_;refine mT ?_;refine mP ?_;exact mR
theorem cnt_at {s:L8} {i k max:Nat} (hi:i <= s.length) (hk:k <= max) (hm:max <= 1000) (h:At s i (hd 4 k)):cntOf s i max = some (k,i + (hd 4 k).length):=by
 unfold cntOf;rw [zdj (by decide) (by omega) hi h];simp only;rw [if_pos ⟨by decide,hk⟩]
theorem cnt_some {s:L8} {i max n x:Nat} (h:cntOf s i max = some (n,x)):n <= max /\ i < x /\ x <= s.length:=by
 unfold cntOf at h
 split at h
 ·rename_i m n' x' hr
  split at h
  ·rename_i hc
   simp only [sI,Prod.mk.injEq] at h;obtain ⟨rfl,rfl⟩:=h;obtain ⟨g1,g2,g3,g4,g5,g6⟩:=zce hr;exact ⟨hc.2,g2,g3⟩
  ·cases h
 ·cases h
theorem nms_at {s:L8} {i:Nat} {us:List (L8)} (h:At s i (nmsT us)) (k:Nat) (hk:k < us.length):At s (i + (nmsT (us.take k)).length) (hd 3 us[k].length ++ us[k]):=by
 have e:us = us.take k ++ (us[k] :: us.drop (k + 1)):=by rw [<- drop_eq_getElem_cons hk,take_append_drop]
 rw [e,zdi] at h;have h2:=h.app.2;simp only [nmsT] at h2;exact h2.app.1
theorem zf7 {s:L8} {i:Nat} {us:List V} (h:At s i (msgs us)) (k:Nat) (hk:k < us.length):At s (i + (msgs (us.take k)).length) (msg us[k]):=by
 have e:us = us.take k ++ (us[k] :: us.drop (k + 1)):=by rw [<- drop_eq_getElem_cons hk,take_append_drop]
 rw [e,zcA] at h;have h2:=h.app.2;simp only [msgs] at h2;exact h2.app.1
end
section
open Go.Lib (validD)
variable {T:World -> Prop} {hT:Low ngl T}
attribute [local irreducible] po mw pt
def GmN (s:L8) (i n nt:Nat) (live:List Nat) (x:PV) (nt':Nat) (live':List Nat):Prop :=
 ∃ (t:Nat) (ns:List (L8)) (next:Int),x = .tup [.d (.sl t (pSr ns)),.d (pI next)] /\ 2 <= t /\ NewL nt nt' [.sl t (pSr ns)] /\ t ∈ live' /\ (∀ t ∈ live,2 <= t -> t < nt -> t ∈ live') /\ nt <= nt' /\ ns.length <= n /\ (∀ m ∈ ns,m.length <= s.length) /\
 (next = -1 \/ ∃ j:Nat,next = j /\ j <= s.length) /\ (∀ us:List (L8),us.length = n -> (∀ u ∈ us,u.length <= 4294967295) -> At s i (nmsT us) -> ns = us /\ next = ((i + (nmsT us).length:Nat):Int))
def NmI (s:L8) (i n nt:Nat) (live:List Nat) (m:Nat) (st:St):Prop:=∃ (k j t:Nat) (ns:List (L8)),k <= n /\ m = n - k /\ has st.tm [(0,.d (pS s)),(1,.d (pI j)),(2,.d (pI n)),(8,.d (.sl t (pSr ns))),(9,.d (pI k))] /\ st.bx = [] /\
 2 <= t /\ OwnL st.nt st.live ([] ++ .sl t (pSr ns) :: []) /\ (∀ u ∈ toksL ([] ++ .sl t (pSr ns) :: []),nt <= u) /\ nt <= st.nt /\ (∀ t ∈ live,2 <= t -> t < nt -> t ∈ st.live) /\
 ns.length = k /\ j <= s.length /\ (∀ m ∈ ns,m.length <= s.length) /\ (∀ us:List (L8),us.length = n -> (∀ u ∈ us,u.length <= 4294967295) -> At s i (nmsT us) -> us.take k = ns /\ j = i + (nmsT ns).length)
theorem names_g {s:L8} (hs:s.length <= 2147483647) (i n nt:Nat) (live:List Nat) (hi:i <= s.length) (hn:n <= 1000) (hnt:2 <= nt) :
  FnG (env T hT) 25 [.d (pS s),.d (pI i),.d (pI n)] [] nt live (fun x _ n' l => x.lw 0 /\ GmN s i n nt live x n' l):=by
 refine zaG (zaj zfD) (by show 3 <= 55; decide) fun B hB => ?_
 unfold m_s_l14Names;refine mP ?_;refine mO ?_;refine zaq (es:=[]) rfl ?_;refine mN ?_;refine zan (fun st => ∃ m,NmI s i n nt live m st /\ m = 0) ?_ ?_
 ·refine mP ?_
  refine zab ?_;refine zas (NmI s i n nt live) n ⟨0,i,nt,[],Nat.zero_le _,rfl,⟨rfl,rfl,rfl,rfl,rfl,trivial⟩,rfl,hnt,(zf6 hnt live).1,(zf6 hnt live).2,Nat.le_succ _,fun t ht _ _ => mem_cons_of_mem _ ht,rfl,hi,(fun m hm => by cases hm),fun us _ _ _ => ⟨by simp,by simp [nmsT]⟩⟩ ?_;rintro m tm bx n1 l1 ⟨k,j,t,ns,hk,rfl,ht,hbx,ht2,hown,hge,hn1,hlv,hnl,hj,hnb,hcp⟩;obtain ⟨tm0,rfl⟩:=zac ht;simp only at hbx hown hn1 hlv; subst hbx
  clear ht;refine mM ?_;(iterate 2 refine mS ?_);refine po_b rfl rfl (fun b hb => ?_);refine zaa ?_;refine zaZ (p:=(k:Int) < n) hb rfl (fun h _ => ?_) (fun h _ => ?_)
  ·have hkn:k < n:=by omega
   have hg:=ghead_fn (T:=T) (hT:=hT) s j (by unfold i64ok; omega) hs;rw [zeP] at hg
   have hstep:∀ us:List (L8),us.length = n -> (∀ u ∈ us,u.length <= 4294967295) -> At s i (nmsT us) -> ∃ hku:k < us.length,us.take k = ns /\ j = i + (nmsT ns).length /\ getHd s j = some (3,us[k].length,j + (hd 3 us[k].length).length) /\ At s (j + (hd 3 us[k].length).length) us[k]:=by
    intro us h1 h2 h3;obtain ⟨e1,e2⟩:=hcp us h1 h2 h3;have hku:k < us.length:=by omega
    have hA:=nms_at h3 k hku;rw [e1,<- e2] at hA;have hul:=h2 _ (getElem_mem hku);exact ⟨hku,e1,e2,zdj (by decide) (by omega) hj hA.app.1,hA.app.2⟩
   have hown0:NewL nt n1 [.sl t (pSr ns)]:=⟨hown.own,hown.nd,fun u hu => ⟨hge u hu,(hown.mem u hu).2⟩⟩;have htl:t ∈ l1:=(hown.mem t (by show t ∈ PC.toks (.sl t (pSr ns)) ++ []; rw [zaF ht2]; simp)).1;have hlw:PV.lw 0 (.tup [.d (.sl t (pSr ns)),.d (pI (-1))]):=⟨(zaX hown0.own).1,trivial,trivial⟩
   have hfail:(∀ us:List (L8),us.length = n -> (∀ u ∈ us,u.length <= 4294967295) -> ¬ At s i (nmsT us)) -> GmN s i n nt live (.tup [.d (.sl t (pSr ns)),.d (pI (-1))]) n1 l1:=fun hno =>
    ⟨t,ns,-1,rfl,ht2,hown0,htl,hlv,hn1,by omega,hnb,.inl rfl,fun us h1 h2 h3 => absurd h3 (hno us h1 h2)⟩
   refine zai ?_;refine zak (zab (zak (zaf ?_)));(iterate 2 refine mS ?_);refine zad rfl hg ?_;refine mN ?_;refine mM ?_
   cases hr:getHd s j with
   | none =>
    have hF:=hfail fun us h1 h2 h3 => by
     obtain ⟨_,_,_,e,_⟩:=hstep us h1 h2 h3;rw [hr] at e; cases e
    refine mS ?_;refine zah rfl rfl rfl ?_;refine mS ?_;refine mZ ?_;(iterate 2 refine mS ?_);refine mZ ?_;refine mT ?_;refine mP ?_
    exact zae ⟨.inr rfl,[.d (.sl t (pSr ns)),.d (pI (-1))],rfl,hlw,hF⟩
   | some r =>
   obtain ⟨m,n',x⟩:=r;obtain ⟨g1,g2,g3,g4,g5,g6⟩:=zce hr;refine mS ?_;refine zal rfl rfl (decide_eq_false (show ¬ ((x:Nat):Int) < 0 by omega)) ?_;(iterate 2 refine mS ?_);by_cases h3:m = 3
   case neg =>
    have hF:=hfail fun us k1 k2 k3 => by
     obtain ⟨_,_,_,e,_⟩:=hstep us k1 k2 k3;rw [hr] at e;simp only [sI,Prod.mk.injEq] at e;exact h3 e.1
    refine zah rfl rfl (by show (!decide ((m:Int) = 3)) = true; rw [decide_eq_false (by omega)]; rfl) ?_;(iterate 2 refine mS ?_);refine mZ ?_;refine mT ?_;refine mP ?_;exact zae ⟨.inr rfl,[.d (.sl t (pSr ns)),.d (pI (-1))],rfl,hlw,hF⟩
   refine zal rfl rfl (by show (!decide ((m:Int) = 3)) = false; rw [decide_eq_true (by omega)]; rfl) ?_;(iterate 4 refine mS ?_);refine po_q (v:=.d (pI s.length)) rfl rfl ?_;refine mS ?_;refine zaK (a:=(s.length:Int)) (b:=(x:Int)) (n:=(s.length:Int) - x) rfl rfl rfl rfl (by omega) ?_;refine zbb (n:=(s.length:Int) - x) rfl rfl (by rw [IntKind.wrap_u64]; omega) ?_;by_cases hle:x + n' <= s.length
   case neg =>
    have hF:=hfail fun us k1 k2 k3 => by
     obtain ⟨hku,e1,e2,e,hA⟩:=hstep us k1 k2 k3;rw [hr] at e;simp only [sI,Prod.mk.injEq] at e
     have:=hA.len (by omega)
     omega
    refine zah rfl rfl (decide_eq_true (show ((n':Nat):Int) > (s.length:Int) - x by omega)) ?_;refine mT ?_;refine mP ?_;exact zae ⟨.inr rfl,[.d (.sl t (pSr ns)),.d (pI (-1))],rfl,hlw,hF⟩
   refine zal rfl rfl (decide_eq_false (show ¬ ((n':Nat):Int) > (s.length:Int) - x by omega)) ?_;refine mK ?_;refine mO ?_;(iterate 2 refine mS ?_);refine zbb (n:=(n':Int)) rfl rfl (by show IntKind.wrap .i64 ((n':Nat):Int) = _; rw [IntKind.wrap_i64]; omega) ?_;refine zam (a:=(x:Int)) (b:=(n':Int)) (n:=((x + n':Nat):Int)) rfl rfl rfl (by omega) (by omega) ?_;refine mN ?_;refine zaf ?_;(iterate 4 refine mS ?_);refine zbU (a:=x) (b:=x + n') (rs:=(s.drop x).take n') rfl rfl (zaD (i:=(x:Int)) rfl rfl) (zaD rfl rfl) (by omega) (by rw [show x + n' - x = n' by omega]) ?_;refine zaq (es:=[[pS ((s.drop x).take n')]]) rfl ?_;refine zaQ (t:=t) (t':=n1) (es:=pSr ns) (ds:=[[pS ((s.drop x).take n')]]) rfl rfl (.inr (mem_cons_of_mem _ htl)) (by simp only [length_singleton,zbr]; omega) (fun e he => by simp only [mem_singleton] at he; subst he; rfl) (zhq ns) ?_
   refine mN ?_;refine zaf ?_;refine mS ?_;refine zam (n:=((k + 1:Nat):Int)) rfl rfl rfl (by omega) (by omega) ?_;refine mN ?_;have hpush:pSr (ns ++ [(s.drop x).take n']) = pSr ns ++ [[pS ((s.drop x).take n')]]:=by unfold pSr; rw [map_append]; rfl
   obtain ⟨o1,o2⟩:=zf5 (n2:=n1) (l2:=l1) hown (.inr ht2) hge hn1 lR (by omega) (pS_new n1 n1 ((s.drop x).take n')) (fun t ht => by cases ht) (fun t ht _ _ => ht);rw [<- hpush] at o1 o2;refine ⟨n - (k + 1),by omega,k + 1,x + n',n1 + 1,ns ++ [(s.drop x).take n'],hkn,rfl,⟨rfl,rfl,rfl,by rw [hpush]; rfl,rfl,trivial⟩,rfl,by omega,o1,o2,Nat.le_succ_of_le (Nat.le_succ_of_le hn1),zeO (tk_ge (.inr ht2) hge) hn1 hlv (fun t ht _ _ => ht),by simp [hnl],hle,?_,fun us k1 k2 k3 => ?_⟩
   ·intro m hm
    rcases mem_append.1 hm with hm | hm
    ·exact hnb m hm
    ·simp only [mem_singleton] at hm; subst hm
     rw [length_take,length_drop]; omega
   ·obtain ⟨hku,e1,e2,e,hA⟩:=hstep us k1 k2 k3
    rw [hr] at e;simp only [sI,Prod.mk.injEq] at e;obtain ⟨_,e3,e4⟩:=e;have hT:=hA.take;rw [<- e4,<- e3] at hT;refine ⟨by rw [take_succ_eq_append_getElem hku,e1,hT],?_⟩;rw [hT,zdi,length_append];simp only [nmsT,length_append,length_nil];omega
  ·refine zat ?_
   exact ⟨0,⟨k,j,t,ns,hk,by omega,⟨rfl,rfl,rfl,rfl,rfl,trivial⟩,rfl,ht2,hown,hge,hn1,hlv,hnl,hj,hnb,hcp⟩,rfl⟩
 rintro tm bx n1 l1 ⟨m,⟨k,j,t,ns,hk,hmk,ht,hbx,ht2,hown,hge,hn1,hlv,hnl,hj,hnb,hcp⟩,hm0⟩;obtain ⟨tm0,rfl⟩:=zac ht;simp only at hbx hown hn1 hlv; subst hbx
 have hkn:k = n:=by omega
 subst hkn;have hown0:NewL nt n1 [.sl t (pSr ns)]:=⟨hown.own,hown.nd,fun u hu => ⟨hge u hu,(hown.mem u hu).2⟩⟩;have htl:t ∈ l1:=(hown.mem t (by show t ∈ PC.toks (.sl t (pSr ns)) ++ []; rw [zaF ht2]; simp)).1;refine mP ?_;refine zae ⟨.inr rfl,[.d (.sl t (pSr ns)),.d (pI j)],rfl,⟨(zaX hown0.own).1,trivial,trivial⟩,t,ns,_,rfl,ht2,hown0,htl,hlv,hn1,by omega,hnb,.inr ⟨j,rfl,hj⟩,fun us k1 k2 k3 => ?_⟩;obtain ⟨e1,e2⟩:=hcp us k1 k2 k3;rw [take_of_length_le (by omega)] at e1;subst e1;exact ⟨rfl,by rw [e2]⟩
end
end Go.Proofs.YtmmcehkdnnolkaaGreatDoor
