/- Part 4 of a proof: PvG4M, PvG4, PvG5, PvG6, PvG7, PvGot, PvG8, PvG9, PvF2M, ValueSame, ValueKids, Shelf, TextI, ValueNode, Region, Box, ValueIs, PvVokI, PvI1, PvL1M, PvEqD -/
import Derived.Test.YtanlnhkagepniaaGreatDoorC3
import Derived.Test.YtanlnhkagepniaaGreatDoorChecked
import Derived.KernelRfl
import Derived.Shelf.Unicode.ValidAny
import Derived.Shelf.Strings.Builder1
import Derived.Shelf.Strings.BuilderF
import Derived.Shelf.Strings.BuilderK
import Derived.Shelf.Strconv.Atoi
import Derived.Shelf.Strconv.Itoa0
import Derived.Shelf.Strconv.Itoa1
import Derived.Shelf.LaysM
import Derived.Shelf.Strconv.Itoa2
import Derived.Shelf.Strconv.Itoa3
import Derived.Shelf.Strconv.AtoiErrFast
import Derived.Shelf.Strconv.ParseIntEmpty
import Derived.Shelf.Strconv.AtoiFail
import Derived.Shelf.Strconv.Clone
import Derived.Shelf.Strconv.SyntaxError
import Derived.Shelf.LaysC
import Derived.Shelf.Strconv.ToError
import Derived.Shelf.Strconv.Lower
import Derived.Shelf.Strconv.ParseUint10
import Derived.Shelf.Strconv.ParseUint10Empty
import Derived.Shelf.Strconv.ParseUint10Any
import Derived.Shelf.Strconv.ParseInt10
import Derived.Shelf.Strconv.AtoiLong
import Derived.Shelf.Strconv.AtoiInnerAll
import Derived.Shelf.Strconv.RangeError
import Derived.Shelf.Strconv.ToErrorRange
import Derived.Shelf.Strconv.AtoiAll
import Derived.Test.YtanlnhkagepniaaGreatDoorProg
import Derived.RegionTactic
import Derived.ChangeAlike
import Derived.Deep.RegionHeld3
import Derived.Deep.QuietTactic
import Derived.BigQuiet
namespace Go.Proofs.YtanlnhkagepniaaGreatDoor
/- PvG4M -/
section
set_option maxRecDepth 100000
def m_s_GetMsg:M:=.seq (.ops [⟨some 4,.zero [.int .i64 0,.int .i64 0,.int .i64 0,.string ⟨[].toArray⟩,.slice none 0 0],none,[]⟩,
 qo 5 (.mv (ci 0))])
 (.seq (.seq (.ops [qo 9 (.mv (.t 1)),
 qo 10 (.bin .lss false (.t 9) (ci 0)),
 qo 11 (.mv (.t 10)),
 ⟨some 12,.mv (.t 1),some (11,false),[]⟩,
 ⟨some 13,.mv (.t 0),some (11,false),[]⟩,
 ⟨some 14,.lens (.t 13),some (11,false),[]⟩,
 ⟨some 15,.bin .geq false (.t 12) (.t 14),some (11,false),[]⟩,
 qo 16 (.pick (.t 11) (.c (.bool true)) (.t 15))])
 (.cond (.t 16) (.seq (.ops [⟨some 17,.build [.int .i64 0,.int .i64 0,.int .i64 0,.string ⟨[].toArray⟩,.slice none 0 0] [],none,[]⟩,
 ⟨none,.store 5 (.t 4) (.t 17),none,[]⟩,
 qo 5 (.mv (ci (-1)))])
 (.ret))
 (.skip)))
 (.seq (.ops [qo 18 (.mv (.t 0)),
 ⟨some 19,.build [.string ⟨[].toArray⟩,.int .i64 0] [(0,1,.t 18),(1,1,ci 300)],none,[]⟩,
 qo 20 (.box (.t 19)),
 qo 6 (.mv (.t 20))])
 (.seq (.ops [qo 22 (.mv (.t 6)),
 qo 23 (.mv (.t 1)),
 ⟨some 24,.call 161 [.t 22,.t 23,ci 0],none,[.f 1]⟩,
 qo 21 (.mv (.t 24)),
 qo 25 (.ext (.t 21) 0),
 qo 26 (.ext (.t 21) 1),
 ⟨some 7,.zero [.int .i64 0,.int .i64 0,.int .i64 0,.string ⟨[].toArray⟩,.slice none 0 0],none,[]⟩,
 ⟨none,.store 5 (.t 7) (.t 25),none,[]⟩,
 qo 8 (.mv (.t 26))])
 (.seq (.seq (.ops [qo 27 (.mv (.t 8)),
 qo 28 (.bin .lss false (.t 27) (ci 0)),
 qo 29 (.mv (.t 28)),
 ⟨some 30,.load true 5 (.t 7),some (29,false),[]⟩,
 ⟨some 32,.mv (.t 0),some (29,false),[]⟩,
 ⟨some 33,.mv (.t 1),some (29,false),[]⟩,
 ⟨some 34,.mv (.t 8),some (29,false),[]⟩,
 ⟨some 35,.slcs (.t 32) (some (.t 33)) (some (.t 34)),some (29,false),[]⟩,
 ⟨some 31,.call 123 [.t 30],some (29,false),[.f 0]⟩,
 ⟨some 36,.bin .neq false (.t 31) (.t 35),some (29,false),[]⟩,
 qo 37 (.pick (.t 29) (.c (.bool true)) (.t 36))])
 (.cond (.t 37) (.seq (.ops [⟨some 38,.build [.int .i64 0,.int .i64 0,.int .i64 0,.string ⟨[].toArray⟩,.slice none 0 0] [],none,[]⟩,
 ⟨none,.store 5 (.t 4) (.t 38),none,[]⟩,
 qo 5 (.mv (ci (-1)))])
 (.ret))
 (.skip)))
 (.seq (.ops [qo 39 (.load true 5 (.t 7)),
 qo 40 (.mv (.t 8)),
 ⟨none,.store 5 (.t 4) (.t 39),none,[]⟩,
 qo 5 (.mv (.t 40))])
 (.ret))))))
theorem lk_s_GetMsg:look Tryz.prog 119 = some (41,m_s_GetMsg,[.cell true 5 4,.tm 5]):=by kernel_rfl
def m_s_l06Get:M:=.seq (.ops [⟨some 6,.zero [.int .i64 0,.int .i64 0,.int .i64 0,.string ⟨[].toArray⟩,.slice none 0 0],none,[]⟩,
 qo 7 (.mv (ci 0))])
 (.seq (.ops [qo 13 (.mv (.t 0)),
 qo 14 (.nilc (.t 13)),
 qo 15 (.fld 1 (.t 14)),
 qo 16 (.load false 1 (.t 15)),
 qo 17 (.bin .sub false (.t 16) (ci 1)),
 qo 18 (.nilc (.t 13)),
 qo 19 (.fld 1 (.t 18)),
 ⟨none,.store 1 (.t 19) (.t 17),none,[]⟩])
 (.seq (.seq (.ops [qo 20 (.mv (.t 0)),
 qo 21 (.nilc (.t 20)),
 qo 22 (.fld 1 (.t 21)),
 qo 23 (.load false 1 (.t 22)),
 qo 24 (.bin .lss false (.t 23) (ci 0)),
 qo 25 (.mv (.t 24)),
 ⟨some 26,.mv (.t 2),some (25,false),[]⟩,
 ⟨some 27,.bin .gtr false (.t 26) (ci 12),some (25,false),[]⟩,
 qo 28 (.pick (.t 25) (.c (.bool true)) (.t 27)),
 qo 29 (.mv (.t 28)),
 ⟨some 30,.mv (.t 1),some (29,false),[]⟩,
 ⟨some 31,.mv (.t 0),some (29,false),[]⟩,
 ⟨some 32,.nilc (.t 31),some (29,false),[]⟩,
 ⟨some 33,.fld 0 (.t 32),some (29,false),[]⟩,
 ⟨some 34,.load false 1 (.t 33),some (29,false),[]⟩,
 ⟨some 35,.lens (.t 34),some (29,false),[]⟩,
 ⟨some 36,.bin .geq false (.t 30) (.t 35),some (29,false),[]⟩,
 qo 37 (.pick (.t 29) (.c (.bool true)) (.t 36))])
 (.cond (.t 37) (.seq (.ops [⟨some 38,.build [.int .i64 0,.int .i64 0,.int .i64 0,.string ⟨[].toArray⟩,.slice none 0 0] [],none,[]⟩,
 ⟨none,.store 5 (.t 6) (.t 38),none,[]⟩,
 qo 7 (.mv (ci (-1)))])
 (.ret))
 (.skip)))
 (.seq (.ops [qo 39 (.mv (.t 0)),
 qo 40 (.nilc (.t 39)),
 qo 41 (.fld 0 (.t 40)),
 qo 42 (.load false 1 (.t 41)),
 qo 43 (.mv (.t 1)),
 qo 44 (.ixs (.t 42) (.t 43)),
 qo 45 (.conv .i64 (.t 44)),
 qo 8 (.mv (.t 45))])
 (.seq (.ops [qo 46 (.mv (.t 1)),
 qo 47 (.bin .add false (.t 46) (ci 1)),
 qo 1 (.mv (.t 47))])
 (.seq (.block 0 (.seq (.ops [qo 49 (.mv (.t 8)),
 qo 50 (.bin .lss false (.t 49) (ci 128)),
 qo 48 (.mv (.t 50))])
 (.cond (.t 48) (.seq (.ops [qo 51 (.mv (.t 8)),
 ⟨some 52,.call 204 [.t 51],none,[.f 1]⟩,
 qo 53 (.mv (.t 1)),
 ⟨none,.store 5 (.t 6) (.t 52),none,[]⟩,
 qo 7 (.mv (.t 53))])
 (.ret))
 (.seq (.ops [qo 55 (.mv (.t 8)),
 qo 56 (.bin .lss false (.t 55) (ci 144)),
 qo 54 (.mv (.t 56))])
 (.cond (.t 54) (.seq (.ops [qo 57 (.mv (.t 0)),
 qo 58 (.mv (.t 1)),
 qo 59 (.mv (.t 8)),
 qo 60 (.bin .sub false (.t 59) (ci 128)),
 qo 61 (.bin .mul false (ci 2) (.t 60)),
 qo 62 (.mv (.t 2)),
 ⟨some 63,.call 205 [.t 57,.t 58,ci 8,.t 61,.c (.bool true),.t 62],none,[.f 1]⟩,
 qo 64 (.ext (.t 63) 0),
 qo 65 (.ext (.t 63) 1),
 ⟨none,.store 5 (.t 6) (.t 64),none,[]⟩,
 qo 7 (.mv (.t 65))])
 (.ret))
 (.seq (.ops [qo 67 (.mv (.t 8)),
 qo 68 (.bin .lss false (.t 67) (ci 160)),
 qo 66 (.mv (.t 68))])
 (.cond (.t 66) (.seq (.ops [qo 69 (.mv (.t 0)),
 qo 70 (.mv (.t 1)),
 qo 71 (.mv (.t 8)),
 qo 72 (.bin .sub false (.t 71) (ci 144)),
 qo 73 (.mv (.t 2)),
 ⟨some 74,.call 205 [.t 69,.t 70,ci 7,.t 72,.c (.bool true),.t 73],none,[.f 1]⟩,
 qo 75 (.ext (.t 74) 0),
 qo 76 (.ext (.t 74) 1),
 ⟨none,.store 5 (.t 6) (.t 75),none,[]⟩,
 qo 7 (.mv (.t 76))])
 (.ret))
 (.seq (.ops [qo 78 (.mv (.t 8)),
 qo 79 (.bin .lss false (.t 78) (ci 192)),
 qo 77 (.mv (.t 79))])
 (.cond (.t 77) (.seq (.ops [qo 80 (.mv (.t 0)),
 qo 81 (.mv (.t 1)),
 qo 82 (.mv (.t 8)),
 qo 83 (.bin .sub false (.t 82) (ci 160)),
 ⟨some 84,.call 206 [.t 80,.t 81,ci 5,.t 83,.c (.bool true)],none,[.f 1]⟩,
 qo 85 (.ext (.t 84) 0),
 qo 86 (.ext (.t 84) 1),
 ⟨none,.store 5 (.t 6) (.t 85),none,[]⟩,
 qo 7 (.mv (.t 86))])
 (.ret))
 (.seq (.ops [qo 88 (.mv (.t 8)),
 qo 89 (.bin .geq false (.t 88) (ci 224)),
 qo 87 (.mv (.t 89))])
 (.cond (.t 87) (.seq (.ops [qo 90 (.mv (.t 8)),
 qo 91 (.bin .sub false (.t 90) (ci 256)),
 ⟨some 92,.call 204 [.t 91],none,[.f 1]⟩,
 qo 93 (.mv (.t 1)),
 ⟨none,.store 5 (.t 6) (.t 92),none,[]⟩,
 qo 7 (.mv (.t 93))])
 (.ret))
 (.seq (.ops [qo 95 (.mv (.t 8)),
 qo 96 (.bin .eql false (.t 95) (ci 192)),
 qo 94 (.mv (.t 96))])
 (.cond (.t 94) (.seq (.ops [⟨some 97,.build [.int .i64 0,.int .i64 0,.int .i64 0,.string ⟨[].toArray⟩,.slice none 0 0] [],none,[]⟩,
 qo 98 (.mv (.t 1)),
 ⟨none,.store 5 (.t 6) (.t 97),none,[]⟩,
 qo 7 (.mv (.t 98))])
 (.ret))
 (.seq (.ops [qo 100 (.mv (.t 8)),
 qo 101 (.bin .eql false (.t 100) (ci 194)),
 qo 102 (.mv (.t 101)),
 ⟨some 103,.mv (.t 8),some (102,false),[]⟩,
 ⟨some 104,.bin .eql false (.t 103) (ci 195),some (102,false),[]⟩,
 qo 105 (.pick (.t 102) (.c (.bool true)) (.t 104)),
 qo 99 (.mv (.t 105))])
 (.cond (.t 99) (.seq (.ops [qo 106 (.mv (.t 8)),
 qo 107 (.bin .sub false (.t 106) (ci 193)),
 ⟨some 108,.build [.int .i64 0,.int .i64 0,.int .i64 0,.string ⟨[].toArray⟩,.slice none 0 0] [(0,1,.t 107)],none,[]⟩,
 qo 109 (.mv (.t 1)),
 ⟨none,.store 5 (.t 6) (.t 108),none,[]⟩,
 qo 7 (.mv (.t 109))])
 (.ret))
 (.seq (.ops [qo 111 (.mv (.t 8)),
 ⟨some 112,.call 103 [.t 111,ci 204,ci 211],none,[.f 1]⟩,
 qo 110 (.mv (.t 112))])
 (.cond (.t 110) (.seq (.ops [qo 113 (.mv (.t 0)),
 qo 114 (.mv (.t 1)),
 qo 115 (.mv (.t 8)),
 ⟨some 116,.call 207 [.t 113,.t 114,.t 115],none,[.f 1]⟩,
 qo 117 (.ext (.t 116) 0),
 qo 118 (.ext (.t 116) 1),
 ⟨none,.store 5 (.t 6) (.t 117),none,[]⟩,
 qo 7 (.mv (.t 118))])
 (.ret))
 (.seq (.ops [qo 120 (.mv (.t 8)),
 qo 121 (.bin .eql false (.t 120) (ci 199)),
 qo 119 (.mv (.t 121))])
 (.cond (.t 119) (.seq (.ops [qo 122 (.mv (.t 0)),
 qo 123 (.mv (.t 1)),
 qo 124 (.mv (.t 2)),
 ⟨some 125,.call 208 [.t 122,.t 123,.t 124],none,[.f 1]⟩,
 qo 126 (.ext (.t 125) 0),
 qo 127 (.ext (.t 125) 1),
 ⟨none,.store 5 (.t 6) (.t 126),none,[]⟩,
 qo 7 (.mv (.t 127))])
 (.ret))
 (.skip))))))))))))))))))))
 (.seq (.ops [qo 129 (.mv (.t 0)),
 qo 130 (.nilc (.t 129)),
 qo 131 (.fld 0 (.t 130)),
 qo 132 (.load false 1 (.t 131)),
 qo 133 (.mv (.t 1)),
 ⟨some 134,.call 209 [.t 132,.t 133,ci 1],none,[.f 1]⟩,
 qo 128 (.mv (.t 134)),
 qo 135 (.ext (.t 128) 0),
 qo 136 (.ext (.t 128) 1),
 qo 9 (.mv (.t 135)),
 qo 10 (.mv (.t 136))])
 (.seq (.ops [qo 138 (.mv (.t 0)),
 qo 139 (.nilc (.t 138)),
 qo 140 (.fld 0 (.t 139)),
 qo 141 (.load false 1 (.t 140)),
 qo 142 (.mv (.t 1)),
 ⟨some 143,.call 209 [.t 141,.t 142,ci 2],none,[.f 1]⟩,
 qo 137 (.mv (.t 143)),
 qo 144 (.ext (.t 137) 0),
 qo 145 (.ext (.t 137) 1),
 qo 11 (.mv (.t 144)),
 qo 12 (.mv (.t 145))])
 (.seq (.seq (.ops [qo 146 (.mv (.t 8))])
 (.block 1 (.seq (.ops [qo 148 (.bin .eql false (.t 146) (ci 217)),
 qo 147 (.mv (.t 148))])
 (.cond (.t 147) (.seq (.ops [qo 149 (.mv (.t 0)),
 qo 150 (.mv (.t 1)),
 qo 151 (.bin .add false (.t 150) (ci 1)),
 qo 152 (.mv (.t 9)),
 qo 153 (.mv (.t 10)),
 ⟨some 154,.call 206 [.t 149,.t 151,ci 5,.t 152,.t 153],none,[.f 1]⟩,
 qo 155 (.ext (.t 154) 0),
 qo 156 (.ext (.t 154) 1),
 ⟨none,.store 5 (.t 6) (.t 155),none,[]⟩,
 qo 7 (.mv (.t 156))])
 (.ret))
 (.seq (.ops [qo 158 (.bin .eql false (.t 146) (ci 218)),
 qo 157 (.mv (.t 158))])
 (.cond (.t 157) (.seq (.ops [qo 159 (.mv (.t 0)),
 qo 160 (.mv (.t 1)),
 qo 161 (.bin .add false (.t 160) (ci 2)),
 qo 162 (.mv (.t 11)),
 qo 163 (.mv (.t 12)),
 ⟨some 164,.call 206 [.t 159,.t 161,ci 5,.t 162,.t 163],none,[.f 1]⟩,
 qo 165 (.ext (.t 164) 0),
 qo 166 (.ext (.t 164) 1),
 ⟨none,.store 5 (.t 6) (.t 165),none,[]⟩,
 qo 7 (.mv (.t 166))])
 (.ret))
 (.seq (.ops [qo 168 (.bin .eql false (.t 146) (ci 196)),
 qo 167 (.mv (.t 168))])
 (.cond (.t 167) (.seq (.ops [qo 169 (.mv (.t 0)),
 qo 170 (.mv (.t 1)),
 qo 171 (.bin .add false (.t 170) (ci 1)),
 qo 172 (.mv (.t 9)),
 qo 173 (.mv (.t 10)),
 ⟨some 174,.call 206 [.t 169,.t 171,ci 6,.t 172,.t 173],none,[.f 1]⟩,
 qo 175 (.ext (.t 174) 0),
 qo 176 (.ext (.t 174) 1),
 ⟨none,.store 5 (.t 6) (.t 175),none,[]⟩,
 qo 7 (.mv (.t 176))])
 (.ret))
 (.seq (.ops [qo 178 (.bin .eql false (.t 146) (ci 197)),
 qo 177 (.mv (.t 178))])
 (.cond (.t 177) (.seq (.ops [qo 179 (.mv (.t 0)),
 qo 180 (.mv (.t 1)),
 qo 181 (.bin .add false (.t 180) (ci 2)),
 qo 182 (.mv (.t 11)),
 qo 183 (.mv (.t 12)),
 ⟨some 184,.call 206 [.t 179,.t 181,ci 6,.t 182,.t 183],none,[.f 1]⟩,
 qo 185 (.ext (.t 184) 0),
 qo 186 (.ext (.t 184) 1),
 ⟨none,.store 5 (.t 6) (.t 185),none,[]⟩,
 qo 7 (.mv (.t 186))])
 (.ret))
 (.seq (.ops [qo 188 (.bin .eql false (.t 146) (ci 220)),
 qo 187 (.mv (.t 188))])
 (.cond (.t 187) (.seq (.ops [qo 189 (.mv (.t 0)),
 qo 190 (.mv (.t 1)),
 qo 191 (.bin .add false (.t 190) (ci 2)),
 qo 192 (.mv (.t 11)),
 qo 193 (.mv (.t 12)),
 qo 194 (.mv (.t 2)),
 ⟨some 195,.call 205 [.t 189,.t 191,ci 7,.t 192,.t 193,.t 194],none,[.f 1]⟩,
 qo 196 (.ext (.t 195) 0),
 qo 197 (.ext (.t 195) 1),
 ⟨none,.store 5 (.t 6) (.t 196),none,[]⟩,
 qo 7 (.mv (.t 197))])
 (.ret))
 (.seq (.ops [qo 199 (.bin .eql false (.t 146) (ci 222)),
 qo 198 (.mv (.t 199))])
 (.cond (.t 198) (.seq (.ops [qo 200 (.mv (.t 0)),
 qo 201 (.mv (.t 1)),
 qo 202 (.bin .add false (.t 201) (ci 2)),
 qo 203 (.mv (.t 11)),
 qo 204 (.bin .mul false (ci 2) (.t 203)),
 qo 205 (.mv (.t 12)),
 qo 206 (.mv (.t 2)),
 ⟨some 207,.call 205 [.t 200,.t 202,ci 8,.t 204,.t 205,.t 206],none,[.f 1]⟩,
 qo 208 (.ext (.t 207) 0),
 qo 209 (.ext (.t 207) 1),
 ⟨none,.store 5 (.t 6) (.t 208),none,[]⟩,
 qo 7 (.mv (.t 209))])
 (.ret))
 (.skip)))))))))))))))
 (.seq (.ops [⟨some 210,.build [.int .i64 0,.int .i64 0,.int .i64 0,.string ⟨[].toArray⟩,.slice none 0 0] [],none,[]⟩,
 ⟨none,.store 5 (.t 6) (.t 210),none,[]⟩,
 qo 7 (.mv (ci (-1)))])
 (.ret))))))))))
theorem lk_s_l06Get:look Tryz.prog 161 = some (211,m_s_l06Get,[.cell true 5 6,.tm 7]):=by kernel_rfl
def m_s_l02Int:M:=.seq (.ops [⟨some 2,.zero [.int .i64 0,.int .i64 0,.int .i64 0,.string ⟨[].toArray⟩,.slice none 0 0],none,[]⟩])
 (.seq (.ops [qo 3 (.mv (.t 0)),
 ⟨some 4,.build [.int .i64 0,.int .i64 0,.int .i64 0,.string ⟨[].toArray⟩,.slice none 0 0] [(0,1,ci 3),(1,1,.t 3)],none,[]⟩,
 ⟨none,.store 5 (.t 2) (.t 4),none,[]⟩])
 (.ret))
theorem lk_s_l02Int:look Tryz.prog 204 = some (5,m_s_l02Int,[.cell true 5 2]):=by kernel_rfl
def m_s_l06Kids:M:=.seq (.ops [⟨some 12,.zero [.int .i64 0,.int .i64 0,.int .i64 0,.string ⟨[].toArray⟩,.slice none 0 0],none,[]⟩,
 qo 13 (.mv (ci 0))])
 (.seq (.ops [qo 18 (.mv (.t 2)),
 ⟨some 19,.build [.int .i64 0,.int .i64 0,.int .i64 0,.string ⟨[].toArray⟩,.slice none 0 0] [(0,1,.t 18)],none,[]⟩,
 ⟨some 14,.zero [.int .i64 0,.int .i64 0,.int .i64 0,.string ⟨[].toArray⟩,.slice none 0 0],none,[]⟩,
 ⟨none,.store 5 (.t 14) (.t 19),none,[]⟩])
 (.seq (.seq (.ops [qo 20 (.mv (.t 4)),
 qo 21 (.not (.t 20)),
 qo 22 (.mv (.t 21)),
 ⟨some 23,.mv (.t 3),some (22,false),[]⟩,
 ⟨some 24,.bin .gtr false (.t 23) (ci 600),some (22,false),[]⟩,
 qo 25 (.pick (.t 22) (.c (.bool true)) (.t 24))])
 (.cond (.t 25) (.seq (.ops [qo 26 (.load true 5 (.t 14)),
 ⟨none,.store 5 (.t 12) (.t 26),none,[]⟩,
 qo 13 (.mv (ci (-1)))])
 (.ret))
 (.skip)))
 (.seq (.seq (.ops [qo 15 (.mv (ci 0))])
 (.block 0 (.loop (.seq (.seq (.ops [qo 27 (.mv (.t 15)),
 qo 28 (.mv (.t 3)),
 qo 29 (.bin .lss false (.t 27) (.t 28))])
 (.cond (.t 29) (.skip)
 (.exit 0)))
 (.seq (.block 1 (.seq (.ops [qo 33 (.mv (.t 0)),
 qo 34 (.mv (.t 1)),
 qo 35 (.mv (.t 5)),
 qo 36 (.bin .add false (.t 35) (ci 1)),
 ⟨some 37,.call 161 [.t 33,.t 34,.t 36],none,[.f 1]⟩,
 qo 32 (.mv (.t 37)),
 qo 38 (.ext (.t 32) 0),
 qo 39 (.ext (.t 32) 1),
 ⟨some 16,.zero [.int .i64 0,.int .i64 0,.int .i64 0,.string ⟨[].toArray⟩,.slice none 0 0],none,[]⟩,
 ⟨none,.store 5 (.t 16) (.t 38),none,[]⟩,
 qo 17 (.mv (.t 39))])
 (.seq (.seq (.ops [qo 40 (.mv (.t 17)),
 qo 41 (.bin .lss false (.t 40) (ci 0))])
 (.cond (.t 41) (.seq (.ops [qo 42 (.load true 5 (.t 14)),
 ⟨none,.store 5 (.t 12) (.t 42),none,[]⟩,
 qo 13 (.mv (ci (-1)))])
 (.ret))
 (.skip)))
 (.seq (.ops [qo 43 (.fld 4 (.t 14)),
 qo 44 (.load false 1 (.t 43)),
 qo 45 (.load true 5 (.t 16)),
 qo 46 (.lit 5 [.t 45]),
 ⟨some 47,.app 5 (.t 44) (.t 46),none,[.f 1]⟩,
 qo 48 (.fld 4 (.t 14)),
 ⟨none,.store 1 (.t 48) (.t 47),none,[]⟩])
 (.ops [qo 49 (.mv (.t 17)),
 qo 1 (.mv (.t 49))])))))
 (.ops [qo 30 (.mv (.t 15)),
 qo 31 (.bin .add false (.t 30) (ci 1)),
 qo 15 (.mv (.t 31))]))))))
 (.seq (.ops [qo 50 (.load true 5 (.t 14)),
 qo 51 (.mv (.t 1)),
 ⟨none,.store 5 (.t 12) (.t 50),none,[]⟩,
 qo 13 (.mv (.t 51))])
 (.ret)))))
theorem lk_s_l06Kids:look Tryz.prog 205 = some (52,m_s_l06Kids,[.cell true 5 12,.tm 13]):=by kernel_rfl
def m_s_l06Str:M:=.seq (.ops [⟨some 10,.zero [.int .i64 0,.int .i64 0,.int .i64 0,.string ⟨[].toArray⟩,.slice none 0 0],none,[]⟩,
 qo 11 (.mv (ci 0))])
 (.seq (.seq (.ops [qo 12 (.mv (.t 4)),
 qo 13 (.not (.t 12)),
 qo 14 (.mv (.t 13)),
 ⟨some 15,.mv (.t 3),some (14,false),[]⟩,
 ⟨some 16,.mv (.t 0),some (14,false),[]⟩,
 ⟨some 17,.nilc (.t 16),some (14,false),[]⟩,
 ⟨some 18,.fld 0 (.t 17),some (14,false),[]⟩,
 ⟨some 19,.load false 1 (.t 18),some (14,false),[]⟩,
 ⟨some 20,.lens (.t 19),some (14,false),[]⟩,
 ⟨some 21,.mv (.t 1),some (14,false),[]⟩,
 ⟨some 22,.bin .sub false (.t 20) (.t 21),some (14,false),[]⟩,
 ⟨some 23,.bin .gtr false (.t 15) (.t 22),some (14,false),[]⟩,
 qo 24 (.pick (.t 14) (.c (.bool true)) (.t 23))])
 (.cond (.t 24) (.seq (.ops [⟨some 25,.build [.int .i64 0,.int .i64 0,.int .i64 0,.string ⟨[].toArray⟩,.slice none 0 0] [],none,[]⟩,
 ⟨none,.store 5 (.t 10) (.t 25),none,[]⟩,
 qo 11 (.mv (ci (-1)))])
 (.ret))
 (.skip)))
 (.seq (.ops [qo 26 (.mv (.t 2)),
 qo 27 (.mv (.t 0)),
 qo 28 (.nilc (.t 27)),
 qo 29 (.fld 0 (.t 28)),
 qo 30 (.load false 1 (.t 29)),
 qo 31 (.mv (.t 1)),
 qo 32 (.mv (.t 1)),
 qo 33 (.mv (.t 3)),
 qo 34 (.bin .add false (.t 32) (.t 33)),
 qo 35 (.slcs (.t 30) (some (.t 31)) (some (.t 34))),
 ⟨some 36,.build [.int .i64 0,.int .i64 0,.int .i64 0,.string ⟨[].toArray⟩,.slice none 0 0] [(0,1,.t 26),(3,1,.t 35)],none,[]⟩,
 qo 37 (.mv (.t 1)),
 qo 38 (.mv (.t 3)),
 qo 39 (.bin .add false (.t 37) (.t 38)),
 ⟨none,.store 5 (.t 10) (.t 36),none,[]⟩,
 qo 11 (.mv (.t 39))])
 (.ret)))
theorem lk_s_l06Str:look Tryz.prog 206 = some (40,m_s_l06Str,[.cell true 5 10,.tm 11]):=by kernel_rfl
def m_s_l06Wide:M:=.seq (.ops [⟨some 6,.zero [.int .i64 0,.int .i64 0,.int .i64 0,.string ⟨[].toArray⟩,.slice none 0 0],none,[]⟩,
 qo 7 (.mv (ci 0))])
 (.seq (.ops [qo 11 (.lit 1 [ci 1,ci 2,ci 4,ci 8]),
 qo 12 (.mv (.t 2)),
 qo 13 (.bin .and false (.t 12) (ci 3)),
 qo 14 (.ix 1 (.t 11) (.t 13)),
 qo 15 (.load false 1 (.t 14)),
 qo 8 (.mv (.t 15))])
 (.seq (.ops [qo 17 (.mv (.t 0)),
 qo 18 (.nilc (.t 17)),
 qo 19 (.fld 0 (.t 18)),
 qo 20 (.load false 1 (.t 19)),
 qo 21 (.mv (.t 1)),
 qo 22 (.mv (.t 8)),
 ⟨some 23,.call 209 [.t 20,.t 21,.t 22],none,[.f 1]⟩,
 qo 16 (.mv (.t 23)),
 qo 24 (.ext (.t 16) 0),
 qo 25 (.ext (.t 16) 1),
 qo 9 (.mv (.t 24)),
 qo 10 (.mv (.t 25))])
 (.seq (.seq (.ops [qo 26 (.mv (.t 10)),
 qo 27 (.not (.t 26))])
 (.cond (.t 27) (.seq (.ops [⟨some 28,.build [.int .i64 0,.int .i64 0,.int .i64 0,.string ⟨[].toArray⟩,.slice none 0 0] [],none,[]⟩,
 ⟨none,.store 5 (.t 6) (.t 28),none,[]⟩,
 qo 7 (.mv (ci (-1)))])
 (.ret))
 (.skip)))
 (.seq (.seq (.ops [qo 29 (.mv (.t 2)),
 qo 30 (.bin .geq false (.t 29) (ci 208))])
 (.cond (.t 30) (.ops [qo 31 (.mv (.t 9)),
 qo 32 (.mv (.t 8)),
 ⟨some 33,.call 231 [.t 31,.t 32],none,[.f 1]⟩,
 qo 9 (.mv (.t 33))])
 (.skip)))
 (.seq (.ops [qo 34 (.mv (.t 9)),
 ⟨some 35,.call 204 [.t 34],none,[.f 1]⟩,
 qo 36 (.mv (.t 1)),
 qo 37 (.mv (.t 8)),
 qo 38 (.bin .add false (.t 36) (.t 37)),
 ⟨none,.store 5 (.t 6) (.t 35),none,[]⟩,
 qo 7 (.mv (.t 38))])
 (.ret))))))
theorem lk_s_l06Wide:look Tryz.prog 207 = some (39,m_s_l06Wide,[.cell true 5 6,.tm 7]):=by kernel_rfl
def m_s_l06Ext:M:=.seq (.ops [⟨some 6,.zero [.int .i64 0,.int .i64 0,.int .i64 0,.string ⟨[].toArray⟩,.slice none 0 0],none,[]⟩,
 qo 7 (.mv (ci 0))])
 (.seq (.ops [qo 21 (.mv (.t 0)),
 qo 22 (.nilc (.t 21)),
 qo 23 (.fld 0 (.t 22)),
 qo 24 (.load false 1 (.t 23)),
 qo 25 (.mv (.t 1)),
 ⟨some 26,.call 209 [.t 24,.t 25,ci 1],none,[.f 1]⟩,
 qo 20 (.mv (.t 26)),
 qo 27 (.ext (.t 20) 0),
 qo 28 (.ext (.t 20) 1),
 qo 8 (.mv (.t 27)),
 qo 9 (.mv (.t 28))])
 (.seq (.ops [qo 30 (.mv (.t 0)),
 qo 31 (.nilc (.t 30)),
 qo 32 (.fld 0 (.t 31)),
 qo 33 (.load false 1 (.t 32)),
 qo 34 (.mv (.t 1)),
 qo 35 (.bin .add false (.t 34) (ci 1)),
 ⟨some 36,.call 209 [.t 33,.t 35,ci 1],none,[.f 1]⟩,
 qo 29 (.mv (.t 36)),
 qo 37 (.ext (.t 29) 0),
 qo 38 (.ext (.t 29) 1),
 qo 10 (.mv (.t 37)),
 qo 11 (.mv (.t 38))])
 (.seq (.block 0 (.seq (.ops [qo 40 (.mv (.t 9)),
 qo 41 (.not (.t 40)),
 qo 42 (.mv (.t 41)),
 ⟨some 43,.mv (.t 11),some (42,false),[]⟩,
 ⟨some 44,.not (.t 43),some (42,false),[]⟩,
 qo 45 (.pick (.t 42) (.c (.bool true)) (.t 44)),
 qo 39 (.mv (.t 45))])
 (.cond (.t 39) (.seq (.ops [⟨some 46,.build [.int .i64 0,.int .i64 0,.int .i64 0,.string ⟨[].toArray⟩,.slice none 0 0] [],none,[]⟩,
 ⟨none,.store 5 (.t 6) (.t 46),none,[]⟩,
 qo 7 (.mv (ci (-1)))])
 (.ret))
 (.seq (.ops [qo 48 (.mv (.t 8)),
 qo 49 (.bin .eql false (.t 48) (ci 9)),
 qo 50 (.mv (.t 49)),
 ⟨some 51,.mv (.t 10),some (50,true),[]⟩,
 ⟨some 52,.bin .eql false (.t 51) (ci 4),some (50,true),[]⟩,
 qo 53 (.pick (.t 50) (.t 52) (.c (.bool false))),
 qo 47 (.mv (.t 53))])
 (.cond (.t 47) (.seq (.ops [qo 55 (.mv (.t 0)),
 qo 56 (.nilc (.t 55)),
 qo 57 (.fld 0 (.t 56)),
 qo 58 (.load false 1 (.t 57)),
 qo 59 (.mv (.t 1)),
 qo 60 (.bin .add false (.t 59) (ci 2)),
 ⟨some 61,.call 209 [.t 58,.t 60,ci 1],none,[.f 1]⟩,
 qo 54 (.mv (.t 61)),
 qo 62 (.ext (.t 54) 0),
 qo 63 (.ext (.t 54) 1),
 qo 12 (.mv (.t 62)),
 qo 13 (.mv (.t 63))])
 (.seq (.ops [qo 65 (.mv (.t 0)),
 qo 66 (.nilc (.t 65)),
 qo 67 (.fld 0 (.t 66)),
 qo 68 (.load false 1 (.t 67)),
 qo 69 (.mv (.t 1)),
 qo 70 (.bin .add false (.t 69) (ci 3)),
 ⟨some 71,.call 209 [.t 68,.t 70,ci 8],none,[.f 1]⟩,
 qo 64 (.mv (.t 71)),
 qo 72 (.ext (.t 64) 0),
 qo 73 (.ext (.t 64) 1),
 qo 14 (.mv (.t 72)),
 qo 15 (.mv (.t 73))])
 (.seq (.seq (.ops [qo 74 (.mv (.t 13)),
 qo 75 (.not (.t 74)),
 qo 76 (.mv (.t 75)),
 ⟨some 77,.mv (.t 15),some (76,false),[]⟩,
 ⟨some 78,.not (.t 77),some (76,false),[]⟩,
 qo 79 (.pick (.t 76) (.c (.bool true)) (.t 78))])
 (.cond (.t 79) (.seq (.ops [⟨some 80,.build [.int .i64 0,.int .i64 0,.int .i64 0,.string ⟨[].toArray⟩,.slice none 0 0] [],none,[]⟩,
 ⟨none,.store 5 (.t 6) (.t 80),none,[]⟩,
 qo 7 (.mv (ci (-1)))])
 (.ret))
 (.skip)))
 (.seq (.ops [qo 81 (.mv (.t 14)),
 qo 82 (.mv (.t 12)),
 ⟨some 83,.call 231 [.t 82,ci 1],none,[.f 1]⟩,
 ⟨some 84,.build [.int .i64 0,.int .i64 0,.int .i64 0,.string ⟨[].toArray⟩,.slice none 0 0] [(0,1,ci 4),(1,1,.t 81),(2,1,.t 83)],none,[]⟩,
 qo 85 (.mv (.t 1)),
 qo 86 (.bin .add false (.t 85) (ci 11)),
 ⟨none,.store 5 (.t 6) (.t 84),none,[]⟩,
 qo 7 (.mv (.t 86))])
 (.ret)))))
 (.seq (.ops [qo 88 (.mv (.t 8)),
 qo 89 (.bin .eql false (.t 88) (ci 4)),
 qo 90 (.mv (.t 89)),
 ⟨some 91,.mv (.t 10),some (90,true),[]⟩,
 ⟨some 92,.bin .eql false (.t 91) (ci 6),some (90,true),[]⟩,
 qo 93 (.pick (.t 90) (.t 92) (.c (.bool false))),
 qo 87 (.mv (.t 93))])
 (.cond (.t 87) (.seq (.ops [qo 95 (.mv (.t 0)),
 qo 96 (.nilc (.t 95)),
 qo 97 (.fld 0 (.t 96)),
 qo 98 (.load false 1 (.t 97)),
 qo 99 (.mv (.t 1)),
 qo 100 (.bin .add false (.t 99) (ci 2)),
 ⟨some 101,.call 209 [.t 98,.t 100,ci 4],none,[.f 1]⟩,
 qo 94 (.mv (.t 101)),
 qo 102 (.ext (.t 94) 0),
 qo 103 (.ext (.t 94) 1),
 qo 16 (.mv (.t 102)),
 qo 17 (.mv (.t 103))])
 (.seq (.seq (.ops [qo 104 (.mv (.t 17)),
 qo 105 (.not (.t 104))])
 (.cond (.t 105) (.seq (.ops [⟨some 106,.build [.int .i64 0,.int .i64 0,.int .i64 0,.string ⟨[].toArray⟩,.slice none 0 0] [],none,[]⟩,
 ⟨none,.store 5 (.t 6) (.t 106),none,[]⟩,
 qo 7 (.mv (ci (-1)))])
 (.ret))
 (.skip)))
 (.seq (.ops [qo 108 (.mv (.t 0)),
 qo 109 (.mv (.t 1)),
 qo 110 (.bin .add false (.t 109) (ci 6)),
 qo 111 (.mv (.t 2)),
 ⟨some 112,.call 205 [.t 108,.t 110,ci 9,ci 1,.c (.bool true),.t 111],none,[.f 1]⟩,
 qo 107 (.mv (.t 112)),
 qo 113 (.ext (.t 107) 0),
 qo 114 (.ext (.t 107) 1),
 ⟨some 18,.zero [.int .i64 0,.int .i64 0,.int .i64 0,.string ⟨[].toArray⟩,.slice none 0 0],none,[]⟩,
 ⟨none,.store 5 (.t 18) (.t 113),none,[]⟩,
 qo 19 (.mv (.t 114))])
 (.seq (.ops [qo 115 (.mv (.t 16)),
 qo 116 (.fld 1 (.t 18)),
 ⟨none,.store 1 (.t 116) (.t 115),none,[]⟩])
 (.seq (.ops [qo 117 (.load true 5 (.t 18)),
 qo 118 (.mv (.t 19)),
 ⟨none,.store 5 (.t 6) (.t 117),none,[]⟩,
 qo 7 (.mv (.t 118))])
 (.ret))))))
 (.skip))))))))
 (.seq (.ops [⟨some 119,.build [.int .i64 0,.int .i64 0,.int .i64 0,.string ⟨[].toArray⟩,.slice none 0 0] [],none,[]⟩,
 ⟨none,.store 5 (.t 6) (.t 119),none,[]⟩,
 qo 7 (.mv (ci (-1)))])
 (.ret)))))
theorem lk_s_l06Ext:look Tryz.prog 208 = some (120,m_s_l06Ext,[.cell true 5 6,.tm 7]):=by kernel_rfl
def m_s_GetWide:M:=.seq (.ops [qo 6 (.mv (ci 0)),
 qo 7 (.mv (.c (.bool false)))])
 (.seq (.seq (.ops [qo 10 (.mv (.t 2)),
 ⟨some 11,.call 103 [.t 10,ci 1,ci 8],none,[.f 1]⟩,
 qo 12 (.not (.t 11)),
 qo 13 (.mv (.t 12)),
 ⟨some 14,.mv (.t 1),some (13,false),[]⟩,
 ⟨some 15,.bin .lss false (.t 14) (ci 0),some (13,false),[]⟩,
 qo 16 (.pick (.t 13) (.c (.bool true)) (.t 15)),
 qo 17 (.mv (.t 16)),
 ⟨some 18,.mv (.t 1),some (17,false),[]⟩,
 ⟨some 19,.mv (.t 0),some (17,false),[]⟩,
 ⟨some 20,.lens (.t 19),some (17,false),[]⟩,
 ⟨some 21,.mv (.t 2),some (17,false),[]⟩,
 ⟨some 22,.bin .sub false (.t 20) (.t 21),some (17,false),[]⟩,
 ⟨some 23,.bin .gtr false (.t 18) (.t 22),some (17,false),[]⟩,
 qo 24 (.pick (.t 17) (.c (.bool true)) (.t 23))])
 (.cond (.t 24) (.seq (.ops [qo 6 (.mv (ci 0)),
 qo 7 (.mv (.c (.bool false)))])
 (.ret))
 (.skip)))
 (.seq (.ops [qo 8 (.mv (.c (.int .u64 0)))])
 (.seq (.seq (.ops [qo 9 (.mv (ci 0))])
 (.block 0 (.loop (.seq (.seq (.ops [qo 25 (.mv (.t 9)),
 qo 26 (.mv (.t 2)),
 qo 27 (.bin .lss false (.t 25) (.t 26))])
 (.cond (.t 27) (.skip)
 (.exit 0)))
 (.seq (.block 1 (.ops [qo 30 (.mv (.t 8)),
 qo 31 (.bin .mul false (.c (.int .u64 256)) (.t 30)),
 qo 32 (.mv (.t 0)),
 qo 33 (.mv (.t 1)),
 qo 34 (.mv (.t 9)),
 qo 35 (.bin .add false (.t 33) (.t 34)),
 qo 36 (.ixs (.t 32) (.t 35)),
 qo 37 (.conv .u64 (.t 36)),
 qo 38 (.bin .add false (.t 31) (.t 37)),
 qo 8 (.mv (.t 38))]))
 (.ops [qo 28 (.mv (.t 9)),
 qo 29 (.bin .add false (.t 28) (ci 1)),
 qo 9 (.mv (.t 29))]))))))
 (.seq (.ops [qo 39 (.mv (.t 8)),
 qo 40 (.conv .i64 (.t 39)),
 qo 6 (.mv (.t 40)),
 qo 7 (.mv (.c (.bool true)))])
 (.ret)))))
theorem lk_s_GetWide:look Tryz.prog 209 = some (41,m_s_GetWide,[.tm 6,.tm 7]):=by kernel_rfl
end
/- PvG4 -/
section
open Go.RowKit
variable {T:World -> Prop} {hT:Low ngl T}
theorem pow256_le {k:Nat} (h:k <= 7):1 <= 256 ^ k /\ 256 ^ k <= 72057594037927936:=⟨Nat.one_le_iff_ne_zero.2 (by simp),Nat.pow_le_pow_right (n:=256) (by decide) h⟩
def SgI (n:Int) (k:Nat) (m:Nat) (s:St):Prop:=∃ i:Nat,i <= k /\ m = k - i /\ has s.tm [(0,.d (pI n)),(1,.d (pI k)),(5,.d (pI (256 ^ i:Nat))),(6,.d (pI i))]
set_option maxHeartbeats 1000000 in
theorem sgn_fn (n:Int) (k:Nat) (hk:1 <= k /\ k <= 8):FnV (env T hT) 231 [.d (pI n),.d (pI k)] (.d (pI (sgw n k))):=by
 refine fn_of (look_env lk_s_SignOf) (by show 2 <= 30; decide) fun B hB => ?_
 unfold m_s_SignOf
 refine mw_seq (mw_ops ?_)
 repeat' (first | refine pm ?_ | refine pq ?_ | refine px ?_ | refine po_zero ?_ | refine po_nil ?_)
 refine mw_seq (mw_seq (mw_ops ?_))
 repeat' (first | refine pm ?_ | refine pq ?_ | refine px ?_ | refine po_zero ?_ | refine po_nil ?_)
 refine po_call rfl (in_fn k 1 7) ?_
 by_cases h7:k <= 7
 ·rw [decide_eq_true (show (1:Int) <= k /\ (k:Int) <= 7 by omega)]
  repeat' (first | refine pm ?_ | refine pq ?_ | refine px ?_ | refine po_zero ?_ | refine po_nil ?_)
  refine mwF ?_
  refine mw_skip ?_
  refine mw_seq (mw_ops ?_)
  repeat' (first | refine pm ?_ | refine pq ?_ | refine px ?_ | refine po_zero ?_ | refine po_nil ?_)
  refine mw_cut (fun s => ∃ m,SgI n k m s /\ m = 0) ?_ ?_
  ·refine mw_seq (mw_ops ?_)
   repeat' (first | refine pm ?_ | refine pq ?_ | refine px ?_ | refine po_zero ?_ | refine po_nil ?_)
   refine mw_block ?_
   refine mw_while (SgI n k) k ⟨0,Nat.zero_le _,rfl,rfl,rfl,rfl,rfl,trivial⟩ ?_
   rintro m tm bx nt live ⟨i,hi,rfl,ht⟩
   obtain ⟨tm0,rfl⟩:=has_ups ht
   refine mw_seq (mw_seq (mw_ops ?_))
   iterate 2 (first | refine pm ?_ | refine pq ?_)
   refine po_b rfl rfl (fun b hb => ?_)
   refine po_nil ?_
   refine mw_cd (p:=(i:Int) < k) hb rfl (fun h _ => ?_) (fun h _ => ?_)
   ·have hlt:i < k:=by omega
    have hp:=pow256_le (k:=i + 1) (by omega)
    refine mw_skip ?_
    refine mw_seq (mw_block (mw_ops ?_))
    first | refine pm ?_ | refine pq ?_
    refine po_mul (n:=((256 ^ (i + 1):Nat):Int)) rfl rfl rfl (by rw [Nat.pow_succ]; simp) (by omega) ?_
    repeat' (first | refine pm ?_ | refine pq ?_ | refine px ?_ | refine po_zero ?_ | refine po_nil ?_)
    refine mw_ops ?_
    first | refine pm ?_ | refine pq ?_
    refine po_add (n:=((i + 1:Nat):Int)) rfl rfl rfl (by omega) (by omega) ?_
    repeat' (first | refine pm ?_ | refine pq ?_ | refine px ?_ | refine po_zero ?_ | refine po_nil ?_)
    exact ⟨k - (i + 1),by omega,i + 1,hlt,rfl,rfl,rfl,rfl,rfl,trivial⟩
   ·refine mw_exit ?_
    exact ⟨0,⟨i,hi,by omega,rfl,rfl,rfl,rfl,trivial⟩,rfl⟩
  rintro tm bx nt live ⟨m,⟨i,hi,rfl,ht⟩,hm⟩
  obtain ⟨tm0,rfl⟩:=has_ups ht
  obtain rfl:i = k:=by omega
  have hp:=pow256_le (k:=i) h7
  have hand:bits .and .i64 n ((256 ^ i:Nat) - 1:Int) = n % (256 ^ i:Nat):=by
   have e:(256:Nat) ^ i = 2 ^ (8 * i):=by rw [Nat.pow_mul]
   have:=mask_i64 n (8 * i) (by omega) (((256 ^ i:Nat):Int) - 1) (by rw [e]; simp)
   rw [this,e]; simp
  have hm0:=Int.emod_nonneg n (show ((256 ^ i:Nat):Int) ≠ 0 by omega)
  have hm1:=Int.emod_lt_of_pos n (show (0:Int) < ((256 ^ i:Nat):Int) by omega)
  refine mw_seq (mw_ops ?_)
  iterate 2 (first | refine pm ?_ | refine pq ?_)
  refine po_sub (n:=((256 ^ i:Nat):Int) - 1) rfl rfl rfl rfl (by omega) ?_
  refine po_q (v:=.d (pI (n % (256 ^ i:Nat)))) rfl (by show some (PV.d (.v (.int .i64 (bits .and .i64 n (((256 ^ i:Nat):Int) - 1))))) = _; rw [hand]; rfl) ?_
  repeat' (first | refine pm ?_ | refine pq ?_ | refine px ?_ | refine po_zero ?_ | refine po_nil ?_)
  refine mw_seq (mw_seq (mw_ops ?_))
  iterate 2 (first | refine pm ?_ | refine pq ?_)
  refine po_q (v:=.d (pI (256 ^ i / 2:Nat))) rfl (by show some (PV.d (.v (.int .i64 (IntKind.wrap .i64 (((256 ^ i:Nat):Int).tdiv 2))))) = _; rw [Int.tdiv_eq_ediv_of_nonneg (by omega),wrap_lt (by omega) (by omega)]; rfl) ?_
  refine po_b rfl rfl (fun b hb => ?_)
  repeat' (first | refine pm ?_ | refine pq ?_ | refine px ?_ | refine po_zero ?_ | refine po_nil ?_)
  unfold sgw
  rw [if_pos (by omega)]
  refine mw_cd (p:=n % ((256 ^ i:Nat):Int) ≥ ((256 ^ i / 2:Nat):Int)) hb rfl (fun h _ => ?_) (fun h _ => ?_)
  ·rw [if_pos h]
   refine mw_seq (mw_ops ?_)
   iterate 2 (first | refine pm ?_ | refine pq ?_)
   refine po_sub (n:=n % ((256 ^ i:Nat):Int) - ((256 ^ i:Nat):Int)) rfl rfl rfl rfl (by omega) ?_
   repeat' (first | refine pm ?_ | refine pq ?_ | refine px ?_ | refine po_zero ?_ | refine po_nil ?_)
   exact mw_ret ⟨.inr rfl,_,rfl,rfl⟩
  ·rw [if_neg h]
   refine mw_skip ?_
   refine mw_seq (mw_ops ?_)
   repeat' (first | refine pm ?_ | refine pq ?_ | refine px ?_ | refine po_zero ?_ | refine po_nil ?_)
   exact mw_ret ⟨.inr rfl,_,rfl,rfl⟩
 ·rw [decide_eq_false (show ¬ ((1:Int) <= k /\ (k:Int) <= 7) by omega)]
  repeat' (first | refine pm ?_ | refine pq ?_ | refine px ?_ | refine po_zero ?_ | refine po_nil ?_)
  refine mwT ?_
  refine mw_seq (mw_ops ?_)
  repeat' (first | refine pm ?_ | refine pq ?_ | refine px ?_ | refine po_zero ?_ | refine po_nil ?_)
  unfold sgw
  rw [if_neg (by omega)]
  exact mw_ret ⟨.inr rfl,_,rfl,rfl⟩
theorem int_fn (n:Int):FnV (env T hT) 204 [.d (pI n)] (.ag (vC (.mk 3 n 0 [] []))):=by
 refine fn_of (look_env lk_s_l02Int) (by show 1 <= 5; decide) fun B hB => ?_
 unfold m_s_l02Int
 refine mw_seq (mw_ops ?_)
 repeat' (first | refine pm ?_ | refine pq ?_ | refine px ?_ | refine po_zero ?_ | refine po_nil ?_)
 refine mw_seq (mw_ops ?_)
 repeat' (first | refine pm ?_ | refine pq ?_ | refine px ?_ | refine po_zero ?_ | refine po_nil ?_)
 refine po_store rfl rfl rfl ⟨rfl,Nat.le_of_ble_eq_true rfl⟩ rfl ?_
 repeat' (first | refine pm ?_ | refine pq ?_ | refine px ?_ | refine po_zero ?_ | refine po_nil ?_)
 exact mw_ret ⟨.inr rfl,_,rfl,rfl⟩
def gwV (s:List UInt8) (i k:Nat):PV:=if i + k <= s.length then .tup [.d (pI (IntKind.i64.wrap (valBE ((s.drop i).take k)))),.d (pB true)] else .tup [.d (pI 0),.d (pB false)]
theorem valBE_bound (s:List UInt8) (k:Nat) (hk:k <= 8):valBE (s.take k) < 18446744073709551616:=by
 have h1:=valBE_lt (s.take k)
 have h2:(s.take k).length <= 8:=by rw [List.length_take]; omega
 exact Nat.lt_of_lt_of_le h1 (Nat.pow_le_pow_right (n:=256) (by decide) h2)
def GwI (s:List UInt8) (i k:Nat) (m:Nat) (st:St):Prop:=∃ j:Nat,j <= k /\ m = k - j /\ has st.tm [(0,.d (pS s)),(1,.d (pI i)),(2,.d (pI k)),(8,.d (.v (.int .u64 (valBE ((s.drop i).take j):Nat)))),(9,.d (pI j))]
set_option maxHeartbeats 1000000 in
theorem getw_fn (s:List UInt8) (i k:Nat) (hk:1 <= k /\ k <= 8) (hi:i <= 4611686018427387904) (hl:s.length <= 4611686018427387904):FnV (env T hT) 209 [.d (pS s),.d (pI i),.d (pI k)] (gwV s i k):=by
 refine fn_of (look_env lk_s_GetWide) (by show 3 <= 41; decide) fun B hB => ?_
 unfold m_s_GetWide
 refine mw_seq (mw_ops ?_)
 repeat' (first | refine pm ?_ | refine pq ?_ | refine px ?_ | refine po_zero ?_ | refine po_nil ?_)
 refine mw_seq (mw_seq (mw_ops ?_))
 repeat' (first | refine pm ?_ | refine pq ?_ | refine px ?_ | refine po_zero ?_ | refine po_nil ?_)
 refine po_call rfl (in_fn k 1 8) ?_
 rw [decide_eq_true (show (1:Int) <= k /\ (k:Int) <= 8 by omega)]
 repeat' (first | refine pm ?_ | refine pq ?_ | refine px ?_ | refine po_zero ?_ | refine po_nil ?_)
 refine po_no rfl rfl (decide_eq_false (by omega)) ?_
 repeat' (first | refine pm ?_ | refine pq ?_ | refine px ?_ | refine po_zero ?_ | refine po_nil ?_)
 refine po_sub (n:=(s.length:Int) - k) rfl rfl rfl rfl (by omega) ?_
 unfold gwV
 by_cases hb:i + k <= s.length
 ·rw [if_pos hb]
  refine po_no rfl rfl (decide_eq_false (by omega)) ?_
  repeat' (first | refine pm ?_ | refine pq ?_ | refine px ?_ | refine po_zero ?_ | refine po_nil ?_)
  refine mwF ?_
  refine mw_skip ?_
  refine mw_seq (mw_ops ?_)
  repeat' (first | refine pm ?_ | refine pq ?_ | refine px ?_ | refine po_zero ?_ | refine po_nil ?_)
  refine mw_cut (fun st => ∃ m,GwI s i k m st /\ m = 0) ?_ ?_
  ·refine mw_seq (mw_ops ?_)
   repeat' (first | refine pm ?_ | refine pq ?_ | refine px ?_ | refine po_zero ?_ | refine po_nil ?_)
   refine mw_block ?_
   refine mw_while (GwI s i k) k ⟨0,Nat.zero_le _,rfl,rfl,rfl,rfl,rfl,rfl,trivial⟩ ?_
   rintro m tm bx nt live ⟨j,hj,rfl,ht⟩
   obtain ⟨tm0,rfl⟩:=has_ups ht
   refine mw_seq (mw_seq (mw_ops ?_))
   iterate 2 (first | refine pm ?_ | refine pq ?_)
   refine po_b rfl rfl (fun b hb => ?_)
   refine po_nil ?_
   refine mw_cd (p:=(j:Int) < k) hb rfl (fun h _ => ?_) (fun h _ => ?_)
   ·have hlt:j < k:=by omega
    have hjs:i + j < s.length:=by omega
    have hstep:valBE ((s.drop i).take (j + 1)) = valBE ((s.drop i).take j) * 256 + s[i + j].toNat:=by
     rw [valBE_take _ _ (by rw [List.length_drop]; omega),List.getElem_drop]
    have hvb:=valBE_bound (s.drop i) (j + 1) (by omega)
    have hby:=(s[i + j]).toNat_lt
    rw [hstep] at hvb
    refine mw_skip ?_
    refine mw_seq (mw_block (mw_ops ?_))
    first | refine pm ?_ | refine pq ?_
    refine po_q (v:=.d (.v (.int .u64 ((256 * valBE ((s.drop i).take j):Nat):Int)))) rfl (by show some (PV.d (.v (.int .u64 (IntKind.wrap .u64 (256 * (valBE ((s.drop i).take j):Int)))))) = _; rw [show IntKind.wrap .u64 (256 * (valBE ((s.drop i).take j):Int)) = ((256 * valBE ((s.drop i).take j):Nat):Int) by rw [IntKind.wrap_u64]; omega]) ?_
    iterate 3 (first | refine pm ?_ | refine pq ?_)
    refine po_add (n:=((i + j:Nat):Int)) rfl rfl rfl (by omega) (by omega) ?_
    refine po_ixs (k:=i + j) rfl rfl rfl rfl (List.getElem?_eq_getElem hjs) ?_
    refine po_q (v:=.d (.v (.int .u64 ((s[i + j]).toNat:Int)))) rfl (by show some (PV.d (.v (.int .u64 (IntKind.wrap .u64 ((s[i + j]).toNat:Int))))) = _; rw [show IntKind.wrap .u64 ((s[i + j]).toNat:Int) = ((s[i + j]).toNat:Int) by rw [IntKind.wrap_u64]; omega]) ?_
    refine po_q (v:=.d (.v (.int .u64 (valBE ((s.drop i).take (j + 1)):Nat)))) rfl (by show some (PV.d (.v (.int .u64 (IntKind.wrap .u64 (((256 * valBE ((s.drop i).take j):Nat):Int) + ((s[i + j]).toNat:Int)))))) = _; rw [hstep,show IntKind.wrap .u64 (((256 * valBE ((s.drop i).take j):Nat):Int) + ((s[i + j]).toNat:Int)) = ((valBE ((s.drop i).take j) * 256 + s[i + j].toNat:Nat):Int) by rw [IntKind.wrap_u64]; omega]) ?_
    repeat' (first | refine pm ?_ | refine pq ?_ | refine px ?_ | refine po_zero ?_ | refine po_nil ?_)
    refine mw_ops ?_
    first | refine pm ?_ | refine pq ?_
    refine po_add (n:=((j + 1:Nat):Int)) rfl rfl rfl (by omega) (by omega) ?_
    repeat' (first | refine pm ?_ | refine pq ?_ | refine px ?_ | refine po_zero ?_ | refine po_nil ?_)
    exact ⟨k - (j + 1),by omega,j + 1,hlt,rfl,rfl,rfl,rfl,rfl,rfl,trivial⟩
   ·refine mw_exit ?_
    exact ⟨0,⟨j,hj,by omega,rfl,rfl,rfl,rfl,rfl,trivial⟩,rfl⟩
  rintro tm bx nt live ⟨m,⟨j,hj,rfl,ht⟩,hm⟩
  obtain ⟨tm0,rfl⟩:=has_ups ht
  obtain rfl:j = k:=by omega
  refine mw_seq (mw_ops ?_)
  first | refine pm ?_ | refine pq ?_
  refine po_q (v:=.d (pI (IntKind.i64.wrap (valBE ((s.drop i).take j))))) rfl rfl ?_
  repeat' (first | refine pm ?_ | refine pq ?_ | refine px ?_ | refine po_zero ?_ | refine po_nil ?_)
  exact mw_ret ⟨.inr rfl,_,rfl,rfl⟩
 ·rw [if_neg hb]
  refine po_yes rfl rfl (decide_eq_true (by omega)) ?_
  repeat' (first | refine pm ?_ | refine pq ?_ | refine px ?_ | refine po_zero ?_ | refine po_nil ?_)
  refine mwT ?_
  refine mw_seq (mw_ops ?_)
  repeat' (first | refine pm ?_ | refine pq ?_ | refine px ?_ | refine po_zero ?_ | refine po_nil ?_)
  exact mw_ret ⟨.inr rfl,_,rfl,rfl⟩
end
/- PvG5 -/
section
open Go.RowKit
variable {T:World -> Prop} {hT:Low ngl T}
attribute [local irreducible] po mw pt
def fV (k n e:Int) (s:List UInt8):List PC:=[pI k,pI n,pI e,pS s,.sl 1 []]
theorem fV_er (k n e:Int) (s:List UInt8):erL (fV k n e s) = vC (.mk k n e s []):=rfl
theorem fV_new (k n e:Int) (s:List UInt8) (a b:Nat):NewL a b (fV k n e s):=⟨rfl,List.nodup_nil,fun t ht => by cases ht⟩
theorem fV_tok (k n e:Int) (s:List UInt8):toksL (fV k n e s) = []:=rfl
def strV (s:List UInt8) (i:Nat) (kind:Int) (many:Nat) (ok:Bool):PV:=if ok = true /\ (many:Int) <= s.length - i then .tup [.ag (fV kind 0 0 ((s.drop i).take many)),.d (pI ((i + many:Nat):Int))] else .tup [.ag (fV 0 0 0 []),.d (pI (-1))]
def Same (s:List UInt8) (left:Int) (nt:Nat) (live:List Nat) (y x:PV) (b:List (List PC)) (n:Nat) (l:List Nat):Prop:=∃ c' rest,b = c' :: rest /\ x.lw 0 /\ lwL 0 c' /\ (c' = [pS s,pI left] /\ n = nt /\ l = live /\ x = y)
theorem str_g (s:List UInt8) (left:Int) (i:Nat) (kind:Int) (many:Nat) (ok:Bool) (hi:i <= 4611686018427387904) (hm:many <= 4611686018427387904) (hs:s.length <= 4611686018427387904) (nt:Nat) (live:List Nat) :
  FnG (env T hT) 206 [.ref 0 0,.d (pI i),.d (pI kind),.d (pI many),.d (pB ok)] [[pS s,pI left]] nt live (Same s left nt live (strV s i kind many ok)):=by
 refine fng_of (look_env lk_s_l06Str) (by show 5 <= 40; decide) fun B hB => ?_
 unfold m_s_l06Str
 refine mw_seq (mw_ops ?_)
 repeat' (first | refine pm ?_ | refine pq ?_ | refine px ?_ | refine po_zero ?_ | refine po_nil ?_)
 refine mw_seq (mw_seq (mw_ops ?_))
 first | refine pm ?_ | refine pq ?_
 cases ok with
 | false =>
  refine po_q (v:=.d (pB true)) rfl rfl ?_
  first | refine pm ?_ | refine pq ?_
  iterate 9 (refine po_skip rfl ?_)
  repeat' (first | refine pm ?_ | refine pq ?_ | refine px ?_ | refine po_zero ?_ | refine po_nil ?_)
  refine mwT ?_
  refine mw_seq (mw_ops ?_)
  first | refine pm ?_ | refine pq ?_
  refine po_stw (p:=1) (cs:=fV 0 0 0 []) rfl rfl rfl rfl rfl rfl ?_
  repeat' (first | refine pm ?_ | refine pq ?_ | refine px ?_ | refine po_zero ?_ | refine po_nil ?_)
  refine mw_ret ⟨.inr rfl,[.ag (fV 0 0 0 []),.d (pI (-1))],rfl,_,_,rfl,⟨⟨trivial,trivial,trivial,trivial,trivial,trivial⟩,trivial,trivial⟩,⟨trivial,trivial,trivial⟩,rfl,rfl,rfl,?_⟩
  unfold strV; rw [if_neg (fun h => by cases h.1)]; rfl
 | true =>
  refine po_q (v:=.d (pB false)) rfl rfl ?_
  iterate 6 (first | refine pm ?_ | refine pq ?_)
  refine po_q (v:=.d (pI s.length)) rfl rfl ?_
  first | refine pm ?_ | refine pq ?_
  refine po_sub (n:=(s.length:Int) - i) rfl rfl rfl rfl (by omega) ?_
  by_cases h:(many:Int) <= s.length - i
  ·refine po_no rfl rfl (decide_eq_false (show ¬ (many:Int) > s.length - i by omega)) ?_
   repeat' (first | refine pm ?_ | refine pq ?_ | refine px ?_ | refine po_zero ?_ | refine po_nil ?_)
   refine mwF ?_
   refine mw_skip ?_
   refine mw_seq (mw_ops ?_)
   iterate 8 (first | refine pm ?_ | refine pq ?_)
   refine po_add (n:=((i + many:Nat):Int)) rfl rfl rfl (by omega) (by omega) ?_
   refine po_slcs (a:=i) (b:=i + many) (rs:=(s.drop i).take many) rfl rfl (bound_nat rfl rfl) (bound_nat rfl rfl) (by omega) (by rw [Nat.add_sub_cancel_left]) ?_
   first | refine pm ?_ | refine pq ?_
   iterate 2 (first | refine pm ?_ | refine pq ?_)
   refine po_add (n:=((i + many:Nat):Int)) rfl rfl rfl (by omega) (by omega) ?_
   refine po_stw (p:=1) (cs:=fV kind 0 0 ((s.drop i).take many)) rfl rfl rfl rfl rfl rfl ?_
   repeat' (first | refine pm ?_ | refine pq ?_ | refine px ?_ | refine po_zero ?_ | refine po_nil ?_)
   refine mw_ret ⟨.inr rfl,[.ag (fV kind 0 0 ((s.drop i).take many)),.d (pI ((i + many:Nat):Int))],rfl,_,_,rfl,⟨⟨trivial,trivial,trivial,trivial,trivial,trivial⟩,trivial,trivial⟩,⟨trivial,trivial,trivial⟩,rfl,rfl,rfl,?_⟩
   unfold strV; rw [if_pos ⟨rfl,h⟩]; rfl
  ·refine po_yes rfl rfl (decide_eq_true (show (many:Int) > s.length - i by omega)) ?_
   repeat' (first | refine pm ?_ | refine pq ?_ | refine px ?_ | refine po_zero ?_ | refine po_nil ?_)
   refine mwT ?_
   refine mw_seq (mw_ops ?_)
   first | refine pm ?_ | refine pq ?_
   refine po_stw (p:=1) (cs:=fV 0 0 0 []) rfl rfl rfl rfl rfl rfl ?_
   repeat' (first | refine pm ?_ | refine pq ?_ | refine px ?_ | refine po_zero ?_ | refine po_nil ?_)
   refine mw_ret ⟨.inr rfl,[.ag (fV 0 0 0 []),.d (pI (-1))],rfl,_,_,rfl,⟨⟨trivial,trivial,trivial,trivial,trivial,trivial⟩,trivial,trivial⟩,⟨trivial,trivial,trivial⟩,rfl,rfl,rfl,?_⟩
   unfold strV; rw [if_neg (fun hh => h hh.2)]; rfl
def wideN (s:List UInt8) (i:Nat) (b:Nat):Int:=if b ≥ 208 then sgw (gwN s i (2 ^ (b % 4))) (2 ^ (b % 4)) else gwN s i (2 ^ (b % 4))
def wideV (s:List UInt8) (i:Nat) (b:Nat):PV:=if i + 2 ^ (b % 4) <= s.length then .tup [.ag (vC (.mk 3 (wideN s i b) 0 [] [])),.d (pI ((i + 2 ^ (b % 4):Nat):Int))] else .tup [.ag (fV 0 0 0 []),.d (pI (-1))]
theorem pow24 (b:Nat):1 <= 2 ^ (b % 4) /\ 2 ^ (b % 4) <= 8 /\ ([[pI 1],[pI 2],[pI 4],[pI 8]]:List (List PC))[b % 4]? = some [pI (2 ^ (b % 4):Nat)]:=by
 have h:b % 4 = 0 \/ b % 4 = 1 \/ b % 4 = 2 \/ b % 4 = 3:=by omega
 rcases h with h | h | h | h <;> rw [h] <;> exact ⟨by decide,by decide,rfl⟩
theorem wide_g (s:List UInt8) (left:Int) (i b:Nat) (hb:b < 256) (hi:i <= 4611686018427387800) (hs:s.length <= 4611686018427387904) (nt:Nat) (live:List Nat) :
  FnG (env T hT) 207 [.ref 0 0,.d (pI i),.d (pI b)] [[pS s,pI left]] nt live (fun x bx n l => ∃ c' rest,bx = c' :: rest /\ x.lw 0 /\ lwL 0 c' /\ (c' = [pS s,pI left] /\ n = nt + 1 /\ l = nt :: live /\ x = wideV s i b)):=by
 obtain ⟨p1,p2,p3⟩:=pow24 b
 refine fng_of (look_env lk_s_l06Wide) (by show 3 <= 39; decide) fun B hB => ?_
 unfold m_s_l06Wide
 refine mw_seq (mw_ops ?_)
 repeat' (first | refine pm ?_ | refine pq ?_ | refine px ?_ | refine po_zero ?_ | refine po_nil ?_)
 refine mw_seq (mw_ops ?_)
 refine po_lit (es:=[[pI 1],[pI 2],[pI 4],[pI 8]]) rfl ?_
 first | refine pm ?_ | refine pq ?_
 have hand:bits .and .i64 (b:Int) 3 = ((b % 4:Nat):Int):=by
  rw [mask_i64 b 2 (by decide) 3 (by decide)]; simp
 refine po_q (v:=.d (pI ((b % 4:Nat):Int))) rfl (by show some (PV.d (.v (.int .i64 (bits .and .i64 (b:Int) 3)))) = _; rw [hand]; rfl) ?_
 refine po_ix (es:=[[pI 1],[pI 2],[pI 4],[pI 8]]) (e:=[pI (2 ^ (b % 4):Nat)]) rfl rfl rfl ⟨by omega,by rw [Int.toNat_natCast]; exact p3⟩ rfl ?_
 repeat' (first | refine pm ?_ | refine pq ?_ | refine px ?_ | refine po_zero ?_ | refine po_nil ?_)
 refine mw_seq (mw_ops ?_)
 iterate 6 (first | refine pm ?_ | refine pq ?_)
 refine po_call (args:=[.d (pS s),.d (pI i),.d (pI (2 ^ (b % 4):Nat))]) rfl (getw_fn s i (2 ^ (b % 4)) ⟨p1,p2⟩ (by omega) hs) ?_
 unfold gwV wideV
 by_cases h:i + 2 ^ (b % 4) <= s.length
 ·rw [if_pos h,if_pos h]
  repeat' (first | refine pm ?_ | refine pq ?_ | refine px ?_ | refine po_zero ?_ | refine po_nil ?_)
  refine mw_seq (mw_seq (mw_ops ?_))
  repeat' (first | refine pm ?_ | refine pq ?_ | refine px ?_ | refine po_zero ?_ | refine po_nil ?_)
  refine mwF ?_
  refine mw_skip ?_
  refine mw_cut (fun st => has st.tm [(0,.ref 0 0),(1,.d (pI i)),(6,.ref 1 0),(8,.d (pI (2 ^ (b % 4):Nat))),(9,.d (pI (wideN s i b)))] /\ st.bx = [[pS s,pI left],fV 0 0 0 []] /\ st.nt = nt + 1 /\ st.live = nt :: live) ?_ ?_
  ·refine mw_seq (mw_ops ?_)
   first | refine pm ?_ | refine pq ?_
   refine po_b rfl rfl (fun b1 hb1 => ?_)
   refine po_nil ?_
   refine mw_cd (p:=(b:Int) ≥ 208) hb1 rfl (fun h8 _ => ?_) (fun h8 _ => ?_)
   ·refine mw_ops ?_
    iterate 2 (first | refine pm ?_ | refine pq ?_)
    refine po_call (args:=[.d (pI (gwN s i (2 ^ (b % 4)))),.d (pI (2 ^ (b % 4):Nat))]) rfl (sgn_fn (gwN s i (2 ^ (b % 4))) (2 ^ (b % 4)) ⟨p1,p2⟩) ?_
    repeat' (first | refine pm ?_ | refine pq ?_ | refine px ?_ | refine po_zero ?_ | refine po_nil ?_)
    exact ⟨⟨rfl,rfl,rfl,rfl,by unfold wideN; rw [if_pos (by omega)]; rfl,trivial⟩,rfl,rfl,rfl⟩
   ·refine mw_skip ?_
    exact ⟨⟨rfl,rfl,rfl,rfl,by unfold wideN; rw [if_neg (by omega)]; rfl,trivial⟩,rfl,rfl,rfl⟩
  rintro tm bx n1 l1 ⟨ht,rfl,rfl,rfl⟩
  obtain ⟨tm0,rfl⟩:=has_ups ht
  refine mw_seq (mw_ops ?_)
  first | refine pm ?_ | refine pq ?_
  refine po_call (args:=[.d (pI (wideN s i b))]) rfl (int_fn (wideN s i b)) ?_
  iterate 2 (first | refine pm ?_ | refine pq ?_)
  refine po_add (n:=((i + 2 ^ (b % 4):Nat):Int)) rfl rfl rfl (by omega) (by omega) ?_
  refine po_stw (p:=1) (cs:=vC (.mk 3 (wideN s i b) 0 [] [])) rfl rfl rfl rfl rfl rfl ?_
  repeat' (first | refine pm ?_ | refine pq ?_ | refine px ?_ | refine po_zero ?_ | refine po_nil ?_)
  exact mw_ret ⟨.inr rfl,[.ag (vC (.mk 3 (wideN s i b) 0 [] [])),.d (pI ((i + 2 ^ (b % 4):Nat):Int))],rfl,_,_,rfl,⟨⟨trivial,trivial,trivial,trivial,trivial,trivial⟩,trivial,trivial⟩,⟨trivial,trivial,trivial⟩,rfl,rfl,rfl,rfl⟩
 ·rw [if_neg h,if_neg h]
  repeat' (first | refine pm ?_ | refine pq ?_ | refine px ?_ | refine po_zero ?_ | refine po_nil ?_)
  refine mw_seq (mw_seq (mw_ops ?_))
  repeat' (first | refine pm ?_ | refine pq ?_ | refine px ?_ | refine po_zero ?_ | refine po_nil ?_)
  refine mwT ?_
  refine mw_seq (mw_ops ?_)
  first | refine pm ?_ | refine pq ?_
  refine po_stw (p:=1) (cs:=fV 0 0 0 []) rfl rfl rfl rfl rfl rfl ?_
  repeat' (first | refine pm ?_ | refine pq ?_ | refine px ?_ | refine po_zero ?_ | refine po_nil ?_)
  exact mw_ret ⟨.inr rfl,[.ag (fV 0 0 0 []),.d (pI (-1))],rfl,_,_,rfl,⟨⟨trivial,trivial,trivial,trivial,trivial,trivial⟩,trivial,trivial⟩,⟨trivial,trivial,trivial⟩,rfl,rfl,rfl,rfl⟩
end
/- PvG6 -/
section
open Go.RowKit
variable {T:World -> Prop} {hT:Low ngl T}
attribute [local irreducible] po mw pt
def GotV (s:List UInt8) (d left:Int) (i nt:Nat) (live:List Nat) (x:PV) (left':Int) (nt':Nat) (live':List Nat):Prop :=
 ∃ (cs:List PC) (next:Int),x = .tup [.ag cs,.d (pI next)] /\ cs.length = 5 /\ NewL nt nt' cs /\ (∀ t ∈ toksL cs,t ∈ live') /\ (∀ t ∈ live,2 <= t -> t < nt -> t ∈ live') /\ nt <= nt' /\ (-1 <= left' /\ left' <= left) /\
 (next = -1 \/ ∃ (j:Nat) (u:V),next = j /\ erL cs = vC u /\ u.wf /\ i < j /\ j <= s.length /\ u.bulk + 1 <= 2 * (j - i) /\ 0 <= left') /\
 (∀ v:V,v.wf -> v.rightBy pairsOk (12 - d) = true -> (v.nodes:Int) <= left -> At s i (msg v) -> next = ((i + (msg v).length:Nat):Int) /\ erL cs = vC v /\ left' = left - v.nodes)
def GotK (s:List UInt8) (d left kind many:Int) (ok:Bool) (i nt:Nat) (live:List Nat) (x:PV) (left':Int) (nt':Nat) (live':List Nat):Prop :=
 ∃ (cs:List PC) (next:Int),x = .tup [.ag cs,.d (pI next)] /\ cs.length = 5 /\ NewL nt nt' cs /\ (∀ t ∈ toksL cs,t ∈ live') /\ (∀ t ∈ live,2 <= t -> t < nt -> t ∈ live') /\ nt <= nt' /\ (-1 <= left' /\ left' <= left) /\
 (next = -1 \/ ∃ (j:Nat) (vs:List V),next = j /\ erL cs = vC (.mk kind 0 0 [] vs) /\ V.wfs vs /\ (vs.length:Int) = many /\ many <= 600 /\ i <= j /\ j <= s.length /\ V.bulks vs + vs.length <= 2 * (j - i) /\ 0 <= left' /\ ok = true) /\
 (∀ us:List V,V.wfs us -> V.rightsBy pairsOk (12 - d - 1) us = true -> (V.nodess us:Int) <= left -> (us.length:Int) = many -> ok = true -> At s i (msgs us) -> next = ((i + (msgs us).length:Nat):Int) /\ erL cs = vC (.mk kind 0 0 [] us) /\ left' = left - V.nodess us)
def GetG (T:World -> Prop) (hT:Low ngl T) (s:List UInt8) (d:Int):Prop:=∀ (i:Nat) (left:Int) (nt:Nat) (live:List Nat),i <= s.length -> 0 <= left -> left <= 300 -> 2 <= nt ->
 FnG (env T hT) 161 [.ref 0 0,.d (pI i),.d (pI d)] [[pS s,pI left]] nt live (fun x b n l => ∃ c' rest,b = c' :: rest /\ x.lw 0 /\ lwL 0 c' /\ ∃ left',c' = [pS s,pI left'] /\ GotV s d left i nt live x left' n l)
def KidsG (T:World -> Prop) (hT:Low ngl T) (s:List UInt8) (d:Int):Prop:=∀ (i:Nat) (left kind many:Int) (ok:Bool) (nt:Nat) (live:List Nat),(ok = true -> i <= s.length) -> i <= 4611686018427387904 -> 0 <= left -> left <= 300 -> 2 <= nt -> 0 <= many -> i64ok kind ->
 FnG (env T hT) 205 [.ref 0 0,.d (pI i),.d (pI kind),.d (pI many),.d (pB ok),.d (pI d)] [[pS s,pI left]] nt live (fun x b n l => ∃ c' rest,b = c' :: rest /\ x.lw 0 /\ lwL 0 c' /\ ∃ left',c' = [pS s,pI left'] /\ GotK s d left kind many ok i nt live x left' n l)
theorem lw_box (s:List UInt8) (left:Int):lwL 0 [pS s,pI left]:=⟨trivial,trivial,trivial⟩
theorem lw_res {cs:List PC} {a b:Nat} (h:NewL a b cs) (n:Int):PV.lw 0 (.tup [.ag cs,.d (pI n)]):=⟨ownedL_lw h.own,trivial,trivial⟩
theorem V.wfs_app:∀ {a b:List V},V.wfs a -> V.wfs b -> V.wfs (a ++ b)
 | [],_,_,hb => hb
 | _ :: _,_,ha,hb => ⟨ha.1,V.wfs_app ha.2 hb⟩
theorem V.bulks_app:∀ a b:List V,V.bulks (a ++ b) = V.bulks a + V.bulks b
 | [],b => by simp [V.bulks]
 | x :: a,b => by simp only [List.cons_append,V.bulks,V.bulks_app a b]; omega
theorem V.nodess_app:∀ a b:List V,V.nodess (a ++ b) = V.nodess a + V.nodess b
 | [],b => by simp [V.nodess]
 | x :: a,b => by simp only [List.cons_append,V.nodess,V.nodess_app a b]; omega
theorem nodess_take (us:List V) (k:Nat) (h:k < us.length):V.nodess us = V.nodess (us.take k) + (us[k].nodes + V.nodess (us.drop (k + 1))):=by
 have e:us = us.take k ++ (us[k] :: us.drop (k + 1)):=by rw [<- List.drop_eq_getElem_cons h,List.take_append_drop]
 have:=congrArg V.nodess e
 rw [V.nodess_app] at this
 simpa only [V.nodess] using this
theorem msgs_at {s:List UInt8} {i:Nat} {us:List V} (h:At s i (msgs us)) (k:Nat) (hk:k < us.length):At s (i + (msgs (us.take k)).length) (msg us[k]):=by
 have e:us = us.take k ++ (us[k] :: us.drop (k + 1)):=by rw [<- List.drop_eq_getElem_cons hk,List.take_append_drop]
 rw [e,msgs_app] at h
 have h2:=h.app.2
 simp only [msgs] at h2
 exact h2.app.1
theorem OwnL.mono2 {nt nt':Nat} {live live':List Nat} {cs:List PC} (h:OwnL nt live cs) (hn:nt <= nt') (hl:∀ t ∈ live,2 <= t -> t < nt -> t ∈ live'):OwnL nt' live' cs :=
 ⟨h.own,h.nd,fun t ht => ⟨hl t (h.mem t ht).1 (toksL_ge cs t ht) (h.mem t ht).2,Nat.lt_of_lt_of_le (h.mem t ht).2 hn⟩⟩
theorem pI_inj {a b:Int} (h:pI a = pI b):a = b:=by simpa [pI] using h
theorem pS_inj {a b:List UInt8} (h:pS a = pS b):a = b:=by simpa [pS] using h
mutual
theorem vC_inj:∀ {a b:V},vC a = vC b -> a = b
 | .mk k n e s ks,.mk k' n' e' s' ks',h => by
  simp only [vC,List.cons.injEq,V.kind,V.num,V.exp,V.text,V.kids,PC.sl.injEq,true_and,and_true] at h
  obtain ⟨h1,h2,h3,h4,h5⟩:=h
  rw [vK_eq,vK_eq] at h5
  obtain rfl:=pI_inj h1; obtain rfl:=pI_inj h2; obtain rfl:=pI_inj h3; obtain rfl:=pS_inj h4; obtain rfl:=vCs_inj h5
  rfl
theorem vCs_inj:∀ {a b:List V},a.map vC = b.map vC -> a = b
 | [],[],_ => rfl
 | [],_ :: _,h => by simp at h
 | _ :: _,[],h => by simp at h
 | x :: a,y :: b,h => by
  simp only [List.map_cons,List.cons.injEq] at h
  rw [vC_inj h.1,vCs_inj h.2]
end
def KdP (s:List UInt8) (d left kind many:Int) (i nt:Nat) (live:List Nat) (k:Nat) (vs:List V) (j:Nat) (left':Int):Prop :=
 vs.length = k /\ V.wfs vs /\ i <= j /\ j <= s.length /\ V.bulks vs + vs.length <= 2 * (j - i) /\ 0 <= left' /\ left' <= left /\
 (∀ us:List V,V.wfs us -> V.rightsBy pairsOk (12 - d - 1) us = true -> (V.nodess us:Int) <= left -> (us.length:Int) = many -> At s i (msgs us) -> us.take k = vs /\ j = i + (msgs vs).length /\ left' = left - V.nodess vs)
def KdI (s:List UInt8) (d left kind many:Int) (i nt:Nat) (live:List Nat) (m:Nat) (st:St):Prop:=∃ (k:Nat) (vs:List V) (j tk:Nat) (rows rest:List (List PC)) (left':Int),(k:Int) <= many /\ (m:Int) = many - k /\
 has st.tm [(0,.ref 0 0),(1,.d (pI j)),(3,.d (pI many)),(5,.d (pI d)),(12,.ref 1 0),(14,.ref 2 0),(15,.d (pI k))] /\
 st.bx = [pS s,pI left'] :: fV 0 0 0 [] :: [pI kind,pI 0,pI 0,pS [],.sl tk rows] :: rest /\ erLL rows = vK vs /\ (tk = 1 /\ rows = [] \/ 2 <= tk) /\ OwnL st.nt st.live ([pI kind,pI 0,pI 0,pS []] ++ .sl tk rows :: []) /\ (∀ t ∈ toksL [pI kind,pI 0,pI 0,pS [],.sl tk rows],nt <= t) /\ nt <= st.nt /\ (∀ t ∈ live,2 <= t -> t < nt -> t ∈ st.live) /\
 KdP s d left kind many i nt live k vs j left'
theorem ownNew {nt a:Nat} {l:List Nat} {cs:List PC} (h:OwnL a l cs) (ho:∀ t ∈ toksL cs,nt <= t):NewL nt a cs:=⟨h.own,h.nd,fun t ht => ⟨ho t ht,(h.mem t ht).2⟩⟩
set_option maxHeartbeats 2000000 in
theorem kids_g {s:List UInt8} (hs:s.length <= 2147483647) {d:Int} (hd:0 <= d /\ d <= 13) (hG:GetG T hT s (d + 1)):KidsG T hT s d:=by
 intro i left kind many ok nt live hi hi2 hl0 hl hnt hmany hkind
 refine fng_of (look_env lk_s_l06Kids) (by show 6 <= 52; decide) fun B hB => ?_
 unfold m_s_l06Kids
 refine mw_seq (mw_ops ?_)
 repeat' (first | refine pm ?_ | refine pq ?_ | refine px ?_ | refine po_zero ?_ | refine po_nil ?_)
 refine mw_seq (mw_ops ?_)
 iterate 2 (first | refine pm ?_ | refine pq ?_)
 refine po_nw (cs:=fV kind 0 0 []) rfl rfl rfl rfl ?_
 refine po_nil ?_
 refine mw_seq (mw_seq (mw_ops ?_))
 first | refine pm ?_ | refine pq ?_
 have hfail:∀ (hc:ok = false \/ many > 600),GotK s d left kind many ok i nt live (.tup [.ag (fV kind 0 0 []),.d (pI (-1))]) left nt live:=fun hc =>
  ⟨_,_,rfl,rfl,fV_new _ _ _ _ _ _,(fun t ht => by rw [fV_tok] at ht; cases ht),fun t ht _ _ => ht,Nat.le_refl _,by omega,.inl rfl,(fun us h1 h2 h3 h4 h5 h6 => by
   have:=V.kids_nodes us
   rcases hc with hc | hc
   ·rw [hc] at h5; cases h5
   ·omega)⟩
 cases ok with
 | false =>
  refine po_q (v:=.d (pB true)) rfl rfl ?_
  first | refine pm ?_ | refine pq ?_
  iterate 2 (refine po_skip rfl ?_)
  repeat' (first | refine pm ?_ | refine pq ?_ | refine px ?_ | refine po_zero ?_ | refine po_nil ?_)
  refine mwT ?_
  refine mw_seq (mw_ops ?_)
  first | refine pm ?_ | refine pq ?_
  refine po_stw (p:=1) (cs:=fV kind 0 0 []) rfl rfl rfl rfl rfl rfl ?_
  repeat' (first | refine pm ?_ | refine pq ?_ | refine px ?_ | refine po_zero ?_ | refine po_nil ?_)
  exact mw_ret ⟨.inr rfl,[.ag (fV kind 0 0 []),.d (pI (-1))],rfl,_,_,rfl,lw_res (fV_new _ _ _ _ nt nt) _,lw_box s left,left,rfl,hfail (.inl rfl)⟩
 | true =>
 have hi:=hi rfl
 refine po_q (v:=.d (pB false)) rfl rfl ?_
 iterate 2 (first | refine pm ?_ | refine pq ?_)
 by_cases hm:many > 600
 ·refine po_yes rfl rfl (decide_eq_true hm) ?_
  repeat' (first | refine pm ?_ | refine pq ?_ | refine px ?_ | refine po_zero ?_ | refine po_nil ?_)
  refine mwT ?_
  refine mw_seq (mw_ops ?_)
  first | refine pm ?_ | refine pq ?_
  refine po_stw (p:=1) (cs:=fV kind 0 0 []) rfl rfl rfl rfl rfl rfl ?_
  repeat' (first | refine pm ?_ | refine pq ?_ | refine px ?_ | refine po_zero ?_ | refine po_nil ?_)
  exact mw_ret ⟨.inr rfl,[.ag (fV kind 0 0 []),.d (pI (-1))],rfl,_,_,rfl,lw_res (fV_new _ _ _ _ nt nt) _,lw_box s left,left,rfl,hfail (.inr hm)⟩
 refine po_no rfl rfl (decide_eq_false hm) ?_
 repeat' (first | refine pm ?_ | refine pq ?_ | refine px ?_ | refine po_zero ?_ | refine po_nil ?_)
 refine mwF ?_
 refine mw_skip ?_
 refine mw_cut (fun st => ∃ m,KdI s d left kind many i nt live m st /\ m = 0) ?_ ?_
 ·refine mw_seq (mw_ops ?_)
  repeat' (first | refine pm ?_ | refine pq ?_ | refine px ?_ | refine po_zero ?_ | refine po_nil ?_)
  refine mw_block ?_
  refine mw_while (KdI s d left kind many i nt live) many.toNat ⟨0,[],i,1,[],[],left,hmany,by omega,⟨rfl,rfl,rfl,rfl,rfl,rfl,rfl,trivial⟩,rfl,rfl,.inl ⟨rfl,rfl⟩,⟨rfl,List.nodup_nil,fun t ht => by cases ht⟩,(fun t ht => by cases ht),Nat.le_refl _,fun t ht _ _ => ht,rfl,trivial,Nat.le_refl _,hi,by simp [V.bulks],hl0,Int.le_refl _,fun us _ _ _ _ _ => ⟨by simp,by simp [msgs],by simp [V.nodess]⟩⟩ ?_
  rintro m tm bx n1 l1 ⟨k,vs,j,tk,rows,rest,left1,hk,hmk,ht,hbx,hrows,htk,hown,hge,hn1,hlv,hP⟩
  obtain ⟨tm0,rfl⟩:=has_ups ht
  simp only at hbx hown hn1 hlv; subst hbx
  obtain ⟨hvl,hvw,hij,hjs,hvb,hl1,hl2,hcp⟩:=hP
  refine mw_seq (mw_seq (mw_ops ?_))
  iterate 2 (first | refine pm ?_ | refine pq ?_)
  refine po_b rfl rfl (fun b hb => ?_)
  refine po_nil ?_
  refine mw_cd (p:=(k:Int) < many) hb rfl (fun h _ => ?_) (fun h _ => ?_)
  ·refine mw_skip ?_
   refine mw_seq (mw_block (mw_seq (mw_ops ?_)))
   iterate 3 (first | refine pm ?_ | refine pq ?_)
   refine po_add (n:=d + 1) rfl rfl rfl rfl (by omega) ?_
   refine po_g rfl (FnG.lift1 (p:=0) (hG j left1 n1 l1 hjs hl1 (by omega) (by omega)) ⟨trivial,trivial,trivial⟩ (lw_box s left1) rfl) ?_
   rintro x _ n2 l2 ⟨c',rfl,left2,rfl,cs,next,rfl,hc5,hnew,hctk,hlv2,hn2,hl3,hres,hcomp⟩
   iterate 3 (first | refine pm ?_ | refine pq ?_)
   refine po_nw (cs:=cs) rfl hc5 rfl rfl ?_
   first | refine pm ?_ | refine pq ?_
   refine po_nil ?_
   refine mw_seq (mw_seq (mw_ops ?_))
   first | refine pm ?_ | refine pq ?_
   refine po_b rfl rfl (fun b2 hb2 => ?_)
   refine po_nil ?_
   have hown2:OwnL n2 l2 ([pI kind,pI 0,pI 0,pS []] ++ .sl tk rows :: []):=hown.mono2 hn2 hlv2
   refine mw_cd (p:=next < 0) hb2 rfl (fun h2 _ => ?_) (fun h2 _ => ?_)
   ·clear hres
    refine mw_seq (mw_ops ?_)
    refine po_ldw (p:=2) (cs:=[pI kind,pI 0,pI 0,pS [],.sl tk rows]) rfl rfl rfl rfl ?_
    refine po_stw (p:=1) (cs:=[pI kind,pI 0,pI 0,pS [],.sl tk rows]) rfl rfl rfl rfl rfl rfl ?_
    repeat' (first | refine pm ?_ | refine pq ?_ | refine px ?_ | refine po_zero ?_ | refine po_nil ?_)
    have hN:=ownNew hown2 hge
    refine mw_ret ⟨.inr rfl,[.ag [pI kind,pI 0,pI 0,pS [],.sl tk rows],.d (pI (-1))],rfl,_,_,rfl,lw_res hN _,lw_box s left2,left2,rfl,_,_,rfl,rfl,hN,(fun t ht => (hown2.mem t ht).1),fun t ht h22 hlt => hlv2 t (hlv t ht h22 hlt) h22 (Nat.lt_of_lt_of_le hlt hn1),Nat.le_trans hn1 hn2,by omega,.inl rfl,fun us h3 h4 h5 h6 h7 h8 => ?_⟩
    obtain ⟨e1,e2,e3⟩:=hcp us h3 h4 h5 h6 h8
    have hku:k < us.length:=by omega
    have hA:=msgs_at h8 k hku
    rw [e1,<- e2] at hA
    have hnd:=nodess_take us k hku
    rw [e1] at hnd
    rw [V.rightsBy_all,List.all_eq_true] at h4
    have:=(hcomp us[k] (V.wfs_get h3 k hku) (by rw [show 12 - (d + 1) = 12 - d - 1 by omega]; exact h4 _ (List.getElem_mem hku)) (by omega) hA).1
    omega
   ·obtain ⟨j2,u,rfl,he,huw,hj2,hj2s,hub,hl4⟩:=hres.resolve_left (fun h => h2 (by rw [h]; decide))
    clear hres
    refine mw_skip ?_
    refine mw_seq (mw_ops ?_)
    first | refine pm ?_ | refine pq ?_
    first | refine pm ?_ | refine pq ?_
    refine po_ldw (p:=([pS s,pI left2] :: fV 0 0 0 [] :: [pI kind,pI 0,pI 0,pS [],.sl tk rows] :: rest).length) (cs:=cs) rfl rfl (gl_last ([pS s,pI left2] :: fV 0 0 0 [] :: [pI kind,pI 0,pI 0,pS [],.sl tk rows] :: rest) cs) hc5 ?_
    have hlit:litP (ev (up 45 (.ag cs) tm0)) 5 [.t 45] = some [cs]:=by
     show (if cs.length = 5 then some [cs] else none) = some [cs]
     rw [if_pos hc5]
    refine po_lit (es:=[cs]) (by
     show (if cs.length = 5 then some [cs] else none) = some [cs]
     rw [if_pos hc5]) ?_
    have hrl:rows.length = vs.length:=by rw [erLL_len hrows,vK_len]
    refine po_app (t:=tk) (t':=n2) (es:=rows) (ds:=[cs]) rfl rfl (hown2.app htk [n2]) (by simp only [List.length_singleton]; omega) (fun e he => by simp only [List.mem_singleton] at he; subst he; exact hc5) (fun e he => erLL_wid hrows (vK_wid vs) e he) ?_
    first | refine pm ?_ | refine pq ?_
    refine po_store (p:=2) (o':=4) (cs:=[.sl (n2 + 1) (rows ++ [cs])]) (z:=[pI kind,pI 0,pI 0,pS [],.sl tk rows]) rfl rfl rfl ⟨rfl,Nat.le_of_ble_eq_true rfl⟩ rfl ?_
    refine po_nil ?_
    refine mw_ops ?_
    repeat' (first | refine pm ?_ | refine pq ?_ | refine px ?_ | refine po_zero ?_ | refine po_nil ?_)
    refine mw_ops ?_
    first | refine pm ?_ | refine pq ?_
    refine po_add (n:=((k + 1:Nat):Int)) rfl rfl rfl (by omega) (by omega) ?_
    repeat' (first | refine pm ?_ | refine pq ?_ | refine px ?_ | refine po_zero ?_ | refine po_nil ?_)
    have hpush:OwnL (n2 + 2) ((n2 + 1) :: (n2 :: l2).filter (· != tk)) ([pI kind,pI 0,pI 0,pS []] ++ .sl (n2 + 1) (rows ++ [cs]) :: []):=by
     have h0:OwnL n1 (l1.filter (fun t => decide (t < n1))) ([pI kind,pI 0,pI 0,pS []] ++ .sl tk rows :: []):=⟨hown.own,hown.nd,fun t ht => ⟨List.mem_filter.2 ⟨(hown.mem t ht).1,decide_eq_true (hown.mem t ht).2⟩,(hown.mem t ht).2⟩⟩
     have:=h0.pushA (nt':=n2 + 1) (e:=cs) htk (by omega) hnew.own hnew.nd (fun t ht => by have:=hnew.mem t ht; omega) (by omega)
     refine this.mono2 (by omega) fun t ht h22 hlt => ?_
     rcases List.mem_cons.1 ht with rfl | ht
     ·exact List.mem_cons_self ..
     ·obtain ⟨m1,m2⟩:=List.mem_filter.1 ht
      refine List.mem_cons_of_mem _ (List.mem_filter.2 ⟨?_,m2⟩)
      rcases List.mem_append.1 m1 with m1 | m1
      ·exact List.mem_cons_of_mem _ (hctk t m1)
      ·obtain ⟨m3,m4⟩:=List.mem_filter.1 m1
       exact List.mem_cons_of_mem _ (hlv2 t m3 h22 (of_decide_eq_true m4))
    have htkn:tk = 1 \/ nt <= tk:=htk.imp (fun h => h.1) fun h => hge tk (by simp [toksL,PC.toks,pI,pS,h])
    have hrge:∀ t ∈ toksLL rows,nt <= t:=by
     intro t ht
     rcases htk with ⟨_,rfl⟩ | h22
     ·cases ht
     ·exact hge t (by simp [toksL,PC.toks,pI,pS,h22,ht])
    refine ⟨m - 1,by omega,k + 1,vs ++ [u],j2,n2 + 1,rows ++ [cs],rest ++ [cs],left2,by omega,by omega,⟨rfl,rfl,rfl,rfl,rfl,rfl,rfl,trivial⟩,rfl,?_,.inr (by omega),hpush,?_,(show nt <= n2 + 2 by omega),?_,by simp [hvl],V.wfs_app hvw ⟨huw,trivial⟩,by omega,hj2s,?_,hl4,by omega,?_⟩
    ·rw [erLL_append,hrows,vK_eq,vK_eq,List.map_append]; simp only [erLL,he]; rfl
    ·intro t ht
     have ht:t ∈ PC.toks (.sl (n2 + 1) (rows ++ [cs])):=by simpa [toksL,PC.toks,pI,pS] using ht
     rw [toks_sl2 (by omega),toksLL_append] at ht
     rcases List.mem_cons.1 ht with rfl | ht
     ·omega
     ·rcases List.mem_append.1 ht with ht | ht
      ·exact hrge t ht
      ·have ht:t ∈ toksL cs:=by simpa [toksLL] using ht
       have:=hnew.mem t ht; omega
    ·intro t ht h22 hlt
     refine List.mem_cons_of_mem _ (List.mem_filter.2 ⟨List.mem_cons_of_mem _ (hlv2 t (hlv t ht h22 hlt) h22 (by omega)),?_⟩)
     simp only [bne_iff_ne,ne_eq]; omega
    ·rw [V.bulks_app,List.length_append]; simp only [V.bulks,List.length_singleton]; omega
    ·intro us h3 h4 h5 h6 h8
     obtain ⟨e1,e2,e3⟩:=hcp us h3 h4 h5 h6 h8
     have hku:k < us.length:=by omega
     have hA:=msgs_at h8 k hku
     rw [e1,<- e2] at hA
     have hnd:=nodess_take us k hku
     rw [e1] at hnd
     have h4':=h4
     rw [V.rightsBy_all,List.all_eq_true] at h4'
     obtain ⟨q1,q2,q3⟩:=hcomp us[k] (V.wfs_get h3 k hku) (by rw [show 12 - (d + 1) = 12 - d - 1 by omega]; exact h4' _ (List.getElem_mem hku)) (by omega) hA
     have huk:us[k] = u:=vC_inj (q2.symm.trans he)
     refine ⟨by rw [List.take_succ_eq_append_getElem hku,e1,huk],?_,?_⟩
     ·rw [msgs_snoc,List.length_append,<- huk]; omega
     ·rw [V.nodess_app,<- huk]; simp only [V.nodess]; omega
  ·refine mw_exit ?_
   exact ⟨0,⟨k,vs,j,tk,rows,rest,left1,hk,by omega,⟨rfl,rfl,rfl,rfl,rfl,rfl,rfl,trivial⟩,rfl,hrows,htk,hown,hge,hn1,hlv,hvl,hvw,hij,hjs,hvb,hl1,hl2,hcp⟩,rfl⟩
 rintro tm bx n1 l1 ⟨m,⟨k,vs,j,tk,rows,rest,left1,hk,hmk,ht,hbx,hrows,htk,hown,hge,hn1,hlv,hP⟩,hm0⟩
 obtain ⟨tm0,rfl⟩:=has_ups ht
 simp only at hbx hown hn1 hlv; subst hbx
 obtain ⟨hvl,hvw,hij,hjs,hvb,hl1,hl2,hcp⟩:=hP
 have hkm:(k:Int) = many:=by omega
 have hN:=ownNew hown hge
 have her:erL [pI kind,pI 0,pI 0,pS [],.sl tk rows] = vC (.mk kind 0 0 [] vs):=by
  simp only [erL,PC.er,hrows]; rfl
 refine mw_seq (mw_ops ?_)
 refine po_ldw (p:=2) (cs:=[pI kind,pI 0,pI 0,pS [],.sl tk rows]) rfl rfl rfl rfl ?_
 first | refine pm ?_ | refine pq ?_
 refine po_stw (p:=1) (cs:=[pI kind,pI 0,pI 0,pS [],.sl tk rows]) rfl rfl rfl rfl rfl rfl ?_
 repeat' (first | refine pm ?_ | refine pq ?_ | refine px ?_ | refine po_zero ?_ | refine po_nil ?_)
 refine mw_ret ⟨.inr rfl,[.ag [pI kind,pI 0,pI 0,pS [],.sl tk rows],.d (pI j)],rfl,_,_,rfl,lw_res hN _,lw_box s left1,left1,rfl,_,_,rfl,rfl,hN,fun t ht => (hown.mem t ht).1,hlv,hn1,by omega,.inr ⟨j,vs,rfl,her,hvw,by omega,by omega,hij,hjs,hvb,hl1,rfl⟩,fun us h3 h4 h5 h6 h7 h8 => ?_⟩
 obtain ⟨e1,e2,e3⟩:=hcp us h3 h4 h5 h6 h8
 have:us.take k = us:=List.take_of_length_le (by omega)
 rw [this] at e1
 subst e1
 exact ⟨by rw [e2],her,e3⟩
end
/- PvG7 -/
section
open Go.RowKit
variable {T:World -> Prop} {hT:Low ngl T}
attribute [local irreducible] po mw pt
def gwz (s:List UInt8) (i k:Nat):Int:=if i + k <= s.length then gwN s i k else 0
theorem gwV_eq (s:List UInt8) (i k:Nat):gwV s i k = .tup [.d (pI (gwz s i k)),.d (pB (decide (i + k <= s.length)))]:=by
 unfold gwV gwz
 by_cases h:i + k <= s.length
 ·rw [if_pos h,if_pos h,decide_eq_true h]; rfl
 ·rw [if_neg h,if_neg h,decide_eq_false h]
theorem gwz_ok {s:List UInt8} {i k:Nat} (h:i + k <= s.length):gwz s i k = gwN s i k:=by unfold gwz; rw [if_pos h]
theorem top199 {v:V} {t0:List UInt8} (h:MsgTop v 199 t0):(∃ n e:Int,(-20 <= e /\ e <= 20) /\ (-999999999999999999 <= n /\ n <= 999999999999999999) /\ v = .mk 4 n e [] [] /\ t0 = [9,4] ++ be 1 (lo64 e) ++ be 8 (lo64 n)) \/ ∃ (m:Nat) (kid:V),m <= 1000000 /\ v = .mk 9 m 0 [] [kid] /\ t0 = [4,6] ++ be 4 m ++ msg kid:=by
 generalize hb:199 = b at h
 cases h with
 | dec n e h hn => exact .inl ⟨n,e,h,hn,rfl,rfl⟩
 | tag n h kid => exact .inr ⟨n,kid,h,rfl,rfl⟩
 | _ => exfalso; omega
def GotX (s:List UInt8) (d left:Int) (p nt:Nat) (live:List Nat) (x:PV) (left':Int) (nt':Nat) (live':List Nat):Prop :=
 ∃ (cs:List PC) (next:Int),x = .tup [.ag cs,.d (pI next)] /\ cs.length = 5 /\ NewL nt nt' cs /\ (∀ t ∈ toksL cs,t ∈ live') /\ (∀ t ∈ live,2 <= t -> t < nt -> t ∈ live') /\ nt <= nt' /\ (-1 <= left' /\ left' <= left) /\
 (next = -1 \/ ∃ (j:Nat) (u:V),next = j /\ erL cs = vC u /\ u.wf /\ p <= j /\ j <= s.length /\ u.bulk <= 1 + 2 * (j - p) /\ 0 <= left') /\
 (∀ (v:V) (t0:List UInt8),v.wf -> v.rightBy pairsOk (12 - d) = true -> (v.nodes:Int) <= left + 1 -> MsgTop v 199 t0 -> At s p t0 -> next = ((p + t0.length:Nat):Int) /\ erL cs = vC v /\ left' = left + 1 - v.nodes)
theorem gotX_fail {s:List UInt8} {d left:Int} {p nt:Nat} {live:List Nat} (hl:0 <= left) (h:∀ (v:V) (t0:List UInt8),v.wf -> v.rightBy pairsOk (12 - d) = true -> (v.nodes:Int) <= left + 1 -> MsgTop v 199 t0 -> ¬ At s p t0) (k n e:Int) (t:List UInt8) :
  GotX s d left p nt live (.tup [.ag (fV k n e t),.d (pI (-1))]) left nt live :=
 ⟨_,_,rfl,rfl,fV_new _ _ _ _ _ _,(fun t ht => by rw [fV_tok] at ht; cases ht),fun t ht _ _ => ht,Nat.le_refl _,by omega,.inl rfl,fun v t0 a b c d e => absurd e (h v t0 a b c d)⟩
theorem five {α:Type} {l:List α} (h:l.length = 5):∃ a b c d e,l = [a,b,c,d,e]:=by
 match l,h with
 | [a,b,c,d,e],_ => exact ⟨a,b,c,d,e,rfl⟩
theorem new_num {nt nt':Nat} {a0 a1 a2 a3 a4:PC} (h:NewL nt nt' [a0,a1,a2,a3,a4]) (b:PC) (ho:b.owned = true) (ht:b.toks = []):NewL nt nt' [a0,b,a2,a3,a4] /\ ∀ t ∈ toksL [a0,b,a2,a3,a4],t ∈ toksL [a0,a1,a2,a3,a4]:=by
 have hsub:(toksL [a0,b,a2,a3,a4]).Sublist (toksL [a0,a1,a2,a3,a4]):=by
  simp only [toksL,ht,List.nil_append]
  exact List.Sublist.append (List.Sublist.refl _) (List.sublist_append_right _ _)
 refine ⟨⟨?_,h.nd.sublist hsub,fun t ht => h.mem t (hsub.subset ht)⟩,fun t ht => hsub.subset ht⟩
 have:=h.own
 simp only [ownedL,Bool.and_eq_true] at this ⊢
 exact ⟨this.1,ho,this.2.2⟩
theorem er_num {a0 a1 a2 a3 a4:PC} {k n e:Int} {t:List UInt8} {ks:List V} (h:erL [a0,a1,a2,a3,a4] = vC (.mk k n e t ks)) (m:Int):erL [a0,pI m,a2,a3,a4] = vC (.mk k m e t ks):=by
 simp only [erL,vC,List.cons.injEq,and_true,V.kind,V.num,V.exp,V.text,V.kids] at h ⊢
 exact ⟨h.1,rfl,h.2.2⟩
set_option maxHeartbeats 2000000 in
theorem ext_g {s:List UInt8} (hs:s.length <= 2147483647) {d:Int} (hd:0 <= d /\ d <= 12) (hK:KidsG T hT s d) (p:Nat) (left:Int) (nt:Nat) (live:List Nat) (hp:p <= s.length) (hl0:0 <= left) (hl:left <= 300) (hnt:2 <= nt) :
  FnG (env T hT) 208 [.ref 0 0,.d (pI p),.d (pI d)] [[pS s,pI left]] nt live (fun x b n l => ∃ c' rest,b = c' :: rest /\ x.lw 0 /\ lwL 0 c' /\ ∃ left',c' = [pS s,pI left'] /\ GotX s d left p nt live x left' n l):=by
 have hgw:∀ (i k:Nat),1 <= k /\ k <= 8 -> i <= 4611686018427387904 -> FnV (env T hT) 209 [.d (pS s),.d (pI i),.d (pI k)] (.tup [.d (pI (gwz s i k)),.d (pB (decide (i + k <= s.length)))]):=fun i k hk hi => by
  rw [<- gwV_eq]; exact getw_fn s i k hk hi (by omega)
 refine fng_of (look_env lk_s_l06Ext) (by show 3 <= 120; decide) fun B hB => ?_
 unfold m_s_l06Ext
 refine mw_seq (mw_ops ?_)
 repeat' (first | refine pm ?_ | refine pq ?_ | refine px ?_ | refine po_zero ?_ | refine po_nil ?_)
 refine mw_seq (mw_ops ?_)
 iterate 5 (first | refine pm ?_ | refine pq ?_)
 refine po_call (args:=[.d (pS s),.d (pI p),.d (pI ((1:Nat):Int))]) rfl (hgw p 1 (by decide) (by omega)) ?_
 repeat' (first | refine pm ?_ | refine pq ?_ | refine px ?_ | refine po_zero ?_ | refine po_nil ?_)
 refine mw_seq (mw_ops ?_)
 iterate 5 (first | refine pm ?_ | refine pq ?_)
 refine po_add (n:=((p + 1:Nat):Int)) rfl rfl rfl (by omega) (by omega) ?_
 refine po_call (args:=[.d (pS s),.d (pI ((p + 1:Nat):Int)),.d (pI ((1:Nat):Int))]) rfl (hgw (p + 1) 1 (by decide) (by omega)) ?_
 repeat' (first | refine pm ?_ | refine pq ?_ | refine px ?_ | refine po_zero ?_ | refine po_nil ?_)
 by_cases hb:p + 2 <= s.length
 case neg =>
  refine mw_seq (mw_block ?_)
  refine mw_cut (fun st => has st.tm [(0,.ref 0 0),(6,.ref 1 0),(39,.d (pB true))] /\ st.bx = [[pS s,pI left],fV 0 0 0 []] /\ st.nt = nt /\ st.live = live) ?_ ?_
  ·refine mw_ops ?_
   first | refine pm ?_ | refine pq ?_
   refine po_b rfl rfl (fun a1 ha1 => ?_)
   first | refine pm ?_ | refine pq ?_
   cases a1 with
   | true =>
    iterate 2 (refine po_skip rfl ?_)
    repeat' (first | refine pm ?_ | refine pq ?_ | refine px ?_ | refine po_zero ?_ | refine po_nil ?_)
    exact ⟨⟨rfl,rfl,rfl,trivial⟩,rfl,rfl,rfl⟩
   | false =>
    first | refine pm ?_ | refine pq ?_
    refine po_q (v:=.d (pB true)) rfl (by show some (PV.d (.v (.bool (!decide (p + 1 + 1 <= s.length))))) = _; rw [decide_eq_false (by omega)]; rfl) ?_
    repeat' (first | refine pm ?_ | refine pq ?_ | refine px ?_ | refine po_zero ?_ | refine po_nil ?_)
    exact ⟨⟨rfl,rfl,rfl,trivial⟩,rfl,rfl,rfl⟩
  rintro tm bx n1 l1 ⟨ht,rfl,rfl,rfl⟩
  obtain ⟨tm0,rfl⟩:=has_ups ht
  refine mwT ?_
  refine mw_seq (mw_ops ?_)
  first | refine pm ?_ | refine pq ?_
  refine po_stw (p:=1) (cs:=fV 0 0 0 []) rfl rfl rfl rfl rfl rfl ?_
  repeat' (first | refine pm ?_ | refine pq ?_ | refine px ?_ | refine po_zero ?_ | refine po_nil ?_)
  refine mw_ret ⟨.inr rfl,[.ag (fV 0 0 0 []),.d (pI (-1))],rfl,_,_,rfl,lw_res (fV_new _ _ _ _ n1 n1) _,lw_box s left,left,rfl,gotX_fail hl0 (fun v t0 h1 h2 h3 h4 h5 => ?_) _ _ _ _⟩
  rcases top199 h4 with ⟨n,e,he,hn,rfl,rfl⟩ | ⟨m,kid,hm,rfl,rfl⟩
  ·have:=(at_dec hp h5 he (by unfold i64ok; omega)).1; omega
  ·have:=(at_tag hp h5 hm).1; omega
 case pos =>
 have ha:p + 1 <= s.length:=by omega
 refine mw_seq (mw_block (mw_seq (mw_ops ?_)))
 first | refine pm ?_ | refine pq ?_
 refine po_q (v:=.d (pB false)) rfl (by show some (PV.d (.v (.bool (!decide (p + 1 <= s.length))))) = _; rw [decide_eq_true ha]; rfl) ?_
 iterate 2 (first | refine pm ?_ | refine pq ?_)
 refine po_q (v:=.d (pB false)) rfl (by show some (PV.d (.v (.bool (!decide (p + 1 + 1 <= s.length))))) = _; rw [decide_eq_true hb]; rfl) ?_
 repeat' (first | refine pm ?_ | refine pq ?_ | refine px ?_ | refine po_zero ?_ | refine po_nil ?_)
 refine mwF ?_
 rw [gwz_ok ha,gwz_ok (show p + 1 + 1 <= s.length from hb)]
 refine mw_at (fun st => has st.tm [(0,.ref 0 0),(1,.d (pI p)),(2,.d (pI d)),(6,.ref 1 0),(8,.d (pI (gwN s p 1))),(10,.d (pI (gwN s (p + 1) 1)))] /\ st.bx = [[pS s,pI left],fV 0 0 0 []] /\ st.nt = nt /\ st.live = live) ⟨⟨rfl,rfl,rfl,rfl,rfl,rfl,trivial⟩,rfl,rfl,rfl⟩ (fun tm bx n1 l1 hh => ?_)
 obtain ⟨ht,hbx,hn,hlv⟩:=hh
 obtain ⟨tm0,rfl⟩:=has_ups ht
 simp only at hbx hn hlv; subst hbx; subst hn; subst hlv
 clear ht
 refine mw_cut (fun st => has st.tm [(0,.ref 0 0),(1,.d (pI p)),(2,.d (pI d)),(6,.ref 1 0),(8,.d (pI (gwN s p 1))),(10,.d (pI (gwN s (p + 1) 1))),(47,.d (pB (decide (gwN s p 1 = 9 /\ gwN s (p + 1) 1 = 4))))] /\ st.bx = [[pS s,pI left],fV 0 0 0 []] /\ st.nt = n1 /\ st.live = l1) ?_ ?_
 ·refine mw_ops ?_
  first | refine pm ?_ | refine pq ?_
  by_cases c1:gwN s p 1 = 9
  ·refine po_yes rfl rfl (decide_eq_true c1) ?_
   iterate 2 (first | refine pm ?_ | refine pq ?_)
   refine po_b rfl rfl (fun b2 hb2 => ?_)
   repeat' (first | refine pm ?_ | refine pq ?_ | refine px ?_ | refine po_zero ?_ | refine po_nil ?_)
   refine ⟨⟨rfl,rfl,rfl,rfl,rfl,rfl,?_,trivial⟩,rfl,rfl,rfl⟩
   have:decide (gwN s p 1 = 9 /\ gwN s (p + 1) 1 = 4) = b2:=by rw [hb2]; exact decide_eq_decide.2 ⟨fun h => h.2,fun h => ⟨c1,h⟩⟩
   rw [this]; rfl
  ·refine po_no rfl rfl (decide_eq_false c1) ?_
   first | refine pm ?_ | refine pq ?_
   iterate 2 (refine po_skip rfl ?_)
   repeat' (first | refine pm ?_ | refine pq ?_ | refine px ?_ | refine po_zero ?_ | refine po_nil ?_)
   exact ⟨⟨rfl,rfl,rfl,rfl,rfl,rfl,by rw [decide_eq_false (fun h => c1 h.1)]; rfl,trivial⟩,rfl,rfl,rfl⟩
 rintro tm bx n2 l2 ⟨ht,rfl,rfl,rfl⟩
 obtain ⟨tm1,rfl⟩:=has_ups ht
 clear ht
 refine mw_cd0 (p:=gwN s p 1 = 9 /\ gwN s (p + 1) 1 = 4) rfl (fun hc => ?_) (fun hc => ?_)
 ·refine mw_seq (mw_ops ?_)
  iterate 5 (first | refine pm ?_ | refine pq ?_)
  refine po_add (n:=((p + 2:Nat):Int)) rfl rfl rfl (by omega) (by omega) ?_
  refine po_call (args:=[.d (pS s),.d (pI ((p + 2:Nat):Int)),.d (pI ((1:Nat):Int))]) rfl (hgw (p + 2) 1 (by decide) (by omega)) ?_
  repeat' (first | refine pm ?_ | refine pq ?_ | refine px ?_ | refine po_zero ?_ | refine po_nil ?_)
  refine mw_seq (mw_ops ?_)
  iterate 5 (first | refine pm ?_ | refine pq ?_)
  refine po_add (n:=((p + 3:Nat):Int)) rfl rfl rfl (by omega) (by omega) ?_
  refine po_call (args:=[.d (pS s),.d (pI ((p + 3:Nat):Int)),.d (pI ((8:Nat):Int))]) rfl (hgw (p + 3) 8 (by decide) (by omega)) ?_
  repeat' (first | refine pm ?_ | refine pq ?_ | refine px ?_ | refine po_zero ?_ | refine po_nil ?_)
  by_cases h11:p + 3 + 8 <= s.length
  ·refine mw_seq (mw_seq (mw_ops ?_))
   first | refine pm ?_ | refine pq ?_
   refine po_q (v:=.d (pB false)) rfl (by show some (PV.d (.v (.bool (!decide (p + 2 + 1 <= s.length))))) = _; rw [decide_eq_true (by omega)]; rfl) ?_
   iterate 2 (first | refine pm ?_ | refine pq ?_)
   refine po_q (v:=.d (pB false)) rfl (by show some (PV.d (.v (.bool (!decide (p + 3 + 8 <= s.length))))) = _; rw [decide_eq_true h11]; rfl) ?_
   repeat' (first | refine pm ?_ | refine pq ?_ | refine px ?_ | refine po_zero ?_ | refine po_nil ?_)
   refine mwF ?_
   refine mw_skip ?_
   refine mw_seq (mw_ops ?_)
   rw [gwz_ok (show p + 2 + 1 <= s.length by omega),gwz_ok h11]
   iterate 2 (first | refine pm ?_ | refine pq ?_)
   refine po_call (args:=[.d (pI (gwN s (p + 2) 1)),.d (pI ((1:Nat):Int))]) rfl (sgn_fn (gwN s (p + 2) 1) 1 (by decide)) ?_
   iterate 2 (first | refine pm ?_ | refine pq ?_)
   refine po_add (n:=((p + 11:Nat):Int)) rfl rfl rfl (by omega) (by omega) ?_
   refine po_stw (p:=1) (cs:=fV 4 (gwN s (p + 3) 8) (sgw (gwN s (p + 2) 1) 1) []) rfl rfl rfl rfl rfl rfl ?_
   repeat' (first | refine pm ?_ | refine pq ?_ | refine px ?_ | refine po_zero ?_ | refine po_nil ?_)
   have hsg:i64ok (sgw (gwN s (p + 2) 1) 1):=by
    have:=gwN_small s (p + 2) 1 (by decide)
    unfold sgw i64ok
    rw [if_pos (by decide),show ((256 ^ 1:Nat):Int) = 256 from rfl,show ((256 ^ 1 / 2:Nat):Int) = 128 from rfl]
    split <;> omega
   refine mw_ret ⟨.inr rfl,[.ag (fV 4 (gwN s (p + 3) 8) (sgw (gwN s (p + 2) 1) 1) []),.d (pI ((p + 11:Nat):Int))],rfl,_,_,rfl,lw_res (fV_new _ _ _ _ n2 n2) _,lw_box s left,left,rfl,_,_,rfl,rfl,fV_new _ _ _ _ _ _,(fun t ht => by rw [fV_tok] at ht; cases ht),fun t ht _ _ => ht,Nat.le_refl _,by omega,.inr ⟨p + 11,.mk 4 (gwN s (p + 3) 8) (sgw (gwN s (p + 2) 1) 1) [] [],rfl,rfl,⟨by unfold i64ok; omega,gwN_ok _ _ _,hsg,by unfold strok; simp,by simp,trivial⟩,by omega,by omega,by simp [V.bulk,V.bulks],hl0⟩,fun v t0 h1 h2 h3 h4 h5 => ?_⟩
   rcases top199 h4 with ⟨n,e,he,hn,rfl,rfl⟩ | ⟨m,kid,hm,rfl,rfl⟩
   ·obtain ⟨q1,q2,q3,q4,q5⟩:=at_dec hp h5 he (by unfold i64ok; omega)
    refine ⟨?_,?_,?_⟩
    ·simp [be_length]
    ·rw [q4,q5]; rfl
    ·simp [V.nodes,V.nodess]
   ·have:=(at_tag hp h5 hm).2.1; omega
  ·refine mw_seq ?_
   refine mw_cut (fun st => has st.tm [(0,.ref 0 0),(6,.ref 1 0),(79,.d (pB true))] /\ st.bx = [[pS s,pI left],fV 0 0 0 []] /\ st.nt = n2 /\ st.live = l2) ?_ ?_
   ·refine mw_ops ?_
    first | refine pm ?_ | refine pq ?_
    refine po_b rfl rfl (fun a1 ha1 => ?_)
    first | refine pm ?_ | refine pq ?_
    cases a1 with
    | true =>
     iterate 2 (refine po_skip rfl ?_)
     repeat' (first | refine pm ?_ | refine pq ?_ | refine px ?_ | refine po_zero ?_ | refine po_nil ?_)
     exact ⟨⟨rfl,rfl,rfl,trivial⟩,rfl,rfl,rfl⟩
    | false =>
     first | refine pm ?_ | refine pq ?_
     refine po_q (v:=.d (pB true)) rfl (by show some (PV.d (.v (.bool (!decide (p + 3 + 8 <= s.length))))) = _; rw [decide_eq_false h11]; rfl) ?_
     repeat' (first | refine pm ?_ | refine pq ?_ | refine px ?_ | refine po_zero ?_ | refine po_nil ?_)
     exact ⟨⟨rfl,rfl,rfl,trivial⟩,rfl,rfl,rfl⟩
   rintro tm bx n1 l1 ⟨ht,rfl,rfl,rfl⟩
   obtain ⟨tm0,rfl⟩:=has_ups ht
   refine mwT ?_
   refine mw_seq (mw_ops ?_)
   first | refine pm ?_ | refine pq ?_
   refine po_stw (p:=1) (cs:=fV 0 0 0 []) rfl rfl rfl rfl rfl rfl ?_
   repeat' (first | refine pm ?_ | refine pq ?_ | refine px ?_ | refine po_zero ?_ | refine po_nil ?_)
   refine mw_ret ⟨.inr rfl,[.ag (fV 0 0 0 []),.d (pI (-1))],rfl,_,_,rfl,lw_res (fV_new _ _ _ _ n1 n1) _,lw_box s left,left,rfl,gotX_fail hl0 (fun v t0 h1 h2 h3 h4 h5 => ?_) _ _ _ _⟩
   rcases top199 h4 with ⟨n,e,he,hn,rfl,rfl⟩ | ⟨m,kid,hm,rfl,rfl⟩
   ·have:=(at_dec hp h5 he (by unfold i64ok; omega)).1; omega
   ·have:=(at_tag hp h5 hm).2.1; omega
 refine mw_at (fun st => has st.tm [(0,.ref 0 0),(1,.d (pI p)),(2,.d (pI d)),(6,.ref 1 0),(8,.d (pI (gwN s p 1))),(10,.d (pI (gwN s (p + 1) 1)))] /\ st.bx = [[pS s,pI left],fV 0 0 0 []] /\ st.nt = n2 /\ st.live = l2) ⟨⟨rfl,rfl,rfl,rfl,rfl,rfl,trivial⟩,rfl,rfl,rfl⟩ (fun tm bx n1 l1 hh => ?_)
 obtain ⟨ht,hbx,hn,hlv⟩:=hh
 obtain ⟨tm2,rfl⟩:=has_ups ht
 simp only at hbx hn hlv; subst hbx; subst hn; subst hlv
 clear ht
 refine mw_cut (fun st => has st.tm [(0,.ref 0 0),(1,.d (pI p)),(2,.d (pI d)),(6,.ref 1 0),(87,.d (pB (decide (gwN s p 1 = 4 /\ gwN s (p + 1) 1 = 6))))] /\ st.bx = [[pS s,pI left],fV 0 0 0 []] /\ st.nt = n1 /\ st.live = l1) ?_ ?_
 ·refine mw_ops ?_
  first | refine pm ?_ | refine pq ?_
  by_cases c1:gwN s p 1 = 4
  ·refine po_yes rfl rfl (decide_eq_true c1) ?_
   iterate 2 (first | refine pm ?_ | refine pq ?_)
   refine po_b rfl rfl (fun b2 hb2 => ?_)
   repeat' (first | refine pm ?_ | refine pq ?_ | refine px ?_ | refine po_zero ?_ | refine po_nil ?_)
   refine ⟨⟨rfl,rfl,rfl,rfl,?_,trivial⟩,rfl,rfl,rfl⟩
   have:decide (gwN s p 1 = 4 /\ gwN s (p + 1) 1 = 6) = b2:=by rw [hb2]; exact decide_eq_decide.2 ⟨fun h => h.2,fun h => ⟨c1,h⟩⟩
   rw [this]; rfl
  ·refine po_no rfl rfl (decide_eq_false c1) ?_
   first | refine pm ?_ | refine pq ?_
   iterate 2 (refine po_skip rfl ?_)
   repeat' (first | refine pm ?_ | refine pq ?_ | refine px ?_ | refine po_zero ?_ | refine po_nil ?_)
   exact ⟨⟨rfl,rfl,rfl,rfl,by rw [decide_eq_false (fun h => c1 h.1)]; rfl,trivial⟩,rfl,rfl,rfl⟩
 rintro tm bx n2 l2 ⟨ht,rfl,rfl,rfl⟩
 obtain ⟨tm3,rfl⟩:=has_ups ht
 clear ht
 refine mw_cd0 (p:=gwN s p 1 = 4 /\ gwN s (p + 1) 1 = 6) rfl (fun hc6 => ?_) (fun hc6 => ?_)
 ·refine mw_seq (mw_ops ?_)
  iterate 5 (first | refine pm ?_ | refine pq ?_)
  refine po_add (n:=((p + 2:Nat):Int)) rfl rfl rfl (by omega) (by omega) ?_
  refine po_call (args:=[.d (pS s),.d (pI ((p + 2:Nat):Int)),.d (pI ((4:Nat):Int))]) rfl (hgw (p + 2) 4 (by decide) (by omega)) ?_
  repeat' (first | refine pm ?_ | refine pq ?_ | refine px ?_ | refine po_zero ?_ | refine po_nil ?_)
  by_cases h6:p + 2 + 4 <= s.length
  ·refine mw_seq (mw_seq (mw_ops ?_))
   first | refine pm ?_ | refine pq ?_
   refine po_q (v:=.d (pB false)) rfl (by show some (PV.d (.v (.bool (!decide (p + 2 + 4 <= s.length))))) = _; rw [decide_eq_true h6]; rfl) ?_
   repeat' (first | refine pm ?_ | refine pq ?_ | refine px ?_ | refine po_zero ?_ | refine po_nil ?_)
   refine mwF ?_
   refine mw_skip ?_
   refine mw_seq (mw_ops ?_)
   rw [gwz_ok h6]
   iterate 2 (first | refine pm ?_ | refine pq ?_)
   refine po_add (n:=((p + 6:Nat):Int)) rfl rfl rfl (by omega) (by omega) ?_
   first | refine pm ?_ | refine pq ?_
   refine po_g rfl (FnG.lift1 (p:=0) (hK (p + 6) left 9 1 true n2 l2 (fun _ => by omega) (by omega) hl0 hl hnt (by omega) (by unfold i64ok; omega)) ⟨trivial,trivial,trivial,trivial,trivial,trivial⟩ (lw_box s left) rfl) ?_
   rintro x _ n3 l3 ⟨c',rfl,left2,rfl,cs,next,rfl,hc5,hnew,hctk,hlv2,hn2,hl3,hres,hcomp⟩
   iterate 3 (first | refine pm ?_ | refine pq ?_)
   refine po_nw (cs:=cs) rfl hc5 rfl rfl ?_
   first | refine pm ?_ | refine pq ?_
   refine po_nil ?_
   refine mw_seq (mw_ops ?_)
   iterate 2 (first | refine pm ?_ | refine pq ?_)
   obtain ⟨a0,a1,a2,a3,a4,rfl⟩:=five hc5
   refine po_store (p:=2) (o':=1) (cs:=[pI (gwN s (p + 2) 4)]) (z:=[a0,a1,a2,a3,a4]) rfl rfl rfl ⟨rfl,Nat.le_of_ble_eq_true rfl⟩ rfl ?_
   refine po_nil ?_
   refine mw_seq (mw_ops ?_)
   refine po_ldw (p:=2) (cs:=[a0,pI (gwN s (p + 2) 4),a2,a3,a4]) rfl rfl rfl rfl ?_
   first | refine pm ?_ | refine pq ?_
   refine po_stw (p:=1) (cs:=[a0,pI (gwN s (p + 2) 4),a2,a3,a4]) rfl rfl rfl rfl rfl rfl ?_
   repeat' (first | refine pm ?_ | refine pq ?_ | refine px ?_ | refine po_zero ?_ | refine po_nil ?_)
   have hN:=new_num hnew (pI (gwN s (p + 2) 4)) rfl rfl
   refine mw_ret ⟨.inr rfl,[.ag [a0,pI (gwN s (p + 2) 4),a2,a3,a4],.d (pI next)],rfl,_,_,rfl,lw_res hN.1 _,lw_box s left2,left2,rfl,_,_,rfl,rfl,hN.1,fun t ht => hctk t (hN.2 t ht),hlv2,hn2,hl3,?_,fun v t0 h1 h2 h3 h4 h5 => ?_⟩
   ·rcases hres with h | ⟨j,vs,rfl,he,hvw,hv1,_,hj1,hj2,hvb,hl4,_⟩
    ·exact .inl h
    ·refine .inr ⟨j,.mk 9 (gwN s (p + 2) 4) 0 [] vs,rfl,er_num he _,⟨by unfold i64ok; omega,gwN_ok _ _ _,by unfold i64ok; omega,by unfold strok; simp,by omega,hvw⟩,by omega,hj2,by simp only [V.bulk,List.length_nil]; omega,hl4⟩
   ·rcases top199 h4 with ⟨n,e,he,hn,rfl,rfl⟩ | ⟨m,kid,hm,rfl,rfl⟩
    ·have:=(at_dec hp h5 he (by unfold i64ok; omega)).2.1; omega
    ·obtain ⟨q1,q2,q3,q4,q5⟩:=at_tag hp h5 hm
     have h2':=h2
     simp only [V.rightBy,Bool.and_eq_true] at h2'
     obtain ⟨r1,r2,r3⟩:=hcomp [kid] ⟨h1.2.2.2.2.2.1,trivial⟩ h2'.1 (by simp only [V.nodes,V.nodess] at h3 ⊢; omega) rfl rfl (by simpa [msgs] using q5)
     refine ⟨?_,?_,?_⟩
     ·rw [r1]; simp [msgs,be_length]; omega
     ·rw [q4]; exact er_num r2 _
     ·rw [r3]; simp only [V.nodes,V.nodess]; omega
  ·refine mw_seq (mw_seq (mw_ops ?_))
   first | refine pm ?_ | refine pq ?_
   refine po_q (v:=.d (pB true)) rfl (by show some (PV.d (.v (.bool (!decide (p + 2 + 4 <= s.length))))) = _; rw [decide_eq_false h6]; rfl) ?_
   repeat' (first | refine pm ?_ | refine pq ?_ | refine px ?_ | refine po_zero ?_ | refine po_nil ?_)
   refine mwT ?_
   refine mw_seq (mw_ops ?_)
   first | refine pm ?_ | refine pq ?_
   refine po_stw (p:=1) (cs:=fV 0 0 0 []) rfl rfl rfl rfl rfl rfl ?_
   repeat' (first | refine pm ?_ | refine pq ?_ | refine px ?_ | refine po_zero ?_ | refine po_nil ?_)
   refine mw_ret ⟨.inr rfl,[.ag (fV 0 0 0 []),.d (pI (-1))],rfl,_,_,rfl,lw_res (fV_new _ _ _ _ n2 n2) _,lw_box s left,left,rfl,gotX_fail hl0 (fun v t0 h1 h2 h3 h4 h5 => ?_) _ _ _ _⟩
   rcases top199 h4 with ⟨n,e,he,hn,rfl,rfl⟩ | ⟨m,kid,hm,rfl,rfl⟩
   ·have:=(at_dec hp h5 he (by unfold i64ok; omega)).2.1; omega
   ·have:=(at_tag hp h5 hm).1; omega
 ·refine mw_skip ?_
  refine mw_seq (mw_ops ?_)
  first | refine pm ?_ | refine pq ?_
  refine po_stw (p:=1) (cs:=fV 0 0 0 []) rfl rfl rfl rfl rfl rfl ?_
  repeat' (first | refine pm ?_ | refine pq ?_ | refine px ?_ | refine po_zero ?_ | refine po_nil ?_)
  refine mw_ret ⟨.inr rfl,[.ag (fV 0 0 0 []),.d (pI (-1))],rfl,_,_,rfl,lw_res (fV_new _ _ _ _ n2 n2) _,lw_box s left,left,rfl,gotX_fail hl0 (fun v t0 h1 h2 h3 h4 h5 => ?_) _ _ _ _⟩
  rcases top199 h4 with ⟨n,e,he,hn,rfl,rfl⟩ | ⟨m,kid,hm,rfl,rfl⟩
  ·have:=at_dec hp h5 he (by unfold i64ok; omega); exact hc ⟨this.2.1,this.2.2.1⟩
  ·have:=at_tag hp h5 hm; exact hc6 ⟨this.2.1,this.2.2.1⟩
end
/- PvGot -/
section
open Go.RowKit
def HdC (s:List UInt8) (d left:Int) (i bb:Nat):Prop:=∀ v:V,v.wf -> v.rightBy pairsOk (12 - d) = true -> (v.nodes:Int) <= left -> At s i (msg v) -> ∃ t0,MsgTop v bb t0 /\ At s (i + 1) t0 /\ (msg v).length = 1 + t0.length
theorem hdC {s:List UInt8} {d left:Int} {i:Nat} (hl:left <= 300) (hi:i < s.length):HdC s d left i s[i].toNat:=by
 intro v hw hr hn hA
 obtain ⟨b,t0,hM,hb,he⟩:=msg_top hr (by
  obtain ⟨k,n,e,x,kids⟩:=v
  have:=V.kids_nodes kids
  simp only [V.nodes] at hn
  show kids.length <= 300
  omega) (by obtain ⟨k,n,e,x,kids⟩:=v; exact hw.2.1)
 rw [he] at hA
 have h1:=hA.cons
 rw [List.getElem?_eq_getElem hi] at h1
 have hbb:s[i].toNat = b:=by
  have:=Option.some.inj h1.1
  rw [this,byteOf_id hb]
 rw [hbb,he]
 exact ⟨t0,hM,h1.2,by simp only [List.length_cons]; omega⟩
theorem gotV_fail {s:List UInt8} {d left left':Int} {i bb nt nt':Nat} {live live':List Nat} (HC:HdC s d left i bb) (hn:nt <= nt') (hlv:∀ t ∈ live,2 <= t -> t < nt -> t ∈ live') (hl:-1 <= left' /\ left' <= left)
  (hc:∀ (v:V) (t0:List UInt8),v.wf -> MsgTop v bb t0 -> ¬ At s (i + 1) t0) (k n e:Int) (t:List UInt8):GotV s d left i nt live (.tup [.ag (fV k n e t),.d (pI (-1))]) left' nt' live' :=
 ⟨_,_,rfl,rfl,fV_new _ _ _ _ _ _,(fun t ht => by rw [fV_tok] at ht; cases ht),hlv,hn,hl,.inl rfl,fun v h1 h2 h3 h4 => by
  obtain ⟨t0,q1,q2,_⟩:=HC v h1 h2 h3 h4
  exact absurd q2 (hc v t0 h1 q1)⟩
theorem gotV_leaf {s:List UInt8} {d left:Int} {i bb j nt nt':Nat} {live live':List Nat} {cs:List PC} {u:V} (HC:HdC s d left i bb) (he:erL cs = vC u) (h5:cs.length = 5) (ho:ownedL cs = true) (ht:toksL cs = []) (hk:u.nodes = 1) (hw:u.wf) (hj:i < j /\ j <= s.length) (hb:u.bulk + 1 <= 2 * (j - i)) (hl:1 <= left) (hn:nt <= nt') (hlv:∀ t ∈ live,2 <= t -> t < nt -> t ∈ live')
  (hc:∀ (v:V) (t0:List UInt8),v.wf -> MsgTop v bb t0 -> At s (i + 1) t0 -> v = u /\ j = i + 1 + t0.length):GotV s d left i nt live (.tup [.ag cs,.d (pI j)]) (left - 1) nt' live' :=
 ⟨_,_,rfl,h5,⟨ho,by rw [ht]; exact List.nodup_nil,fun t h => by rw [ht] at h; cases h⟩,(fun t h => by rw [ht] at h; cases h),hlv,hn,by omega,.inr ⟨j,u,rfl,he,hw,hj.1,hj.2,hb,by omega⟩,fun v h1 h2 h3 h4 => by
  obtain ⟨t0,q1,q2,q3⟩:=HC v h1 h2 h3 h4
  obtain ⟨rfl,q4⟩:=hc v t0 h1 q1 q2
  exact ⟨by rw [q3,q4]; congr 1; omega,he,by rw [hk]; rfl⟩⟩
theorem gotV_kids {s:List UInt8} {d left left' kind many:Int} {ok:Bool} {i bb i2 c nt nt':Nat} {live live':List Nat} {x:PV} (hs:s.length <= 2147483647) (HC:HdC s d left i bb) (hi2:i2 = i + 1 + c) (hkind:i64ok kind) (hG:GotK s d (left - 1) kind many ok i2 nt live x left' nt' live')
  (hc:∀ (v:V) (t0:List UInt8),v.wf -> MsgTop v bb t0 -> At s (i + 1) t0 -> ∃ us,v = .mk kind 0 0 [] us /\ (us.length:Int) = many /\ At s i2 (msgs us) /\ t0.length = c + (msgs us).length /\ ok = true):GotV s d left i nt live x left' nt' live':=by
 obtain ⟨cs,next,rfl,h5,hN,hct,hlv,hn,hl,hres,hcomp⟩:=hG
 refine ⟨cs,next,rfl,h5,hN,hct,hlv,hn,by omega,?_,fun v h1 h2 h3 h4 => ?_⟩
 ·rcases hres with h | ⟨j,vs,rfl,he,hvw,hv1,hv2,hj1,hj2,hvb,hl4,_⟩
  ·exact .inl h
  ·exact .inr ⟨j,_,rfl,he,⟨hkind,by unfold i64ok; omega,by unfold i64ok; omega,by unfold strok; simp,by omega,hvw⟩,by omega,hj2,by simp only [V.bulk,List.length_nil]; omega,hl4⟩
 ·obtain ⟨t0,q1,q2,q3⟩:=HC v h1 h2 h3 h4
  obtain ⟨us,rfl,e2,e3,e4,e5⟩:=hc v t0 h1 q1 q2
  simp only [V.rightBy,Bool.and_eq_true] at h2
  obtain ⟨r1,r2,r3⟩:=hcomp us h1.2.2.2.2.2 h2.1 (by simp only [V.nodes] at h3; omega) e2 e5 e3
  exact ⟨by rw [r1,q3,e4,hi2]; congr 1; omega,r2,by rw [r3]; simp only [V.nodes]; omega⟩
theorem gotV_str {s:List UInt8} {d left kind:Int} {ok:Bool} {i bb i2 c many nt:Nat} {live:List Nat} (hs:s.length <= 2147483647) (HC:HdC s d left i bb) (hi2:i2 = i + 1 + c) (hkind:i64ok kind) (hl:1 <= left)
  (hc:∀ (v:V) (t0:List UInt8),v.wf -> MsgTop v bb t0 -> At s (i + 1) t0 -> ∃ tx,v = .mk kind 0 0 tx [] /\ tx.length = many /\ At s i2 tx /\ t0.length = c + tx.length /\ ok = true) (hi:i < s.length) (hok:ok = true -> i2 <= s.length):GotV s d left i nt live (strV s i2 kind many ok) (left - 1) nt live:=by
 unfold strV
 by_cases h:ok = true /\ (many:Int) <= s.length - i2
 ·rw [if_pos h]
  have h2:=hok h.1
  have hlen:((s.drop i2).take many).length = many:=by rw [List.length_take,List.length_drop]; omega
  refine gotV_leaf HC (fV_er kind 0 0 _) rfl rfl (fV_tok _ _ _ _) (by simp [V.nodes,V.nodess]) ⟨hkind,by unfold i64ok; omega,by unfold i64ok; omega,by unfold strok; omega,by simp,trivial⟩ (by omega) (by simp only [V.bulk,V.bulks,List.length_nil]; omega) hl (Nat.le_refl _) (fun t ht _ _ => ht) fun v t0 h1 h3 h4 => ?_
  obtain ⟨tx,rfl,e2,e3,e4,_⟩:=hc v t0 h1 h3 h4
  have:=e3.take
  rw [e2] at this
  exact ⟨by rw [this],by omega⟩
 ·rw [if_neg h]
  refine gotV_fail HC (Nat.le_refl _) (fun t ht _ _ => ht) (by omega) (fun v t0 h1 h3 h4 => ?_) _ _ _ _
  obtain ⟨tx,rfl,e2,e3,e4,e5⟩:=hc v t0 h1 h3 h4
  have h2:=hok e5
  have:=e3.len h2
  exact h ⟨e5,by omega⟩
theorem gotV_ext {s:List UInt8} {d left left':Int} {i nt nt':Nat} {live live':List Nat} {x:PV} (HC:HdC s d left i 199) (hG:GotX s d (left - 1) (i + 1) nt live x left' nt' live'):GotV s d left i nt live x left' nt' live':=by
 obtain ⟨cs,next,rfl,h5,hN,hct,hlv,hn,hl,hres,hcomp⟩:=hG
 refine ⟨cs,next,rfl,h5,hN,hct,hlv,hn,by omega,?_,fun v h1 h2 h3 h4 => ?_⟩
 ·rcases hres with h | ⟨j,u,rfl,he,hvw,hj1,hj2,hvb,hl4⟩
  ·exact .inl h
  ·exact .inr ⟨j,_,rfl,he,hvw,by omega,hj2,by omega,hl4⟩
 ·obtain ⟨t0,q1,q2,q3⟩:=HC v h1 h2 h3 h4
  obtain ⟨r1,r2,r3⟩:=hcomp v t0 h1 h2 (by omega) q1 q2
  exact ⟨by rw [r1,q3]; congr 1; omega,r2,by omega⟩
theorem wide_num (s:List UInt8) (i b:Nat):i64ok (wideN s i b):=by
 unfold wideN
 have h0:=gwN_ok s i (2 ^ (b % 4))
 split
 ·unfold sgw
  split
  ·rename_i h
   have hp:=pow256_le (k:=2 ^ (b % 4)) h.2
   have h1:=Int.emod_nonneg (gwN s i (2 ^ (b % 4))) (show ((256 ^ 2 ^ (b % 4):Nat):Int) ≠ 0 by omega)
   have h2:=Int.emod_lt_of_pos (gwN s i (2 ^ (b % 4))) (show (0:Int) < ((256 ^ 2 ^ (b % 4):Nat):Int) by omega)
   unfold i64ok
   split <;> omega
  ·exact h0
 ·exact h0
theorem gotV_wide {s:List UInt8} {d left:Int} {i bb nt:Nat} {live:List Nat} (HC:HdC s d left i bb) (hb:204 <= bb /\ bb <= 211) (hl:1 <= left) (hi:i < s.length):GotV s d left i nt live (wideV s (i + 1) bb) (left - 1) (nt + 1) (nt :: live):=by
 have key:∀ (v:V) (t0:List UInt8),v.wf -> MsgTop v bb t0 -> At s (i + 1) t0 -> v = .mk 3 (wideN s (i + 1) bb) 0 [] [] /\ t0.length = 2 ^ (bb % 4):=by
  intro v t0 hw hM hA
  cases hM with
  | uint j hj n h =>
   have e:(204 + j) % 4 = j:=by omega
   unfold wideN
   rw [e,if_neg (by omega),hA.gw_id h.1 h.2]
   exact ⟨rfl,by rw [be_length]⟩
  | sint j hj n h =>
   have e:(208 + j) % 4 = j:=by omega
   unfold wideN
   rw [e,if_pos (by omega),hA.gw]
   have hj':2 ^ j = 1 \/ 2 ^ j = 2 \/ 2 ^ j = 4 \/ 2 ^ j = 8:=by
    have:j = 0 \/ j = 1 \/ j = 2 \/ j = 3:=by omega
    rcases this with rfl | rfl | rfl | rfl <;> decide
   rw [sgw_read n (2 ^ j) hj' ⟨h.2,by have:=Nat.pow_pos (n:=8 * 2 ^ j - 1) (show 0 < 2 by decide); omega⟩]
   exact ⟨rfl,by rw [be_length]⟩
  | _ => exfalso; omega
 unfold wideV
 by_cases h:i + 1 + 2 ^ (bb % 4) <= s.length
 ·rw [if_pos h]
  have:=(pow24 bb).1
  refine gotV_leaf HC (vC_er _) rfl rfl rfl (by simp [V.nodes,V.nodess]) ⟨by unfold i64ok; omega,wide_num _ _ _,by unfold i64ok; omega,by unfold strok; simp,by simp,trivial⟩ (by omega) (by simp only [V.bulk,V.bulks,List.length_nil]; omega) hl (Nat.le_succ _) (fun t ht _ _ => List.mem_cons_of_mem _ ht) fun v t0 h1 h3 h4 => ?_
  obtain ⟨k1,k2⟩:=key v t0 h1 h3 h4
  exact ⟨k1,by rw [k2]⟩
 ·rw [if_neg h]
  refine gotV_fail HC (Nat.le_succ _) (fun t ht _ _ => List.mem_cons_of_mem _ ht) (by omega) (fun v t0 h1 h3 h4 => ?_) _ _ _ _
  have:=(key v t0 h1 h3 h4).2
  have:=h4.len (by omega)
  omega
end
/- PvG8 -/
section
open Go.RowKit
variable {T:World -> Prop} {hT:Low ngl T}
attribute [local irreducible] po mw pt
def GetR (s:List UInt8) (d left:Int) (i nt:Nat) (live:List Nat) (x:PV) (b:List (List PC)) (n:Nat) (l:List Nat):Prop:=∃ c' rest,b = c' :: rest /\ x.lw 0 /\ lwL 0 c' /\ ∃ left',c' = [pS s,pI left'] /\ GotV s d left i nt live x left' n l
theorem getR_of {s:List UInt8} {d left left' next:Int} {i nt n:Nat} {live l:List Nat} {cs:List PC} {rest:List (List PC)} (h:GotV s d left i nt live (.tup [.ag cs,.d (pI next)]) left' n l):GetR s d left i nt live (.tup [.ag cs,.d (pI next)]) ([pS s,pI left'] :: rest) n l:=by
 refine ⟨_,_,rfl,?_,lw_box s left',left',rfl,h⟩
 obtain ⟨cs',next',e,_,hN,_⟩:=h
 simp only [PV.tup.injEq,List.cons.injEq,PV.ag.injEq,and_true] at e
 obtain ⟨rfl,_⟩:=e
 exact lw_res hN _
set_option maxHeartbeats 4000000 in
theorem get_g {s:List UInt8} (hs:s.length <= 2147483647) {d:Int} (hd:0 <= d /\ d <= 13) (hK:d <= 12 -> KidsG T hT s d):GetG T hT s d:=by
 intro i left nt live hi hl0 hl hnt
 have hgw:∀ (i k:Nat),1 <= k /\ k <= 8 -> i <= 4611686018427387904 -> FnV (env T hT) 209 [.d (pS s),.d (pI i),.d (pI k)] (.tup [.d (pI (gwz s i k)),.d (pB (decide (i + k <= s.length)))]):=fun i k hk hi => by
  rw [<- gwV_eq]; exact getw_fn s i k hk hi (by omega)
 refine fng_of (R:=GetR s d left i nt live) (look_env lk_s_l06Get) (by show 3 <= 211; decide) fun B hB => ?_
 unfold m_s_l06Get
 refine mw_seq (mw_ops ?_)
 repeat' (first | refine pm ?_ | refine pq ?_ | refine px ?_ | refine po_zero ?_ | refine po_nil ?_)
 refine mw_seq (mw_ops ?_)
 iterate 4 (first | refine pm ?_ | refine pq ?_)
 refine po_sub (n:=left - 1) rfl rfl rfl rfl (by omega) ?_
 iterate 2 (first | refine pm ?_ | refine pq ?_)
 refine po_store (p:=0) (o':=1) (cs:=[pI (left - 1)]) (z:=[pS s,pI left]) rfl rfl rfl ⟨rfl,Nat.le_of_ble_eq_true rfl⟩ rfl ?_
 refine po_nil ?_
 refine mw_seq ?_
 refine mw_cut (fun st => has st.tm [(0,.ref 0 0),(1,.d (pI i)),(2,.d (pI d)),(6,.ref 1 0),(37,.d (pB (decide (left = 0 \/ d > 12 \/ i ≥ s.length))))] /\ st.bx = [[pS s,pI (left - 1)],fV 0 0 0 []] /\ st.nt = nt /\ st.live = live) ?_ ?_
 ·refine mw_ops ?_
  iterate 4 (first | refine pm ?_ | refine pq ?_)
  by_cases c1:left = 0
  ·refine po_yes rfl rfl (decide_eq_true (show left - 1 < 0 by omega)) ?_
   first | refine pm ?_ | refine pq ?_
   iterate 2 (refine po_skip rfl ?_)
   iterate 2 (first | refine pm ?_ | refine pq ?_)
   iterate 7 (refine po_skip rfl ?_)
   repeat' (first | refine pm ?_ | refine pq ?_ | refine px ?_ | refine po_zero ?_ | refine po_nil ?_)
   exact ⟨⟨rfl,rfl,rfl,rfl,by rw [decide_eq_true (.inl c1)]; rfl,trivial⟩,rfl,rfl,rfl⟩
  refine po_no rfl rfl (decide_eq_false (show ¬ left - 1 < 0 by omega)) ?_
  iterate 2 (first | refine pm ?_ | refine pq ?_)
  by_cases c2:d > 12
  ·refine po_yes rfl rfl (decide_eq_true c2) ?_
   iterate 2 (first | refine pm ?_ | refine pq ?_)
   iterate 7 (refine po_skip rfl ?_)
   repeat' (first | refine pm ?_ | refine pq ?_ | refine px ?_ | refine po_zero ?_ | refine po_nil ?_)
   exact ⟨⟨rfl,rfl,rfl,rfl,by rw [decide_eq_true (.inr (.inl c2))]; rfl,trivial⟩,rfl,rfl,rfl⟩
  refine po_no rfl rfl (decide_eq_false c2) ?_
  iterate 7 (first | refine pm ?_ | refine pq ?_)
  refine po_q (v:=.d (pI s.length)) rfl rfl ?_
  by_cases c3:i ≥ s.length
  ·refine po_yes rfl rfl (decide_eq_true (show (i:Int) ≥ s.length by omega)) ?_
   repeat' (first | refine pm ?_ | refine pq ?_ | refine px ?_ | refine po_zero ?_ | refine po_nil ?_)
   exact ⟨⟨rfl,rfl,rfl,rfl,by rw [decide_eq_true (.inr (.inr c3))]; rfl,trivial⟩,rfl,rfl,rfl⟩
  ·refine po_no rfl rfl (decide_eq_false (show ¬ (i:Int) ≥ s.length by omega)) ?_
   repeat' (first | refine pm ?_ | refine pq ?_ | refine px ?_ | refine po_zero ?_ | refine po_nil ?_)
   exact ⟨⟨rfl,rfl,rfl,rfl,by rw [decide_eq_false (by omega)]; rfl,trivial⟩,rfl,rfl,rfl⟩
 rintro tm bx n1 l1 ⟨ht,rfl,rfl,rfl⟩
 obtain ⟨tm0,rfl⟩:=has_ups ht
 clear ht
 refine mw_cd0 (p:=left = 0 \/ d > 12 \/ i ≥ s.length) rfl (fun hc => ?_) (fun hc => ?_)
 ·refine mw_seq (mw_ops ?_)
  first | refine pm ?_ | refine pq ?_
  refine po_stw (p:=1) (cs:=fV 0 0 0 []) rfl rfl rfl rfl rfl rfl ?_
  repeat' (first | refine pm ?_ | refine pq ?_ | refine px ?_ | refine po_zero ?_ | refine po_nil ?_)
  refine mw_ret ⟨.inr rfl,[.ag (fV 0 0 0 []),.d (pI (-1))],rfl,getR_of ⟨_,_,rfl,rfl,fV_new _ _ _ _ _ _,(fun t ht => by rw [fV_tok] at ht; cases ht),fun t ht _ _ => ht,Nat.le_refl _,by omega,.inl rfl,fun v h1 h2 h3 h4 => ?_⟩⟩
  exfalso
  have hnp:=v.nodes_pos
  have h2':0 <= 12 - d:=by
   obtain ⟨k,n,e,x,kids⟩:=v
   simp only [V.rightBy,Bool.and_eq_true,decide_eq_true_eq] at h2
   exact h2.2.1
  obtain ⟨b,t0,_,_,he⟩:=msg_top h2 (by
   obtain ⟨k,n,e,x,kids⟩:=v
   have:=V.kids_nodes kids
   simp only [V.nodes] at h3
   show kids.length <= 300
   omega) (by obtain ⟨k,n,e,x,kids⟩:=v; exact h1.2.1)
  rw [he] at h4
  have:=h4.lt
  omega
 refine mw_skip ?_
 have hil:i < s.length:=by omega
 have hl1:1 <= left:=by omega
 have hd12:d <= 12:=by omega
 have hK:=hK hd12
 have HC:=hdC (d:=d) hl hil
 have hbt:=(s[i]).toNat_lt
 refine mw_seq (mw_ops ?_)
 iterate 5 (first | refine pm ?_ | refine pq ?_)
 refine po_ixs (k:=i) rfl rfl rfl rfl (List.getElem?_eq_getElem hil) ?_
 refine po_cv (n:=((s[i]).toNat:Int)) rfl rfl (by rw [IntKind.wrap_i64]; omega) ?_
 repeat' (first | refine pm ?_ | refine pq ?_ | refine px ?_ | refine po_zero ?_ | refine po_nil ?_)
 refine mw_seq (mw_ops ?_)
 first | refine pm ?_ | refine pq ?_
 refine po_add (n:=((i + 1:Nat):Int)) rfl rfl rfl (by omega) (by omega) ?_
 repeat' (first | refine pm ?_ | refine pq ?_ | refine px ?_ | refine po_zero ?_ | refine po_nil ?_)
 generalize s[i].toNat = bb at HC hbt
 refine mw_at (fun st => has st.tm [(0,.ref 0 0),(1,.d (pI ((i + 1:Nat):Int))),(2,.d (pI d)),(6,.ref 1 0),(8,.d (pI bb))] /\ st.bx = [[pS s,pI (left - 1)],fV 0 0 0 []] /\ st.nt = n1 /\ st.live = l1) ⟨⟨rfl,rfl,rfl,rfl,rfl,trivial⟩,rfl,rfl,rfl⟩ (fun tm bx n2 l2 hh => ?_)
 obtain ⟨ht,hbx,hn,hlv⟩:=hh
 obtain ⟨tm1,rfl⟩:=has_ups ht
 simp only at hbx hn hlv; subst hbx; subst hn; subst hlv
 clear ht
 have hz:lwL 0 [pS s,pI (left - 1)]:=lw_box s (left - 1)
 have live0:∀ t ∈ l2,2 <= t -> t < n2 -> t ∈ l2:=fun t ht _ _ => ht
 refine mw_seq (mw_block ?_)
 refine mw_seq (mw_ops ?_)
 first | refine pm ?_ | refine pq ?_
 by_cases k:(bb:Int) < 128
 ·refine po_yes rfl rfl (decide_eq_true k) ?_
  repeat' (first | refine pm ?_ | refine pq ?_ | refine px ?_ | refine po_zero ?_ | refine po_nil ?_)
  refine mwT ?_
  refine mw_seq (mw_ops ?_)
  first | refine pm ?_ | refine pq ?_
  refine po_call rfl (int_fn ((bb:Int))) ?_
  first | refine pm ?_ | refine pq ?_
  refine po_stw (p:=1) (cs:=vC (.mk 3 ((bb:Int)) 0 [] [])) rfl rfl rfl rfl rfl rfl ?_
  repeat' (first | refine pm ?_ | refine pq ?_ | refine px ?_ | refine po_zero ?_ | refine po_nil ?_)
  refine mw_ret ⟨.inr rfl,[.ag (vC (.mk 3 ((bb:Int)) 0 [] [])),.d (pI ((i + 1:Nat):Int))],rfl,getR_of (gotV_leaf HC (vC_er _) rfl rfl rfl (by simp [V.nodes,V.nodess]) ⟨by unfold i64ok; omega,by unfold i64ok; omega,by unfold i64ok; omega,by unfold strok; simp,by simp,trivial⟩ (by omega) (by simp only [V.bulk,V.bulks,List.length_nil]; omega) hl1 (Nat.le_refl _) live0 fun v t0 h1 hM hA => ?_)⟩
  cases hM <;> first | (exfalso; omega) | exact ⟨rfl,rfl⟩
 refine po_no rfl rfl (decide_eq_false k) ?_
 repeat' (first | refine pm ?_ | refine pq ?_ | refine px ?_ | refine po_zero ?_ | refine po_nil ?_)
 refine mwF ?_
 refine mw_seq (mw_ops ?_)
 first | refine pm ?_ | refine pq ?_
 by_cases k:(bb:Int) < 144
 ·refine po_yes rfl rfl (decide_eq_true k) ?_
  repeat' (first | refine pm ?_ | refine pq ?_ | refine px ?_ | refine po_zero ?_ | refine po_nil ?_)
  refine mwT ?_
  refine mw_seq (mw_ops ?_)
  first | refine pm ?_ | refine pq ?_
  first | refine pm ?_ | refine pq ?_
  first | refine pm ?_ | refine pq ?_
  refine po_sub (n:=(bb:Int) - 128) rfl rfl rfl rfl (by omega) ?_
  refine po_mul (n:=2 * ((bb:Int) - 128)) rfl rfl rfl rfl (by omega) ?_
  first | refine pm ?_ | refine pq ?_
  refine po_g rfl (FnG.lift1 (p:=0) (hK (i + 1) (left - 1) 8 (2 * ((bb:Int) - 128)) true n2 l2 (fun _ => by omega) (by omega) (by omega) (by omega) hnt (by omega) (by unfold i64ok; omega)) ⟨trivial,trivial,trivial,trivial,trivial,trivial⟩ hz rfl) ?_
  rintro x _ n3 l3 ⟨c',rfl,left2,rfl,hGK⟩
  have hGV:=gotV_kids (bb:=bb) (c:=0) hs HC (by omega) (by unfold i64ok; omega) hGK (fun v t0 h1 hM hA => by
   cases hM with
   | map n h kids hl => exact ⟨kids,rfl,by omega,hA,by simp,rfl⟩
   | _ => exfalso; omega)
  obtain ⟨cs,next,rfl,hc5,_⟩:=hGK
  iterate 2 (first | refine pm ?_ | refine pq ?_)
  refine po_stw (p:=1) (cs:=cs) rfl rfl rfl hc5 rfl rfl ?_
  repeat' (first | refine pm ?_ | refine pq ?_ | refine px ?_ | refine po_zero ?_ | refine po_nil ?_)
  exact mw_ret ⟨.inr rfl,[.ag cs,.d (pI next)],ress_bt rfl rfl hc5 rfl,getR_of hGV⟩
 refine po_no rfl rfl (decide_eq_false k) ?_
 repeat' (first | refine pm ?_ | refine pq ?_ | refine px ?_ | refine po_zero ?_ | refine po_nil ?_)
 refine mwF ?_
 refine mw_seq (mw_ops ?_)
 first | refine pm ?_ | refine pq ?_
 by_cases k:(bb:Int) < 160
 ·refine po_yes rfl rfl (decide_eq_true k) ?_
  repeat' (first | refine pm ?_ | refine pq ?_ | refine px ?_ | refine po_zero ?_ | refine po_nil ?_)
  refine mwT ?_
  refine mw_seq (mw_ops ?_)
  first | refine pm ?_ | refine pq ?_
  first | refine pm ?_ | refine pq ?_
  first | refine pm ?_ | refine pq ?_
  refine po_sub (n:=(bb:Int) - 144) rfl rfl rfl rfl (by omega) ?_
  first | refine pm ?_ | refine pq ?_
  refine po_g rfl (FnG.lift1 (p:=0) (hK (i + 1) (left - 1) 7 ((bb:Int) - 144) true n2 l2 (fun _ => by omega) (by omega) (by omega) (by omega) hnt (by omega) (by unfold i64ok; omega)) ⟨trivial,trivial,trivial,trivial,trivial,trivial⟩ hz rfl) ?_
  rintro x _ n3 l3 ⟨c',rfl,left2,rfl,hGK⟩
  have hGV:=gotV_kids (bb:=bb) (c:=0) hs HC (by omega) (by unfold i64ok; omega) hGK (fun v t0 h1 hM hA => by
   cases hM with
   | list kids h => exact ⟨kids,rfl,by omega,hA,by simp,rfl⟩
   | _ => exfalso; omega)
  obtain ⟨cs,next,rfl,hc5,_⟩:=hGK
  iterate 2 (first | refine pm ?_ | refine pq ?_)
  refine po_stw (p:=1) (cs:=cs) rfl rfl rfl hc5 rfl rfl ?_
  repeat' (first | refine pm ?_ | refine pq ?_ | refine px ?_ | refine po_zero ?_ | refine po_nil ?_)
  exact mw_ret ⟨.inr rfl,[.ag cs,.d (pI next)],ress_bt rfl rfl hc5 rfl,getR_of hGV⟩
 refine po_no rfl rfl (decide_eq_false k) ?_
 repeat' (first | refine pm ?_ | refine pq ?_ | refine px ?_ | refine po_zero ?_ | refine po_nil ?_)
 refine mwF ?_
 refine mw_seq (mw_ops ?_)
 first | refine pm ?_ | refine pq ?_
 by_cases k:(bb:Int) < 192
 ·refine po_yes rfl rfl (decide_eq_true k) ?_
  repeat' (first | refine pm ?_ | refine pq ?_ | refine px ?_ | refine po_zero ?_ | refine po_nil ?_)
  refine mwT ?_
  refine mw_seq (mw_ops ?_)
  first | refine pm ?_ | refine pq ?_
  first | refine pm ?_ | refine pq ?_
  first | refine pm ?_ | refine pq ?_
  refine po_sub (n:=((bb - 160:Nat):Int)) rfl rfl rfl (by omega) (by omega) ?_
  have hGV:=gotV_str (bb:=bb) (nt:=n2) (live:=l2) (ok:=true) (many:=bb - 160) (i2:=i + 1) (c:=0) (kind:=5) hs HC (by omega) (by unfold i64ok; omega) hl1 (fun v t0 h1 hM hA => by
   cases hM with
   | text tx h => exact ⟨t0,rfl,by omega,hA,by simp,rfl⟩
   | _ => exfalso; omega) hil (fun _ => by omega)
  refine po_g rfl (FnG.lift1 (p:=0) (R:=fun x c' n l => c' = [pS s,pI (left - 1)] /\ n = n2 /\ l = l2 /\ x = strV s (i + 1) 5 (bb - 160) true) (str_g s (left - 1) (i + 1) 5 (bb - 160) true (by omega) (by omega) (by omega) n2 l2) ⟨trivial,trivial,trivial,trivial,trivial⟩ hz rfl) ?_
  rintro x _ _ _ ⟨_,rfl,rfl,rfl,rfl,rfl⟩
  obtain ⟨cs,next,hx,hc5,_⟩:=id hGV
  rw [hx] at hGV ⊢
  iterate 2 (first | refine pm ?_ | refine pq ?_)
  refine po_stw (p:=1) (cs:=cs) rfl rfl rfl hc5 rfl rfl ?_
  repeat' (first | refine pm ?_ | refine pq ?_ | refine px ?_ | refine po_zero ?_ | refine po_nil ?_)
  exact mw_ret ⟨.inr rfl,[.ag cs,.d (pI next)],ress_bt rfl rfl hc5 rfl,getR_of hGV⟩
 refine po_no rfl rfl (decide_eq_false k) ?_
 repeat' (first | refine pm ?_ | refine pq ?_ | refine px ?_ | refine po_zero ?_ | refine po_nil ?_)
 refine mwF ?_
 refine mw_seq (mw_ops ?_)
 first | refine pm ?_ | refine pq ?_
 by_cases k:(bb:Int) ≥ 224
 ·refine po_yes rfl rfl (decide_eq_true k) ?_
  repeat' (first | refine pm ?_ | refine pq ?_ | refine px ?_ | refine po_zero ?_ | refine po_nil ?_)
  refine mwT ?_
  refine mw_seq (mw_ops ?_)
  first | refine pm ?_ | refine pq ?_
  refine po_sub (n:=(bb:Int) - 256) rfl rfl rfl rfl (by omega) ?_
  refine po_call rfl (int_fn ((bb:Int) - 256)) ?_
  first | refine pm ?_ | refine pq ?_
  refine po_stw (p:=1) (cs:=vC (.mk 3 ((bb:Int) - 256) 0 [] [])) rfl rfl rfl rfl rfl rfl ?_
  repeat' (first | refine pm ?_ | refine pq ?_ | refine px ?_ | refine po_zero ?_ | refine po_nil ?_)
  refine mw_ret ⟨.inr rfl,[.ag (vC (.mk 3 ((bb:Int) - 256) 0 [] [])),.d (pI ((i + 1:Nat):Int))],rfl,getR_of (gotV_leaf HC (vC_er _) rfl rfl rfl (by simp [V.nodes,V.nodess]) ⟨by unfold i64ok; omega,by unfold i64ok; omega,by unfold i64ok; omega,by unfold strok; simp,by simp,trivial⟩ (by omega) (by simp only [V.bulk,V.bulks,List.length_nil]; omega) hl1 (Nat.le_refl _) live0 fun v t0 h1 hM hA => ?_)⟩
  cases hM <;> first | (exfalso; omega) | exact ⟨rfl,rfl⟩
 refine po_no rfl rfl (decide_eq_false k) ?_
 repeat' (first | refine pm ?_ | refine pq ?_ | refine px ?_ | refine po_zero ?_ | refine po_nil ?_)
 refine mwF ?_
 refine mw_seq (mw_ops ?_)
 first | refine pm ?_ | refine pq ?_
 by_cases k:(bb:Int) = 192
 ·refine po_yes rfl rfl (decide_eq_true k) ?_
  repeat' (first | refine pm ?_ | refine pq ?_ | refine px ?_ | refine po_zero ?_ | refine po_nil ?_)
  refine mwT ?_
  refine mw_seq (mw_ops ?_)
  first | refine pm ?_ | refine pq ?_
  first | refine pm ?_ | refine pq ?_
  refine po_stw (p:=1) (cs:=fV 0 0 0 []) rfl rfl rfl rfl rfl rfl ?_
  repeat' (first | refine pm ?_ | refine pq ?_ | refine px ?_ | refine po_zero ?_ | refine po_nil ?_)
  refine mw_ret ⟨.inr rfl,[.ag (fV 0 0 0 []),.d (pI ((i + 1:Nat):Int))],rfl,getR_of (gotV_leaf HC (fV_er 0 0 0 []) rfl rfl rfl (by simp [V.nodes,V.nodess]) ⟨by unfold i64ok; omega,by unfold i64ok; omega,by unfold i64ok; omega,by unfold strok; simp,by simp,trivial⟩ (by omega) (by simp only [V.bulk,V.bulks,List.length_nil]; omega) hl1 (Nat.le_refl _) live0 fun v t0 h1 hM hA => ?_)⟩
  cases hM <;> first | (exfalso; omega) | exact ⟨rfl,rfl⟩
 refine po_no rfl rfl (decide_eq_false k) ?_
 repeat' (first | refine pm ?_ | refine pq ?_ | refine px ?_ | refine po_zero ?_ | refine po_nil ?_)
 refine mwF ?_
 refine mw_seq (mw_ops ?_)
 first | refine pm ?_ | refine pq ?_
 by_cases k4:(bb:Int) = 194
 ·refine po_yes rfl rfl (decide_eq_true k4) ?_
  first | refine pm ?_ | refine pq ?_
  iterate 2 (refine po_skip rfl ?_)
  repeat' (first | refine pm ?_ | refine pq ?_ | refine px ?_ | refine po_zero ?_ | refine po_nil ?_)
  refine mwT ?_
  refine mw_seq (mw_ops ?_)
  first | refine pm ?_ | refine pq ?_
  refine po_sub (n:=1) rfl rfl rfl (by omega) (by omega) ?_
  first | refine pm ?_ | refine pq ?_
  first | refine pm ?_ | refine pq ?_
  refine po_stw (p:=1) (cs:=fV 1 0 0 []) rfl rfl rfl rfl rfl rfl ?_
  repeat' (first | refine pm ?_ | refine pq ?_ | refine px ?_ | refine po_zero ?_ | refine po_nil ?_)
  refine mw_ret ⟨.inr rfl,[.ag (fV 1 0 0 []),.d (pI ((i + 1:Nat):Int))],rfl,getR_of (gotV_leaf HC (fV_er 1 0 0 []) rfl rfl rfl (by simp [V.nodes,V.nodess]) ⟨by unfold i64ok; omega,by unfold i64ok; omega,by unfold i64ok; omega,by unfold strok; simp,by simp,trivial⟩ (by omega) (by simp only [V.bulk,V.bulks,List.length_nil]; omega) hl1 (Nat.le_refl _) live0 fun v t0 h1 hM hA => ?_)⟩
  cases hM <;> first | (exfalso; omega) | exact ⟨rfl,rfl⟩
 refine po_no rfl rfl (decide_eq_false k4) ?_
 iterate 2 (first | refine pm ?_ | refine pq ?_)
 by_cases k5:(bb:Int) = 195
 ·refine po_yes rfl rfl (decide_eq_true k5) ?_
  repeat' (first | refine pm ?_ | refine pq ?_ | refine px ?_ | refine po_zero ?_ | refine po_nil ?_)
  refine mwT ?_
  refine mw_seq (mw_ops ?_)
  first | refine pm ?_ | refine pq ?_
  refine po_sub (n:=2) rfl rfl rfl (by omega) (by omega) ?_
  first | refine pm ?_ | refine pq ?_
  first | refine pm ?_ | refine pq ?_
  refine po_stw (p:=1) (cs:=fV 2 0 0 []) rfl rfl rfl rfl rfl rfl ?_
  repeat' (first | refine pm ?_ | refine pq ?_ | refine px ?_ | refine po_zero ?_ | refine po_nil ?_)
  refine mw_ret ⟨.inr rfl,[.ag (fV 2 0 0 []),.d (pI ((i + 1:Nat):Int))],rfl,getR_of (gotV_leaf HC (fV_er 2 0 0 []) rfl rfl rfl (by simp [V.nodes,V.nodess]) ⟨by unfold i64ok; omega,by unfold i64ok; omega,by unfold i64ok; omega,by unfold strok; simp,by simp,trivial⟩ (by omega) (by simp only [V.bulk,V.bulks,List.length_nil]; omega) hl1 (Nat.le_refl _) live0 fun v t0 h1 hM hA => ?_)⟩
  cases hM <;> first | (exfalso; omega) | exact ⟨rfl,rfl⟩
 refine po_no rfl rfl (decide_eq_false k5) ?_
 repeat' (first | refine pm ?_ | refine pq ?_ | refine px ?_ | refine po_zero ?_ | refine po_nil ?_)
 refine mwF ?_
 refine mw_at (fun st => has st.tm [(0,.ref 0 0),(1,.d (pI ((i + 1:Nat):Int))),(2,.d (pI d)),(6,.ref 1 0),(8,.d (pI bb))] /\ st.bx = [[pS s,pI (left - 1)],fV 0 0 0 []] /\ st.nt = n2 /\ st.live = l2) ⟨⟨rfl,rfl,rfl,rfl,rfl,trivial⟩,rfl,rfl,rfl⟩ (fun tm bx n2' l2' hh => ?_)
 obtain ⟨ht,hbx,hn,hlv⟩:=hh
 obtain ⟨tm2,rfl⟩:=has_ups ht
 simp only at hbx hn hlv; subst hbx; subst hn; subst hlv
 clear ht
 refine mw_seq (mw_ops ?_)
 first | refine pm ?_ | refine pq ?_
 refine po_call rfl (in_fn bb 204 211) ?_
 by_cases k6:(204:Int) <= bb /\ (bb:Int) <= 211
 ·rw [decide_eq_true k6]
  repeat' (first | refine pm ?_ | refine pq ?_ | refine px ?_ | refine po_zero ?_ | refine po_nil ?_)
  refine mwT ?_
  refine mw_seq (mw_ops ?_)
  iterate 3 (first | refine pm ?_ | refine pq ?_)
  have hGV:=gotV_wide (nt:=n2') (live:=l2') HC (by omega) hl1 hil
  refine po_g rfl (FnG.lift1 (p:=0) (R:=fun x c' n l => c' = [pS s,pI (left - 1)] /\ n = n2' + 1 /\ l = n2' :: l2' /\ x = wideV s (i + 1) bb) (wide_g s (left - 1) (i + 1) bb hbt (by omega) (by omega) n2' l2') ⟨trivial,trivial,trivial⟩ hz rfl) ?_
  rintro x _ _ _ ⟨_,rfl,rfl,rfl,rfl,rfl⟩
  obtain ⟨cs,next,hx,hc5,_⟩:=id hGV
  rw [hx] at hGV ⊢
  iterate 2 (first | refine pm ?_ | refine pq ?_)
  refine po_stw (p:=1) (cs:=cs) rfl rfl rfl hc5 rfl rfl ?_
  repeat' (first | refine pm ?_ | refine pq ?_ | refine px ?_ | refine po_zero ?_ | refine po_nil ?_)
  exact mw_ret ⟨.inr rfl,[.ag cs,.d (pI next)],ress_bt rfl rfl hc5 rfl,getR_of hGV⟩
 rw [decide_eq_false k6]
 repeat' (first | refine pm ?_ | refine pq ?_ | refine px ?_ | refine po_zero ?_ | refine po_nil ?_)
 refine mwF ?_
 refine mw_seq (mw_ops ?_)
 first | refine pm ?_ | refine pq ?_
 by_cases k7:(bb:Int) = 199
 ·refine po_yes rfl rfl (decide_eq_true k7) ?_
  repeat' (first | refine pm ?_ | refine pq ?_ | refine px ?_ | refine po_zero ?_ | refine po_nil ?_)
  refine mwT ?_
  refine mw_seq (mw_ops ?_)
  iterate 3 (first | refine pm ?_ | refine pq ?_)
  obtain rfl:bb = 199:=by omega
  refine po_g rfl (FnG.lift1 (p:=0) (ext_g hs (by omega) hK (i + 1) (left - 1) n2' l2' (by omega) (by omega) (by omega) hnt) ⟨trivial,trivial,trivial⟩ hz rfl) ?_
  rintro x _ n3 l3 ⟨c',rfl,left2,rfl,hGX⟩
  have hGV:=gotV_ext HC hGX
  obtain ⟨cs,next,rfl,hc5,_⟩:=hGX
  iterate 2 (first | refine pm ?_ | refine pq ?_)
  refine po_stw (p:=1) (cs:=cs) rfl rfl rfl hc5 rfl rfl ?_
  repeat' (first | refine pm ?_ | refine pq ?_ | refine px ?_ | refine po_zero ?_ | refine po_nil ?_)
  exact mw_ret ⟨.inr rfl,[.ag cs,.d (pI next)],ress_bt rfl rfl hc5 rfl,getR_of hGV⟩
 refine po_no rfl rfl (decide_eq_false k7) ?_
 repeat' (first | refine pm ?_ | refine pq ?_ | refine px ?_ | refine po_zero ?_ | refine po_nil ?_)
 refine mwF ?_
 refine mw_skip ?_
 refine mw_seq (mw_ops ?_)
 iterate 5 (first | refine pm ?_ | refine pq ?_)
 refine po_call (args:=[.d (pS s),.d (pI ((i + 1:Nat):Int)),.d (pI ((1:Nat):Int))]) rfl (hgw (i + 1) 1 (by decide) (by omega)) ?_
 repeat' (first | refine pm ?_ | refine pq ?_ | refine px ?_ | refine po_zero ?_ | refine po_nil ?_)
 refine mw_seq (mw_ops ?_)
 iterate 5 (first | refine pm ?_ | refine pq ?_)
 refine po_call (args:=[.d (pS s),.d (pI ((i + 1:Nat):Int)),.d (pI ((2:Nat):Int))]) rfl (hgw (i + 1) 2 (by decide) (by omega)) ?_
 repeat' (first | refine pm ?_ | refine pq ?_ | refine px ?_ | refine po_zero ?_ | refine po_nil ?_)
 obtain ⟨m1,hm1,hm1b⟩:∃ m1:Nat,gwz s (i + 1) 1 = m1 /\ m1 < 256:=by
  have:=gwN_small s (i + 1) 1 (by decide)
  unfold gwz
  split
  ·exact ⟨(gwN s (i + 1) 1).toNat,by omega,by omega⟩
  ·exact ⟨0,rfl,by omega⟩
 obtain ⟨m2,hm2,hm2b⟩:∃ m2:Nat,gwz s (i + 1) 2 = m2 /\ m2 < 65536:=by
  have:=gwN_small s (i + 1) 2 (by decide)
  unfold gwz
  split
  ·exact ⟨(gwN s (i + 1) 2).toNat,by omega,by omega⟩
  ·exact ⟨0,rfl,by omega⟩
 rw [hm1,hm2]
 have one:∀ {l t0:List UInt8},l.length < 256 -> t0 = be 1 l.length ++ l -> At s (i + 1) t0 -> l.length = m1 /\ At s (i + 1 + 1) l /\ t0.length = 1 + l.length /\ decide (i + 1 + 1 <= s.length) = true:=by
  rintro l t0 hl rfl hA
  have h1:=hA.app.1
  have h2:=hA.app.2
  have h3:=h1.len (by omega)
  rw [be_length] at h2 h3
  have h4:=h1.gw_id (by omega) (by omega)
  rw [gwz_ok h3,h4] at hm1
  exact ⟨by omega,h2,by rw [List.length_append,be_length],decide_eq_true h3⟩
 have two:∀ {n:Nat} {l t0:List UInt8},n < 65536 -> t0 = be 2 n ++ l -> At s (i + 1) t0 -> n = m2 /\ At s (i + 1 + 2) l /\ t0.length = 2 + l.length /\ decide (i + 1 + 2 <= s.length) = true:=by
  rintro n l t0 hl rfl hA
  have h1:=hA.app.1
  have h2:=hA.app.2
  have h3:=h1.len (by omega)
  rw [be_length] at h2 h3
  have h4:=h1.gw_id (by omega) (by omega)
  rw [gwz_ok h3,h4] at hm2
  exact ⟨by omega,h2,by rw [List.length_append,be_length],decide_eq_true h3⟩
 refine mw_at (fun st => has st.tm [(0,.ref 0 0),(1,.d (pI ((i + 1:Nat):Int))),(2,.d (pI d)),(6,.ref 1 0),(8,.d (pI bb)),(9,.d (pI m1)),(10,.d (pB (decide (i + 1 + 1 <= s.length)))),(11,.d (pI m2)),(12,.d (pB (decide (i + 1 + 2 <= s.length))))] /\ st.bx = [[pS s,pI (left - 1)],fV 0 0 0 []] /\ st.nt = n2' /\ st.live = l2') ⟨⟨rfl,rfl,rfl,rfl,rfl,rfl,rfl,rfl,rfl,trivial⟩,rfl,rfl,rfl⟩ (fun tm bx n2 l2 hh => ?_)
 obtain ⟨ht,hbx,hn,hlv⟩:=hh
 obtain ⟨tm3,rfl⟩:=has_ups ht
 simp only at hbx hn hlv; subst hbx; subst hn; subst hlv
 clear ht
 have live0:∀ t ∈ l2,2 <= t -> t < n2 -> t ∈ l2:=fun t ht _ _ => ht
 generalize hk1:decide (i + 1 + 1 <= s.length) = ok1 at one
 generalize hk2:decide (i + 1 + 2 <= s.length) = ok2 at two
 have of1:ok1 = true -> i + 1 + 1 <= s.length:=fun h => of_decide_eq_true (hk1.trans h)
 have of2:ok2 = true -> i + 1 + 2 <= s.length:=fun h => of_decide_eq_true (hk2.trans h)
 refine mw_seq (mw_seq (mw_ops ?_))
 repeat' (first | refine pm ?_ | refine pq ?_ | refine px ?_ | refine po_zero ?_ | refine po_nil ?_)
 refine mw_block (mw_seq (mw_ops ?_))
 by_cases q217:(bb:Int) = 217
 ·refine po_yes rfl rfl (decide_eq_true q217) ?_
  repeat' (first | refine pm ?_ | refine pq ?_ | refine px ?_ | refine po_zero ?_ | refine po_nil ?_)
  refine mwT ?_
  refine mw_seq (mw_ops ?_)
  first | refine pm ?_ | refine pq ?_
  first | refine pm ?_ | refine pq ?_
  refine po_add (n:=((i + 1 + 1:Nat):Int)) rfl rfl rfl (by omega) (by omega) ?_
  first | refine pm ?_ | refine pq ?_
  first | refine pm ?_ | refine pq ?_
  have hGV:=gotV_str (bb:=bb) (nt:=n2) (live:=l2) (ok:=ok1) (many:=m1) (i2:=i + 1 + 1) (c:=1) (kind:=5) hs HC (by omega) (by unfold i64ok; omega) hl1 (fun v t0 h1 hM hA => by
   cases hM with
   | text1 tx h =>
    obtain ⟨e1,e2,e3,e4⟩:=one (l:=tx) h.2 rfl hA
    exact ⟨tx,rfl,e1,e2,e3,e4⟩
   | _ => exfalso; omega) hil (of1)
  refine po_g rfl (FnG.lift1 (p:=0) (R:=fun x c' n l => c' = [pS s,pI (left - 1)] /\ n = n2 /\ l = l2 /\ x = strV s (i + 1 + 1) 5 (m1) ok1) (str_g s (left - 1) (i + 1 + 1) 5 (m1) ok1 (by omega) (by omega) (by omega) n2 l2) ⟨trivial,trivial,trivial,trivial,trivial⟩ hz rfl) ?_
  rintro x _ _ _ ⟨_,rfl,rfl,rfl,rfl,rfl⟩
  obtain ⟨cs,next,hx,hc5,_⟩:=id hGV
  rw [hx] at hGV ⊢
  iterate 2 (first | refine pm ?_ | refine pq ?_)
  refine po_stw (p:=1) (cs:=cs) rfl rfl rfl hc5 rfl rfl ?_
  repeat' (first | refine pm ?_ | refine pq ?_ | refine px ?_ | refine po_zero ?_ | refine po_nil ?_)
  exact mw_ret ⟨.inr rfl,[.ag cs,.d (pI next)],ress_bt rfl rfl hc5 rfl,getR_of hGV⟩
 refine po_no rfl rfl (decide_eq_false q217) ?_
 repeat' (first | refine pm ?_ | refine pq ?_ | refine px ?_ | refine po_zero ?_ | refine po_nil ?_)
 refine mwF ?_
 refine mw_seq (mw_ops ?_)
 by_cases q218:(bb:Int) = 218
 ·refine po_yes rfl rfl (decide_eq_true q218) ?_
  repeat' (first | refine pm ?_ | refine pq ?_ | refine px ?_ | refine po_zero ?_ | refine po_nil ?_)
  refine mwT ?_
  refine mw_seq (mw_ops ?_)
  first | refine pm ?_ | refine pq ?_
  first | refine pm ?_ | refine pq ?_
  refine po_add (n:=((i + 1 + 2:Nat):Int)) rfl rfl rfl (by omega) (by omega) ?_
  first | refine pm ?_ | refine pq ?_
  first | refine pm ?_ | refine pq ?_
  have hGV:=gotV_str (bb:=bb) (nt:=n2) (live:=l2) (ok:=ok2) (many:=m2) (i2:=i + 1 + 2) (c:=2) (kind:=5) hs HC (by omega) (by unfold i64ok; omega) hl1 (fun v t0 h1 hM hA => by
   cases hM with
   | text2 tx h =>
    obtain ⟨e1,e2,e3,e4⟩:=two (l:=tx) (by omega) rfl hA
    exact ⟨tx,rfl,e1,e2,e3,e4⟩
   | _ => exfalso; omega) hil (of2)
  refine po_g rfl (FnG.lift1 (p:=0) (R:=fun x c' n l => c' = [pS s,pI (left - 1)] /\ n = n2 /\ l = l2 /\ x = strV s (i + 1 + 2) 5 (m2) ok2) (str_g s (left - 1) (i + 1 + 2) 5 (m2) ok2 (by omega) (by omega) (by omega) n2 l2) ⟨trivial,trivial,trivial,trivial,trivial⟩ hz rfl) ?_
  rintro x _ _ _ ⟨_,rfl,rfl,rfl,rfl,rfl⟩
  obtain ⟨cs,next,hx,hc5,_⟩:=id hGV
  rw [hx] at hGV ⊢
  iterate 2 (first | refine pm ?_ | refine pq ?_)
  refine po_stw (p:=1) (cs:=cs) rfl rfl rfl hc5 rfl rfl ?_
  repeat' (first | refine pm ?_ | refine pq ?_ | refine px ?_ | refine po_zero ?_ | refine po_nil ?_)
  exact mw_ret ⟨.inr rfl,[.ag cs,.d (pI next)],ress_bt rfl rfl hc5 rfl,getR_of hGV⟩
 refine po_no rfl rfl (decide_eq_false q218) ?_
 repeat' (first | refine pm ?_ | refine pq ?_ | refine px ?_ | refine po_zero ?_ | refine po_nil ?_)
 refine mwF ?_
 refine mw_seq (mw_ops ?_)
 by_cases q196:(bb:Int) = 196
 ·refine po_yes rfl rfl (decide_eq_true q196) ?_
  repeat' (first | refine pm ?_ | refine pq ?_ | refine px ?_ | refine po_zero ?_ | refine po_nil ?_)
  refine mwT ?_
  refine mw_seq (mw_ops ?_)
  first | refine pm ?_ | refine pq ?_
  first | refine pm ?_ | refine pq ?_
  refine po_add (n:=((i + 1 + 1:Nat):Int)) rfl rfl rfl (by omega) (by omega) ?_
  first | refine pm ?_ | refine pq ?_
  first | refine pm ?_ | refine pq ?_
  have hGV:=gotV_str (bb:=bb) (nt:=n2) (live:=l2) (ok:=ok1) (many:=m1) (i2:=i + 1 + 1) (c:=1) (kind:=6) hs HC (by omega) (by unfold i64ok; omega) hl1 (fun v t0 h1 hM hA => by
   cases hM with
   | bytes1 tx h =>
    obtain ⟨e1,e2,e3,e4⟩:=one (l:=tx) h rfl hA
    exact ⟨tx,rfl,e1,e2,e3,e4⟩
   | _ => exfalso; omega) hil (of1)
  refine po_g rfl (FnG.lift1 (p:=0) (R:=fun x c' n l => c' = [pS s,pI (left - 1)] /\ n = n2 /\ l = l2 /\ x = strV s (i + 1 + 1) 6 (m1) ok1) (str_g s (left - 1) (i + 1 + 1) 6 (m1) ok1 (by omega) (by omega) (by omega) n2 l2) ⟨trivial,trivial,trivial,trivial,trivial⟩ hz rfl) ?_
  rintro x _ _ _ ⟨_,rfl,rfl,rfl,rfl,rfl⟩
  obtain ⟨cs,next,hx,hc5,_⟩:=id hGV
  rw [hx] at hGV ⊢
  iterate 2 (first | refine pm ?_ | refine pq ?_)
  refine po_stw (p:=1) (cs:=cs) rfl rfl rfl hc5 rfl rfl ?_
  repeat' (first | refine pm ?_ | refine pq ?_ | refine px ?_ | refine po_zero ?_ | refine po_nil ?_)
  exact mw_ret ⟨.inr rfl,[.ag cs,.d (pI next)],ress_bt rfl rfl hc5 rfl,getR_of hGV⟩
 refine po_no rfl rfl (decide_eq_false q196) ?_
 repeat' (first | refine pm ?_ | refine pq ?_ | refine px ?_ | refine po_zero ?_ | refine po_nil ?_)
 refine mwF ?_
 refine mw_seq (mw_ops ?_)
 by_cases q197:(bb:Int) = 197
 ·refine po_yes rfl rfl (decide_eq_true q197) ?_
  repeat' (first | refine pm ?_ | refine pq ?_ | refine px ?_ | refine po_zero ?_ | refine po_nil ?_)
  refine mwT ?_
  refine mw_seq (mw_ops ?_)
  first | refine pm ?_ | refine pq ?_
  first | refine pm ?_ | refine pq ?_
  refine po_add (n:=((i + 1 + 2:Nat):Int)) rfl rfl rfl (by omega) (by omega) ?_
  first | refine pm ?_ | refine pq ?_
  first | refine pm ?_ | refine pq ?_
  have hGV:=gotV_str (bb:=bb) (nt:=n2) (live:=l2) (ok:=ok2) (many:=m2) (i2:=i + 1 + 2) (c:=2) (kind:=6) hs HC (by omega) (by unfold i64ok; omega) hl1 (fun v t0 h1 hM hA => by
   cases hM with
   | bytes2 tx h =>
    obtain ⟨e1,e2,e3,e4⟩:=two (l:=tx) (by omega) rfl hA
    exact ⟨tx,rfl,e1,e2,e3,e4⟩
   | _ => exfalso; omega) hil (of2)
  refine po_g rfl (FnG.lift1 (p:=0) (R:=fun x c' n l => c' = [pS s,pI (left - 1)] /\ n = n2 /\ l = l2 /\ x = strV s (i + 1 + 2) 6 (m2) ok2) (str_g s (left - 1) (i + 1 + 2) 6 (m2) ok2 (by omega) (by omega) (by omega) n2 l2) ⟨trivial,trivial,trivial,trivial,trivial⟩ hz rfl) ?_
  rintro x _ _ _ ⟨_,rfl,rfl,rfl,rfl,rfl⟩
  obtain ⟨cs,next,hx,hc5,_⟩:=id hGV
  rw [hx] at hGV ⊢
  iterate 2 (first | refine pm ?_ | refine pq ?_)
  refine po_stw (p:=1) (cs:=cs) rfl rfl rfl hc5 rfl rfl ?_
  repeat' (first | refine pm ?_ | refine pq ?_ | refine px ?_ | refine po_zero ?_ | refine po_nil ?_)
  exact mw_ret ⟨.inr rfl,[.ag cs,.d (pI next)],ress_bt rfl rfl hc5 rfl,getR_of hGV⟩
 refine po_no rfl rfl (decide_eq_false q197) ?_
 repeat' (first | refine pm ?_ | refine pq ?_ | refine px ?_ | refine po_zero ?_ | refine po_nil ?_)
 refine mwF ?_
 refine mw_seq (mw_ops ?_)
 by_cases q220:(bb:Int) = 220
 ·refine po_yes rfl rfl (decide_eq_true q220) ?_
  repeat' (first | refine pm ?_ | refine pq ?_ | refine px ?_ | refine po_zero ?_ | refine po_nil ?_)
  refine mwT ?_
  refine mw_seq (mw_ops ?_)
  first | refine pm ?_ | refine pq ?_
  first | refine pm ?_ | refine pq ?_
  refine po_add (n:=((i + 1 + 2:Nat):Int)) rfl rfl rfl (by omega) (by omega) ?_
  first | refine pm ?_ | refine pq ?_
  first | refine pm ?_ | refine pq ?_
  first | refine pm ?_ | refine pq ?_
  refine po_g rfl (FnG.lift1 (p:=0) (hK (i + 1 + 2) (left - 1) 7 ((m2:Int)) ok2 n2 l2 (of2) (by omega) (by omega) (by omega) hnt (by omega) (by unfold i64ok; omega)) ⟨trivial,trivial,trivial,trivial,trivial,trivial⟩ hz rfl) ?_
  rintro x _ n3 l3 ⟨c',rfl,left2,rfl,hGK⟩
  have hGV:=gotV_kids (bb:=bb) (c:=2) hs HC (by omega) (by unfold i64ok; omega) hGK (fun v t0 h1 hM hA => by
   cases hM with
   | list2 ks h =>
    obtain ⟨e1,e2,e3,e4⟩:=two (l:=msgs ks) (by omega) rfl hA
    exact ⟨ks,rfl,by omega,e2,e3,e4⟩
   | _ => exfalso; omega)
  obtain ⟨cs,next,rfl,hc5,_⟩:=hGK
  iterate 2 (first | refine pm ?_ | refine pq ?_)
  refine po_stw (p:=1) (cs:=cs) rfl rfl rfl hc5 rfl rfl ?_
  repeat' (first | refine pm ?_ | refine pq ?_ | refine px ?_ | refine po_zero ?_ | refine po_nil ?_)
  exact mw_ret ⟨.inr rfl,[.ag cs,.d (pI next)],ress_bt rfl rfl hc5 rfl,getR_of hGV⟩
 refine po_no rfl rfl (decide_eq_false q220) ?_
 repeat' (first | refine pm ?_ | refine pq ?_ | refine px ?_ | refine po_zero ?_ | refine po_nil ?_)
 refine mwF ?_
 refine mw_seq (mw_ops ?_)
 by_cases q222:(bb:Int) = 222
 ·refine po_yes rfl rfl (decide_eq_true q222) ?_
  repeat' (first | refine pm ?_ | refine pq ?_ | refine px ?_ | refine po_zero ?_ | refine po_nil ?_)
  refine mwT ?_
  refine mw_seq (mw_ops ?_)
  first | refine pm ?_ | refine pq ?_
  first | refine pm ?_ | refine pq ?_
  refine po_add (n:=((i + 1 + 2:Nat):Int)) rfl rfl rfl (by omega) (by omega) ?_
  first | refine pm ?_ | refine pq ?_
  refine po_mul (n:=2 * (m2:Int)) rfl rfl rfl rfl (by omega) ?_
  first | refine pm ?_ | refine pq ?_
  first | refine pm ?_ | refine pq ?_
  refine po_g rfl (FnG.lift1 (p:=0) (hK (i + 1 + 2) (left - 1) 8 (2 * (m2:Int)) ok2 n2 l2 (of2) (by omega) (by omega) (by omega) hnt (by omega) (by unfold i64ok; omega)) ⟨trivial,trivial,trivial,trivial,trivial,trivial⟩ hz rfl) ?_
  rintro x _ n3 l3 ⟨c',rfl,left2,rfl,hGK⟩
  have hGV:=gotV_kids (bb:=bb) (c:=2) hs HC (by omega) (by unfold i64ok; omega) hGK (fun v t0 h1 hM hA => by
   cases hM with
   | map2 n h ks hl =>
    obtain ⟨e1,e2,e3,e4⟩:=two (l:=msgs ks) (by omega) rfl hA
    exact ⟨ks,rfl,by omega,e2,e3,e4⟩
   | _ => exfalso; omega)
  obtain ⟨cs,next,rfl,hc5,_⟩:=hGK
  iterate 2 (first | refine pm ?_ | refine pq ?_)
  refine po_stw (p:=1) (cs:=cs) rfl rfl rfl hc5 rfl rfl ?_
  repeat' (first | refine pm ?_ | refine pq ?_ | refine px ?_ | refine po_zero ?_ | refine po_nil ?_)
  exact mw_ret ⟨.inr rfl,[.ag cs,.d (pI next)],ress_bt rfl rfl hc5 rfl,getR_of hGV⟩
 refine po_no rfl rfl (decide_eq_false q222) ?_
 repeat' (first | refine pm ?_ | refine pq ?_ | refine px ?_ | refine po_zero ?_ | refine po_nil ?_)
 refine mwF ?_
 refine mw_skip ?_
 refine mw_seq (mw_ops ?_)
 first | refine pm ?_ | refine pq ?_
 refine po_stw (p:=1) (cs:=fV 0 0 0 []) rfl rfl rfl rfl rfl rfl ?_
 repeat' (first | refine pm ?_ | refine pq ?_ | refine px ?_ | refine po_zero ?_ | refine po_nil ?_)
 refine mw_ret ⟨.inr rfl,[.ag (fV 0 0 0 []),.d (pI (-1))],rfl,getR_of (gotV_fail HC (Nat.le_refl _) live0 (by omega) (fun v t0 h1 hM hA => ?_) _ _ _ _)⟩
 cases hM <;> (exfalso; omega)
end
/- PvG9 -/
section
open Go.RowKit
variable {T:World -> Prop} {hT:Low ngl T}
attribute [local irreducible] po mw pt
theorem getG_all {s:List UInt8} (hs:s.length <= 2147483647):∀ n:Nat,n <= 13 -> GetG T hT s ((13 - n:Nat):Int)
 | 0,_ => get_g hs (by omega) fun h => by omega
 | n + 1,h => by
  refine get_g hs (by omega) fun _ => kids_g hs (by omega) ?_
  rw [show ((13 - (n + 1):Nat):Int) + 1 = ((13 - n:Nat):Int) by omega]
  exact getG_all hs n (by omega)
def GmR (s:List UInt8) (i:Int) (nt:Nat) (live:List Nat) (x:PV) (nt':Nat) (live':List Nat):Prop :=
 ∃ (cs:List PC) (next:Int),x = .tup [.ag cs,.d (pI next)] /\ cs.length = 5 /\ NewL nt nt' cs /\ (∀ t ∈ toksL cs,t ∈ live') /\ (∀ t ∈ live,2 <= t -> t < nt -> t ∈ live') /\ nt <= nt' /\
 ((next = -1 /\ erL cs = vC (.mk 0 0 0 [] []) /\ ∀ v:V,v.wf -> v.ok = true -> 0 <= i -> ¬ At s i.toNat (msg v)) \/
  ∃ (k:Nat) (v:V),i = k /\ v.wf /\ v.ok = true /\ At s k (msg v) /\ next = ((k + (msg v).length:Nat):Int) /\ k + (msg v).length <= s.length /\ erL cs = vC v /\ ∀ v':V,v'.wf -> v'.ok = true -> At s k (msg v') -> v' = v)
theorem at_of_take {s:List UInt8} {i j:Nat} {l:List UInt8} (h:l = (s.drop i).take (j - i)):At s i l:=⟨(s.drop i).drop (j - i),by rw [h,List.take_append_drop]⟩
theorem ok_nodes {v:V} (h:v.ok = true):(v.nodes:Int) <= 300:=by
 unfold V.ok at h; simp only [Bool.and_eq_true,decide_eq_true_eq] at h; omega
theorem ok_right0 {v:V} (h:v.ok = true):v.rightBy pairsOk (12 - 0) = true:=by
 unfold V.ok at h; simp only [Bool.and_eq_true] at h; exact h.1
theorem msg_ne0 {v:V} (hw:v.wf) (h:v.ok = true):0 < (msg v).length:=by
 obtain ⟨b,t,_,_,e⟩:=msg_top (ok_right0 h) (V.ok_len h) (by obtain ⟨k,n,e,s,kids⟩:=v; exact hw.2.1)
 rw [e]; simp
theorem strEq (a b:List UInt8):((ByteArray.mk a.toArray).toList == (ByteArray.mk b.toArray).toList) = decide (a = b):=by
 rw [ByteArray.toList_eq,ByteArray.toList_eq]
 show (a == b) = decide (a = b)
 by_cases h:a = b
 ·subst h; simp
 ·simp [h]
theorem po_ne {E:Env} {K:St -> Prop} {tm:Nat -> PV} {bx:List (List PC)} {nt d:Nat} {live:List Nat} {r:List MOpr} {g:Option (Nat × Bool)} {c:List X} {x y:X} {la lb:List UInt8} {f:Bool} (hg:gd g tm = some true) (hx:ev tm x = .d (pS la)) (hy:ev tm y = .d (pS lb)) (h:po E r K ⟨up d (.d (pB (decide (la ≠ lb)))) tm,bx,nt,live⟩):po E (⟨some d,.bin .neq f x y,g,c⟩ :: r) K ⟨tm,bx,nt,live⟩:=by
 refine po_q hg ?_ h
 simp only [qf,hx,hy,pS]
 show some (PV.d (.v (.bool (!((ByteArray.mk la.toArray).toList == (ByteArray.mk lb.toArray).toList))))) = _
 rw [strEq]
 by_cases h:la = lb
 ·rw [decide_eq_true h,decide_eq_false (fun hn => hn h)]; rfl
 ·rw [decide_eq_false h,decide_eq_true h]; rfl
set_option maxHeartbeats 1000000 in
theorem getMsg_g {s:List UInt8} (hs:s.length <= 2147483647) (i:Int) (nt:Nat) (live:List Nat) (hnt:2 <= nt) :
  FnG (env T hT) 119 [.d (pS s),.d (pI i)] [] nt live (fun x _ n l => x.lw 0 /\ GmR s i nt live x n l):=by
 have hput:=fun v hw hb => putMsg_fn (T:=T) (hT:=hT) v hw hb
 refine fng_of (look_env lk_s_GetMsg) (by show 2 <= 41; decide) fun B hB => ?_
 unfold m_s_GetMsg
 refine mw_seq (mw_ops ?_)
 repeat' (first | refine pm ?_ | refine pq ?_ | refine px ?_ | refine po_zero ?_ | refine po_nil ?_)
 refine mw_seq ?_
 refine mw_cut (fun st => has st.tm [(0,.d (pS s)),(1,.d (pI i)),(4,.ref 0 0),(16,.d (pB (decide (i < 0 \/ i ≥ s.length))))] /\ st.bx = [fV 0 0 0 []] /\ st.nt = nt /\ st.live = live) ?_ ?_
 ·refine mw_ops ?_
  first | refine pm ?_ | refine pq ?_
  by_cases c1:i < 0
  ·refine po_yes rfl rfl (decide_eq_true c1) ?_
   first | refine pm ?_ | refine pq ?_
   iterate 4 (refine po_skip rfl ?_)
   repeat' (first | refine pm ?_ | refine pq ?_ | refine px ?_ | refine po_zero ?_ | refine po_nil ?_)
   exact ⟨⟨rfl,rfl,rfl,by rw [decide_eq_true (.inl c1)]; rfl,trivial⟩,rfl,rfl,rfl⟩
  ·refine po_no rfl rfl (decide_eq_false c1) ?_
   iterate 3 (first | refine pm ?_ | refine pq ?_)
   refine po_q (v:=.d (pI s.length)) rfl rfl ?_
   refine po_b rfl rfl (fun b hb => ?_)
   repeat' (first | refine pm ?_ | refine pq ?_ | refine px ?_ | refine po_zero ?_ | refine po_nil ?_)
   have:decide (i < 0 \/ i ≥ s.length) = b:=by rw [hb]; exact decide_eq_decide.2 ⟨fun h => h.resolve_left c1,.inr⟩
   exact ⟨⟨rfl,rfl,rfl,by rw [this]; rfl,trivial⟩,rfl,rfl,rfl⟩
 rintro tm bx n1 l1 ⟨ht,rfl,rfl,rfl⟩
 obtain ⟨tm0,rfl⟩:=has_ups ht
 clear ht
 have hfl:∀ (n2:Nat) (l2:List Nat),n1 <= n2 -> (∀ t ∈ l1,2 <= t -> t < n1 -> t ∈ l2) -> (∀ v:V,v.wf -> v.ok = true -> 0 <= i -> ¬ At s i.toNat (msg v)) -> GmR s i n1 l1 (.tup [.ag (fV 0 0 0 []),.d (pI (-1))]) n2 l2:=fun n2 l2 h1 h2 h3 =>
  ⟨_,_,rfl,rfl,fV_new _ _ _ _ _ _,(fun t ht => by rw [fV_tok] at ht; cases ht),h2,h1,.inl ⟨rfl,rfl,h3⟩⟩
 refine mw_cd0 (p:=i < 0 \/ i ≥ s.length) rfl (fun hc => ?_) (fun hc => ?_)
 ·refine mw_seq (mw_ops ?_)
  first | refine pm ?_ | refine pq ?_
  refine po_stw (p:=0) (cs:=fV 0 0 0 []) rfl rfl rfl rfl rfl rfl ?_
  repeat' (first | refine pm ?_ | refine pq ?_ | refine px ?_ | refine po_zero ?_ | refine po_nil ?_)
  refine mw_ret ⟨.inr rfl,[.ag (fV 0 0 0 []),.d (pI (-1))],rfl,lw_res (fV_new _ _ _ _ 0 0) _,hfl _ _ (Nat.le_refl _) (fun t ht _ _ => ht) fun v h1 h2 h3 h4 => ?_⟩
  have:=msg_ne0 h1 h2
  obtain ⟨r,hr⟩:=h4
  rw [List.drop_of_length_le (by omega)] at hr
  have:=congrArg List.length hr
  simp only [List.length_nil,List.length_append] at this; omega
 obtain ⟨k,rfl⟩:=Int.eq_ofNat_of_zero_le (show 0 <= i by omega)
 have hk:k < s.length:=by omega
 refine mw_skip ?_
 refine mw_seq (mw_ops ?_)
 iterate 2 (first | refine pm ?_ | refine pq ?_)
 repeat' (first | refine pm ?_ | refine pq ?_ | refine px ?_ | refine po_zero ?_ | refine po_nil ?_)
 refine mw_seq (mw_ops ?_)
 iterate 2 (first | refine pm ?_ | refine pq ?_)
 refine po_g rfl (FnG.lift1 (p:=1) (by have:=getG_all (T:=T) (hT:=hT) hs 13 (by omega) k 300 n1 l1 (by omega) (by omega) (by omega) hnt; exact this) (args:=[.d (pI k),.d (pI 0)]) ⟨trivial,trivial,trivial⟩ (lw_box s 300) rfl) ?_
 rintro x _ n2 l2 ⟨c',rfl,left2,rfl,cs,next,rfl,hc5,hnew,hctk,hlv,hn2,_,hres,hcomp⟩
 have hcomp:∀ v:V,v.wf -> v.ok = true -> At s k (msg v) -> next = ((k + (msg v).length:Nat):Int) /\ erL cs = vC v:=fun v h1 h2 h3 => by
  obtain ⟨q1,q2,_⟩:=hcomp v h1 (ok_right0 h2) (ok_nodes h2) h3
  exact ⟨q1,q2⟩
 iterate 3 (first | refine pm ?_ | refine pq ?_)
 refine po_nw (cs:=cs) rfl hc5 rfl rfl ?_
 first | refine pm ?_ | refine pq ?_
 refine po_nil ?_
 refine mw_seq ?_
 obtain ⟨f,hf⟩:∃ f:Bool,f = true ↔ ¬ ∃ v:V,v.wf /\ v.ok = true /\ At s k (msg v):=by
  by_cases h:∃ v:V,v.wf /\ v.ok = true /\ At s k (msg v)
  ·exact ⟨false,by simp only [h,not_true]; decide⟩
  ·exact ⟨true,by simp only [h,not_false_iff]⟩
 refine mw_cut (fun st => has st.tm [(4,.ref 0 0),(7,.ref 2 0),(8,.d (pI next)),(37,.d (pB f))] /\ (∃ c',st.bx = [fV 0 0 0 [],c',cs]) /\ st.nt = n2 /\ st.live = l2) ?_ ?_
 ·refine mw_ops ?_
  first | refine pm ?_ | refine pq ?_
  rcases hres with hnx | ⟨j,u,hnx,he,huw,hkj,hjs,hub,_⟩
  ·refine po_yes rfl rfl (decide_eq_true (show next < 0 by omega)) ?_
   first | refine pm ?_ | refine pq ?_
   iterate 7 (refine po_skip rfl ?_)
   repeat' (first | refine pm ?_ | refine pq ?_ | refine px ?_ | refine po_zero ?_ | refine po_nil ?_)
   refine ⟨⟨rfl,rfl,rfl,?_,trivial⟩,⟨_,rfl⟩,rfl,rfl⟩
   have:f = true:=hf.2 (by
    rintro ⟨v,h1,h2,h3⟩
    have:=(hcomp v h1 h2 h3).1
    omega)
   rw [this]; rfl
  ·refine po_no rfl rfl (decide_eq_false (show ¬ next < 0 by omega)) ?_
   first | refine pm ?_ | refine pq ?_
   refine po_ldw (p:=2) (cs:=cs) rfl rfl rfl hc5 ?_
   iterate 3 (first | refine pm ?_ | refine pq ?_)
   refine po_slcs (a:=k) (b:=j) (rs:=(s.drop k).take (j - k)) rfl rfl (bound_nat rfl rfl) (bound_nat rfl hnx) (by omega) rfl ?_
   refine po_gcall (b:=true) (args:=[.ag (vC u)]) rfl (fun _ => dats1 he) (fun _ => hput u huw (by omega)) ?_
   refine po_ne (la:=msgTop u) (lb:=(s.drop k).take (j - k)) rfl rfl rfl ?_
   repeat' (first | refine pm ?_ | refine pq ?_ | refine px ?_ | refine po_zero ?_ | refine po_nil ?_)
   refine ⟨⟨rfl,rfl,rfl,?_,trivial⟩,⟨_,rfl⟩,rfl,rfl⟩
   have hiff:(msgTop u ≠ (s.drop k).take (j - k)) ↔ ¬ ∃ v:V,v.wf /\ v.ok = true /\ At s k (msg v):=by
    constructor
    ·rintro hne ⟨v,h1,h2,h3⟩
     obtain ⟨q1,q2⟩:=hcomp v h1 h2 h3
     have huv:u = v:=vC_inj (he.symm.trans q2)
     subst huv
     apply hne
     unfold msgTop
     rw [if_pos h2,show j - k = (msg u).length by omega,h3.take]
    ·intro hno heq
     apply hno
     by_cases hok:u.ok = true
     ·refine ⟨u,huw,hok,?_⟩
      unfold msgTop at heq
      rw [if_pos hok] at heq
      exact at_of_take heq
     ·exfalso
      unfold msgTop at heq
      rw [if_neg hok] at heq
      have:=congrArg List.length heq
      rw [List.length_take,List.length_drop,List.length_nil] at this
      omega
   have:decide (msgTop u ≠ (s.drop k).take (j - k)) = f:=by rw [Bool.eq_iff_iff,decide_eq_true_iff,hiff,hf]
   rw [<- this]; rfl
 rintro tm bx n3 l3 ⟨ht,⟨c',rfl⟩,rfl,rfl⟩
 obtain ⟨tm1,rfl⟩:=has_ups ht
 clear ht
 refine mw_cond (t:=f) rfl (fun hno => ?_) (fun hyes => ?_)
 ·have hno:=hf.1 hno
  refine mw_seq (mw_ops ?_)
  first | refine pm ?_ | refine pq ?_
  refine po_stw (p:=0) (cs:=fV 0 0 0 []) rfl rfl rfl rfl rfl rfl ?_
  repeat' (first | refine pm ?_ | refine pq ?_ | refine px ?_ | refine po_zero ?_ | refine po_nil ?_)
  exact mw_ret ⟨.inr rfl,[.ag (fV 0 0 0 []),.d (pI (-1))],rfl,lw_res (fV_new _ _ _ _ 0 0) _,hfl _ _ hn2 hlv fun v h1 h2 h3 h4 => hno ⟨v,h1,h2,h4⟩⟩
 ·obtain ⟨v,h1,h2,h3⟩:∃ v:V,v.wf /\ v.ok = true /\ At s k (msg v):=Classical.byContradiction fun h => by rw [hf.2 h] at hyes; cases hyes
  obtain ⟨q1,q2⟩:=hcomp v h1 h2 h3
  refine mw_skip ?_
  refine mw_seq (mw_ops ?_)
  refine po_ldw (p:=2) (cs:=cs) rfl rfl rfl hc5 ?_
  first | refine pm ?_ | refine pq ?_
  refine po_stw (p:=0) (cs:=cs) rfl rfl rfl hc5 rfl rfl ?_
  repeat' (first | refine pm ?_ | refine pq ?_ | refine px ?_ | refine po_zero ?_ | refine po_nil ?_)
  exact mw_ret ⟨.inr rfl,[.ag cs,.d (pI next)],ress_bt rfl rfl hc5 rfl,lw_res hnew _,cs,next,rfl,hc5,hnew,hctk,hlv,hn2,.inr ⟨k,v,rfl,h1,h2,h3,q1,h3.len (by omega),q2,fun v' r1 r2 r3 => vC_inj ((hcomp v' r1 r2 r3).2.symm.trans q2)⟩⟩
end
/- PvF2M -/
section
set_option maxRecDepth 100000
def m_i_GetDict:M:=.seq (.ops [qo 2 (.zero [.slice none 0 0,.slice none 0 0]),
 qo 3 (.mv (.c (.bool false)))])
 (.seq (.seq (.ops [qo 14 (.mv (.t 0)),
 qo 15 (.lens (.t 14)),
 qo 16 (.bin .gtr false (.t 15) (ci 60000))])
 (.cond (.t 16) (.seq (.ops [qo 17 (.build [.slice none 0 0,.slice none 0 0] []),
 ⟨none,.store 2 (.t 2) (.t 17),none,[]⟩,
 qo 3 (.mv (.c (.bool false)))])
 (.ret))
 (.skip)))
 (.seq (.ops [qo 18 (.build [.slice none 0 0,.slice none 0 0] []),
 qo 4 (.zero [.slice none 0 0,.slice none 0 0]),
 ⟨none,.store 2 (.t 4) (.t 18),none,[]⟩])
 (.seq (.ops [qo 19 (.mv (.t 0)),
 ⟨some 20,.build [.string ⟨[].toArray⟩,.int .i64 0,.bool false,.int .i64 0,.bool false] [(0,1,.t 19)],none,[]⟩,
 qo 21 (.box (.t 20)),
 qo 5 (.mv (.t 21))])
 (.seq (.ops [qo 23 (.mv (.t 5)),
 ⟨some 24,.call 65 [.t 23],none,[.f 1]⟩,
 qo 22 (.mv (.t 24)),
 qo 25 (.ext (.t 22) 0),
 qo 26 (.ext (.t 22) 1),
 qo 6 (.mv (.t 25)),
 qo 7 (.mv (.t 26))])
 (.seq (.block 0 (.loop (.seq (.seq (.ops [qo 27 (.mv (.t 7)),
 qo 28 (.bin .gtr false (.t 27) (.c (.int .u64 0))),
 qo 29 (.mv (.t 28)),
 ⟨some 30,.mv (.t 5),some (29,true),[]⟩,
 ⟨some 31,.nilc (.t 30),some (29,true),[]⟩,
 ⟨some 32,.fld 4 (.t 31),some (29,true),[]⟩,
 ⟨some 33,.load false 1 (.t 32),some (29,true),[]⟩,
 ⟨some 34,.not (.t 33),some (29,true),[]⟩,
 qo 35 (.pick (.t 29) (.t 34) (.c (.bool false)))])
 (.cond (.t 35) (.skip)
 (.exit 0)))
 (.seq (.block 1 (.seq (.ops [qo 39 (.mv (.t 5)),
 ⟨some 40,.call 65 [.t 39],none,[.f 1]⟩,
 qo 38 (.mv (.t 40)),
 qo 41 (.ext (.t 38) 0),
 qo 42 (.ext (.t 38) 1),
 qo 8 (.mv (.t 41)),
 qo 9 (.mv (.t 42))])
 (.ops [qo 43 (.fld 0 (.t 4)),
 qo 44 (.load false 1 (.t 43)),
 qo 45 (.mv (.t 5)),
 qo 46 (.mv (.t 9)),
 ⟨some 47,.call 66 [.t 45,.t 46],none,[.f 0,.t 43]⟩,
 qo 48 (.litq 1 [.t 47]),
 ⟨some 49,.app 1 (.t 44) (.t 48),none,[.f 0]⟩,
 qo 50 (.fld 0 (.t 4)),
 ⟨none,.store 1 (.t 50) (.t 49),none,[]⟩])))
 (.ops [qo 36 (.mv (.t 7)),
 qo 37 (.bin .sub false (.t 36) (.c (.int .u64 1))),
 qo 7 (.mv (.t 37))])))))
 (.seq (.ops [qo 52 (.mv (.t 5)),
 ⟨some 53,.call 65 [.t 52],none,[.f 1]⟩,
 qo 51 (.mv (.t 53)),
 qo 54 (.ext (.t 51) 0),
 qo 55 (.ext (.t 51) 1),
 qo 10 (.mv (.t 54)),
 qo 11 (.mv (.t 55))])
 (.seq (.block 2 (.loop (.seq (.seq (.ops [qo 56 (.mv (.t 11)),
 qo 57 (.bin .gtr false (.t 56) (.c (.int .u64 0))),
 qo 58 (.mv (.t 57)),
 ⟨some 59,.mv (.t 5),some (58,true),[]⟩,
 ⟨some 60,.nilc (.t 59),some (58,true),[]⟩,
 ⟨some 61,.fld 4 (.t 60),some (58,true),[]⟩,
 ⟨some 62,.load false 1 (.t 61),some (58,true),[]⟩,
 ⟨some 63,.not (.t 62),some (58,true),[]⟩,
 qo 64 (.pick (.t 58) (.t 63) (.c (.bool false)))])
 (.cond (.t 64) (.skip)
 (.exit 2)))
 (.seq (.block 3 (.seq (.ops [qo 68 (.mv (.t 0)),
 qo 69 (.mv (.t 5)),
 qo 70 (.nilc (.t 69)),
 qo 71 (.fld 1 (.t 70)),
 qo 72 (.load false 1 (.t 71)),
 ⟨some 73,.call 67 [.t 68,.t 72],none,[.f 1]⟩,
 qo 67 (.mv (.t 73)),
 qo 74 (.ext (.t 67) 0),
 qo 75 (.ext (.t 67) 1),
 ⟨some 12,.zero [.int .i64 0,.int .i64 0,.int .i64 0,.string ⟨[].toArray⟩,.slice none 0 0],none,[]⟩,
 ⟨none,.store 5 (.t 12) (.t 74),none,[]⟩,
 qo 13 (.mv (.t 75))])
 (.seq (.seq (.ops [qo 76 (.mv (.t 13)),
 qo 77 (.bin .lss false (.t 76) (ci 0))])
 (.cond (.t 77) (.seq (.ops [qo 78 (.mv (.t 5)),
 qo 79 (.nilc (.t 78)),
 qo 80 (.fld 4 (.t 79)),
 ⟨none,.store 1 (.t 80) (.c (.bool true)),none,[]⟩])
 (.exit 2))
 (.skip)))
 (.seq (.ops [qo 81 (.fld 1 (.t 4)),
 qo 82 (.load false 1 (.t 81)),
 qo 83 (.load true 5 (.t 12)),
 qo 84 (.lit 5 [.t 83]),
 ⟨some 85,.app 5 (.t 82) (.t 84),none,[.f 1]⟩,
 qo 86 (.fld 1 (.t 4)),
 ⟨none,.store 1 (.t 86) (.t 85),none,[]⟩])
 (.ops [qo 87 (.mv (.t 5)),
 qo 88 (.mv (.t 13)),
 qo 89 (.nilc (.t 87)),
 qo 90 (.fld 1 (.t 89)),
 ⟨none,.store 1 (.t 90) (.t 88),none,[]⟩])))))
 (.ops [qo 65 (.mv (.t 11)),
 qo 66 (.bin .sub false (.t 65) (.c (.int .u64 1))),
 qo 11 (.mv (.t 66))])))))
 (.seq (.seq (.ops [qo 91 (.mv (.t 5)),
 qo 92 (.nilc (.t 91)),
 qo 93 (.fld 4 (.t 92)),
 qo 94 (.load false 1 (.t 93)),
 qo 95 (.mv (.t 94)),
 ⟨some 96,.load true 2 (.t 4),some (95,false),[]⟩,
 ⟨some 97,.call 68 [.t 96],some (95,false),[.f 1]⟩,
 ⟨some 98,.not (.t 97),some (95,false),[]⟩,
 qo 99 (.pick (.t 95) (.c (.bool true)) (.t 98)),
 qo 100 (.mv (.t 99)),
 ⟨some 101,.load true 2 (.t 4),some (100,false),[]⟩,
 ⟨some 102,.call 69 [.t 101],some (100,false),[.f 1]⟩,
 ⟨some 103,.mv (.t 0),some (100,false),[]⟩,
 ⟨some 104,.bin .neq false (.t 102) (.t 103),some (100,false),[]⟩,
 qo 105 (.pick (.t 100) (.c (.bool true)) (.t 104))])
 (.cond (.t 105) (.seq (.ops [qo 106 (.build [.slice none 0 0,.slice none 0 0] []),
 ⟨none,.store 2 (.t 2) (.t 106),none,[]⟩,
 qo 3 (.mv (.c (.bool false)))])
 (.ret))
 (.skip)))
 (.seq (.ops [qo 107 (.load true 2 (.t 4)),
 ⟨none,.store 2 (.t 2) (.t 107),none,[]⟩,
 qo 3 (.mv (.c (.bool true)))])
 (.ret))))))))))
theorem lk_i_GetDict:look Tryz.prog 15 = some (108,m_i_GetDict,[.cell true 2 2,.tm 3]):=by kernel_rfl
def m_i_decoder_head:M:=.seq (.ops [qo 2 (.mv (ci 0)),
 qo 3 (.mv (.c (.int .u64 0)))])
 (.seq (.ops [qo 4 (.mv (.f 124))])
 (.seq (.seq (.ops [qo 8 (.mv (.t 0)),
 qo 9 (.nilc (.t 8)),
 qo 10 (.fld 2 (.t 9)),
 qo 11 (.load false 1 (.t 10))])
 (.cond (.t 11) (.ops [qo 4 (.mv (.f 125))])
 (.skip)))
 (.seq (.ops [qo 13 (.mv (.t 4)),
 qo 14 (.mv (.t 0)),
 qo 15 (.nilc (.t 14)),
 qo 16 (.fld 0 (.t 15)),
 qo 17 (.load false 1 (.t 16)),
 qo 18 (.mv (.t 0)),
 qo 19 (.nilc (.t 18)),
 qo 20 (.fld 1 (.t 19)),
 qo 21 (.load false 1 (.t 20)),
 ⟨some 22,.callv (.t 13) [.t 17,.t 21],none,[.f 0]⟩,
 qo 12 (.mv (.t 22)),
 qo 23 (.ext (.t 12) 0),
 qo 24 (.ext (.t 12) 1),
 qo 25 (.ext (.t 12) 2),
 qo 5 (.mv (.t 23)),
 qo 6 (.mv (.t 24)),
 qo 7 (.mv (.t 25))])
 (.seq (.seq (.ops [qo 26 (.mv (.t 0)),
 qo 27 (.nilc (.t 26)),
 qo 28 (.fld 4 (.t 27)),
 qo 29 (.load false 1 (.t 28)),
 qo 30 (.mv (.t 29)),
 ⟨some 31,.mv (.t 7),some (30,false),[]⟩,
 ⟨some 32,.bin .lss false (.t 31) (ci 0),some (30,false),[]⟩,
 qo 33 (.pick (.t 30) (.c (.bool true)) (.t 32))])
 (.cond (.t 33) (.seq (.ops [qo 34 (.mv (.t 0)),
 qo 35 (.nilc (.t 34)),
 qo 36 (.fld 4 (.t 35)),
 ⟨none,.store 1 (.t 36) (.c (.bool true)),none,[]⟩])
 (.seq (.ops [qo 2 (.mv (ci (-1))),
 qo 3 (.mv (.c (.int .u64 0)))])
 (.ret)))
 (.skip)))
 (.seq (.ops [qo 37 (.mv (.t 0)),
 qo 38 (.mv (.t 7)),
 qo 39 (.nilc (.t 37)),
 qo 40 (.fld 1 (.t 39)),
 ⟨none,.store 1 (.t 40) (.t 38),none,[]⟩])
 (.seq (.ops [qo 41 (.mv (.t 5)),
 qo 42 (.mv (.t 6)),
 qo 2 (.mv (.t 41)),
 qo 3 (.mv (.t 42))])
 (.ret)))))))
theorem lk_i_decoder_head:look Tryz.prog 65 = some (43,m_i_decoder_head,[.tm 2,.tm 3]):=by kernel_rfl
def m_i_decoder_bytes:M:=.seq (.ops [⟨some 4,.mv (.c (.string ⟨[].toArray⟩)),none,[]⟩])
 (.seq (.seq (.ops [qo 6 (.mv (.t 0)),
 qo 7 (.nilc (.t 6)),
 qo 8 (.fld 4 (.t 7)),
 qo 9 (.load false 1 (.t 8)),
 qo 10 (.mv (.t 9)),
 ⟨some 11,.mv (.t 1),some (10,false),[]⟩,
 ⟨some 12,.mv (.t 0),some (10,false),[]⟩,
 ⟨some 13,.nilc (.t 12),some (10,false),[]⟩,
 ⟨some 14,.fld 0 (.t 13),some (10,false),[]⟩,
 ⟨some 15,.load false 1 (.t 14),some (10,false),[]⟩,
 ⟨some 16,.lens (.t 15),some (10,false),[]⟩,
 ⟨some 17,.mv (.t 0),some (10,false),[]⟩,
 ⟨some 18,.nilc (.t 17),some (10,false),[]⟩,
 ⟨some 19,.fld 1 (.t 18),some (10,false),[]⟩,
 ⟨some 20,.load false 1 (.t 19),some (10,false),[]⟩,
 ⟨some 21,.bin .sub false (.t 16) (.t 20),some (10,false),[]⟩,
 ⟨some 22,.conv .u64 (.t 21),some (10,false),[]⟩,
 ⟨some 23,.bin .gtr false (.t 11) (.t 22),some (10,false),[]⟩,
 qo 24 (.pick (.t 10) (.c (.bool true)) (.t 23))])
 (.cond (.t 24) (.seq (.ops [qo 25 (.mv (.t 0)),
 qo 26 (.nilc (.t 25)),
 qo 27 (.fld 4 (.t 26)),
 ⟨none,.store 1 (.t 27) (.c (.bool true)),none,[]⟩])
 (.seq (.ops [⟨some 4,.mv (.c (.string ⟨[].toArray⟩)),none,[]⟩])
 (.ret)))
 (.skip)))
 (.seq (.ops [qo 28 (.mv (.t 0)),
 qo 29 (.nilc (.t 28)),
 qo 30 (.fld 1 (.t 29)),
 qo 31 (.load false 1 (.t 30)),
 qo 5 (.mv (.t 31))])
 (.seq (.ops [qo 32 (.mv (.t 0)),
 qo 33 (.nilc (.t 32)),
 qo 34 (.fld 1 (.t 33)),
 qo 35 (.load false 1 (.t 34)),
 qo 36 (.mv (.t 1)),
 qo 37 (.conv .i64 (.t 36)),
 qo 38 (.bin .add false (.t 35) (.t 37)),
 qo 39 (.nilc (.t 32)),
 qo 40 (.fld 1 (.t 39)),
 ⟨none,.store 1 (.t 40) (.t 38),none,[]⟩])
 (.seq (.ops [qo 41 (.mv (.t 0)),
 qo 42 (.nilc (.t 41)),
 qo 43 (.fld 0 (.t 42)),
 qo 44 (.load false 1 (.t 43)),
 qo 45 (.mv (.t 5)),
 qo 46 (.mv (.t 0)),
 qo 47 (.nilc (.t 46)),
 qo 48 (.fld 1 (.t 47)),
 qo 49 (.load false 1 (.t 48)),
 qo 50 (.slcs (.t 44) (some (.t 45)) (some (.t 49))),
 qo 4 (.mv (.t 50))])
 (.ret)))))
theorem lk_i_decoder_bytes:look Tryz.prog 66 = some (51,m_i_decoder_bytes,[.tm 4]):=by kernel_rfl
def m_i_DictOk:M:=.seq (.ops [qo 1 (.box (.t 0)),
 qo 2 (.mv (.c (.bool false)))])
 (.seq (.ops [qo 3 (.fld 0 (.t 1)),
 qo 4 (.load false 1 (.t 3)),
 ⟨some 5,.call 129 [.t 4],none,[.f 1]⟩,
 qo 6 (.mv (.t 5)),
 ⟨some 7,.fld 1 (.t 1),some (6,true),[]⟩,
 ⟨some 8,.load false 1 (.t 7),some (6,true),[]⟩,
 ⟨some 9,.call 130 [.t 8],some (6,true),[.f 1]⟩,
 qo 10 (.pick (.t 6) (.t 9) (.c (.bool false))),
 qo 11 (.mv (.t 10)),
 ⟨some 12,.load true 2 (.t 1),some (11,true),[]⟩,
 ⟨some 13,.call 69 [.t 12],some (11,true),[.f 1]⟩,
 ⟨some 14,.lens (.t 13),some (11,true),[]⟩,
 ⟨some 15,.bin .leq false (.t 14) (ci 60000),some (11,true),[]⟩,
 qo 16 (.pick (.t 11) (.t 15) (.c (.bool false))),
 qo 2 (.mv (.t 16))])
 (.ret))
theorem lk_i_DictOk:look Tryz.prog 68 = some (17,m_i_DictOk,[.tm 2]):=by kernel_rfl
def m_i_putDict:M:=.seq (.ops [qo 1 (.box (.t 0)),
 ⟨some 2,.mv (.c (.string ⟨[].toArray⟩)),none,[]⟩])
 (.seq (.ops [qo 3 (.zbld 152 5)])
 (.seq (.ops [qo 8 (.fld 0 (.t 1)),
 qo 9 (.load false 1 (.t 8)),
 qo 10 (.len (.t 9)),
 qo 11 (.conv .u64 (.t 10)),
 ⟨some 12,.call 132 [ci 4,.t 11],none,[.f 1]⟩,
 ⟨some 13,.call 131 [.t 3,.t 12],none,[.f 1]⟩])
 (.seq (.seq (.ops [qo 14 (.fld 0 (.t 1)),
 qo 15 (.load false 1 (.t 14)),
 qo 16 (.len (.t 15)),
 qo 17 (.mv (ci 0))])
 (.block 0 (.loop (.seq (.ops [qo 18 (.bin .lss false (.t 17) (.t 16))])
 (.seq (.cond (.t 18) (.skip)
 (.exit 0))
 (.seq (.block 1 (.seq (.ops [qo 19 (.ix 1 (.t 15) (.t 17)),
 qo 20 (.load false 1 (.t 19)),
 qo 5 (.mv (.t 20))])
 (.ops [qo 21 (.mv (.t 5)),
 qo 22 (.lens (.t 21)),
 qo 23 (.conv .u64 (.t 22)),
 ⟨some 24,.call 132 [ci 3,.t 23],none,[.f 1]⟩,
 qo 25 (.mv (.t 5)),
 qo 26 (.bin .add false (.t 24) (.t 25)),
 ⟨some 27,.call 131 [.t 3,.t 26],none,[.f 1]⟩])))
 (.ops [qo 28 (.bin .add false (.t 17) (ci 1)),
 qo 17 (.mv (.t 28))])))))))
 (.seq (.ops [qo 29 (.fld 1 (.t 1)),
 qo 30 (.load false 1 (.t 29)),
 qo 31 (.len (.t 30)),
 qo 32 (.conv .u64 (.t 31)),
 ⟨some 33,.call 132 [ci 4,.t 32],none,[.f 1]⟩,
 ⟨some 34,.call 131 [.t 3,.t 33],none,[.f 1]⟩])
 (.seq (.seq (.ops [qo 35 (.fld 1 (.t 1)),
 qo 36 (.load false 1 (.t 35)),
 qo 37 (.len (.t 36)),
 qo 38 (.mv (ci 0))])
 (.block 2 (.loop (.seq (.ops [qo 39 (.bin .lss false (.t 38) (.t 37))])
 (.seq (.cond (.t 39) (.skip)
 (.exit 2))
 (.seq (.block 3 (.seq (.ops [qo 40 (.ix 5 (.t 36) (.t 38)),
 qo 41 (.load true 5 (.t 40)),
 ⟨some 7,.zero [.int .i64 0,.int .i64 0,.int .i64 0,.string ⟨[].toArray⟩,.slice none 0 0],none,[]⟩,
 ⟨none,.store 5 (.t 7) (.t 41),none,[]⟩])
 (.ops [qo 42 (.load true 5 (.t 7)),
 ⟨some 43,.call 133 [.t 3,.t 42],none,[.f 1]⟩])))
 (.ops [qo 44 (.bin .add false (.t 38) (ci 1)),
 qo 38 (.mv (.t 44))])))))))
 (.seq (.ops [⟨some 45,.call 134 [.t 3],none,[.f 1]⟩,
 qo 2 (.mv (.t 45))])
 (.ret)))))))
theorem lk_i_putDict:look Tryz.prog 69 = some (46,m_i_putDict,[.tm 2]):=by kernel_rfl
def m_i_NamesOk:M:=.seq (.ops [qo 2 (.mv (.c (.bool false)))])
 (.seq (.seq (.ops [qo 5 (.mv (.t 0)),
 qo 6 (.len (.t 5)),
 qo 7 (.mv (ci 0))])
 (.block 0 (.loop (.seq (.ops [qo 8 (.bin .lss false (.t 7) (.t 6))])
 (.seq (.cond (.t 8) (.skip)
 (.exit 0))
 (.seq (.block 1 (.seq (.ops [qo 9 (.mv (.t 7)),
 qo 10 (.ix 1 (.t 5) (.t 7)),
 qo 11 (.load false 1 (.t 10)),
 qo 3 (.mv (.t 9)),
 qo 4 (.mv (.t 11))])
 (.seq (.ops [qo 12 (.mv (.t 4)),
 qo 13 (.lens (.t 12)),
 qo 14 (.bin .gtr false (.t 13) (ci 100)),
 qo 15 (.mv (.t 14)),
 ⟨some 16,.mv (.t 4),some (15,false),[]⟩,
 ⟨some 17,.call 172 [.t 16],some (15,false),[.f 1]⟩,
 ⟨some 18,.not (.t 17),some (15,false),[]⟩,
 qo 19 (.pick (.t 15) (.c (.bool true)) (.t 18)),
 qo 20 (.mv (.t 19)),
 ⟨some 21,.mv (.t 3),some (20,false),[]⟩,
 ⟨some 22,.bin .geq false (.t 21) (ci 100),some (20,false),[]⟩,
 qo 23 (.pick (.t 20) (.c (.bool true)) (.t 22)),
 qo 24 (.mv (.t 23)),
 ⟨some 25,.mv (.t 0),some (24,false),[]⟩,
 ⟨some 26,.mv (.t 3),some (24,false),[]⟩,
 ⟨some 27,.slc 1 (.t 25) none (some (.t 26)),some (24,false),[]⟩,
 ⟨some 28,.mv (.t 4),some (24,false),[]⟩,
 ⟨some 29,.call 173 [.t 27,.t 28],some (24,false),[.f 1]⟩,
 qo 30 (.pick (.t 24) (.c (.bool true)) (.t 29))])
 (.cond (.t 30) (.seq (.ops [qo 2 (.mv (.c (.bool false)))])
 (.ret))
 (.skip)))))
 (.ops [qo 31 (.bin .add false (.t 7) (ci 1)),
 qo 7 (.mv (.t 31))])))))))
 (.seq (.ops [qo 2 (.mv (.c (.bool true)))])
 (.ret)))
theorem lk_i_NamesOk:look Tryz.prog 129 = some (32,m_i_NamesOk,[.tm 2]):=by kernel_rfl
def m_i_TableOk:M:=.seq (.ops [qo 2 (.mv (.c (.bool false)))])
 (.seq (.seq (.ops [qo 6 (.mv (.t 0)),
 qo 7 (.len (.t 6)),
 qo 8 (.bin .gtr false (.t 7) (ci 60))])
 (.cond (.t 8) (.seq (.ops [qo 2 (.mv (.c (.bool false)))])
 (.ret))
 (.skip)))
 (.seq (.seq (.ops [qo 9 (.mv (.t 0)),
 qo 10 (.len (.t 9)),
 qo 11 (.mv (ci 0))])
 (.block 0 (.loop (.seq (.ops [qo 12 (.bin .lss false (.t 11) (.t 10))])
 (.seq (.cond (.t 12) (.skip)
 (.exit 0))
 (.seq (.block 1 (.seq (.ops [qo 13 (.mv (.t 11)),
 qo 14 (.ix 5 (.t 9) (.t 11)),
 qo 15 (.load true 5 (.t 14)),
 qo 3 (.zero [.int .i64 0]),
 ⟨some 4,.zero [.int .i64 0,.int .i64 0,.int .i64 0,.string ⟨[].toArray⟩,.slice none 0 0],none,[]⟩,
 ⟨none,.store 1 (.t 3) (.t 13),none,[]⟩,
 ⟨none,.store 5 (.t 4) (.t 15),none,[]⟩])
 (.seq (.seq (.ops [qo 16 (.load true 5 (.t 4)),
 ⟨some 17,.call 87 [.t 16],none,[.f 1]⟩,
 qo 18 (.not (.t 17))])
 (.cond (.t 18) (.seq (.ops [qo 2 (.mv (.c (.bool false)))])
 (.ret))
 (.skip)))
 (.seq (.ops [qo 5 (.zero [.bool false]),
 ⟨none,.store 1 (.t 5) (.c (.bool true)),none,[]⟩])
 (.seq (.ops [qo 19 (.load true 5 (.t 4)),
 qo 20 (.mkfn 175 [.t 5,.t 3]),
 ⟨some 21,.call 174 [.t 19,.t 20],none,[.f 1]⟩])
 (.seq (.ops [qo 22 (.load false 1 (.t 5)),
 qo 23 (.not (.t 22))])
 (.cond (.t 23) (.seq (.ops [qo 2 (.mv (.c (.bool false)))])
 (.ret))
 (.skip))))))))
 (.ops [qo 24 (.bin .add false (.t 11) (ci 1)),
 qo 11 (.mv (.t 24))])))))))
 (.seq (.ops [qo 2 (.mv (.c (.bool true)))])
 (.ret))))
theorem lk_i_TableOk:look Tryz.prog 130 = some (25,m_i_TableOk,[.tm 2]):=by kernel_rfl
def m_slices_Contains_impl_Names_string:M:=.seq (.ops [qo 4 (.mv (.c (.bool false)))])
 (.seq (.ops [qo 5 (.mv (.t 0)),
 qo 6 (.mv (.t 1)),
 ⟨some 7,.call 216 [.t 5,.t 6],none,[.f 1]⟩,
 qo 8 (.bin .geq false (.t 7) (ci 0)),
 qo 4 (.mv (.t 8))])
 (.ret))
theorem lk_slices_Contains_impl_Names_string:look Tryz.prog 173 = some (9,m_slices_Contains_impl_Names_string,[.tm 4]):=by kernel_rfl
def m_i_walk:M:=.seq (.ops [qo 2 (.box (.t 0))])
 (.seq (.ops [qo 6 (.mv (.t 1)),
 qo 7 (.load true 5 (.t 2)),
 ⟨some 8,.callv (.t 6) [.t 7],none,[.f 1]⟩])
 (.seq (.ops [qo 9 (.fld 4 (.t 2)),
 qo 10 (.load false 1 (.t 9)),
 qo 11 (.len (.t 10)),
 qo 12 (.mv (ci 0))])
 (.block 0 (.loop (.seq (.ops [qo 13 (.bin .lss false (.t 12) (.t 11))])
 (.seq (.cond (.t 13) (.skip)
 (.exit 0))
 (.seq (.block 1 (.seq (.ops [qo 14 (.ix 5 (.t 10) (.t 12)),
 qo 15 (.load true 5 (.t 14)),
 ⟨some 5,.zero [.int .i64 0,.int .i64 0,.int .i64 0,.string ⟨[].toArray⟩,.slice none 0 0],none,[]⟩,
 ⟨none,.store 5 (.t 5) (.t 15),none,[]⟩])
 (.ops [qo 16 (.load true 5 (.t 5)),
 qo 17 (.mv (.t 1)),
 ⟨some 18,.call 174 [.t 16,.t 17],none,[.f 1]⟩])))
 (.ops [qo 19 (.bin .add false (.t 12) (ci 1)),
 qo 12 (.mv (.t 19))]))))))))
theorem lk_i_walk:look Tryz.prog 174 = some (20,m_i_walk,[]):=by kernel_rfl
def m_i_TableOk_1:M:=.seq (.ops [qo 3 (.box (.t 0))])
 (.seq (.ops [qo 4 (.fld 0 (.t 3)),
 qo 5 (.load false 1 (.t 4)),
 qo 6 (.bin .eql false (.t 5) (ci 9)),
 qo 7 (.mv (.t 6)),
 ⟨some 8,.fld 1 (.t 3),some (7,true),[]⟩,
 ⟨some 9,.load false 1 (.t 8),some (7,true),[]⟩,
 ⟨some 10,.bin .eql false (.t 9) (ci 6),some (7,true),[]⟩,
 qo 11 (.pick (.t 7) (.t 10) (.c (.bool false)))])
 (.cond (.t 11) (.ops [qo 12 (.load false 1 (.t 1)),
 qo 13 (.mv (.t 12)),
 ⟨some 14,.load true 5 (.t 3),some (13,true),[]⟩,
 ⟨some 15,.call 176 [.t 14],some (13,true),[.f 0]⟩,
 qo 16 (.pick (.t 13) (.t 15) (.c (.bool false))),
 qo 17 (.mv (.t 16)),
 ⟨some 18,.fld 4 (.t 3),some (17,true),[]⟩,
 ⟨some 19,.load false 1 (.t 18),some (17,true),[]⟩,
 ⟨some 20,.ix 5 (.t 19) (ci 0),some (17,true),[]⟩,
 ⟨some 21,.fld 1 (.t 20),some (17,true),[]⟩,
 ⟨some 22,.load false 1 (.t 21),some (17,true),[]⟩,
 ⟨some 23,.load false 1 (.t 2),some (17,true),[]⟩,
 ⟨some 24,.bin .lss false (.t 22) (.t 23),some (17,true),[]⟩,
 qo 25 (.pick (.t 17) (.t 24) (.c (.bool false))),
 ⟨none,.store 1 (.t 1) (.t 25),none,[]⟩])
 (.skip)))
theorem lk_i_TableOk_1:look Tryz.prog 175 = some (26,m_i_TableOk_1,[]):=by kernel_rfl
def m_i_isRef:M:=.seq (.ops [qo 1 (.box (.t 0)),
 qo 2 (.mv (.c (.bool false)))])
 (.seq (.ops [qo 3 (.fld 4 (.t 1)),
 qo 4 (.load false 1 (.t 3)),
 qo 5 (.ix 5 (.t 4) (ci 0)),
 qo 6 (.fld 0 (.t 5)),
 qo 7 (.load false 1 (.t 6)),
 qo 8 (.bin .eql false (.t 7) (ci 3)),
 qo 9 (.mv (.t 8)),
 ⟨some 10,.fld 4 (.t 1),some (9,true),[]⟩,
 ⟨some 11,.load false 1 (.t 10),some (9,true),[]⟩,
 ⟨some 12,.ix 5 (.t 11) (ci 0),some (9,true),[]⟩,
 ⟨some 13,.fld 1 (.t 12),some (9,true),[]⟩,
 ⟨some 14,.load false 1 (.t 13),some (9,true),[]⟩,
 ⟨some 15,.bin .geq false (.t 14) (ci 0),some (9,true),[]⟩,
 qo 16 (.pick (.t 9) (.t 15) (.c (.bool false))),
 qo 2 (.mv (.t 16))])
 (.ret))
theorem lk_i_isRef:look Tryz.prog 176 = some (17,m_i_isRef,[.tm 2]):=by kernel_rfl
def m_slices_Index_impl_Names_string:M:=.seq (.ops [qo 4 (.mv (ci 0))])
 (.seq (.seq (.ops [qo 6 (.mv (.t 0)),
 qo 7 (.len (.t 6)),
 qo 8 (.mv (ci 0))])
 (.block 0 (.loop (.seq (.ops [qo 9 (.bin .lss false (.t 8) (.t 7))])
 (.seq (.cond (.t 9) (.skip)
 (.exit 0))
 (.seq (.block 1 (.seq (.ops [qo 10 (.mv (.t 8)),
 qo 5 (.mv (.t 10))])
 (.seq (.ops [qo 11 (.mv (.t 1)),
 qo 12 (.mv (.t 0)),
 qo 13 (.mv (.t 5)),
 qo 14 (.ix 1 (.t 12) (.t 13)),
 qo 15 (.load false 1 (.t 14)),
 qo 16 (.bin .eql false (.t 11) (.t 15))])
 (.cond (.t 16) (.seq (.ops [qo 17 (.mv (.t 5)),
 qo 4 (.mv (.t 17))])
 (.ret))
 (.skip)))))
 (.ops [qo 18 (.bin .add false (.t 8) (ci 1)),
 qo 8 (.mv (.t 18))])))))))
 (.seq (.ops [qo 4 (.mv (ci (-1)))])
 (.ret)))
theorem lk_slices_Index_impl_Names_string:look Tryz.prog 216 = some (19,m_slices_Index_impl_Names_string,[.tm 4]):=by kernel_rfl
end
/- ValueSame -/
section
open Go.RowKit
def VSmA (n:Nat):Prop:=∀ (x y:V) (cs ds:List Value) (w:World),x.nodes <= n -> Rd w x.d cs -> Rd w y.d ds -> x.bulk <= 4294967295 -> y.bulk <= 4294967295 ->
 Calls Tryz.prog 93 #[.agg cs.toArray,.agg ds.toArray] w fun e w' => e = .returned (.bool (decide (x = y))) /\ Below w.heap.size w w'
def VSmB (n:Nat):Prop:=∀ (x y:List V) (va vb:Value) (w:World),V.nodess x <= n -> Rd w (.sl 5 (V.ds x)) [va] -> Rd w (.sl 5 (V.ds y)) [vb] -> x.length + V.bulks x <= 4294967295 -> y.length + V.bulks y <= 4294967295 ->
 Calls Tryz.prog 149 #[va,vb,.func (.func 93) #[] #[]] w fun e w' => e = .returned (.bool (decide (x = y))) /\ Below w.heap.size w w'
set_option maxHeartbeats 800000 in
theorem VSmB_of {n:Nat} (hA:VSmA n):VSmB n:=by
 intro la lb va vb w hn h h2 hla hlb
 obtain ⟨a,c,rfl,hg⟩:=h.values
 obtain ⟨a',c',rfl,hg'⟩:=h2.values
 by_cases hlen:la.length = lb.length
 ·have hlt:((la.length:Int) != (lb.length:Int)) = false:=by simp [hlen]
  have HL:=Lib.hid hlen; clear hlen
  go_enter Tryz.func149,Tryz.ntmps149
  go_wp2
  go_loopw [17] (fun i wr => ∃ (k:Nat),k <= la.length /\ i = .int .i64 k /\ la.take k = lb.take k /\ Below w.heap.size w wr) (fun i _ => la.length - (intOf i).toNat)
  case atStart => exact ⟨0,Nat.zero_le _,rfl,by simp,Below.refl _ _⟩
  case round =>
   obtain ⟨k,hk,rfl,htk,hbel⟩:=hrel
   have HT:=Lib.hid htk; clear htk
   by_cases hk1:k < la.length
   ·have hk2:k < lb.length:=by have:=HL.out; omega
    obtain ⟨_,_,b,o,rfl,hb,hcell⟩:=hg (by intro e; rw [e] at hk1; simp at hk1)
    obtain ⟨_,_,b',o',rfl,hb',hcell'⟩:=hg' (by intro e; rw [e] at hk2; simp at hk2)
    obtain ⟨v0,v1,v2,v3,v4,hr,c0,c1,c2,c3,c4⟩:=hcell k hk1
    obtain ⟨x0,x1,x2,x3,x4,hs,d0,d1,d2,d3,d4⟩:=hcell' k hk2
    obtain ⟨k1,k2,k3,s4,a6,n6,m6,hcs⟩:=V.form hr
    obtain ⟨j1,j2,j3,t4,b6,p6,q6,hds⟩:=V.form hs
    simp only [List.cons.injEq,and_true] at hcs hds
    obtain ⟨rfl,rfl,rfl,rfl,rfl⟩:=hcs
    obtain ⟨rfl,rfl,rfl,rfl,rfl⟩:=hds
    clear hcell hcell' hg hg'
    obtain ⟨hbc,_⟩:=bcell hbel
    have hsz:=hbel.size
    have hi1:(0:Int) <= k:=by omega
    have hi2:(k:Int) < lb.length:=by omega
    have hi3:(k:Int) < la.length:=by omega
    have hz1:b < wr.heap.size:=by omega
    have hz2:b' < wr.heap.size:=by omega
    have hnk:=Nat.le_trans (V.nodes_get la k hk1) hn
    have hr':=hr.below hbel
    have hs':=hs.below hbel
    have hA2:=(hbel.alloc hsz (.cells #[.int .i64 k1,.int .i64 k2,.int .i64 k3,.string ⟨s4.toArray⟩,.slice a6 n6 m6] 41)).alloc (by simp; omega) (.cells #[.int .i64 j1,.int .i64 j2,.int .i64 j3,.string ⟨t4.toArray⟩,.slice b6 p6 q6] 41)
    by_cases he:la[k] = lb[k]
    ·have hd:=Lib.hid (decide_eq_true he)
     have HE:=Lib.hid he
     clear he
     go_wp2_with (go_at_call 93; refine (hA _ _ _ _ _ hnk ((hr'.alloc _).alloc _) ((hs'.alloc _).alloc _) (V.bulk_get hla k hk1) (V.bulk_get hlb k hk2)).mono ?_; rw [hd.out]; rintro e w1 ⟨rfl,hb1⟩)
     go_roundw
     case rel => exact ⟨k + 1,by omega,by go_num,take_eq_snoc HT.out hk1 hk2 HE.out,below2 hA2 hb1 (Nat.le_refl _)⟩
     case measure => simp [intOf] <;> omega
    ·have hd:=Lib.hid (decide_eq_false he)
     have HE:=Lib.hid (decide_eq_false (ne_of_get hk1 hk2 he))
     clear he
     go_wp2_with (go_at_call 93; refine (hA _ _ _ _ _ hnk ((hr'.alloc _).alloc _) ((hs'.alloc _).alloc _) (V.bulk_get hla k hk1) (V.bulk_get hlb k hk2)).mono ?_; rw [hd.out]; rintro e w1 ⟨rfl,hb1⟩)
     go_ret
     exact ⟨by rw [HE.out]; rfl,below2 hA2 hb1 (Nat.le_refl _)⟩
   ·obtain rfl:k = la.length:=by omega
    have he:la = lb:=by have:=HT.out; rw [List.take_length,HL.out,List.take_length] at this; exact this
    have H:=Lib.hid (decide_eq_true he)
    clear he
    go_wp2
    go_ret
    exact ⟨by rw [H.out]; rfl,hbel⟩
 ·have H:=Lib.hid (decide_eq_false (show ¬ la = lb from fun e => hlen (by rw [e])))
  go_enter Tryz.func149,Tryz.ntmps149
  go_wp2
  go_ret
  exact ⟨by rw [H.out]; rfl,Below.refl _ _⟩
set_option maxHeartbeats 800000 in
theorem VSmA_of {n:Nat} (hB:VSmB n):VSmA (n + 1):=by
 intro x y cs ds w hn h h2 hx hy
 obtain ⟨k,m,q,s,kids,v1,rfl,rfl,hkids⟩:=V.lay h
 obtain ⟨k',m',q',s',kids',v1',rfl,rfl,hkids'⟩:=V.lay h2
 have hnk:V.nodess kids <= n:=by simp only [V.nodes] at hn; omega
 simp only [V.bulk] at hx hy
 have hA:=((Below.refl w.heap.size w).alloc (Nat.le_refl _) (.cells #[.int .i64 k,.int .i64 m,.int .i64 q,.string ⟨s.toArray⟩,v1] 41)).alloc (by simp) (.cells #[.int .i64 k',.int .i64 m',.int .i64 q',.string ⟨s'.toArray⟩,v1'] 41)
 by_cases e1:k = k' /\ m = m' /\ q = q' /\ s = s'
 ·obtain ⟨rfl,rfl,rfl,rfl⟩:=e1
  go_enter Tryz.func93,Tryz.ntmps93
  go_wp2_with fail
  refine (hB _ _ _ _ _ hnk ((hkids.below hA)) (hkids'.below hA) (by omega) (by omega)).mono ?_
  by_cases e4:kids = kids'
  ·subst e4
   rw [decide_eq_true rfl]
   rintro e w2 ⟨rfl,hb2⟩
   go_wp2
   go_ret
   exact ⟨by simp,below2 hA hb2 (Nat.le_refl _)⟩
  ·have H:=Lib.hid (V.ne_mk (k:=k) (m:=m) (e:=q) (s:=s) (kids:=kids) (k':=k) (m':=m) (e':=q) (s':=s) (kids':=kids') (by simp [e4]))
   rw [decide_eq_false e4]
   rintro e w2 ⟨rfl,hb2⟩
   clear e4
   go_wp2
   go_ret
   exact ⟨by rw [H.out]; rfl,below2 hA hb2 (Nat.le_refl _)⟩
 ·have H:=Lib.hid (V.ne_mk (k:=k) (m:=m) (e:=q) (s:=s) (kids:=kids) (k':=k') (m':=m') (e':=q') (s':=s') (kids':=kids') (by rintro ⟨a,b,c,d,_⟩; exact e1 ⟨a,b,c,d⟩))
  have HA:=Lib.hid hA
  by_cases c1:k = k'
  ·subst c1
   by_cases c2:m = m'
   ·subst c2
    by_cases c3:q = q'
    ·subst c3
     have c4:(s == s') = false:=by simpa using fun c => e1 ⟨rfl,rfl,rfl,c⟩
     clear e1
     go_enter Tryz.func93,Tryz.ntmps93
     go_wp2_with fail
     go_ret
     exact ⟨by rw [H.out]; rfl,HA.out⟩
    ·clear e1
     have c4:(q == q') = false:=by simpa using c3
     go_enter Tryz.func93,Tryz.ntmps93
     go_wp2_with fail
     go_ret
     exact ⟨by rw [H.out]; rfl,HA.out⟩
   ·clear e1
    have c4:(m == m') = false:=by simpa using c2
    go_enter Tryz.func93,Tryz.ntmps93
    go_wp2_with fail
    go_ret
    exact ⟨by rw [H.out]; rfl,HA.out⟩
  ·clear e1
   have c4:(k == k') = false:=by simpa using c1
   go_enter Tryz.func93,Tryz.ntmps93
   go_wp2_with fail
   go_ret
   exact ⟨by rw [H.out]; rfl,HA.out⟩
theorem VSm_all:∀ n,VSmA n
 | 0 => fun x y cs ds w hn => absurd x.nodes_pos (by omega)
 | n + 1 => VSmA_of (VSmB_of (VSm_all n))
theorem same_any (x y:V) (cs ds:List Value) (w:World) (h:Rd w x.d cs) (h2:Rd w y.d ds) (hx:x.bulk <= 4294967295) (hy:y.bulk <= 4294967295) :
  Calls Tryz.prog 93 #[.agg cs.toArray,.agg ds.toArray] w fun e w' => e = .returned (.bool (decide (x = y))) /\ Below w.heap.size w w':=VSm_all x.nodes x y cs ds w (Nat.le_refl _) h h2 hx hy
end
/- ValueKids -/
section
open Go.RowKit
set_option maxHeartbeats 400000 in
theorem isKey_any (x:V) (cs:List Value) (w:World) (h:Rd w x.d cs) :
  Calls Tryz.prog 222 #[.agg cs.toArray] w fun e w' => e = .returned (.bool (isKeyK x.kind)) /\ Below w.heap.size w w':=by
 obtain ⟨k,m,e,s,kids,v1,rfl,rfl,hkids⟩:=V.lay h
 have HA:=Lib.hid ((Below.refl w.heap.size w).alloc (Nat.le_refl _) (.cells #[.int .i64 k,.int .i64 m,.int .i64 e,.string ⟨s.toArray⟩,v1] 41))
 clear h hkids
 show Calls _ _ _ _ fun e' w' => e' = .returned (.bool (isKeyK k)) /\ _
 by_cases h5:k = 5
 ·subst h5
  go_enter Tryz.func222,Tryz.ntmps222
  go_wp2
  go_ret
  exact ⟨rfl,HA.out⟩
 ·have g5:(k == 5) = false:=by simpa using h5
  have H:=Lib.hid (show isKeyK k = (k == 3) by unfold isKeyK; rw [decide_eq_false h5,Bool.false_or]; rfl)
  go_enter Tryz.func222,Tryz.ntmps222
  go_wp2
  go_ret
  exact ⟨by rw [H.out]; rfl,HA.out⟩
def V.kidsOk (k:Int) (kids:List V):Bool :=
 if k = 7 then true else if k = 9 then decide (kids.length = 1) else if k = 8 then pairsOkI kids else decide (kids = [])
theorem len0' (l:List V):((l.length:Int) == 0) = decide (l = []):=by
 cases l with
 | nil => rfl
 | cons a r => simp; omega
set_option maxHeartbeats 4000000 in
set_option maxRecDepth 10000 in
theorem areKids_any (x:V) (cs:List Value) (w:World) (h:Rd w x.d cs) (hbk:x.bulk <= 4294967295) :
  Calls Tryz.prog 190 #[.agg cs.toArray] w fun e w' => e = .returned (.bool (V.kidsOk x.kind x.kids)) /\ Below w.heap.size w w':=by
 obtain ⟨q,n,e,s,xs,v1,rfl,rfl,hkids⟩:=V.lay h
 have hkb:xs.length + V.bulks xs <= 4294967295:=by simp only [V.bulk] at hbk; omega
 obtain ⟨a,c,rfl,hg⟩:=hkids.values
 show Calls _ _ _ _ fun e' w' => e' = .returned (.bool (V.kidsOk q xs)) /\ _
 obtain ⟨ok,hok⟩:∃ ok,V.kidsOk q xs = ok:=⟨_,rfl⟩
 rw [hok]
 have HOK:=Lib.hid hok; clear hok
 obtain ⟨W0,hW0⟩:∃ W0,W0 = w.alloc (.cells #[.int .i64 q,.int .i64 n,.int .i64 e,.string ⟨s.toArray⟩,.slice a xs.length c] 41):=⟨_,rfl⟩
 have HW:=Lib.hid hW0
 have hA0:Below w.heap.size w W0:=by rw [hW0]; exact (Below.refl _ _).alloc (Nat.le_refl _) _
 have hz:w.heap.size < W0.heap.size:=by rw [hW0]; simp
 have KB:Hid (∀ W,Below W0.heap.size W0 W -> W.cell? ⟨w.heap.size,0,none⟩ = some (.int .i64 q) /\ W.cell? ⟨w.heap.size,4,none⟩ = some (.slice a xs.length c)):=by
  intro W hb
  obtain ⟨hc,_⟩:=bcell hb
  simp only [hc _ _ hz]; subst hW0; simp
 clear hW0 h hkids hbk
 obtain ⟨f0,f4⟩:=KB.out _ (Below.refl _ _)
 by_cases q7:q = 7
 ·subst q7
  have H:=Lib.hid (show ok = true by rw [<- HOK.out]; rfl)
  go_enter Tryz.func190,Tryz.ntmps190
  go_wp2
  rw [<- HW.out]
  go_ret
  exact ⟨by rw [H.out]; rfl,hA0⟩
 by_cases q9:q = 9
 ·subst q9
  have H:=Lib.hid (show ok = decide (xs.length = 1) by rw [<- HOK.out]; rfl)
  go_enter Tryz.func190,Tryz.ntmps190
  go_wp2
  rw [<- HW.out]
  go_ret
  exact ⟨by rw [H.out]; exact ret_bool (by rw [Bool.eq_iff_iff]; simp; omega),hA0⟩
 by_cases q8:q = 8
 ·subst q8
  have HP:=Lib.hid (show ok = pairsOkI xs by rw [<- HOK.out]; rfl)
  obtain ⟨ks,hks⟩:∃ ks,odds xs = ks:=⟨_,rfl⟩
  have hkl:ks.length = (xs.length + 1) / 2:=by rw [<- hks,odds_length]
  have HKG:Hid (∀ j (h1:2 * j < xs.length) (h2:j < ks.length),ks[j] = xs[2 * j]):=by
   intro j h1 h2; subst hks; exact odds_get xs j h1
  have HKS:=Lib.hid hks; clear hks
  clear q7 q9
  go_enter Tryz.func190,Tryz.ntmps190
  go_wp2
  rw [<- HW.out]
  go_loopw [3] (fun i wr => ∃ (j k:Nat),k = 2 * j /\ j <= ks.length /\ i = .int .i64 k /\ uniq id (ks.take j) = true /\ Below W0.heap.size W0 wr) (fun i _ => xs.length + 1 - (intOf i).toNat)
  case atStart => exact ⟨0,0,rfl,Nat.zero_le _,rfl,by simp [uniq],Below.refl _ _⟩
  case round =>
   obtain ⟨j,k,hkj,hj,rfl,hu,hbel⟩:=hrel
   have HKJ:=Lib.hid hkj
   have HU:=Lib.hid hu; clear hu f0 f4
   obtain ⟨f0,f4⟩:=KB.out _ hbel
   have hbw:=below2 hA0 hbel (Nat.le_refl _)
   by_cases hlt:k < xs.length
   ·have hjk:j < ks.length:=by omega
    have hkk:=HKG.out j (by omega) hjk
    obtain ⟨_,_,b,o,rfl,hb,hcell⟩:=hg (by intro e; rw [e] at hlt; simp at hlt)
    have HC:=Lib.hid hcell
    obtain ⟨v0,v1,v2,v3,v4,hr,d0,d1,d2,d3,d4⟩:=hcell k hlt
    clear hcell
    obtain ⟨k1,k2,k3,s4,a6,n6,m6,hcs⟩:=V.form hr
    simp only [List.cons.injEq,and_true] at hcs
    obtain ⟨rfl,rfl,rfl,rfl,rfl⟩:=hcs
    have hbc:=(bcell hbw).1
    rw [<- hbc _ _ hb] at d0 d1 d2 d3 d4
    have HX:=Lib.hid (show ks[j] = xs[k] by rw [hkk]; subst hkj; rfl)
    have hi1:(0:Int) <= k:=by omega
    have hi3:(k:Int) < xs.length:=by omega
    have hbz:b < W0.heap.size:=by have:=hA0.size; omega
    have HD:Hid (∀ W,Below W0.heap.size W0 W -> W.cell? ⟨b,o + k * 5,none⟩ = some (.int .i64 k1) /\ W.cell? ⟨b,o + k * 5 + 1,none⟩ = some (.int .i64 k2) /\ W.cell? ⟨b,o + k * 5 + 2,none⟩ = some (.int .i64 k3) /\ W.cell? ⟨b,o + k * 5 + 3,none⟩ = some (.string ⟨s4.toArray⟩) /\ W.cell? ⟨b,o + k * 5 + 4,none⟩ = some (.slice a6 n6 m6)):=by
     intro W hW
     have h1:=(bcell hW).1
     have h2:=(bcell hbel).1
     rw [h2 _ _ hbz] at d0 d1 d2 d3 d4
     simp only [h1 _ _ hbz]; exact ⟨d0,d1,d2,d3,d4⟩
    have HK1:=Lib.hid (fun W (hW:Below W0.heap.size W0 W) => isKey_any xs[k] _ W (hr.below (below2 hA0 hW (Nat.le_refl _))))
    have HXR:=Lib.hid (fun W (hW:Below W0.heap.size W0 W) => (hr.below (below2 hA0 hW (Nat.le_refl _))))
    clear hbc hkk hkj hr
    cases hkey:isKeyK xs[k].kind with
    | true =>
     have HK:=Lib.hid hkey; clear hkey
     go_wp2_with (go_at_call 222; refine (HK1.out _ hbel).mono ?_; rw [HK.out]; rintro e w1 ⟨rfl,hb1⟩; have hbe1:=below2 hbel hb1 (Nat.le_refl _); clear d0 d1 d2 d3 d4 f0 f4; obtain ⟨f0,f4⟩:=KB.out _ hbe1)
     go_loopw [4] (fun i wr => ∃ (m r:Nat),r = 2 * m /\ m <= j /\ i = .int .i64 r /\ xs[k] ∉ ks.take m /\ Below W0.heap.size W0 wr) (fun i _ => k + 1 - (intOf i).toNat)
     case atStart => exact ⟨0,0,rfl,Nat.zero_le _,rfl,by simp,hbe1⟩
     case round =>
      obtain ⟨m,r,hrm,hm,rfl,hni,hbel2⟩:=hrel
      have HRM:=Lib.hid hrm
      have HNI:=Lib.hid hni; clear hni
      have hkj:=HKJ.out
      have hbw2:=below2 hA0 hbel2 (Nat.le_refl _)
      clear f0 f4
      obtain ⟨f0,f4⟩:=KB.out _ hbel2
      by_cases hml:r < k
      ·have hrx:r < xs.length:=by omega
       have hmk:m < ks.length:=by omega
       have hmm:=HKG.out m (by omega) hmk
       obtain ⟨u0,u1,u2,u3,u4,hr2,e0,e1,e2,e3,e4⟩:=HC.out r hrx
       obtain ⟨y1,y2,y3,t4,b6,p6,r6,hcs2⟩:=V.form hr2
       simp only [List.cons.injEq,and_true] at hcs2
       obtain ⟨rfl,rfl,rfl,rfl,rfl⟩:=hcs2
       have HY:=Lib.hid (show ks[m] = xs[r] by rw [hmm]; subst hrm; rfl)
       have HE:Hid (∀ W,Below W0.heap.size W0 W -> W.cell? ⟨b,o + r * 5,none⟩ = some (.int .i64 y1) /\ W.cell? ⟨b,o + r * 5 + 1,none⟩ = some (.int .i64 y2) /\ W.cell? ⟨b,o + r * 5 + 2,none⟩ = some (.int .i64 y3) /\ W.cell? ⟨b,o + r * 5 + 3,none⟩ = some (.string ⟨t4.toArray⟩) /\ W.cell? ⟨b,o + r * 5 + 4,none⟩ = some (.slice b6 p6 r6)):=by
        intro W hW
        have h1:=(bcell (below2 hA0 hW (Nat.le_refl _))).1
        simp only [h1 _ _ hb]; exact ⟨e0,e1,e2,e3,e4⟩
       have hj1:(0:Int) <= r:=by omega
       have hj3:(r:Int) < xs.length:=by omega
       have hj5:(r:Int) < k:=by omega
       have hm5:m < j:=by omega
       have hr5:r + 2 < k + 3:=by omega
       have HS:=Lib.hid (fun W (hW:Below W0.heap.size W0 W) => same_any xs[k] xs[r] _ _ W (HXR.out W hW) (hr2.below (below2 hA0 hW (Nat.le_refl _))) (V.bulk_get hkb k hlt) (V.bulk_get hkb r hrx))
       have hB:=hbel2
       clear hmm hrm hkj e0 e1 e2 e3 e4 hr2 f0 f4
       by_cases heq:xs[k] = xs[r]
       ·have HQ:=Lib.hid (decide_eq_true heq)
        have HF:=Lib.hid (show ok = false by
         rw [HP.out]; unfold pairsOkI; rw [HKS.out,uniq_bad2 hjk (by
          rw [HX.out,List.map_id]
          exact List.mem_take_iff_getElem.2 ⟨m,by omega,by rw [HY.out,<- heq]; rfl⟩)]; rfl)
        clear heq
        go_wp2_with fail
        go_region_held3 (fun W => (W.cell? ⟨w.heap.size,0,none⟩ = some (.int .i64 8) /\ W.cell? ⟨w.heap.size,4,none⟩ = some (.slice (some ⟨b,o,none⟩) xs.length c)) /\ (W.cell? ⟨b,o + k * 5,none⟩ = some (.int .i64 k1) /\ W.cell? ⟨b,o + k * 5 + 1,none⟩ = some (.int .i64 k2) /\ W.cell? ⟨b,o + k * 5 + 2,none⟩ = some (.int .i64 k3) /\ W.cell? ⟨b,o + k * 5 + 3,none⟩ = some (.string ⟨s4.toArray⟩) /\ W.cell? ⟨b,o + k * 5 + 4,none⟩ = some (.slice a6 n6 m6)) /\ W.cell? ⟨b,o + r * 5,none⟩ = some (.int .i64 y1) /\ W.cell? ⟨b,o + r * 5 + 1,none⟩ = some (.int .i64 y2) /\ W.cell? ⟨b,o + r * 5 + 2,none⟩ = some (.int .i64 y3) /\ W.cell? ⟨b,o + r * 5 + 3,none⟩ = some (.string ⟨t4.toArray⟩) /\ W.cell? ⟨b,o + r * 5 + 4,none⟩ = some (.slice b6 p6 r6))
         (first | exact ⟨KB.out _ hB,HD.out _ hB,HE.out _ hB⟩ | exact ⟨KB.out _ hB.drew,HD.out _ hB.drew,HE.out _ hB.drew⟩)
         (first | (go_at_call 93; with_reducible refine (HS.out _ (by first | exact hB | exact hB.drew)).mono ?_; rw [HQ.out]; rintro e w2 ⟨rfl,hb2⟩; replace hB:=below2 (by first | exact hB | exact hB.drew) hb2 (Nat.le_refl _)))
        go_wp2
        go_ret
        exact ⟨by rw [HF.out]; rfl,below2 hA0 hB (Nat.le_refl _)⟩
       ·have HQ:=Lib.hid (decide_eq_false heq)
        have HM:Hid (xs[k] ∉ ks.take (m + 1)):=by
         show _ ∉ _
         rw [List.take_succ_eq_append_getElem hmk,List.mem_append,HY.out]
         rintro (h | h)
         ·exact HNI.out h
         ·exact heq (by simpa using h)
        clear heq
        go_wp2_with fail
        go_region_held3 (fun W => (W.cell? ⟨w.heap.size,0,none⟩ = some (.int .i64 8) /\ W.cell? ⟨w.heap.size,4,none⟩ = some (.slice (some ⟨b,o,none⟩) xs.length c)) /\ (W.cell? ⟨b,o + k * 5,none⟩ = some (.int .i64 k1) /\ W.cell? ⟨b,o + k * 5 + 1,none⟩ = some (.int .i64 k2) /\ W.cell? ⟨b,o + k * 5 + 2,none⟩ = some (.int .i64 k3) /\ W.cell? ⟨b,o + k * 5 + 3,none⟩ = some (.string ⟨s4.toArray⟩) /\ W.cell? ⟨b,o + k * 5 + 4,none⟩ = some (.slice a6 n6 m6)) /\ W.cell? ⟨b,o + r * 5,none⟩ = some (.int .i64 y1) /\ W.cell? ⟨b,o + r * 5 + 1,none⟩ = some (.int .i64 y2) /\ W.cell? ⟨b,o + r * 5 + 2,none⟩ = some (.int .i64 y3) /\ W.cell? ⟨b,o + r * 5 + 3,none⟩ = some (.string ⟨t4.toArray⟩) /\ W.cell? ⟨b,o + r * 5 + 4,none⟩ = some (.slice b6 p6 r6))
         (first | exact ⟨KB.out _ hB,HD.out _ hB,HE.out _ hB⟩ | exact ⟨KB.out _ hB.drew,HD.out _ hB.drew,HE.out _ hB.drew⟩)
         (first | (go_at_call 93; with_reducible refine (HS.out _ (by first | exact hB | exact hB.drew)).mono ?_; rw [HQ.out]; rintro e w2 ⟨rfl,hb2⟩; replace hB:=below2 (by first | exact hB | exact hB.drew) hb2 (Nat.le_refl _)))
        go_wp2
        go_roundw
        case rel => exact ⟨m + 1,r + 2,by have:=HRM.out; omega,by omega,by go_num,HM.out,hB⟩
        case measure => simp [intOf]; omega
      ·obtain rfl:m = j:=by omega
       have HM:Hid (uniq id (ks.take (m + 1)) = true):=uniq_more hjk HU.out (by rw [HX.out]; exact HK.out) (by rw [HX.out,List.map_id]; exact HNI.out)
       clear hrm hkj
       go_wp2
       go_roundw
       case rel => exact ⟨m + 1,k + 2,by have:=HKJ.out; omega,by omega,by go_num,HM.out,hbel2⟩
       case measure => simp [intOf]; omega
    | false =>
     have HK:=Lib.hid hkey
     have HF:=Lib.hid (show ok = false by rw [HP.out]; unfold pairsOkI; rw [HKS.out,uniq_bad1 hjk (by rw [HX.out]; exact hkey)]; rfl)
     clear hkey
     go_wp2_with (go_at_call 222; refine (HK1.out _ hbel).mono ?_; rw [HK.out]; rintro e w1 ⟨rfl,hb1⟩)
     go_ret
     exact ⟨by rw [HF.out]; rfl,below2 hbw hb1 (Nat.le_refl _)⟩
   ·obtain rfl:j = ks.length:=by omega
    clear hkj
    have h1:=HU.out
    rw [List.take_length] at h1
    have HF:=Lib.hid (show ok = decide (xs.length % 2 = 0) by rw [HP.out]; unfold pairsOkI; rw [HKS.out,h1]; rfl)
    clear h1
    go_wp2
    go_ret
    exact ⟨by rw [HF.out]; exact ret_bool (by rw [Bool.eq_iff_iff]; simp <;> omega),hbw⟩
 ·have H:=Lib.hid (show ok = decide (xs = []) by rw [<- HOK.out]; unfold V.kidsOk; rw [if_neg q7,if_neg q9,if_neg q8])
  have g7:(q == 7) = false:=by simpa using q7
  have g8:(q == 8) = false:=by simpa using q8
  have g9:(q == 9) = false:=by simpa using q9
  go_enter Tryz.func190,Tryz.ntmps190
  go_wp2
  rw [<- HW.out]
  go_ret
  exact ⟨by rw [H.out,<- len0']; rfl,hA0⟩
end
end Go.Proofs.YtanlnhkagepniaaGreatDoor
/-
  DERIVED: THE SHELF's CONTRACTS AT THIS DUMP, IN PLAIN WORDS (tools/lay-plain.mjs out of 'TryzShelf.lean', which tools/lay-shelf.mjs wrote): THE SAME DECLARATIONS UNDER THE SAME NAMES: 'import', 'namespace', 'open', 'def', 'theorem' AND NOTHING ELSE: no command of the shelf's: FOR A HAND-IN. Each laying: the table of numbers ('.._ren') and one theorem, a field a fact of the dump's own or the kernel's comparison; each contract: ONE APPLICATION.
-/
namespace Go.Proofs
open Go.Shelf
def Tryz.laysValid_ren:Go.Shelf.Ren:=⟨fun | 196 => 215 | 259 => 233 | n => n,fun | 9 => 9 | 4 => 4 | 3 => 3 | 5 => 5 | 12 => 12 | 119 => 229 | 0 => 0 | 46 => 190 | 139 => 232 | 138 => 231 | 53 => 98 | n => n,fun | 3 => 0 | 4 => 1 | n => n⟩
theorem Tryz.laysValid:Go.Proofs.Lays.n196 Tryz.prog Tryz.laysValid_ren:={
 mixed:=by kernel_rfl
 f196:=Tryz.func215.trans (congrArg some (by kernel_rfl))
 f259:=Tryz.func233.trans (congrArg some (by kernel_rfl))
 t0:=Tryz.underlying0
 a0:=Tryz.isAgg0
 z0:=Tryz.sizeOf0
 v0:=Tryz.zeroValue0
 t3:=Tryz.underlying3
 a3:=Tryz.isAgg3
 z3:=Tryz.sizeOf3
 v3:=Tryz.zeroValue3
 t4:=Tryz.underlying4
 a4:=Tryz.isAgg4
 z4:=Tryz.sizeOf4
 v4:=Tryz.zeroValue4
 t5:=Tryz.underlying5
 a5:=Tryz.isAgg5
 z5:=Tryz.sizeOf5
 v5:=Tryz.zeroValue5
 t9:=Tryz.underlying9
 a9:=Tryz.isAgg9
 z9:=Tryz.sizeOf9
 v9:=Tryz.zeroValue9
 t12:=Tryz.underlying12
 a12:=Tryz.isAgg12
 z12:=Tryz.sizeOf12
 v12:=Tryz.zeroValue12
 t46:=Tryz.underlying190
 a46:=Tryz.isAgg190
 z46:=Tryz.sizeOf190
 v46:=Tryz.zeroValue190
 t53:=Tryz.underlying98
 a53:=Tryz.isAgg98
 z53:=Tryz.sizeOf98
 v53:=Tryz.zeroValue98
 t119:=Tryz.underlying229
 a119:=Tryz.isAgg229
 z119:=Tryz.sizeOf229
 t138:=Tryz.underlying231
 a138:=Tryz.isAgg231
 z138:=Tryz.sizeOf231
 v138:=Tryz.zeroValue231
 t139:=Tryz.underlying232
 a139:=Tryz.isAgg232
 z139:=Tryz.sizeOf232
 v139:=Tryz.zeroValue232
 g3:=by kernel_rfl
 g4:=by kernel_rfl }
open Go.RowKit Go.Lib in
theorem Tryz.utf8_ValidString (s:ByteArray) (w:World) (hs:s.size <= 9223372036854775807) (hT:Lib.Utf8Tabs 0 1 w) :
  Calls Tryz.prog 215 #[.string s] w fun e w' => e = .returned (.bool (Lib.validD s.data.toList)) /\ Below w.heap.size w w':=Any.utf8_ValidString Tryz.laysValid s w hs hT
end Go.Proofs
namespace Go.Proofs.YtanlnhkagepniaaGreatDoor
/- TextI -/
section
open Go.RowKit
open Go.Lib (validD)
def Tabs (w:World):Prop:=Lib.Utf8Tabs 0 1 w
theorem Tabs.below {w w':World} (h:Tabs w) (hb:Below w.heap.size w w'):Tabs w':=Utf8Tabs_below h hb
theorem Tabs.lt {w:World} (h:Tabs w):0 < w.heap.size /\ 1 < w.heap.size:=by
 have key:∀ {b o:Nat} {v:Value},w.cell? ⟨b,o,none⟩ = some v -> b < w.heap.size:=by
  intro b o v h; apply Classical.byContradiction; intro hn
  simp [World.cell?,Array.getElem?_eq_none (Nat.le_of_not_lt hn)] at h
 exact ⟨key (h.1 0 (by decide)),key (h.2 0 (by decide)).1⟩
theorem Tabs.below' {B:Nat} {w w':World} (h:Tabs w) (hb:Below B w w') (h1:0 < B) (h2:1 < B):Tabs w':=by
 refine ⟨fun c hc => ?_,fun i hi => ?_⟩
 ·rw [hb.cell (p:=⟨_,_,none⟩) h1]; exact h.1 c hc
 ·rw [hb.cell (p:=⟨_,_,none⟩) h2,hb.cell (p:=⟨_,_,none⟩) h2]; exact h.2 i hi
theorem textOk_impl (l:List UInt8) (w:World) (hl:l.length <= 4294967295) (hT:Tabs w) :
  Calls Tryz.prog 172 #[.string ⟨l.toArray⟩] w fun e w' => e = .returned (.bool (validD l)) /\ Below w.heap.size w w':=by
 have HC:=Lib.hid (Tryz.utf8_ValidString ⟨l.toArray⟩ w (by simp [ByteArray.size]; omega) hT)
 go_enter Tryz.func172,Tryz.ntmps172
 go_wp2_with (go_at_call 215; refine HC.out.mono ?_; rintro e w1 ⟨rfl,hb1⟩)
 go_ret
 exact ⟨rfl,hb1⟩
end
/- ValueNode -/
section
open Go.RowKit
open Go.Lib (validD)
def V.node:V -> Bool
 | .mk k n e s _ =>
  if k = 0 \/ k = 1 \/ k = 2 \/ k = 7 \/ k = 8 then decide (n = 0) && (decide (e = 0) && decide (s = []))
  else if k = 3 then decide (e = 0) && decide (s = [])
  else if k = 4 then decOk n e && decide (s = [])
  else if k = 5 then decide (s.length <= 2000) && (validD s && (decide (n = 0) && decide (e = 0)))
  else if k = 6 then decide (s.length <= 2000) && (decide (n = 0) && decide (e = 0))
  else if k = 9 then inR n 0 1000000 && (decide (e = 0) && decide (s = []))
  else false
theorem V.selfI_node (x:V):x.selfI = (x.node && V.kidsOk x.kind x.kids):=by
 obtain ⟨k,n,e,s,kids⟩:=x
 show V.selfBy pairsOkI _ = (_ && V.kidsOk k kids)
 unfold V.node V.kidsOk V.selfBy
 by_cases h0:k = 0 \/ k = 1 \/ k = 2
 ·rcases h0 with rfl | rfl | rfl <;> simp [Bool.and_assoc]
 by_cases h3:k = 3
 ·subst h3; simp [Bool.and_assoc]
 by_cases h4:k = 4
 ·subst h4; simp [Bool.and_assoc]
 by_cases h5:k = 5
 ·subst h5
  show (decide (n = 0) && (decide (e = 0) && (validD s && (decide (s.length <= 2000) && decide (kids = []))))) = ((decide (s.length <= 2000) && (validD s && (decide (n = 0) && decide (e = 0)))) && decide (kids = []))
  cases decide (n = 0) <;> cases decide (e = 0) <;> cases validD s <;> cases decide (s.length <= 2000) <;> cases decide (kids = []) <;> rfl
 by_cases h6:k = 6
 ·subst h6
  show (decide (n = 0) && (decide (e = 0) && (decide (s.length <= 2000) && decide (kids = [])))) = ((decide (s.length <= 2000) && (decide (n = 0) && decide (e = 0))) && decide (kids = []))
  cases decide (n = 0) <;> cases decide (e = 0) <;> cases decide (s.length <= 2000) <;> cases decide (kids = []) <;> rfl
 by_cases h7:k = 7
 ·subst h7; simp
 by_cases h8:k = 8
 ·subst h8; simp [Bool.and_assoc]
 by_cases h9:k = 9
 ·subst h9; simp [Bool.and_assoc]
 ·have a0:k ≠ 0:=fun e => h0 (.inl e)
  have a1:k ≠ 1:=fun e => h0 (.inr (.inl e))
  have a2:k ≠ 2:=fun e => h0 (.inr (.inr e))
  simp [a0,a1,a2,h3,h4,h5,h6,h7,h8,h9]
set_option maxHeartbeats 4000000 in
set_option maxRecDepth 10000 in
theorem isNode_any (x:V) (cs:List Value) (w:World) (h:Rd w x.d cs) (hwf:x.wf) (hbk:x.bulk <= 4294967295) (hT:Tabs w) :
  Calls Tryz.prog 189 #[.agg cs.toArray] w fun e w' => e = .returned (.bool x.node) /\ Below w.heap.size w w':=by
 obtain ⟨k,n,e,s,kids,v1,rfl,rfl,hkids⟩:=V.lay h
 obtain ⟨a1,c1,rfl⟩:=Rd.sl_form hkids
 rw [V.ds_map,List.length_map] at h ⊢
 have hsl:s.length <= 4294967295:=by simp only [V.bulk] at hbk; omega
 have HD:=Lib.hid (fun w1 (hb:Below w.heap.size w w1) => isDec_any _ _ w1 (h.below hb) hwf)
 clear h hkids hbk hwf
 obtain ⟨ok,hok⟩:∃ ok,V.node (.mk k n e s kids) = ok:=⟨_,rfl⟩
 rw [hok]
 have HOK:=Lib.hid hok; clear hok
 by_cases q0:k = 0
 ·subst q0
  go_enter Tryz.func189,Tryz.ntmps189
  go_wp2
  all_goals (go_ret; refine ⟨ret_bool ?_,by first | exact ((Below.refl _ _).alloc (Nat.le_refl _) _).alloc (by simp) _ | exact below_drewN (((Below.refl _ _).alloc (Nat.le_refl _) _).alloc (by simp) _) _⟩; rw [<- HOK.out]; simp_all [V.node,isE])
 by_cases q1:k = 1
 ·subst q1
  go_enter Tryz.func189,Tryz.ntmps189
  go_wp2
  all_goals (go_ret; refine ⟨ret_bool ?_,by first | exact ((Below.refl _ _).alloc (Nat.le_refl _) _).alloc (by simp) _ | exact below_drewN (((Below.refl _ _).alloc (Nat.le_refl _) _).alloc (by simp) _) _⟩; rw [<- HOK.out]; simp_all [V.node,isE])
 by_cases q2:k = 2
 ·subst q2
  go_enter Tryz.func189,Tryz.ntmps189
  go_wp2
  all_goals (go_ret; refine ⟨ret_bool ?_,by first | exact ((Below.refl _ _).alloc (Nat.le_refl _) _).alloc (by simp) _ | exact below_drewN (((Below.refl _ _).alloc (Nat.le_refl _) _).alloc (by simp) _) _⟩; rw [<- HOK.out]; simp_all [V.node,isE])
 by_cases q7:k = 7
 ·subst q7
  go_enter Tryz.func189,Tryz.ntmps189
  go_wp2
  all_goals (go_ret; refine ⟨ret_bool ?_,by first | exact ((Below.refl _ _).alloc (Nat.le_refl _) _).alloc (by simp) _ | exact below_drewN (((Below.refl _ _).alloc (Nat.le_refl _) _).alloc (by simp) _) _⟩; rw [<- HOK.out]; simp_all [V.node,isE])
 by_cases q8:k = 8
 ·subst q8
  go_enter Tryz.func189,Tryz.ntmps189
  go_wp2
  all_goals (go_ret; refine ⟨ret_bool ?_,by first | exact ((Below.refl _ _).alloc (Nat.le_refl _) _).alloc (by simp) _ | exact below_drewN (((Below.refl _ _).alloc (Nat.le_refl _) _).alloc (by simp) _) _⟩; rw [<- HOK.out]; simp_all [V.node,isE])
 by_cases q3:k = 3
 ·subst q3
  go_enter Tryz.func189,Tryz.ntmps189
  go_wp2
  all_goals (go_ret; refine ⟨ret_bool ?_,by first | exact ((Below.refl _ _).alloc (Nat.le_refl _) _).alloc (by simp) _ | exact below_drewN (((Below.refl _ _).alloc (Nat.le_refl _) _).alloc (by simp) _) _⟩; rw [<- HOK.out]; simp_all [V.node,isE])
 by_cases q9:k = 9
 ·subst q9
  by_cases g:0 <= n /\ n <= 1000000
  ·have H:=Lib.hid (show ok = (decide (e = 0) && decide (s = [])) by rw [<- HOK.out]; simp [V.node,inR_yes g])
   go_enter Tryz.func189,Tryz.ntmps189
   go_wp2
   all_goals (go_ret; refine ⟨ret_bool ?_,by first | exact ((Below.refl _ _).alloc (Nat.le_refl _) _).alloc (by simp) _ | exact (((Below.refl _ _).alloc (Nat.le_refl _) _).alloc (by simp) _).setCell (by simp) _⟩; rw [H.out]; simp_all [isE])
  ·have H:=Lib.hid (show ok = false by rw [<- HOK.out]; simp [V.node,inR_no g])
   have H2:=Lib.hid (inR_no g)
   go_enter Tryz.func189,Tryz.ntmps189
   go_wp2_with (go_at_call 126; refine (within_any _ _ _ _).mono ?_; rw [H2.out]; rintro e1 w1 ⟨rfl,rfl⟩)
   all_goals (go_ret; exact ⟨by rw [H.out]; rfl,((Below.refl _ _).alloc (Nat.le_refl _) _).alloc (by simp) _⟩)
 by_cases q6:k = 6
 ·subst q6
  by_cases g:s.length <= 2000
  ·have H:=Lib.hid (show ok = (decide (n = 0) && decide (e = 0)) by rw [<- HOK.out]; simp [V.node,g])
   go_enter Tryz.func189,Tryz.ntmps189
   go_wp2
   all_goals (go_ret; refine ⟨ret_bool ?_,by first | exact ((Below.refl _ _).alloc (Nat.le_refl _) _).alloc (by simp) _ | exact (((Below.refl _ _).alloc (Nat.le_refl _) _).alloc (by simp) _).setCell (by simp) _⟩; rw [H.out]; simp_all [isE])
  ·have H:=Lib.hid (show ok = false by rw [<- HOK.out]; simp [V.node,g])
   have g':(2000:Int) < s.length:=by omega
   go_enter Tryz.func189,Tryz.ntmps189
   go_wp2
   all_goals (go_ret; exact ⟨by rw [H.out]; rfl,((Below.refl _ _).alloc (Nat.le_refl _) _).alloc (by simp) _⟩)
 by_cases q5:k = 5
 ·subst q5
  by_cases g:s.length <= 2000
  ·have g':¬ (2000:Int) < s.length:=by omega
   have g2:=decide_eq_false g'
   cases hv:validD s with
   | true =>
    have HV:=Lib.hid hv
    have H:=Lib.hid (show ok = (decide (n = 0) && decide (e = 0)) by rw [<- HOK.out]; simp [V.node,g,hv])
    clear hv
    go_enter Tryz.func189,Tryz.ntmps189
    go_wp2_with (go_at_call 172; refine (textOk_impl s _ hsl (hT.below (((Below.refl _ _).alloc (Nat.le_refl _) _).alloc (by simp) _))).mono ?_; rw [HV.out]; rintro e1 w1 ⟨rfl,hb1⟩; have C:=(bcell hb1).1; have F:=(bcell hb1).2; have hz1:=hb1.size; have z1:w.heap.size < w1.heap.size:=(by simp at hz1; omega); have z2:w.heap.size + 1 < w1.heap.size:=(by simp at hz1; omega); have f1:w1.cell? ⟨w.heap.size,1,none⟩ = some (.int .i64 n):=(by rw [C _ _ (by simp <;> omega)]; simp [go_sem]); have f2:w1.cell? ⟨w.heap.size,2,none⟩ = some (.int .i64 e):=(by rw [C _ _ (by simp <;> omega)]; simp [go_sem]); have f3:w1.cell? ⟨w.heap.size,3,none⟩ = some (.string ⟨s.toArray⟩):=(by rw [C _ _ (by simp <;> omega)]; simp [go_sem]); have p1:w1.cell? ⟨w.heap.size + 1,1,none⟩ = some (.int .i64 0):=(by rw [C _ _ (by simp <;> omega)]; simp [go_sem]); have p2:w1.cell? ⟨w.heap.size + 1,2,none⟩ = some (.int .i64 0):=(by rw [C _ _ (by simp <;> omega)]; simp [go_sem]); have p3:w1.cell? ⟨w.heap.size + 1,3,none⟩ = some (.string ⟨#[]⟩):=(by rw [C _ _ (by simp <;> omega)]; simp [go_sem]); have p9:w1.frozen? ⟨w.heap.size + 1,3,none⟩ = false:=(by rw [F _ _ (by simp <;> omega)]; simp [go_sem]); clear C F hz1)
    all_goals (go_ret; refine ⟨ret_bool ?_,by first | exact (below2 (((Below.refl _ _).alloc (Nat.le_refl _) _).alloc (by simp) _) hb1 (Nat.le_refl _)).setCell (by simp) _ | exact below2 (((Below.refl _ _).alloc (Nat.le_refl _) _).alloc (by simp) _) hb1 (Nat.le_refl _)⟩; rw [H.out]; simp_all [isE])
   | false =>
    have HV:=Lib.hid hv
    have H:=Lib.hid (show ok = false by rw [<- HOK.out]; simp [V.node,hv])
    clear hv
    go_enter Tryz.func189,Tryz.ntmps189
    go_wp2_with (go_at_call 172; refine (textOk_impl s _ hsl (hT.below (((Below.refl _ _).alloc (Nat.le_refl _) _).alloc (by simp) _))).mono ?_; rw [HV.out]; rintro e1 w1 ⟨rfl,hb1⟩)
    go_ret
    exact ⟨by rw [H.out]; rfl,below2 (((Below.refl _ _).alloc (Nat.le_refl _) _).alloc (by simp) _) hb1 (Nat.le_refl _)⟩
  ·have H:=Lib.hid (show ok = false by rw [<- HOK.out]; simp [V.node,g])
   have g':(2000:Int) < s.length:=by omega
   go_enter Tryz.func189,Tryz.ntmps189
   go_wp2
   all_goals (go_ret; exact ⟨by rw [H.out]; rfl,((Below.refl _ _).alloc (Nat.le_refl _) _).alloc (by simp) _⟩)
 by_cases q4:k = 4
 ·subst q4
  cases hv:decOk n e with
  | true =>
   have HV:=Lib.hid (show decOk (V.num (.mk 4 n e s kids)) (V.exp (.mk 4 n e s kids)) = true from hv)
   have H:=Lib.hid (show ok = decide (s = []) by rw [<- HOK.out]; simp [V.node,hv])
   clear hv
   go_enter Tryz.func189,Tryz.ntmps189
   go_wp2_with (go_at_call 221; refine (HD.out _ (((Below.refl _ _).alloc (Nat.le_refl _) _).alloc (by simp) _)).mono ?_; rw [HV.out]; rintro e1 w1 ⟨rfl,hb1⟩; have C:=(bcell hb1).1; have F:=(bcell hb1).2; have hz1:=hb1.size; have z1:w.heap.size < w1.heap.size:=(by simp at hz1; omega); have z2:w.heap.size + 1 < w1.heap.size:=(by simp at hz1; omega); have f1:w1.cell? ⟨w.heap.size,1,none⟩ = some (.int .i64 n):=(by rw [C _ _ (by simp <;> omega)]; simp [go_sem]); have f2:w1.cell? ⟨w.heap.size,2,none⟩ = some (.int .i64 e):=(by rw [C _ _ (by simp <;> omega)]; simp [go_sem]); have f3:w1.cell? ⟨w.heap.size,3,none⟩ = some (.string ⟨s.toArray⟩):=(by rw [C _ _ (by simp <;> omega)]; simp [go_sem]); have p1:w1.cell? ⟨w.heap.size + 1,1,none⟩ = some (.int .i64 0):=(by rw [C _ _ (by simp <;> omega)]; simp [go_sem]); have p2:w1.cell? ⟨w.heap.size + 1,2,none⟩ = some (.int .i64 0):=(by rw [C _ _ (by simp <;> omega)]; simp [go_sem]); have p3:w1.cell? ⟨w.heap.size + 1,3,none⟩ = some (.string ⟨#[]⟩):=(by rw [C _ _ (by simp <;> omega)]; simp [go_sem]); have p8:w1.frozen? ⟨w.heap.size + 1,1,none⟩ = false:=(by rw [F _ _ (by simp <;> omega)]; simp [go_sem]); have p9:w1.frozen? ⟨w.heap.size + 1,2,none⟩ = false:=(by rw [F _ _ (by simp <;> omega)]; simp [go_sem]); clear C F hz1)
   have hbel:Below w.heap.size w w1:=below2 (((Below.refl _ _).alloc (Nat.le_refl _) _).alloc (by simp) _) hb1 (Nat.le_refl _)
   go_region
   all_goals (go_wp2; go_ret; refine ⟨ret_bool ?_,by first | exact ((hbel.setCell (by simp) _).setCell (by simp) _).drew | exact (hbel.setCell (by simp) _).setCell (by simp) _ | exact below_drewN ((hbel.setCell (by simp) _).setCell (by simp) _) _⟩; rw [H.out]; simp [isE])
  | false =>
   have HV:=Lib.hid (show decOk (V.num (.mk 4 n e s kids)) (V.exp (.mk 4 n e s kids)) = false from hv)
   have H:=Lib.hid (show ok = false by rw [<- HOK.out]; simp [V.node,hv])
   clear hv
   go_enter Tryz.func189,Tryz.ntmps189
   go_wp2_with (go_at_call 221; refine (HD.out _ (((Below.refl _ _).alloc (Nat.le_refl _) _).alloc (by simp) _)).mono ?_; rw [HV.out]; rintro e1 w1 ⟨rfl,hb1⟩)
   go_ret
   exact ⟨by rw [H.out]; rfl,below2 (((Below.refl _ _).alloc (Nat.le_refl _) _).alloc (by simp) _) hb1 (Nat.le_refl _)⟩
 have H:=Lib.hid (show ok = false by rw [<- HOK.out]; simp [V.node,q0,q1,q2,q3,q4,q5,q6,q7,q8,q9])
 go_enter Tryz.func189,Tryz.ntmps189
 go_wp2
 all_goals (go_ret; exact ⟨by rw [H.out]; rfl,((Below.refl _ _).alloc (Nat.le_refl _) _).alloc (by simp) _⟩)
end
/- Region -/
section
open Go.RowKit
section
variable {P:Program} {ops:Array Oper} {Q:Exit -> Act -> World -> Prop} {md:Region.Mode} {S:World -> Prop}
theorem takeW {i F fuel:Nat} {oi:Oper} {d:Option Tmp} {v:Value} {listed listed':Array Bool} {a:Act} {w:World} (hi:ops[i]? = some oi) (hd:oi.dst = d) (hF:F = fuel + 1) (hl:listed.setIfInBounds i true = listed')
  (hs:Region.noSelect ops = true) (hf:Region.free md ops listed i = true) (hr:(Region.ready md ops listed).contains i = true)
  (hQ:∀ c a w,Q (.panic c) (a.put d v) w -> Q (.panic c) a w) (hw:Region.wanted oi (yielded ops a.tmps) = true) (hS:S w)
  (hv:∀ w,S w -> (execOp a.eval oi).run P w = .ok (.value v) w)
  (h:wpAnyH P md ops Q S fuel listed' (a.put d v) w):wpAnyH P md ops Q S F listed a w:=by
 subst hF hd hl
 exact wpAnyH_take hi hs hf hr hQ (.inl ⟨hw,hv⟩) hS h
def skipFine (md:Region.Mode) (ops:Array Oper):List (Nat × Tmp) -> Array Bool -> Array Value -> Bool
 | [],_,_ => true
 | (i,d) :: r,listed,tmps => (match ops[i]? with | some o => decide (o.dst = some d) && !Region.wanted o (yielded ops tmps) | none => false) && (Region.free md ops listed i && ((Region.ready md ops listed).contains i &&
   skipFine md ops r (listed.setIfInBounds i true) (tmps.setIfInBounds d undef)))
def skipListed:List (Nat × Tmp) -> Array Bool -> Array Bool
 | [],listed => listed
 | (i,_) :: r,listed => skipListed r (listed.setIfInBounds i true)
def skipAct:List (Nat × Tmp) -> Act -> Act
 | [],a => a
 | (_,d) :: r,a => skipAct r { a with tmps:=a.tmps.setIfInBounds d undef }
theorem takeS {w:World} (hs:Region.noSelect ops = true) (hQ:∀ c a d w,Q (.panic c) (a.put (some d) undef) w -> Q (.panic c) a w) (hS:S w):∀ (l:List (Nat × Tmp)) {F fuel:Nat} {listed listed':Array Bool} {a:Act},F = fuel + l.length -> skipListed l listed = listed' ->
  skipFine md ops l listed a.tmps = true -> wpAnyH P md ops Q S fuel listed' (skipAct l a) w -> wpAnyH P md ops Q S F listed a w
 | [],F,fuel,listed,listed',a,hF,hl,_,h => by subst hF hl; exact h
 | (i,d) :: r,F,fuel,listed,listed',a,hF,hl,hk,h => by
  subst hF hl
  simp only [skipFine,Bool.and_eq_true] at hk
  obtain ⟨h1,h2,h3,h4⟩:=hk
  cases ho:ops[i]? with
  | none => rw [ho] at h1; cases h1
  | some o =>
   rw [ho] at h1
   simp only [Bool.and_eq_true,decide_eq_true_eq,Bool.not_eq_true'] at h1
   obtain ⟨hd,hw⟩:=h1
   refine wpAnyH_take (fuel:=fuel + r.length) (v:=undef) ho hs h2 h3 (by rw [hd]; exact fun c a w => hQ c a d w) (.inr ⟨hw,rfl⟩) hS ?_
   rw [hd]
   exact takeS hs hQ hS r rfl rfl h4 h
theorem takeC {i F fuel:Nat} {oi:Oper} {d:Option Tmp} {listed listed':Array Bool} {a:Act} {w:World} (hi:ops[i]? = some oi) (hd:oi.dst = d) (hF:F = fuel + 1) (hl:listed.setIfInBounds i true = listed')
  (hr:Region.ready md ops listed = [i]) (hw:Region.wanted oi (yielded ops a.tmps) = true)
  (h:∀ K':Act -> World -> Prop,Shut (∀ a w,S w -> (S w -> wpAnyH P md ops Q S fuel listed' a w) -> K' a w) -> Oper.wp P oi a w K' Q):wpAnyH P md ops Q S F listed a w:=by
 subst hF hl hd
 refine wpAnyH_ready hr (by simp) (AllReadyH.cons hi (fun K' hK => ?_) AllReadyH.nil)
 rw [if_pos hw]; exact h K' hK
end
end
/- Box -/
section
open Go.RowKit
def intBox (w:World) (g:Nat) (n:Int):Prop:=w.heap[g]? = some (.cells #[.int .i64 n] 3 (0,0))
theorem intBox.cell {w:World} {g:Nat} {n:Int} (h:intBox w g n):w.cell? ⟨g,0,none⟩ = some (.int .i64 n):=cell_of_one h
theorem intBox.free {w:World} {g:Nat} {n:Int} (h:intBox w g n):w.frozen? ⟨g,0,none⟩ = false:=free_of_one h
theorem intBox.lt {w:World} {g:Nat} {n:Int} (h:intBox w g n):g < w.heap.size:=lt_of_block h
theorem intBox.below {w w':World} {g:Nat} {n:Int} (h:intBox w g n) (hb:Below w.heap.size w w'):intBox w' g n:=(hb.block g h.lt).trans h
theorem intBox.keep {S:Nat -> Prop} {w w':World} {g:Nat} {n:Int} (h:intBox w g n) (hk:Keep S w w') (hs:¬ S g):intBox w' g n:=(hk.block g h.lt hs).trans h
def GlobN (N:Nat):Prop:=0 < N /\ 1 < N
theorem Tabs.keep {S:Nat -> Prop} {w w':World} {N:Nat} (h:Tabs w) (hg:GlobN N) (hk:Keep S w w') (hN:N <= w.heap.size) (hs:∀ k,k < N -> ¬ S k):Tabs w':=h.below' (hk.below hN hs) hg.1 hg.2
end
/- ValueIs -/
section
open Go.RowKit
open Go.Lib (validD)
def vGood (deep:Nat) (L:Int) (x:V):Bool:=V.rightBy pairsOkI (12 - deep) x && decide ((x.nodes:Int) <= L)
def vGoods (deep:Nat) (L:Int) (xs:List V):Bool:=V.rightsBy pairsOkI (12 - deep) xs && decide ((V.nodess xs:Int) <= L)
def VIsA (n:Nat):Prop:=∀ (x:V) (cs:List Value) (deep N g:Nat) (L:Int) (w:World),x.nodes <= n -> RdN N w x.d cs -> N <= g -> intBox w g L -> x.wf -> x.bulk <= 4294967295 -> Tabs w -> GlobN N -> deep <= 1000000 -> 0 <= L /\ L <= 1000 ->
 Calls Tryz.prog 143 #[.agg cs.toArray,.int .i64 deep,.pointer (some ⟨g,0,none⟩)] w fun e w' => e = .returned (.bool (vGood deep L x)) /\ (∃ L':Int,intBox w' g L' /\ (vGood deep L x = true -> L' = L - x.nodes)) /\ Keep (· = g) w w'
theorem vGood_no1 {deep:Nat} {L:Int} {x:V} (h:L - 1 < 0):vGood deep L x = false:=by
 have:=x.nodes_pos; unfold vGood; rw [decide_eq_false (by omega),Bool.and_false]
theorem vGood_no2 {deep:Nat} {L:Int} {x:V} (h:(12:Int) < deep):vGood deep L x = false:=by
 obtain ⟨k,m,e,s,kids⟩:=x
 unfold vGood; simp only [V.rightBy]; rw [decide_eq_false (show ¬ (0:Int) <= 12 - deep by omega)]; simp
theorem V.nodess_ge:∀ xs:List V,xs.length <= V.nodess xs
 | [] => by simp
 | x :: xs => by have:=x.nodes_pos; have:=V.nodess_ge xs; simp only [V.nodess,List.length_cons]; omega
theorem vGood_no3 {deep:Nat} {L:Int} {k m e:Int} {s:List UInt8} {kids:List V} (h:L - 1 < kids.length):vGood deep L (.mk k m e s kids) = false:=by
 have:=V.nodess_ge kids; unfold vGood; rw [decide_eq_false (by simp only [V.nodes]; omega),Bool.and_false]
theorem vGood_no5 {deep:Nat} {L:Int} {x:V} (h:x.selfI = false):vGood deep L x = false:=by
 obtain ⟨k,m,e,s,kids⟩:=x
 unfold vGood; simp only [V.rightBy]; rw [show V.selfBy pairsOkI (.mk k m e s kids) = false from h]; simp
theorem vGood_yes {deep:Nat} {L:Int} {k m e:Int} {s:List UInt8} {kids:List V} (h2:¬ (12:Int) < deep) (ho:V.selfI (.mk k m e s kids) = true) :
  vGood deep L (.mk k m e s kids) = vGoods (deep + 1) (L - 1) kids:=by
 unfold vGood vGoods; simp only [V.rightBy,V.nodes]
 rw [show V.selfBy pairsOkI (.mk k m e s kids) = true from ho,decide_eq_true (show (0:Int) <= 12 - deep by omega),show (12:Int) - deep - 1 = 12 - (deep + 1:Nat) by omega,Bool.and_true,Bool.and_true]
 congr 1; exact decide_eq_decide.2 (by omega)
def VIsC (n:Nat):Prop:=∀ (xs:List V) (va:Value) (deep N g bd bl:Nat) (L:Int) (w:World),V.nodess xs <= n -> RdN N w (.sl 5 (V.ds xs)) [va] -> N <= g -> intBox w g L -> intBox w bd deep -> bd ≠ g -> w.cell? ⟨bl,0,none⟩ = some (.pointer (some ⟨g,0,none⟩)) -> bl ≠ g ->
  V.wfs xs -> xs.length + V.bulks xs <= 4294967295 -> Tabs w -> GlobN N -> deep <= 1000 -> 0 <= L /\ L <= 1000 ->
 Calls Tryz.prog 191 #[va,.func (.func 192) #[] #[.pointer (some ⟨bd,0,none⟩),.pointer (some ⟨bl,0,none⟩)]] w fun e w' => e = .returned (.bool (!vGoods (deep + 1) L xs)) /\ (∃ L':Int,intBox w' g L' /\ (vGoods (deep + 1) L xs = true -> L' = L - V.nodess xs)) /\ Keep (· = g) w w'
set_option maxHeartbeats 4000000 in
set_option maxRecDepth 10000 in
theorem VIsA_of {n:Nat} (hC:VIsC n):VIsA (n + 1):=by
 intro x cs deep N g L w hn h hNg hbox hwf hbk hT hG hdeep hL
 obtain ⟨k,m,e,s,kids,v2,hx,rfl,hkids⟩:=V.layS h
 subst hx
 have hnk:V.nodess kids <= n:=by simp only [V.nodes] at hn; omega
 obtain ⟨hL1,hL2⟩:=hL
 obtain ⟨M,rfl⟩:∃ M,L = M + 1:=⟨L - 1,by omega⟩
 have hglt:=hbox.lt
 obtain ⟨a2,c2,rfl⟩:=Rd.sl_form (Rd.of hkids)
 simp only [V.ds_map,List.length_map] at h hkids ⊢
 rw [<- V.ds_map] at hkids
 have hfree:=hbox.free
 have hcell:=hbox.cell
 obtain ⟨W0,hW0⟩:∃ W0,W0 = ((((w.setCell ⟨g,0,none⟩ (.int .i64 M)).alloc (.cells #[.int .i64 k,.int .i64 m,.int .i64 e,.string ⟨s.toArray⟩,.slice a2 kids.length c2] 41)).alloc (.cells #[.int .i64 deep] 3)).alloc (.cells #[.pointer (some ⟨g,0,none⟩)] 167)):=⟨_,rfl⟩
 have HW:=Lib.hid hW0
 have hK0:Keep (· = g) w W0:=by rw [hW0]; exact (((Keep.setCell (S:=(· = g)) (p:=⟨g,0,none⟩) (Keep.refl _ _) (.inl rfl) _).alloc _).alloc _).alloc _
 have hb0:intBox W0 g M:=by
  rw [hW0]
  have:intBox (w.setCell ⟨g,0,none⟩ (.int .i64 M)) g M:=one_setCell hbox
  exact ((this.below ((Below.refl _ _).alloc (Nat.le_refl _) _)).below ((Below.refl _ _).alloc (Nat.le_refl _) _)).below ((Below.refl _ _).alloc (Nat.le_refl _) _)
 have hbd0:intBox W0 (w.heap.size + 1) deep:=by
  rw [hW0]; unfold intBox; rw [Below.heap_alloc _ _ _ (by simp [World.setCell])]
  have:=heap_alloc_new ((w.setCell ⟨g,0,none⟩ (.int .i64 M)).alloc (.cells #[.int .i64 k,.int .i64 m,.int .i64 e,.string ⟨s.toArray⟩,.slice a2 kids.length c2] 41)) (.cells #[.int .i64 deep] 3)
  simpa [World.setCell] using this
 have hng:∀ k,k < N -> ¬ k = g:=by intro k hk e; omega
 have hN:N <= w.heap.size:=by omega
 have hss:(w.setCell ⟨g,0,none⟩ (.int .i64 M)).heap.size = w.heap.size:=by simp [World.setCell]
 have hsz:W0.heap.size = w.heap.size + 3:=by rw [hW0]; simp [hss]
 have s1:g < w.heap.size + 1:=by omega
 have s2:g < w.heap.size + 1 + 1:=by omega
 have s3:g < w.heap.size + 1 + 1 + 1:=by omega
 have q1:¬ g = w.heap.size:=by omega
 have q2:¬ g = w.heap.size + 1:=by omega
 have q3:¬ g = w.heap.size + 1 + 1:=by omega
 have KB:Hid (∀ W,Below W0.heap.size W0 W -> W.cell? ⟨w.heap.size,0,none⟩ = some (.int .i64 k) /\ W.cell? ⟨w.heap.size,1,none⟩ = some (.int .i64 m) /\ W.cell? ⟨w.heap.size,2,none⟩ = some (.int .i64 e) /\ W.cell? ⟨w.heap.size,3,none⟩ = some (.string ⟨s.toArray⟩) /\ W.cell? ⟨w.heap.size,4,none⟩ = some (.slice a2 kids.length c2) /\ W.cell? ⟨w.heap.size + 1,0,none⟩ = some (.int .i64 deep) /\ W.cell? ⟨w.heap.size + 1 + 1,0,none⟩ = some (.pointer (some ⟨g,0,none⟩)) /\ W.cell? ⟨g,0,none⟩ = some (.int .i64 M)):=by
  intro W hb
  obtain ⟨hc,_⟩:=bcell hb
  have z1:w.heap.size < W0.heap.size:=by omega
  have z2:w.heap.size + 1 < W0.heap.size:=by omega
  have z3:w.heap.size + 1 + 1 < W0.heap.size:=by omega
  have z4:g < W0.heap.size:=by omega
  simp only [hc _ _ z1,hc _ _ z2,hc _ _ z3,hc _ _ z4,hb0.cell]
  subst hW0
  simp [go_sem,hss]
 have hT0:=Lib.hid (hT.keep hG hK0 hN hng)
 have HR:=Lib.hid (show ∀ W,Below W0.heap.size W0 W -> RdN N W (V.d (.mk k m e s kids)) [.int .i64 k,.int .i64 m,.int .i64 e,.string ⟨s.toArray⟩,.slice a2 kids.length c2] from fun W hb => (h.keep hK0 hN hng).below (hb.mono (by omega)))
 have HRk:=Lib.hid (show ∀ W,Below W0.heap.size W0 W -> RdN N W (.sl 5 (V.ds kids)) [.slice a2 kids.length c2] from fun W hb => (RdN.keep hkids hK0 hN hng).below (hb.mono (by omega)))
 have HF:=Lib.hid (fun W (hb:Below W0.heap.size W0 W) => isNode_any _ _ W (HR.out W hb).rd hwf hbk (hT0.out.below hb))
 have HQ:=Lib.hid (fun W (hb:Below W0.heap.size W0 W) => areKids_any _ _ W (HR.out W hb).rd hbk)
 clear h hkids hT hbox hW0 hng hss q1 q2 q3
 by_cases qc1:M < 0
 ·have dqc1:=decide_eq_true qc1
  have H:=Lib.hid (vGood_no1 (deep:=deep) (L:=M + 1) (x:=.mk k m e s kids) (by omega))
  go_enter Tryz.func143,Tryz.ntmps143
  go_wp2
  rw [<- HW.out]
  have hB:=Below.refl W0.heap.size W0
  obtain ⟨p0,p1,p2,p3,p4,p6,p7,p8⟩:=KB.out _ hB
  go_quiet (fail)
  go_wp2
  go_ret
  exact ⟨by rw [H.out]; rfl,⟨M,hb0.below (by first | exact hB | exact hB.drew | exact Go.below_drewN hB _),fun h => by rw [H.out] at h; cases h⟩,hK0.then (by first | exact hB | exact hB.drew | exact Go.below_drewN hB _)⟩
 have dqc1:=decide_eq_false qc1
 by_cases qc2:(12:Int) < deep
 ·have dqc2:=decide_eq_true qc2
  have H:=Lib.hid (vGood_no2 (L:=M + 1) (x:=.mk k m e s kids) qc2)
  go_enter Tryz.func143,Tryz.ntmps143
  go_wp2
  rw [<- HW.out]
  have hB:=Below.refl W0.heap.size W0
  obtain ⟨p0,p1,p2,p3,p4,p6,p7,p8⟩:=KB.out _ hB
  go_quiet (fail)
  go_wp2
  go_ret
  exact ⟨by rw [H.out]; rfl,⟨M,hb0.below (by first | exact hB | exact hB.drew | exact Go.below_drewN hB _),fun h => by rw [H.out] at h; cases h⟩,hK0.then (by first | exact hB | exact hB.drew | exact Go.below_drewN hB _)⟩
 have dqc2:=decide_eq_false qc2
 by_cases qc3:M < kids.length
 ·have dqc3:=decide_eq_true qc3
  have H:=Lib.hid (vGood_no3 (deep:=deep) (L:=M + 1) (k:=k) (m:=m) (e:=e) (s:=s) (kids:=kids) (by omega))
  go_enter Tryz.func143,Tryz.ntmps143
  go_wp2
  rw [<- HW.out]
  have hB:=Below.refl W0.heap.size W0
  obtain ⟨p0,p1,p2,p3,p4,p6,p7,p8⟩:=KB.out _ hB
  go_quiet (fail)
  go_wp2
  go_ret
  exact ⟨by rw [H.out]; rfl,⟨M,hb0.below (by first | exact hB | exact hB.drew | exact Go.below_drewN hB _),fun h => by rw [H.out] at h; cases h⟩,hK0.then (by first | exact hB | exact hB.drew | exact Go.below_drewN hB _)⟩
 have dqc3:=decide_eq_false qc3
 have HSN:=Lib.hid (V.selfI_node (.mk k m e s kids))
 cases hnode:V.node (.mk k m e s kids) with
 | false =>
  have HO:=Lib.hid hnode
  have H:=Lib.hid (vGood_no5 (deep:=deep) (L:=M + 1) (x:=.mk k m e s kids) (by rw [HSN.out,hnode]; rfl))
  clear hnode
  go_enter Tryz.func143,Tryz.ntmps143
  go_wp2
  rw [<- HW.out]
  have hB:=Below.refl W0.heap.size W0
  refine wp_region_held_drew (S:=(fun W => W.cell? ⟨w.heap.size,0,none⟩ = some (.int .i64 k) /\ W.cell? ⟨w.heap.size,1,none⟩ = some (.int .i64 m) /\ W.cell? ⟨w.heap.size,2,none⟩ = some (.int .i64 e) /\ W.cell? ⟨w.heap.size,3,none⟩ = some (.string ⟨s.toArray⟩) /\ W.cell? ⟨w.heap.size,4,none⟩ = some (.slice a2 kids.length c2) /\ W.cell? ⟨w.heap.size + 1,0,none⟩ = some (.int .i64 deep) /\ W.cell? ⟨w.heap.size + 1 + 1,0,none⟩ = some (.pointer (some ⟨g,0,none⟩)) /\ W.cell? ⟨g,0,none⟩ = some (.int .i64 M))) (by kernel_rfl) ?_ (fun hHeld => ?_)
  ·((try dsimp only); (first | exact KB.out _ hB | exact KB.out _ hB.drew))
  refine takeW (i:=0) (fuel:=26) (d:=some 12) (v:=?vr0) (listed':=#[true,false,false,false,false,false,false,false,false,false,false,false,false,false,false,false,false,false,false,false,false,false,false,false,false,false,false]) rfl rfl (by kernel_rfl) (by kernel_rfl) (by kernel_rfl) (by kernel_rfl) (by kernel_rfl) (fun _ _ _ h => h) (by kernel_rfl) (by assumption) ?hr0 ?rr0
  case hr0 => (intro w hSw; (try dsimp only at hSw); go_simp; all_goals with_reducible rfl)
  simp only [skipAct,Act.put,List.setIfInBounds_toArray,List.set_cons_zero,List.set_cons_succ]
  refine takeW (i:=1) (fuel:=25) (d:=some 13) (v:=?vr1) (listed':=#[true,true,false,false,false,false,false,false,false,false,false,false,false,false,false,false,false,false,false,false,false,false,false,false,false,false,false]) rfl rfl (by kernel_rfl) (by kernel_rfl) (by kernel_rfl) (by kernel_rfl) (by kernel_rfl) (fun _ _ _ h => h) (by kernel_rfl) (by assumption) ?hr1 ?rr1
  case hr1 => (intro w hSw; (try dsimp only at hSw); go_simp; all_goals with_reducible rfl)
  simp only [skipAct,Act.put,List.setIfInBounds_toArray,List.set_cons_zero,List.set_cons_succ]
  refine takeW (i:=2) (fuel:=24) (d:=some 14) (v:=?vr2) (listed':=#[true,true,true,false,false,false,false,false,false,false,false,false,false,false,false,false,false,false,false,false,false,false,false,false,false,false,false]) rfl rfl (by kernel_rfl) (by kernel_rfl) (by kernel_rfl) (by kernel_rfl) (by kernel_rfl) (fun _ _ _ h => h) (by kernel_rfl) (by assumption) ?hr2 ?rr2
  case hr2 => (intro w hSw; (try dsimp only at hSw); go_simp; all_goals with_reducible rfl)
  simp only [skipAct,Act.put,List.setIfInBounds_toArray,List.set_cons_zero,List.set_cons_succ]
  refine takeW (i:=3) (fuel:=23) (d:=some 15) (v:=?vr3) (listed':=#[true,true,true,true,false,false,false,false,false,false,false,false,false,false,false,false,false,false,false,false,false,false,false,false,false,false,false]) rfl rfl (by kernel_rfl) (by kernel_rfl) (by kernel_rfl) (by kernel_rfl) (by kernel_rfl) (fun _ _ _ h => h) (by kernel_rfl) (by assumption) ?hr3 ?rr3
  case hr3 => (intro w hSw; (try dsimp only at hSw); go_simp; all_goals with_reducible rfl)
  simp only [skipAct,Act.put,List.setIfInBounds_toArray,List.set_cons_zero,List.set_cons_succ]
  refine takeW (i:=4) (fuel:=22) (d:=some 16) (v:=?vr4) (listed':=#[true,true,true,true,true,false,false,false,false,false,false,false,false,false,false,false,false,false,false,false,false,false,false,false,false,false,false]) rfl rfl (by kernel_rfl) (by kernel_rfl) (by kernel_rfl) (by kernel_rfl) (by kernel_rfl) (fun _ _ _ h => h) (by kernel_rfl) (by assumption) ?hr4 ?rr4
  case hr4 => (intro w hSw; (try dsimp only at hSw); go_simp; all_goals with_reducible rfl)
  simp only [skipAct,Act.put,List.setIfInBounds_toArray,List.set_cons_zero,List.set_cons_succ]
  refine takeW (i:=5) (fuel:=21) (d:=some 17) (v:=?vr5) (listed':=#[true,true,true,true,true,true,false,false,false,false,false,false,false,false,false,false,false,false,false,false,false,false,false,false,false,false,false]) rfl rfl (by kernel_rfl) (by kernel_rfl) (by kernel_rfl) (by kernel_rfl) (by kernel_rfl) (fun _ _ _ h => h) (by kernel_rfl) (by assumption) ?hr5 ?rr5
  case hr5 => (intro w hSw; (try dsimp only at hSw); go_simp; all_goals with_reducible rfl)
  simp only [skipAct,Act.put,List.setIfInBounds_toArray,List.set_cons_zero,List.set_cons_succ]
  refine takeW (i:=6) (fuel:=20) (d:=some 18) (v:=?vr6) (listed':=#[true,true,true,true,true,true,true,false,false,false,false,false,false,false,false,false,false,false,false,false,false,false,false,false,false,false,false]) rfl rfl (by kernel_rfl) (by kernel_rfl) (by kernel_rfl) (by kernel_rfl) (by kernel_rfl) (fun _ _ _ h => h) (by kernel_rfl) (by assumption) ?hr6 ?rr6
  case hr6 => (intro w hSw; (try dsimp only at hSw); go_simp; all_goals with_reducible rfl)
  simp only [skipAct,Act.put,List.setIfInBounds_toArray,List.set_cons_zero,List.set_cons_succ]
  refine takeW (i:=7) (fuel:=19) (d:=some 19) (v:=?vr7) (listed':=#[true,true,true,true,true,true,true,true,false,false,false,false,false,false,false,false,false,false,false,false,false,false,false,false,false,false,false]) rfl rfl (by kernel_rfl) (by kernel_rfl) (by kernel_rfl) (by kernel_rfl) (by kernel_rfl) (fun _ _ _ h => h) (by kernel_rfl) (by assumption) ?hr7 ?rr7
  case hr7 => (intro w hSw; (try dsimp only at hSw); go_simp; all_goals with_reducible rfl)
  simp only [skipAct,Act.put,List.setIfInBounds_toArray,List.set_cons_zero,List.set_cons_succ]
  refine takeW (i:=8) (fuel:=18) (d:=some 20) (v:=?vr8) (listed':=#[true,true,true,true,true,true,true,true,true,false,false,false,false,false,false,false,false,false,false,false,false,false,false,false,false,false,false]) rfl rfl (by kernel_rfl) (by kernel_rfl) (by kernel_rfl) (by kernel_rfl) (by kernel_rfl) (fun _ _ _ h => h) (by kernel_rfl) (by assumption) ?hr8 ?rr8
  case hr8 => (intro w hSw; (try dsimp only at hSw); go_simp; all_goals with_reducible rfl)
  simp only [skipAct,Act.put,List.setIfInBounds_toArray,List.set_cons_zero,List.set_cons_succ]
  refine takeW (i:=9) (fuel:=17) (d:=some 21) (v:=?vr9) (listed':=#[true,true,true,true,true,true,true,true,true,true,false,false,false,false,false,false,false,false,false,false,false,false,false,false,false,false,false]) rfl rfl (by kernel_rfl) (by kernel_rfl) (by kernel_rfl) (by kernel_rfl) (by kernel_rfl) (fun _ _ _ h => h) (by kernel_rfl) (by assumption) ?hr9 ?rr9
  case hr9 => (intro w hSw; (try dsimp only at hSw); go_simp; all_goals with_reducible rfl)
  simp only [skipAct,Act.put,List.setIfInBounds_toArray,List.set_cons_zero,List.set_cons_succ]
  refine takeW (i:=10) (fuel:=16) (d:=some 22) (v:=?vr10) (listed':=#[true,true,true,true,true,true,true,true,true,true,true,false,false,false,false,false,false,false,false,false,false,false,false,false,false,false,false]) rfl rfl (by kernel_rfl) (by kernel_rfl) (by kernel_rfl) (by kernel_rfl) (by kernel_rfl) (fun _ _ _ h => h) (by kernel_rfl) (by assumption) ?hr10 ?rr10
  case hr10 => (intro w hSw; (try dsimp only at hSw); go_simp; all_goals with_reducible rfl)
  simp only [skipAct,Act.put,List.setIfInBounds_toArray,List.set_cons_zero,List.set_cons_succ]
  refine takeW (i:=11) (fuel:=15) (d:=some 23) (v:=?vr11) (listed':=#[true,true,true,true,true,true,true,true,true,true,true,true,false,false,false,false,false,false,false,false,false,false,false,false,false,false,false]) rfl rfl (by kernel_rfl) (by kernel_rfl) (by kernel_rfl) (by kernel_rfl) (by kernel_rfl) (fun _ _ _ h => h) (by kernel_rfl) (by assumption) ?hr11 ?rr11
  case hr11 => (intro w hSw; (try dsimp only at hSw); go_simp; all_goals with_reducible rfl)
  simp only [skipAct,Act.put,List.setIfInBounds_toArray,List.set_cons_zero,List.set_cons_succ]
  refine takeW (i:=12) (fuel:=14) (d:=some 24) (v:=?vr12) (listed':=#[true,true,true,true,true,true,true,true,true,true,true,true,true,false,false,false,false,false,false,false,false,false,false,false,false,false,false]) rfl rfl (by kernel_rfl) (by kernel_rfl) (by kernel_rfl) (by kernel_rfl) (by kernel_rfl) (fun _ _ _ h => h) (by kernel_rfl) (by assumption) ?hr12 ?rr12
  case hr12 => (intro w hSw; (try dsimp only at hSw); go_simp; all_goals with_reducible rfl)
  simp only [skipAct,Act.put,List.setIfInBounds_toArray,List.set_cons_zero,List.set_cons_succ]
  refine takeW (i:=13) (fuel:=13) (d:=some 25) (v:=?vr13) (listed':=#[true,true,true,true,true,true,true,true,true,true,true,true,true,true,false,false,false,false,false,false,false,false,false,false,false,false,false]) rfl rfl (by kernel_rfl) (by kernel_rfl) (by kernel_rfl) (by kernel_rfl) (by kernel_rfl) (fun _ _ _ h => h) (by kernel_rfl) (by assumption) ?hr13 ?rr13
  case hr13 => (intro w hSw; (try dsimp only at hSw); go_simp; all_goals with_reducible rfl)
  simp only [skipAct,Act.put,List.setIfInBounds_toArray,List.set_cons_zero,List.set_cons_succ]
  refine takeW (i:=14) (fuel:=12) (d:=some 26) (v:=?vr14) (listed':=#[true,true,true,true,true,true,true,true,true,true,true,true,true,true,true,false,false,false,false,false,false,false,false,false,false,false,false]) rfl rfl (by kernel_rfl) (by kernel_rfl) (by kernel_rfl) (by kernel_rfl) (by kernel_rfl) (fun _ _ _ h => h) (by kernel_rfl) (by assumption) ?hr14 ?rr14
  case hr14 => (intro w hSw; (try dsimp only at hSw); go_simp; all_goals with_reducible rfl)
  simp only [skipAct,Act.put,List.setIfInBounds_toArray,List.set_cons_zero,List.set_cons_succ]
  refine takeW (i:=15) (fuel:=11) (d:=some 27) (v:=?vr15) (listed':=#[true,true,true,true,true,true,true,true,true,true,true,true,true,true,true,true,false,false,false,false,false,false,false,false,false,false,false]) rfl rfl (by kernel_rfl) (by kernel_rfl) (by kernel_rfl) (by kernel_rfl) (by kernel_rfl) (fun _ _ _ h => h) (by kernel_rfl) (by assumption) ?hr15 ?rr15
  case hr15 => (intro w hSw; (try dsimp only at hSw); go_simp; all_goals with_reducible rfl)
  simp only [skipAct,Act.put,List.setIfInBounds_toArray,List.set_cons_zero,List.set_cons_succ]
  refine takeW (i:=16) (fuel:=10) (d:=some 28) (v:=?vr16) (listed':=#[true,true,true,true,true,true,true,true,true,true,true,true,true,true,true,true,true,false,false,false,false,false,false,false,false,false,false]) rfl rfl (by kernel_rfl) (by kernel_rfl) (by kernel_rfl) (by kernel_rfl) (by kernel_rfl) (fun _ _ _ h => h) (by kernel_rfl) (by assumption) ?hr16 ?rr16
  case hr16 => (intro w hSw; (try dsimp only at hSw); go_simp; all_goals with_reducible rfl)
  simp only [skipAct,Act.put,List.setIfInBounds_toArray,List.set_cons_zero,List.set_cons_succ]
  refine takeW (i:=17) (fuel:=9) (d:=some 29) (v:=?vr17) (listed':=#[true,true,true,true,true,true,true,true,true,true,true,true,true,true,true,true,true,true,false,false,false,false,false,false,false,false,false]) rfl rfl (by kernel_rfl) (by kernel_rfl) (by kernel_rfl) (by kernel_rfl) (by kernel_rfl) (fun _ _ _ h => h) (by kernel_rfl) (by assumption) ?hr17 ?rr17
  case hr17 => (intro w hSw; (try dsimp only at hSw); go_simp; all_goals with_reducible rfl)
  simp only [skipAct,Act.put,List.setIfInBounds_toArray,List.set_cons_zero,List.set_cons_succ]
  refine takeW (i:=18) (fuel:=8) (d:=some 30) (v:=?vr18) (listed':=#[true,true,true,true,true,true,true,true,true,true,true,true,true,true,true,true,true,true,true,false,false,false,false,false,false,false,false]) rfl rfl (by kernel_rfl) (by kernel_rfl) (by kernel_rfl) (by kernel_rfl) (by kernel_rfl) (fun _ _ _ h => h) (by kernel_rfl) (by assumption) ?hr18 ?rr18
  case hr18 => (intro w hSw; (try dsimp only at hSw); go_simp; all_goals with_reducible rfl)
  simp only [skipAct,Act.put,List.setIfInBounds_toArray,List.set_cons_zero,List.set_cons_succ]
  refine takeC (i:=19) (fuel:=7) (d:=some 31) (listed':=#[true,true,true,true,true,true,true,true,true,true,true,true,true,true,true,true,true,true,true,true,false,false,false,false,false,false,false]) rfl rfl (by kernel_rfl) (by kernel_rfl) (by kernel_rfl) (by kernel_rfl) (fun K hK => ?cr19)
  go_simp
  ((go_at_call 189; with_reducible refine (HF.out _ (by first | exact hB | exact hB.drew)).mono ?_; rw [HO.out]; rintro e1 w1 ⟨rfl,hb1⟩; replace hB:=below2 (by first | exact hB | exact hB.drew) hb1 (Nat.le_refl _)))
  go_wp2_with fail
  refine hK.out _ _ ?kr19 (fun hHeld => ?nr19)
  case kr19 => ((try dsimp only); (first | exact KB.out _ hB | exact KB.out _ hB.drew))
  clear hK K
  try simp only [skipAct,Act.put,List.setIfInBounds_toArray,List.set_cons_zero,List.set_cons_succ]
  refine takeW (i:=20) (fuel:=6) (d:=some 32) (v:=?vr20) (listed':=#[true,true,true,true,true,true,true,true,true,true,true,true,true,true,true,true,true,true,true,true,true,false,false,false,false,false,false]) rfl rfl (by kernel_rfl) (by kernel_rfl) (by kernel_rfl) (by kernel_rfl) (by kernel_rfl) (fun _ _ _ h => h) (by kernel_rfl) (by assumption) ?hr20 ?rr20
  case hr20 => (intro w hSw; (try dsimp only at hSw); go_simp; all_goals with_reducible rfl)
  simp only [skipAct,Act.put,List.setIfInBounds_toArray,List.set_cons_zero,List.set_cons_succ]
  refine takeW (i:=21) (fuel:=5) (d:=some 33) (v:=?vr21) (listed':=#[true,true,true,true,true,true,true,true,true,true,true,true,true,true,true,true,true,true,true,true,true,true,false,false,false,false,false]) rfl rfl (by kernel_rfl) (by kernel_rfl) (by kernel_rfl) (by kernel_rfl) (by kernel_rfl) (fun _ _ _ h => h) (by kernel_rfl) (by assumption) ?hr21 ?rr21
  case hr21 => (intro w hSw; (try dsimp only at hSw); go_simp; all_goals with_reducible rfl)
  simp only [skipAct,Act.put,List.setIfInBounds_toArray,List.set_cons_zero,List.set_cons_succ]
  refine takeW (i:=22) (fuel:=4) (d:=some 34) (v:=?vr22) (listed':=#[true,true,true,true,true,true,true,true,true,true,true,true,true,true,true,true,true,true,true,true,true,true,true,false,false,false,false]) rfl rfl (by kernel_rfl) (by kernel_rfl) (by kernel_rfl) (by kernel_rfl) (by kernel_rfl) (fun _ _ _ h => h) (by kernel_rfl) (by assumption) ?hr22 ?rr22
  case hr22 => (intro w hSw; (try dsimp only at hSw); go_simp; all_goals with_reducible rfl)
  simp only [skipAct,Act.put,List.setIfInBounds_toArray,List.set_cons_zero,List.set_cons_succ]
  refine takeS (fuel:=1) (listed':=#[true,true,true,true,true,true,true,true,true,true,true,true,true,true,true,true,true,true,true,true,true,true,true,true,true,true,false]) (by kernel_rfl) (fun _ _ _ _ h => h) (by assumption) [(23,35),(24,36),(25,37)] (by kernel_rfl) (by kernel_rfl) (by kernel_rfl) ?_
  simp only [skipAct,Act.put,List.setIfInBounds_toArray,List.set_cons_zero,List.set_cons_succ]
  refine takeW (i:=26) (fuel:=0) (d:=some 38) (v:=?vr26) (listed':=#[true,true,true,true,true,true,true,true,true,true,true,true,true,true,true,true,true,true,true,true,true,true,true,true,true,true,true]) rfl rfl (by kernel_rfl) (by kernel_rfl) (by kernel_rfl) (by kernel_rfl) (by kernel_rfl) (fun _ _ _ h => h) (by kernel_rfl) (by assumption) ?hr26 ?rr26
  case hr26 => (intro w hSw; (try dsimp only at hSw); go_simp; all_goals with_reducible rfl)
  simp only [skipAct,Act.put,List.setIfInBounds_toArray,List.set_cons_zero,List.set_cons_succ]
  refine wpAnyH_done (by kernel_rfl) ?_ _
  go_wp2
  go_ret
  exact ⟨by rw [H.out]; rfl,⟨M,hb0.below (by first | exact hB | exact hB.drew | exact Go.below_drewN hB _),fun h => by rw [H.out] at h; cases h⟩,hK0.then (by first | exact hB | exact hB.drew | exact Go.below_drewN hB _)⟩
 | true =>
  have HO:=Lib.hid hnode
  cases hkk:V.kidsOk k kids with
  | false =>
   have HKK:=Lib.hid (show V.kidsOk (V.kind (.mk k m e s kids)) (V.kids (.mk k m e s kids)) = false from hkk)
   have H:=Lib.hid (vGood_no5 (deep:=deep) (L:=M + 1) (x:=.mk k m e s kids) (by rw [HSN.out,hnode]; exact hkk))
   clear hnode hkk
   go_enter Tryz.func143,Tryz.ntmps143
   go_wp2
   rw [<- HW.out]
   have hB:=Below.refl W0.heap.size W0
   go_region_held3 (fun W => W.cell? ⟨w.heap.size,0,none⟩ = some (.int .i64 k) /\ W.cell? ⟨w.heap.size,1,none⟩ = some (.int .i64 m) /\ W.cell? ⟨w.heap.size,2,none⟩ = some (.int .i64 e) /\ W.cell? ⟨w.heap.size,3,none⟩ = some (.string ⟨s.toArray⟩) /\ W.cell? ⟨w.heap.size,4,none⟩ = some (.slice a2 kids.length c2) /\ W.cell? ⟨w.heap.size + 1,0,none⟩ = some (.int .i64 deep) /\ W.cell? ⟨w.heap.size + 1 + 1,0,none⟩ = some (.pointer (some ⟨g,0,none⟩)) /\ W.cell? ⟨g,0,none⟩ = some (.int .i64 M))
    (first | exact KB.out _ hB | exact KB.out _ hB.drew)
    (first | (go_at_call 189; with_reducible refine (HF.out _ (by first | exact hB | exact hB.drew)).mono ?_; rw [HO.out]; rintro e1 w1 ⟨rfl,hb1⟩; replace hB:=below2 (by first | exact hB | exact hB.drew) hb1 (Nat.le_refl _)) | (go_at_call 190; with_reducible refine (HQ.out _ (by first | exact hB | exact hB.drew)).mono ?_; rw [HKK.out]; rintro e1 w1 ⟨rfl,hb1⟩; replace hB:=below2 (by first | exact hB | exact hB.drew) hb1 (Nat.le_refl _)))
   go_wp2
   go_ret
   exact ⟨by rw [H.out]; rfl,⟨M,hb0.below (by first | exact hB | exact hB.drew | exact Go.below_drewN hB _),fun h => by rw [H.out] at h; cases h⟩,hK0.then (by first | exact hB | exact hB.drew | exact Go.below_drewN hB _)⟩
  | true =>
   have HKK:=Lib.hid (show V.kidsOk (V.kind (.mk k m e s kids)) (V.kids (.mk k m e s kids)) = true from hkk)
   have H0:=vGood_yes (L:=M + 1) qc2 (show V.selfI (.mk k m e s kids) = true by rw [HSN.out,hnode]; exact hkk)
   rw [show M + 1 - 1 = M by omega] at H0
   have H:=Lib.hid H0
   clear H0 hnode hkk
   go_enter Tryz.func143,Tryz.ntmps143
   go_wp2
   rw [<- HW.out]
   have hB:=Below.refl W0.heap.size W0
   go_region_held3 (fun W => W.cell? ⟨w.heap.size,0,none⟩ = some (.int .i64 k) /\ W.cell? ⟨w.heap.size,1,none⟩ = some (.int .i64 m) /\ W.cell? ⟨w.heap.size,2,none⟩ = some (.int .i64 e) /\ W.cell? ⟨w.heap.size,3,none⟩ = some (.string ⟨s.toArray⟩) /\ W.cell? ⟨w.heap.size,4,none⟩ = some (.slice a2 kids.length c2) /\ W.cell? ⟨w.heap.size + 1,0,none⟩ = some (.int .i64 deep) /\ W.cell? ⟨w.heap.size + 1 + 1,0,none⟩ = some (.pointer (some ⟨g,0,none⟩)) /\ W.cell? ⟨g,0,none⟩ = some (.int .i64 M))
    (first | exact KB.out _ hB | exact KB.out _ hB.drew)
    (first | (go_at_call 189; with_reducible refine (HF.out _ (by first | exact hB | exact hB.drew)).mono ?_; rw [HO.out]; rintro e1 w1 ⟨rfl,hb1⟩; replace hB:=below2 (by first | exact hB | exact hB.drew) hb1 (Nat.le_refl _)) | (go_at_call 190; with_reducible refine (HQ.out _ (by first | exact hB | exact hB.drew)).mono ?_; rw [HKK.out]; rintro e1 w1 ⟨rfl,hb1⟩; replace hB:=below2 (by first | exact hB | exact hB.drew) hb1 (Nat.le_refl _)))
   obtain ⟨p0,p1,p2,p3,p4,p6,p7,p8⟩:=KB.out _ hB
   have hkw:V.wfs kids:=hwf.2.2.2.2.2
   have hkb:kids.length + V.bulks kids <= 4294967295:=by simp only [V.bulk] at hbk; omega
   have HCC:=Lib.hid (hC kids _ deep N g (w.heap.size + 1) (w.heap.size + 1 + 1) M _ hnk (HRk.out _ hB) hNg (hb0.below hB) (hbd0.below hB) (by omega) p7 (by omega) hkw hkb (hT0.out.below hB) hG (by omega) (by omega))
   go_wp2_with (go_at_call 191; refine HCC.out.mono ?_; rintro e1 w2 ⟨rfl,⟨L',hbx,hL'⟩,hk2⟩)
   go_ret
   exact ⟨by rw [H.out]; simp,⟨L',hbx,fun hh => by rw [H.out] at hh; rw [hL' hh]; simp only [V.nodes]; omega⟩,(hK0.then hB).trans hk2⟩
set_option maxHeartbeats 800000 in
set_option maxRecDepth 10000 in
theorem isValue1_any {n:Nat} (hA:VIsA n) (x:V) (cs:List Value) (deep N g bd bl:Nat) (L:Int) (w:World) (hn:x.nodes <= n) (h:RdN N w x.d cs) (hNg:N <= g) (hbox:intBox w g L) (hbd:intBox w bd deep) (hbl:w.cell? ⟨bl,0,none⟩ = some (.pointer (some ⟨g,0,none⟩)))
  (hwf:x.wf) (hbk:x.bulk <= 4294967295) (hT:Tabs w) (hG:GlobN N) (hdeep:deep <= 1000) (hL:0 <= L /\ L <= 1000) :
  Calls Tryz.prog 192 #[.agg cs.toArray,.pointer (some ⟨bd,0,none⟩),.pointer (some ⟨bl,0,none⟩)] w fun e w' => e = .returned (.bool (!vGood (deep + 1) L x)) /\ (∃ L':Int,intBox w' g L' /\ (vGood (deep + 1) L x = true -> L' = L - x.nodes)) /\ Keep (· = g) w w':=by
 obtain ⟨k,m,e,s,a2,n2,c2,rfl⟩:=V.form h.rd
 have hb1:=hbd.cell
 have hz1:=hbd.lt
 have hz2:bl < w.heap.size:=cell_lt hbl
 have hN:N <= w.heap.size:=by have:=hbox.lt; omega
 have hal:Below w.heap.size w (w.alloc (.cells #[.int .i64 k,.int .i64 m,.int .i64 e,.string ⟨s.toArray⟩,.slice a2 n2 c2] 41)):=(Below.refl _ _).alloc (Nat.le_refl _) _
 have HCC:=Lib.hid (hA x _ (deep + 1) N g L _ hn (h.below (hal.mono hN)) hNg (hbox.below hal) hwf hbk (hT.below hal) hG (by omega) hL)
 go_enter Tryz.func192,Tryz.ntmps192
 go_wp2_with (go_at_call 143; refine HCC.out.mono ?_; rintro e w1 ⟨rfl,hL',hk1⟩)
 go_ret
 exact ⟨rfl,hL',(Keep.of_below hal).trans hk1⟩
theorem vGoods_snoc (deep:Nat) (L:Int) (xs:List V) (k:Nat) (hk:k < xs.length) (h:vGoods deep L (xs.take k) = true) :
  vGoods deep L (xs.take (k + 1)) = vGood deep (L - V.nodess (xs.take k)) xs[k]:=by
 have hn:∀ (ls:List V) (x:V),V.nodess (ls ++ [x]) = V.nodess ls + x.nodes:=by
  intro ls x; induction ls with
  | nil => simp [V.nodess]
  | cons a ls ih => simp only [List.cons_append,V.nodess,ih]; omega
 unfold vGoods at h ⊢; unfold vGood
 rw [List.take_succ_eq_append_getElem hk,hn,V.rightsBy_all,List.all_append]
 rw [V.rightsBy_all] at h
 simp only [Bool.and_eq_true,decide_eq_true_eq] at h
 rw [h.1,Bool.true_and]
 congr 1
 ·simp
 ·exact decide_eq_decide.2 (by omega)
theorem vGoods_cut (deep:Nat) (L:Int) (xs:List V) (k:Nat) (h:vGoods deep L (xs.take k) = false):vGoods deep L xs = false:=by
 have hn:∀ (ls ms:List V),V.nodess (ls ++ ms) = V.nodess ls + V.nodess ms:=by
  intro ls ms; induction ls with
  | nil => simp [V.nodess]
  | cons a ls ih => simp only [List.cons_append,V.nodess,ih]; omega
 cases hk:vGoods deep L xs with
 | false => rfl
 | true =>
  exfalso
  rw [<- List.take_append_drop k xs] at hk
  unfold vGoods at h hk
  rw [V.rightsBy_all,List.all_append,hn] at hk
  rw [V.rightsBy_all] at h
  simp only [Bool.and_eq_true,decide_eq_true_eq] at hk
  rw [hk.1.1,decide_eq_true (by omega)] at h; cases h
set_option maxHeartbeats 1600000 in
set_option maxRecDepth 10000 in
theorem visIndex_any {n:Nat} (hA:VIsA n) (xs:List V) (va:Value) (deep N g bd bl:Nat) (L:Int) (w:World) (hn:V.nodess xs <= n) (h:RdN N w (.sl 5 (V.ds xs)) [va]) (hNg:N <= g) (hbox:intBox w g L) (hbd:intBox w bd deep) (hbg:bd ≠ g) (hbl:w.cell? ⟨bl,0,none⟩ = some (.pointer (some ⟨g,0,none⟩))) (hlg:bl ≠ g)
  (hwf:V.wfs xs) (hbk:xs.length + V.bulks xs <= 4294967295) (hT:Tabs w) (hG:GlobN N) (hdeep:deep <= 1000) (hL:0 <= L /\ L <= 1000) :
  Calls Tryz.prog 223 #[va,.func (.func 192) #[] #[.pointer (some ⟨bd,0,none⟩),.pointer (some ⟨bl,0,none⟩)]] w fun e w' => (∃ r:Int,e = .returned (.int .i64 r) /\ decide (0 <= r) = !vGoods (deep + 1) L xs) /\ (∃ L':Int,intBox w' g L' /\ (vGoods (deep + 1) L xs = true -> L' = L - V.nodess xs)) /\ Keep (· = g) w w':=by
 have hN:N <= w.heap.size:=by have:=hbox.lt; omega
 have hng:∀ k,k < N -> ¬ k = g:=by intro k hk e; omega
 have hz1:=hbd.lt
 have hz2:bl < w.heap.size:=cell_lt hbl
 have hlen:xs.length <= 4294967295:=by omega
 obtain ⟨a,c,rfl,hg⟩:=RepC.values h
 obtain ⟨ok,hok⟩:∃ ok,vGoods (deep + 1) L xs = ok:=⟨_,rfl⟩
 rw [hok]
 have HOK:=Lib.hid hok; clear hok
 obtain ⟨hL1,hL2⟩:=hL
 go_enter Tryz.func223,Tryz.ntmps223
 go_wp2
 go_loopw [8] (fun i wr => ∃ (k:Nat),k <= xs.length /\ i = .int .i64 k /\ intBox wr g (L - V.nodess (xs.take k)) /\ vGoods (deep + 1) L (xs.take k) = true /\ Keep (· = g) w wr) (fun i _ => xs.length - (intOf i).toNat)
 case atStart => exact ⟨0,Nat.zero_le _,rfl,by simpa [V.nodess] using hbox,by simp [vGoods,V.rightsBy,V.nodess,hL1],Keep.refl _ _⟩
 case round =>
  obtain ⟨k,hk,rfl,hbx,hgd,hkp⟩:=hrel
  have HGD:=Lib.hid hgd
  have hle:(V.nodess (xs.take k):Int) <= L:=by unfold vGoods at hgd; simp only [Bool.and_eq_true,decide_eq_true_eq] at hgd; exact hgd.2
  clear hgd
  by_cases hlt:k < xs.length
  ·obtain ⟨_,_,b,o,rfl,hb,hcell⟩:=hg (by intro e; rw [e] at hlt; simp at hlt)
   obtain ⟨v0,v1,v2,v3,v4,hr,d0,d1,d2,d3,d4⟩:=hcell k hlt
   clear hcell hg
   obtain ⟨k1,k2,k3,s4,a6,n6,m6,hcs⟩:=V.formS hr
   simp only [List.cons.injEq,and_true] at hcs
   obtain ⟨rfl,rfl,rfl,rfl,rfl⟩:=hcs
   have hbN:b < w.heap.size:=by omega
   have hbg':=hng b hb
   rw [<- hkp.cell hbN hbg'] at d0 d1 d2 d3 d4
   have hi1:(0:Int) <= k:=by omega
   have hi3:(k:Int) < xs.length:=by omega
   have hnk:xs[k].nodes <= n:=Nat.le_trans (V.nodes_get xs k hlt) hn
   have HC:=Lib.hid (isValue1_any hA xs[k] _ deep N g bd bl _ wr hnk (RdN.keep (N:=N) hr hkp hN hng) hNg hbx (hbd.keep hkp hbg) (by rw [hkp.cell hz2 hlg]; exact hbl) (V.wfs_get hwf k hlt) (V.bulk_get' hbk k hlt) (hT.keep hG hkp hN hng) hG hdeep (by omega))
   have HSN:=Lib.hid (vGoods_snoc (deep + 1) L xs k hlt HGD.out)
   have hns:V.nodess (xs.take (k + 1)) = V.nodess (xs.take k) + xs[k].nodes:=by
    rw [List.take_succ_eq_append_getElem hlt]
    have hn:∀ (ls:List V) (x:V),V.nodess (ls ++ [x]) = V.nodess ls + x.nodes:=by
     intro ls x; induction ls with
     | nil => simp [V.nodess]
     | cons a ls ih => simp only [List.cons_append,V.nodess,ih]; omega
    exact hn _ _
   have HNS:=Lib.hid hns
   clear hns hr hbx h hT hwf hbk hng hbox hbd hbl
   cases hgd:vGood (deep + 1) (L - V.nodess (xs.take k)) xs[k] with
   | true =>
    have HG:=Lib.hid hgd; clear hgd
    go_wp2_with (go_at_call 192; refine HC.out.mono ?_; rw [HG.out]; rintro e w1 ⟨rfl,⟨L',hbx1,hL'⟩,hk1⟩)
    go_roundw
    case rel => exact ⟨k + 1,by omega,by go_num,by rw [show L - (V.nodess (xs.take (k + 1)):Int) = L' by rw [hL' trivial,HNS.out]; omega]; exact hbx1,by rw [HSN.out,HG.out],hkp.trans hk1⟩
    case measure => simp [intOf]; omega
   | false =>
    have HG:=Lib.hid hgd; clear hgd
    have HF:=Lib.hid (show ok = false by rw [<- HOK.out]; exact vGoods_cut _ _ _ (k + 1) (by rw [HSN.out,HG.out]))
    go_wp2_with (go_at_call 192; refine HC.out.mono ?_; rw [HG.out]; rintro e w1 ⟨rfl,⟨L',hbx1,hL'⟩,hk1⟩)
    go_ret
    exact ⟨⟨_,rfl,by rw [HF.out]; simp⟩,⟨L',hbx1,fun hh => by rw [HF.out] at hh; cases hh⟩,hkp.trans hk1⟩
  ·obtain rfl:k = xs.length:=by omega
   have h1:=HGD.out
   rw [List.take_length] at h1 hbx
   have HF:=Lib.hid (show ok = true by rw [<- HOK.out]; exact h1)
   clear h1
   go_wp2
   go_ret
   exact ⟨⟨_,rfl,by rw [HF.out]; rfl⟩,⟨_,hbx,fun _ => rfl⟩,hkp⟩
set_option maxHeartbeats 400000 in
theorem VIsC_of {n:Nat} (hA:VIsA n):VIsC n:=by
 intro xs va deep N g bd bl L w hn h hNg hbox hbd hbg hbl hlg hwf hbk hT hG hdeep hL
 have HC:=Lib.hid (visIndex_any hA xs va deep N g bd bl L w hn h hNg hbox hbd hbg hbl hlg hwf hbk hT hG hdeep hL)
 go_enter Tryz.func191,Tryz.ntmps191
 go_wp2_with (go_at_call 223; refine HC.out.mono ?_; rintro e w1 ⟨⟨r,rfl,hr⟩,hL',hk1⟩; have HR:=Lib.hid hr; clear hr)
 go_ret
 exact ⟨by rw [<- HR.out]; rfl,hL',hk1⟩
theorem VIs_all:∀ n,VIsA n
 | 0 => fun x cs deep N g L w hn => absurd x.nodes_pos (by omega)
 | n + 1 => VIsA_of (VIsC_of (VIs_all n))
set_option maxHeartbeats 400000 in
set_option maxRecDepth 10000 in
theorem valueOk_impl (x:V) (cs:List Value) (w:World) (h:Rd w x.d cs) (hwf:x.wf) (hbk:x.bulk <= 4294967295) (hT:Tabs w) :
  Calls Tryz.prog 87 #[.agg cs.toArray] w fun e w' => e = .returned (.bool x.ok) /\ Below w.heap.size w w':=by
 obtain ⟨k,m,e,s,a2,n2,c2,rfl⟩:=V.form h
 obtain ⟨W0,hW0⟩:∃ W0,W0 = (w.alloc (.cells #[.int .i64 k,.int .i64 m,.int .i64 e,.string ⟨s.toArray⟩,.slice a2 n2 c2] 41)).alloc (.cells #[.int .i64 300] 3):=⟨_,rfl⟩
 have HW:=Lib.hid hW0
 have hA:Below w.heap.size w W0:=by rw [hW0]; exact ((Below.refl _ _).alloc (Nat.le_refl _) _).alloc (by simp) _
 have hbx:intBox W0 (w.heap.size + 1) 300:=by
  rw [hW0]
  have:=heap_alloc_new (w.alloc (.cells #[.int .i64 k,.int .i64 m,.int .i64 e,.string ⟨s.toArray⟩,.slice a2 n2 c2] 41)) (.cells #[.int .i64 300] 3)
  simpa [intBox] using this
 have HC:=Lib.hid (VIs_all x.nodes x _ 0 w.heap.size (w.heap.size + 1) 300 W0 (Nat.le_refl _) (h.rdN.below hA) (by omega) hbx hwf hbk (hT.below hA) ⟨hT.lt.1,hT.lt.2⟩ (by decide) (by decide))
 have hsz:W0.heap.size = w.heap.size + 2:=by rw [hW0]; simp
 clear hW0 h hbx
 go_enter Tryz.func87,Tryz.ntmps87
 go_wp2_with (go_at_call 143; rw [<- HW.out]; refine HC.out.mono ?_; rintro e w1 ⟨rfl,_,hk1⟩)
 go_ret
 refine ⟨ret_bool ?_,hA.trans (hk1.below (by omega) (fun k hk e => by omega))⟩
 show vGood 0 300 x = _
 rw [<- V.ok_impl]; unfold vGood; congr 1
 exact decide_eq_decide.2 (by omega)
end
/- PvVokI -/
section
open Go.RowKit
variable {T:World -> Prop} {hT:Low ngl T}
theorem voki_fn (hTab:∀ w,T w -> Tabs w) (v:V) (hw:v.wf) (hb:v.bulk <= 4294967295):FnV (env T hT) 87 [.ag (vC v)] (.d (pB v.ok)):=by
 refine FnV.old rfl fun w C vs hF _ ht hlen hv => ?_
 match vs,hlen with
 | [a],_ =>
  have h0:=hv 0 _ _ rfl rfl
  rw [<- V.pc_eq] at h0
  obtain ⟨cs,rfl,h1⟩:=vRd hF (V.wfd v) h0
  exact valueOk_impl v cs w h1 hw hb (hTab w ht)
end
/- PvI1 -/
section
open Go.RowKit
open Go.Lib (validD)
variable {T:World -> Prop} {hT:Low ngl T}
attribute [local irreducible] po mw pt
theorem po_slcg {E:Env} {d n:Nat} {x:X} {g:Option (Nat × Bool)} {lo hi:Option X} {c:List X} {r:List MOpr} {K:St -> Prop} {tm:Nat -> PV} {bx:List (List PC)} {nt:Nat} {live:List Nat} {t l h:Nat} {es rs:List (List PC)} (hg:gd g tm = some true) (hx:ev tm x = .d (.sl t es)) (hl:bound (ev tm) 0 lo = some l) (hh:bound (ev tm) es.length hi = some h) (hle:l <= h /\ h <= es.length) (hw:∀ e ∈ es,e.length = n) (hr:(es.drop l).take (h - l) = rs)
  (k:po E r K ⟨up d (.d (.sl 0 rs)) tm,bx,nt,live⟩):po E (⟨some d,.slc n x lo hi,g,c⟩ :: r) K ⟨tm,bx,nt,live⟩:=by
 refine po_q hg ?_ k
 subst hr
 simp only [qf,hx,hl,hh]
 rw [if_pos ⟨hle.1,hle.2,hw⟩]
theorem po_eqs {E:Env} {K:St -> Prop} {tm:Nat -> PV} {bx:List (List PC)} {nt d:Nat} {live:List Nat} {r:List MOpr} {g:Option (Nat × Bool)} {c:List X} {x y:X} {la lb:List UInt8} {f:Bool} (hg:gd g tm = some true) (hx:ev tm x = .d (pS la)) (hy:ev tm y = .d (pS lb)) (h:po E r K ⟨up d (.d (pB (decide (la = lb)))) tm,bx,nt,live⟩):po E (⟨some d,.bin .eql f x y,g,c⟩ :: r) K ⟨tm,bx,nt,live⟩:=by
 refine po_q hg ?_ h
 simp only [qf,hx,hy,pS]
 show some (PV.d (.v (.bool ((ByteArray.mk la.toArray).toList == (ByteArray.mk lb.toArray).toList)))) = _
 rw [ByteArray.toList_eq,ByteArray.toList_eq]
 show some (PV.d (.v (.bool (la == lb)))) = _
 by_cases h:la = lb
 ·subst h; simp [pB]
 ·simp [h,pB]
theorem ixF_first:∀ (ls:List (List UInt8)) (i:Nat) (h:i < ls.length) (k:Nat),ixF ls ls[i] k = ((k + i:Nat):Int) ↔ ls[i] ∉ ls.take i
 | a :: r,0,h,k => by simp [ixF]
 | a :: r,i + 1,h,k => by
  have ih:=ixF_first r i (by simpa using h) (k + 1)
  simp only [List.getElem_cons_succ,List.take_succ_cons,List.mem_cons,not_or]
  rw [ixF]
  by_cases he:a = r[i]'(by simpa using h)
  ·rw [if_pos he]
   constructor
   ·intro h2; omega
   ·intro h2; exact absurd he.symm h2.1
  ·rw [if_neg he,show k + (i + 1) = k + 1 + i by omega,ih]
   exact ⟨fun h2 => ⟨fun e => he e.symm,h2⟩,fun h2 => h2.2⟩
theorem ixF_memN:∀ (ls:List (List UInt8)) (s:List UInt8) (k:Nat),(0 <= ixF ls s k) ↔ s ∈ ls
 | [],s,k => by simp [ixF]
 | a :: r,s,k => by
  unfold ixF; split
  ·rename_i h; subst h; simp
  ·rename_i h; rw [ixF_memN r s (k + 1)]; simp [Ne.symm h]
def IxI (ns:List (List UInt8)) (key:List UInt8) (m:Nat) (st:St):Prop:=∃ i:Nat,i <= ns.length /\ m = ns.length - i /\ has st.tm [(0,.d (pSs ns)),(1,.d (pS key)),(7,.d (pI ns.length)),(8,.d (pI i))] /\ ixF (ns.drop i) key i = ixF ns key 0
set_option maxHeartbeats 1000000 in
theorem indexN_fn (ns:List (List UInt8)) (key:List UInt8) (hl:ns.length <= 4294967295):FnV (env T hT) 216 [.d (pSs ns),.d (pS key)] (.d (pI (ixF ns key 0))):=by
 refine fn_of (look_env lk_slices_Index_impl_Names_string) (by show 2 <= 19; decide) fun B hB => ?_
 unfold m_slices_Index_impl_Names_string
 refine mw_seq (mw_ops ?_)
 repeat' (first | refine pm ?_ | refine pq ?_ | refine px ?_ | refine po_zero ?_ | refine po_nil ?_)
 refine mw_cut (fun s => ixF ns key 0 = -1) ?_ ?_
 ·refine mw_seq (mw_ops ?_)
  first | refine pm ?_ | refine pq ?_
  refine po_len (n:=ns.length) rfl rfl (pSr_len ns) ?_
  repeat' (first | refine pm ?_ | refine pq ?_ | refine px ?_ | refine po_zero ?_ | refine po_nil ?_)
  refine mw_block ?_
  refine mw_while (IxI ns key) ns.length ⟨0,Nat.zero_le _,rfl,⟨rfl,rfl,rfl,rfl,trivial⟩,rfl⟩ ?_
  rintro m tm bx nt live ⟨i,hi,rfl,ht,hx⟩
  obtain ⟨tm0,rfl⟩:=has_ups ht
  refine mw_seq (mw_ops ?_)
  refine po_b rfl rfl (fun b hb => ?_)
  refine po_nil ?_
  refine mw_seq ?_
  refine mw_cd (p:=(i:Int) < ns.length) hb rfl (fun h _ => ?_) (fun h _ => ?_)
  ·have hil:i < ns.length:=by omega
   refine mw_skip ?_
   refine mw_seq (mw_block (mw_seq (mw_ops ?_)))
   repeat' (first | refine pm ?_ | refine pq ?_ | refine px ?_ | refine po_zero ?_ | refine po_nil ?_)
   refine mw_seq (mw_ops ?_)
   iterate 3 (first | refine pm ?_ | refine pq ?_)
   refine po_ix (es:=pSr ns) (e:=[pS ns[i]]) rfl rfl rfl ⟨by omega,by rw [Int.toNat_natCast]; exact pSr_get hil⟩ rfl ?_
   first | refine pm ?_ | refine pq ?_
   refine po_eqs (la:=key) (lb:=ns[i]) rfl rfl rfl ?_
   repeat' (first | refine pm ?_ | refine pq ?_ | refine px ?_ | refine po_zero ?_ | refine po_nil ?_)
   refine mw_cd0 (p:=key = ns[i]) rfl (fun hc => ?_) (fun hc => ?_)
   ·rw [<- hx,ixF_yes hil hc.symm]
    refine mw_seq (mw_ops ?_)
    repeat' (first | refine pm ?_ | refine pq ?_ | refine px ?_ | refine po_zero ?_ | refine po_nil ?_)
    exact mw_ret ⟨.inr rfl,_,rfl,rfl⟩
   ·refine mw_skip ?_
    refine mw_ops ?_
    refine po_add (n:=((i + 1:Nat):Int)) rfl rfl rfl (by omega) (by omega) ?_
    repeat' (first | refine pm ?_ | refine pq ?_ | refine px ?_ | refine po_zero ?_ | refine po_nil ?_)
    exact ⟨ns.length - (i + 1),by omega,i + 1,hil,rfl,⟨rfl,rfl,rfl,rfl,trivial⟩,by rw [<- hx,ixF_no hil (fun e => hc e.symm)]⟩
  ·refine mw_exit ?_
   have:i = ns.length:=by omega
   subst this
   rw [ixF_end] at hx
   exact hx.symm
 intro tm bx nt live hx
 refine mw_seq (mw_ops ?_)
 repeat' (first | refine pm ?_ | refine pq ?_ | refine px ?_ | refine po_zero ?_ | refine po_nil ?_)
 rw [hx]
 exact mw_ret ⟨.inr rfl,_,rfl,rfl⟩
theorem containsN_fn (ns:List (List UInt8)) (key:List UInt8) (hl:ns.length <= 4294967295):FnV (env T hT) 173 [.d (pSs ns),.d (pS key)] (.d (pB (decide (key ∈ ns)))):=by
 refine fn_of (look_env lk_slices_Contains_impl_Names_string) (by show 2 <= 9; decide) fun B hB => ?_
 unfold m_slices_Contains_impl_Names_string
 refine mw_seq (mw_ops ?_)
 repeat' (first | refine pm ?_ | refine pq ?_ | refine px ?_ | refine po_zero ?_ | refine po_nil ?_)
 refine mw_seq (mw_ops ?_)
 iterate 2 (first | refine pm ?_ | refine pq ?_)
 refine po_call (ks_arg ns key) (indexN_fn ns key hl) ?_
 refine po_b rfl rfl (fun b1 hb1 => ?_)
 repeat' (first | refine pm ?_ | refine pq ?_ | refine px ?_ | refine po_zero ?_ | refine po_nil ?_)
 have:decide (key ∈ ns) = b1:=by rw [hb1]; exact decide_eq_decide.2 (ixF_memN ns key 0).symm
 rw [this]
 exact mw_ret ⟨.inr rfl,_,rfl,rfl⟩
theorem toki_fn (hTab:∀ w,T w -> Tabs w) (l:List UInt8) (hl:l.length <= 4294967295):FnV (env T hT) 172 [.d (pS l)] (.d (pB (validD l))):=by
 refine FnV.old rfl fun w C vs hF _ ht hlen hv => ?_
 match vs,hlen with
 | [x],_ =>
  have h1:=pS_inv2 (hv 0 _ _ rfl rfl)
  subst h1
  exact textOk_impl l w hl (hTab w ht)
def NiI (ns:List (List UInt8)) (m:Nat) (st:St):Prop:=∃ i:Nat,i <= ns.length /\ m = ns.length - i /\ has st.tm [(0,.d (pSs ns)),(5,.d (pSs ns)),(6,.d (pI ns.length)),(7,.d (pI i))] /\ allN i (nmB ns) = true /\ i <= 100
theorem dats_S {l:List UInt8} {a:PV} (ha:a = .d (pS l)):PV.dats [a] = some [.d (pS l)]:=by subst ha; rfl
set_option maxHeartbeats 1000000 in
theorem namesOkI_fn (hTab:∀ w,T w -> Tabs w) (ns:List (List UInt8)) (hl:ns.length <= 4294967295) (hbn:∀ n ∈ ns,n.length <= 4294967295):FnV (env T hT) 129 [.d (pSs ns)] (.d (pB (nmsB ns))):=by
 refine fn_of (look_env lk_i_NamesOk) (by show 1 <= 32; decide) fun B hB => ?_
 unfold m_i_NamesOk
 refine mw_seq (mw_ops ?_)
 repeat' (first | refine pm ?_ | refine pq ?_ | refine px ?_ | refine po_zero ?_ | refine po_nil ?_)
 refine mw_cut (fun s => nmsB ns = true) ?_ ?_
 ·refine mw_seq (mw_ops ?_)
  first | refine pm ?_ | refine pq ?_
  refine po_len (n:=ns.length) rfl rfl (pSr_len ns) ?_
  repeat' (first | refine pm ?_ | refine pq ?_ | refine px ?_ | refine po_zero ?_ | refine po_nil ?_)
  refine mw_block ?_
  refine mw_while (NiI ns) ns.length ⟨0,Nat.zero_le _,rfl,⟨rfl,rfl,rfl,rfl,trivial⟩,rfl,Nat.zero_le _⟩ ?_
  rintro m tm bx nt live ⟨i,hi,rfl,ht,hall,hi100⟩
  obtain ⟨tm0,rfl⟩:=has_ups ht
  refine mw_seq (mw_ops ?_)
  refine po_b rfl rfl (fun b hb => ?_)
  refine po_nil ?_
  refine mw_seq ?_
  refine mw_cd (p:=(i:Int) < ns.length) hb rfl (fun h _ => ?_) (fun h _ => ?_)
  ·have hil:i < ns.length:=by omega
   have hg:=getD_at hil []
   have hno:=nmsB_no hil
   unfold nmB at hno
   rw [hg] at hno
   have htk:=toki_fn (T:=T) (hT:=hT) hTab ns[i] (hbn ns[i] (List.getElem_mem hil))
   refine mw_skip ?_
   refine mw_seq (mw_block (mw_seq (mw_ops ?_)))
   first | refine pm ?_ | refine pq ?_
   refine po_ix (es:=pSr ns) (e:=[pS ns[i]]) rfl rfl rfl ⟨by omega,by rw [Int.toNat_natCast]; exact pSr_get hil⟩ rfl ?_
   repeat' (first | refine pm ?_ | refine pq ?_ | refine px ?_ | refine po_zero ?_ | refine po_nil ?_)
   refine mw_seq (mw_ops ?_)
   first | refine pm ?_ | refine pq ?_
   refine po_q (v:=.d (pI ns[i].length)) rfl rfl ?_
   by_cases h100:ns[i].length > 100
   ·have hF:=hno (by rw [decide_eq_false (show ¬ ns[i].length <= 100 by omega)]; simp)
    refine po_yes rfl rfl (decide_eq_true (by omega)) ?_
    first | refine pm ?_ | refine pq ?_
    iterate 3 (refine po_skip rfl ?_)
    iterate 2 (first | refine pm ?_ | refine pq ?_)
    iterate 2 (refine po_skip rfl ?_)
    iterate 2 (first | refine pm ?_ | refine pq ?_)
    iterate 5 (refine po_skip rfl ?_)
    repeat' (first | refine pm ?_ | refine pq ?_ | refine px ?_ | refine po_zero ?_ | refine po_nil ?_)
    refine mwT ?_
    refine mw_seq (mw_ops ?_)
    repeat' (first | refine pm ?_ | refine pq ?_ | refine px ?_ | refine po_zero ?_ | refine po_nil ?_)
    rw [hF]
    exact mw_ret ⟨.inr rfl,_,rfl,rfl⟩
   refine po_no rfl rfl (decide_eq_false (by omega)) ?_
   iterate 2 (first | refine pm ?_ | refine pq ?_)
   refine po_gcall (b:=true) (args:=[.d (pS ns[i])]) rfl (fun _ => dats_S rfl) (fun _ => htk) ?_
   iterate 3 (first | refine pm ?_ | refine pq ?_)
   cases hv:validD ns[i] with
   | false =>
    have hF:=hno (by rw [hv]; rfl)
    iterate 2 (refine po_skip rfl ?_)
    iterate 2 (first | refine pm ?_ | refine pq ?_)
    iterate 5 (refine po_skip rfl ?_)
    repeat' (first | refine pm ?_ | refine pq ?_ | refine px ?_ | refine po_zero ?_ | refine po_nil ?_)
    refine mwT ?_
    refine mw_seq (mw_ops ?_)
    repeat' (first | refine pm ?_ | refine pq ?_ | refine px ?_ | refine po_zero ?_ | refine po_nil ?_)
    rw [hF]
    exact mw_ret ⟨.inr rfl,_,rfl,rfl⟩
   | true =>
   first | refine pm ?_ | refine pq ?_
   by_cases hge:(i:Int) ≥ 100
   ·have hF:nmsB ns = false:=by unfold nmsB; rw [decide_eq_false (by omega)]; rfl
    refine po_yes rfl rfl (decide_eq_true (by omega)) ?_
    iterate 2 (first | refine pm ?_ | refine pq ?_)
    iterate 5 (refine po_skip rfl ?_)
    repeat' (first | refine pm ?_ | refine pq ?_ | refine px ?_ | refine po_zero ?_ | refine po_nil ?_)
    refine mwT ?_
    refine mw_seq (mw_ops ?_)
    repeat' (first | refine pm ?_ | refine pq ?_ | refine px ?_ | refine po_zero ?_ | refine po_nil ?_)
    rw [hF]
    exact mw_ret ⟨.inr rfl,_,rfl,rfl⟩
   refine po_no rfl rfl (decide_eq_false (by omega)) ?_
   iterate 4 (first | refine pm ?_ | refine pq ?_)
   refine po_slcg (t:=0) (l:=0) (h:=i) (es:=pSr ns) (rs:=pSr (ns.take i)) rfl rfl rfl (bound_nat (i:=(i:Int)) rfl rfl) (by rw [pSr_len]; omega) (pSr_wid ns) (by rw [List.drop_zero,Nat.sub_zero]; unfold pSr; rw [List.map_take]) ?_
   first | refine pm ?_ | refine pq ?_
   refine po_gcall (b:=true) (args:=[.d (pSs (ns.take i)),.d (pS ns[i])]) rfl (fun _ => dats_ks rfl rfl) (fun _ => containsN_fn _ _ (by rw [List.length_take]; omega)) ?_
   repeat' (first | refine pm ?_ | refine pq ?_ | refine px ?_ | refine po_zero ?_ | refine po_nil ?_)
   have hf:=ixF_first ns i hil 0
   rw [Nat.zero_add] at hf
   refine mw_cd0 (p:=ns[i] ∈ ns.take i) rfl (fun hc => ?_) (fun hc => ?_)
   ·have hF:=hno (by rw [decide_eq_false (show ¬ ixF ns ns[i] 0 = (i:Int) from fun e => hf.1 e hc)]; simp)
    refine mw_seq (mw_ops ?_)
    repeat' (first | refine pm ?_ | refine pq ?_ | refine px ?_ | refine po_zero ?_ | refine po_nil ?_)
    rw [hF]
    exact mw_ret ⟨.inr rfl,_,rfl,rfl⟩
   ·refine mw_skip ?_
    refine mw_ops ?_
    refine po_add (n:=((i + 1:Nat):Int)) rfl rfl rfl (by omega) (by omega) ?_
    repeat' (first | refine pm ?_ | refine pq ?_ | refine px ?_ | refine po_zero ?_ | refine po_nil ?_)
    exact ⟨ns.length - (i + 1),by omega,i + 1,hil,rfl,⟨rfl,rfl,rfl,rfl,trivial⟩,allN_succ hall (by unfold nmB; rw [hg,hv,decide_eq_true (show ns[i].length <= 100 by omega),decide_eq_true (show ixF ns ns[i] 0 = (i:Int) from hf.2 hc)]; rfl),by omega⟩
  ·refine mw_exit ?_
   have:i = ns.length:=by omega
   subst this
   show nmsB ns = true
   unfold nmsB
   rw [decide_eq_true hi100,hall]; rfl
 intro tm bx nt live hF
 refine mw_seq (mw_ops ?_)
 repeat' (first | refine pm ?_ | refine pq ?_ | refine px ?_ | refine po_zero ?_ | refine po_nil ?_)
 rw [hF]
 exact mw_ret ⟨.inr rfl,_,rfl,rfl⟩
end
/- PvL1M -/
section
set_option maxRecDepth 100000
def m_l_FnExactGetDict:M:=.seq (.ops [qo 2 (.mv (.c (.bool false)))])
 (.seq (.seq (.ops [qo 11 (.mv (.t 0)),
 qo 12 (.lens (.t 11)),
 qo 13 (.bin .gtr false (.t 12) (ci 1048576))])
 (.cond (.t 13) (.seq (.ops [qo 2 (.mv (.c (.bool true)))])
 (.ret))
 (.skip)))
 (.seq (.ops [qo 15 (.mv (.t 0)),
 ⟨some 16,.call 14 [.t 15],none,[.f 1]⟩,
 qo 14 (.mv (.t 16)),
 qo 17 (.ext (.t 14) 0),
 qo 18 (.ext (.t 14) 1),
 qo 3 (.zero [.slice none 0 0,.slice none 0 0]),
 ⟨none,.store 2 (.t 3) (.t 17),none,[]⟩,
 qo 4 (.mv (.t 18))])
 (.seq (.ops [qo 20 (.mv (.t 0)),
 ⟨some 21,.call 15 [.t 20],none,[.f 1]⟩,
 qo 19 (.mv (.t 21)),
 qo 22 (.ext (.t 19) 0),
 qo 23 (.ext (.t 19) 1),
 qo 5 (.zero [.slice none 0 0,.slice none 0 0]),
 ⟨none,.store 2 (.t 5) (.t 22),none,[]⟩,
 qo 6 (.mv (.t 23))])
 (.seq (.seq (.ops [qo 24 (.load true 2 (.t 5)),
 qo 25 (.load true 2 (.t 3)),
 ⟨some 26,.call 16 [.t 24,.t 25],none,[.f 1]⟩,
 qo 27 (.not (.t 26)),
 qo 28 (.mv (.t 27)),
 ⟨some 29,.mv (.t 6),some (28,false),[]⟩,
 ⟨some 30,.mv (.t 4),some (28,false),[]⟩,
 ⟨some 31,.bin .neq true (.t 29) (.t 30),some (28,false),[]⟩,
 qo 32 (.pick (.t 28) (.c (.bool true)) (.t 31))])
 (.cond (.t 32) (.seq (.ops [qo 2 (.mv (.c (.bool false)))])
 (.ret))
 (.skip)))
 (.seq (.ops [qo 7 (.mv (ci 1))])
 (.seq (.ops [qo 33 (.load true 2 (.t 5)),
 qo 34 (.mv (.t 7)),
 ⟨some 35,.call 17 [.t 33,.t 34],none,[.f 1]⟩,
 qo 7 (.mv (.t 35))])
 (.seq (.ops [qo 8 (.mv (ci 1))])
 (.seq (.ops [qo 36 (.load true 2 (.t 5)),
 qo 37 (.mv (.t 8)),
 ⟨some 38,.call 18 [.t 36,.t 37],none,[.f 1]⟩,
 qo 8 (.mv (.t 38))])
 (.seq (.seq (.ops [qo 39 (.mv (.t 8)),
 qo 40 (.bin .lss false (.t 39) (ci 0))])
 (.cond (.t 40) (.seq (.ops [qo 2 (.mv (.c (.bool false)))])
 (.ret))
 (.skip)))
 (.seq (.seq (.ops [qo 41 (.mv (.t 8)),
 qo 42 (.mv (.t 7)),
 qo 43 (.bin .neq false (.t 41) (.t 42))])
 (.cond (.t 43) (.seq (.ops [qo 2 (.mv (.c (.bool false)))])
 (.ret))
 (.skip)))
 (.seq (.ops [qo 45 (.mv (.t 0)),
 ⟨some 46,.call 15 [.t 45],none,[.f 1]⟩,
 qo 44 (.mv (.t 46)),
 qo 47 (.ext (.t 44) 0),
 qo 48 (.ext (.t 44) 1),
 qo 9 (.zero [.slice none 0 0,.slice none 0 0]),
 ⟨none,.store 2 (.t 9) (.t 47),none,[]⟩,
 qo 10 (.mv (.t 48))])
 (.seq (.seq (.ops [qo 49 (.load true 2 (.t 9)),
 qo 50 (.load true 2 (.t 3)),
 ⟨some 51,.call 16 [.t 49,.t 50],none,[.f 1]⟩,
 qo 52 (.not (.t 51)),
 qo 53 (.mv (.t 52)),
 ⟨some 54,.mv (.t 10),some (53,false),[]⟩,
 ⟨some 55,.mv (.t 4),some (53,false),[]⟩,
 ⟨some 56,.bin .neq true (.t 54) (.t 55),some (53,false),[]⟩,
 qo 57 (.pick (.t 53) (.c (.bool true)) (.t 56))])
 (.cond (.t 57) (.seq (.ops [qo 2 (.mv (.c (.bool false)))])
 (.ret))
 (.skip)))
 (.seq (.ops [qo 8 (.mv (ci 1))])
 (.seq (.ops [qo 58 (.load true 2 (.t 5)),
 qo 59 (.mv (.t 8)),
 ⟨some 60,.call 18 [.t 58,.t 59],none,[.f 1]⟩,
 qo 8 (.mv (.t 60))])
 (.seq (.seq (.ops [qo 61 (.mv (.t 8)),
 qo 62 (.bin .lss false (.t 61) (ci 0))])
 (.cond (.t 62) (.seq (.ops [qo 2 (.mv (.c (.bool false)))])
 (.ret))
 (.skip)))
 (.seq (.seq (.ops [qo 63 (.mv (.t 8)),
 qo 64 (.mv (.t 7)),
 qo 65 (.bin .neq false (.t 63) (.t 64))])
 (.cond (.t 65) (.seq (.ops [qo 2 (.mv (.c (.bool false)))])
 (.ret))
 (.skip)))
 (.seq (.ops [qo 2 (.mv (.c (.bool true)))])
 (.ret))))))))))))))))))
theorem lk_l_FnExactGetDict:look Tryz.prog 3 = some (66,m_l_FnExactGetDict,[.tm 2]):=by kernel_rfl
def m_l_eqDict:M:=.seq (.ops [qo 2 (.box (.t 0)),
 qo 3 (.box (.t 1)),
 qo 4 (.mv (.c (.bool false)))])
 (.seq (.seq (.ops [qo 5 (.fld 0 (.t 2)),
 qo 6 (.load false 1 (.t 5)),
 qo 7 (.fld 0 (.t 3)),
 qo 8 (.load false 1 (.t 7)),
 ⟨some 9,.call 70 [.t 6,.t 8],none,[.f 1]⟩,
 qo 10 (.not (.t 9))])
 (.cond (.t 10) (.seq (.ops [qo 4 (.mv (.c (.bool false)))])
 (.ret))
 (.skip)))
 (.seq (.seq (.ops [qo 11 (.fld 1 (.t 2)),
 qo 12 (.load false 1 (.t 11)),
 qo 13 (.fld 1 (.t 3)),
 qo 14 (.load false 1 (.t 13)),
 ⟨some 15,.call 71 [.t 12,.t 14],none,[.f 1]⟩,
 qo 16 (.not (.t 15))])
 (.cond (.t 16) (.seq (.ops [qo 4 (.mv (.c (.bool false)))])
 (.ret))
 (.skip)))
 (.seq (.ops [qo 4 (.mv (.c (.bool true)))])
 (.ret))))
theorem lk_l_eqDict:look Tryz.prog 16 = some (17,m_l_eqDict,[.tm 4]):=by kernel_rfl
def m_l_eqNames:M:=.seq (.ops [qo 4 (.mv (.c (.bool false)))])
 (.seq (.seq (.ops [qo 6 (.mv (.t 0)),
 qo 7 (.len (.t 6)),
 qo 8 (.mv (.t 1)),
 qo 9 (.len (.t 8)),
 qo 10 (.bin .neq false (.t 7) (.t 9))])
 (.cond (.t 10) (.seq (.ops [qo 4 (.mv (.c (.bool false)))])
 (.ret))
 (.skip)))
 (.seq (.seq (.ops [qo 5 (.mv (ci 0))])
 (.block 0 (.loop (.seq (.seq (.ops [qo 11 (.mv (.t 5)),
 qo 12 (.mv (.t 0)),
 qo 13 (.len (.t 12)),
 qo 14 (.bin .lss false (.t 11) (.t 13))])
 (.cond (.t 14) (.skip)
 (.exit 0)))
 (.seq (.block 1 (.seq (.ops [qo 17 (.mv (.t 0)),
 qo 18 (.mv (.t 5)),
 qo 19 (.ix 1 (.t 17) (.t 18)),
 qo 20 (.load false 1 (.t 19)),
 qo 21 (.mv (.t 1)),
 qo 22 (.mv (.t 5)),
 qo 23 (.ix 1 (.t 21) (.t 22)),
 qo 24 (.load false 1 (.t 23)),
 qo 25 (.bin .neq false (.t 20) (.t 24))])
 (.cond (.t 25) (.seq (.ops [qo 4 (.mv (.c (.bool false)))])
 (.ret))
 (.skip))))
 (.ops [qo 15 (.mv (.t 5)),
 qo 16 (.bin .add false (.t 15) (ci 1)),
 qo 5 (.mv (.t 16))]))))))
 (.seq (.ops [qo 4 (.mv (.c (.bool true)))])
 (.ret))))
theorem lk_l_eqNames:look Tryz.prog 70 = some (26,m_l_eqNames,[.tm 4]):=by kernel_rfl
def m_l_eqTable:M:=.seq (.ops [qo 4 (.mv (.c (.bool false)))])
 (.seq (.seq (.ops [qo 6 (.mv (.t 0)),
 qo 7 (.len (.t 6)),
 qo 8 (.mv (.t 1)),
 qo 9 (.len (.t 8)),
 qo 10 (.bin .neq false (.t 7) (.t 9))])
 (.cond (.t 10) (.seq (.ops [qo 4 (.mv (.c (.bool false)))])
 (.ret))
 (.skip)))
 (.seq (.seq (.ops [qo 5 (.mv (ci 0))])
 (.block 0 (.loop (.seq (.seq (.ops [qo 11 (.mv (.t 5)),
 qo 12 (.mv (.t 0)),
 qo 13 (.len (.t 12)),
 qo 14 (.bin .lss false (.t 11) (.t 13))])
 (.cond (.t 14) (.skip)
 (.exit 0)))
 (.seq (.block 1 (.seq (.ops [qo 17 (.mv (.t 0)),
 qo 18 (.mv (.t 5)),
 qo 19 (.ix 5 (.t 17) (.t 18)),
 qo 20 (.load true 5 (.t 19)),
 qo 21 (.mv (.t 1)),
 qo 22 (.mv (.t 5)),
 qo 23 (.ix 5 (.t 21) (.t 22)),
 qo 24 (.load true 5 (.t 23)),
 ⟨some 25,.call 25 [.t 20,.t 24],none,[.f 0]⟩,
 qo 26 (.not (.t 25))])
 (.cond (.t 26) (.seq (.ops [qo 4 (.mv (.c (.bool false)))])
 (.ret))
 (.skip))))
 (.ops [qo 15 (.mv (.t 5)),
 qo 16 (.bin .add false (.t 15) (ci 1)),
 qo 5 (.mv (.t 16))]))))))
 (.seq (.ops [qo 4 (.mv (.c (.bool true)))])
 (.ret))))
theorem lk_l_eqTable:look Tryz.prog 71 = some (27,m_l_eqTable,[.tm 4]):=by kernel_rfl
end
/- PvEqD -/
section
open Go.RowKit
attribute [local irreducible] po mw pt
section
variable {E:Env} (hP:E.P = Tryz.prog)
include hP
def EqNI (ns:List (List UInt8)) (m:Nat) (st:St):Prop:=∃ i:Nat,i <= ns.length /\ m = ns.length - i /\ has st.tm [(0,.d (pSs ns)),(1,.d (pSs ns)),(5,.d (pI i))]
theorem eqN_fn (ns:List (List UInt8)) (hl:ns.length <= 4294967295):FnV E 70 [.d (pSs ns),.d (pSs ns)] (.d (pB true)):=by
 refine fn_of (by rw [hP]; exact lk_l_eqNames) (by show 2 <= 26; decide) fun B hB => ?_
 unfold m_l_eqNames
 refine mw_seq (mw_ops ?_)
 repeat' (first | refine pm ?_ | refine pq ?_ | refine px ?_ | refine po_zero ?_ | refine po_nil ?_)
 refine mw_seq (mw_seq (mw_ops ?_))
 first | refine pm ?_ | refine pq ?_
 refine po_len (n:=ns.length) rfl rfl (pSr_len ns) ?_
 first | refine pm ?_ | refine pq ?_
 refine po_len (n:=ns.length) rfl rfl (pSr_len ns) ?_
 refine po_no rfl rfl (by simp) ?_
 repeat' (first | refine pm ?_ | refine pq ?_ | refine px ?_ | refine po_zero ?_ | refine po_nil ?_)
 refine mwF ?_
 refine mw_skip ?_
 refine mw_cut (fun s => True) ?_ ?_
 ·refine mw_seq (mw_ops ?_)
  repeat' (first | refine pm ?_ | refine pq ?_ | refine px ?_ | refine po_zero ?_ | refine po_nil ?_)
  refine mw_block ?_
  refine mw_while (EqNI ns) ns.length ⟨0,Nat.zero_le _,rfl,⟨rfl,rfl,rfl,trivial⟩⟩ ?_
  rintro m tm bx nt live ⟨i,hi,rfl,ht⟩
  obtain ⟨tm0,rfl⟩:=has_ups ht
  refine mw_seq (mw_seq (mw_ops ?_))
  iterate 2 (first | refine pm ?_ | refine pq ?_)
  refine po_len (n:=ns.length) rfl rfl (pSr_len ns) ?_
  refine po_b rfl rfl (fun b hb => ?_)
  refine po_nil ?_
  refine mw_cd (p:=(i:Int) < ns.length) hb rfl (fun h _ => ?_) (fun h _ => ?_)
  ·have hil:i < ns.length:=by omega
   refine mw_skip ?_
   refine mw_seq (mw_block (mw_seq (mw_ops ?_)))
   iterate 2 (first | refine pm ?_ | refine pq ?_)
   refine po_ix (es:=pSr ns) (e:=[pS ns[i]]) rfl rfl rfl ⟨by omega,by rw [Int.toNat_natCast]; exact pSr_get hil⟩ rfl ?_
   iterate 3 (first | refine pm ?_ | refine pq ?_)
   refine po_ix (es:=pSr ns) (e:=[pS ns[i]]) rfl rfl rfl ⟨by omega,by rw [Int.toNat_natCast]; exact pSr_get hil⟩ rfl ?_
   first | refine pm ?_ | refine pq ?_
   refine po_ne (la:=ns[i]) (lb:=ns[i]) rfl rfl rfl ?_
   repeat' (first | refine pm ?_ | refine pq ?_ | refine px ?_ | refine po_zero ?_ | refine po_nil ?_)
   refine mw_cd0 (p:=ns[i] ≠ ns[i]) rfl (fun hc => absurd rfl hc) (fun hc => ?_)
   refine mw_skip ?_
   refine mw_ops ?_
   first | refine pm ?_ | refine pq ?_
   refine po_add (n:=((i + 1:Nat):Int)) rfl rfl rfl (by omega) (by omega) ?_
   repeat' (first | refine pm ?_ | refine pq ?_ | refine px ?_ | refine po_zero ?_ | refine po_nil ?_)
   exact ⟨ns.length - (i + 1),by omega,i + 1,hil,rfl,⟨rfl,rfl,rfl,trivial⟩⟩
  ·refine mw_exit ?_
   trivial
 intro tm bx nt live _
 refine mw_seq (mw_ops ?_)
 repeat' (first | refine pm ?_ | refine pq ?_ | refine px ?_ | refine po_zero ?_ | refine po_nil ?_)
 exact mw_ret ⟨.inr rfl,_,rfl,rfl⟩
def EqTI (vs:List V) (m:Nat) (st:St):Prop:=∃ i:Nat,i <= vs.length /\ m = vs.length - i /\ has st.tm [(0,.d (.sl 0 (vK vs))),(1,.d (.sl 0 (vK vs))),(5,.d (pI i))]
theorem eqT_fn (vs:List V) (hl:vs.length <= 4294967295) (hb0:∀ v ∈ vs,v.bulk <= 1048576):FnV E 71 [.d (.sl 0 (vK vs)),.d (.sl 0 (vK vs))] (.d (pB true)):=by
 refine fn_of (by rw [hP]; exact lk_l_eqTable) (by show 2 <= 27; decide) fun B hB => ?_
 unfold m_l_eqTable
 refine mw_seq (mw_ops ?_)
 repeat' (first | refine pm ?_ | refine pq ?_ | refine px ?_ | refine po_zero ?_ | refine po_nil ?_)
 refine mw_seq (mw_seq (mw_ops ?_))
 first | refine pm ?_ | refine pq ?_
 refine po_len (n:=vs.length) rfl rfl (vK_len vs) ?_
 first | refine pm ?_ | refine pq ?_
 refine po_len (n:=vs.length) rfl rfl (vK_len vs) ?_
 refine po_no rfl rfl (by simp) ?_
 repeat' (first | refine pm ?_ | refine pq ?_ | refine px ?_ | refine po_zero ?_ | refine po_nil ?_)
 refine mwF ?_
 refine mw_skip ?_
 refine mw_cut (fun s => True) ?_ ?_
 ·refine mw_seq (mw_ops ?_)
  repeat' (first | refine pm ?_ | refine pq ?_ | refine px ?_ | refine po_zero ?_ | refine po_nil ?_)
  refine mw_block ?_
  refine mw_while (EqTI vs) vs.length ⟨0,Nat.zero_le _,rfl,⟨rfl,rfl,rfl,trivial⟩⟩ ?_
  rintro m tm bx nt live ⟨i,hi,rfl,ht⟩
  obtain ⟨tm0,rfl⟩:=has_ups ht
  refine mw_seq (mw_seq (mw_ops ?_))
  iterate 2 (first | refine pm ?_ | refine pq ?_)
  refine po_len (n:=vs.length) rfl rfl (vK_len vs) ?_
  refine po_b rfl rfl (fun b hb => ?_)
  refine po_nil ?_
  refine mw_cd (p:=(i:Int) < vs.length) hb rfl (fun h _ => ?_) (fun h _ => ?_)
  ·have hil:i < vs.length:=by omega
   have hv:=hb0 vs[i] (List.getElem_mem hil)
   have he:=eqV_fn hP vs[i] vs[i] hv hv
   rw [decide_eq_true rfl,V.pc_eq] at he
   refine mw_skip ?_
   refine mw_seq (mw_block (mw_seq (mw_ops ?_)))
   iterate 2 (first | refine pm ?_ | refine pq ?_)
   refine po_ix (es:=vK vs) (e:=vC vs[i]) rfl rfl rfl ⟨by omega,by rw [Int.toNat_natCast]; exact vK_get hil⟩ rfl ?_
   refine po_q (v:=.ag (vC vs[i])) rfl rfl ?_
   iterate 2 (first | refine pm ?_ | refine pq ?_)
   refine po_ix (es:=vK vs) (e:=vC vs[i]) rfl rfl rfl ⟨by omega,by rw [Int.toNat_natCast]; exact vK_get hil⟩ rfl ?_
   refine po_q (v:=.ag (vC vs[i])) rfl rfl ?_
   refine po_call (dats2 (vC_er _) (vC_er _)) he ?_
   repeat' (first | refine pm ?_ | refine pq ?_ | refine px ?_ | refine po_zero ?_ | refine po_nil ?_)
   refine mwF ?_
   refine mw_skip ?_
   refine mw_ops ?_
   first | refine pm ?_ | refine pq ?_
   refine po_add (n:=((i + 1:Nat):Int)) rfl rfl rfl (by omega) (by omega) ?_
   repeat' (first | refine pm ?_ | refine pq ?_ | refine px ?_ | refine po_zero ?_ | refine po_nil ?_)
   exact ⟨vs.length - (i + 1),by omega,i + 1,hil,rfl,⟨rfl,rfl,rfl,trivial⟩⟩
  ·refine mw_exit ?_
   trivial
 intro tm bx nt live _
 refine mw_seq (mw_ops ?_)
 repeat' (first | refine pm ?_ | refine pq ?_ | refine px ?_ | refine po_zero ?_ | refine po_nil ?_)
 exact mw_ret ⟨.inr rfl,_,rfl,rfl⟩
theorem eqD_fn (ns:List (List UInt8)) (vs:List V) (hl:ns.length <= 4294967295) (hl2:vs.length <= 4294967295) (hb:∀ v ∈ vs,v.bulk <= 1048576):FnV E 16 [.ag (dC ns vs),.ag (dC ns vs)] (.d (pB true)):=by
 refine fn_of (by rw [hP]; exact lk_l_eqDict) (by show 2 <= 17; decide) fun B hB => ?_
 unfold m_l_eqDict
 refine mw_seq (mw_ops ?_)
 repeat' (first | refine pm ?_ | refine pq ?_ | refine px ?_ | refine po_zero ?_ | refine po_nil ?_)
 refine mw_seq (mw_seq (mw_ops ?_))
 iterate 4 (first | refine pm ?_ | refine pq ?_)
 refine po_call (args:=[.d (pSs ns),.d (pSs ns)]) (by show some [PV.d (pSs ns).er,PV.d (pSs ns).er] = _; rw [pSs_er]) (eqN_fn hP ns hl) ?_
 repeat' (first | refine pm ?_ | refine pq ?_ | refine px ?_ | refine po_zero ?_ | refine po_nil ?_)
 refine mwF ?_
 refine mw_skip ?_
 refine mw_seq (mw_seq (mw_ops ?_))
 iterate 4 (first | refine pm ?_ | refine pq ?_)
 refine po_call (args:=[.d (.sl 0 (vK vs)),.d (.sl 0 (vK vs))]) (by show some [PV.d (.sl 0 (erLL (vK vs))),PV.d (.sl 0 (erLL (vK vs)))] = _; rw [vK_er]) (eqT_fn hP vs hl2 hb) ?_
 repeat' (first | refine pm ?_ | refine pq ?_ | refine px ?_ | refine po_zero ?_ | refine po_nil ?_)
 refine mwF ?_
 refine mw_skip ?_
 refine mw_seq (mw_ops ?_)
 repeat' (first | refine pm ?_ | refine pq ?_ | refine px ?_ | refine po_zero ?_ | refine po_nil ?_)
 exact mw_ret ⟨.inr rfl,_,rfl,rfl⟩
end
end
end Go.Proofs.YtanlnhkagepniaaGreatDoor
