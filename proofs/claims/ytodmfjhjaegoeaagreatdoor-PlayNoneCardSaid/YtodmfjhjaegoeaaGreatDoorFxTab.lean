/- The table of this seat's functions for the machine. Written by program. -/
import Derived.Test.YtodmfjhjaegoeaaGreatDoorFxG0
import Derived.Test.YtodmfjhjaegoeaaGreatDoorFxG1
import Derived.Test.YtodmfjhjaegoeaaGreatDoorFxG2
import Derived.Test.YtodmfjhjaegoeaaGreatDoorFxG3
import Derived.Test.YtodmfjhjaegoeaaGreatDoorFxG4
import Derived.Test.YtodmfjhjaegoeaaGreatDoorFxG5
import Derived.Test.YtodmfjhjaegoeaaGreatDoorAmFrame
set_option maxRecDepth 20000
set_option linter.unusedVariables false
namespace Go.Proofs.Fx
open Go Go.Am

noncomputable def tab : FuncId → Option FD :=
 tab1 3 ⟨197, g3, [.tmp 2]⟩ <|
 tab1 4 ⟨24, g4, [.tmp 2]⟩ <|
 tab1 5 ⟨20, g5, [.tmp 0, .tmp 1]⟩ <|
 tab1 6 ⟨21, g6, [.tmp 2]⟩ <|
 tab1 7 ⟨14, g7, [.tmp 2, .tmp 3]⟩ <|
 tab1 8 ⟨57, g8, [.tmp 4]⟩ <|
 tab1 9 ⟨22, g9, [.tmp 4, .tmp 5]⟩ <|
 tab1 10 ⟨28, g10, [.cell 4 41, .tmp 5]⟩ <|
 tab1 11 ⟨34, g11, [.cell 2 44, .cell 3 32]⟩ <|
 tab1 12 ⟨44, g12, [.tmp 4, .tmp 5]⟩ <|
 tab1 13 ⟨10, g13, [.tmp 4]⟩ <|
 tab1 14 ⟨17, g14, [.tmp 4]⟩ <|
 tab1 15 ⟨13, g15, [.tmp 2]⟩ <|
 tab1 16 ⟨11, g16, [.tmp 2]⟩ <|
 tab1 17 ⟨21, g17, [.tmp 0]⟩ <|
 tab1 18 ⟨50, g18, [.cell 4 57]⟩ <|
 tab1 19 ⟨54, g19, [.tmp 4]⟩ <|
 tab1 20 ⟨9, g20, [.tmp 2]⟩ <|
 tab1 21 ⟨42, g21, [.tmp 0]⟩ <|
 tab1 22 ⟨8, g22, [.tmp 2]⟩ <|
 tab1 23 ⟨12, g23, [.tmp 2]⟩ <|
 tab1 24 ⟨19, g24, [.tmp 2]⟩ <|
 tab1 25 ⟨65, g25, [.tmp 8]⟩ <|
 tab1 26 ⟨56, g26, [.tmp 4]⟩ <|
 tab1 27 ⟨83, g27, [.tmp 4]⟩ <|
 tab1 28 ⟨118, g28, [.tmp 2]⟩ <|
 tab1 29 ⟨12, g29, [.tmp 2]⟩ <|
 tab1 30 ⟨56, g30, [.tmp 4]⟩ <|
 tab1 31 ⟨79, g31, [.tmp 4]⟩ <|
 tab1 33 ⟨27, g33, [.cell 4 41, .tmp 5]⟩ <|
 tab1 34 ⟨14, g34, [.tmp 4]⟩ <|
 tab1 35 ⟨19, g35, [.cell 0 64]⟩ <|
 tab1 36 ⟨71, g36, [.tmp 6, .tmp 7, .tmp 8]⟩ <|
 tab1 37 ⟨11, g37, [.tmp 2, .tmp 3]⟩ <|
 tab1 38 ⟨51, g38, [.tmp 6]⟩ <|
 tab1 39 ⟨11, g39, [.tmp 2]⟩ <|
 tab1 40 ⟨9, g40, [.tmp 2]⟩ <|
 tab1 41 ⟨44, g41, [.cell 4 57]⟩ <|
 tab1 42 ⟨26, g42, [.tmp 4]⟩ <|
 tab1 43 ⟨43, g43, [.tmp 4]⟩ <|
 tab1 44 ⟨18, g44, [.tmp 4]⟩ <|
 tab1 45 ⟨21, g45, [.tmp 2]⟩ <|
 tab1 46 ⟨100, g46, [.tmp 4]⟩ <|
 tab1 47 ⟨10, g47, [.tmp 2]⟩ <|
 tab1 48 ⟨46, g48, [.tmp 8, .tmp 9]⟩ <|
 tab1 49 ⟨24, g49, [.tmp 4]⟩ <|
 tab1 50 ⟨25, g50, [.tmp 6]⟩ <|
 tab1 51 ⟨30, g51, [.tmp 4]⟩ <|
 tab1 52 ⟨47, g52, [.tmp 4]⟩ <|
 tab1 53 ⟨26, g53, [.cell 6 41]⟩ <|
 tab1 54 ⟨12, g54, [.tmp 2]⟩ <|
 tab1 55 ⟨48, g55, [.tmp 4, .tmp 5]⟩ <|
 tab1 56 ⟨79, g56, [.tmp 8]⟩ <|
 tab1 57 ⟨14, g57, [.tmp 2]⟩ <|
 tab1 59 ⟨30, g59, [.tmp 6]⟩ <|
 tab1 60 ⟨6, g60, [.tmp 2]⟩ <|
 tab1 62 ⟨41, g62, [.tmp 4]⟩ <|
 tab1 64 ⟨11, g64, [.tmp 2]⟩ <|
 tab1 68 ⟨11, g68, [.tmp 4]⟩ <|
 tab1 70 ⟨14, g70, [.tmp 4, .tmp 5]⟩ <|
 tab1 71 ⟨2, g71, []⟩ <|
 tab1 72 ⟨9, g72, [.tmp 4]⟩ <|
 tab1 73 ⟨11, g73, [.tmp 2]⟩ <|
 tab1 74 ⟨21, g74, [.tmp 4, .tmp 5]⟩ <|
 tab1 75 ⟨19, g75, [.tmp 4]⟩ <|
 tab1 76 ⟨13, g76, [.tmp 2]⟩ <|
 tab1 77 ⟨18, g77, [.tmp 8, .tmp 9]⟩ <|
 tab1 78 ⟨9, g78, [.tmp 4]⟩ <|
 tab1 79 ⟨48, g79, [.cell 4 141, .tmp 5, .tmp 6]⟩ <|
 tab1 80 ⟨34, g80, [.tmp 2]⟩ <|
 tab1 81 ⟨8, g81, [.tmp 2]⟩ <|
 tab1 82 ⟨53, g82, [.tmp 6, .tmp 7]⟩ <|
 tab1 83 ⟨53, g83, [.tmp 6, .tmp 7, .tmp 8]⟩ <|
 tab1 84 ⟨76, g84, [.cell 4 57, .tmp 5]⟩ <|
 tab1 85 ⟨50, g85, [.cell 4 57]⟩ <|
 tab1 86 ⟨89, g86, [.tmp 4]⟩ <|
 tab1 87 ⟨6, g87, [.tmp 4]⟩ <|
 tab1 88 ⟨36, g88, [.tmp 4, .tmp 5]⟩ <|
 tab1 89 ⟨20, g89, [.tmp 2]⟩ <|
 tab1 90 ⟨28, g90, [.tmp 6]⟩ <|
 tab1 91 ⟨62, g91, [.tmp 8]⟩ <|
 tab1 93 ⟨48, g93, [.tmp 4]⟩ <|
 tab1 94 ⟨28, g94, [.tmp 4, .tmp 5, .tmp 6]⟩ <|
 tab1 95 ⟨39, g95, [.tmp 2]⟩ <|
 tab1 96 ⟨95, g96, [.tmp 6]⟩ <|
 tab1 97 ⟨71, g97, [.cell 6 167, .tmp 7]⟩ <|
 tab1 98 ⟨9, g98, [.tmp 4]⟩ <|
 tab1 99 ⟨8, g99, [.tmp 4]⟩ <|
 tab1 100 ⟨6, g100, [.tmp 2]⟩ <|
 tab1 101 ⟨26, g101, [.tmp 2]⟩ <|
 tab1 102 ⟨53, g102, [.tmp 2]⟩ <|
 tab1 103 ⟨20, g103, [.tmp 6]⟩ <|
 tab1 104 ⟨11, g104, [.cell 2 141, .tmp 3]⟩ <|
 tab1 107 ⟨20, g107, [.tmp 2]⟩ <|
 tab1 109 ⟨12, g109, [.cell 6 141]⟩ <|
 tab1 110 ⟨9, g110, [.tmp 2]⟩ <|
 tab1 113 ⟨49, g113, [.tmp 6, .tmp 7]⟩ <|
 tab1 116 ⟨24, g116, []⟩ <|
 tab1 117 ⟨14, g117, [.tmp 4]⟩ <|
 tab1 118 ⟨21, g118, [.tmp 4, .tmp 5]⟩ <|
 tab1 119 ⟨39, g119, [.tmp 2]⟩ <|
 tab1 120 ⟨27, g120, [.tmp 4]⟩ <|
 tab1 121 ⟨28, g121, []⟩ <|
 tab1 122 ⟨15, g122, []⟩ <|
 tab1 123 ⟨35, g123, [.tmp 6, .tmp 7]⟩ <|
 tab1 124 ⟨11, g124, [.tmp 2]⟩ <|
 tab1 125 ⟨49, g125, [.cell 4 141, .tmp 5]⟩ <|
 tab1 126 ⟨72, g126, [.tmp 6, .tmp 7]⟩ <|
 tab1 127 ⟨47, g127, [.tmp 4, .tmp 5]⟩ <|
 tab1 129 ⟨42, g129, [.tmp 4, .tmp 5]⟩ <|
 tab1 130 ⟨29, g130, [.tmp 8]⟩ <|
 tab1 131 ⟨40, g131, [.cell 2 57]⟩ <|
 tab1 135 ⟨24, g135, []⟩ <|
 tab1 136 ⟨10, g136, [.tmp 4]⟩ <|
 tab1 137 ⟨53, g137, [.tmp 2, .tmp 3]⟩ <|
 tab1 138 ⟨35, g138, [.tmp 4, .tmp 5]⟩ <|
 tab1 139 ⟨27, g139, [.tmp 6, .tmp 7]⟩ <|
 tab1 140 ⟨29, g140, [.tmp 2]⟩ <|
 tab1 141 ⟨63, g141, [.tmp 6]⟩ <|
 tab1 142 ⟨24, g142, [.cell 4 141, .tmp 5]⟩ <|
 tab1 143 ⟨6, g143, [.tmp 2]⟩ <|
 tab1 144 ⟨55, g144, [.tmp 4]⟩ <|
 tab1 145 ⟨9, g145, [.tmp 4]⟩ <|
 tab1 146 ⟨16, g146, [.tmp 2]⟩ <|
 tab1 148 ⟨15, g148, [.tmp 6]⟩ <|
 tab1 151 ⟨23, g151, [.tmp 4]⟩ <|
 tab1 153 ⟨72, g153, [.cell 6 115, .tmp 7, .tmp 8]⟩ <|
 tab1 155 ⟨19, g155, [.tmp 4]⟩ <|
 tab1 156 ⟨66, g156, [.tmp 8]⟩ <|
 tab1 157 ⟨6, g157, [.tmp 2]⟩ <|
 tab1 164 ⟨6, g164, [.tmp 2]⟩ <|
 tab1 165 ⟨38, g165, [.tmp 4]⟩ <|
 tab1 166 ⟨50, g166, [.tmp 4]⟩ <|
 tab1 167 ⟨12, g167, [.tmp 2]⟩ <|
 tab1 168 ⟨15, g168, [.tmp 2]⟩ <|
 tab1 170 ⟨24, g170, [.tmp 4, .tmp 5]⟩ <|
 tab1 171 ⟨20, g171, [.tmp 4]⟩ <|
 tab1 172 ⟨9, g172, [.tmp 2]⟩ <|
 tab1 173 ⟨21, g173, [.tmp 4]⟩ <|
 tab1 174 ⟨73, g174, [.cell 4 141, .tmp 5]⟩ <|
 tab1 176 ⟨41, g176, [.tmp 4, .tmp 5]⟩ <|
 tab1 177 ⟨43, g177, [.tmp 2]⟩ <|
 tab1 179 ⟨38, g179, [.tmp 6]⟩ <|
 tab1 180 ⟨19, g180, [.tmp 6]⟩ <|
 tab1 186 ⟨21, g186, [.tmp 2]⟩ <|
 tab1 187 ⟨7, g187, [.tmp 2]⟩ <|
 tab1 188 ⟨35, g188, [.tmp 4]⟩ <|
 tab1 189 ⟨30, g189, []⟩ <|
 tab1 190 ⟨32, g190, [.tmp 2, .tmp 3]⟩ <|
 tab1 191 ⟨44, g191, [.tmp 2, .tmp 3]⟩ <|
 tab1 192 ⟨23, g192, [.tmp 4]⟩ <|
 tab1 193 ⟨17, g193, []⟩ <|
 tab1 194 ⟨33, g194, [.tmp 6]⟩ <|
 tab1 195 ⟨5, g195, [.tmp 2]⟩ <|
 tab1 196 ⟨6, g196, [.tmp 4]⟩ <|
 tab1 199 ⟨23, g199, [.tmp 4]⟩ <|
 tab1 200 ⟨31, g200, [.cell 2 115]⟩ <|
 tab1 201 ⟨9, g201, [.tmp 2]⟩ <|
 tab1 205 ⟨34, g205, [.tmp 4]⟩ <|
 tab1 209 ⟨22, g209, [.tmp 2]⟩ <|
 tab1 210 ⟨6, g210, [.tmp 2]⟩ <|
 tab1 211 ⟨40, g211, [.tmp 6, .tmp 7]⟩ <|
 tab1 218 ⟨51, g218, [.cell 4 210, .tmp 5]⟩ <|
 tab1 219 ⟨36, g219, [.tmp 4, .tmp 5]⟩ <|
 tab1 220 ⟨30, g220, [.tmp 4]⟩ <|
 tab1 221 ⟨11, g221, [.tmp 2]⟩ <|
 tab1 222 ⟨32, g222, [.tmp 6]⟩ <|
 tab1 228 ⟨8, g228, [.tmp 2]⟩ <|
 tab1 231 ⟨27, g231, []⟩ <|
 tab1 232 ⟨9, g232, [.tmp 4]⟩ <|
 tab1 233 ⟨13, g233, [.tmp 3]⟩ <|
 tab1 237 ⟨41, g237, [.cell 2 274, .tmp 3]⟩ <|
 tab1 238 ⟨77, g238, [.tmp 2, .tmp 3]⟩ <|
 tab1 239 ⟨9, g239, [.tmp 2, .tmp 3]⟩ <|
 tab1 240 ⟨94, g240, [.tmp 4]⟩ <|
 tab1 241 ⟨70, g241, []⟩ <|
 tab1 242 ⟨27, g242, [.tmp 4]⟩ <|
 tab1 243 ⟨13, g243, [.tmp 4]⟩ <|
 tab1 244 ⟨32, g244, []⟩ <|
 tab1 245 ⟨7, g245, [.tmp 2]⟩ <|
 tab1 246 ⟨12, g246, [.tmp 2]⟩ <|
 tab1 247 ⟨68, g247, [.cell 4 279]⟩ <|
 tab1 265 ⟨19, g265, [.tmp 4]⟩ <|
 tab1 270 ⟨14, g270, [.tmp 4]⟩ <|
 tab1 271 ⟨24, g271, [.tmp 2]⟩ <|
 tab1 272 ⟨5, g272, [.tmp 2]⟩ <|
 tab1 273 ⟨6, g273, [.tmp 4]⟩ <|
 tab1 274 ⟨4, g274, [.tmp 2]⟩ <|
 tab1 275 ⟨21, g275, [.tmp 2]⟩ <|
 tab1 276 ⟨91, g276, [.tmp 2]⟩ <|
 tab1 277 ⟨6, g277, [.tmp 2]⟩ <|
 tab1 278 ⟨4, g278, [.tmp 2]⟩ <|
 tab1 279 ⟨12, g279, [.tmp 2, .tmp 3, .tmp 4]⟩ <|
 tab1 280 ⟨42, g280, [.cell 6 3, .cell 7 3]⟩ <|
 tab1 297 ⟨9, g297, [.tmp 4]⟩ <|
 tab1 298 ⟨11, g298, [.tmp 3]⟩ <|
 tab1 299 ⟨9, g299, []⟩ <|
 tab1 300 ⟨15, g300, [.tmp 5]⟩ <|
 tab1 301 ⟨20, g301, [.tmp 4]⟩ <|
 tab1 302 ⟨13, g302, [.tmp 4]⟩ <|
 tab1 303 ⟨16, g303, []⟩ <|
 tab1 304 ⟨89, g304, [.tmp 6]⟩ <|
 tab1 305 ⟨19, g305, []⟩ <|
 tab1 306 ⟨9, g306, [.tmp 2]⟩ <|
 tab1 307 ⟨25, g307, [.tmp 2]⟩ <|
 tab1 308 ⟨18, g308, [.tmp 2]⟩ <|
 tab1 309 ⟨9, g309, [.tmp 2]⟩ <|
 tab1 310 ⟨20, g310, []⟩ <|
 tab1 311 ⟨61, g311, [.cell 4 383]⟩ <|
 tab1 312 ⟨6, g312, [.tmp 4]⟩ <|
 tab1 322 ⟨19, g322, [.tmp 4]⟩ <|
 tab1 323 ⟨63, g323, []⟩ <|
 tab1 324 ⟨6, g324, [.tmp 2]⟩ <|
 tab1 325 ⟨28, g325, [.tmp 4]⟩ <|
 tab1 326 ⟨40, g326, []⟩ <|
 tab1 327 ⟨17, g327, [.tmp 4]⟩ <|
 tab1 328 ⟨59, g328, []⟩ <|
 tab1 330 ⟨53, g330, []⟩ <|
 tab1 332 ⟨26, g332, [.tmp 4]⟩ <|
 fun _ => none
theorem tab_ok : TabOk Tryz.prog tab :=
 tab1_ok ⟨⟨_, com3⟩, fun args h R hN q => enter3 hN q⟩ <|
 tab1_ok ⟨⟨_, com4⟩, fun args h R hN q => enter4 hN q⟩ <|
 tab1_ok ⟨⟨_, com5⟩, fun args h R hN q => enter5 hN q⟩ <|
 tab1_ok ⟨⟨_, com6⟩, fun args h R hN q => enter6 hN q⟩ <|
 tab1_ok ⟨⟨_, com7⟩, fun args h R hN q => enter7 hN q⟩ <|
 tab1_ok ⟨⟨_, com8⟩, fun args h R hN q => enter8 hN q⟩ <|
 tab1_ok ⟨⟨_, com9⟩, fun args h R hN q => enter9 hN q⟩ <|
 tab1_ok ⟨⟨_, com10⟩, fun args h R hN q => enter10 hN q⟩ <|
 tab1_ok ⟨⟨_, com11⟩, fun args h R hN q => enter11 hN q⟩ <|
 tab1_ok ⟨⟨_, com12⟩, fun args h R hN q => enter12 hN q⟩ <|
 tab1_ok ⟨⟨_, com13⟩, fun args h R hN q => enter13 hN q⟩ <|
 tab1_ok ⟨⟨_, com14⟩, fun args h R hN q => enter14 hN q⟩ <|
 tab1_ok ⟨⟨_, com15⟩, fun args h R hN q => enter15 hN q⟩ <|
 tab1_ok ⟨⟨_, com16⟩, fun args h R hN q => enter16 hN q⟩ <|
 tab1_ok ⟨⟨_, com17⟩, fun args h R hN q => enter17 hN q⟩ <|
 tab1_ok ⟨⟨_, com18⟩, fun args h R hN q => enter18 hN q⟩ <|
 tab1_ok ⟨⟨_, com19⟩, fun args h R hN q => enter19 hN q⟩ <|
 tab1_ok ⟨⟨_, com20⟩, fun args h R hN q => enter20 hN q⟩ <|
 tab1_ok ⟨⟨_, com21⟩, fun args h R hN q => enter21 hN q⟩ <|
 tab1_ok ⟨⟨_, com22⟩, fun args h R hN q => enter22 hN q⟩ <|
 tab1_ok ⟨⟨_, com23⟩, fun args h R hN q => enter23 hN q⟩ <|
 tab1_ok ⟨⟨_, com24⟩, fun args h R hN q => enter24 hN q⟩ <|
 tab1_ok ⟨⟨_, com25⟩, fun args h R hN q => enter25 hN q⟩ <|
 tab1_ok ⟨⟨_, com26⟩, fun args h R hN q => enter26 hN q⟩ <|
 tab1_ok ⟨⟨_, com27⟩, fun args h R hN q => enter27 hN q⟩ <|
 tab1_ok ⟨⟨_, com28⟩, fun args h R hN q => enter28 hN q⟩ <|
 tab1_ok ⟨⟨_, com29⟩, fun args h R hN q => enter29 hN q⟩ <|
 tab1_ok ⟨⟨_, com30⟩, fun args h R hN q => enter30 hN q⟩ <|
 tab1_ok ⟨⟨_, com31⟩, fun args h R hN q => enter31 hN q⟩ <|
 tab1_ok ⟨⟨_, com33⟩, fun args h R hN q => enter33 hN q⟩ <|
 tab1_ok ⟨⟨_, com34⟩, fun args h R hN q => enter34 hN q⟩ <|
 tab1_ok ⟨⟨_, com35⟩, fun args h R hN q => enter35 hN q⟩ <|
 tab1_ok ⟨⟨_, com36⟩, fun args h R hN q => enter36 hN q⟩ <|
 tab1_ok ⟨⟨_, com37⟩, fun args h R hN q => enter37 hN q⟩ <|
 tab1_ok ⟨⟨_, com38⟩, fun args h R hN q => enter38 hN q⟩ <|
 tab1_ok ⟨⟨_, com39⟩, fun args h R hN q => enter39 hN q⟩ <|
 tab1_ok ⟨⟨_, com40⟩, fun args h R hN q => enter40 hN q⟩ <|
 tab1_ok ⟨⟨_, com41⟩, fun args h R hN q => enter41 hN q⟩ <|
 tab1_ok ⟨⟨_, com42⟩, fun args h R hN q => enter42 hN q⟩ <|
 tab1_ok ⟨⟨_, com43⟩, fun args h R hN q => enter43 hN q⟩ <|
 tab1_ok ⟨⟨_, com44⟩, fun args h R hN q => enter44 hN q⟩ <|
 tab1_ok ⟨⟨_, com45⟩, fun args h R hN q => enter45 hN q⟩ <|
 tab1_ok ⟨⟨_, com46⟩, fun args h R hN q => enter46 hN q⟩ <|
 tab1_ok ⟨⟨_, com47⟩, fun args h R hN q => enter47 hN q⟩ <|
 tab1_ok ⟨⟨_, com48⟩, fun args h R hN q => enter48 hN q⟩ <|
 tab1_ok ⟨⟨_, com49⟩, fun args h R hN q => enter49 hN q⟩ <|
 tab1_ok ⟨⟨_, com50⟩, fun args h R hN q => enter50 hN q⟩ <|
 tab1_ok ⟨⟨_, com51⟩, fun args h R hN q => enter51 hN q⟩ <|
 tab1_ok ⟨⟨_, com52⟩, fun args h R hN q => enter52 hN q⟩ <|
 tab1_ok ⟨⟨_, com53⟩, fun args h R hN q => enter53 hN q⟩ <|
 tab1_ok ⟨⟨_, com54⟩, fun args h R hN q => enter54 hN q⟩ <|
 tab1_ok ⟨⟨_, com55⟩, fun args h R hN q => enter55 hN q⟩ <|
 tab1_ok ⟨⟨_, com56⟩, fun args h R hN q => enter56 hN q⟩ <|
 tab1_ok ⟨⟨_, com57⟩, fun args h R hN q => enter57 hN q⟩ <|
 tab1_ok ⟨⟨_, com59⟩, fun args h R hN q => enter59 hN q⟩ <|
 tab1_ok ⟨⟨_, com60⟩, fun args h R hN q => enter60 hN q⟩ <|
 tab1_ok ⟨⟨_, com62⟩, fun args h R hN q => enter62 hN q⟩ <|
 tab1_ok ⟨⟨_, com64⟩, fun args h R hN q => enter64 hN q⟩ <|
 tab1_ok ⟨⟨_, com68⟩, fun args h R hN q => enter68 hN q⟩ <|
 tab1_ok ⟨⟨_, com70⟩, fun args h R hN q => enter70 hN q⟩ <|
 tab1_ok ⟨⟨_, com71⟩, fun args h R hN q => enter71 hN q⟩ <|
 tab1_ok ⟨⟨_, com72⟩, fun args h R hN q => enter72 hN q⟩ <|
 tab1_ok ⟨⟨_, com73⟩, fun args h R hN q => enter73 hN q⟩ <|
 tab1_ok ⟨⟨_, com74⟩, fun args h R hN q => enter74 hN q⟩ <|
 tab1_ok ⟨⟨_, com75⟩, fun args h R hN q => enter75 hN q⟩ <|
 tab1_ok ⟨⟨_, com76⟩, fun args h R hN q => enter76 hN q⟩ <|
 tab1_ok ⟨⟨_, com77⟩, fun args h R hN q => enter77 hN q⟩ <|
 tab1_ok ⟨⟨_, com78⟩, fun args h R hN q => enter78 hN q⟩ <|
 tab1_ok ⟨⟨_, com79⟩, fun args h R hN q => enter79 hN q⟩ <|
 tab1_ok ⟨⟨_, com80⟩, fun args h R hN q => enter80 hN q⟩ <|
 tab1_ok ⟨⟨_, com81⟩, fun args h R hN q => enter81 hN q⟩ <|
 tab1_ok ⟨⟨_, com82⟩, fun args h R hN q => enter82 hN q⟩ <|
 tab1_ok ⟨⟨_, com83⟩, fun args h R hN q => enter83 hN q⟩ <|
 tab1_ok ⟨⟨_, com84⟩, fun args h R hN q => enter84 hN q⟩ <|
 tab1_ok ⟨⟨_, com85⟩, fun args h R hN q => enter85 hN q⟩ <|
 tab1_ok ⟨⟨_, com86⟩, fun args h R hN q => enter86 hN q⟩ <|
 tab1_ok ⟨⟨_, com87⟩, fun args h R hN q => enter87 hN q⟩ <|
 tab1_ok ⟨⟨_, com88⟩, fun args h R hN q => enter88 hN q⟩ <|
 tab1_ok ⟨⟨_, com89⟩, fun args h R hN q => enter89 hN q⟩ <|
 tab1_ok ⟨⟨_, com90⟩, fun args h R hN q => enter90 hN q⟩ <|
 tab1_ok ⟨⟨_, com91⟩, fun args h R hN q => enter91 hN q⟩ <|
 tab1_ok ⟨⟨_, com93⟩, fun args h R hN q => enter93 hN q⟩ <|
 tab1_ok ⟨⟨_, com94⟩, fun args h R hN q => enter94 hN q⟩ <|
 tab1_ok ⟨⟨_, com95⟩, fun args h R hN q => enter95 hN q⟩ <|
 tab1_ok ⟨⟨_, com96⟩, fun args h R hN q => enter96 hN q⟩ <|
 tab1_ok ⟨⟨_, com97⟩, fun args h R hN q => enter97 hN q⟩ <|
 tab1_ok ⟨⟨_, com98⟩, fun args h R hN q => enter98 hN q⟩ <|
 tab1_ok ⟨⟨_, com99⟩, fun args h R hN q => enter99 hN q⟩ <|
 tab1_ok ⟨⟨_, com100⟩, fun args h R hN q => enter100 hN q⟩ <|
 tab1_ok ⟨⟨_, com101⟩, fun args h R hN q => enter101 hN q⟩ <|
 tab1_ok ⟨⟨_, com102⟩, fun args h R hN q => enter102 hN q⟩ <|
 tab1_ok ⟨⟨_, com103⟩, fun args h R hN q => enter103 hN q⟩ <|
 tab1_ok ⟨⟨_, com104⟩, fun args h R hN q => enter104 hN q⟩ <|
 tab1_ok ⟨⟨_, com107⟩, fun args h R hN q => enter107 hN q⟩ <|
 tab1_ok ⟨⟨_, com109⟩, fun args h R hN q => enter109 hN q⟩ <|
 tab1_ok ⟨⟨_, com110⟩, fun args h R hN q => enter110 hN q⟩ <|
 tab1_ok ⟨⟨_, com113⟩, fun args h R hN q => enter113 hN q⟩ <|
 tab1_ok ⟨⟨_, com116⟩, fun args h R hN q => enter116 hN q⟩ <|
 tab1_ok ⟨⟨_, com117⟩, fun args h R hN q => enter117 hN q⟩ <|
 tab1_ok ⟨⟨_, com118⟩, fun args h R hN q => enter118 hN q⟩ <|
 tab1_ok ⟨⟨_, com119⟩, fun args h R hN q => enter119 hN q⟩ <|
 tab1_ok ⟨⟨_, com120⟩, fun args h R hN q => enter120 hN q⟩ <|
 tab1_ok ⟨⟨_, com121⟩, fun args h R hN q => enter121 hN q⟩ <|
 tab1_ok ⟨⟨_, com122⟩, fun args h R hN q => enter122 hN q⟩ <|
 tab1_ok ⟨⟨_, com123⟩, fun args h R hN q => enter123 hN q⟩ <|
 tab1_ok ⟨⟨_, com124⟩, fun args h R hN q => enter124 hN q⟩ <|
 tab1_ok ⟨⟨_, com125⟩, fun args h R hN q => enter125 hN q⟩ <|
 tab1_ok ⟨⟨_, com126⟩, fun args h R hN q => enter126 hN q⟩ <|
 tab1_ok ⟨⟨_, com127⟩, fun args h R hN q => enter127 hN q⟩ <|
 tab1_ok ⟨⟨_, com129⟩, fun args h R hN q => enter129 hN q⟩ <|
 tab1_ok ⟨⟨_, com130⟩, fun args h R hN q => enter130 hN q⟩ <|
 tab1_ok ⟨⟨_, com131⟩, fun args h R hN q => enter131 hN q⟩ <|
 tab1_ok ⟨⟨_, com135⟩, fun args h R hN q => enter135 hN q⟩ <|
 tab1_ok ⟨⟨_, com136⟩, fun args h R hN q => enter136 hN q⟩ <|
 tab1_ok ⟨⟨_, com137⟩, fun args h R hN q => enter137 hN q⟩ <|
 tab1_ok ⟨⟨_, com138⟩, fun args h R hN q => enter138 hN q⟩ <|
 tab1_ok ⟨⟨_, com139⟩, fun args h R hN q => enter139 hN q⟩ <|
 tab1_ok ⟨⟨_, com140⟩, fun args h R hN q => enter140 hN q⟩ <|
 tab1_ok ⟨⟨_, com141⟩, fun args h R hN q => enter141 hN q⟩ <|
 tab1_ok ⟨⟨_, com142⟩, fun args h R hN q => enter142 hN q⟩ <|
 tab1_ok ⟨⟨_, com143⟩, fun args h R hN q => enter143 hN q⟩ <|
 tab1_ok ⟨⟨_, com144⟩, fun args h R hN q => enter144 hN q⟩ <|
 tab1_ok ⟨⟨_, com145⟩, fun args h R hN q => enter145 hN q⟩ <|
 tab1_ok ⟨⟨_, com146⟩, fun args h R hN q => enter146 hN q⟩ <|
 tab1_ok ⟨⟨_, com148⟩, fun args h R hN q => enter148 hN q⟩ <|
 tab1_ok ⟨⟨_, com151⟩, fun args h R hN q => enter151 hN q⟩ <|
 tab1_ok ⟨⟨_, com153⟩, fun args h R hN q => enter153 hN q⟩ <|
 tab1_ok ⟨⟨_, com155⟩, fun args h R hN q => enter155 hN q⟩ <|
 tab1_ok ⟨⟨_, com156⟩, fun args h R hN q => enter156 hN q⟩ <|
 tab1_ok ⟨⟨_, com157⟩, fun args h R hN q => enter157 hN q⟩ <|
 tab1_ok ⟨⟨_, com164⟩, fun args h R hN q => enter164 hN q⟩ <|
 tab1_ok ⟨⟨_, com165⟩, fun args h R hN q => enter165 hN q⟩ <|
 tab1_ok ⟨⟨_, com166⟩, fun args h R hN q => enter166 hN q⟩ <|
 tab1_ok ⟨⟨_, com167⟩, fun args h R hN q => enter167 hN q⟩ <|
 tab1_ok ⟨⟨_, com168⟩, fun args h R hN q => enter168 hN q⟩ <|
 tab1_ok ⟨⟨_, com170⟩, fun args h R hN q => enter170 hN q⟩ <|
 tab1_ok ⟨⟨_, com171⟩, fun args h R hN q => enter171 hN q⟩ <|
 tab1_ok ⟨⟨_, com172⟩, fun args h R hN q => enter172 hN q⟩ <|
 tab1_ok ⟨⟨_, com173⟩, fun args h R hN q => enter173 hN q⟩ <|
 tab1_ok ⟨⟨_, com174⟩, fun args h R hN q => enter174 hN q⟩ <|
 tab1_ok ⟨⟨_, com176⟩, fun args h R hN q => enter176 hN q⟩ <|
 tab1_ok ⟨⟨_, com177⟩, fun args h R hN q => enter177 hN q⟩ <|
 tab1_ok ⟨⟨_, com179⟩, fun args h R hN q => enter179 hN q⟩ <|
 tab1_ok ⟨⟨_, com180⟩, fun args h R hN q => enter180 hN q⟩ <|
 tab1_ok ⟨⟨_, com186⟩, fun args h R hN q => enter186 hN q⟩ <|
 tab1_ok ⟨⟨_, com187⟩, fun args h R hN q => enter187 hN q⟩ <|
 tab1_ok ⟨⟨_, com188⟩, fun args h R hN q => enter188 hN q⟩ <|
 tab1_ok ⟨⟨_, com189⟩, fun args h R hN q => enter189 hN q⟩ <|
 tab1_ok ⟨⟨_, com190⟩, fun args h R hN q => enter190 hN q⟩ <|
 tab1_ok ⟨⟨_, com191⟩, fun args h R hN q => enter191 hN q⟩ <|
 tab1_ok ⟨⟨_, com192⟩, fun args h R hN q => enter192 hN q⟩ <|
 tab1_ok ⟨⟨_, com193⟩, fun args h R hN q => enter193 hN q⟩ <|
 tab1_ok ⟨⟨_, com194⟩, fun args h R hN q => enter194 hN q⟩ <|
 tab1_ok ⟨⟨_, com195⟩, fun args h R hN q => enter195 hN q⟩ <|
 tab1_ok ⟨⟨_, com196⟩, fun args h R hN q => enter196 hN q⟩ <|
 tab1_ok ⟨⟨_, com199⟩, fun args h R hN q => enter199 hN q⟩ <|
 tab1_ok ⟨⟨_, com200⟩, fun args h R hN q => enter200 hN q⟩ <|
 tab1_ok ⟨⟨_, com201⟩, fun args h R hN q => enter201 hN q⟩ <|
 tab1_ok ⟨⟨_, com205⟩, fun args h R hN q => enter205 hN q⟩ <|
 tab1_ok ⟨⟨_, com209⟩, fun args h R hN q => enter209 hN q⟩ <|
 tab1_ok ⟨⟨_, com210⟩, fun args h R hN q => enter210 hN q⟩ <|
 tab1_ok ⟨⟨_, com211⟩, fun args h R hN q => enter211 hN q⟩ <|
 tab1_ok ⟨⟨_, com218⟩, fun args h R hN q => enter218 hN q⟩ <|
 tab1_ok ⟨⟨_, com219⟩, fun args h R hN q => enter219 hN q⟩ <|
 tab1_ok ⟨⟨_, com220⟩, fun args h R hN q => enter220 hN q⟩ <|
 tab1_ok ⟨⟨_, com221⟩, fun args h R hN q => enter221 hN q⟩ <|
 tab1_ok ⟨⟨_, com222⟩, fun args h R hN q => enter222 hN q⟩ <|
 tab1_ok ⟨⟨_, com228⟩, fun args h R hN q => enter228 hN q⟩ <|
 tab1_ok ⟨⟨_, com231⟩, fun args h R hN q => enter231 hN q⟩ <|
 tab1_ok ⟨⟨_, com232⟩, fun args h R hN q => enter232 hN q⟩ <|
 tab1_ok ⟨⟨_, com233⟩, fun args h R hN q => enter233 hN q⟩ <|
 tab1_ok ⟨⟨_, com237⟩, fun args h R hN q => enter237 hN q⟩ <|
 tab1_ok ⟨⟨_, com238⟩, fun args h R hN q => enter238 hN q⟩ <|
 tab1_ok ⟨⟨_, com239⟩, fun args h R hN q => enter239 hN q⟩ <|
 tab1_ok ⟨⟨_, com240⟩, fun args h R hN q => enter240 hN q⟩ <|
 tab1_ok ⟨⟨_, com241⟩, fun args h R hN q => enter241 hN q⟩ <|
 tab1_ok ⟨⟨_, com242⟩, fun args h R hN q => enter242 hN q⟩ <|
 tab1_ok ⟨⟨_, com243⟩, fun args h R hN q => enter243 hN q⟩ <|
 tab1_ok ⟨⟨_, com244⟩, fun args h R hN q => enter244 hN q⟩ <|
 tab1_ok ⟨⟨_, com245⟩, fun args h R hN q => enter245 hN q⟩ <|
 tab1_ok ⟨⟨_, com246⟩, fun args h R hN q => enter246 hN q⟩ <|
 tab1_ok ⟨⟨_, com247⟩, fun args h R hN q => enter247 hN q⟩ <|
 tab1_ok ⟨⟨_, com265⟩, fun args h R hN q => enter265 hN q⟩ <|
 tab1_ok ⟨⟨_, com270⟩, fun args h R hN q => enter270 hN q⟩ <|
 tab1_ok ⟨⟨_, com271⟩, fun args h R hN q => enter271 hN q⟩ <|
 tab1_ok ⟨⟨_, com272⟩, fun args h R hN q => enter272 hN q⟩ <|
 tab1_ok ⟨⟨_, com273⟩, fun args h R hN q => enter273 hN q⟩ <|
 tab1_ok ⟨⟨_, com274⟩, fun args h R hN q => enter274 hN q⟩ <|
 tab1_ok ⟨⟨_, com275⟩, fun args h R hN q => enter275 hN q⟩ <|
 tab1_ok ⟨⟨_, com276⟩, fun args h R hN q => enter276 hN q⟩ <|
 tab1_ok ⟨⟨_, com277⟩, fun args h R hN q => enter277 hN q⟩ <|
 tab1_ok ⟨⟨_, com278⟩, fun args h R hN q => enter278 hN q⟩ <|
 tab1_ok ⟨⟨_, com279⟩, fun args h R hN q => enter279 hN q⟩ <|
 tab1_ok ⟨⟨_, com280⟩, fun args h R hN q => enter280 hN q⟩ <|
 tab1_ok ⟨⟨_, com297⟩, fun args h R hN q => enter297 hN q⟩ <|
 tab1_ok ⟨⟨_, com298⟩, fun args h R hN q => enter298 hN q⟩ <|
 tab1_ok ⟨⟨_, com299⟩, fun args h R hN q => enter299 hN q⟩ <|
 tab1_ok ⟨⟨_, com300⟩, fun args h R hN q => enter300 hN q⟩ <|
 tab1_ok ⟨⟨_, com301⟩, fun args h R hN q => enter301 hN q⟩ <|
 tab1_ok ⟨⟨_, com302⟩, fun args h R hN q => enter302 hN q⟩ <|
 tab1_ok ⟨⟨_, com303⟩, fun args h R hN q => enter303 hN q⟩ <|
 tab1_ok ⟨⟨_, com304⟩, fun args h R hN q => enter304 hN q⟩ <|
 tab1_ok ⟨⟨_, com305⟩, fun args h R hN q => enter305 hN q⟩ <|
 tab1_ok ⟨⟨_, com306⟩, fun args h R hN q => enter306 hN q⟩ <|
 tab1_ok ⟨⟨_, com307⟩, fun args h R hN q => enter307 hN q⟩ <|
 tab1_ok ⟨⟨_, com308⟩, fun args h R hN q => enter308 hN q⟩ <|
 tab1_ok ⟨⟨_, com309⟩, fun args h R hN q => enter309 hN q⟩ <|
 tab1_ok ⟨⟨_, com310⟩, fun args h R hN q => enter310 hN q⟩ <|
 tab1_ok ⟨⟨_, com311⟩, fun args h R hN q => enter311 hN q⟩ <|
 tab1_ok ⟨⟨_, com312⟩, fun args h R hN q => enter312 hN q⟩ <|
 tab1_ok ⟨⟨_, com322⟩, fun args h R hN q => enter322 hN q⟩ <|
 tab1_ok ⟨⟨_, com323⟩, fun args h R hN q => enter323 hN q⟩ <|
 tab1_ok ⟨⟨_, com324⟩, fun args h R hN q => enter324 hN q⟩ <|
 tab1_ok ⟨⟨_, com325⟩, fun args h R hN q => enter325 hN q⟩ <|
 tab1_ok ⟨⟨_, com326⟩, fun args h R hN q => enter326 hN q⟩ <|
 tab1_ok ⟨⟨_, com327⟩, fun args h R hN q => enter327 hN q⟩ <|
 tab1_ok ⟨⟨_, com328⟩, fun args h R hN q => enter328 hN q⟩ <|
 tab1_ok ⟨⟨_, com330⟩, fun args h R hN q => enter330 hN q⟩ <|
 tab1_ok ⟨⟨_, com332⟩, fun args h R hN q => enter332 hN q⟩ <|
 tab0_ok
end Go.Proofs.Fx
