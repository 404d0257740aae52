import Derived.Test.YtomjghlaoncpbaaVn
import Derived.Test.YtomjghlaoncpbaaProg
/- Closed facts about the program's types, each evaluated by the kernel; no conditions. -/
namespace Go.Proofs.Ytomjghlaoncpbaa
open Go.Proofs.YtomjghlaoncpbaaV
theorem mixed : Try.prog.follows .mixedOrders = true := by kernel_rfl
@[go_sem] theorem ty_ag108 : tagg Try.prog 108 = some true := by kernel_rfl
@[go_sem] theorem ty_ag115 : tagg Try.prog 115 = some true := by kernel_rfl
@[go_sem] theorem ty_ag118 : tagg Try.prog 118 = some false := by kernel_rfl
@[go_sem] theorem ty_ag119 : tagg Try.prog 119 = some false := by kernel_rfl
@[go_sem] theorem ty_ag121 : tagg Try.prog 121 = some true := by kernel_rfl
@[go_sem] theorem ty_ag123 : tagg Try.prog 123 = some true := by kernel_rfl
@[go_sem] theorem ty_ag132 : tagg Try.prog 132 = some true := by kernel_rfl
@[go_sem] theorem ty_ag133 : tagg Try.prog 133 = some false := by kernel_rfl
@[go_sem] theorem ty_ag135 : tagg Try.prog 135 = some true := by kernel_rfl
@[go_sem] theorem ty_ag162 : tagg Try.prog 162 = some true := by kernel_rfl
@[go_sem] theorem ty_ag165 : tagg Try.prog 165 = some true := by kernel_rfl
@[go_sem] theorem ty_ag168 : tagg Try.prog 168 = some false := by kernel_rfl
@[go_sem] theorem ty_ag170 : tagg Try.prog 170 = some true := by kernel_rfl
@[go_sem] theorem ty_ag173 : tagg Try.prog 173 = some false := by kernel_rfl
@[go_sem] theorem ty_ag175 : tagg Try.prog 175 = some true := by kernel_rfl
@[go_sem] theorem ty_ag177 : tagg Try.prog 177 = some true := by kernel_rfl
@[go_sem] theorem ty_ag179 : tagg Try.prog 179 = some true := by kernel_rfl
@[go_sem] theorem ty_ag181 : tagg Try.prog 181 = some true := by kernel_rfl
@[go_sem] theorem ty_ag185 : tagg Try.prog 185 = some false := by kernel_rfl
@[go_sem] theorem ty_ag198 : tagg Try.prog 198 = some true := by kernel_rfl
@[go_sem] theorem ty_ag208 : tagg Try.prog 208 = some false := by kernel_rfl
@[go_sem] theorem ty_ag209 : tagg Try.prog 209 = some false := by kernel_rfl
@[go_sem] theorem ty_ag22 : tagg Try.prog 22 = some false := by kernel_rfl
@[go_sem] theorem ty_ag220 : tagg Try.prog 220 = some true := by kernel_rfl
@[go_sem] theorem ty_ag224 : tagg Try.prog 224 = some true := by kernel_rfl
@[go_sem] theorem ty_ag226 : tagg Try.prog 226 = some false := by kernel_rfl
@[go_sem] theorem ty_ag229 : tagg Try.prog 229 = some true := by kernel_rfl
@[go_sem] theorem ty_ag247 : tagg Try.prog 247 = some true := by kernel_rfl
@[go_sem] theorem ty_ag249 : tagg Try.prog 249 = some true := by kernel_rfl
@[go_sem] theorem ty_ag250 : tagg Try.prog 250 = some false := by kernel_rfl
@[go_sem] theorem ty_ag266 : tagg Try.prog 266 = some false := by kernel_rfl
@[go_sem] theorem ty_ag3 : tagg Try.prog 3 = some false := by kernel_rfl
@[go_sem] theorem ty_ag30 : tagg Try.prog 30 = some false := by kernel_rfl
@[go_sem] theorem ty_ag37 : tagg Try.prog 37 = some false := by kernel_rfl
@[go_sem] theorem ty_ag38 : tagg Try.prog 38 = some false := by kernel_rfl
@[go_sem] theorem ty_ag4 : tagg Try.prog 4 = some false := by kernel_rfl
@[go_sem] theorem ty_ag40 : tagg Try.prog 40 = some true := by kernel_rfl
@[go_sem] theorem ty_ag41 : tagg Try.prog 41 = some false := by kernel_rfl
@[go_sem] theorem ty_ag43 : tagg Try.prog 43 = some true := by kernel_rfl
@[go_sem] theorem ty_ag46 : tagg Try.prog 46 = some false := by kernel_rfl
@[go_sem] theorem ty_ag47 : tagg Try.prog 47 = some false := by kernel_rfl
@[go_sem] theorem ty_ag49 : tagg Try.prog 49 = some true := by kernel_rfl
@[go_sem] theorem ty_ag5 : tagg Try.prog 5 = some false := by kernel_rfl
@[go_sem] theorem ty_ag55 : tagg Try.prog 55 = some false := by kernel_rfl
@[go_sem] theorem ty_ag56 : tagg Try.prog 56 = some false := by kernel_rfl
@[go_sem] theorem ty_ag57 : tagg Try.prog 57 = some false := by kernel_rfl
@[go_sem] theorem ty_ag58 : tagg Try.prog 58 = some false := by kernel_rfl
@[go_sem] theorem ty_ag59 : tagg Try.prog 59 = some false := by kernel_rfl
@[go_sem] theorem ty_ag60 : tagg Try.prog 60 = some false := by kernel_rfl
@[go_sem] theorem ty_ag62 : tagg Try.prog 62 = some true := by kernel_rfl
@[go_sem] theorem ty_ag63 : tagg Try.prog 63 = some false := by kernel_rfl
@[go_sem] theorem ty_ag65 : tagg Try.prog 65 = some true := by kernel_rfl
@[go_sem] theorem ty_ag67 : tagg Try.prog 67 = some true := by kernel_rfl
@[go_sem] theorem ty_ag89 : tagg Try.prog 89 = some true := by kernel_rfl
@[go_sem] theorem ty_ag9 : tagg Try.prog 9 = some false := by kernel_rfl
@[go_sem] theorem ty_ag93 : tagg Try.prog 93 = some false := by kernel_rfl
@[go_sem] theorem ty_by115 : tbytes Try.prog 115 = some 32 := by kernel_rfl
@[go_sem] theorem ty_by121 : tbytes Try.prog 121 = some 136 := by kernel_rfl
@[go_sem] theorem ty_by135 : tbytes Try.prog 135 = some 56 := by kernel_rfl
@[go_sem] theorem ty_by170 : tbytes Try.prog 170 = some 96 := by kernel_rfl
@[go_sem] theorem ty_by198 : tbytes Try.prog 198 = some 64 := by kernel_rfl
@[go_sem] theorem ty_by22 : tbytes Try.prog 22 = some 24 := by kernel_rfl
@[go_sem] theorem ty_by220 : tbytes Try.prog 220 = some 32 := by kernel_rfl
@[go_sem] theorem ty_by3 : tbytes Try.prog 3 = some 8 := by kernel_rfl
@[go_sem] theorem ty_by4 : tbytes Try.prog 4 = some 1 := by kernel_rfl
@[go_sem] theorem ty_by47 : tbytes Try.prog 47 = some 24 := by kernel_rfl
@[go_sem] theorem ty_by5 : tbytes Try.prog 5 = some 1 := by kernel_rfl
@[go_sem] theorem ty_by65 : tbytes Try.prog 65 = some 48 := by kernel_rfl
@[go_sem] theorem ty_by67 : tbytes Try.prog 67 = some 56 := by kernel_rfl
@[go_sem] theorem ty_by9 : tbytes Try.prog 9 = some 16 := by kernel_rfl
@[go_sem] theorem ty_fi108_0 : tfield Try.prog 108 0 = some (0, 9, 1) := by kernel_rfl
@[go_sem] theorem ty_fi108_1 : tfield Try.prog 108 1 = some (1, 3, 1) := by kernel_rfl
@[go_sem] theorem ty_fi108_2 : tfield Try.prog 108 2 = some (2, 55, 1) := by kernel_rfl
@[go_sem] theorem ty_fi115_0 : tfield Try.prog 115 0 = some (0, 9, 1) := by kernel_rfl
@[go_sem] theorem ty_fi115_1 : tfield Try.prog 115 1 = some (1, 3, 1) := by kernel_rfl
@[go_sem] theorem ty_fi115_2 : tfield Try.prog 115 2 = some (2, 3, 1) := by kernel_rfl
@[go_sem] theorem ty_fi121_0 : tfield Try.prog 121 0 = some (0, 3, 1) := by kernel_rfl
@[go_sem] theorem ty_fi121_4 : tfield Try.prog 121 4 = some (4, 63, 1) := by kernel_rfl
@[go_sem] theorem ty_fi121_5 : tfield Try.prog 121 5 = some (5, 118, 1) := by kernel_rfl
@[go_sem] theorem ty_fi121_6 : tfield Try.prog 121 6 = some (6, 119, 1) := by kernel_rfl
@[go_sem] theorem ty_fi123_0 : tfield Try.prog 123 0 = some (0, 9, 1) := by kernel_rfl
@[go_sem] theorem ty_fi123_1 : tfield Try.prog 123 1 = some (1, 30, 1) := by kernel_rfl
@[go_sem] theorem ty_fi123_2 : tfield Try.prog 123 2 = some (2, 63, 1) := by kernel_rfl
@[go_sem] theorem ty_fi123_3 : tfield Try.prog 123 3 = some (3, 65, 3) := by kernel_rfl
@[go_sem] theorem ty_fi123_4 : tfield Try.prog 123 4 = some (6, 121, 8) := by kernel_rfl
@[go_sem] theorem ty_fi132_0 : tfield Try.prog 132 0 = some (0, 3, 1) := by kernel_rfl
@[go_sem] theorem ty_fi132_1 : tfield Try.prog 132 1 = some (1, 3, 1) := by kernel_rfl
@[go_sem] theorem ty_fi132_2 : tfield Try.prog 132 2 = some (2, 3, 1) := by kernel_rfl
@[go_sem] theorem ty_fi132_3 : tfield Try.prog 132 3 = some (3, 3, 1) := by kernel_rfl
@[go_sem] theorem ty_fi132_4 : tfield Try.prog 132 4 = some (4, 47, 1) := by kernel_rfl
@[go_sem] theorem ty_fi135_0 : tfield Try.prog 135 0 = some (0, 3, 1) := by kernel_rfl
@[go_sem] theorem ty_fi135_3 : tfield Try.prog 135 3 = some (3, 133, 1) := by kernel_rfl
@[go_sem] theorem ty_fi162_0 : tfield Try.prog 162 0 = some (0, 3, 1) := by kernel_rfl
@[go_sem] theorem ty_fi162_1 : tfield Try.prog 162 1 = some (1, 67, 4) := by kernel_rfl
@[go_sem] theorem ty_fi165_0 : tfield Try.prog 165 0 = some (0, 3, 1) := by kernel_rfl
@[go_sem] theorem ty_fi165_1 : tfield Try.prog 165 1 = some (1, 67, 4) := by kernel_rfl
@[go_sem] theorem ty_fi170_0 : tfield Try.prog 170 0 = some (0, 65, 3) := by kernel_rfl
@[go_sem] theorem ty_fi170_1 : tfield Try.prog 170 1 = some (3, 30, 1) := by kernel_rfl
@[go_sem] theorem ty_fi170_2 : tfield Try.prog 170 2 = some (4, 168, 1) := by kernel_rfl
@[go_sem] theorem ty_fi175_0 : tfield Try.prog 175 0 = some (0, 9, 1) := by kernel_rfl
@[go_sem] theorem ty_fi175_1 : tfield Try.prog 175 1 = some (1, 30, 1) := by kernel_rfl
@[go_sem] theorem ty_fi175_2 : tfield Try.prog 175 2 = some (2, 173, 1) := by kernel_rfl
@[go_sem] theorem ty_fi177_0 : tfield Try.prog 177 0 = some (0, 9, 1) := by kernel_rfl
@[go_sem] theorem ty_fi177_1 : tfield Try.prog 177 1 = some (1, 63, 1) := by kernel_rfl
@[go_sem] theorem ty_fi179_1 : tfield Try.prog 179 1 = some (1, 59, 1) := by kernel_rfl
@[go_sem] theorem ty_fi181_2 : tfield Try.prog 181 2 = some (2, 59, 1) := by kernel_rfl
@[go_sem] theorem ty_fi187_0 : tfield Try.prog 187 0 = some (0, 47, 1) := by kernel_rfl
@[go_sem] theorem ty_fi187_1 : tfield Try.prog 187 1 = some (1, 4, 1) := by kernel_rfl
@[go_sem] theorem ty_fi187_2 : tfield Try.prog 187 2 = some (2, 3, 1) := by kernel_rfl
@[go_sem] theorem ty_fi187_3 : tfield Try.prog 187 3 = some (3, 93, 1) := by kernel_rfl
@[go_sem] theorem ty_fi187_4 : tfield Try.prog 187 4 = some (4, 185, 1) := by kernel_rfl
@[go_sem] theorem ty_fi192_0 : tfield Try.prog 192 0 = some (0, 22, 1) := by kernel_rfl
@[go_sem] theorem ty_fi198_0 : tfield Try.prog 198 0 = some (0, 67, 4) := by kernel_rfl
@[go_sem] theorem ty_fi198_1 : tfield Try.prog 198 1 = some (4, 3, 1) := by kernel_rfl
@[go_sem] theorem ty_fi211_0 : tfield Try.prog 211 0 = some (0, 62, 8) := by kernel_rfl
@[go_sem] theorem ty_fi211_1 : tfield Try.prog 211 1 = some (8, 62, 8) := by kernel_rfl
@[go_sem] theorem ty_fi211_2 : tfield Try.prog 211 2 = some (16, 208, 1) := by kernel_rfl
@[go_sem] theorem ty_fi220_0 : tfield Try.prog 220 0 = some (0, 3, 1) := by kernel_rfl
@[go_sem] theorem ty_fi220_1 : tfield Try.prog 220 1 = some (1, 47, 1) := by kernel_rfl
@[go_sem] theorem ty_fi224_0 : tfield Try.prog 224 0 = some (0, 9, 1) := by kernel_rfl
@[go_sem] theorem ty_fi224_1 : tfield Try.prog 224 1 = some (1, 4, 1) := by kernel_rfl
@[go_sem] theorem ty_fi224_2 : tfield Try.prog 224 2 = some (2, 4, 1) := by kernel_rfl
@[go_sem] theorem ty_fi229_0 : tfield Try.prog 229 0 = some (0, 9, 1) := by kernel_rfl
@[go_sem] theorem ty_fi229_1 : tfield Try.prog 229 1 = some (1, 3, 1) := by kernel_rfl
@[go_sem] theorem ty_fi247_3 : tfield Try.prog 247 3 = some (3, 63, 1) := by kernel_rfl
@[go_sem] theorem ty_fi247_4 : tfield Try.prog 247 4 = some (4, 65, 3) := by kernel_rfl
@[go_sem] theorem ty_fi247_5 : tfield Try.prog 247 5 = some (7, 121, 8) := by kernel_rfl
@[go_sem] theorem ty_fi249_0 : tfield Try.prog 249 0 = some (0, 135, 4) := by kernel_rfl
@[go_sem] theorem ty_fi249_1 : tfield Try.prog 249 1 = some (4, 121, 8) := by kernel_rfl
@[go_sem] theorem ty_fi254_0 : tfield Try.prog 254 0 = some (0, 30, 1) := by kernel_rfl
@[go_sem] theorem ty_fi254_1 : tfield Try.prog 254 1 = some (1, 63, 1) := by kernel_rfl
@[go_sem] theorem ty_fi254_2 : tfield Try.prog 254 2 = some (2, 250, 1) := by kernel_rfl
@[go_sem] theorem ty_fi268_0 : tfield Try.prog 268 0 = some (0, 266, 1) := by kernel_rfl
@[go_sem] theorem ty_fi268_1 : tfield Try.prog 268 1 = some (1, 22, 1) := by kernel_rfl
@[go_sem] theorem ty_fi40_0 : tfield Try.prog 40 0 = some (0, 9, 1) := by kernel_rfl
@[go_sem] theorem ty_fi40_1 : tfield Try.prog 40 1 = some (1, 37, 1) := by kernel_rfl
@[go_sem] theorem ty_fi40_2 : tfield Try.prog 40 2 = some (2, 38, 1) := by kernel_rfl
@[go_sem] theorem ty_fi43_0 : tfield Try.prog 43 0 = some (0, 41, 1) := by kernel_rfl
@[go_sem] theorem ty_fi49_0 : tfield Try.prog 49 0 = some (0, 9, 1) := by kernel_rfl
@[go_sem] theorem ty_fi49_1 : tfield Try.prog 49 1 = some (1, 3, 1) := by kernel_rfl
@[go_sem] theorem ty_fi49_2 : tfield Try.prog 49 2 = some (2, 46, 1) := by kernel_rfl
@[go_sem] theorem ty_fi49_3 : tfield Try.prog 49 3 = some (3, 47, 1) := by kernel_rfl
@[go_sem] theorem ty_fi62_0 : tfield Try.prog 62 0 = some (0, 9, 1) := by kernel_rfl
@[go_sem] theorem ty_fi62_1 : tfield Try.prog 62 1 = some (1, 3, 1) := by kernel_rfl
@[go_sem] theorem ty_fi62_2 : tfield Try.prog 62 2 = some (2, 55, 1) := by kernel_rfl
@[go_sem] theorem ty_fi62_3 : tfield Try.prog 62 3 = some (3, 56, 1) := by kernel_rfl
@[go_sem] theorem ty_fi62_4 : tfield Try.prog 62 4 = some (4, 57, 1) := by kernel_rfl
@[go_sem] theorem ty_fi62_5 : tfield Try.prog 62 5 = some (5, 58, 1) := by kernel_rfl
@[go_sem] theorem ty_fi62_6 : tfield Try.prog 62 6 = some (6, 59, 1) := by kernel_rfl
@[go_sem] theorem ty_fi62_7 : tfield Try.prog 62 7 = some (7, 60, 1) := by kernel_rfl
@[go_sem] theorem ty_fi65_0 : tfield Try.prog 65 0 = some (0, 3, 1) := by kernel_rfl
@[go_sem] theorem ty_fi65_1 : tfield Try.prog 65 1 = some (1, 9, 1) := by kernel_rfl
@[go_sem] theorem ty_fi65_2 : tfield Try.prog 65 2 = some (2, 63, 1) := by kernel_rfl
@[go_sem] theorem ty_fi67_0 : tfield Try.prog 67 0 = some (0, 3, 1) := by kernel_rfl
@[go_sem] theorem ty_fi67_1 : tfield Try.prog 67 1 = some (1, 3, 1) := by kernel_rfl
@[go_sem] theorem ty_fi67_2 : tfield Try.prog 67 2 = some (2, 9, 1) := by kernel_rfl
@[go_sem] theorem ty_fi67_3 : tfield Try.prog 67 3 = some (3, 37, 1) := by kernel_rfl
@[go_sem] theorem ty_fi89_0 : tfield Try.prog 89 0 = some (0, 3, 1) := by kernel_rfl
@[go_sem] theorem ty_fi89_1 : tfield Try.prog 89 1 = some (1, 3, 1) := by kernel_rfl
@[go_sem] theorem ty_fi89_2 : tfield Try.prog 89 2 = some (2, 22, 1) := by kernel_rfl
@[go_sem] theorem ty_fs115 : flatS Try.prog 115 = some [(0, 9), (1, 3), (2, 3)] := by kernel_rfl
@[go_sem] theorem ty_in261 : intKindOf Try.prog 261 = some .u64 := by kernel_rfl
@[go_sem] theorem ty_in3 : intKindOf Try.prog 3 = some .i64 := by kernel_rfl
@[go_sem] theorem ty_in5 : intKindOf Try.prog 5 = some .u8 := by kernel_rfl
@[go_sem] theorem ty_ki106 : kindIs Try.prog 106 isSliceT = true := by kernel_rfl
@[go_sem] theorem ty_ki118 : kindIs Try.prog 118 isSliceT = true := by kernel_rfl
@[go_sem] theorem ty_ki119 : kindIs Try.prog 119 isSliceT = true := by kernel_rfl
@[go_sem] theorem ty_ki133 : kindIs Try.prog 133 isSliceT = true := by kernel_rfl
@[go_sem] theorem ty_ki140 : kindIs Try.prog 140 isSliceT = true := by kernel_rfl
@[go_sem] theorem ty_ki152 : kindIs Try.prog 152 isSliceT = true := by kernel_rfl
@[go_sem] theorem ty_ki168 : kindIs Try.prog 168 isSliceT = true := by kernel_rfl
@[go_sem] theorem ty_ki173 : kindIs Try.prog 173 isSliceT = true := by kernel_rfl
@[go_sem] theorem ty_ki185 : kindIs Try.prog 185 isSliceT = true := by kernel_rfl
@[go_sem] theorem ty_ki199 : kindIs Try.prog 199 isSliceT = true := by kernel_rfl
@[go_sem] theorem ty_ki208 : kindIs Try.prog 208 isMapT = true := by kernel_rfl
@[go_sem] theorem ty_ki22 : kindIs Try.prog 22 isSliceT = true := by kernel_rfl
@[go_sem] theorem ty_ki23 : kindIs Try.prog 23 isSliceT = true := by kernel_rfl
@[go_sem] theorem ty_ki236 : kindIs Try.prog 236 isMapT = true := by kernel_rfl
@[go_sem] theorem ty_ki241 : kindIs Try.prog 241 isMapT = true := by kernel_rfl
@[go_sem] theorem ty_ki250 : kindIs Try.prog 250 isPtrT = true := by kernel_rfl
@[go_sem] theorem ty_ki266 : kindIs Try.prog 266 isPtrT = true := by kernel_rfl
@[go_sem] theorem ty_ki30 : kindIs Try.prog 30 isSliceT = true := by kernel_rfl
@[go_sem] theorem ty_ki37 : kindIs Try.prog 37 isSliceT = true := by kernel_rfl
@[go_sem] theorem ty_ki38 : kindIs Try.prog 38 isSliceT = true := by kernel_rfl
@[go_sem] theorem ty_ki4 : kindIs Try.prog 4 isBoolT = true := by kernel_rfl
@[go_sem] theorem ty_ki41 : kindIs Try.prog 41 isSliceT = true := by kernel_rfl
@[go_sem] theorem ty_ki46 : kindIs Try.prog 46 isSliceT = true := by kernel_rfl
@[go_sem] theorem ty_ki47 : kindIs Try.prog 47 isSliceT = true := by kernel_rfl
@[go_sem] theorem ty_ki55 : kindIs Try.prog 55 isSliceT = true := by kernel_rfl
@[go_sem] theorem ty_ki56 : kindIs Try.prog 56 isSliceT = true := by kernel_rfl
@[go_sem] theorem ty_ki57 : kindIs Try.prog 57 isSliceT = true := by kernel_rfl
@[go_sem] theorem ty_ki58 : kindIs Try.prog 58 isSliceT = true := by kernel_rfl
@[go_sem] theorem ty_ki59 : kindIs Try.prog 59 isSliceT = true := by kernel_rfl
@[go_sem] theorem ty_ki60 : kindIs Try.prog 60 isSliceT = true := by kernel_rfl
@[go_sem] theorem ty_ki63 : kindIs Try.prog 63 isSliceT = true := by kernel_rfl
@[go_sem] theorem ty_ki80 : kindIs Try.prog 80 isSliceT = true := by kernel_rfl
@[go_sem] theorem ty_ki81 : kindIs Try.prog 81 isPtrT = true := by kernel_rfl
@[go_sem] theorem ty_ki86 : kindIs Try.prog 86 isMapT = true := by kernel_rfl
@[go_sem] theorem ty_ki87 : kindIs Try.prog 87 isMapT = true := by kernel_rfl
@[go_sem] theorem ty_ki93 : kindIs Try.prog 93 isSliceT = true := by kernel_rfl
@[go_sem] theorem ty_kn3 : kindN Try.prog 3 = some 1 := by kernel_rfl
@[go_sem] theorem ty_kn9 : kindN Try.prog 9 = some 2 := by kernel_rfl
@[go_sem] theorem ty_mp208 : tmap Try.prog 208 = some (9, (.bool false)) := by kernel_rfl
@[go_sem] theorem ty_mp236 : tmap Try.prog 236 = some (9, (.int .i64 0)) := by kernel_rfl
@[go_sem] theorem ty_mp241 : tmap Try.prog 241 = some (3, (.int .i64 0)) := by kernel_rfl
@[go_sem] theorem ty_mp86 : tmap Try.prog 86 = some (3, (.bool false)) := by kernel_rfl
@[go_sem] theorem ty_mp87 : tmap Try.prog 87 = some (3, (.sl [] true .full)) := by kernel_rfl
@[go_sem] theorem ty_ni9 : kindIs Try.prog 9 (fun d => !isIfaceT d) = true := by kernel_rfl
@[go_sem] theorem ty_pl108 : tplaces Try.prog 108 = some [(0, 1), (1, 1), (2, 1)] := by kernel_rfl
@[go_sem] theorem ty_pl123 : tplaces Try.prog 123 = some [(0, 1), (1, 1), (2, 1), (3, 3), (6, 8)] := by kernel_rfl
@[go_sem] theorem ty_pl170 : tplaces Try.prog 170 = some [(0, 3), (3, 1), (4, 1)] := by kernel_rfl
@[go_sem] theorem ty_pl175 : tplaces Try.prog 175 = some [(0, 1), (1, 1), (2, 1)] := by kernel_rfl
@[go_sem] theorem ty_pl187 : tplaces Try.prog 187 = some [(0, 1), (1, 1), (2, 1), (3, 1), (4, 1)] := by kernel_rfl
@[go_sem] theorem ty_pl192 : tplaces Try.prog 192 = some [(0, 1)] := by kernel_rfl
@[go_sem] theorem ty_pl198 : tplaces Try.prog 198 = some [(0, 4), (4, 1)] := by kernel_rfl
@[go_sem] theorem ty_pl211 : tplaces Try.prog 211 = some [(0, 8), (8, 8), (16, 1)] := by kernel_rfl
@[go_sem] theorem ty_pl220 : tplaces Try.prog 220 = some [(0, 1), (1, 1)] := by kernel_rfl
@[go_sem] theorem ty_pl224 : tplaces Try.prog 224 = some [(0, 1), (1, 1), (2, 1)] := by kernel_rfl
@[go_sem] theorem ty_pl254 : tplaces Try.prog 254 = some [(0, 1), (1, 1), (2, 1)] := by kernel_rfl
@[go_sem] theorem ty_pl40 : tplaces Try.prog 40 = some [(0, 1), (1, 1), (2, 1)] := by kernel_rfl
@[go_sem] theorem ty_pl43 : tplaces Try.prog 43 = some [(0, 1)] := by kernel_rfl
@[go_sem] theorem ty_pl49 : tplaces Try.prog 49 = some [(0, 1), (1, 1), (2, 1), (3, 1)] := by kernel_rfl
@[go_sem] theorem ty_pl62 : tplaces Try.prog 62 = some [(0, 1), (1, 1), (2, 1), (3, 1), (4, 1), (5, 1), (6, 1), (7, 1)] := by kernel_rfl
@[go_sem] theorem ty_pl65 : tplaces Try.prog 65 = some [(0, 1), (1, 1), (2, 1)] := by kernel_rfl
@[go_sem] theorem ty_pl67 : tplaces Try.prog 67 = some [(0, 1), (1, 1), (2, 1), (3, 1)] := by kernel_rfl
@[go_sem] theorem ty_sl106 : tslice Try.prog 106 = some (108, 3) := by kernel_rfl
@[go_sem] theorem ty_sl118 : tslice Try.prog 118 = some (121, 8) := by kernel_rfl
@[go_sem] theorem ty_sl119 : tslice Try.prog 119 = some (249, 12) := by kernel_rfl
@[go_sem] theorem ty_sl133 : tslice Try.prog 133 = some (135, 4) := by kernel_rfl
@[go_sem] theorem ty_sl140 : tslice Try.prog 140 = some (220, 2) := by kernel_rfl
@[go_sem] theorem ty_sl152 : tslice Try.prog 152 = some (229, 2) := by kernel_rfl
@[go_sem] theorem ty_sl168 : tslice Try.prog 168 = some (170, 5) := by kernel_rfl
@[go_sem] theorem ty_sl173 : tslice Try.prog 173 = some (177, 2) := by kernel_rfl
@[go_sem] theorem ty_sl185 : tslice Try.prog 185 = some (4, 1) := by kernel_rfl
@[go_sem] theorem ty_sl199 : tslice Try.prog 199 = some (198, 5) := by kernel_rfl
@[go_sem] theorem ty_sl22 : tslice Try.prog 22 = some (5, 1) := by kernel_rfl
@[go_sem] theorem ty_sl23 : tslice Try.prog 23 = some (22, 1) := by kernel_rfl
@[go_sem] theorem ty_sl30 : tslice Try.prog 30 = some (9, 1) := by kernel_rfl
@[go_sem] theorem ty_sl37 : tslice Try.prog 37 = some (67, 4) := by kernel_rfl
@[go_sem] theorem ty_sl38 : tslice Try.prog 38 = some (165, 5) := by kernel_rfl
@[go_sem] theorem ty_sl41 : tslice Try.prog 41 = some (49, 4) := by kernel_rfl
@[go_sem] theorem ty_sl46 : tslice Try.prog 46 = some (162, 5) := by kernel_rfl
@[go_sem] theorem ty_sl47 : tslice Try.prog 47 = some (3, 1) := by kernel_rfl
@[go_sem] theorem ty_sl55 : tslice Try.prog 55 = some (115, 3) := by kernel_rfl
@[go_sem] theorem ty_sl56 : tslice Try.prog 56 = some (175, 3) := by kernel_rfl
@[go_sem] theorem ty_sl57 : tslice Try.prog 57 = some (179, 2) := by kernel_rfl
@[go_sem] theorem ty_sl58 : tslice Try.prog 58 = some (181, 3) := by kernel_rfl
@[go_sem] theorem ty_sl59 : tslice Try.prog 59 = some (247, 15) := by kernel_rfl
@[go_sem] theorem ty_sl60 : tslice Try.prog 60 = some (123, 14) := by kernel_rfl
@[go_sem] theorem ty_sl63 : tslice Try.prog 63 = some (65, 3) := by kernel_rfl
@[go_sem] theorem ty_sl80 : tslice Try.prog 80 = some (89, 4) := by kernel_rfl
@[go_sem] theorem ty_sl93 : tslice Try.prog 93 = some (47, 1) := by kernel_rfl
@[go_sem] theorem ty_st106 : isStr Try.prog 106 = false := by kernel_rfl
@[go_sem] theorem ty_st118 : isStr Try.prog 118 = false := by kernel_rfl
@[go_sem] theorem ty_st119 : isStr Try.prog 119 = false := by kernel_rfl
@[go_sem] theorem ty_st133 : isStr Try.prog 133 = false := by kernel_rfl
@[go_sem] theorem ty_st140 : isStr Try.prog 140 = false := by kernel_rfl
@[go_sem] theorem ty_st152 : isStr Try.prog 152 = false := by kernel_rfl
@[go_sem] theorem ty_st168 : isStr Try.prog 168 = false := by kernel_rfl
@[go_sem] theorem ty_st173 : isStr Try.prog 173 = false := by kernel_rfl
@[go_sem] theorem ty_st185 : isStr Try.prog 185 = false := by kernel_rfl
@[go_sem] theorem ty_st199 : isStr Try.prog 199 = false := by kernel_rfl
@[go_sem] theorem ty_st208 : isStr Try.prog 208 = false := by kernel_rfl
@[go_sem] theorem ty_st22 : isStr Try.prog 22 = false := by kernel_rfl
@[go_sem] theorem ty_st23 : isStr Try.prog 23 = false := by kernel_rfl
@[go_sem] theorem ty_st261 : isStr Try.prog 261 = false := by kernel_rfl
@[go_sem] theorem ty_st266 : isStr Try.prog 266 = false := by kernel_rfl
@[go_sem] theorem ty_st298 : isStr Try.prog 298 = false := by kernel_rfl
@[go_sem] theorem ty_st3 : isStr Try.prog 3 = false := by kernel_rfl
@[go_sem] theorem ty_st30 : isStr Try.prog 30 = false := by kernel_rfl
@[go_sem] theorem ty_st37 : isStr Try.prog 37 = false := by kernel_rfl
@[go_sem] theorem ty_st38 : isStr Try.prog 38 = false := by kernel_rfl
@[go_sem] theorem ty_st41 : isStr Try.prog 41 = false := by kernel_rfl
@[go_sem] theorem ty_st46 : isStr Try.prog 46 = false := by kernel_rfl
@[go_sem] theorem ty_st47 : isStr Try.prog 47 = false := by kernel_rfl
@[go_sem] theorem ty_st5 : isStr Try.prog 5 = false := by kernel_rfl
@[go_sem] theorem ty_st55 : isStr Try.prog 55 = false := by kernel_rfl
@[go_sem] theorem ty_st56 : isStr Try.prog 56 = false := by kernel_rfl
@[go_sem] theorem ty_st57 : isStr Try.prog 57 = false := by kernel_rfl
@[go_sem] theorem ty_st58 : isStr Try.prog 58 = false := by kernel_rfl
@[go_sem] theorem ty_st59 : isStr Try.prog 59 = false := by kernel_rfl
@[go_sem] theorem ty_st60 : isStr Try.prog 60 = false := by kernel_rfl
@[go_sem] theorem ty_st63 : isStr Try.prog 63 = false := by kernel_rfl
@[go_sem] theorem ty_st80 : isStr Try.prog 80 = false := by kernel_rfl
@[go_sem] theorem ty_st86 : isStr Try.prog 86 = false := by kernel_rfl
@[go_sem] theorem ty_st9 : isStr Try.prog 9 = true := by kernel_rfl
@[go_sem] theorem ty_st93 : isStr Try.prog 93 = false := by kernel_rfl
@[go_sem] theorem ty_sz108 : tsz Try.prog 108 = some 3 := by kernel_rfl
@[go_sem] theorem ty_sz115 : tsz Try.prog 115 = some 3 := by kernel_rfl
@[go_sem] theorem ty_sz118 : tsz Try.prog 118 = some 1 := by kernel_rfl
@[go_sem] theorem ty_sz119 : tsz Try.prog 119 = some 1 := by kernel_rfl
@[go_sem] theorem ty_sz121 : tsz Try.prog 121 = some 8 := by kernel_rfl
@[go_sem] theorem ty_sz123 : tsz Try.prog 123 = some 14 := by kernel_rfl
@[go_sem] theorem ty_sz132 : tsz Try.prog 132 = some 5 := by kernel_rfl
@[go_sem] theorem ty_sz133 : tsz Try.prog 133 = some 1 := by kernel_rfl
@[go_sem] theorem ty_sz135 : tsz Try.prog 135 = some 4 := by kernel_rfl
@[go_sem] theorem ty_sz162 : tsz Try.prog 162 = some 5 := by kernel_rfl
@[go_sem] theorem ty_sz165 : tsz Try.prog 165 = some 5 := by kernel_rfl
@[go_sem] theorem ty_sz168 : tsz Try.prog 168 = some 1 := by kernel_rfl
@[go_sem] theorem ty_sz170 : tsz Try.prog 170 = some 5 := by kernel_rfl
@[go_sem] theorem ty_sz173 : tsz Try.prog 173 = some 1 := by kernel_rfl
@[go_sem] theorem ty_sz175 : tsz Try.prog 175 = some 3 := by kernel_rfl
@[go_sem] theorem ty_sz177 : tsz Try.prog 177 = some 2 := by kernel_rfl
@[go_sem] theorem ty_sz179 : tsz Try.prog 179 = some 2 := by kernel_rfl
@[go_sem] theorem ty_sz181 : tsz Try.prog 181 = some 3 := by kernel_rfl
@[go_sem] theorem ty_sz185 : tsz Try.prog 185 = some 1 := by kernel_rfl
@[go_sem] theorem ty_sz187 : tsz Try.prog 187 = some 5 := by kernel_rfl
@[go_sem] theorem ty_sz192 : tsz Try.prog 192 = some 1 := by kernel_rfl
@[go_sem] theorem ty_sz198 : tsz Try.prog 198 = some 5 := by kernel_rfl
@[go_sem] theorem ty_sz208 : tsz Try.prog 208 = some 1 := by kernel_rfl
@[go_sem] theorem ty_sz209 : tsz Try.prog 209 = some 1 := by kernel_rfl
@[go_sem] theorem ty_sz211 : tsz Try.prog 211 = some 17 := by kernel_rfl
@[go_sem] theorem ty_sz22 : tsz Try.prog 22 = some 1 := by kernel_rfl
@[go_sem] theorem ty_sz220 : tsz Try.prog 220 = some 2 := by kernel_rfl
@[go_sem] theorem ty_sz224 : tsz Try.prog 224 = some 3 := by kernel_rfl
@[go_sem] theorem ty_sz226 : tsz Try.prog 226 = some 1 := by kernel_rfl
@[go_sem] theorem ty_sz229 : tsz Try.prog 229 = some 2 := by kernel_rfl
@[go_sem] theorem ty_sz247 : tsz Try.prog 247 = some 15 := by kernel_rfl
@[go_sem] theorem ty_sz249 : tsz Try.prog 249 = some 12 := by kernel_rfl
@[go_sem] theorem ty_sz250 : tsz Try.prog 250 = some 1 := by kernel_rfl
@[go_sem] theorem ty_sz254 : tsz Try.prog 254 = some 3 := by kernel_rfl
@[go_sem] theorem ty_sz266 : tsz Try.prog 266 = some 1 := by kernel_rfl
@[go_sem] theorem ty_sz268 : tsz Try.prog 268 = some 2 := by kernel_rfl
@[go_sem] theorem ty_sz3 : tsz Try.prog 3 = some 1 := by kernel_rfl
@[go_sem] theorem ty_sz30 : tsz Try.prog 30 = some 1 := by kernel_rfl
@[go_sem] theorem ty_sz37 : tsz Try.prog 37 = some 1 := by kernel_rfl
@[go_sem] theorem ty_sz38 : tsz Try.prog 38 = some 1 := by kernel_rfl
@[go_sem] theorem ty_sz4 : tsz Try.prog 4 = some 1 := by kernel_rfl
@[go_sem] theorem ty_sz40 : tsz Try.prog 40 = some 3 := by kernel_rfl
@[go_sem] theorem ty_sz41 : tsz Try.prog 41 = some 1 := by kernel_rfl
@[go_sem] theorem ty_sz43 : tsz Try.prog 43 = some 1 := by kernel_rfl
@[go_sem] theorem ty_sz46 : tsz Try.prog 46 = some 1 := by kernel_rfl
@[go_sem] theorem ty_sz47 : tsz Try.prog 47 = some 1 := by kernel_rfl
@[go_sem] theorem ty_sz49 : tsz Try.prog 49 = some 4 := by kernel_rfl
@[go_sem] theorem ty_sz5 : tsz Try.prog 5 = some 1 := by kernel_rfl
@[go_sem] theorem ty_sz55 : tsz Try.prog 55 = some 1 := by kernel_rfl
@[go_sem] theorem ty_sz56 : tsz Try.prog 56 = some 1 := by kernel_rfl
@[go_sem] theorem ty_sz57 : tsz Try.prog 57 = some 1 := by kernel_rfl
@[go_sem] theorem ty_sz58 : tsz Try.prog 58 = some 1 := by kernel_rfl
@[go_sem] theorem ty_sz59 : tsz Try.prog 59 = some 1 := by kernel_rfl
@[go_sem] theorem ty_sz60 : tsz Try.prog 60 = some 1 := by kernel_rfl
@[go_sem] theorem ty_sz62 : tsz Try.prog 62 = some 8 := by kernel_rfl
@[go_sem] theorem ty_sz63 : tsz Try.prog 63 = some 1 := by kernel_rfl
@[go_sem] theorem ty_sz65 : tsz Try.prog 65 = some 3 := by kernel_rfl
@[go_sem] theorem ty_sz67 : tsz Try.prog 67 = some 4 := by kernel_rfl
@[go_sem] theorem ty_sz89 : tsz Try.prog 89 = some 4 := by kernel_rfl
@[go_sem] theorem ty_sz9 : tsz Try.prog 9 = some 1 := by kernel_rfl
@[go_sem] theorem ty_sz93 : tsz Try.prog 93 = some 1 := by kernel_rfl
@[go_sem] theorem ty_u822 : isU8s Try.prog 22 = true := by kernel_rfl
@[go_sem] theorem ty_u8261 : isU8s Try.prog 261 = false := by kernel_rfl
@[go_sem] theorem ty_u8266 : isU8s Try.prog 266 = false := by kernel_rfl
@[go_sem] theorem ty_u8298 : isU8s Try.prog 298 = false := by kernel_rfl
@[go_sem] theorem ty_u83 : isU8s Try.prog 3 = false := by kernel_rfl
@[go_sem] theorem ty_u85 : isU8s Try.prog 5 = false := by kernel_rfl
@[go_sem] theorem ty_u89 : isU8s Try.prog 9 = false := by kernel_rfl
@[go_sem] theorem ty_un22 : (Try.prog.underlying 22).isSome = true := by kernel_rfl
@[go_sem] theorem ty_un261 : (Try.prog.underlying 261).isSome = true := by kernel_rfl
@[go_sem] theorem ty_un266 : (Try.prog.underlying 266).isSome = true := by kernel_rfl
@[go_sem] theorem ty_un298 : (Try.prog.underlying 298).isSome = true := by kernel_rfl
@[go_sem] theorem ty_un3 : (Try.prog.underlying 3).isSome = true := by kernel_rfl
@[go_sem] theorem ty_un5 : (Try.prog.underlying 5).isSome = true := by kernel_rfl
@[go_sem] theorem ty_un9 : (Try.prog.underlying 9).isSome = true := by kernel_rfl
@[go_sem] theorem ty_ze108 : tzero Try.prog 108 = some (.agg [(.str []), (.int .i64 0), (.sl [] true .full)]) := by kernel_rfl
@[go_sem] theorem ty_ze115 : tzero Try.prog 115 = some (.agg [(.str []), (.int .i64 0), (.int .i64 0)]) := by kernel_rfl
@[go_sem] theorem ty_ze121 : tzero Try.prog 121 = some (.agg [(.int .i64 0), (.int .i64 0), (.str []), (.sl [] true .full), (.sl [] true .full), (.sl [] true .full), (.sl [] true .full), (.int .i64 0)]) := by kernel_rfl
@[go_sem] theorem ty_ze123 : tzero Try.prog 123 = some (.agg [(.str []), (.sl [] true .full), (.sl [] true .full), (.int .i64 0), (.str []), (.sl [] true .full), (.int .i64 0), (.int .i64 0), (.str []), (.sl [] true .full), (.sl [] true .full), (.sl [] true .full), (.sl [] true .full), (.int .i64 0)]) := by kernel_rfl
@[go_sem] theorem ty_ze135 : tzero Try.prog 135 = some (.agg [(.int .i64 0), (.int .i64 0), (.str []), (.sl [] true .full)]) := by kernel_rfl
@[go_sem] theorem ty_ze162 : tzero Try.prog 162 = some (.agg [(.int .i64 0), (.int .i64 0), (.int .i64 0), (.str []), (.sl [] true .full)]) := by kernel_rfl
@[go_sem] theorem ty_ze165 : tzero Try.prog 165 = some (.agg [(.int .i64 0), (.int .i64 0), (.int .i64 0), (.str []), (.sl [] true .full)]) := by kernel_rfl
@[go_sem] theorem ty_ze170 : tzero Try.prog 170 = some (.agg [(.int .i64 0), (.str []), (.sl [] true .full), (.sl [] true .full), (.sl [] true .full)]) := by kernel_rfl
@[go_sem] theorem ty_ze175 : tzero Try.prog 175 = some (.agg [(.str []), (.sl [] true .full), (.sl [] true .full)]) := by kernel_rfl
@[go_sem] theorem ty_ze177 : tzero Try.prog 177 = some (.agg [(.str []), (.sl [] true .full)]) := by kernel_rfl
@[go_sem] theorem ty_ze179 : tzero Try.prog 179 = some (.agg [(.str []), (.sl [] true .full)]) := by kernel_rfl
@[go_sem] theorem ty_ze181 : tzero Try.prog 181 = some (.agg [(.str []), (.str []), (.sl [] true .full)]) := by kernel_rfl
@[go_sem] theorem ty_ze187 : tzero Try.prog 187 = some (.agg [(.sl [] true .full), (.bool false), (.int .i64 0), (.sl [] true .full), (.sl [] true .full)]) := by kernel_rfl
@[go_sem] theorem ty_ze192 : tzero Try.prog 192 = some (.agg [(.sl [] true .full)]) := by kernel_rfl
@[go_sem] theorem ty_ze198 : tzero Try.prog 198 = some (.agg [(.int .i64 0), (.int .i64 0), (.str []), (.sl [] true .full), (.int .i64 0)]) := by kernel_rfl
@[go_sem] theorem ty_ze211 : tzero Try.prog 211 = some (.agg [(.str []), (.int .i64 0), (.sl [] true .full), (.sl [] true .full), (.sl [] true .full), (.sl [] true .full), (.sl [] true .full), (.sl [] true .full), (.str []), (.int .i64 0), (.sl [] true .full), (.sl [] true .full), (.sl [] true .full), (.sl [] true .full), (.sl [] true .full), (.sl [] true .full), .nilm]) := by kernel_rfl
@[go_sem] theorem ty_ze22 : tzero Try.prog 22 = some (.sl [] true .full) := by kernel_rfl
@[go_sem] theorem ty_ze220 : tzero Try.prog 220 = some (.agg [(.int .i64 0), (.sl [] true .full)]) := by kernel_rfl
@[go_sem] theorem ty_ze224 : tzero Try.prog 224 = some (.agg [(.str []), (.bool false), (.bool false)]) := by kernel_rfl
@[go_sem] theorem ty_ze226 : tzero Try.prog 226 = some .nilf := by kernel_rfl
@[go_sem] theorem ty_ze229 : tzero Try.prog 229 = some (.agg [(.str []), (.int .i64 0)]) := by kernel_rfl
@[go_sem] theorem ty_ze247 : tzero Try.prog 247 = some (.agg [(.str []), (.sl [] true .full), (.sl [] true .full), (.sl [] true .full), (.int .i64 0), (.str []), (.sl [] true .full), (.int .i64 0), (.int .i64 0), (.str []), (.sl [] true .full), (.sl [] true .full), (.sl [] true .full), (.sl [] true .full), (.int .i64 0)]) := by kernel_rfl
@[go_sem] theorem ty_ze249 : tzero Try.prog 249 = some (.agg [(.int .i64 0), (.int .i64 0), (.str []), (.sl [] true .full), (.int .i64 0), (.int .i64 0), (.str []), (.sl [] true .full), (.sl [] true .full), (.sl [] true .full), (.sl [] true .full), (.int .i64 0)]) := by kernel_rfl
@[go_sem] theorem ty_ze254 : tzero Try.prog 254 = some (.agg [(.sl [] true .full), (.sl [] true .full), .nilp]) := by kernel_rfl
@[go_sem] theorem ty_ze268 : tzero Try.prog 268 = some (.agg [.nilp, (.sl [] true .full)]) := by kernel_rfl
@[go_sem] theorem ty_ze3 : tzero Try.prog 3 = some (.int .i64 0) := by kernel_rfl
@[go_sem] theorem ty_ze4 : tzero Try.prog 4 = some (.bool false) := by kernel_rfl
@[go_sem] theorem ty_ze40 : tzero Try.prog 40 = some (.agg [(.str []), (.sl [] true .full), (.sl [] true .full)]) := by kernel_rfl
@[go_sem] theorem ty_ze43 : tzero Try.prog 43 = some (.agg [(.sl [] true .full)]) := by kernel_rfl
@[go_sem] theorem ty_ze47 : tzero Try.prog 47 = some (.sl [] true .full) := by kernel_rfl
@[go_sem] theorem ty_ze49 : tzero Try.prog 49 = some (.agg [(.str []), (.int .i64 0), (.sl [] true .full), (.sl [] true .full)]) := by kernel_rfl
@[go_sem] theorem ty_ze5 : tzero Try.prog 5 = some (.int .u8 0) := by kernel_rfl
@[go_sem] theorem ty_ze62 : tzero Try.prog 62 = some (.agg [(.str []), (.int .i64 0), (.sl [] true .full), (.sl [] true .full), (.sl [] true .full), (.sl [] true .full), (.sl [] true .full), (.sl [] true .full)]) := by kernel_rfl
@[go_sem] theorem ty_ze65 : tzero Try.prog 65 = some (.agg [(.int .i64 0), (.str []), (.sl [] true .full)]) := by kernel_rfl
@[go_sem] theorem ty_ze67 : tzero Try.prog 67 = some (.agg [(.int .i64 0), (.int .i64 0), (.str []), (.sl [] true .full)]) := by kernel_rfl
@[go_sem] theorem ty_ze89 : tzero Try.prog 89 = some (.agg [(.int .i64 0), (.int .i64 0), (.sl [] true .full), (.sl [] true .full)]) := by kernel_rfl
@[go_sem] theorem ty_ze9 : tzero Try.prog 9 = some (.str []) := by kernel_rfl
end Go.Proofs.Ytomjghlaoncpbaa
