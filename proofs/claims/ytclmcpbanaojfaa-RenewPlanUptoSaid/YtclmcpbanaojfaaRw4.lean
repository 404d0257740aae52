/- Part 4 of a proof laid in parts; each part's own comment says what it proves and under which conditions. -/
import Derived.Test.YtclmcpbanaojfaaRw3
import Derived.Test.YtclmcpbanaojfaaProg
/- Closed facts about the program's types, each evaluated by the kernel; no conditions. -/
namespace Go.Proofs.Ytclmcpbanaojfaa
open Go.Proofs.YtclmcpbanaojfaaV
theorem mixed : Try.prog.follows .mixedOrders = true := by kernel_rfl
@[go_sem] theorem ty_ag102 : tagg Try.prog 102 = some true := by kernel_rfl
@[go_sem] theorem ty_ag107 : tagg Try.prog 107 = some false := by kernel_rfl
@[go_sem] theorem ty_ag108 : tagg Try.prog 108 = some false := by kernel_rfl
@[go_sem] theorem ty_ag110 : tagg Try.prog 110 = some true := by kernel_rfl
@[go_sem] theorem ty_ag114 : tagg Try.prog 114 = some true := by kernel_rfl
@[go_sem] theorem ty_ag126 : tagg Try.prog 126 = some true := by kernel_rfl
@[go_sem] theorem ty_ag127 : tagg Try.prog 127 = some false := by kernel_rfl
@[go_sem] theorem ty_ag129 : tagg Try.prog 129 = some true := by kernel_rfl
@[go_sem] theorem ty_ag133 : tagg Try.prog 133 = some false := by kernel_rfl
@[go_sem] theorem ty_ag135 : tagg Try.prog 135 = some true := by kernel_rfl
@[go_sem] theorem ty_ag139 : tagg Try.prog 139 = some true := by kernel_rfl
@[go_sem] theorem ty_ag140 : tagg Try.prog 140 = some false := by kernel_rfl
@[go_sem] theorem ty_ag142 : tagg Try.prog 142 = some true := by kernel_rfl
@[go_sem] theorem ty_ag147 : tagg Try.prog 147 = some false := by kernel_rfl
@[go_sem] theorem ty_ag149 : tagg Try.prog 149 = some true := by kernel_rfl
@[go_sem] theorem ty_ag153 : tagg Try.prog 153 = some true := by kernel_rfl
@[go_sem] theorem ty_ag155 : tagg Try.prog 155 = some false := by kernel_rfl
@[go_sem] theorem ty_ag159 : tagg Try.prog 159 = some false := by kernel_rfl
@[go_sem] theorem ty_ag161 : tagg Try.prog 161 = some true := by kernel_rfl
@[go_sem] theorem ty_ag170 : tagg Try.prog 170 = some true := by kernel_rfl
@[go_sem] theorem ty_ag178 : tagg Try.prog 178 = some false := by kernel_rfl
@[go_sem] theorem ty_ag180 : tagg Try.prog 180 = some true := by kernel_rfl
@[go_sem] theorem ty_ag183 : tagg Try.prog 183 = some true := by kernel_rfl
@[go_sem] theorem ty_ag186 : tagg Try.prog 186 = some false := by kernel_rfl
@[go_sem] theorem ty_ag187 : tagg Try.prog 187 = some false := by kernel_rfl
@[go_sem] theorem ty_ag192 : tagg Try.prog 192 = some false := by kernel_rfl
@[go_sem] theorem ty_ag194 : tagg Try.prog 194 = some true := by kernel_rfl
@[go_sem] theorem ty_ag196 : tagg Try.prog 196 = some true := by kernel_rfl
@[go_sem] theorem ty_ag198 : tagg Try.prog 198 = some true := by kernel_rfl
@[go_sem] theorem ty_ag200 : tagg Try.prog 200 = some true := by kernel_rfl
@[go_sem] theorem ty_ag207 : tagg Try.prog 207 = some false := by kernel_rfl
@[go_sem] theorem ty_ag208 : tagg Try.prog 208 = some false := by kernel_rfl
@[go_sem] theorem ty_ag213 : tagg Try.prog 213 = some true := by kernel_rfl
@[go_sem] theorem ty_ag224 : tagg Try.prog 224 = some false := by kernel_rfl
@[go_sem] theorem ty_ag23 : tagg Try.prog 23 = some false := by kernel_rfl
@[go_sem] theorem ty_ag235 : tagg Try.prog 235 = some false := by kernel_rfl
@[go_sem] theorem ty_ag238 : tagg Try.prog 238 = some true := by kernel_rfl
@[go_sem] theorem ty_ag24 : tagg Try.prog 24 = some false := by kernel_rfl
@[go_sem] theorem ty_ag240 : tagg Try.prog 240 = some false := by kernel_rfl
@[go_sem] theorem ty_ag241 : tagg Try.prog 241 = some false := by kernel_rfl
@[go_sem] theorem ty_ag242 : tagg Try.prog 242 = some false := by kernel_rfl
@[go_sem] theorem ty_ag245 : tagg Try.prog 245 = some false := by kernel_rfl
@[go_sem] theorem ty_ag246 : tagg Try.prog 246 = some false := by kernel_rfl
@[go_sem] theorem ty_ag247 : tagg Try.prog 247 = some false := by kernel_rfl
@[go_sem] theorem ty_ag249 : tagg Try.prog 249 = some true := by kernel_rfl
@[go_sem] theorem ty_ag25 : tagg Try.prog 25 = some false := by kernel_rfl
@[go_sem] theorem ty_ag252 : tagg Try.prog 252 = some false := by kernel_rfl
@[go_sem] theorem ty_ag253 : tagg Try.prog 253 = some false := by kernel_rfl
@[go_sem] theorem ty_ag258 : tagg Try.prog 258 = some false := by kernel_rfl
@[go_sem] theorem ty_ag259 : tagg Try.prog 259 = some false := by kernel_rfl
@[go_sem] theorem ty_ag26 : tagg Try.prog 26 = some false := by kernel_rfl
@[go_sem] theorem ty_ag260 : tagg Try.prog 260 = some false := by kernel_rfl
@[go_sem] theorem ty_ag261 : tagg Try.prog 261 = some false := by kernel_rfl
@[go_sem] theorem ty_ag262 : tagg Try.prog 262 = some false := by kernel_rfl
@[go_sem] theorem ty_ag263 : tagg Try.prog 263 = some false := by kernel_rfl
@[go_sem] theorem ty_ag265 : tagg Try.prog 265 = some true := by kernel_rfl
@[go_sem] theorem ty_ag267 : tagg Try.prog 267 = some true := by kernel_rfl
@[go_sem] theorem ty_ag268 : tagg Try.prog 268 = some false := by kernel_rfl
@[go_sem] theorem ty_ag269 : tagg Try.prog 269 = some false := by kernel_rfl
@[go_sem] theorem ty_ag27 : tagg Try.prog 27 = some false := by kernel_rfl
@[go_sem] theorem ty_ag270 : tagg Try.prog 270 = some false := by kernel_rfl
@[go_sem] theorem ty_ag273 : tagg Try.prog 273 = some false := by kernel_rfl
@[go_sem] theorem ty_ag275 : tagg Try.prog 275 = some false := by kernel_rfl
@[go_sem] theorem ty_ag276 : tagg Try.prog 276 = some false := by kernel_rfl
@[go_sem] theorem ty_ag279 : tagg Try.prog 279 = some false := by kernel_rfl
@[go_sem] theorem ty_ag284 : tagg Try.prog 284 = some false := by kernel_rfl
@[go_sem] theorem ty_ag288 : tagg Try.prog 288 = some false := by kernel_rfl
@[go_sem] theorem ty_ag289 : tagg Try.prog 289 = some false := by kernel_rfl
@[go_sem] theorem ty_ag29 : tagg Try.prog 29 = some true := by kernel_rfl
@[go_sem] theorem ty_ag291 : tagg Try.prog 291 = some true := by kernel_rfl
@[go_sem] theorem ty_ag295 : tagg Try.prog 295 = some false := by kernel_rfl
@[go_sem] theorem ty_ag297 : tagg Try.prog 297 = some true := by kernel_rfl
@[go_sem] theorem ty_ag3 : tagg Try.prog 3 = some false := by kernel_rfl
@[go_sem] theorem ty_ag30 : tagg Try.prog 30 = some false := by kernel_rfl
@[go_sem] theorem ty_ag304 : tagg Try.prog 304 = some false := by kernel_rfl
@[go_sem] theorem ty_ag308 : tagg Try.prog 308 = some true := by kernel_rfl
@[go_sem] theorem ty_ag319 : tagg Try.prog 319 = some false := by kernel_rfl
@[go_sem] theorem ty_ag32 : tagg Try.prog 32 = some true := by kernel_rfl
@[go_sem] theorem ty_ag331 : tagg Try.prog 331 = some true := by kernel_rfl
@[go_sem] theorem ty_ag333 : tagg Try.prog 333 = some true := by kernel_rfl
@[go_sem] theorem ty_ag356 : tagg Try.prog 356 = some true := by kernel_rfl
@[go_sem] theorem ty_ag36 : tagg Try.prog 36 = some false := by kernel_rfl
@[go_sem] theorem ty_ag365 : tagg Try.prog 365 = some true := by kernel_rfl
@[go_sem] theorem ty_ag367 : tagg Try.prog 367 = some true := by kernel_rfl
@[go_sem] theorem ty_ag37 : tagg Try.prog 37 = some false := by kernel_rfl
@[go_sem] theorem ty_ag38 : tagg Try.prog 38 = some false := by kernel_rfl
@[go_sem] theorem ty_ag382 : tagg Try.prog 382 = some true := by kernel_rfl
@[go_sem] theorem ty_ag392 : tagg Try.prog 392 = some true := by kernel_rfl
@[go_sem] theorem ty_ag4 : tagg Try.prog 4 = some false := by kernel_rfl
@[go_sem] theorem ty_ag40 : tagg Try.prog 40 = some true := by kernel_rfl
@[go_sem] theorem ty_ag404 : tagg Try.prog 404 = some false := by kernel_rfl
@[go_sem] theorem ty_ag411 : tagg Try.prog 411 = some true := by kernel_rfl
@[go_sem] theorem ty_ag42 : tagg Try.prog 42 = some true := by kernel_rfl
@[go_sem] theorem ty_ag432 : tagg Try.prog 432 = some false := by kernel_rfl
@[go_sem] theorem ty_ag466 : tagg Try.prog 466 = some false := by kernel_rfl
@[go_sem] theorem ty_ag5 : tagg Try.prog 5 = some false := by kernel_rfl
@[go_sem] theorem ty_ag51 : tagg Try.prog 51 = some false := by kernel_rfl
@[go_sem] theorem ty_ag58 : tagg Try.prog 58 = some false := by kernel_rfl
@[go_sem] theorem ty_ag59 : tagg Try.prog 59 = some false := by kernel_rfl
@[go_sem] theorem ty_ag61 : tagg Try.prog 61 = some true := by kernel_rfl
@[go_sem] theorem ty_ag78 : tagg Try.prog 78 = some false := by kernel_rfl
@[go_sem] theorem ty_ag79 : tagg Try.prog 79 = some false := by kernel_rfl
@[go_sem] theorem ty_ag80 : tagg Try.prog 80 = some false := by kernel_rfl
@[go_sem] theorem ty_ag81 : tagg Try.prog 81 = some false := by kernel_rfl
@[go_sem] theorem ty_ag82 : tagg Try.prog 82 = some false := by kernel_rfl
@[go_sem] theorem ty_ag84 : tagg Try.prog 84 = some true := by kernel_rfl
@[go_sem] theorem ty_ag89 : tagg Try.prog 89 = some false := by kernel_rfl
@[go_sem] theorem ty_ag9 : tagg Try.prog 9 = some false := by kernel_rfl
@[go_sem] theorem ty_ag91 : tagg Try.prog 91 = some true := by kernel_rfl
@[go_sem] theorem ty_ag92 : tagg Try.prog 92 = some true := by kernel_rfl
@[go_sem] theorem ty_ag98 : tagg Try.prog 98 = some true := by kernel_rfl
@[go_sem] theorem ty_by102 : tbytes Try.prog 102 = some 40 := by kernel_rfl
@[go_sem] theorem ty_by107 : tbytes Try.prog 107 = some 24 := by kernel_rfl
@[go_sem] theorem ty_by110 : tbytes Try.prog 110 = some 56 := by kernel_rfl
@[go_sem] theorem ty_by114 : tbytes Try.prog 114 = some 56 := by kernel_rfl
@[go_sem] theorem ty_by126 : tbytes Try.prog 126 = some 80 := by kernel_rfl
@[go_sem] theorem ty_by140 : tbytes Try.prog 140 = some 24 := by kernel_rfl
@[go_sem] theorem ty_by142 : tbytes Try.prog 142 = some 16 := by kernel_rfl
@[go_sem] theorem ty_by155 : tbytes Try.prog 155 = some 24 := by kernel_rfl
@[go_sem] theorem ty_by180 : tbytes Try.prog 180 = some 64 := by kernel_rfl
@[go_sem] theorem ty_by183 : tbytes Try.prog 183 = some 56 := by kernel_rfl
@[go_sem] theorem ty_by213 : tbytes Try.prog 213 = some 32 := by kernel_rfl
@[go_sem] theorem ty_by224 : tbytes Try.prog 224 = some 8 := by kernel_rfl
@[go_sem] theorem ty_by238 : tbytes Try.prog 238 = some 32 := by kernel_rfl
@[go_sem] theorem ty_by249 : tbytes Try.prog 249 = some 96 := by kernel_rfl
@[go_sem] theorem ty_by251 : tbytes Try.prog 251 = some 16 := by kernel_rfl
@[go_sem] theorem ty_by252 : tbytes Try.prog 252 = some 8 := by kernel_rfl
@[go_sem] theorem ty_by253 : tbytes Try.prog 253 = some 8 := by kernel_rfl
@[go_sem] theorem ty_by263 : tbytes Try.prog 263 = some 24 := by kernel_rfl
@[go_sem] theorem ty_by265 : tbytes Try.prog 265 = some 16 := by kernel_rfl
@[go_sem] theorem ty_by267 : tbytes Try.prog 267 = some 56 := by kernel_rfl
@[go_sem] theorem ty_by268 : tbytes Try.prog 268 = some 24 := by kernel_rfl
@[go_sem] theorem ty_by279 : tbytes Try.prog 279 = some 8 := by kernel_rfl
@[go_sem] theorem ty_by291 : tbytes Try.prog 291 = some 72 := by kernel_rfl
@[go_sem] theorem ty_by295 : tbytes Try.prog 295 = some 8 := by kernel_rfl
@[go_sem] theorem ty_by297 : tbytes Try.prog 297 = some 64 := by kernel_rfl
@[go_sem] theorem ty_by3 : tbytes Try.prog 3 = some 8 := by kernel_rfl
@[go_sem] theorem ty_by308 : tbytes Try.prog 308 = some 16 := by kernel_rfl
@[go_sem] theorem ty_by32 : tbytes Try.prog 32 = some 48 := by kernel_rfl
@[go_sem] theorem ty_by331 : tbytes Try.prog 331 = some 40 := by kernel_rfl
@[go_sem] theorem ty_by333 : tbytes Try.prog 333 = some 40 := by kernel_rfl
@[go_sem] theorem ty_by356 : tbytes Try.prog 356 = some 32 := by kernel_rfl
@[go_sem] theorem ty_by382 : tbytes Try.prog 382 = some 64 := by kernel_rfl
@[go_sem] theorem ty_by392 : tbytes Try.prog 392 = some 16 := by kernel_rfl
@[go_sem] theorem ty_by4 : tbytes Try.prog 4 = some 1 := by kernel_rfl
@[go_sem] theorem ty_by40 : tbytes Try.prog 40 = some 136 := by kernel_rfl
@[go_sem] theorem ty_by404 : tbytes Try.prog 404 = some 8 := by kernel_rfl
@[go_sem] theorem ty_by5 : tbytes Try.prog 5 = some 1 := by kernel_rfl
@[go_sem] theorem ty_by58 : tbytes Try.prog 58 = some 24 := by kernel_rfl
@[go_sem] theorem ty_by59 : tbytes Try.prog 59 = some 24 := by kernel_rfl
@[go_sem] theorem ty_by9 : tbytes Try.prog 9 = some 16 := by kernel_rfl
@[go_sem] theorem ty_by98 : tbytes Try.prog 98 = some 24 := by kernel_rfl
@[go_sem] theorem ty_fi102_0 : tfield Try.prog 102 0 = some (0, 9, 1) := by kernel_rfl
@[go_sem] theorem ty_fi102_1 : tfield Try.prog 102 1 = some (1, 9, 1) := by kernel_rfl
@[go_sem] theorem ty_fi102_2 : tfield Try.prog 102 2 = some (2, 3, 1) := by kernel_rfl
@[go_sem] theorem ty_fi110_0 : tfield Try.prog 110 0 = some (0, 3, 1) := by kernel_rfl
@[go_sem] theorem ty_fi110_1 : tfield Try.prog 110 1 = some (1, 3, 1) := by kernel_rfl
@[go_sem] theorem ty_fi110_2 : tfield Try.prog 110 2 = some (2, 9, 1) := by kernel_rfl
@[go_sem] theorem ty_fi110_3 : tfield Try.prog 110 3 = some (3, 108, 1) := by kernel_rfl
@[go_sem] theorem ty_fi114_0 : tfield Try.prog 114 0 = some (0, 3, 1) := by kernel_rfl
@[go_sem] theorem ty_fi114_1 : tfield Try.prog 114 1 = some (1, 3, 1) := by kernel_rfl
@[go_sem] theorem ty_fi114_2 : tfield Try.prog 114 2 = some (2, 9, 1) := by kernel_rfl
@[go_sem] theorem ty_fi114_3 : tfield Try.prog 114 3 = some (3, 107, 1) := by kernel_rfl
@[go_sem] theorem ty_fi126_0 : tfield Try.prog 126 0 = some (0, 59, 1) := by kernel_rfl
@[go_sem] theorem ty_fi126_1 : tfield Try.prog 126 1 = some (1, 114, 4) := by kernel_rfl
@[go_sem] theorem ty_fi129_0 : tfield Try.prog 129 0 = some (0, 4, 1) := by kernel_rfl
@[go_sem] theorem ty_fi129_1 : tfield Try.prog 129 1 = some (1, 3, 1) := by kernel_rfl
@[go_sem] theorem ty_fi129_2 : tfield Try.prog 129 2 = some (2, 126, 5) := by kernel_rfl
@[go_sem] theorem ty_fi129_3 : tfield Try.prog 129 3 = some (7, 127, 1) := by kernel_rfl
@[go_sem] theorem ty_fi129_4 : tfield Try.prog 129 4 = some (8, 127, 1) := by kernel_rfl
@[go_sem] theorem ty_fi135_0 : tfield Try.prog 135 0 = some (0, 133, 1) := by kernel_rfl
@[go_sem] theorem ty_fi135_1 : tfield Try.prog 135 1 = some (1, 59, 1) := by kernel_rfl
@[go_sem] theorem ty_fi135_2 : tfield Try.prog 135 2 = some (2, 3, 1) := by kernel_rfl
@[go_sem] theorem ty_fi135_3 : tfield Try.prog 135 3 = some (3, 3, 1) := by kernel_rfl
@[go_sem] theorem ty_fi139_0 : tfield Try.prog 139 0 = some (0, 3, 1) := by kernel_rfl
@[go_sem] theorem ty_fi139_1 : tfield Try.prog 139 1 = some (1, 3, 1) := by kernel_rfl
@[go_sem] theorem ty_fi139_2 : tfield Try.prog 139 2 = some (2, 3, 1) := by kernel_rfl
@[go_sem] theorem ty_fi139_3 : tfield Try.prog 139 3 = some (3, 3, 1) := by kernel_rfl
@[go_sem] theorem ty_fi139_4 : tfield Try.prog 139 4 = some (4, 3, 1) := by kernel_rfl
@[go_sem] theorem ty_fi142_1 : tfield Try.prog 142 1 = some (1, 3, 1) := by kernel_rfl
@[go_sem] theorem ty_fi149_0 : tfield Try.prog 149 0 = some (0, 4, 1) := by kernel_rfl
@[go_sem] theorem ty_fi149_1 : tfield Try.prog 149 1 = some (1, 59, 1) := by kernel_rfl
@[go_sem] theorem ty_fi149_2 : tfield Try.prog 149 2 = some (2, 147, 1) := by kernel_rfl
@[go_sem] theorem ty_fi149_3 : tfield Try.prog 149 3 = some (3, 59, 1) := by kernel_rfl
@[go_sem] theorem ty_fi149_4 : tfield Try.prog 149 4 = some (4, 3, 1) := by kernel_rfl
@[go_sem] theorem ty_fi153_0 : tfield Try.prog 153 0 = some (0, 3, 1) := by kernel_rfl
@[go_sem] theorem ty_fi153_1 : tfield Try.prog 153 1 = some (1, 3, 1) := by kernel_rfl
@[go_sem] theorem ty_fi153_2 : tfield Try.prog 153 2 = some (2, 3, 1) := by kernel_rfl
@[go_sem] theorem ty_fi153_3 : tfield Try.prog 153 3 = some (3, 3, 1) := by kernel_rfl
@[go_sem] theorem ty_fi161_0 : tfield Try.prog 161 0 = some (0, 159, 1) := by kernel_rfl
@[go_sem] theorem ty_fi170_0 : tfield Try.prog 170 0 = some (0, 3, 1) := by kernel_rfl
@[go_sem] theorem ty_fi170_1 : tfield Try.prog 170 1 = some (1, 3, 1) := by kernel_rfl
@[go_sem] theorem ty_fi170_2 : tfield Try.prog 170 2 = some (2, 9, 1) := by kernel_rfl
@[go_sem] theorem ty_fi180_0 : tfield Try.prog 180 0 = some (0, 9, 1) := by kernel_rfl
@[go_sem] theorem ty_fi180_1 : tfield Try.prog 180 1 = some (1, 3, 1) := by kernel_rfl
@[go_sem] theorem ty_fi180_2 : tfield Try.prog 180 2 = some (2, 3, 1) := by kernel_rfl
@[go_sem] theorem ty_fi180_3 : tfield Try.prog 180 3 = some (3, 3, 1) := by kernel_rfl
@[go_sem] theorem ty_fi180_4 : tfield Try.prog 180 4 = some (4, 178, 1) := by kernel_rfl
@[go_sem] theorem ty_fi183_0 : tfield Try.prog 183 0 = some (0, 3, 1) := by kernel_rfl
@[go_sem] theorem ty_fi183_1 : tfield Try.prog 183 1 = some (1, 3, 1) := by kernel_rfl
@[go_sem] theorem ty_fi183_2 : tfield Try.prog 183 2 = some (2, 3, 1) := by kernel_rfl
@[go_sem] theorem ty_fi183_3 : tfield Try.prog 183 3 = some (3, 3, 1) := by kernel_rfl
@[go_sem] theorem ty_fi183_4 : tfield Try.prog 183 4 = some (4, 59, 1) := by kernel_rfl
@[go_sem] theorem ty_fi189_0 : tfield Try.prog 189 0 = some (0, 29, 8) := by kernel_rfl
@[go_sem] theorem ty_fi189_1 : tfield Try.prog 189 1 = some (8, 29, 8) := by kernel_rfl
@[go_sem] theorem ty_fi189_2 : tfield Try.prog 189 2 = some (16, 186, 1) := by kernel_rfl
@[go_sem] theorem ty_fi194_0 : tfield Try.prog 194 0 = some (0, 9, 1) := by kernel_rfl
@[go_sem] theorem ty_fi194_1 : tfield Try.prog 194 1 = some (1, 36, 1) := by kernel_rfl
@[go_sem] theorem ty_fi194_2 : tfield Try.prog 194 2 = some (2, 192, 1) := by kernel_rfl
@[go_sem] theorem ty_fi196_0 : tfield Try.prog 196 0 = some (0, 9, 1) := by kernel_rfl
@[go_sem] theorem ty_fi196_1 : tfield Try.prog 196 1 = some (1, 30, 1) := by kernel_rfl
@[go_sem] theorem ty_fi198_1 : tfield Try.prog 198 1 = some (1, 26, 1) := by kernel_rfl
@[go_sem] theorem ty_fi200_2 : tfield Try.prog 200 2 = some (2, 26, 1) := by kernel_rfl
@[go_sem] theorem ty_fi210_0 : tfield Try.prog 210 0 = some (0, 208, 1) := by kernel_rfl
@[go_sem] theorem ty_fi210_1 : tfield Try.prog 210 1 = some (1, 207, 1) := by kernel_rfl
@[go_sem] theorem ty_fi213_0 : tfield Try.prog 213 0 = some (0, 58, 1) := by kernel_rfl
@[go_sem] theorem ty_fi213_1 : tfield Try.prog 213 1 = some (1, 3, 1) := by kernel_rfl
@[go_sem] theorem ty_fi226_0 : tfield Try.prog 226 0 = some (0, 84, 7) := by kernel_rfl
@[go_sem] theorem ty_fi226_1 : tfield Try.prog 226 1 = some (7, 89, 1) := by kernel_rfl
@[go_sem] theorem ty_fi226_2 : tfield Try.prog 226 2 = some (8, 3, 1) := by kernel_rfl
@[go_sem] theorem ty_fi226_3 : tfield Try.prog 226 3 = some (9, 3, 1) := by kernel_rfl
@[go_sem] theorem ty_fi238_0 : tfield Try.prog 238 0 = some (0, 3, 1) := by kernel_rfl
@[go_sem] theorem ty_fi238_1 : tfield Try.prog 238 1 = some (1, 235, 1) := by kernel_rfl
@[go_sem] theorem ty_fi244_0 : tfield Try.prog 244 0 = some (0, 241, 1) := by kernel_rfl
@[go_sem] theorem ty_fi244_1 : tfield Try.prog 244 1 = some (1, 242, 1) := by kernel_rfl
@[go_sem] theorem ty_fi249_0 : tfield Try.prog 249 0 = some (0, 245, 1) := by kernel_rfl
@[go_sem] theorem ty_fi249_1 : tfield Try.prog 249 1 = some (1, 246, 1) := by kernel_rfl
@[go_sem] theorem ty_fi249_2 : tfield Try.prog 249 2 = some (2, 59, 1) := by kernel_rfl
@[go_sem] theorem ty_fi249_3 : tfield Try.prog 249 3 = some (3, 247, 1) := by kernel_rfl
@[go_sem] theorem ty_fi251_0 : tfield Try.prog 251 0 = some (0, 3, 1) := by kernel_rfl
@[go_sem] theorem ty_fi251_1 : tfield Try.prog 251 1 = some (1, 3, 1) := by kernel_rfl
@[go_sem] theorem ty_fi255_0 : tfield Try.prog 255 0 = some (0, 140, 1) := by kernel_rfl
@[go_sem] theorem ty_fi255_1 : tfield Try.prog 255 1 = some (1, 59, 1) := by kernel_rfl
@[go_sem] theorem ty_fi255_2 : tfield Try.prog 255 2 = some (2, 253, 1) := by kernel_rfl
@[go_sem] theorem ty_fi265_0 : tfield Try.prog 265 0 = some (0, 3, 1) := by kernel_rfl
@[go_sem] theorem ty_fi265_1 : tfield Try.prog 265 1 = some (1, 3, 1) := by kernel_rfl
@[go_sem] theorem ty_fi267_0 : tfield Try.prog 267 0 = some (0, 3, 1) := by kernel_rfl
@[go_sem] theorem ty_fi267_1 : tfield Try.prog 267 1 = some (1, 3, 1) := by kernel_rfl
@[go_sem] theorem ty_fi267_2 : tfield Try.prog 267 2 = some (2, 3, 1) := by kernel_rfl
@[go_sem] theorem ty_fi267_3 : tfield Try.prog 267 3 = some (3, 3, 1) := by kernel_rfl
@[go_sem] theorem ty_fi267_4 : tfield Try.prog 267 4 = some (4, 3, 1) := by kernel_rfl
@[go_sem] theorem ty_fi267_5 : tfield Try.prog 267 5 = some (5, 3, 1) := by kernel_rfl
@[go_sem] theorem ty_fi267_6 : tfield Try.prog 267 6 = some (6, 3, 1) := by kernel_rfl
@[go_sem] theorem ty_fi278_0 : tfield Try.prog 278 0 = some (0, 59, 1) := by kernel_rfl
@[go_sem] theorem ty_fi278_1 : tfield Try.prog 278 1 = some (1, 275, 1) := by kernel_rfl
@[go_sem] theorem ty_fi278_2 : tfield Try.prog 278 2 = some (2, 276, 1) := by kernel_rfl
@[go_sem] theorem ty_fi287_0 : tfield Try.prog 287 0 = some (0, 59, 1) := by kernel_rfl
@[go_sem] theorem ty_fi287_1 : tfield Try.prog 287 1 = some (1, 3, 1) := by kernel_rfl
@[go_sem] theorem ty_fi287_2 : tfield Try.prog 287 2 = some (2, 3, 1) := by kernel_rfl
@[go_sem] theorem ty_fi287_3 : tfield Try.prog 287 3 = some (3, 4, 1) := by kernel_rfl
@[go_sem] theorem ty_fi287_4 : tfield Try.prog 287 4 = some (4, 3, 1) := by kernel_rfl
@[go_sem] theorem ty_fi29_3 : tfield Try.prog 29 3 = some (3, 23, 1) := by kernel_rfl
@[go_sem] theorem ty_fi29_4 : tfield Try.prog 29 4 = some (4, 24, 1) := by kernel_rfl
@[go_sem] theorem ty_fi29_5 : tfield Try.prog 29 5 = some (5, 25, 1) := by kernel_rfl
@[go_sem] theorem ty_fi29_6 : tfield Try.prog 29 6 = some (6, 26, 1) := by kernel_rfl
@[go_sem] theorem ty_fi29_7 : tfield Try.prog 29 7 = some (7, 27, 1) := by kernel_rfl
@[go_sem] theorem ty_fi291_0 : tfield Try.prog 291 0 = some (0, 9, 1) := by kernel_rfl
@[go_sem] theorem ty_fi291_1 : tfield Try.prog 291 1 = some (1, 3, 1) := by kernel_rfl
@[go_sem] theorem ty_fi291_2 : tfield Try.prog 291 2 = some (2, 289, 1) := by kernel_rfl
@[go_sem] theorem ty_fi291_3 : tfield Try.prog 291 3 = some (3, 59, 1) := by kernel_rfl
@[go_sem] theorem ty_fi297_0 : tfield Try.prog 297 0 = some (0, 3, 1) := by kernel_rfl
@[go_sem] theorem ty_fi297_1 : tfield Try.prog 297 1 = some (1, 110, 4) := by kernel_rfl
@[go_sem] theorem ty_fi306_0 : tfield Try.prog 306 0 = some (0, 304, 1) := by kernel_rfl
@[go_sem] theorem ty_fi306_1 : tfield Try.prog 306 1 = some (1, 58, 1) := by kernel_rfl
@[go_sem] theorem ty_fi308_0 : tfield Try.prog 308 0 = some (0, 3, 1) := by kernel_rfl
@[go_sem] theorem ty_fi308_1 : tfield Try.prog 308 1 = some (1, 4, 1) := by kernel_rfl
@[go_sem] theorem ty_fi32_0 : tfield Try.prog 32 0 = some (0, 3, 1) := by kernel_rfl
@[go_sem] theorem ty_fi32_1 : tfield Try.prog 32 1 = some (1, 9, 1) := by kernel_rfl
@[go_sem] theorem ty_fi32_2 : tfield Try.prog 32 2 = some (2, 30, 1) := by kernel_rfl
@[go_sem] theorem ty_fi326_0 : tfield Try.prog 326 0 = some (0, 58, 1) := by kernel_rfl
@[go_sem] theorem ty_fi331_0 : tfield Try.prog 331 0 = some (0, 9, 1) := by kernel_rfl
@[go_sem] theorem ty_fi331_1 : tfield Try.prog 331 1 = some (1, 3, 1) := by kernel_rfl
@[go_sem] theorem ty_fi331_2 : tfield Try.prog 331 2 = some (2, 3, 1) := by kernel_rfl
@[go_sem] theorem ty_fi331_3 : tfield Try.prog 331 3 = some (3, 4, 1) := by kernel_rfl
@[go_sem] theorem ty_fi333_0 : tfield Try.prog 333 0 = some (0, 9, 1) := by kernel_rfl
@[go_sem] theorem ty_fi333_1 : tfield Try.prog 333 1 = some (1, 9, 1) := by kernel_rfl
@[go_sem] theorem ty_fi333_2 : tfield Try.prog 333 2 = some (2, 3, 1) := by kernel_rfl
@[go_sem] theorem ty_fi344_0 : tfield Try.prog 344 0 = some (0, 58, 1) := by kernel_rfl
@[go_sem] theorem ty_fi344_1 : tfield Try.prog 344 1 = some (1, 4, 1) := by kernel_rfl
@[go_sem] theorem ty_fi356_0 : tfield Try.prog 356 0 = some (0, 3, 1) := by kernel_rfl
@[go_sem] theorem ty_fi356_1 : tfield Try.prog 356 1 = some (1, 59, 1) := by kernel_rfl
@[go_sem] theorem ty_fi365_3 : tfield Try.prog 365 3 = some (3, 30, 1) := by kernel_rfl
@[go_sem] theorem ty_fi365_4 : tfield Try.prog 365 4 = some (4, 32, 3) := by kernel_rfl
@[go_sem] theorem ty_fi365_5 : tfield Try.prog 365 5 = some (7, 40, 8) := by kernel_rfl
@[go_sem] theorem ty_fi367_0 : tfield Try.prog 367 0 = some (0, 114, 4) := by kernel_rfl
@[go_sem] theorem ty_fi367_1 : tfield Try.prog 367 1 = some (4, 40, 8) := by kernel_rfl
@[go_sem] theorem ty_fi382_0 : tfield Try.prog 382 0 = some (0, 3, 1) := by kernel_rfl
@[go_sem] theorem ty_fi382_1 : tfield Try.prog 382 1 = some (1, 3, 1) := by kernel_rfl
@[go_sem] theorem ty_fi382_2 : tfield Try.prog 382 2 = some (2, 3, 1) := by kernel_rfl
@[go_sem] theorem ty_fi382_3 : tfield Try.prog 382 3 = some (3, 3, 1) := by kernel_rfl
@[go_sem] theorem ty_fi382_4 : tfield Try.prog 382 4 = some (4, 3, 1) := by kernel_rfl
@[go_sem] theorem ty_fi382_5 : tfield Try.prog 382 5 = some (5, 3, 1) := by kernel_rfl
@[go_sem] theorem ty_fi382_6 : tfield Try.prog 382 6 = some (6, 3, 1) := by kernel_rfl
@[go_sem] theorem ty_fi382_7 : tfield Try.prog 382 7 = some (7, 252, 1) := by kernel_rfl
@[go_sem] theorem ty_fi389_0 : tfield Try.prog 389 0 = some (0, 59, 1) := by kernel_rfl
@[go_sem] theorem ty_fi389_1 : tfield Try.prog 389 1 = some (1, 4, 1) := by kernel_rfl
@[go_sem] theorem ty_fi389_2 : tfield Try.prog 389 2 = some (2, 3, 1) := by kernel_rfl
@[go_sem] theorem ty_fi389_3 : tfield Try.prog 389 3 = some (3, 155, 1) := by kernel_rfl
@[go_sem] theorem ty_fi389_4 : tfield Try.prog 389 4 = some (4, 288, 1) := by kernel_rfl
@[go_sem] theorem ty_fi392_0 : tfield Try.prog 392 0 = some (0, 3, 1) := by kernel_rfl
@[go_sem] theorem ty_fi392_1 : tfield Try.prog 392 1 = some (1, 4, 1) := by kernel_rfl
@[go_sem] theorem ty_fi40_0 : tfield Try.prog 40 0 = some (0, 3, 1) := by kernel_rfl
@[go_sem] theorem ty_fi40_4 : tfield Try.prog 40 4 = some (4, 30, 1) := by kernel_rfl
@[go_sem] theorem ty_fi40_5 : tfield Try.prog 40 5 = some (5, 37, 1) := by kernel_rfl
@[go_sem] theorem ty_fi40_6 : tfield Try.prog 40 6 = some (6, 38, 1) := by kernel_rfl
@[go_sem] theorem ty_fi406_0 : tfield Try.prog 406 0 = some (0, 170, 3) := by kernel_rfl
@[go_sem] theorem ty_fi406_1 : tfield Try.prog 406 1 = some (3, 319, 1) := by kernel_rfl
@[go_sem] theorem ty_fi406_2 : tfield Try.prog 406 2 = some (4, 3, 1) := by kernel_rfl
@[go_sem] theorem ty_fi411_0 : tfield Try.prog 411 0 = some (0, 9, 1) := by kernel_rfl
@[go_sem] theorem ty_fi411_1 : tfield Try.prog 411 1 = some (1, 4, 1) := by kernel_rfl
@[go_sem] theorem ty_fi411_2 : tfield Try.prog 411 2 = some (2, 4, 1) := by kernel_rfl
@[go_sem] theorem ty_fi42_0 : tfield Try.prog 42 0 = some (0, 9, 1) := by kernel_rfl
@[go_sem] theorem ty_fi42_1 : tfield Try.prog 42 1 = some (1, 36, 1) := by kernel_rfl
@[go_sem] theorem ty_fi42_2 : tfield Try.prog 42 2 = some (2, 30, 1) := by kernel_rfl
@[go_sem] theorem ty_fi42_3 : tfield Try.prog 42 3 = some (3, 32, 3) := by kernel_rfl
@[go_sem] theorem ty_fi42_4 : tfield Try.prog 42 4 = some (6, 40, 8) := by kernel_rfl
@[go_sem] theorem ty_fi436_0 : tfield Try.prog 436 0 = some (0, 36, 1) := by kernel_rfl
@[go_sem] theorem ty_fi436_1 : tfield Try.prog 436 1 = some (1, 30, 1) := by kernel_rfl
@[go_sem] theorem ty_fi436_2 : tfield Try.prog 436 2 = some (2, 432, 1) := by kernel_rfl
@[go_sem] theorem ty_fi61_0 : tfield Try.prog 61 0 = some (0, 3, 1) := by kernel_rfl
@[go_sem] theorem ty_fi61_1 : tfield Try.prog 61 1 = some (1, 3, 1) := by kernel_rfl
@[go_sem] theorem ty_fi61_2 : tfield Try.prog 61 2 = some (2, 58, 1) := by kernel_rfl
@[go_sem] theorem ty_fi61_3 : tfield Try.prog 61 3 = some (3, 59, 1) := by kernel_rfl
@[go_sem] theorem ty_fi74_0 : tfield Try.prog 74 0 = some (0, 9, 1) := by kernel_rfl
@[go_sem] theorem ty_fi74_1 : tfield Try.prog 74 1 = some (1, 3, 1) := by kernel_rfl
@[go_sem] theorem ty_fi84_0 : tfield Try.prog 84 0 = some (0, 36, 1) := by kernel_rfl
@[go_sem] theorem ty_fi84_1 : tfield Try.prog 84 1 = some (1, 59, 1) := by kernel_rfl
@[go_sem] theorem ty_fi84_2 : tfield Try.prog 84 2 = some (2, 78, 1) := by kernel_rfl
@[go_sem] theorem ty_fi84_3 : tfield Try.prog 84 3 = some (3, 79, 1) := by kernel_rfl
@[go_sem] theorem ty_fi84_4 : tfield Try.prog 84 4 = some (4, 80, 1) := by kernel_rfl
@[go_sem] theorem ty_fi84_5 : tfield Try.prog 84 5 = some (5, 81, 1) := by kernel_rfl
@[go_sem] theorem ty_fi84_6 : tfield Try.prog 84 6 = some (6, 82, 1) := by kernel_rfl
@[go_sem] theorem ty_fi91_0 : tfield Try.prog 91 0 = some (0, 3, 1) := by kernel_rfl
@[go_sem] theorem ty_fi91_1 : tfield Try.prog 91 1 = some (1, 3, 1) := by kernel_rfl
@[go_sem] theorem ty_fi91_3 : tfield Try.prog 91 3 = some (3, 3, 1) := by kernel_rfl
@[go_sem] theorem ty_fi91_4 : tfield Try.prog 91 4 = some (4, 4, 1) := by kernel_rfl
@[go_sem] theorem ty_fi98_0 : tfield Try.prog 98 0 = some (0, 9, 1) := by kernel_rfl
@[go_sem] theorem ty_fi98_1 : tfield Try.prog 98 1 = some (1, 3, 1) := by kernel_rfl
@[go_sem] theorem ty_fs142 : flatS Try.prog 142 = some [(0, 3), (1, 3)] := by kernel_rfl
@[go_sem] theorem ty_fs98 : flatS Try.prog 98 = some [(0, 9), (1, 3)] := by kernel_rfl
@[go_sem] theorem ty_in3 : intKindOf Try.prog 3 = some .i64 := by kernel_rfl
@[go_sem] theorem ty_in409 : intKindOf Try.prog 409 = some .u64 := by kernel_rfl
@[go_sem] theorem ty_in439 : intKindOf Try.prog 439 = some .u32 := by kernel_rfl
@[go_sem] theorem ty_in466 : intKindOf Try.prog 466 = some .u64 := by kernel_rfl
@[go_sem] theorem ty_in5 : intKindOf Try.prog 5 = some .u8 := by kernel_rfl
@[go_sem] theorem ty_in93 : intKindOf Try.prog 93 = some .u64 := by kernel_rfl
@[go_sem] theorem ty_ka92 : keyArr Try.prog 92 = some (.i64, 2) := by kernel_rfl
@[go_sem] theorem ty_ki107 : kindIs Try.prog 107 isSliceT = true := by kernel_rfl
@[go_sem] theorem ty_ki108 : kindIs Try.prog 108 isSliceT = true := by kernel_rfl
@[go_sem] theorem ty_ki127 : kindIs Try.prog 127 isSliceT = true := by kernel_rfl
@[go_sem] theorem ty_ki132 : kindIs Try.prog 132 isSliceT = true := by kernel_rfl
@[go_sem] theorem ty_ki133 : kindIs Try.prog 133 isSliceT = true := by kernel_rfl
@[go_sem] theorem ty_ki140 : kindIs Try.prog 140 isSliceT = true := by kernel_rfl
@[go_sem] theorem ty_ki146 : kindIs Try.prog 146 isSliceT = true := by kernel_rfl
@[go_sem] theorem ty_ki147 : kindIs Try.prog 147 isSliceT = true := by kernel_rfl
@[go_sem] theorem ty_ki155 : kindIs Try.prog 155 isSliceT = true := by kernel_rfl
@[go_sem] theorem ty_ki159 : kindIs Try.prog 159 isSliceT = true := by kernel_rfl
@[go_sem] theorem ty_ki166 : kindIs Try.prog 166 isSliceT = true := by kernel_rfl
@[go_sem] theorem ty_ki178 : kindIs Try.prog 178 isSliceT = true := by kernel_rfl
@[go_sem] theorem ty_ki186 : kindIs Try.prog 186 isMapT = true := by kernel_rfl
@[go_sem] theorem ty_ki192 : kindIs Try.prog 192 isSliceT = true := by kernel_rfl
@[go_sem] theorem ty_ki207 : kindIs Try.prog 207 isMapT = true := by kernel_rfl
@[go_sem] theorem ty_ki208 : kindIs Try.prog 208 isSliceT = true := by kernel_rfl
@[go_sem] theorem ty_ki216 : kindIs Try.prog 216 isPtrT = true := by kernel_rfl
@[go_sem] theorem ty_ki218 : kindIs Try.prog 218 isSliceT = true := by kernel_rfl
@[go_sem] theorem ty_ki224 : kindIs Try.prog 224 isMapT = true := by kernel_rfl
@[go_sem] theorem ty_ki23 : kindIs Try.prog 23 isSliceT = true := by kernel_rfl
@[go_sem] theorem ty_ki234 : kindIs Try.prog 234 isSliceT = true := by kernel_rfl
@[go_sem] theorem ty_ki235 : kindIs Try.prog 235 isSliceT = true := by kernel_rfl
@[go_sem] theorem ty_ki24 : kindIs Try.prog 24 isSliceT = true := by kernel_rfl
@[go_sem] theorem ty_ki241 : kindIs Try.prog 241 isSliceT = true := by kernel_rfl
@[go_sem] theorem ty_ki242 : kindIs Try.prog 242 isMapT = true := by kernel_rfl
@[go_sem] theorem ty_ki245 : kindIs Try.prog 245 isSliceT = true := by kernel_rfl
@[go_sem] theorem ty_ki246 : kindIs Try.prog 246 isSliceT = true := by kernel_rfl
@[go_sem] theorem ty_ki247 : kindIs Try.prog 247 isSliceT = true := by kernel_rfl
@[go_sem] theorem ty_ki25 : kindIs Try.prog 25 isSliceT = true := by kernel_rfl
@[go_sem] theorem ty_ki252 : kindIs Try.prog 252 isPtrT = true := by kernel_rfl
@[go_sem] theorem ty_ki253 : kindIs Try.prog 253 isMapT = true := by kernel_rfl
@[go_sem] theorem ty_ki259 : kindIs Try.prog 259 isSliceT = true := by kernel_rfl
@[go_sem] theorem ty_ki26 : kindIs Try.prog 26 isSliceT = true := by kernel_rfl
@[go_sem] theorem ty_ki260 : kindIs Try.prog 260 isSliceT = true := by kernel_rfl
@[go_sem] theorem ty_ki261 : kindIs Try.prog 261 isSliceT = true := by kernel_rfl
@[go_sem] theorem ty_ki262 : kindIs Try.prog 262 isMapT = true := by kernel_rfl
@[go_sem] theorem ty_ki263 : kindIs Try.prog 263 isSliceT = true := by kernel_rfl
@[go_sem] theorem ty_ki268 : kindIs Try.prog 268 isSliceT = true := by kernel_rfl
@[go_sem] theorem ty_ki27 : kindIs Try.prog 27 isSliceT = true := by kernel_rfl
@[go_sem] theorem ty_ki275 : kindIs Try.prog 275 isMapT = true := by kernel_rfl
@[go_sem] theorem ty_ki276 : kindIs Try.prog 276 isSliceT = true := by kernel_rfl
@[go_sem] theorem ty_ki284 : kindIs Try.prog 284 isMapT = true := by kernel_rfl
@[go_sem] theorem ty_ki288 : kindIs Try.prog 288 isSliceT = true := by kernel_rfl
@[go_sem] theorem ty_ki289 : kindIs Try.prog 289 isSliceT = true := by kernel_rfl
@[go_sem] theorem ty_ki295 : kindIs Try.prog 295 isMapT = true := by kernel_rfl
@[go_sem] theorem ty_ki30 : kindIs Try.prog 30 isSliceT = true := by kernel_rfl
@[go_sem] theorem ty_ki304 : kindIs Try.prog 304 isPtrT = true := by kernel_rfl
@[go_sem] theorem ty_ki309 : kindIs Try.prog 309 isSliceT = true := by kernel_rfl
@[go_sem] theorem ty_ki319 : kindIs Try.prog 319 isSliceT = true := by kernel_rfl
@[go_sem] theorem ty_ki348 : kindIs Try.prog 348 isSliceT = true := by kernel_rfl
@[go_sem] theorem ty_ki353 : kindIs Try.prog 353 isSliceT = true := by kernel_rfl
@[go_sem] theorem ty_ki36 : kindIs Try.prog 36 isSliceT = true := by kernel_rfl
@[go_sem] theorem ty_ki37 : kindIs Try.prog 37 isSliceT = true := by kernel_rfl
@[go_sem] theorem ty_ki38 : kindIs Try.prog 38 isSliceT = true := by kernel_rfl
@[go_sem] theorem ty_ki390 : kindIs Try.prog 390 isSliceT = true := by kernel_rfl
@[go_sem] theorem ty_ki4 : kindIs Try.prog 4 isBoolT = true := by kernel_rfl
@[go_sem] theorem ty_ki432 : kindIs Try.prog 432 isPtrT = true := by kernel_rfl
@[go_sem] theorem ty_ki50 : kindIs Try.prog 50 isSliceT = true := by kernel_rfl
@[go_sem] theorem ty_ki54 : kindIs Try.prog 54 isMapT = true := by kernel_rfl
@[go_sem] theorem ty_ki58 : kindIs Try.prog 58 isSliceT = true := by kernel_rfl
@[go_sem] theorem ty_ki59 : kindIs Try.prog 59 isSliceT = true := by kernel_rfl
@[go_sem] theorem ty_ki72 : kindIs Try.prog 72 isPtrT = true := by kernel_rfl
@[go_sem] theorem ty_ki78 : kindIs Try.prog 78 isSliceT = true := by kernel_rfl
@[go_sem] theorem ty_ki79 : kindIs Try.prog 79 isSliceT = true := by kernel_rfl
@[go_sem] theorem ty_ki80 : kindIs Try.prog 80 isSliceT = true := by kernel_rfl
@[go_sem] theorem ty_ki81 : kindIs Try.prog 81 isSliceT = true := by kernel_rfl
@[go_sem] theorem ty_ki82 : kindIs Try.prog 82 isSliceT = true := by kernel_rfl
@[go_sem] theorem ty_ki85 : kindIs Try.prog 85 isSliceT = true := by kernel_rfl
@[go_sem] theorem ty_ki89 : kindIs Try.prog 89 isMapT = true := by kernel_rfl
@[go_sem] theorem ty_ki96 : kindIs Try.prog 96 isSliceT = true := by kernel_rfl
@[go_sem] theorem ty_kn3 : kindN Try.prog 3 = some 1 := by kernel_rfl
@[go_sem] theorem ty_kn9 : kindN Try.prog 9 = some 2 := by kernel_rfl
@[go_sem] theorem ty_mp186 : tmap Try.prog 186 = some (9, (.bool false)) := by kernel_rfl
@[go_sem] theorem ty_mp207 : tmap Try.prog 207 = some (9, (.int .i64 0)) := by kernel_rfl
@[go_sem] theorem ty_mp224 : tmap Try.prog 224 = some (3, (.int .i64 0)) := by kernel_rfl
@[go_sem] theorem ty_mp242 : tmap Try.prog 242 = some (92, (.sl [] true .full)) := by kernel_rfl
@[go_sem] theorem ty_mp253 : tmap Try.prog 253 = some (92, (.int .i64 0)) := by kernel_rfl
@[go_sem] theorem ty_mp262 : tmap Try.prog 262 = some (92, (.sl [] true .full)) := by kernel_rfl
@[go_sem] theorem ty_mp275 : tmap Try.prog 275 = some (92, (.sl [] true .full)) := by kernel_rfl
@[go_sem] theorem ty_mp284 : tmap Try.prog 284 = some (92, .nilp) := by kernel_rfl
@[go_sem] theorem ty_mp295 : tmap Try.prog 295 = some (3, (.bool false)) := by kernel_rfl
@[go_sem] theorem ty_mp54 : tmap Try.prog 54 = some (3, .nilp) := by kernel_rfl
@[go_sem] theorem ty_mp89 : tmap Try.prog 89 = some (92, (.sl [] true .full)) := by kernel_rfl
@[go_sem] theorem ty_ni9 : kindIs Try.prog 9 (fun d => !isIfaceT d) = true := by kernel_rfl
@[go_sem] theorem ty_pl102 : tplaces Try.prog 102 = some [(0, 1), (1, 1), (2, 1)] := by kernel_rfl
@[go_sem] theorem ty_pl110 : tplaces Try.prog 110 = some [(0, 1), (1, 1), (2, 1), (3, 1)] := by kernel_rfl
@[go_sem] theorem ty_pl114 : tplaces Try.prog 114 = some [(0, 1), (1, 1), (2, 1), (3, 1)] := by kernel_rfl
@[go_sem] theorem ty_pl126 : tplaces Try.prog 126 = some [(0, 1), (1, 4)] := by kernel_rfl
@[go_sem] theorem ty_pl129 : tplaces Try.prog 129 = some [(0, 1), (1, 1), (2, 5), (7, 1), (8, 1)] := by kernel_rfl
@[go_sem] theorem ty_pl135 : tplaces Try.prog 135 = some [(0, 1), (1, 1), (2, 1), (3, 1)] := by kernel_rfl
@[go_sem] theorem ty_pl139 : tplaces Try.prog 139 = some [(0, 1), (1, 1), (2, 1), (3, 1), (4, 1)] := by kernel_rfl
@[go_sem] theorem ty_pl142 : tplaces Try.prog 142 = some [(0, 1), (1, 1)] := by kernel_rfl
@[go_sem] theorem ty_pl149 : tplaces Try.prog 149 = some [(0, 1), (1, 1), (2, 1), (3, 1), (4, 1)] := by kernel_rfl
@[go_sem] theorem ty_pl153 : tplaces Try.prog 153 = some [(0, 1), (1, 1), (2, 1), (3, 1)] := by kernel_rfl
@[go_sem] theorem ty_pl161 : tplaces Try.prog 161 = some [(0, 1)] := by kernel_rfl
@[go_sem] theorem ty_pl170 : tplaces Try.prog 170 = some [(0, 1), (1, 1), (2, 1)] := by kernel_rfl
@[go_sem] theorem ty_pl180 : tplaces Try.prog 180 = some [(0, 1), (1, 1), (2, 1), (3, 1), (4, 1)] := by kernel_rfl
@[go_sem] theorem ty_pl183 : tplaces Try.prog 183 = some [(0, 1), (1, 1), (2, 1), (3, 1), (4, 1)] := by kernel_rfl
@[go_sem] theorem ty_pl189 : tplaces Try.prog 189 = some [(0, 8), (8, 8), (16, 1)] := by kernel_rfl
@[go_sem] theorem ty_pl194 : tplaces Try.prog 194 = some [(0, 1), (1, 1), (2, 1)] := by kernel_rfl
@[go_sem] theorem ty_pl210 : tplaces Try.prog 210 = some [(0, 1), (1, 1)] := by kernel_rfl
@[go_sem] theorem ty_pl213 : tplaces Try.prog 213 = some [(0, 1), (1, 1)] := by kernel_rfl
@[go_sem] theorem ty_pl226 : tplaces Try.prog 226 = some [(0, 7), (7, 1), (8, 1), (9, 1)] := by kernel_rfl
@[go_sem] theorem ty_pl238 : tplaces Try.prog 238 = some [(0, 1), (1, 1)] := by kernel_rfl
@[go_sem] theorem ty_pl244 : tplaces Try.prog 244 = some [(0, 1), (1, 1)] := by kernel_rfl
@[go_sem] theorem ty_pl249 : tplaces Try.prog 249 = some [(0, 1), (1, 1), (2, 1), (3, 1)] := by kernel_rfl
@[go_sem] theorem ty_pl251 : tplaces Try.prog 251 = some [(0, 1), (1, 1)] := by kernel_rfl
@[go_sem] theorem ty_pl255 : tplaces Try.prog 255 = some [(0, 1), (1, 1), (2, 1)] := by kernel_rfl
@[go_sem] theorem ty_pl265 : tplaces Try.prog 265 = some [(0, 1), (1, 1)] := by kernel_rfl
@[go_sem] theorem ty_pl267 : tplaces Try.prog 267 = some [(0, 1), (1, 1), (2, 1), (3, 1), (4, 1), (5, 1), (6, 1)] := by kernel_rfl
@[go_sem] theorem ty_pl278 : tplaces Try.prog 278 = some [(0, 1), (1, 1), (2, 1)] := by kernel_rfl
@[go_sem] theorem ty_pl287 : tplaces Try.prog 287 = some [(0, 1), (1, 1), (2, 1), (3, 1), (4, 1)] := by kernel_rfl
@[go_sem] theorem ty_pl29 : tplaces Try.prog 29 = some [(0, 1), (1, 1), (2, 1), (3, 1), (4, 1), (5, 1), (6, 1), (7, 1)] := by kernel_rfl
@[go_sem] theorem ty_pl291 : tplaces Try.prog 291 = some [(0, 1), (1, 1), (2, 1), (3, 1)] := by kernel_rfl
@[go_sem] theorem ty_pl297 : tplaces Try.prog 297 = some [(0, 1), (1, 4)] := by kernel_rfl
@[go_sem] theorem ty_pl308 : tplaces Try.prog 308 = some [(0, 1), (1, 1)] := by kernel_rfl
@[go_sem] theorem ty_pl32 : tplaces Try.prog 32 = some [(0, 1), (1, 1), (2, 1)] := by kernel_rfl
@[go_sem] theorem ty_pl326 : tplaces Try.prog 326 = some [(0, 1)] := by kernel_rfl
@[go_sem] theorem ty_pl331 : tplaces Try.prog 331 = some [(0, 1), (1, 1), (2, 1), (3, 1)] := by kernel_rfl
@[go_sem] theorem ty_pl333 : tplaces Try.prog 333 = some [(0, 1), (1, 1), (2, 1)] := by kernel_rfl
@[go_sem] theorem ty_pl344 : tplaces Try.prog 344 = some [(0, 1), (1, 1)] := by kernel_rfl
@[go_sem] theorem ty_pl356 : tplaces Try.prog 356 = some [(0, 1), (1, 1)] := by kernel_rfl
@[go_sem] theorem ty_pl382 : tplaces Try.prog 382 = some [(0, 1), (1, 1), (2, 1), (3, 1), (4, 1), (5, 1), (6, 1), (7, 1)] := by kernel_rfl
@[go_sem] theorem ty_pl389 : tplaces Try.prog 389 = some [(0, 1), (1, 1), (2, 1), (3, 1), (4, 1)] := by kernel_rfl
@[go_sem] theorem ty_pl392 : tplaces Try.prog 392 = some [(0, 1), (1, 1)] := by kernel_rfl
@[go_sem] theorem ty_pl406 : tplaces Try.prog 406 = some [(0, 3), (3, 1), (4, 1)] := by kernel_rfl
@[go_sem] theorem ty_pl411 : tplaces Try.prog 411 = some [(0, 1), (1, 1), (2, 1)] := by kernel_rfl
@[go_sem] theorem ty_pl42 : tplaces Try.prog 42 = some [(0, 1), (1, 1), (2, 1), (3, 3), (6, 8)] := by kernel_rfl
@[go_sem] theorem ty_pl436 : tplaces Try.prog 436 = some [(0, 1), (1, 1), (2, 1)] := by kernel_rfl
@[go_sem] theorem ty_pl74 : tplaces Try.prog 74 = some [(0, 1), (1, 1)] := by kernel_rfl
@[go_sem] theorem ty_pl84 : tplaces Try.prog 84 = some [(0, 1), (1, 1), (2, 1), (3, 1), (4, 1), (5, 1), (6, 1)] := by kernel_rfl
@[go_sem] theorem ty_pl92 : tplaces Try.prog 92 = some [(0, 1), (1, 1)] := by kernel_rfl
@[go_sem] theorem ty_pl98 : tplaces Try.prog 98 = some [(0, 1), (1, 1)] := by kernel_rfl
@[go_sem] theorem ty_sl107 : tslice Try.prog 107 = some (114, 4) := by kernel_rfl
@[go_sem] theorem ty_sl108 : tslice Try.prog 108 = some (110, 4) := by kernel_rfl
@[go_sem] theorem ty_sl127 : tslice Try.prog 127 = some (129, 9) := by kernel_rfl
@[go_sem] theorem ty_sl132 : tslice Try.prog 132 = some (139, 5) := by kernel_rfl
@[go_sem] theorem ty_sl133 : tslice Try.prog 133 = some (140, 1) := by kernel_rfl
@[go_sem] theorem ty_sl140 : tslice Try.prog 140 = some (142, 2) := by kernel_rfl
@[go_sem] theorem ty_sl146 : tslice Try.prog 146 = some (153, 4) := by kernel_rfl
@[go_sem] theorem ty_sl147 : tslice Try.prog 147 = some (155, 1) := by kernel_rfl
@[go_sem] theorem ty_sl155 : tslice Try.prog 155 = some (59, 1) := by kernel_rfl
@[go_sem] theorem ty_sl159 : tslice Try.prog 159 = some (291, 4) := by kernel_rfl
@[go_sem] theorem ty_sl166 : tslice Try.prog 166 = some (170, 3) := by kernel_rfl
@[go_sem] theorem ty_sl178 : tslice Try.prog 178 = some (183, 5) := by kernel_rfl
@[go_sem] theorem ty_sl192 : tslice Try.prog 192 = some (196, 2) := by kernel_rfl
@[go_sem] theorem ty_sl208 : tslice Try.prog 208 = some (213, 2) := by kernel_rfl
@[go_sem] theorem ty_sl218 : tslice Try.prog 218 = some (58, 1) := by kernel_rfl
@[go_sem] theorem ty_sl23 : tslice Try.prog 23 = some (194, 3) := by kernel_rfl
@[go_sem] theorem ty_sl234 : tslice Try.prog 234 = some (238, 2) := by kernel_rfl
@[go_sem] theorem ty_sl235 : tslice Try.prog 235 = some (126, 5) := by kernel_rfl
@[go_sem] theorem ty_sl24 : tslice Try.prog 24 = some (198, 2) := by kernel_rfl
@[go_sem] theorem ty_sl241 : tslice Try.prog 241 = some (249, 4) := by kernel_rfl
@[go_sem] theorem ty_sl245 : tslice Try.prog 245 = some (252, 1) := by kernel_rfl
@[go_sem] theorem ty_sl246 : tslice Try.prog 246 = some (251, 2) := by kernel_rfl
@[go_sem] theorem ty_sl247 : tslice Try.prog 247 = some (382, 8) := by kernel_rfl
@[go_sem] theorem ty_sl25 : tslice Try.prog 25 = some (200, 3) := by kernel_rfl
@[go_sem] theorem ty_sl258 : tslice Try.prog 258 = some (224, 1) := by kernel_rfl
@[go_sem] theorem ty_sl259 : tslice Try.prog 259 = some (253, 1) := by kernel_rfl
@[go_sem] theorem ty_sl26 : tslice Try.prog 26 = some (365, 15) := by kernel_rfl
@[go_sem] theorem ty_sl260 : tslice Try.prog 260 = some (263, 1) := by kernel_rfl
@[go_sem] theorem ty_sl261 : tslice Try.prog 261 = some (268, 1) := by kernel_rfl
@[go_sem] theorem ty_sl263 : tslice Try.prog 263 = some (265, 2) := by kernel_rfl
@[go_sem] theorem ty_sl268 : tslice Try.prog 268 = some (267, 7) := by kernel_rfl
@[go_sem] theorem ty_sl27 : tslice Try.prog 27 = some (42, 14) := by kernel_rfl
@[go_sem] theorem ty_sl276 : tslice Try.prog 276 = some (279, 1) := by kernel_rfl
@[go_sem] theorem ty_sl288 : tslice Try.prog 288 = some (4, 1) := by kernel_rfl
@[go_sem] theorem ty_sl289 : tslice Try.prog 289 = some (297, 5) := by kernel_rfl
@[go_sem] theorem ty_sl30 : tslice Try.prog 30 = some (32, 3) := by kernel_rfl
@[go_sem] theorem ty_sl309 : tslice Try.prog 309 = some (308, 2) := by kernel_rfl
@[go_sem] theorem ty_sl319 : tslice Try.prog 319 = some (404, 1) := by kernel_rfl
@[go_sem] theorem ty_sl348 : tslice Try.prog 348 = some (295, 1) := by kernel_rfl
@[go_sem] theorem ty_sl353 : tslice Try.prog 353 = some (356, 2) := by kernel_rfl
@[go_sem] theorem ty_sl36 : tslice Try.prog 36 = some (9, 1) := by kernel_rfl
@[go_sem] theorem ty_sl37 : tslice Try.prog 37 = some (40, 8) := by kernel_rfl
@[go_sem] theorem ty_sl38 : tslice Try.prog 38 = some (367, 12) := by kernel_rfl
@[go_sem] theorem ty_sl390 : tslice Try.prog 390 = some (392, 2) := by kernel_rfl
@[go_sem] theorem ty_sl50 : tslice Try.prog 50 = some (61, 4) := by kernel_rfl
@[go_sem] theorem ty_sl58 : tslice Try.prog 58 = some (5, 1) := by kernel_rfl
@[go_sem] theorem ty_sl59 : tslice Try.prog 59 = some (3, 1) := by kernel_rfl
@[go_sem] theorem ty_sl78 : tslice Try.prog 78 = some (180, 5) := by kernel_rfl
@[go_sem] theorem ty_sl79 : tslice Try.prog 79 = some (331, 4) := by kernel_rfl
@[go_sem] theorem ty_sl80 : tslice Try.prog 80 = some (102, 3) := by kernel_rfl
@[go_sem] theorem ty_sl81 : tslice Try.prog 81 = some (333, 3) := by kernel_rfl
@[go_sem] theorem ty_sl82 : tslice Try.prog 82 = some (107, 1) := by kernel_rfl
@[go_sem] theorem ty_sl85 : tslice Try.prog 85 = some (91, 5) := by kernel_rfl
@[go_sem] theorem ty_sl96 : tslice Try.prog 96 = some (98, 2) := by kernel_rfl
@[go_sem] theorem ty_st107 : isStr Try.prog 107 = false := by kernel_rfl
@[go_sem] theorem ty_st108 : isStr Try.prog 108 = false := by kernel_rfl
@[go_sem] theorem ty_st127 : isStr Try.prog 127 = false := by kernel_rfl
@[go_sem] theorem ty_st132 : isStr Try.prog 132 = false := by kernel_rfl
@[go_sem] theorem ty_st133 : isStr Try.prog 133 = false := by kernel_rfl
@[go_sem] theorem ty_st140 : isStr Try.prog 140 = false := by kernel_rfl
@[go_sem] theorem ty_st146 : isStr Try.prog 146 = false := by kernel_rfl
@[go_sem] theorem ty_st147 : isStr Try.prog 147 = false := by kernel_rfl
@[go_sem] theorem ty_st155 : isStr Try.prog 155 = false := by kernel_rfl
@[go_sem] theorem ty_st159 : isStr Try.prog 159 = false := by kernel_rfl
@[go_sem] theorem ty_st166 : isStr Try.prog 166 = false := by kernel_rfl
@[go_sem] theorem ty_st178 : isStr Try.prog 178 = false := by kernel_rfl
@[go_sem] theorem ty_st192 : isStr Try.prog 192 = false := by kernel_rfl
@[go_sem] theorem ty_st207 : isStr Try.prog 207 = false := by kernel_rfl
@[go_sem] theorem ty_st208 : isStr Try.prog 208 = false := by kernel_rfl
@[go_sem] theorem ty_st218 : isStr Try.prog 218 = false := by kernel_rfl
@[go_sem] theorem ty_st23 : isStr Try.prog 23 = false := by kernel_rfl
@[go_sem] theorem ty_st234 : isStr Try.prog 234 = false := by kernel_rfl
@[go_sem] theorem ty_st235 : isStr Try.prog 235 = false := by kernel_rfl
@[go_sem] theorem ty_st24 : isStr Try.prog 24 = false := by kernel_rfl
@[go_sem] theorem ty_st241 : isStr Try.prog 241 = false := by kernel_rfl
@[go_sem] theorem ty_st245 : isStr Try.prog 245 = false := by kernel_rfl
@[go_sem] theorem ty_st246 : isStr Try.prog 246 = false := by kernel_rfl
@[go_sem] theorem ty_st247 : isStr Try.prog 247 = false := by kernel_rfl
@[go_sem] theorem ty_st25 : isStr Try.prog 25 = false := by kernel_rfl
@[go_sem] theorem ty_st253 : isStr Try.prog 253 = false := by kernel_rfl
@[go_sem] theorem ty_st259 : isStr Try.prog 259 = false := by kernel_rfl
@[go_sem] theorem ty_st26 : isStr Try.prog 26 = false := by kernel_rfl
@[go_sem] theorem ty_st260 : isStr Try.prog 260 = false := by kernel_rfl
@[go_sem] theorem ty_st261 : isStr Try.prog 261 = false := by kernel_rfl
@[go_sem] theorem ty_st263 : isStr Try.prog 263 = false := by kernel_rfl
@[go_sem] theorem ty_st268 : isStr Try.prog 268 = false := by kernel_rfl
@[go_sem] theorem ty_st27 : isStr Try.prog 27 = false := by kernel_rfl
@[go_sem] theorem ty_st276 : isStr Try.prog 276 = false := by kernel_rfl
@[go_sem] theorem ty_st288 : isStr Try.prog 288 = false := by kernel_rfl
@[go_sem] theorem ty_st289 : isStr Try.prog 289 = false := by kernel_rfl
@[go_sem] theorem ty_st295 : isStr Try.prog 295 = false := by kernel_rfl
@[go_sem] theorem ty_st3 : isStr Try.prog 3 = false := by kernel_rfl
@[go_sem] theorem ty_st30 : isStr Try.prog 30 = false := by kernel_rfl
@[go_sem] theorem ty_st304 : isStr Try.prog 304 = false := by kernel_rfl
@[go_sem] theorem ty_st309 : isStr Try.prog 309 = false := by kernel_rfl
@[go_sem] theorem ty_st319 : isStr Try.prog 319 = false := by kernel_rfl
@[go_sem] theorem ty_st348 : isStr Try.prog 348 = false := by kernel_rfl
@[go_sem] theorem ty_st353 : isStr Try.prog 353 = false := by kernel_rfl
@[go_sem] theorem ty_st36 : isStr Try.prog 36 = false := by kernel_rfl
@[go_sem] theorem ty_st37 : isStr Try.prog 37 = false := by kernel_rfl
@[go_sem] theorem ty_st38 : isStr Try.prog 38 = false := by kernel_rfl
@[go_sem] theorem ty_st390 : isStr Try.prog 390 = false := by kernel_rfl
@[go_sem] theorem ty_st409 : isStr Try.prog 409 = false := by kernel_rfl
@[go_sem] theorem ty_st437 : isStr Try.prog 437 = false := by kernel_rfl
@[go_sem] theorem ty_st439 : isStr Try.prog 439 = false := by kernel_rfl
@[go_sem] theorem ty_st466 : isStr Try.prog 466 = false := by kernel_rfl
@[go_sem] theorem ty_st5 : isStr Try.prog 5 = false := by kernel_rfl
@[go_sem] theorem ty_st50 : isStr Try.prog 50 = false := by kernel_rfl
@[go_sem] theorem ty_st54 : isStr Try.prog 54 = false := by kernel_rfl
@[go_sem] theorem ty_st58 : isStr Try.prog 58 = false := by kernel_rfl
@[go_sem] theorem ty_st59 : isStr Try.prog 59 = false := by kernel_rfl
@[go_sem] theorem ty_st78 : isStr Try.prog 78 = false := by kernel_rfl
@[go_sem] theorem ty_st79 : isStr Try.prog 79 = false := by kernel_rfl
@[go_sem] theorem ty_st80 : isStr Try.prog 80 = false := by kernel_rfl
@[go_sem] theorem ty_st81 : isStr Try.prog 81 = false := by kernel_rfl
@[go_sem] theorem ty_st82 : isStr Try.prog 82 = false := by kernel_rfl
@[go_sem] theorem ty_st85 : isStr Try.prog 85 = false := by kernel_rfl
@[go_sem] theorem ty_st9 : isStr Try.prog 9 = true := by kernel_rfl
@[go_sem] theorem ty_st92 : isStr Try.prog 92 = false := by kernel_rfl
@[go_sem] theorem ty_st93 : isStr Try.prog 93 = false := by kernel_rfl
@[go_sem] theorem ty_st96 : isStr Try.prog 96 = false := by kernel_rfl
@[go_sem] theorem ty_sz102 : tsz Try.prog 102 = some 3 := by kernel_rfl
@[go_sem] theorem ty_sz107 : tsz Try.prog 107 = some 1 := by kernel_rfl
@[go_sem] theorem ty_sz108 : tsz Try.prog 108 = some 1 := by kernel_rfl
@[go_sem] theorem ty_sz110 : tsz Try.prog 110 = some 4 := by kernel_rfl
@[go_sem] theorem ty_sz114 : tsz Try.prog 114 = some 4 := by kernel_rfl
@[go_sem] theorem ty_sz126 : tsz Try.prog 126 = some 5 := by kernel_rfl
@[go_sem] theorem ty_sz127 : tsz Try.prog 127 = some 1 := by kernel_rfl
@[go_sem] theorem ty_sz129 : tsz Try.prog 129 = some 9 := by kernel_rfl
@[go_sem] theorem ty_sz133 : tsz Try.prog 133 = some 1 := by kernel_rfl
@[go_sem] theorem ty_sz135 : tsz Try.prog 135 = some 4 := by kernel_rfl
@[go_sem] theorem ty_sz139 : tsz Try.prog 139 = some 5 := by kernel_rfl
@[go_sem] theorem ty_sz140 : tsz Try.prog 140 = some 1 := by kernel_rfl
@[go_sem] theorem ty_sz142 : tsz Try.prog 142 = some 2 := by kernel_rfl
@[go_sem] theorem ty_sz147 : tsz Try.prog 147 = some 1 := by kernel_rfl
@[go_sem] theorem ty_sz149 : tsz Try.prog 149 = some 5 := by kernel_rfl
@[go_sem] theorem ty_sz153 : tsz Try.prog 153 = some 4 := by kernel_rfl
@[go_sem] theorem ty_sz155 : tsz Try.prog 155 = some 1 := by kernel_rfl
@[go_sem] theorem ty_sz159 : tsz Try.prog 159 = some 1 := by kernel_rfl
@[go_sem] theorem ty_sz161 : tsz Try.prog 161 = some 1 := by kernel_rfl
@[go_sem] theorem ty_sz170 : tsz Try.prog 170 = some 3 := by kernel_rfl
@[go_sem] theorem ty_sz178 : tsz Try.prog 178 = some 1 := by kernel_rfl
@[go_sem] theorem ty_sz180 : tsz Try.prog 180 = some 5 := by kernel_rfl
@[go_sem] theorem ty_sz183 : tsz Try.prog 183 = some 5 := by kernel_rfl
@[go_sem] theorem ty_sz186 : tsz Try.prog 186 = some 1 := by kernel_rfl
@[go_sem] theorem ty_sz187 : tsz Try.prog 187 = some 1 := by kernel_rfl
@[go_sem] theorem ty_sz189 : tsz Try.prog 189 = some 17 := by kernel_rfl
@[go_sem] theorem ty_sz192 : tsz Try.prog 192 = some 1 := by kernel_rfl
@[go_sem] theorem ty_sz194 : tsz Try.prog 194 = some 3 := by kernel_rfl
@[go_sem] theorem ty_sz196 : tsz Try.prog 196 = some 2 := by kernel_rfl
@[go_sem] theorem ty_sz198 : tsz Try.prog 198 = some 2 := by kernel_rfl
@[go_sem] theorem ty_sz200 : tsz Try.prog 200 = some 3 := by kernel_rfl
@[go_sem] theorem ty_sz207 : tsz Try.prog 207 = some 1 := by kernel_rfl
@[go_sem] theorem ty_sz208 : tsz Try.prog 208 = some 1 := by kernel_rfl
@[go_sem] theorem ty_sz210 : tsz Try.prog 210 = some 2 := by kernel_rfl
@[go_sem] theorem ty_sz213 : tsz Try.prog 213 = some 2 := by kernel_rfl
@[go_sem] theorem ty_sz224 : tsz Try.prog 224 = some 1 := by kernel_rfl
@[go_sem] theorem ty_sz226 : tsz Try.prog 226 = some 10 := by kernel_rfl
@[go_sem] theorem ty_sz23 : tsz Try.prog 23 = some 1 := by kernel_rfl
@[go_sem] theorem ty_sz235 : tsz Try.prog 235 = some 1 := by kernel_rfl
@[go_sem] theorem ty_sz238 : tsz Try.prog 238 = some 2 := by kernel_rfl
@[go_sem] theorem ty_sz24 : tsz Try.prog 24 = some 1 := by kernel_rfl
@[go_sem] theorem ty_sz240 : tsz Try.prog 240 = some 1 := by kernel_rfl
@[go_sem] theorem ty_sz241 : tsz Try.prog 241 = some 1 := by kernel_rfl
@[go_sem] theorem ty_sz242 : tsz Try.prog 242 = some 1 := by kernel_rfl
@[go_sem] theorem ty_sz244 : tsz Try.prog 244 = some 2 := by kernel_rfl
@[go_sem] theorem ty_sz245 : tsz Try.prog 245 = some 1 := by kernel_rfl
@[go_sem] theorem ty_sz246 : tsz Try.prog 246 = some 1 := by kernel_rfl
@[go_sem] theorem ty_sz247 : tsz Try.prog 247 = some 1 := by kernel_rfl
@[go_sem] theorem ty_sz249 : tsz Try.prog 249 = some 4 := by kernel_rfl
@[go_sem] theorem ty_sz25 : tsz Try.prog 25 = some 1 := by kernel_rfl
@[go_sem] theorem ty_sz251 : tsz Try.prog 251 = some 2 := by kernel_rfl
@[go_sem] theorem ty_sz252 : tsz Try.prog 252 = some 1 := by kernel_rfl
@[go_sem] theorem ty_sz253 : tsz Try.prog 253 = some 1 := by kernel_rfl
@[go_sem] theorem ty_sz255 : tsz Try.prog 255 = some 3 := by kernel_rfl
@[go_sem] theorem ty_sz258 : tsz Try.prog 258 = some 1 := by kernel_rfl
@[go_sem] theorem ty_sz259 : tsz Try.prog 259 = some 1 := by kernel_rfl
@[go_sem] theorem ty_sz26 : tsz Try.prog 26 = some 1 := by kernel_rfl
@[go_sem] theorem ty_sz260 : tsz Try.prog 260 = some 1 := by kernel_rfl
@[go_sem] theorem ty_sz261 : tsz Try.prog 261 = some 1 := by kernel_rfl
@[go_sem] theorem ty_sz262 : tsz Try.prog 262 = some 1 := by kernel_rfl
@[go_sem] theorem ty_sz263 : tsz Try.prog 263 = some 1 := by kernel_rfl
@[go_sem] theorem ty_sz265 : tsz Try.prog 265 = some 2 := by kernel_rfl
@[go_sem] theorem ty_sz267 : tsz Try.prog 267 = some 7 := by kernel_rfl
@[go_sem] theorem ty_sz268 : tsz Try.prog 268 = some 1 := by kernel_rfl
@[go_sem] theorem ty_sz269 : tsz Try.prog 269 = some 1 := by kernel_rfl
@[go_sem] theorem ty_sz27 : tsz Try.prog 27 = some 1 := by kernel_rfl
@[go_sem] theorem ty_sz270 : tsz Try.prog 270 = some 1 := by kernel_rfl
@[go_sem] theorem ty_sz273 : tsz Try.prog 273 = some 1 := by kernel_rfl
@[go_sem] theorem ty_sz275 : tsz Try.prog 275 = some 1 := by kernel_rfl
@[go_sem] theorem ty_sz276 : tsz Try.prog 276 = some 1 := by kernel_rfl
@[go_sem] theorem ty_sz278 : tsz Try.prog 278 = some 3 := by kernel_rfl
@[go_sem] theorem ty_sz279 : tsz Try.prog 279 = some 1 := by kernel_rfl
@[go_sem] theorem ty_sz284 : tsz Try.prog 284 = some 1 := by kernel_rfl
@[go_sem] theorem ty_sz287 : tsz Try.prog 287 = some 5 := by kernel_rfl
@[go_sem] theorem ty_sz288 : tsz Try.prog 288 = some 1 := by kernel_rfl
@[go_sem] theorem ty_sz289 : tsz Try.prog 289 = some 1 := by kernel_rfl
@[go_sem] theorem ty_sz29 : tsz Try.prog 29 = some 8 := by kernel_rfl
@[go_sem] theorem ty_sz291 : tsz Try.prog 291 = some 4 := by kernel_rfl
@[go_sem] theorem ty_sz295 : tsz Try.prog 295 = some 1 := by kernel_rfl
@[go_sem] theorem ty_sz297 : tsz Try.prog 297 = some 5 := by kernel_rfl
@[go_sem] theorem ty_sz3 : tsz Try.prog 3 = some 1 := by kernel_rfl
@[go_sem] theorem ty_sz30 : tsz Try.prog 30 = some 1 := by kernel_rfl
@[go_sem] theorem ty_sz304 : tsz Try.prog 304 = some 1 := by kernel_rfl
@[go_sem] theorem ty_sz306 : tsz Try.prog 306 = some 2 := by kernel_rfl
@[go_sem] theorem ty_sz308 : tsz Try.prog 308 = some 2 := by kernel_rfl
@[go_sem] theorem ty_sz319 : tsz Try.prog 319 = some 1 := by kernel_rfl
@[go_sem] theorem ty_sz32 : tsz Try.prog 32 = some 3 := by kernel_rfl
@[go_sem] theorem ty_sz326 : tsz Try.prog 326 = some 1 := by kernel_rfl
@[go_sem] theorem ty_sz331 : tsz Try.prog 331 = some 4 := by kernel_rfl
@[go_sem] theorem ty_sz333 : tsz Try.prog 333 = some 3 := by kernel_rfl
@[go_sem] theorem ty_sz344 : tsz Try.prog 344 = some 2 := by kernel_rfl
@[go_sem] theorem ty_sz356 : tsz Try.prog 356 = some 2 := by kernel_rfl
@[go_sem] theorem ty_sz36 : tsz Try.prog 36 = some 1 := by kernel_rfl
@[go_sem] theorem ty_sz365 : tsz Try.prog 365 = some 15 := by kernel_rfl
@[go_sem] theorem ty_sz367 : tsz Try.prog 367 = some 12 := by kernel_rfl
@[go_sem] theorem ty_sz37 : tsz Try.prog 37 = some 1 := by kernel_rfl
@[go_sem] theorem ty_sz38 : tsz Try.prog 38 = some 1 := by kernel_rfl
@[go_sem] theorem ty_sz382 : tsz Try.prog 382 = some 8 := by kernel_rfl
@[go_sem] theorem ty_sz389 : tsz Try.prog 389 = some 5 := by kernel_rfl
@[go_sem] theorem ty_sz392 : tsz Try.prog 392 = some 2 := by kernel_rfl
@[go_sem] theorem ty_sz4 : tsz Try.prog 4 = some 1 := by kernel_rfl
@[go_sem] theorem ty_sz40 : tsz Try.prog 40 = some 8 := by kernel_rfl
@[go_sem] theorem ty_sz404 : tsz Try.prog 404 = some 1 := by kernel_rfl
@[go_sem] theorem ty_sz406 : tsz Try.prog 406 = some 5 := by kernel_rfl
@[go_sem] theorem ty_sz411 : tsz Try.prog 411 = some 3 := by kernel_rfl
@[go_sem] theorem ty_sz42 : tsz Try.prog 42 = some 14 := by kernel_rfl
@[go_sem] theorem ty_sz432 : tsz Try.prog 432 = some 1 := by kernel_rfl
@[go_sem] theorem ty_sz436 : tsz Try.prog 436 = some 3 := by kernel_rfl
@[go_sem] theorem ty_sz466 : tsz Try.prog 466 = some 1 := by kernel_rfl
@[go_sem] theorem ty_sz5 : tsz Try.prog 5 = some 1 := by kernel_rfl
@[go_sem] theorem ty_sz51 : tsz Try.prog 51 = some 1 := by kernel_rfl
@[go_sem] theorem ty_sz58 : tsz Try.prog 58 = some 1 := by kernel_rfl
@[go_sem] theorem ty_sz59 : tsz Try.prog 59 = some 1 := by kernel_rfl
@[go_sem] theorem ty_sz61 : tsz Try.prog 61 = some 4 := by kernel_rfl
@[go_sem] theorem ty_sz74 : tsz Try.prog 74 = some 2 := by kernel_rfl
@[go_sem] theorem ty_sz78 : tsz Try.prog 78 = some 1 := by kernel_rfl
@[go_sem] theorem ty_sz79 : tsz Try.prog 79 = some 1 := by kernel_rfl
@[go_sem] theorem ty_sz80 : tsz Try.prog 80 = some 1 := by kernel_rfl
@[go_sem] theorem ty_sz81 : tsz Try.prog 81 = some 1 := by kernel_rfl
@[go_sem] theorem ty_sz82 : tsz Try.prog 82 = some 1 := by kernel_rfl
@[go_sem] theorem ty_sz84 : tsz Try.prog 84 = some 7 := by kernel_rfl
@[go_sem] theorem ty_sz89 : tsz Try.prog 89 = some 1 := by kernel_rfl
@[go_sem] theorem ty_sz9 : tsz Try.prog 9 = some 1 := by kernel_rfl
@[go_sem] theorem ty_sz91 : tsz Try.prog 91 = some 5 := by kernel_rfl
@[go_sem] theorem ty_sz92 : tsz Try.prog 92 = some 2 := by kernel_rfl
@[go_sem] theorem ty_sz98 : tsz Try.prog 98 = some 2 := by kernel_rfl
@[go_sem] theorem ty_u83 : isU8s Try.prog 3 = false := by kernel_rfl
@[go_sem] theorem ty_u8304 : isU8s Try.prog 304 = false := by kernel_rfl
@[go_sem] theorem ty_u8409 : isU8s Try.prog 409 = false := by kernel_rfl
@[go_sem] theorem ty_u8437 : isU8s Try.prog 437 = false := by kernel_rfl
@[go_sem] theorem ty_u8439 : isU8s Try.prog 439 = false := by kernel_rfl
@[go_sem] theorem ty_u8466 : isU8s Try.prog 466 = false := by kernel_rfl
@[go_sem] theorem ty_u85 : isU8s Try.prog 5 = false := by kernel_rfl
@[go_sem] theorem ty_u858 : isU8s Try.prog 58 = true := by kernel_rfl
@[go_sem] theorem ty_u89 : isU8s Try.prog 9 = false := by kernel_rfl
@[go_sem] theorem ty_u893 : isU8s Try.prog 93 = false := by kernel_rfl
@[go_sem] theorem ty_un3 : (Try.prog.underlying 3).isSome = true := by kernel_rfl
@[go_sem] theorem ty_un304 : (Try.prog.underlying 304).isSome = true := by kernel_rfl
@[go_sem] theorem ty_un409 : (Try.prog.underlying 409).isSome = true := by kernel_rfl
@[go_sem] theorem ty_un437 : (Try.prog.underlying 437).isSome = true := by kernel_rfl
@[go_sem] theorem ty_un439 : (Try.prog.underlying 439).isSome = true := by kernel_rfl
@[go_sem] theorem ty_un466 : (Try.prog.underlying 466).isSome = true := by kernel_rfl
@[go_sem] theorem ty_un5 : (Try.prog.underlying 5).isSome = true := by kernel_rfl
@[go_sem] theorem ty_un58 : (Try.prog.underlying 58).isSome = true := by kernel_rfl
@[go_sem] theorem ty_un9 : (Try.prog.underlying 9).isSome = true := by kernel_rfl
@[go_sem] theorem ty_un93 : (Try.prog.underlying 93).isSome = true := by kernel_rfl
@[go_sem] theorem ty_ze102 : tzero Try.prog 102 = some (.agg [(.str []), (.str []), (.int .i64 0)]) := by kernel_rfl
@[go_sem] theorem ty_ze107 : tzero Try.prog 107 = some (.sl [] true .full) := by kernel_rfl
@[go_sem] theorem ty_ze110 : tzero Try.prog 110 = some (.agg [(.int .i64 0), (.int .i64 0), (.str []), (.sl [] true .full)]) := by kernel_rfl
@[go_sem] theorem ty_ze114 : tzero Try.prog 114 = some (.agg [(.int .i64 0), (.int .i64 0), (.str []), (.sl [] true .full)]) := by kernel_rfl
@[go_sem] theorem ty_ze126 : tzero Try.prog 126 = some (.agg [(.sl [] true .full), (.int .i64 0), (.int .i64 0), (.str []), (.sl [] true .full)]) := by kernel_rfl
@[go_sem] theorem ty_ze129 : tzero Try.prog 129 = some (.agg [(.bool false), (.int .i64 0), (.sl [] true .full), (.int .i64 0), (.int .i64 0), (.str []), (.sl [] true .full), (.sl [] true .full), (.sl [] true .full)]) := by kernel_rfl
@[go_sem] theorem ty_ze133 : tzero Try.prog 133 = some (.sl [] true .full) := by kernel_rfl
@[go_sem] theorem ty_ze135 : tzero Try.prog 135 = some (.agg [(.sl [] true .full), (.sl [] true .full), (.int .i64 0), (.int .i64 0)]) := by kernel_rfl
@[go_sem] theorem ty_ze139 : tzero Try.prog 139 = some (.agg [(.int .i64 0), (.int .i64 0), (.int .i64 0), (.int .i64 0), (.int .i64 0)]) := by kernel_rfl
@[go_sem] theorem ty_ze140 : tzero Try.prog 140 = some (.sl [] true .full) := by kernel_rfl
@[go_sem] theorem ty_ze142 : tzero Try.prog 142 = some (.agg [(.int .i64 0), (.int .i64 0)]) := by kernel_rfl
@[go_sem] theorem ty_ze149 : tzero Try.prog 149 = some (.agg [(.bool false), (.sl [] true .full), (.sl [] true .full), (.sl [] true .full), (.int .i64 0)]) := by kernel_rfl
@[go_sem] theorem ty_ze153 : tzero Try.prog 153 = some (.agg [(.int .i64 0), (.int .i64 0), (.int .i64 0), (.int .i64 0)]) := by kernel_rfl
@[go_sem] theorem ty_ze155 : tzero Try.prog 155 = some (.sl [] true .full) := by kernel_rfl
@[go_sem] theorem ty_ze161 : tzero Try.prog 161 = some (.agg [(.sl [] true .full)]) := by kernel_rfl
@[go_sem] theorem ty_ze170 : tzero Try.prog 170 = some (.agg [(.int .i64 0), (.int .i64 0), (.str [])]) := by kernel_rfl
@[go_sem] theorem ty_ze180 : tzero Try.prog 180 = some (.agg [(.str []), (.int .i64 0), (.int .i64 0), (.int .i64 0), (.sl [] true .full)]) := by kernel_rfl
@[go_sem] theorem ty_ze183 : tzero Try.prog 183 = some (.agg [(.int .i64 0), (.int .i64 0), (.int .i64 0), (.int .i64 0), (.sl [] true .full)]) := by kernel_rfl
@[go_sem] theorem ty_ze189 : tzero Try.prog 189 = some (.agg [(.str []), (.int .i64 0), (.sl [] true .full), (.sl [] true .full), (.sl [] true .full), (.sl [] true .full), (.sl [] true .full), (.sl [] true .full), (.str []), (.int .i64 0), (.sl [] true .full), (.sl [] true .full), (.sl [] true .full), (.sl [] true .full), (.sl [] true .full), (.sl [] true .full), .nilm]) := by kernel_rfl
@[go_sem] theorem ty_ze194 : tzero Try.prog 194 = some (.agg [(.str []), (.sl [] true .full), (.sl [] true .full)]) := by kernel_rfl
@[go_sem] theorem ty_ze196 : tzero Try.prog 196 = some (.agg [(.str []), (.sl [] true .full)]) := by kernel_rfl
@[go_sem] theorem ty_ze198 : tzero Try.prog 198 = some (.agg [(.str []), (.sl [] true .full)]) := by kernel_rfl
@[go_sem] theorem ty_ze200 : tzero Try.prog 200 = some (.agg [(.str []), (.str []), (.sl [] true .full)]) := by kernel_rfl
@[go_sem] theorem ty_ze210 : tzero Try.prog 210 = some (.agg [(.sl [] true .full), .nilm]) := by kernel_rfl
@[go_sem] theorem ty_ze213 : tzero Try.prog 213 = some (.agg [(.sl [] true .full), (.int .i64 0)]) := by kernel_rfl
@[go_sem] theorem ty_ze224 : tzero Try.prog 224 = some .nilm := by kernel_rfl
@[go_sem] theorem ty_ze226 : tzero Try.prog 226 = some (.agg [(.sl [] true .full), (.sl [] true .full), (.sl [] true .full), (.sl [] true .full), (.sl [] true .full), (.sl [] true .full), (.sl [] true .full), .nilm, (.int .i64 0), (.int .i64 0)]) := by kernel_rfl
@[go_sem] theorem ty_ze238 : tzero Try.prog 238 = some (.agg [(.int .i64 0), (.sl [] true .full)]) := by kernel_rfl
@[go_sem] theorem ty_ze244 : tzero Try.prog 244 = some (.agg [(.sl [] true .full), .nilm]) := by kernel_rfl
@[go_sem] theorem ty_ze249 : tzero Try.prog 249 = some (.agg [(.sl [] true .full), (.sl [] true .full), (.sl [] true .full), (.sl [] true .full)]) := by kernel_rfl
@[go_sem] theorem ty_ze251 : tzero Try.prog 251 = some (.agg [(.int .i64 0), (.int .i64 0)]) := by kernel_rfl
@[go_sem] theorem ty_ze252 : tzero Try.prog 252 = some .nilp := by kernel_rfl
@[go_sem] theorem ty_ze253 : tzero Try.prog 253 = some .nilm := by kernel_rfl
@[go_sem] theorem ty_ze255 : tzero Try.prog 255 = some (.agg [(.sl [] true .full), (.sl [] true .full), .nilm]) := by kernel_rfl
@[go_sem] theorem ty_ze258 : tzero Try.prog 258 = some (.sl [] true .full) := by kernel_rfl
@[go_sem] theorem ty_ze259 : tzero Try.prog 259 = some (.sl [] true .full) := by kernel_rfl
@[go_sem] theorem ty_ze260 : tzero Try.prog 260 = some (.sl [] true .full) := by kernel_rfl
@[go_sem] theorem ty_ze261 : tzero Try.prog 261 = some (.sl [] true .full) := by kernel_rfl
@[go_sem] theorem ty_ze262 : tzero Try.prog 262 = some .nilm := by kernel_rfl
@[go_sem] theorem ty_ze263 : tzero Try.prog 263 = some (.sl [] true .full) := by kernel_rfl
@[go_sem] theorem ty_ze265 : tzero Try.prog 265 = some (.agg [(.int .i64 0), (.int .i64 0)]) := by kernel_rfl
@[go_sem] theorem ty_ze267 : tzero Try.prog 267 = some (.agg [(.int .i64 0), (.int .i64 0), (.int .i64 0), (.int .i64 0), (.int .i64 0), (.int .i64 0), (.int .i64 0)]) := by kernel_rfl
@[go_sem] theorem ty_ze268 : tzero Try.prog 268 = some (.sl [] true .full) := by kernel_rfl
@[go_sem] theorem ty_ze269 : tzero Try.prog 269 = some .nilf := by kernel_rfl
@[go_sem] theorem ty_ze270 : tzero Try.prog 270 = some .nilf := by kernel_rfl
@[go_sem] theorem ty_ze278 : tzero Try.prog 278 = some (.agg [(.sl [] true .full), .nilm, (.sl [] true .full)]) := by kernel_rfl
@[go_sem] theorem ty_ze279 : tzero Try.prog 279 = some .nilp := by kernel_rfl
@[go_sem] theorem ty_ze284 : tzero Try.prog 284 = some .nilm := by kernel_rfl
@[go_sem] theorem ty_ze287 : tzero Try.prog 287 = some (.agg [(.sl [] true .full), (.int .i64 0), (.int .i64 0), (.bool false), (.int .i64 0)]) := by kernel_rfl
@[go_sem] theorem ty_ze288 : tzero Try.prog 288 = some (.sl [] true .full) := by kernel_rfl
@[go_sem] theorem ty_ze29 : tzero Try.prog 29 = some (.agg [(.str []), (.int .i64 0), (.sl [] true .full), (.sl [] true .full), (.sl [] true .full), (.sl [] true .full), (.sl [] true .full), (.sl [] true .full)]) := by kernel_rfl
@[go_sem] theorem ty_ze291 : tzero Try.prog 291 = some (.agg [(.str []), (.int .i64 0), (.sl [] true .full), (.sl [] true .full)]) := by kernel_rfl
@[go_sem] theorem ty_ze295 : tzero Try.prog 295 = some .nilm := by kernel_rfl
@[go_sem] theorem ty_ze297 : tzero Try.prog 297 = some (.agg [(.int .i64 0), (.int .i64 0), (.int .i64 0), (.str []), (.sl [] true .full)]) := by kernel_rfl
@[go_sem] theorem ty_ze3 : tzero Try.prog 3 = some (.int .i64 0) := by kernel_rfl
@[go_sem] theorem ty_ze306 : tzero Try.prog 306 = some (.agg [.nilp, (.sl [] true .full)]) := by kernel_rfl
@[go_sem] theorem ty_ze308 : tzero Try.prog 308 = some (.agg [(.int .i64 0), (.bool false)]) := by kernel_rfl
@[go_sem] theorem ty_ze32 : tzero Try.prog 32 = some (.agg [(.int .i64 0), (.str []), (.sl [] true .full)]) := by kernel_rfl
@[go_sem] theorem ty_ze326 : tzero Try.prog 326 = some (.agg [(.sl [] true .full)]) := by kernel_rfl
@[go_sem] theorem ty_ze331 : tzero Try.prog 331 = some (.agg [(.str []), (.int .i64 0), (.int .i64 0), (.bool false)]) := by kernel_rfl
@[go_sem] theorem ty_ze333 : tzero Try.prog 333 = some (.agg [(.str []), (.str []), (.int .i64 0)]) := by kernel_rfl
@[go_sem] theorem ty_ze344 : tzero Try.prog 344 = some (.agg [(.sl [] true .full), (.bool false)]) := by kernel_rfl
@[go_sem] theorem ty_ze356 : tzero Try.prog 356 = some (.agg [(.int .i64 0), (.sl [] true .full)]) := by kernel_rfl
@[go_sem] theorem ty_ze365 : tzero Try.prog 365 = some (.agg [(.str []), (.sl [] true .full), (.sl [] true .full), (.sl [] true .full), (.int .i64 0), (.str []), (.sl [] true .full), (.int .i64 0), (.int .i64 0), (.str []), (.sl [] true .full), (.sl [] true .full), (.sl [] true .full), (.sl [] true .full), (.int .i64 0)]) := by kernel_rfl
@[go_sem] theorem ty_ze367 : tzero Try.prog 367 = some (.agg [(.int .i64 0), (.int .i64 0), (.str []), (.sl [] true .full), (.int .i64 0), (.int .i64 0), (.str []), (.sl [] true .full), (.sl [] true .full), (.sl [] true .full), (.sl [] true .full), (.int .i64 0)]) := by kernel_rfl
@[go_sem] theorem ty_ze382 : tzero Try.prog 382 = some (.agg [(.int .i64 0), (.int .i64 0), (.int .i64 0), (.int .i64 0), (.int .i64 0), (.int .i64 0), (.int .i64 0), .nilp]) := by kernel_rfl
@[go_sem] theorem ty_ze389 : tzero Try.prog 389 = some (.agg [(.sl [] true .full), (.bool false), (.int .i64 0), (.sl [] true .full), (.sl [] true .full)]) := by kernel_rfl
@[go_sem] theorem ty_ze392 : tzero Try.prog 392 = some (.agg [(.int .i64 0), (.bool false)]) := by kernel_rfl
@[go_sem] theorem ty_ze4 : tzero Try.prog 4 = some (.bool false) := by kernel_rfl
@[go_sem] theorem ty_ze40 : tzero Try.prog 40 = some (.agg [(.int .i64 0), (.int .i64 0), (.str []), (.sl [] true .full), (.sl [] true .full), (.sl [] true .full), (.sl [] true .full), (.int .i64 0)]) := by kernel_rfl
@[go_sem] theorem ty_ze404 : tzero Try.prog 404 = some .nilp := by kernel_rfl
@[go_sem] theorem ty_ze406 : tzero Try.prog 406 = some (.agg [(.int .i64 0), (.int .i64 0), (.str []), (.sl [] true .full), (.int .i64 0)]) := by kernel_rfl
@[go_sem] theorem ty_ze411 : tzero Try.prog 411 = some (.agg [(.str []), (.bool false), (.bool false)]) := by kernel_rfl
@[go_sem] theorem ty_ze42 : tzero Try.prog 42 = some (.agg [(.str []), (.sl [] true .full), (.sl [] true .full), (.int .i64 0), (.str []), (.sl [] true .full), (.int .i64 0), (.int .i64 0), (.str []), (.sl [] true .full), (.sl [] true .full), (.sl [] true .full), (.sl [] true .full), (.int .i64 0)]) := by kernel_rfl
@[go_sem] theorem ty_ze436 : tzero Try.prog 436 = some (.agg [(.sl [] true .full), (.sl [] true .full), .nilp]) := by kernel_rfl
@[go_sem] theorem ty_ze466 : tzero Try.prog 466 = some (.int .u64 0) := by kernel_rfl
@[go_sem] theorem ty_ze5 : tzero Try.prog 5 = some (.int .u8 0) := by kernel_rfl
@[go_sem] theorem ty_ze58 : tzero Try.prog 58 = some (.sl [] true .full) := by kernel_rfl
@[go_sem] theorem ty_ze59 : tzero Try.prog 59 = some (.sl [] true .full) := by kernel_rfl
@[go_sem] theorem ty_ze61 : tzero Try.prog 61 = some (.agg [(.int .i64 0), (.int .i64 0), (.sl [] true .full), (.sl [] true .full)]) := by kernel_rfl
@[go_sem] theorem ty_ze74 : tzero Try.prog 74 = some (.agg [(.str []), (.int .i64 0)]) := by kernel_rfl
@[go_sem] theorem ty_ze84 : tzero Try.prog 84 = some (.agg [(.sl [] true .full), (.sl [] true .full), (.sl [] true .full), (.sl [] true .full), (.sl [] true .full), (.sl [] true .full), (.sl [] true .full)]) := by kernel_rfl
@[go_sem] theorem ty_ze9 : tzero Try.prog 9 = some (.str []) := by kernel_rfl
@[go_sem] theorem ty_ze91 : tzero Try.prog 91 = some (.agg [(.int .i64 0), (.int .i64 0), (.int .i64 0), (.int .i64 0), (.bool false)]) := by kernel_rfl
@[go_sem] theorem ty_ze92 : tzero Try.prog 92 = some (.agg [(.int .i64 0), (.int .i64 0)]) := by kernel_rfl
@[go_sem] theorem ty_ze98 : tzero Try.prog 98 = some (.agg [(.str []), (.int .i64 0)]) := by kernel_rfl
end Go.Proofs.Ytclmcpbanaojfaa

/- api.Value as data; what is known of any value of that type and of no more bulk than a statement allows. No conditions. -/
set_option linter.unusedSimpArgs false
set_option linter.unusedVariables false
namespace Go.Proofs.Ytclmcpbanaojfaa
open Go.Proofs.YtclmcpbanaojfaaV
set_option maxRecDepth 100000
inductive Val where
  | mk (kind num : Int) (text : List UInt8) (args : List Val) (nl : Bool)
namespace Val
def kind : Val → Int | mk k _ _ _ _ => k
def num : Val → Int | mk _ n _ _ _ => n
def text : Val → List UInt8 | mk _ _ t _ _ => t
def args : Val → List Val | mk _ _ _ a _ => a
def nl : Val → Bool | mk _ _ _ _ b => b
end Val
instance : Inhabited Val := ⟨.mk 0 0 [] [] true⟩
mutual
def eVal : Val → List V | .mk k n t ar nl => [.int .i64 k, .int .i64 n, .str t, .sl (eVals ar) nl .no]
def eVals : List Val → List (List V) | [] => [] | v :: vs => eVal v :: eVals vs
end
mutual
/-- How many values. -/
def Val.sz : Val → Nat | .mk _ _ _ ar _ => 1 + szs ar
def szs : List Val → Nat | [] => 0 | v :: vs => v.sz + szs vs
end
theorem eVals_map : ∀ vs, eVals vs = vs.map eVal
  | [] => rfl
  | v :: vs => by rw [eVals, eVals_map vs]; rfl
theorem eVal_eq (v : Val) : eVal v = [.int .i64 v.kind, .int .i64 v.num, .str v.text, .sl (v.args.map eVal) v.nl .no] := by
  cases v; rw [eVal, eVals_map]; rfl
theorem szs_mem {v : Val} : ∀ {vs : List Val}, v ∈ vs → v.sz ≤ szs vs
  | u :: vs, h => by
    simp only [szs]
    rcases List.mem_cons.1 h with rfl | h
    · omega
    · have := szs_mem h; omega
theorem Val.sz_eq (v : Val) : v.sz = 1 + szs v.args := by cases v; rw [Val.sz]; rfl
theorem szs_append : ∀ a b : List Val, szs (a ++ b) = szs a + szs b
  | [], b => by simp [szs]
  | v :: a, b => by simp only [List.cons_append, szs, szs_append a b]; omega
theorem szs_len : ∀ vs : List Val, vs.length ≤ szs vs
  | [] => by simp [szs]
  | v :: vs => by have := szs_len vs; have := v.sz_eq; simp only [szs, List.length_cons]; omega
theorem Val.sz_args {v a : Val} (h : a ∈ v.args) : a.sz < v.sz := by have := szs_mem h; have := v.sz_eq; omega
/-- What any value keeps to. -/
inductive OkVal : Val → Prop
  | mk {k n : Int} {t : List UInt8} {ar : List Val} {nl : Bool} (hk : IntKind.i64.min ≤ k ∧ k ≤ IntKind.i64.max) (hn : IntKind.i64.min ≤ n ∧ n ≤ IntKind.i64.max) (ht : t.length ≤ bulk) (hnl : nl = true → ar = []) (hl : ar.length ≤ bulk) (ha : ∀ a ∈ ar, OkVal a) : OkVal (.mk k n t ar nl)
theorem OkVal.text {v : Val} (h : OkVal v) : v.text.length ≤ bulk := by cases h; assumption
theorem OkVal.len {v : Val} (h : OkVal v) : v.args.length ≤ bulk := by cases h; assumption
theorem OkVal.nil {v : Val} (h : OkVal v) : v.nl = true → v.args = [] := by cases h; assumption
theorem OkVal.arg {v a : Val} (h : OkVal v) (ha : a ∈ v.args) : OkVal a := by cases h; rename_i ha'; exact ha' a ha
theorem OkVal.kind {v : Val} (h : OkVal v) : IntKind.i64.min ≤ v.kind ∧ v.kind ≤ IntKind.i64.max := by cases h; assumption
theorem OkVal.num {v : Val} (h : OkVal v) : IntKind.i64.min ≤ v.num ∧ v.num ≤ IntKind.i64.max := by cases h; assumption
def oVal (v : Val) : Prop := OkVal v ∧ v.sz ≤ bulk
theorem oVal.arg {v a : Val} (h : oVal v) (ha : a ∈ v.args) : oVal a := ⟨h.1.arg ha, Nat.le_trans (Nat.le_of_lt (Val.sz_args ha)) h.2⟩
mutual
theorem sz_le : ∀ v : Val, v.sz ≤ vszL (eVal v)
  | .mk k n t ar nl => by have := szs_le ar; simp only [Val.sz, eVal, vszL, vsz]; omega
theorem szs_le : ∀ vs : List Val, szs vs ≤ vszLL (eVals vs)
  | [] => by simp [szs]
  | v :: vs => by have := sz_le v; have := szs_le vs; simp only [szs, eVals, vszLL]; omega
end
theorem pVal (v : Val) : 1 ≤ vszL (eVal v) := by have := sz_le v; have := v.sz_eq; omega
theorem dVal0 : ∀ n, Dec Try.prog 110 eVal OkVal n := by
  intro n
  induction n using Nat.strongRecOn with
  | _ n ih =>
    intro cs hv hb
    obtain ⟨m, rfl, h⟩ := dec_struct (ts := [3, 3, 9, 108]) (by kernel_rfl) hv
    obtain ⟨a0, r0, rfl, _, h0, a1, r1, rfl, _, h1, a2, r2, rfl, _, h2, a3, r3, rfl, _, h3, rfl⟩ := h
    simp only [vszL_append] at hb
    obtain ⟨x0, rfl, q0⟩ := dec_int (n := m) (k := .i64) (by kernel_rfl) _ h0 (by omega)
    obtain ⟨x1, rfl, q1⟩ := dec_int (n := m) (k := .i64) (by kernel_rfl) _ h1 (by omega)
    obtain ⟨x2, rfl, q2⟩ := dec_str (n := m) (by kernel_rfl) _ h2 (by omega)
    obtain ⟨x3, rfl, q3, q4, q5⟩ := dec_slice (n := m) (el := 110) (by kernel_rfl) pVal (fun k hk => ih k (by omega)) _ h3 (by omega)
    exact ⟨.mk x0 x1 x2 x3.1 x3.2, by rw [eVal_eq]; rfl, .mk q0 q1 q2 q3 q4 q5⟩
theorem dVal (n : Nat) : Dec Try.prog 110 eVal oVal n := fun cs hv hb => by
  obtain ⟨x, rfl, h⟩ := dVal0 n cs hv hb
  exact ⟨x, rfl, h, Nat.le_trans (sz_le x) hb⟩
mutual
/-- The same but for nil where there is nothing. -/
def sameV : Val → Val → Bool | .mk k n t ar _, .mk k' n' t' ar' _ => decide (k = k') && decide (n = n') && decide (t = t') && sameVs ar ar'
def sameVs : List Val → List Val → Bool
  | [], [] => true
  | v :: vs, u :: us => sameV v u && sameVs vs us
  | _, _ => false
end
/-- slices.EqualFunc -/
def eqF {A B : Type} (f : A → B → Bool) (xs : List A) (ys : List B) : Bool := decide (xs.length = ys.length) && (xs.zip ys).all fun p => f p.1 p.2
theorem eqF_cons {A B : Type} (f : A → B → Bool) (x : A) (y : B) (xs : List A) (ys : List B) : eqF f (x :: xs) (y :: ys) = (f x y && eqF f xs ys) := by
  simp [eqF, Bool.and_left_comm]
theorem sameVs_eq : ∀ vs us, sameVs vs us = eqF sameV vs us
  | [], [] => rfl
  | [], _ :: _ => by simp [sameVs, eqF]
  | _ :: _, [] => by simp [sameVs, eqF]
  | v :: vs, u :: us => by rw [sameVs, sameVs_eq vs us, eqF_cons]
theorem sameV_eq (v u : Val) : sameV v u = (decide (v.kind = u.kind) && decide (v.num = u.num) && decide (v.text = u.text) && eqF sameV v.args u.args) := by
  cases v; cases u; rw [sameV, sameVs_eq]; rfl
mutual
theorem sameV_refl : ∀ v, sameV v v = true
  | .mk k n t ar nl => by simp [sameV, sameVs_refl ar]
theorem sameVs_refl : ∀ vs, sameVs vs vs = true
  | [] => rfl
  | v :: vs => by simp [sameVs, sameV_refl v, sameVs_refl vs]
end
mutual
/-- A value's copy. -/
def cpV : Val → Val | .mk k n t ar _ => .mk k n t (cpVs ar) ar.isEmpty
def cpVs : List Val → List Val | [] => [] | v :: vs => cpV v :: cpVs vs
end
theorem cpVs_map : ∀ vs, cpVs vs = vs.map cpV
  | [] => rfl
  | v :: vs => by rw [cpVs, cpVs_map vs]; rfl
theorem cpV_eq (v : Val) : cpV v = .mk v.kind v.num v.text (v.args.map cpV) v.args.isEmpty := by cases v; rw [cpV, cpVs_map]; rfl
mutual
theorem same_cp : ∀ v, sameV (cpV v) v = true
  | .mk k n t ar nl => by simp [cpV, sameV, sames_cp ar]
theorem sames_cp : ∀ vs, sameVs (cpVs vs) vs = true
  | [] => rfl
  | v :: vs => by simp [cpVs, sameVs, same_cp v, sames_cp vs]
end
end Go.Proofs.Ytclmcpbanaojfaa

/- api.Type, api.Pat, api.Expr as data; what is known of any of them of no more bulk than a statement allows. No conditions. -/
set_option linter.unusedSimpArgs false
set_option linter.unusedVariables false
namespace Go.Proofs.Ytclmcpbanaojfaa
open Go.Proofs.YtclmcpbanaojfaaV
set_option maxRecDepth 100000
/-! ### types -/
inductive Typ where
  | mk (kind : Int) (name : List UInt8) (args : List Typ) (nl : Bool)
namespace Typ
def kind : Typ → Int | mk k _ _ _ => k
def name : Typ → List UInt8 | mk _ n _ _ => n
def args : Typ → List Typ | mk _ _ a _ => a
def nl : Typ → Bool | mk _ _ _ b => b
end Typ
instance : Inhabited Typ := ⟨.mk 0 [] [] true⟩
mutual
def eTyp : Typ → List V | .mk k n ar nl => [.int .i64 k, .str n, .sl (eTyps ar) nl .no]
def eTyps : List Typ → List (List V) | [] => [] | v :: vs => eTyp v :: eTyps vs
end
mutual
def Typ.sz : Typ → Nat | .mk _ _ ar _ => 1 + tszs ar
def tszs : List Typ → Nat | [] => 0 | v :: vs => v.sz + tszs vs
end
theorem eTyps_map : ∀ vs, eTyps vs = vs.map eTyp
  | [] => rfl
  | v :: vs => by rw [eTyps, eTyps_map vs]; rfl
abbrev cTyp (v : Typ) : List V := [.int .i64 v.kind, .str v.name, .sl (v.args.map eTyp) v.nl .no]
theorem eTyp_eq (v : Typ) : eTyp v = cTyp v := by
  cases v; rw [eTyp, eTyps_map]; rfl
theorem tszs_mem {v : Typ} : ∀ {vs : List Typ}, v ∈ vs → v.sz ≤ tszs vs
  | u :: vs, h => by
    simp only [tszs]
    rcases List.mem_cons.1 h with rfl | h
    · omega
    · have := tszs_mem h; omega
theorem Typ.sz_eq (v : Typ) : v.sz = 1 + tszs v.args := by cases v; rw [Typ.sz]; rfl
theorem tszs_append : ∀ a b : List Typ, tszs (a ++ b) = tszs a + tszs b
  | [], b => by simp [tszs]
  | v :: a, b => by simp only [List.cons_append, tszs, tszs_append a b]; omega
theorem tszs_len : ∀ vs : List Typ, vs.length ≤ tszs vs
  | [] => by simp [tszs]
  | v :: vs => by have := tszs_len vs; have := v.sz_eq; simp only [tszs, List.length_cons]; omega
theorem Typ.sz_args {v a : Typ} (h : a ∈ v.args) : a.sz < v.sz := by have := tszs_mem h; have := v.sz_eq; omega
inductive OkTyp : Typ → Prop
  | mk {k : Int} {t : List UInt8} {ar : List Typ} {nl : Bool} (hk : IntKind.i64.min ≤ k ∧ k ≤ IntKind.i64.max) (ht : t.length ≤ bulk) (hnl : nl = true → ar = []) (hl : ar.length ≤ bulk) (ha : ∀ a ∈ ar, OkTyp a) : OkTyp (.mk k t ar nl)
theorem OkTyp.name {v : Typ} (h : OkTyp v) : v.name.length ≤ bulk := by cases h; assumption
theorem OkTyp.len {v : Typ} (h : OkTyp v) : v.args.length ≤ bulk := by cases h; assumption
theorem OkTyp.nil {v : Typ} (h : OkTyp v) : v.nl = true → v.args = [] := by cases h; assumption
theorem OkTyp.arg {v a : Typ} (h : OkTyp v) (ha : a ∈ v.args) : OkTyp a := by cases h; rename_i ha'; exact ha' a ha
theorem OkTyp.kind {v : Typ} (h : OkTyp v) : IntKind.i64.min ≤ v.kind ∧ v.kind ≤ IntKind.i64.max := by cases h; assumption
def oTyp (v : Typ) : Prop := OkTyp v ∧ v.sz ≤ bulk
theorem oTyp.arg {v a : Typ} (h : oTyp v) (ha : a ∈ v.args) : oTyp a := ⟨h.1.arg ha, Nat.le_trans (Nat.le_of_lt (Typ.sz_args ha)) h.2⟩
mutual
theorem tsz_le : ∀ v : Typ, v.sz ≤ vszL (eTyp v)
  | .mk k n ar nl => by have := tszs_le ar; simp only [Typ.sz, eTyp, vszL, vsz]; omega
theorem tszs_le : ∀ vs : List Typ, tszs vs ≤ vszLL (eTyps vs)
  | [] => by simp [tszs]
  | v :: vs => by have := tsz_le v; have := tszs_le vs; simp only [tszs, eTyps, vszLL]; omega
end
theorem pTyp (v : Typ) : 1 ≤ vszL (eTyp v) := by have := tsz_le v; have := v.sz_eq; omega
theorem dTyp0 : ∀ n, Dec Try.prog 32 eTyp OkTyp n := by
  intro n
  induction n using Nat.strongRecOn with
  | _ n ih =>
    intro cs hv hb
    obtain ⟨m, rfl, h⟩ := dec_struct (ts := [3, 9, 30]) (by kernel_rfl) hv
    obtain ⟨a0, r0, rfl, _, h0, a2, r2, rfl, _, h2, a3, r3, rfl, _, h3, rfl⟩ := h
    simp only [vszL_append] at hb
    obtain ⟨x0, rfl, q0⟩ := dec_int (n := m) (k := .i64) (by kernel_rfl) _ h0 (by omega)
    obtain ⟨x2, rfl, q2⟩ := dec_str (n := m) (by kernel_rfl) _ h2 (by omega)
    obtain ⟨x3, rfl, q3, q4, q5⟩ := dec_slice (n := m) (el := 32) (by kernel_rfl) pTyp (fun k hk => ih k (by omega)) _ h3 (by omega)
    exact ⟨.mk x0 x2 x3.1 x3.2, by rw [eTyp_eq]; rfl, .mk q0 q2 q3 q4 q5⟩
theorem dTyp (n : Nat) : Dec Try.prog 32 eTyp oTyp n := fun cs hv hb => by
  obtain ⟨x, rfl, h⟩ := dTyp0 n cs hv hb
  exact ⟨x, rfl, h, Nat.le_trans (tsz_le x) hb⟩
/-- Lists of types. -/
abbrev Typs := List Typ × Bool
def eTypL (x : Typs) : List V := [.sl (x.1.map eTyp) x.2 .no]
def oTypL (x : Typs) : Prop := (x.2 = true → x.1 = []) ∧ tszs x.1 ≤ bulk ∧ ∀ t ∈ x.1, OkTyp t
theorem pTypL (x : Typs) : 1 ≤ vszL (eTypL x) := by simp only [eTypL, vszL, vsz]; omega
theorem dTypL (n : Nat) : Dec Try.prog 30 eTypL oTypL n := fun cs hv hb => by
  obtain ⟨x, rfl, h1, h2, h3⟩ := dec_slice (el := 32) (by kernel_rfl) pTyp (fun k _ => dTyp0 k) cs hv hb
  refine ⟨x, rfl, h1, ?_, h3⟩
  have := tszs_le x.1
  rw [eTyps_map] at this
  simp only [vszL, vsz] at hb
  omega
theorem oTypL.mem {x : Typs} (h : oTypL x) {t : Typ} (ht : t ∈ x.1) : oTyp t := ⟨h.2.2 t ht, Nat.le_trans (tszs_mem ht) h.2.1⟩
theorem oTypL.len {x : Typs} (h : oTypL x) : x.1.length ≤ bulk := Nat.le_trans (tszs_len _) h.2.1
/-! ### patterns -/
inductive Pat where
  | mk (kind num : Int) (text : List UInt8) (args : List Pat) (nl : Bool)
namespace Pat
def kind : Pat → Int | mk k _ _ _ _ => k
def num : Pat → Int | mk _ n _ _ _ => n
def text : Pat → List UInt8 | mk _ _ t _ _ => t
def args : Pat → List Pat | mk _ _ _ a _ => a
def nl : Pat → Bool | mk _ _ _ _ b => b
end Pat
instance : Inhabited Pat := ⟨.mk 0 0 [] [] true⟩
mutual
def ePat : Pat → List V | .mk k n t ar nl => [.int .i64 k, .int .i64 n, .str t, .sl (ePats ar) nl .no]
def ePats : List Pat → List (List V) | [] => [] | v :: vs => ePat v :: ePats vs
end
mutual
def Pat.sz : Pat → Nat | .mk _ _ _ ar _ => 1 + pszs ar
def pszs : List Pat → Nat | [] => 0 | v :: vs => v.sz + pszs vs
end
theorem ePats_map : ∀ vs, ePats vs = vs.map ePat
  | [] => rfl
  | v :: vs => by rw [ePats, ePats_map vs]; rfl
abbrev cPat (v : Pat) : List V := [.int .i64 v.kind, .int .i64 v.num, .str v.text, .sl (v.args.map ePat) v.nl .no]
theorem ePat_eq (v : Pat) : ePat v = cPat v := by
  cases v; rw [ePat, ePats_map]; rfl
theorem pszs_mem {v : Pat} : ∀ {vs : List Pat}, v ∈ vs → v.sz ≤ pszs vs
  | u :: vs, h => by
    simp only [pszs]
    rcases List.mem_cons.1 h with rfl | h
    · omega
    · have := pszs_mem h; omega
theorem Pat.sz_eq (v : Pat) : v.sz = 1 + pszs v.args := by cases v; rw [Pat.sz]; rfl
theorem pszs_append : ∀ a b : List Pat, pszs (a ++ b) = pszs a + pszs b
  | [], b => by simp [pszs]
  | v :: a, b => by simp only [List.cons_append, pszs, pszs_append a b]; omega
theorem pszs_len : ∀ vs : List Pat, vs.length ≤ pszs vs
  | [] => by simp [pszs]
  | v :: vs => by have := pszs_len vs; have := v.sz_eq; simp only [pszs, List.length_cons]; omega
theorem Pat.sz_args {v a : Pat} (h : a ∈ v.args) : a.sz < v.sz := by have := pszs_mem h; have := v.sz_eq; omega
inductive OkPat : Pat → Prop
  | mk {k n : Int} {t : List UInt8} {ar : List Pat} {nl : Bool} (hk : IntKind.i64.min ≤ k ∧ k ≤ IntKind.i64.max) (hn : IntKind.i64.min ≤ n ∧ n ≤ IntKind.i64.max) (ht : t.length ≤ bulk) (hnl : nl = true → ar = []) (hl : ar.length ≤ bulk) (ha : ∀ a ∈ ar, OkPat a) : OkPat (.mk k n t ar nl)
theorem OkPat.text {v : Pat} (h : OkPat v) : v.text.length ≤ bulk := by cases h; assumption
theorem OkPat.len {v : Pat} (h : OkPat v) : v.args.length ≤ bulk := by cases h; assumption
theorem OkPat.arg {v a : Pat} (h : OkPat v) (ha : a ∈ v.args) : OkPat a := by cases h; rename_i ha'; exact ha' a ha
mutual
theorem psz_le : ∀ v : Pat, v.sz ≤ vszL (ePat v)
  | .mk k n t ar nl => by have := pszs_le ar; simp only [Pat.sz, ePat, vszL, vsz]; omega
theorem pszs_le : ∀ vs : List Pat, pszs vs ≤ vszLL (ePats vs)
  | [] => by simp [pszs]
  | v :: vs => by have := psz_le v; have := pszs_le vs; simp only [pszs, ePats, vszLL]; omega
end
theorem pPat (v : Pat) : 1 ≤ vszL (ePat v) := by have := psz_le v; have := v.sz_eq; omega
theorem dPat0 : ∀ n, Dec Try.prog 114 ePat OkPat n := by
  intro n
  induction n using Nat.strongRecOn with
  | _ n ih =>
    intro cs hv hb
    obtain ⟨m, rfl, h⟩ := dec_struct (ts := [3, 3, 9, 107]) (by kernel_rfl) hv
    obtain ⟨a0, r0, rfl, _, h0, a1, r1, rfl, _, h1, a2, r2, rfl, _, h2, a3, r3, rfl, _, h3, rfl⟩ := h
    simp only [vszL_append] at hb
    obtain ⟨x0, rfl, q0⟩ := dec_int (n := m) (k := .i64) (by kernel_rfl) _ h0 (by omega)
    obtain ⟨x1, rfl, q1⟩ := dec_int (n := m) (k := .i64) (by kernel_rfl) _ h1 (by omega)
    obtain ⟨x2, rfl, q2⟩ := dec_str (n := m) (by kernel_rfl) _ h2 (by omega)
    obtain ⟨x3, rfl, q3, q4, q5⟩ := dec_slice (n := m) (el := 114) (by kernel_rfl) pPat (fun k hk => ih k (by omega)) _ h3 (by omega)
    exact ⟨.mk x0 x1 x2 x3.1 x3.2, by rw [ePat_eq]; rfl, .mk q0 q1 q2 q3 q4 q5⟩
/-! ### expressions -/
def eNm (s : List UInt8) : List V := [.str s]
theorem pNm (s : List UInt8) : 1 ≤ vszL (eNm s) := by simp only [eNm, vszL, vsz]; omega
abbrev Nms := List (List UInt8) × Bool
def eNmL (x : Nms) : List V := [.sl (x.1.map eNm) x.2 .no]
def oNmL (x : Nms) : Prop := (x.2 = true → x.1 = []) ∧ x.1.length ≤ bulk ∧ ∀ s ∈ x.1, s.length ≤ bulk
theorem pNmL (x : Nms) : 1 ≤ vszL (eNmL x) := by simp only [eNmL, vszL, vsz]; omega
theorem dNmL (n : Nat) : Dec Try.prog 36 eNmL oNmL n := dec_slice (el := 9) (by kernel_rfl) pNm (fun k _ => dec_str (by kernel_rfl))
mutual
inductive Ex where
  | mk (kind num : Int) (text : List UInt8) (names : Nms) (types : Typs) (args : List Ex) (anl : Bool) (arms : List Arm) (mnl : Bool) (at_ : Int)
inductive Arm where
  | mk (pat : Pat) (body : Ex)
end
namespace Ex
def kind : Ex → Int | mk k _ _ _ _ _ _ _ _ _ => k
def num : Ex → Int | mk _ n _ _ _ _ _ _ _ _ => n
def text : Ex → List UInt8 | mk _ _ t _ _ _ _ _ _ _ => t
def names : Ex → Nms | mk _ _ _ n _ _ _ _ _ _ => n
def types : Ex → Typs | mk _ _ _ _ t _ _ _ _ _ => t
def args : Ex → List Ex | mk _ _ _ _ _ a _ _ _ _ => a
def anl : Ex → Bool | mk _ _ _ _ _ _ b _ _ _ => b
def arms : Ex → List Arm | mk _ _ _ _ _ _ _ m _ _ => m
def mnl : Ex → Bool | mk _ _ _ _ _ _ _ _ b _ => b
def pos : Ex → Int | mk _ _ _ _ _ _ _ _ _ a => a
end Ex
namespace Arm
def pat : Arm → Pat | mk p _ => p
def body : Arm → Ex | mk _ b => b
end Arm
instance : Inhabited Ex := ⟨.mk 0 0 [] ([], true) ([], true) [] true [] true 0⟩
mutual
def eEx : Ex → List V | .mk k n t nm ty ar anl ms mnl p => [.int .i64 k, .int .i64 n, .str t, .sl (nm.1.map eNm) nm.2 .no, .sl (ty.1.map eTyp) ty.2 .no, .sl (eExs ar) anl .no, .sl (eArms ms) mnl .no, .int .i64 p]
def eExs : List Ex → List (List V) | [] => [] | v :: vs => eEx v :: eExs vs
def eArm : Arm → List V | .mk p b => ePat p ++ eEx b
def eArms : List Arm → List (List V) | [] => [] | v :: vs => eArm v :: eArms vs
end
theorem eExs_map : ∀ vs, eExs vs = vs.map eEx
  | [] => rfl
  | v :: vs => by rw [eExs, eExs_map vs]; rfl
theorem eArms_map : ∀ vs, eArms vs = vs.map eArm
  | [] => rfl
  | v :: vs => by rw [eArms, eArms_map vs]; rfl
abbrev cEx (v : Ex) : List V := [.int .i64 v.kind, .int .i64 v.num, .str v.text, .sl (v.names.1.map eNm) v.names.2 .no, .sl (v.types.1.map eTyp) v.types.2 .no, .sl (v.args.map eEx) v.anl .no, .sl (v.arms.map eArm) v.mnl .no, .int .i64 v.pos]
theorem eEx_eq (v : Ex) : eEx v = cEx v := by
  cases v; rw [eEx, eExs_map, eArms_map]; rfl
theorem eArm_eq (m : Arm) : eArm m = cPat m.pat ++ cEx m.body := by
  cases m; rw [eArm, ePat_eq, eEx_eq]; rfl
mutual
def Ex.sz : Ex → Nat | .mk _ _ _ _ _ ar _ ms _ _ => 1 + exszs ar + amszs ms
def exszs : List Ex → Nat | [] => 0 | v :: vs => v.sz + exszs vs
def Arm.sz : Arm → Nat | .mk p b => p.sz + b.sz
def amszs : List Arm → Nat | [] => 0 | v :: vs => v.sz + amszs vs
end
theorem Ex.sz_eq (v : Ex) : v.sz = 1 + exszs v.args + amszs v.arms := by cases v; rw [Ex.sz]; rfl
theorem Arm.sz_eq (v : Arm) : v.sz = v.pat.sz + v.body.sz := by cases v; rw [Arm.sz]; rfl
theorem exszs_append : ∀ a b : List Ex, exszs (a ++ b) = exszs a + exszs b
  | [], b => by simp [exszs]
  | v :: a, b => by simp only [List.cons_append, exszs, exszs_append a b]; omega
theorem exszs_len : ∀ vs : List Ex, vs.length ≤ exszs vs
  | [] => by simp [exszs]
  | v :: vs => by have := exszs_len vs; have := v.sz_eq; simp only [exszs, List.length_cons]; omega
theorem amszs_len : ∀ vs : List Arm, vs.length ≤ amszs vs
  | [] => by simp [amszs]
  | v :: vs => by have := amszs_len vs; have := v.sz_eq; have := v.pat.sz_eq; simp only [amszs, List.length_cons]; omega
inductive OkEx : Ex → Prop
  | mk {k n : Int} {t : List UInt8} {nm : Nms} {ty : Typs} {ar : List Ex} {anl : Bool} {ms : List Arm} {mnl : Bool} {p : Int} (hk : IntKind.i64.min ≤ k ∧ k ≤ IntKind.i64.max) (hn : IntKind.i64.min ≤ n ∧ n ≤ IntKind.i64.max) (ht : t.length ≤ bulk) (hnm : oNmL nm) (hty : oTypL ty) (hnl : anl = true → ar = []) (hl : ar.length ≤ bulk) (ha : ∀ a ∈ ar, OkEx a) (hml : mnl = true → ms = []) (hmn : ms.length ≤ bulk) (hp : ∀ m ∈ ms, OkPat m.pat) (hm : ∀ m ∈ ms, OkEx m.body) (hat : IntKind.i64.min ≤ p ∧ p ≤ IntKind.i64.max) : OkEx (.mk k n t nm ty ar anl ms mnl p)
theorem OkEx.types {v : Ex} (h : OkEx v) : oTypL v.types := by cases h; assumption
theorem OkEx.names {v : Ex} (h : OkEx v) : oNmL v.names := by cases h; assumption
theorem OkEx.text {v : Ex} (h : OkEx v) : v.text.length ≤ bulk := by cases h; assumption
theorem OkEx.kind {v : Ex} (h : OkEx v) : IntKind.i64.min ≤ v.kind ∧ v.kind ≤ IntKind.i64.max := by cases h; assumption
theorem OkEx.num {v : Ex} (h : OkEx v) : IntKind.i64.min ≤ v.num ∧ v.num ≤ IntKind.i64.max := by cases h; assumption
theorem OkEx.pos {v : Ex} (h : OkEx v) : IntKind.i64.min ≤ v.pos ∧ v.pos ≤ IntKind.i64.max := by cases h; assumption
theorem OkEx.len {v : Ex} (h : OkEx v) : v.args.length ≤ bulk := by cases h; assumption
theorem OkEx.mlen {v : Ex} (h : OkEx v) : v.arms.length ≤ bulk := by cases h; assumption
theorem OkEx.nil {v : Ex} (h : OkEx v) : v.anl = true → v.args = [] := by cases h; assumption
theorem OkEx.arg {v a : Ex} (h : OkEx v) (ha : a ∈ v.args) : OkEx a := by cases h; rename_i ha' _ _ _ _ _; exact ha' a ha
theorem OkEx.pat {v : Ex} {m : Arm} (h : OkEx v) (hm : m ∈ v.arms) : OkPat m.pat := by cases h; rename_i h1 h2 h3; exact h1 m hm
theorem OkEx.body {v : Ex} {m : Arm} (h : OkEx v) (hm : m ∈ v.arms) : OkEx m.body := by cases h; rename_i h1 h2 h3; exact h2 m hm
def oEx (v : Ex) : Prop := OkEx v ∧ v.sz ≤ bulk
mutual
theorem exsz_le : ∀ v : Ex, v.sz ≤ vszL (eEx v)
  | .mk k n t nm ty ar anl ms mnl p => by have := exszs_le ar; have := amszs_le ms; simp only [Ex.sz, eEx, vszL, vsz]; omega
theorem exszs_le : ∀ vs : List Ex, exszs vs ≤ vszLL (eExs vs)
  | [] => by simp [exszs]
  | v :: vs => by have := exsz_le v; have := exszs_le vs; simp only [exszs, eExs, vszLL]; omega
theorem amsz_le : ∀ v : Arm, v.sz ≤ vszL (eArm v)
  | .mk p b => by have := psz_le p; have := exsz_le b; simp only [Arm.sz, eArm, vszL_append]; omega
theorem amszs_le : ∀ vs : List Arm, amszs vs ≤ vszLL (eArms vs)
  | [] => by simp [amszs]
  | v :: vs => by have := amsz_le v; have := amszs_le vs; simp only [amszs, eArms, vszLL]; omega
end
theorem pEx (v : Ex) : 1 ≤ vszL (eEx v) := by have := exsz_le v; have := v.sz_eq; omega
theorem pArm (v : Arm) : 1 ≤ vszL (eArm v) := by have := amsz_le v; have := v.sz_eq; have := v.pat.sz_eq; omega
theorem dEx0 : ∀ n, Dec Try.prog 40 eEx OkEx n := by
  intro n
  induction n using Nat.strongRecOn with
  | _ n ih =>
    intro cs hv hb
    obtain ⟨m, rfl, h⟩ := dec_struct (ts := [3, 3, 9, 36, 30, 37, 38, 3]) (by kernel_rfl) hv
    obtain ⟨a0, r0, rfl, _, h0, a1, r1, rfl, _, h1, a2, r2, rfl, _, h2, a3, r3, rfl, _, h3, a4, r4, rfl, _, h4, a5, r5, rfl, _, h5, a6, r6, rfl, _, h6, a7, r7, rfl, _, h7, rfl⟩ := h
    simp only [vszL_append] at hb
    obtain ⟨x0, rfl, q0⟩ := dec_int (n := m) (k := .i64) (by kernel_rfl) _ h0 (by omega)
    obtain ⟨x1, rfl, q1⟩ := dec_int (n := m) (k := .i64) (by kernel_rfl) _ h1 (by omega)
    obtain ⟨x2, rfl, q2⟩ := dec_str (n := m) (by kernel_rfl) _ h2 (by omega)
    obtain ⟨x3, rfl, q3⟩ := dNmL m _ h3 (by omega)
    obtain ⟨x4, rfl, q4⟩ := dTypL m _ h4 (by omega)
    obtain ⟨x5, rfl, q5, q6, q7⟩ := dec_slice (n := m) (el := 40) (by kernel_rfl) pEx (fun k hk => ih k (by omega)) _ h5 (by omega)
    obtain ⟨x6, rfl, q8, q9, q10⟩ := dec_slice (n := m) (el := 367) (e := eArm) (o := fun m => OkPat m.pat ∧ OkEx m.body) (by kernel_rfl) pArm (fun k hk => by
      intro cs hv hb
      obtain ⟨m2, rfl, h⟩ := dec_struct (ts := [114, 40]) (by kernel_rfl) hv
      obtain ⟨a0, r0, rfl, _, h0, a1, r1, rfl, _, h1, rfl⟩ := h
      simp only [vszL_append] at hb
      obtain ⟨x0, rfl, q0⟩ := dPat0 m2 _ h0 (by omega)
      obtain ⟨x1, rfl, q1⟩ := ih m2 (by omega) _ h1 (by omega)
      exact ⟨.mk x0 x1, by rw [eArm, List.append_nil], q0, q1⟩) _ h6 (by omega)
    obtain ⟨x7, rfl, q11⟩ := dec_int (n := m) (k := .i64) (by kernel_rfl) _ h7 (by omega)
    exact ⟨.mk x0 x1 x2 x3 x4 x5.1 x5.2 x6.1 x6.2 x7, by rw [eEx_eq]; rfl, .mk q0 q1 q2 q3 q4 q5 q6 q7 q8 q9 (fun m hm => (q10 m hm).1) (fun m hm => (q10 m hm).2) q11⟩
theorem dEx (n : Nat) : Dec Try.prog 40 eEx oEx n := fun cs hv hb => by
  obtain ⟨x, rfl, h⟩ := dEx0 n cs hv hb
  exact ⟨x, rfl, h, Nat.le_trans (exsz_le x) hb⟩
end Go.Proofs.Ytclmcpbanaojfaa

/- Types as data; no conditions. -/
set_option linter.unusedVariables false
set_option linter.unusedSimpArgs false
set_option maxRecDepth 100000
namespace Go.Proofs.Ytclmcpbanaojfaa
open Go.RowKit Go.Proofs.YtclmcpbanaojfaaV
def e9 (x : (List UInt8)) : List V := [.str x]
def o9 (x : (List UInt8)) : Prop := x.length ≤ bulk
theorem d9 (n : Nat) : Dec Try.prog 9 e9 o9 n := dec_str (by kernel_rfl)
theorem p9 (x : (List UInt8)) : 1 ≤ vszL (e9 x) := by simp only [e9, vszL, vsz]; omega
def e3 (x : Int) : List V := [.int .i64 x]
def o3 (x : Int) : Prop := IntKind.i64.min ≤ x ∧ x ≤ IntKind.i64.max
theorem d3 (n : Nat) : Dec Try.prog 3 e3 o3 n := dec_int (by kernel_rfl)
theorem p3 (x : Int) : 1 ≤ vszL (e3 x) := by simp only [e3, vszL, vsz]; omega
abbrev D494 := (List UInt8) × Int × Int
def e494 (x : D494) : List V := [.str x.1, .int .i64 x.2.1, .int .i64 x.2.2]
def o494 (x : D494) : Prop := o9 x.1 ∧ o3 x.2.1 ∧ o3 x.2.2
theorem d494 (n : Nat) : Dec Try.prog 494 e494 o494 n := by
  intro cs hv hb
  obtain ⟨m, rfl, h⟩ := dec_struct (ts := [9, 3, 3]) (by kernel_rfl) hv
  obtain ⟨a0, r0, rfl, _, h0, a1, r1, rfl, _, h1, a2, r2, rfl, _, h2, rfl⟩ := h
  simp only [vszL_append] at hb
  obtain ⟨x0, rfl, q0⟩ := d9 m _ h0 (by omega)
  obtain ⟨x1, rfl, q1⟩ := d3 m _ h1 (by omega)
  obtain ⟨x2, rfl, q2⟩ := d3 m _ h2 (by omega)
  exact ⟨(x0, x1, x2), rfl, q0, q1, q2⟩
theorem p494 (x : D494) : 1 ≤ vszL (e494 x) := by simp only [e494, vszL, vsz]; omega
abbrev D22 := List D494 × Bool
def e22 (x : D22) : List V := [.sl (x.1.map e494) x.2 .no]
def o22 (x : D22) : Prop := OkS o494 x
theorem d22 (n : Nat) : Dec Try.prog 22 e22 o22 n := dec_slice (el := 494) (by kernel_rfl) p494 (fun m _ => d494 m)
theorem p22 (x : D22) : 1 ≤ vszL (e22 x) := by simp only [e22, vszL, vsz]; omega
abbrev e36 := eNmL
abbrev o36 := oNmL
theorem d36 (n : Nat) : Dec Try.prog 36 e36 o36 n := dNmL n
theorem p36 (x : Nms) : 1 ≤ vszL (e36 x) := pNmL x
abbrev e30 := eTypL
abbrev o30 := oTypL
theorem d30 (n : Nat) : Dec Try.prog 30 e30 o30 n := dTypL n
theorem p30 (x : Typs) : 1 ≤ vszL (e30 x) := pTypL x
abbrev D196 := (List UInt8) × Typs
def e196 (x : D196) : List V := [.str x.1, .sl (x.2.1.map eTyp) x.2.2 .no]
def o196 (x : D196) : Prop := o9 x.1 ∧ o30 x.2
theorem d196 (n : Nat) : Dec Try.prog 196 e196 o196 n := by
  intro cs hv hb
  obtain ⟨m, rfl, h⟩ := dec_struct (ts := [9, 30]) (by kernel_rfl) hv
  obtain ⟨a0, r0, rfl, _, h0, a1, r1, rfl, _, h1, rfl⟩ := h
  simp only [vszL_append] at hb
  obtain ⟨x0, rfl, q0⟩ := d9 m _ h0 (by omega)
  obtain ⟨x1, rfl, q1⟩ := d30 m _ h1 (by omega)
  exact ⟨(x0, x1), by simp only [e196, e9, e30, eVal_eq, eTyp_eq, eEx_eq, ePat_eq, cTyp, cEx, cPat, eTypL, eNmL, List.cons_append, List.nil_append, List.append_nil], q0, q1⟩
theorem p196 (x : D196) : 1 ≤ vszL (e196 x) := by simp only [e196, vszL, vsz]; omega
abbrev D192 := List D196 × Bool
def e192 (x : D192) : List V := [.sl (x.1.map e196) x.2 .no]
def o192 (x : D192) : Prop := OkS o196 x
theorem d192 (n : Nat) : Dec Try.prog 192 e192 o192 n := dec_slice (el := 196) (by kernel_rfl) p196 (fun m _ => d196 m)
theorem p192 (x : D192) : 1 ≤ vszL (e192 x) := by simp only [e192, vszL, vsz]; omega
abbrev D194 := (List UInt8) × Nms × D192
def e194 (x : D194) : List V := [.str x.1, .sl (x.2.1.1.map eNm) x.2.1.2 .no, .sl (x.2.2.1.map e196) x.2.2.2 .no]
def o194 (x : D194) : Prop := o9 x.1 ∧ o36 x.2.1 ∧ o192 x.2.2
theorem d194 (n : Nat) : Dec Try.prog 194 e194 o194 n := by
  intro cs hv hb
  obtain ⟨m, rfl, h⟩ := dec_struct (ts := [9, 36, 192]) (by kernel_rfl) hv
  obtain ⟨a0, r0, rfl, _, h0, a1, r1, rfl, _, h1, a2, r2, rfl, _, h2, rfl⟩ := h
  simp only [vszL_append] at hb
  obtain ⟨x0, rfl, q0⟩ := d9 m _ h0 (by omega)
  obtain ⟨x1, rfl, q1⟩ := d36 m _ h1 (by omega)
  obtain ⟨x2, rfl, q2⟩ := d192 m _ h2 (by omega)
  exact ⟨(x0, x1, x2), by simp only [e194, e9, e36, e192, eVal_eq, eTyp_eq, eEx_eq, ePat_eq, cTyp, cEx, cPat, eTypL, eNmL, List.cons_append, List.nil_append, List.append_nil], q0, q1, q2⟩
theorem p194 (x : D194) : 1 ≤ vszL (e194 x) := by simp only [e194, vszL, vsz]; omega
abbrev D23 := List D194 × Bool
def e23 (x : D23) : List V := [.sl (x.1.map e194) x.2 .no]
def o23 (x : D23) : Prop := OkS o194 x
theorem d23 (n : Nat) : Dec Try.prog 23 e23 o23 n := dec_slice (el := 194) (by kernel_rfl) p194 (fun m _ => d194 m)
theorem p23 (x : D23) : 1 ≤ vszL (e23 x) := by simp only [e23, vszL, vsz]; omega
abbrev e32 := eTyp
abbrev o32 := oTyp
theorem d32 (n : Nat) : Dec Try.prog 32 e32 o32 n := dTyp n
theorem p32 (x : Typ) : 1 ≤ vszL (e32 x) := pTyp x
abbrev e40 := eEx
abbrev o40 := oEx
theorem d40 (n : Nat) : Dec Try.prog 40 e40 o40 n := dEx n
theorem p40 (x : Ex) : 1 ≤ vszL (e40 x) := pEx x
abbrev D365 := (List UInt8) × Nms × Nms × Typs × Typ × Ex
def e365 (x : D365) : List V := [.str x.1, .sl (x.2.1.1.map eNm) x.2.1.2 .no, .sl (x.2.2.1.1.map eNm) x.2.2.1.2 .no, .sl (x.2.2.2.1.1.map eTyp) x.2.2.2.1.2 .no, .int .i64 x.2.2.2.2.1.kind, .str x.2.2.2.2.1.name, .sl (x.2.2.2.2.1.args.map eTyp) x.2.2.2.2.1.nl .no, .int .i64 x.2.2.2.2.2.kind, .int .i64 x.2.2.2.2.2.num, .str x.2.2.2.2.2.text, .sl (x.2.2.2.2.2.names.1.map eNm) x.2.2.2.2.2.names.2 .no, .sl (x.2.2.2.2.2.types.1.map eTyp) x.2.2.2.2.2.types.2 .no, .sl (x.2.2.2.2.2.args.map eEx) x.2.2.2.2.2.anl .no, .sl (x.2.2.2.2.2.arms.map eArm) x.2.2.2.2.2.mnl .no, .int .i64 x.2.2.2.2.2.pos]
def o365 (x : D365) : Prop := o9 x.1 ∧ o36 x.2.1 ∧ o36 x.2.2.1 ∧ o30 x.2.2.2.1 ∧ o32 x.2.2.2.2.1 ∧ o40 x.2.2.2.2.2
theorem d365 (n : Nat) : Dec Try.prog 365 e365 o365 n := by
  intro cs hv hb
  obtain ⟨m, rfl, h⟩ := dec_struct (ts := [9, 36, 36, 30, 32, 40]) (by kernel_rfl) hv
  obtain ⟨a0, r0, rfl, _, h0, a1, r1, rfl, _, h1, a2, r2, rfl, _, h2, a3, r3, rfl, _, h3, a4, r4, rfl, _, h4, a5, r5, rfl, _, h5, rfl⟩ := h
  simp only [vszL_append] at hb
  obtain ⟨x0, rfl, q0⟩ := d9 m _ h0 (by omega)
  obtain ⟨x1, rfl, q1⟩ := d36 m _ h1 (by omega)
  obtain ⟨x2, rfl, q2⟩ := d36 m _ h2 (by omega)
  obtain ⟨x3, rfl, q3⟩ := d30 m _ h3 (by omega)
  obtain ⟨x4, rfl, q4⟩ := d32 m _ h4 (by omega)
  obtain ⟨x5, rfl, q5⟩ := d40 m _ h5 (by omega)
  exact ⟨(x0, x1, x2, x3, x4, x5), by simp only [e365, e9, e36, e36, e30, e32, e40, eVal_eq, eTyp_eq, eEx_eq, ePat_eq, cTyp, cEx, cPat, eTypL, eNmL, List.cons_append, List.nil_append, List.append_nil], q0, q1, q2, q3, q4, q5⟩
theorem p365 (x : D365) : 1 ≤ vszL (e365 x) := by simp only [e365, vszL, vsz]; omega
abbrev D26 := List D365 × Bool
def e26 (x : D26) : List V := [.sl (x.1.map e365) x.2 .no]
def o26 (x : D26) : Prop := OkS o365 x
theorem d26 (n : Nat) : Dec Try.prog 26 e26 o26 n := dec_slice (el := 365) (by kernel_rfl) p365 (fun m _ => d365 m)
theorem p26 (x : D26) : 1 ≤ vszL (e26 x) := by simp only [e26, vszL, vsz]; omega
abbrev D198 := (List UInt8) × D26
def e198 (x : D198) : List V := [.str x.1, .sl (x.2.1.map e365) x.2.2 .no]
def o198 (x : D198) : Prop := o9 x.1 ∧ o26 x.2
theorem d198 (n : Nat) : Dec Try.prog 198 e198 o198 n := by
  intro cs hv hb
  obtain ⟨m, rfl, h⟩ := dec_struct (ts := [9, 26]) (by kernel_rfl) hv
  obtain ⟨a0, r0, rfl, _, h0, a1, r1, rfl, _, h1, rfl⟩ := h
  simp only [vszL_append] at hb
  obtain ⟨x0, rfl, q0⟩ := d9 m _ h0 (by omega)
  obtain ⟨x1, rfl, q1⟩ := d26 m _ h1 (by omega)
  exact ⟨(x0, x1), rfl, q0, q1⟩
theorem p198 (x : D198) : 1 ≤ vszL (e198 x) := by simp only [e198, vszL, vsz]; omega
abbrev D24 := List D198 × Bool
def e24 (x : D24) : List V := [.sl (x.1.map e198) x.2 .no]
def o24 (x : D24) : Prop := OkS o198 x
theorem d24 (n : Nat) : Dec Try.prog 24 e24 o24 n := dec_slice (el := 198) (by kernel_rfl) p198 (fun m _ => d198 m)
theorem p24 (x : D24) : 1 ≤ vszL (e24 x) := by simp only [e24, vszL, vsz]; omega
abbrev D200 := (List UInt8) × (List UInt8) × D26
def e200 (x : D200) : List V := [.str x.1, .str x.2.1, .sl (x.2.2.1.map e365) x.2.2.2 .no]
def o200 (x : D200) : Prop := o9 x.1 ∧ o9 x.2.1 ∧ o26 x.2.2
theorem d200 (n : Nat) : Dec Try.prog 200 e200 o200 n := by
  intro cs hv hb
  obtain ⟨m, rfl, h⟩ := dec_struct (ts := [9, 9, 26]) (by kernel_rfl) hv
  obtain ⟨a0, r0, rfl, _, h0, a1, r1, rfl, _, h1, a2, r2, rfl, _, h2, rfl⟩ := h
  simp only [vszL_append] at hb
  obtain ⟨x0, rfl, q0⟩ := d9 m _ h0 (by omega)
  obtain ⟨x1, rfl, q1⟩ := d9 m _ h1 (by omega)
  obtain ⟨x2, rfl, q2⟩ := d26 m _ h2 (by omega)
  exact ⟨(x0, x1, x2), rfl, q0, q1, q2⟩
theorem p200 (x : D200) : 1 ≤ vszL (e200 x) := by simp only [e200, vszL, vsz]; omega
abbrev D25 := List D200 × Bool
def e25 (x : D25) : List V := [.sl (x.1.map e200) x.2 .no]
def o25 (x : D25) : Prop := OkS o200 x
theorem d25 (n : Nat) : Dec Try.prog 25 e25 o25 n := dec_slice (el := 200) (by kernel_rfl) p200 (fun m _ => d200 m)
theorem p25 (x : D25) : 1 ≤ vszL (e25 x) := by simp only [e25, vszL, vsz]; omega
abbrev D42 := (List UInt8) × Nms × Typs × Typ × Ex
def e42 (x : D42) : List V := [.str x.1, .sl (x.2.1.1.map eNm) x.2.1.2 .no, .sl (x.2.2.1.1.map eTyp) x.2.2.1.2 .no, .int .i64 x.2.2.2.1.kind, .str x.2.2.2.1.name, .sl (x.2.2.2.1.args.map eTyp) x.2.2.2.1.nl .no, .int .i64 x.2.2.2.2.kind, .int .i64 x.2.2.2.2.num, .str x.2.2.2.2.text, .sl (x.2.2.2.2.names.1.map eNm) x.2.2.2.2.names.2 .no, .sl (x.2.2.2.2.types.1.map eTyp) x.2.2.2.2.types.2 .no, .sl (x.2.2.2.2.args.map eEx) x.2.2.2.2.anl .no, .sl (x.2.2.2.2.arms.map eArm) x.2.2.2.2.mnl .no, .int .i64 x.2.2.2.2.pos]
def o42 (x : D42) : Prop := o9 x.1 ∧ o36 x.2.1 ∧ o30 x.2.2.1 ∧ o32 x.2.2.2.1 ∧ o40 x.2.2.2.2
theorem d42 (n : Nat) : Dec Try.prog 42 e42 o42 n := by
  intro cs hv hb
  obtain ⟨m, rfl, h⟩ := dec_struct (ts := [9, 36, 30, 32, 40]) (by kernel_rfl) hv
  obtain ⟨a0, r0, rfl, _, h0, a1, r1, rfl, _, h1, a2, r2, rfl, _, h2, a3, r3, rfl, _, h3, a4, r4, rfl, _, h4, rfl⟩ := h
  simp only [vszL_append] at hb
  obtain ⟨x0, rfl, q0⟩ := d9 m _ h0 (by omega)
  obtain ⟨x1, rfl, q1⟩ := d36 m _ h1 (by omega)
  obtain ⟨x2, rfl, q2⟩ := d30 m _ h2 (by omega)
  obtain ⟨x3, rfl, q3⟩ := d32 m _ h3 (by omega)
  obtain ⟨x4, rfl, q4⟩ := d40 m _ h4 (by omega)
  exact ⟨(x0, x1, x2, x3, x4), by simp only [e42, e9, e36, e30, e32, e40, eVal_eq, eTyp_eq, eEx_eq, ePat_eq, cTyp, cEx, cPat, eTypL, eNmL, List.cons_append, List.nil_append, List.append_nil], q0, q1, q2, q3, q4⟩
theorem p42 (x : D42) : 1 ≤ vszL (e42 x) := by simp only [e42, vszL, vsz]; omega
abbrev D27 := List D42 × Bool
def e27 (x : D27) : List V := [.sl (x.1.map e42) x.2 .no]
def o27 (x : D27) : Prop := OkS o42 x
theorem d27 (n : Nat) : Dec Try.prog 27 e27 o27 n := dec_slice (el := 42) (by kernel_rfl) p42 (fun m _ => d42 m)
theorem p27 (x : D27) : 1 ≤ vszL (e27 x) := by simp only [e27, vszL, vsz]; omega
abbrev D29 := (List UInt8) × Int × D22 × D23 × D24 × D25 × D26 × D27
def e29 (x : D29) : List V := [.str x.1, .int .i64 x.2.1, .sl (x.2.2.1.1.map e494) x.2.2.1.2 .no, .sl (x.2.2.2.1.1.map e194) x.2.2.2.1.2 .no, .sl (x.2.2.2.2.1.1.map e198) x.2.2.2.2.1.2 .no, .sl (x.2.2.2.2.2.1.1.map e200) x.2.2.2.2.2.1.2 .no, .sl (x.2.2.2.2.2.2.1.1.map e365) x.2.2.2.2.2.2.1.2 .no, .sl (x.2.2.2.2.2.2.2.1.map e42) x.2.2.2.2.2.2.2.2 .no]
def o29 (x : D29) : Prop := o9 x.1 ∧ o3 x.2.1 ∧ o22 x.2.2.1 ∧ o23 x.2.2.2.1 ∧ o24 x.2.2.2.2.1 ∧ o25 x.2.2.2.2.2.1 ∧ o26 x.2.2.2.2.2.2.1 ∧ o27 x.2.2.2.2.2.2.2
theorem d29 (n : Nat) : Dec Try.prog 29 e29 o29 n := by
  intro cs hv hb
  obtain ⟨m, rfl, h⟩ := dec_struct (ts := [9, 3, 22, 23, 24, 25, 26, 27]) (by kernel_rfl) hv
  obtain ⟨a0, r0, rfl, _, h0, a1, r1, rfl, _, h1, a2, r2, rfl, _, h2, a3, r3, rfl, _, h3, a4, r4, rfl, _, h4, a5, r5, rfl, _, h5, a6, r6, rfl, _, h6, a7, r7, rfl, _, h7, rfl⟩ := h
  simp only [vszL_append] at hb
  obtain ⟨x0, rfl, q0⟩ := d9 m _ h0 (by omega)
  obtain ⟨x1, rfl, q1⟩ := d3 m _ h1 (by omega)
  obtain ⟨x2, rfl, q2⟩ := d22 m _ h2 (by omega)
  obtain ⟨x3, rfl, q3⟩ := d23 m _ h3 (by omega)
  obtain ⟨x4, rfl, q4⟩ := d24 m _ h4 (by omega)
  obtain ⟨x5, rfl, q5⟩ := d25 m _ h5 (by omega)
  obtain ⟨x6, rfl, q6⟩ := d26 m _ h6 (by omega)
  obtain ⟨x7, rfl, q7⟩ := d27 m _ h7 (by omega)
  exact ⟨(x0, x1, x2, x3, x4, x5, x6, x7), rfl, q0, q1, q2, q3, q4, q5, q6, q7⟩
theorem p29 (x : D29) : 1 ≤ vszL (e29 x) := by simp only [e29, vszL, vsz]; omega
end Go.Proofs.Ytclmcpbanaojfaa

/- The arguments of 'roadlaw5.RenewPlan' as data; no conditions. -/
set_option linter.unusedVariables false
set_option linter.unusedSimpArgs false
set_option maxRecDepth 100000
namespace Go.Proofs.Ytclmcpbanaojfaa.renewPlan
open Go.RowKit Go.Proofs.YtclmcpbanaojfaaV

theorem args {xs : List V} (h : TyAll Try.prog [29, 29] xs) (hs : vszL xs ≤ 1048576) : ∃ (x0 : D29) (x1 : D29), xs = [.agg (e29 x0), .agg (e29 x1)] ∧ o29 x0 ∧ o29 x1 := by
  obtain ⟨y0, r0, rfl, h0, y1, r1, rfl, h1, rfl⟩ := h
  simp only [vszL] at hs
  obtain ⟨x0, rfl, q0⟩ := dec_agg (by kernel_rfl) d29 h0 (by show vsz _ ≤ 1048576; omega)
  obtain ⟨x1, rfl, q1⟩ := dec_agg (by kernel_rfl) d29 h1 (by show vsz _ ≤ 1048576; omega)
  exact ⟨x0, x1, rfl, q0, q1⟩
end Go.Proofs.Ytclmcpbanaojfaa.renewPlan

set_option linter.unusedSimpArgs false
set_option linter.unusedVariables false
namespace Go.Proofs.Ytclmcpbanaojfaa
open Go.Proofs.YtclmcpbanaojfaaV
set_option maxHeartbeats 400000
set_option maxRecDepth 100000
def nextT (vs : List Typ) : List Typ := vs.flatMap Typ.args
theorem tszs_next : ∀ vs, tszs (nextT vs) + vs.length = tszs vs
  | [] => rfl
  | v :: vs => by
    have := tszs_next vs
    have := v.sz_eq
    simp only [nextT, List.flatMap_cons, tszs_append, tszs, List.length_cons] at *
    omega
theorem tszs_take (vs : List Typ) (i : Nat) : tszs (vs.take i) ≤ tszs vs := by
  have := tszs_append (vs.take i) (vs.drop i)
  rw [List.take_append_drop] at this
  omega
theorem nextT_take {vs : List Typ} {i : Nat} (h : i < vs.length) : nextT (vs.take (i + 1)) = nextT (vs.take i) ++ vs[i].args := by
  rw [List.take_succ_eq_append_getElem h, nextT, List.flatMap_append]; simp [nextT]
theorem nextT_len (vs : List Typ) (i : Nat) : (nextT (vs.take i)).length ≤ tszs vs := by
  have := tszs_len (nextT (vs.take i))
  have := tszs_next (vs.take i)
  have := tszs_take vs i
  omega
theorem wid_eTyp (vs : List Typ) : wid 3 (vs.map eTyp) := wid_map (g := eTyp) (fun _ => by rw [eTyp_eq]; rfl) _
theorem sca_eTyp (vs : List Typ) : sca (vs.map eTyp) := by
  intro e he x hx
  obtain ⟨u, _, rfl⟩ := List.mem_map.1 he
  rw [eTyp_eq] at hx
  simp only [cTyp, List.mem_cons, List.not_mem_nil, or_false] at hx
  rcases hx with rfl | rfl | rfl <;> rfl
structure SmT where
  now : List Typ
  n : Nat
  deep : Nat
  nl : Bool
  t : Tag
  H : Heap
theorem q_TypesSmall (l : List Typ) (ln : Bool) (tg0 : Tag) (hv : tszs l ≤ bulk) : QB Try.prog 15 [.sl (l.map eTyp) ln tg0] := by
  refine QB.weak fun G => ?_
  have hv' : tszs l ≤ 1048576 := hv
  have hll := tszs_len l
  refine acall_body (rs := [.tmp 2]) Try.func15 rfl rfl Try.ntmps15 (by kernel_rfl) (Nat.le_of_ble_eq_true rfl) ?_
  refine aw_sr rfl ?_
  simp only [go_sem, reduceIte, Nat.reduceEqDiff, Nat.reduceAdd, Nat.reduceMul, Nat.reduceSub, Nat.reduceLeDiff, Nat.reduceLT, reduceCtorEq]
  refine aw_sr rfl ?_
  simp only [go_sem, reduceIte, Nat.reduceEqDiff, Nat.reduceAdd, Nat.reduceMul, Nat.reduceSub, Nat.reduceLeDiff, Nat.reduceLT, reduceCtorEq]
  refine goP_room (Room.start _ 3) ⟨rfl, rfl, by decide, by simp, wid_eTyp _, sca_eTyp _, by simp; omega, by simp; omega⟩ fun t1 H1 hr1 => ?_
  simp only [go_sem, reduceIte, Nat.reduceEqDiff, Nat.reduceAdd, Nat.reduceMul, Nat.reduceSub, Nat.reduceLeDiff, Nat.reduceLT, reduceCtorEq]
  refine aw_sr rfl ?_
  simp only [go_sem, reduceIte, Nat.reduceEqDiff, Nat.reduceAdd, Nat.reduceMul, Nat.reduceSub, Nat.reduceLeDiff, Nat.reduceLT, reduceCtorEq]
  refine aw_seq fun K1 hK1 => ?_
  refine aw_sr rfl ?_
  simp only [go_sem, reduceIte, Nat.reduceEqDiff, Nat.reduceAdd, Nat.reduceMul, Nat.reduceSub, Nat.reduceLeDiff, Nat.reduceLT, reduceCtorEq]
  refine aw_block ?_
  refine aw_lph (S := {s : SmT // tszs s.now ≤ bulk ∧ s.n ≤ 1000 ∧ s.deep ≤ 101 ∧ Sub G s.H}) (fun s => [(3, .sl (s.1.now.map eTyp) s.1.nl s.1.t), (4, .int .i64 s.1.n), (5, .int .i64 s.1.deep)]) (fun s => s.1.H) (fun s => 102 - s.1.deep) ⟨⟨l, 0, 0, false && (l.map eTyp).isEmpty, t1, H1⟩, hv, by simp, by simp, hr1.sub⟩ ?_ (fun _ _ h => h) ?_
  · simp only [go_sem, reduceIte, Nat.reduceEqDiff, Nat.reduceAdd, Nat.reduceMul, Nat.reduceSub, Nat.reduceLeDiff, Nat.reduceLT, reduceCtorEq, Int.natCast_zero, List.nil_append]
  · intro ⟨⟨now, n, deep, nl, tg, H⟩, i1, i2, i3, i5⟩
    simp only at i1 i2 i3 i5 ⊢
    have hlen := tszs_len now
    have hb1 : tszs now ≤ 1048576 := i1
    refine aw_seq fun K2 hK2 => ?_
    refine aw_sr rfl ?_
    simp only [go_sem, reduceIte, Nat.reduceEqDiff, Nat.reduceAdd, Nat.reduceMul, Nat.reduceSub, Nat.reduceLeDiff, Nat.reduceLT, reduceCtorEq]
    refine aw_if rfl (fun h => ?_) (fun h => ?_)
    · refine aw_skip (hK2 _ _ ?_)
      refine aw_seq fun K3 hK3 => ?_
      refine aw_block ?_
      refine aw_seq fun K4 hK4 => ?_
      refine aw_sr rfl ?_
      simp only [go_sem, reduceIte, Nat.reduceEqDiff, Nat.reduceAdd, Nat.reduceMul, Nat.reduceSub, Nat.reduceLeDiff, Nat.reduceLT, reduceCtorEq]
      have hw : IntKind.i64.wrap ((n : Int) + (now.length : Int)) = ((n + now.length : Nat) : Int) := by rw [wrap64 (by omega) (by omega)]; simp
      refine aw_sr rfl ?_
      simp only [go_sem, reduceIte, Nat.reduceEqDiff, Nat.reduceAdd, Nat.reduceMul, Nat.reduceSub, Nat.reduceLeDiff, Nat.reduceLT, reduceCtorEq, hw]
      refine aw_if rfl (fun h => ?_) (fun h => ?_)
      · refine aw_sr rfl ?_
        simp only [go_sem, reduceIte, Nat.reduceEqDiff, Nat.reduceAdd, Nat.reduceMul, Nat.reduceSub, Nat.reduceLeDiff, Nat.reduceLT, reduceCtorEq]
        exact aw_ret ⟨trivial, _, rfl, ⟨_, Vle.refl _⟩, i5⟩
      · have hc : ¬ (100 < deep ∨ 1000 < n + now.length) := by
          simp only [Bool.or_eq_false_iff, decide_eq_false_iff_not] at h
          omega
        refine aw_skip (hK4 _ _ ?_)
        refine aw_sr rfl ?_
        simp only [go_sem, reduceIte, Nat.reduceEqDiff, Nat.reduceAdd, Nat.reduceMul, Nat.reduceSub, Nat.reduceLeDiff, Nat.reduceLT, reduceCtorEq]
        refine aw_seq fun K5 hK5 => ?_
        refine aw_sr rfl ?_
        simp only [go_sem, reduceIte, Nat.reduceEqDiff, Nat.reduceAdd, Nat.reduceMul, Nat.reduceSub, Nat.reduceLeDiff, Nat.reduceLT, reduceCtorEq]
        refine aw_range now.length (S := Bool × Tag × Heap) (fun i s => [(27, .sl (now.map eTyp) nl tg), (6, .sl ((nextT (now.take i)).map eTyp) s.1 s.2.1), (4, .int .i64 ((n + now.length : Nat) : Int)), (5, .int .i64 deep)]) (fun _ s => s.2.2) (fun i s => Room H 3 s.2.1 s.2.2) (true, .full, H) (by omega) ?_ (fun _ _ h => h) (Room.start H 3) rfl (fun _ _ => rfl) ?_ ?_ (by decide)
        · simp only [go_sem, reduceIte, Nat.reduceEqDiff, Nat.reduceAdd, Nat.reduceMul, Nat.reduceSub, Nat.reduceLeDiff, Nat.reduceLT, reduceCtorEq, Int.natCast_zero, List.take_zero, nextT, List.flatMap_nil, List.map_nil]
        · intro i ⟨nl2, t2, H2⟩ hi he
          simp only at he ⊢
          refine aw_sr rfl ?_
          simp only [go_sem, reduceIte, Nat.reduceEqDiff, Nat.reduceAdd, Nat.reduceMul, Nat.reduceSub, Nat.reduceLeDiff, Nat.reduceLT, reduceCtorEq, getD_map hi, eTyp_eq, cTyp]
          refine ⟨⟨by omega, by omega, wid_eTyp _⟩, fun b2 hb2 => ?_⟩
          obtain ⟨H3, hr2, hs2⟩ := he.push (o := .vars (cTyp now[i])) hb2
          refine AW.of_hsub hs2 ?_
          have hb3 : hget H3 b2 = some (.vars (cTyp now[i])) := hr2.sub _ _ (hget_self _ _ _)
          refine aw_rg rfl ?_
          simp only [go_sem, reduceIte, Nat.reduceEqDiff, Nat.reduceAdd, Nat.reduceMul, Nat.reduceSub, Nat.reduceLeDiff, Nat.reduceLT, reduceCtorEq, hb3, cTyp]
          refine goP_room hr2 ?_ fun t' H' hr => ?_
          · have := nextT_len now (i + 1)
            rw [nextT_take hi, List.length_append] at this
            exact ⟨rfl, rfl, by decide, wid_eTyp _, wid_eTyp _, sca_eTyp _, by simp; omega, by simp; omega⟩
          simp only [go_sem, reduceIte, Nat.reduceEqDiff, Nat.reduceAdd, Nat.reduceMul, Nat.reduceSub, Nat.reduceLeDiff, Nat.reduceLT, reduceCtorEq, ← List.map_append, ← nextT_take hi]
          obtain ⟨H4, hr3, hs3⟩ := hr.pop (he.sub_none hb2)
          refine ⟨(nl2 && (now[i].args.map eTyp).isEmpty, t', H4), hr3, ?_, hs3⟩
          simp only [go_sem, reduceIte, Nat.reduceEqDiff, Nat.reduceAdd, Nat.reduceMul, Nat.reduceSub, Nat.reduceLeDiff, Nat.reduceLT, reduceCtorEq]
        · intro ⟨nl2, t2, H2⟩ he
          simp only at he ⊢
          refine hK5 _ _ ?_
          refine aw_rg rfl ?_
          simp only [go_sem, reduceIte, Nat.reduceEqDiff, Nat.reduceAdd, Nat.reduceMul, Nat.reduceSub, Nat.reduceLeDiff, Nat.reduceLT, reduceCtorEq, List.take_length]
          refine hK3 _ _ ?_
          refine aw_rg rfl ?_
          have hw2 : IntKind.i64.wrap ((deep : Int) + 1) = ((deep + 1 : Nat) : Int) := by rw [wrap64 (by omega) (by omega)]; simp
          simp only [go_sem, reduceIte, Nat.reduceEqDiff, Nat.reduceAdd, Nat.reduceMul, Nat.reduceSub, Nat.reduceLeDiff, Nat.reduceLT, reduceCtorEq, hw2]
          refine ⟨⟨⟨nextT now, n + now.length, deep + 1, nl2, t2, H2⟩, ?_, ?_, ?_, sub_trans i5 he.sub⟩, ?_, ?_, fun _ _ h => h⟩
          · have := tszs_next now; show tszs (nextT now) ≤ 1048576; omega
          · show n + now.length ≤ 1000; omega
          · show deep + 1 ≤ 101; omega
          · show 102 - (deep + 1) < 102 - deep; omega
          · simp only [go_sem, reduceIte, Nat.reduceEqDiff, Nat.reduceAdd, Nat.reduceMul, Nat.reduceSub, Nat.reduceLeDiff, Nat.reduceLT, reduceCtorEq]
    · refine aw_exit ?_
      refine hK1 _ _ ?_
      refine aw_sr rfl ?_
      simp only [go_sem, reduceIte, Nat.reduceEqDiff, Nat.reduceAdd, Nat.reduceMul, Nat.reduceSub, Nat.reduceLeDiff, Nat.reduceLT, reduceCtorEq]
      exact aw_ret ⟨trivial, _, rfl, ⟨_, Vle.refl _⟩, i5⟩
end Go.Proofs.Ytclmcpbanaojfaa

set_option linter.unusedSimpArgs false
set_option linter.unusedVariables false
namespace Go.Proofs.Ytclmcpbanaojfaa
open Go.Proofs.YtclmcpbanaojfaaV
set_option maxHeartbeats 400000
set_option maxRecDepth 100000
theorem wid_eEx (vs : List Ex) : wid 8 (vs.map eEx) := wid_map (g := eEx) (fun _ => by rw [eEx_eq]; rfl) _
theorem sca_eEx (vs : List Ex) : sca (vs.map eEx) := by
  intro e he x hx
  obtain ⟨u, _, rfl⟩ := List.mem_map.1 he
  rw [eEx_eq] at hx
  simp only [cEx, List.mem_cons, List.not_mem_nil, or_false] at hx
  rcases hx with rfl | rfl | rfl | rfl | rfl | rfl | rfl | rfl <;> rfl
theorem wid_ePat (vs : List Pat) : wid 4 (vs.map ePat) := wid_map (g := ePat) (fun _ => by rw [ePat_eq]; rfl) _
theorem sca_ePat (vs : List Pat) : sca (vs.map ePat) := by
  intro e he x hx
  obtain ⟨u, _, rfl⟩ := List.mem_map.1 he
  rw [ePat_eq] at hx
  simp only [cPat, List.mem_cons, List.not_mem_nil, or_false] at hx
  rcases hx with rfl | rfl | rfl | rfl <;> rfl
theorem wid_eArm (vs : List Arm) : wid 12 (vs.map eArm) := wid_map (g := eArm) (fun _ => by rw [eArm_eq]; rfl) _
/-- What the types of an expression's nodes keep to. -/
def OkX (x : Ex) : Prop := OkEx x
structure XsS where
  now : List Ex
  n : Nat
  deep : Nat
  nl : Bool
  t : Tag
  H : Heap
structure XsI where
  nx : List Ex
  xn : Bool
  xt : Tag
  px : List Pat
  pn : Bool
  pt : Tag
  H : Heap
structure XsP where
  px : List Pat
  pn : Bool
  pt : Tag
  n : Nat
  d : Nat
  H : Heap
structure XsQ where
  px : List Pat
  pn : Bool
  pt : Tag
  H : Heap
def Rooms2 (G : Heap) (n m : Nat) (t s : Tag) (H : Heap) : Prop := ∃ B, Room B n t H ∧ Room G m s B
theorem Rooms2.sub {G H : Heap} {n m : Nat} {t s : Tag} (h : Rooms2 G n m t s H) : Sub G H := by
  obtain ⟨B, h1, h2⟩ := h
  exact sub_trans h2.sub h1.sub
theorem Rooms2.swap {G H : Heap} {n m : Nat} {t s : Tag} (h : Rooms2 G n m t s H) : ∃ H', Rooms2 G m n s t H' ∧ Sub H' H := by
  obtain ⟨B, h1, h2⟩ := h
  obtain ⟨B', H', g1, g2, g3⟩ := h1.swap h2
  exact ⟨H', ⟨B', g1, g2⟩, g3⟩
/-- A fresh object below both. -/
theorem Rooms2.push {G H : Heap} {n m : Nat} {t s : Tag} {b : Nat} {o : AObj} (h : Rooms2 G n m t s H) (hb : hget H b = none) : ∃ H2, Rooms2 ((b, o) :: G) n m t s H2 ∧ Sub H2 ((b, o) :: H) := by
  obtain ⟨B, h1, h2⟩ := h
  obtain ⟨B2, g1, g2⟩ := h2.push (o := o) (h1.sub_none hb)
  obtain ⟨H2, g3, g4⟩ := h1.push (o := o) hb
  obtain ⟨H3, g5, g6⟩ := g3.base g2
  exact ⟨H3, ⟨B2, g5, g1⟩, sub_trans g6 g4⟩
theorem Rooms2.base {G G' H : Heap} {n m : Nat} {t s : Tag} (h : Rooms2 G n m t s H) (hs : Sub G' G) : ∃ H', Rooms2 G' n m t s H' ∧ Sub H' H := by
  obtain ⟨B, h1, h2⟩ := h
  obtain ⟨B2, g1, g2⟩ := h2.base hs
  obtain ⟨H3, g5, g6⟩ := h1.base g2
  exact ⟨H3, ⟨B2, g5, g1⟩, g6⟩
theorem q_exprSmall (e : Ex) (he : oEx e) : QB Try.prog 87 [.agg (cEx e)] := by
  refine QB.weak fun G => ?_
  have hse : e.sz ≤ 1048576 := he.2
  refine acall_body (rs := [.tmp 2]) Try.func87 rfl rfl Try.ntmps87 (by kernel_rfl) (Nat.le_of_ble_eq_true rfl) ?_
  refine aw_sr rfl ?_
  simp only [go_sem, reduceIte, Nat.reduceEqDiff, Nat.reduceAdd, Nat.reduceMul, Nat.reduceSub, Nat.reduceLeDiff, Nat.reduceLT, reduceCtorEq]
  intro b hb
  refine aw_sr rfl ?_
  simp only [go_sem, reduceIte, Nat.reduceEqDiff, Nat.reduceAdd, Nat.reduceMul, Nat.reduceSub, Nat.reduceLeDiff, Nat.reduceLT, reduceCtorEq]
  refine aw_sr rfl ?_
  simp only [go_sem, reduceIte, Nat.reduceEqDiff, Nat.reduceAdd, Nat.reduceMul, Nat.reduceSub, Nat.reduceLeDiff, Nat.reduceLT, reduceCtorEq]
  refine aw_seq fun K1 hK1 => ?_
  refine aw_sr rfl ?_
  simp only [go_sem, reduceIte, Nat.reduceEqDiff, Nat.reduceAdd, Nat.reduceMul, Nat.reduceSub, Nat.reduceLeDiff, Nat.reduceLT, reduceCtorEq]
  refine aw_block ?_  -- 0
  refine aw_lph (S := {s : XsS // exszs s.now ≤ bulk ∧ s.n ≤ 3000 ∧ s.deep ≤ 101 ∧ Sub G s.H ∧ ∀ x ∈ s.now, OkX x}) (fun s => [(3, .sl (s.1.now.map eEx) s.1.nl s.1.t), (4, .int .i64 s.1.n), (5, .int .i64 s.1.deep)]) (fun s => s.1.H) (fun s => 102 - s.1.deep) ⟨⟨[e], 0, 0, false, .full, (b, .vars (cEx e)) :: G⟩, by simpa [exszs] using hse, by simp, by simp, sub_tail hb, by simpa [OkX] using he.1⟩ ?_ (fun _ _ h => h) ?_
  · simp only [go_sem, reduceIte, Nat.reduceEqDiff, Nat.reduceAdd, Nat.reduceMul, Nat.reduceSub, Nat.reduceLeDiff, Nat.reduceLT, reduceCtorEq, List.map_cons, List.map_nil, eEx_eq, Int.natCast_zero]
  intro ⟨⟨now, n, deep, nl, tg, H⟩, i1, i2, i3, i4, i5⟩
  simp only at i1 i2 i3 i4 i5 ⊢
  have hlen := exszs_len now
  have hb1 : exszs now ≤ 1048576 := i1
  refine aw_seq fun K2 hK2 => ?_
  refine aw_sr rfl ?_
  simp only [go_sem, reduceIte, Nat.reduceEqDiff, Nat.reduceAdd, Nat.reduceMul, Nat.reduceSub, Nat.reduceLeDiff, Nat.reduceLT, reduceCtorEq]
  refine aw_if rfl (fun h => ?_) (fun h => ?_)
  case refine_2 =>
    refine aw_exit ?_  -- 0
    refine hK1 _ _ ?_
    refine aw_sr rfl ?_
    simp only [go_sem, reduceIte, Nat.reduceEqDiff, Nat.reduceAdd, Nat.reduceMul, Nat.reduceSub, Nat.reduceLeDiff, Nat.reduceLT, reduceCtorEq]
    exact aw_ret ⟨trivial, _, rfl, ⟨_, Vle.refl _⟩, i4⟩
  refine aw_skip (hK2 _ _ ?_)
  refine aw_seq fun K3 hK3 => ?_
  refine aw_block ?_  -- 1
  refine aw_seq fun K4 hK4 => ?_
  refine aw_sr rfl ?_
  have hw : IntKind.i64.wrap ((n : Int) + (now.length : Int)) = ((n + now.length : Nat) : Int) := by rw [wrap64 (by omega) (by omega)]; simp
  simp only [go_sem, reduceIte, Nat.reduceEqDiff, Nat.reduceAdd, Nat.reduceMul, Nat.reduceSub, Nat.reduceLeDiff, Nat.reduceLT, reduceCtorEq, hw]
  refine aw_sr rfl ?_
  simp only [go_sem, reduceIte, Nat.reduceEqDiff, Nat.reduceAdd, Nat.reduceMul, Nat.reduceSub, Nat.reduceLeDiff, Nat.reduceLT, reduceCtorEq]
  refine aw_if rfl (fun h => ?_) (fun h => ?_)
  · refine aw_sr rfl ?_
    simp only [go_sem, reduceIte, Nat.reduceEqDiff, Nat.reduceAdd, Nat.reduceMul, Nat.reduceSub, Nat.reduceLeDiff, Nat.reduceLT, reduceCtorEq]
    exact aw_ret ⟨trivial, _, rfl, ⟨_, Vle.refl _⟩, i4⟩
  have hc : ¬ (100 < deep ∨ 3000 < n + now.length) := by
    simp only [Bool.or_eq_false_iff, decide_eq_false_iff_not] at h
    omega
  refine aw_skip (hK4 _ _ ?_)
  refine aw_sr rfl ?_
  simp only [go_sem, reduceIte, Nat.reduceEqDiff, Nat.reduceAdd, Nat.reduceMul, Nat.reduceSub, Nat.reduceLeDiff, Nat.reduceLT, reduceCtorEq]
  refine aw_sr rfl ?_
  simp only [go_sem, reduceIte, Nat.reduceEqDiff, Nat.reduceAdd, Nat.reduceMul, Nat.reduceSub, Nat.reduceLeDiff, Nat.reduceLT, reduceCtorEq]
  refine aw_seq fun K5 hK5 => ?_
  refine aw_sr rfl ?_
  simp only [go_sem, reduceIte, Nat.reduceEqDiff, Nat.reduceAdd, Nat.reduceMul, Nat.reduceSub, Nat.reduceLeDiff, Nat.reduceLT, reduceCtorEq]
  refine aw_range now.length (S := XsI) (fun i s => [(33, .sl (now.map eEx) nl tg), (6, .sl (s.nx.map eEx) s.xn s.xt), (7, .sl (s.px.map ePat) s.pn s.pt), (4, .int .i64 ((n + now.length : Nat) : Int)), (5, .int .i64 deep)]) (fun _ s => s.H)
    (fun i s => Rooms2 H 8 4 s.xt s.pt s.H ∧ exszs s.nx + pszs s.px + exszs (now.drop i) ≤ exszs now ∧ ∀ x ∈ s.nx, OkX x) ⟨[], true, .full, [], true, .full, H⟩ (by omega) ?_ (fun _ _ h => h) ⟨⟨H, Room.start H 8, Room.start H 4⟩, by simp [exszs, pszs], by simp⟩ rfl (fun _ _ => rfl) ?_ ?_ (by decide)
  · simp only [go_sem, reduceIte, Nat.reduceEqDiff, Nat.reduceAdd, Nat.reduceMul, Nat.reduceSub, Nat.reduceLeDiff, Nat.reduceLT, reduceCtorEq, Int.natCast_zero, List.map_nil]
  · intro i ⟨nx, xn, xt, px, pn, pt, H1⟩ hi ⟨j1, j2, j3⟩
    simp only at j1 j2 j3 ⊢
    generalize hx : now[i] = x
    have hxo : OkX x := i5 x (by rw [← hx]; exact List.getElem_mem hi)
    have hxs := x.sz_eq
    rw [List.drop_eq_getElem_cons hi, hx, exszs] at j2
    refine aw_sr rfl ?_
    simp only [go_sem, reduceIte, Nat.reduceEqDiff, Nat.reduceAdd, Nat.reduceMul, Nat.reduceSub, Nat.reduceLeDiff, Nat.reduceLT, reduceCtorEq, getD_map hi, hx, eEx_eq, cEx]
    refine ⟨⟨by omega, by omega, wid_eEx _⟩, fun b9 hb9 => ?_⟩
    obtain ⟨H2, hr2, hs2⟩ := j1.push (o := .vars (cEx x)) hb9
    refine AW.of_hsub hs2 ?_
    have hg9 : hget H2 b9 = some (.vars (cEx x)) := hr2.sub _ _ (hget_self _ _ _)
    refine aw_seq fun K6 hK6 => ?_
    refine aw_sr rfl ?_
    simp only [go_sem, reduceIte, Nat.reduceEqDiff, Nat.reduceAdd, Nat.reduceMul, Nat.reduceSub, Nat.reduceLeDiff, Nat.reduceLT, reduceCtorEq, hg9, cEx]
    refine goA_qb (q_TypesSmall x.types.1 x.types.2 .no hxo.types.2.1) fun bt => ?_
    simp only [go_sem, reduceIte, Nat.reduceEqDiff, Nat.reduceAdd, Nat.reduceMul, Nat.reduceSub, Nat.reduceLeDiff, Nat.reduceLT, reduceCtorEq]
    refine aw_if rfl (fun h => ?_) (fun h => ?_)
    · refine aw_sr rfl ?_
      simp only [go_sem, reduceIte, Nat.reduceEqDiff, Nat.reduceAdd, Nat.reduceMul, Nat.reduceSub, Nat.reduceLeDiff, Nat.reduceLT, reduceCtorEq]
      exact aw_ret ⟨trivial, _, rfl, ⟨_, Vle.refl _⟩, sub_trans i4 (sub_trans (sub_tail (sub_none j1.sub hb9)) hr2.sub)⟩
    refine aw_skip (hK6 _ _ ?_)
    have hxa := exszs_len x.args
    have hxm := amszs_len x.arms
    have hxn := exszs_len nx
    have hxp := pszs_len px
    refine aw_sr rfl ?_
    simp only [go_sem, reduceIte, Nat.reduceEqDiff, Nat.reduceAdd, Nat.reduceMul, Nat.reduceSub, Nat.reduceLeDiff, Nat.reduceLT, reduceCtorEq, hg9, cEx]
    obtain ⟨B, g1, g2⟩ := hr2
    refine goP_room g1 ⟨rfl, rfl, by decide, wid_eEx _, wid_eEx _, sca_eEx _, by simp; omega, by simp; omega⟩ fun t3 H3 hr3 => ?_
    simp only [go_sem, reduceIte, Nat.reduceEqDiff, Nat.reduceAdd, Nat.reduceMul, Nat.reduceSub, Nat.reduceLeDiff, Nat.reduceLT, reduceCtorEq]
    have hg9' : hget H3 b9 = some (.vars (cEx x)) := hr3.sub _ _ (g2.sub _ _ (hget_self _ _ _))
    refine aw_sr rfl ?_
    simp only [go_sem, reduceIte, Nat.reduceEqDiff, Nat.reduceAdd, Nat.reduceMul, Nat.reduceSub, Nat.reduceLeDiff, Nat.reduceLT, reduceCtorEq, hg9', cEx]
    obtain ⟨H4, hr4, hs4⟩ := Rooms2.base (G' := H) ⟨B, hr3, g2⟩ (sub_tail (sub_none j1.sub hb9))
    refine aw_range x.arms.length (S := XsI) (fun j s => [(48, .sl (x.arms.map eArm) x.mnl .no), (6, .sl (s.nx.map eEx) s.xn s.xt), (7, .sl (s.px.map ePat) s.pn s.pt), (4, .int .i64 ((n + now.length : Nat) : Int)), (5, .int .i64 deep), (33, .sl (now.map eEx) nl tg), (35, .int .i64 i), (34, .int .i64 now.length)]) (fun _ s => s.H)
      (fun j s => Rooms2 H 8 4 s.xt s.pt s.H ∧ exszs s.nx + pszs s.px + amszs (x.arms.drop j) + exszs (now.drop (i + 1)) ≤ exszs now ∧ ∀ x ∈ s.nx, OkX x) ⟨nx ++ x.args, xn && (x.args.map eEx).isEmpty, t3, px, pn, pt, H4⟩ (by omega) ?_ hs4 ⟨hr4, ?_, ?_⟩ rfl (fun _ _ => rfl) ?_ ?_ (by decide)
    · simp only [go_sem, reduceIte, Nat.reduceEqDiff, Nat.reduceAdd, Nat.reduceMul, Nat.reduceSub, Nat.reduceLeDiff, Nat.reduceLT, reduceCtorEq, Int.natCast_zero, List.map_append]
    · show exszs (nx ++ x.args) + pszs px + amszs (x.arms.drop 0) + exszs (now.drop (i + 1)) ≤ exszs now
      rw [exszs_append, List.drop_zero]
      omega
    · intro y hy
      rcases List.mem_append.1 hy with hy | hy
      · exact j3 y hy
      · exact hxo.arg hy
    · intro j ⟨nx, xn, xt, px, pn, pt, H5⟩ hj ⟨k1, k2, k3⟩
      simp only at k1 k2 k3 ⊢
      generalize hm : x.arms[j] = m
      have hml : m ∈ x.arms := by rw [← hm]; exact List.getElem_mem hj
      rw [List.drop_eq_getElem_cons hj, hm, amszs] at k2
      have hms := m.sz_eq
      have hxn := exszs_len nx
      have hxp := pszs_len px
      have hbs := m.body.sz_eq
      refine aw_sr rfl ?_
      simp only [go_sem, reduceIte, Nat.reduceEqDiff, Nat.reduceAdd, Nat.reduceMul, Nat.reduceSub, Nat.reduceLeDiff, Nat.reduceLT, reduceCtorEq, getD_map hj, hm, eArm_eq, cPat, cEx]
      refine ⟨⟨by omega, by omega, wid_eArm _⟩, fun b11 hb11 => ?_⟩
      obtain ⟨H6, hr6, hs6⟩ := k1.push (o := .vars (cPat m.pat ++ cEx m.body)) hb11
      refine AW.of_hsub hs6 ?_
      have hg11 : hget H6 b11 = some (.vars (cPat m.pat ++ cEx m.body)) := hr6.sub _ _ (hget_self _ _ _)
      refine aw_sr rfl ?_
      simp only [go_sem, reduceIte, Nat.reduceEqDiff, Nat.reduceAdd, Nat.reduceMul, Nat.reduceSub, Nat.reduceLeDiff, Nat.reduceLT, reduceCtorEq, hg11, cPat, cEx]
      obtain ⟨B, g1, g2⟩ := hr6
      refine goP_room g1 ⟨rfl, rfl, by decide, wid_eEx _, ?_, ?_, by simp; omega, by simp; omega⟩ fun t7 H7 hr7 => ?_
      · have := wid_eEx [m.body]; rw [List.map_cons, eEx_eq] at this; exact this
      · have := sca_eEx [m.body]; rw [List.map_cons, eEx_eq] at this; exact this
      simp only [go_sem, reduceIte, Nat.reduceEqDiff, Nat.reduceAdd, Nat.reduceMul, Nat.reduceSub, Nat.reduceLeDiff, Nat.reduceLT, reduceCtorEq]
      obtain ⟨H8, ⟨B', g3, g4⟩, hs8⟩ := Rooms2.swap ⟨B, hr7, g2⟩
      refine AW.of_hsub hs8 ?_
      have hg11' : hget H8 b11 = some (.vars (cPat m.pat ++ cEx m.body)) := g3.sub _ _ (g4.sub _ _ (hget_self _ _ _))
      refine aw_rg rfl ?_
      simp only [go_sem, reduceIte, Nat.reduceEqDiff, Nat.reduceAdd, Nat.reduceMul, Nat.reduceSub, Nat.reduceLeDiff, Nat.reduceLT, reduceCtorEq, hg11', cPat, cEx]
      refine goP_room g3 ⟨rfl, rfl, by decide, wid_ePat _, ?_, ?_, by simp; omega, by simp; omega⟩ fun t9 H9 hr9 => ?_
      · have := wid_ePat [m.pat]; rw [List.map_cons, ePat_eq] at this; exact this
      · have := sca_ePat [m.pat]; rw [List.map_cons, ePat_eq] at this; exact this
      simp only [go_sem, reduceIte, Nat.reduceEqDiff, Nat.reduceAdd, Nat.reduceMul, Nat.reduceSub, Nat.reduceLeDiff, Nat.reduceLT, reduceCtorEq]
      obtain ⟨H10, hr10, hs10⟩ := Rooms2.swap ⟨B', hr9, g4⟩
      obtain ⟨H11, hr11, hs11⟩ := hr10.base (G' := H) (sub_tail (sub_none k1.sub hb11))
      refine ⟨⟨nx ++ [m.body], false, t7, px ++ [m.pat], false, t9, H11⟩, ⟨hr11, ?_, ?_⟩, ?_, sub_trans hs11 hs10⟩
      · have e1 : pszs [m.pat] = m.pat.sz := by simp [pszs]
        have e2 : exszs [m.body] = m.body.sz := by simp [exszs]
        show exszs (nx ++ [m.body]) + pszs (px ++ [m.pat]) + amszs (x.arms.drop (j + 1)) + exszs (now.drop (i + 1)) ≤ exszs now
        rw [exszs_append, pszs_append, e1, e2]
        omega
      · intro y hy
        rcases List.mem_append.1 hy with hy | hy
        · exact k3 y hy
        · rw [List.mem_singleton.1 hy]; exact hxo.body hml
      · simp only [go_sem, reduceIte, Nat.reduceEqDiff, Nat.reduceAdd, Nat.reduceMul, Nat.reduceSub, Nat.reduceLeDiff, Nat.reduceLT, reduceCtorEq, List.map_append, List.map_cons, List.map_nil, eEx_eq, ePat_eq, cEx, cPat, Bool.and_false]
    · intro ⟨nx, xn, xt, px, pn, pt, H5⟩ ⟨k1, k2, k3⟩
      simp only at k1 k2 k3 ⊢
      rw [List.drop_length, amszs] at k2
      refine ⟨⟨nx, xn, xt, px, pn, pt, H5⟩, ⟨k1, by show exszs nx + pszs px + exszs (now.drop (i + 1)) ≤ exszs now; omega, k3⟩, ?_, fun _ _ h => h⟩
      simp only [go_sem, reduceIte, Nat.reduceEqDiff, Nat.reduceAdd, Nat.reduceMul, Nat.reduceSub, Nat.reduceLeDiff, Nat.reduceLT, reduceCtorEq]
  · intro ⟨nx, xn, xt, px, pn, pt, H1⟩ ⟨j1, j2, j3⟩
    simp only at j1 j2 j3 ⊢
    rw [List.drop_length, exszs] at j2
    refine hK5 _ _ ?_
    refine aw_seq fun K7 hK7 => ?_
    refine aw_sr rfl ?_
    simp only [go_sem, reduceIte, Nat.reduceEqDiff, Nat.reduceAdd, Nat.reduceMul, Nat.reduceSub, Nat.reduceLeDiff, Nat.reduceLT, reduceCtorEq]
    refine aw_block ?_  -- 6
    refine aw_lph (S := {s : XsP // pszs s.px ≤ bulk ∧ s.n ≤ 3000 ∧ s.d ≤ 101 ∧ Sub G s.H}) (fun s => [(7, .sl (s.1.px.map ePat) s.1.pn s.1.pt), (4, .int .i64 s.1.n), (12, .int .i64 s.1.d), (6, .sl (nx.map eEx) xn xt), (5, .int .i64 deep)]) (fun s => s.1.H) (fun s => 102 - s.1.d) ⟨⟨px, pn, pt, n + now.length, 0, H1⟩, by show pszs px ≤ 1048576; omega, by show n + now.length ≤ 3000; omega, by simp, sub_trans i4 j1.sub⟩ ?_ (fun _ _ h => h) ?_
    · simp only [go_sem, reduceIte, Nat.reduceEqDiff, Nat.reduceAdd, Nat.reduceMul, Nat.reduceSub, Nat.reduceLeDiff, Nat.reduceLT, reduceCtorEq, Int.natCast_zero]
    intro ⟨⟨px, pn, pt, n2, d, H2⟩, k1, k2, k3, k4⟩
    simp only at k1 k2 k3 k4 ⊢
    have hxp := pszs_len px
    have hb2 : pszs px ≤ 1048576 := k1
    refine aw_seq fun K8 hK8 => ?_
    refine aw_sr rfl ?_
    simp only [go_sem, reduceIte, Nat.reduceEqDiff, Nat.reduceAdd, Nat.reduceMul, Nat.reduceSub, Nat.reduceLeDiff, Nat.reduceLT, reduceCtorEq]
    refine aw_if rfl (fun h => ?_) (fun h => ?_)
    case refine_2 =>
      refine aw_exit ?_  -- 6
      refine hK7 _ _ ?_
      refine aw_rg rfl ?_
      simp only [go_sem, reduceIte, Nat.reduceEqDiff, Nat.reduceAdd, Nat.reduceMul, Nat.reduceSub, Nat.reduceLeDiff, Nat.reduceLT, reduceCtorEq]
      refine hK3 _ _ ?_
      refine aw_rg rfl ?_
      have hw2 : IntKind.i64.wrap ((deep : Int) + 1) = ((deep + 1 : Nat) : Int) := by rw [wrap64 (by omega) (by omega)]; simp
      simp only [go_sem, reduceIte, Nat.reduceEqDiff, Nat.reduceAdd, Nat.reduceMul, Nat.reduceSub, Nat.reduceLeDiff, Nat.reduceLT, reduceCtorEq, hw2]
      refine ⟨⟨⟨nx, n2, deep + 1, xn, xt, H2⟩, by show exszs nx ≤ 1048576; omega, k2, by show deep + 1 ≤ 101; omega, k4, j3⟩, by show 102 - (deep + 1) < 102 - deep; omega, ?_, fun _ _ h => h⟩
      simp only [go_sem, reduceIte, Nat.reduceEqDiff, Nat.reduceAdd, Nat.reduceMul, Nat.reduceSub, Nat.reduceLeDiff, Nat.reduceLT, reduceCtorEq]
    refine aw_skip (hK8 _ _ ?_)
    refine aw_seq fun K9 hK9 => ?_
    refine aw_block ?_  -- 7
    refine aw_seq fun K10 hK10 => ?_
    refine aw_sr rfl ?_
    have hw3 : IntKind.i64.wrap ((n2 : Int) + (px.length : Int)) = ((n2 + px.length : Nat) : Int) := by rw [wrap64 (by omega) (by omega)]; simp
    simp only [go_sem, reduceIte, Nat.reduceEqDiff, Nat.reduceAdd, Nat.reduceMul, Nat.reduceSub, Nat.reduceLeDiff, Nat.reduceLT, reduceCtorEq, hw3]
    refine aw_sr rfl ?_
    simp only [go_sem, reduceIte, Nat.reduceEqDiff, Nat.reduceAdd, Nat.reduceMul, Nat.reduceSub, Nat.reduceLeDiff, Nat.reduceLT, reduceCtorEq]
    refine aw_if rfl (fun h => ?_) (fun h => ?_)
    · refine aw_sr rfl ?_
      simp only [go_sem, reduceIte, Nat.reduceEqDiff, Nat.reduceAdd, Nat.reduceMul, Nat.reduceSub, Nat.reduceLeDiff, Nat.reduceLT, reduceCtorEq]
      exact aw_ret ⟨trivial, _, rfl, ⟨_, Vle.refl _⟩, k4⟩
    have hc : ¬ (100 < d ∨ 3000 < n2 + px.length) := by
      simp only [Bool.or_eq_false_iff, decide_eq_false_iff_not] at h
      omega
    refine aw_skip (hK10 _ _ ?_)
    refine aw_sr rfl ?_
    simp only [go_sem, reduceIte, Nat.reduceEqDiff, Nat.reduceAdd, Nat.reduceMul, Nat.reduceSub, Nat.reduceLeDiff, Nat.reduceLT, reduceCtorEq]
    refine aw_seq fun K11 hK11 => ?_
    refine aw_sr rfl ?_
    simp only [go_sem, reduceIte, Nat.reduceEqDiff, Nat.reduceAdd, Nat.reduceMul, Nat.reduceSub, Nat.reduceLeDiff, Nat.reduceLT, reduceCtorEq]
    refine aw_range px.length (S := XsQ) (fun i s => [(81, .sl (px.map ePat) pn pt), (13, .sl (s.px.map ePat) s.pn s.pt), (4, .int .i64 ((n2 + px.length : Nat) : Int)), (12, .int .i64 d), (6, .sl (nx.map eEx) xn xt), (5, .int .i64 deep)]) (fun _ s => s.H)
      (fun i s => Room H2 4 s.pt s.H ∧ pszs s.px + pszs (px.drop i) ≤ pszs px) ⟨[], true, .full, H2⟩ (by omega) ?_ (fun _ _ h => h) ⟨Room.start H2 4, by simp [pszs]⟩ rfl (fun _ _ => rfl) ?_ ?_ (by decide)
    · simp only [go_sem, reduceIte, Nat.reduceEqDiff, Nat.reduceAdd, Nat.reduceMul, Nat.reduceSub, Nat.reduceLeDiff, Nat.reduceLT, reduceCtorEq, Int.natCast_zero, List.map_nil]
    · intro i ⟨qx, qn, qt, H3⟩ hi ⟨l1, l2⟩
      simp only at l1 l2 ⊢
      generalize hx : px[i] = x
      rw [List.drop_eq_getElem_cons hi, hx, pszs] at l2
      have hxs := x.sz_eq
      have hq1 := pszs_len qx
      have hq2 := pszs_len x.args
      refine aw_sr rfl ?_
      simp only [go_sem, reduceIte, Nat.reduceEqDiff, Nat.reduceAdd, Nat.reduceMul, Nat.reduceSub, Nat.reduceLeDiff, Nat.reduceLT, reduceCtorEq, getD_map hi, hx, ePat_eq, cPat]
      refine ⟨⟨by omega, by omega, wid_ePat _⟩, fun b15 hb15 => ?_⟩
      obtain ⟨H4, hr4, hs4⟩ := l1.push (o := .vars (cPat x)) hb15
      refine AW.of_hsub hs4 ?_
      have hg15 : hget H4 b15 = some (.vars (cPat x)) := hr4.sub _ _ (hget_self _ _ _)
      refine aw_rg rfl ?_
      simp only [go_sem, reduceIte, Nat.reduceEqDiff, Nat.reduceAdd, Nat.reduceMul, Nat.reduceSub, Nat.reduceLeDiff, Nat.reduceLT, reduceCtorEq, hg15, cPat]
      refine goP_room hr4 ⟨rfl, rfl, by decide, wid_ePat _, wid_ePat _, sca_ePat _, by simp; omega, by simp; omega⟩ fun t5 H5 hr5 => ?_
      simp only [go_sem, reduceIte, Nat.reduceEqDiff, Nat.reduceAdd, Nat.reduceMul, Nat.reduceSub, Nat.reduceLeDiff, Nat.reduceLT, reduceCtorEq]
      obtain ⟨H6, hr6, hs6⟩ := hr5.pop (l1.sub_none hb15)
      refine ⟨⟨qx ++ x.args, qn && (x.args.map ePat).isEmpty, t5, H6⟩, ⟨hr6, ?_⟩, ?_, hs6⟩
      · show pszs (qx ++ x.args) + pszs (px.drop (i + 1)) ≤ pszs px
        rw [pszs_append]; omega
      · simp only [go_sem, reduceIte, Nat.reduceEqDiff, Nat.reduceAdd, Nat.reduceMul, Nat.reduceSub, Nat.reduceLeDiff, Nat.reduceLT, reduceCtorEq, List.map_append]
    · intro ⟨qx, qn, qt, H3⟩ ⟨l1, l2⟩
      simp only at l1 l2 ⊢
      rw [List.drop_length, pszs] at l2
      refine hK11 _ _ ?_
      refine aw_rg rfl ?_
      simp only [go_sem, reduceIte, Nat.reduceEqDiff, Nat.reduceAdd, Nat.reduceMul, Nat.reduceSub, Nat.reduceLeDiff, Nat.reduceLT, reduceCtorEq]
      refine hK9 _ _ ?_
      refine aw_rg rfl ?_
      have hw4 : IntKind.i64.wrap ((d : Int) + 1) = ((d + 1 : Nat) : Int) := by rw [wrap64 (by omega) (by omega)]; simp
      simp only [go_sem, reduceIte, Nat.reduceEqDiff, Nat.reduceAdd, Nat.reduceMul, Nat.reduceSub, Nat.reduceLeDiff, Nat.reduceLT, reduceCtorEq, hw4]
      refine ⟨⟨⟨qx, qn, qt, n2 + px.length, d + 1, H3⟩, by show pszs qx ≤ 1048576; omega, by show n2 + px.length ≤ 3000; omega, by show d + 1 ≤ 101; omega, sub_trans k4 l1.sub⟩, by show 102 - (d + 1) < 102 - d; omega, ?_, fun _ _ h => h⟩
      simp only [go_sem, reduceIte, Nat.reduceEqDiff, Nat.reduceAdd, Nat.reduceMul, Nat.reduceSub, Nat.reduceLeDiff, Nat.reduceLT, reduceCtorEq]
end Go.Proofs.Ytclmcpbanaojfaa

set_option linter.unusedSimpArgs false
set_option linter.unusedVariables false
namespace Go.Proofs.Ytclmcpbanaojfaa
open Go.Proofs.YtclmcpbanaojfaaV
set_option maxHeartbeats 400000
set_option maxRecDepth 100000
abbrev Fnc := D365
abbrev Prgm := D29
abbrev eFnc := e365
abbrev eData := e194
abbrev eMake := e196
abbrev eActor := e42
abbrev cPrg (p : Prgm) : List V := e29 p
theorem q_TypesSmall1 (t : Typ) (ht : t.sz ≤ bulk) : QB Try.prog 15 [.sl [cTyp t] false .full] := by
  have := q_TypesSmall [t] false .full (by simpa [tszs] using ht)
  rw [List.map_cons, eTyp_eq] at this
  exact this
theorem q_funcsSmall (x : D26) (tg : Tag) (hx : o26 x) : QB Try.prog 86 [.sl (x.1.map eFnc) x.2 tg] := by
  refine QB.weak fun G => ?_
  have hl : x.1.length ≤ 1048576 := hx.2.1
  refine acall_body (rs := [.tmp 2]) Try.func86 rfl rfl Try.ntmps86 (by kernel_rfl) (Nat.le_of_ble_eq_true rfl) ?_
  refine aw_sr rfl ?_
  simp only [go_sem, reduceIte, Nat.reduceEqDiff, Nat.reduceAdd, Nat.reduceMul, Nat.reduceSub, Nat.reduceLeDiff, Nat.reduceLT, reduceCtorEq]
  refine aw_seq fun K1 hK1 => ?_
  refine aw_sr rfl ?_
  simp only [go_sem, reduceIte, Nat.reduceEqDiff, Nat.reduceAdd, Nat.reduceMul, Nat.reduceSub, Nat.reduceLeDiff, Nat.reduceLT, reduceCtorEq]
  refine aw_range x.1.length (S := Unit) (fun _ _ => [(5, .sl (x.1.map eFnc) x.2 tg)]) (fun _ _ => G) (fun i _ => True) () (by omega) ?_ (fun _ _ h => h) trivial rfl (fun _ _ => rfl) ?_ ?_ (by decide)
  · simp only [go_sem, reduceIte, Nat.reduceEqDiff, Nat.reduceAdd, Nat.reduceMul, Nat.reduceSub, Nat.reduceLeDiff, Nat.reduceLT, reduceCtorEq, Int.natCast_zero]
  · intro i _ hi _
    generalize hf : x.1[i] = f
    obtain ⟨_, _, _, o4, o5, o6⟩ := hx.2.2 f (by rw [← hf]; exact List.getElem_mem hi)
    refine aw_sr rfl ?_
    simp only [go_sem, reduceIte, Nat.reduceEqDiff, Nat.reduceAdd, Nat.reduceMul, Nat.reduceSub, Nat.reduceLeDiff, Nat.reduceLT, reduceCtorEq, getD_map hi, hf, e365]
    refine ⟨⟨by omega, by omega, wid_map (g := eFnc) (fun _ => rfl) _⟩, fun b hb => ?_⟩
    refine aw_sr rfl ?_
    simp only [go_sem, reduceIte, Nat.reduceEqDiff, Nat.reduceAdd, Nat.reduceMul, Nat.reduceSub, Nat.reduceLeDiff, Nat.reduceLT, reduceCtorEq]
    refine goA_qb (q_TypesSmall _ _ _ o4.2.1) fun b1 => ?_
    simp only [go_sem, reduceIte, Nat.reduceEqDiff, Nat.reduceAdd, Nat.reduceMul, Nat.reduceSub, Nat.reduceLeDiff, Nat.reduceLT, reduceCtorEq]
    refine goH_qb (fun _ => q_TypesSmall1 f.2.2.2.2.1 o5.2) fun b2 => ?_
    simp only [go_sem, reduceIte, Nat.reduceEqDiff, Nat.reduceAdd, Nat.reduceMul, Nat.reduceSub, Nat.reduceLeDiff, Nat.reduceLT, reduceCtorEq]
    refine goH_qb (fun _ => q_exprSmall f.2.2.2.2.2 o6) fun b3 => ?_
    simp only [go_sem, reduceIte, Nat.reduceEqDiff, Nat.reduceAdd, Nat.reduceMul, Nat.reduceSub, Nat.reduceLeDiff, Nat.reduceLT, reduceCtorEq]
    refine aw_if rfl (fun h => ?_) (fun h => ?_)
    · refine aw_sr rfl ?_
      simp only [go_sem, reduceIte, Nat.reduceEqDiff, Nat.reduceAdd, Nat.reduceMul, Nat.reduceSub, Nat.reduceLeDiff, Nat.reduceLT, reduceCtorEq]
      exact aw_ret ⟨trivial, _, rfl, ⟨_, Vle.refl _⟩, hsub_at hb⟩
    · refine aw_skip ⟨(), ?_, hsub_at hb⟩
      simp only [go_sem, reduceIte, Nat.reduceEqDiff, Nat.reduceAdd, Nat.reduceMul, Nat.reduceSub, Nat.reduceLeDiff, Nat.reduceLT, reduceCtorEq]
  · intro _ _
    refine hK1 _ _ ?_
    refine aw_sr rfl ?_
    simp only [go_sem, reduceIte, Nat.reduceEqDiff, Nat.reduceAdd, Nat.reduceMul, Nat.reduceSub, Nat.reduceLeDiff, Nat.reduceLT, reduceCtorEq]
    exact aw_ret ⟨trivial, _, rfl, ⟨_, Vle.refl _⟩, fun _ _ h => h⟩
theorem q_ProgramSmall (p : Prgm) (hp : o29 p) : QB Try.prog 14 [.agg (cPrg p)] := by
  refine QB.weak fun G => ?_
  obtain ⟨_, _, _, o4, o5, o6, o7, o8⟩ := hp
  have h4 : p.2.2.2.1.1.length ≤ 1048576 := o4.2.1
  have h5 : p.2.2.2.2.1.1.length ≤ 1048576 := o5.2.1
  have h6 : p.2.2.2.2.2.1.1.length ≤ 1048576 := o6.2.1
  have h7 : p.2.2.2.2.2.2.1.1.length ≤ 1048576 := o7.2.1
  have h8 : p.2.2.2.2.2.2.2.1.length ≤ 1048576 := o8.2.1
  refine acall_body (rs := [.tmp 2]) Try.func14 rfl rfl Try.ntmps14 (by kernel_rfl) (Nat.le_of_ble_eq_true rfl) ?_
  refine aw_sr rfl ?_
  simp only [go_sem, reduceIte, Nat.reduceEqDiff, Nat.reduceAdd, Nat.reduceMul, Nat.reduceSub, Nat.reduceLeDiff, Nat.reduceLT, reduceCtorEq]
  intro b hb
  have hsb : Sub G ((b, .vars (cPrg p)) :: G) := sub_tail hb
  refine aw_seq fun K1 hK1 => ?_
  refine aw_sr rfl ?_
  simp only [go_sem, reduceIte, Nat.reduceEqDiff, Nat.reduceAdd, Nat.reduceMul, Nat.reduceSub, Nat.reduceLeDiff, Nat.reduceLT, reduceCtorEq, e29]
  refine goH_qb (fun _ => q_funcsSmall p.2.2.2.2.2.2.1 .no o7) fun b1 => ?_
  simp only [go_sem, reduceIte, Nat.reduceEqDiff, Nat.reduceAdd, Nat.reduceMul, Nat.reduceSub, Nat.reduceLeDiff, Nat.reduceLT, reduceCtorEq]
  refine aw_if rfl (fun h => ?_) (fun h => ?_)
  · refine aw_sr rfl ?_
    simp only [go_sem, reduceIte, Nat.reduceEqDiff, Nat.reduceAdd, Nat.reduceMul, Nat.reduceSub, Nat.reduceLeDiff, Nat.reduceLT, reduceCtorEq]
    exact aw_ret ⟨trivial, _, rfl, ⟨_, Vle.refl _⟩, hsb⟩
  refine aw_skip (hK1 _ _ ?_)
  refine aw_seq fun K2 hK2 => ?_
  refine aw_sr rfl ?_
  simp only [go_sem, reduceIte, Nat.reduceEqDiff, Nat.reduceAdd, Nat.reduceMul, Nat.reduceSub, Nat.reduceLeDiff, Nat.reduceLT, reduceCtorEq, e29]
  refine aw_range p.2.2.2.1.1.length (S := Unit) (fun _ _ => [(40, .sl (p.2.2.2.1.1.map e194) p.2.2.2.1.2 .no), (1, .ptr b 0)]) (fun _ _ => (b, .vars (cPrg p)) :: G) (fun i _ => True) () (by omega) ?_ (fun _ _ h => h) trivial rfl (fun _ _ => rfl) ?_ ?_ (by decide)
  · simp only [go_sem, reduceIte, Nat.reduceEqDiff, Nat.reduceAdd, Nat.reduceMul, Nat.reduceSub, Nat.reduceLeDiff, Nat.reduceLT, reduceCtorEq, Int.natCast_zero]
  · intro i _ hi _
    generalize hf : p.2.2.2.1.1[i] = f
    have of := o4.2.2 f (by rw [← hf]; exact List.getElem_mem hi)
    refine aw_sr rfl ?_
    simp only [go_sem, reduceIte, Nat.reduceEqDiff, Nat.reduceAdd, Nat.reduceMul, Nat.reduceSub, Nat.reduceLeDiff, Nat.reduceLT, reduceCtorEq, getD_map hi, hf, e194]
    refine ⟨⟨by omega, by omega, wid_map (g := e194) (fun _ => rfl) _⟩, fun b2 hb2 => ?_⟩
    refine aw_sr rfl ?_
    simp only [go_sem, reduceIte, Nat.reduceEqDiff, Nat.reduceAdd, Nat.reduceMul, Nat.reduceSub, Nat.reduceLeDiff, Nat.reduceLT, reduceCtorEq]
    have hl2 : f.2.2.1.length ≤ 1048576 := of.2.2.2.1
    refine aw_range f.2.2.1.length (S := Unit) (fun _ _ => [(47, .sl (f.2.2.1.map e196) f.2.2.2 .no), (42, .int .i64 i), (41, .int .i64 p.2.2.2.1.1.length), (40, .sl (p.2.2.2.1.1.map e194) p.2.2.2.1.2 .no), (1, .ptr b 0)]) (fun _ _ => (b, .vars (cPrg p)) :: G) (fun j _ => True) () (by omega) ?_ (hsub_at hb2) trivial rfl (fun _ _ => rfl) ?_ ?_ (by decide)
    · simp only [go_sem, reduceIte, Nat.reduceEqDiff, Nat.reduceAdd, Nat.reduceMul, Nat.reduceSub, Nat.reduceLeDiff, Nat.reduceLT, reduceCtorEq, Int.natCast_zero]
    · intro j _ hj _
      generalize hm : f.2.2.1[j] = m
      have om := of.2.2.2.2 m (by rw [← hm]; exact List.getElem_mem hj)
      refine aw_sr rfl ?_
      simp only [go_sem, reduceIte, Nat.reduceEqDiff, Nat.reduceAdd, Nat.reduceMul, Nat.reduceSub, Nat.reduceLeDiff, Nat.reduceLT, reduceCtorEq, getD_map hj, hm, e196]
      refine ⟨⟨by omega, by omega, wid_map (g := e196) (fun _ => rfl) _⟩, fun b3 hb3 => ?_⟩
      refine aw_sr rfl ?_
      simp only [go_sem, reduceIte, Nat.reduceEqDiff, Nat.reduceAdd, Nat.reduceMul, Nat.reduceSub, Nat.reduceLeDiff, Nat.reduceLT, reduceCtorEq]
      refine goA_qb (q_TypesSmall _ _ _ om.2.2.1) fun b1 => ?_
      simp only [go_sem, reduceIte, Nat.reduceEqDiff, Nat.reduceAdd, Nat.reduceMul, Nat.reduceSub, Nat.reduceLeDiff, Nat.reduceLT, reduceCtorEq]
      refine aw_if rfl (fun h => ?_) (fun h => ?_)
      · refine aw_sr rfl ?_
        simp only [go_sem, reduceIte, Nat.reduceEqDiff, Nat.reduceAdd, Nat.reduceMul, Nat.reduceSub, Nat.reduceLeDiff, Nat.reduceLT, reduceCtorEq]
        exact aw_ret ⟨trivial, _, rfl, ⟨_, Vle.refl _⟩, sub_trans hsb (sub_tail hb3)⟩
      · refine aw_skip ⟨(), ?_, hsub_at hb3⟩
        simp only [go_sem, reduceIte, Nat.reduceEqDiff, Nat.reduceAdd, Nat.reduceMul, Nat.reduceSub, Nat.reduceLeDiff, Nat.reduceLT, reduceCtorEq]
    · intro _ _
      refine ⟨(), ?_, fun _ _ h => h⟩
      simp only [go_sem, reduceIte, Nat.reduceEqDiff, Nat.reduceAdd, Nat.reduceMul, Nat.reduceSub, Nat.reduceLeDiff, Nat.reduceLT, reduceCtorEq]
  intro _ _
  refine hK2 _ _ ?_
  refine aw_seq fun K3 hK3 => ?_
  refine aw_sr rfl ?_
  simp only [go_sem, reduceIte, Nat.reduceEqDiff, Nat.reduceAdd, Nat.reduceMul, Nat.reduceSub, Nat.reduceLeDiff, Nat.reduceLT, reduceCtorEq, e29]
  refine aw_range p.2.2.2.2.1.1.length (S := Unit) (fun _ _ => [(60, .sl (p.2.2.2.2.1.1.map e198) p.2.2.2.2.1.2 .no), (1, .ptr b 0)]) (fun _ _ => (b, .vars (cPrg p)) :: G) (fun i _ => True) () (by omega) ?_ (fun _ _ h => h) trivial rfl (fun _ _ => rfl) ?_ ?_ (by decide)
  · simp only [go_sem, reduceIte, Nat.reduceEqDiff, Nat.reduceAdd, Nat.reduceMul, Nat.reduceSub, Nat.reduceLeDiff, Nat.reduceLT, reduceCtorEq, Int.natCast_zero]
  · intro i _ hi _
    generalize hf : p.2.2.2.2.1.1[i] = f
    have of := o5.2.2 f (by rw [← hf]; exact List.getElem_mem hi)
    refine aw_sr rfl ?_
    simp only [go_sem, reduceIte, Nat.reduceEqDiff, Nat.reduceAdd, Nat.reduceMul, Nat.reduceSub, Nat.reduceLeDiff, Nat.reduceLT, reduceCtorEq, getD_map hi, hf, e198]
    refine ⟨⟨by omega, by omega, wid_map (g := e198) (fun _ => rfl) _⟩, fun b2 hb2 => ?_⟩
    refine aw_sr rfl ?_
    simp only [go_sem, reduceIte, Nat.reduceEqDiff, Nat.reduceAdd, Nat.reduceMul, Nat.reduceSub, Nat.reduceLeDiff, Nat.reduceLT, reduceCtorEq]
    refine goA_qb (q_funcsSmall f.2 .no of.2) fun b1 => ?_
    simp only [go_sem, reduceIte, Nat.reduceEqDiff, Nat.reduceAdd, Nat.reduceMul, Nat.reduceSub, Nat.reduceLeDiff, Nat.reduceLT, reduceCtorEq]
    refine aw_if rfl (fun h => ?_) (fun h => ?_)
    · refine aw_sr rfl ?_
      simp only [go_sem, reduceIte, Nat.reduceEqDiff, Nat.reduceAdd, Nat.reduceMul, Nat.reduceSub, Nat.reduceLeDiff, Nat.reduceLT, reduceCtorEq]
      exact aw_ret ⟨trivial, _, rfl, ⟨_, Vle.refl _⟩, sub_trans hsb (sub_tail hb2)⟩
    · refine aw_skip ⟨(), ?_, hsub_at hb2⟩
      simp only [go_sem, reduceIte, Nat.reduceEqDiff, Nat.reduceAdd, Nat.reduceMul, Nat.reduceSub, Nat.reduceLeDiff, Nat.reduceLT, reduceCtorEq]
  intro _ _
  refine hK3 _ _ ?_
  refine aw_seq fun K4 hK4 => ?_
  refine aw_sr rfl ?_
  simp only [go_sem, reduceIte, Nat.reduceEqDiff, Nat.reduceAdd, Nat.reduceMul, Nat.reduceSub, Nat.reduceLeDiff, Nat.reduceLT, reduceCtorEq, e29]
  refine aw_range p.2.2.2.2.2.1.1.length (S := Unit) (fun _ _ => [(72, .sl (p.2.2.2.2.2.1.1.map e200) p.2.2.2.2.2.1.2 .no), (1, .ptr b 0)]) (fun _ _ => (b, .vars (cPrg p)) :: G) (fun i _ => True) () (by omega) ?_ (fun _ _ h => h) trivial rfl (fun _ _ => rfl) ?_ ?_ (by decide)
  · simp only [go_sem, reduceIte, Nat.reduceEqDiff, Nat.reduceAdd, Nat.reduceMul, Nat.reduceSub, Nat.reduceLeDiff, Nat.reduceLT, reduceCtorEq, Int.natCast_zero]
  · intro i _ hi _
    generalize hf : p.2.2.2.2.2.1.1[i] = f
    have of := o6.2.2 f (by rw [← hf]; exact List.getElem_mem hi)
    refine aw_sr rfl ?_
    simp only [go_sem, reduceIte, Nat.reduceEqDiff, Nat.reduceAdd, Nat.reduceMul, Nat.reduceSub, Nat.reduceLeDiff, Nat.reduceLT, reduceCtorEq, getD_map hi, hf, e200]
    refine ⟨⟨by omega, by omega, wid_map (g := e200) (fun _ => rfl) _⟩, fun b2 hb2 => ?_⟩
    refine aw_sr rfl ?_
    simp only [go_sem, reduceIte, Nat.reduceEqDiff, Nat.reduceAdd, Nat.reduceMul, Nat.reduceSub, Nat.reduceLeDiff, Nat.reduceLT, reduceCtorEq]
    refine goA_qb (q_funcsSmall f.2.2 .no of.2.2) fun b1 => ?_
    simp only [go_sem, reduceIte, Nat.reduceEqDiff, Nat.reduceAdd, Nat.reduceMul, Nat.reduceSub, Nat.reduceLeDiff, Nat.reduceLT, reduceCtorEq]
    refine aw_if rfl (fun h => ?_) (fun h => ?_)
    · refine aw_sr rfl ?_
      simp only [go_sem, reduceIte, Nat.reduceEqDiff, Nat.reduceAdd, Nat.reduceMul, Nat.reduceSub, Nat.reduceLeDiff, Nat.reduceLT, reduceCtorEq]
      exact aw_ret ⟨trivial, _, rfl, ⟨_, Vle.refl _⟩, sub_trans hsb (sub_tail hb2)⟩
    · refine aw_skip ⟨(), ?_, hsub_at hb2⟩
      simp only [go_sem, reduceIte, Nat.reduceEqDiff, Nat.reduceAdd, Nat.reduceMul, Nat.reduceSub, Nat.reduceLeDiff, Nat.reduceLT, reduceCtorEq]
  intro _ _
  refine hK4 _ _ ?_
  refine aw_seq fun K5 hK5 => ?_
  refine aw_sr rfl ?_
  simp only [go_sem, reduceIte, Nat.reduceEqDiff, Nat.reduceAdd, Nat.reduceMul, Nat.reduceSub, Nat.reduceLeDiff, Nat.reduceLT, reduceCtorEq, e29]
  refine aw_range p.2.2.2.2.2.2.2.1.length (S := Unit) (fun _ _ => [(84, .sl (p.2.2.2.2.2.2.2.1.map e42) p.2.2.2.2.2.2.2.2 .no), (1, .ptr b 0)]) (fun _ _ => (b, .vars (cPrg p)) :: G) (fun i _ => True) () (by omega) ?_ (fun _ _ h => h) trivial rfl (fun _ _ => rfl) ?_ ?_ (by decide)
  · simp only [go_sem, reduceIte, Nat.reduceEqDiff, Nat.reduceAdd, Nat.reduceMul, Nat.reduceSub, Nat.reduceLeDiff, Nat.reduceLT, reduceCtorEq, Int.natCast_zero]
  · intro i _ hi _
    generalize hf : p.2.2.2.2.2.2.2.1[i] = f
    have of := o8.2.2 f (by rw [← hf]; exact List.getElem_mem hi)
    refine aw_sr rfl ?_
    simp only [go_sem, reduceIte, Nat.reduceEqDiff, Nat.reduceAdd, Nat.reduceMul, Nat.reduceSub, Nat.reduceLeDiff, Nat.reduceLT, reduceCtorEq, getD_map hi, hf, e42]
    refine ⟨⟨by omega, by omega, wid_map (g := e42) (fun _ => rfl) _⟩, fun b2 hb2 => ?_⟩
    refine aw_sr rfl ?_
    simp only [go_sem, reduceIte, Nat.reduceEqDiff, Nat.reduceAdd, Nat.reduceMul, Nat.reduceSub, Nat.reduceLeDiff, Nat.reduceLT, reduceCtorEq]
    refine goA_qb (q_TypesSmall _ _ _ of.2.2.1.2.1) fun b1 => ?_
    simp only [go_sem, reduceIte, Nat.reduceEqDiff, Nat.reduceAdd, Nat.reduceMul, Nat.reduceSub, Nat.reduceLeDiff, Nat.reduceLT, reduceCtorEq]
    refine goH_qb (fun _ => q_TypesSmall1 f.2.2.2.1 of.2.2.2.1.2) fun b2 => ?_
    simp only [go_sem, reduceIte, Nat.reduceEqDiff, Nat.reduceAdd, Nat.reduceMul, Nat.reduceSub, Nat.reduceLeDiff, Nat.reduceLT, reduceCtorEq]
    refine goH_qb (fun _ => q_exprSmall f.2.2.2.2 of.2.2.2.2) fun b3 => ?_
    simp only [go_sem, reduceIte, Nat.reduceEqDiff, Nat.reduceAdd, Nat.reduceMul, Nat.reduceSub, Nat.reduceLeDiff, Nat.reduceLT, reduceCtorEq]
    refine aw_if rfl (fun h => ?_) (fun h => ?_)
    · refine aw_sr rfl ?_
      simp only [go_sem, reduceIte, Nat.reduceEqDiff, Nat.reduceAdd, Nat.reduceMul, Nat.reduceSub, Nat.reduceLeDiff, Nat.reduceLT, reduceCtorEq]
      exact aw_ret ⟨trivial, _, rfl, ⟨_, Vle.refl _⟩, sub_trans hsb (sub_tail hb2)⟩
    · refine aw_skip ⟨(), ?_, hsub_at hb2⟩
      simp only [go_sem, reduceIte, Nat.reduceEqDiff, Nat.reduceAdd, Nat.reduceMul, Nat.reduceSub, Nat.reduceLeDiff, Nat.reduceLT, reduceCtorEq]
  intro _ _
  refine hK5 _ _ ?_
  refine aw_sr rfl ?_
  simp only [go_sem, reduceIte, Nat.reduceEqDiff, Nat.reduceAdd, Nat.reduceMul, Nat.reduceSub, Nat.reduceLeDiff, Nat.reduceLT, reduceCtorEq]
  exact aw_ret ⟨trivial, _, rfl, ⟨_, Vle.refl _⟩, hsb⟩
end Go.Proofs.Ytclmcpbanaojfaa

set_option linter.unusedSimpArgs false
set_option linter.unusedVariables false
namespace Go.Proofs.Ytclmcpbanaojfaa
open Go.Proofs.YtclmcpbanaojfaaV
set_option maxHeartbeats 400000
set_option maxRecDepth 100000
/-- A letter that no name has at place i. -/
def badAt (i : Nat) (c : UInt8) : Bool := (decide ((c.toNat : Int) < 97) || decide ((c.toNat : Int) > 122)) && (decide ((i : Int) = 0) || (decide ((c.toNat : Int) ≠ 95) && (decide ((c.toNat : Int) < 48) || decide ((c.toNat : Int) > 57))))
def isName (s : List UInt8) : Bool := (List.range s.length).all (fun i => !badAt i (s.getD i 0)) && (decide ((s.length : Int) ≥ 1) && decide ((s.length : Int) ≤ 16))
end Go.Proofs.Ytclmcpbanaojfaa

set_option linter.unusedSimpArgs false
set_option linter.unusedVariables false
namespace Go.Proofs.Ytclmcpbanaojfaa
open Go.Proofs.YtclmcpbanaojfaaV
set_option maxHeartbeats 400000
set_option maxRecDepth 100000
/-- api.Use: a name, a low version, a high one. -/
def eUse (u : List UInt8 × Int × Int) : List V := [.str u.1, .int .i64 u.2.1, .int .i64 u.2.2]
theorem sca_use (us : List (List UInt8 × Int × Int)) : sca (us.map eUse) := by
  intro e he x hx
  obtain ⟨u, _, rfl⟩ := List.mem_map.1 he
  simp only [eUse, List.mem_cons, List.not_mem_nil, or_false] at hx
  rcases hx with rfl | rfl | rfl <;> rfl
end Go.Proofs.Ytclmcpbanaojfaa

set_option linter.unusedSimpArgs false
set_option linter.unusedVariables false
namespace Go.Proofs.Ytclmcpbanaojfaa
open Go.Proofs.YtclmcpbanaojfaaV
set_option maxHeartbeats 400000
set_option maxRecDepth 100000
def useBad (u : List UInt8 × Int × Int) : Bool := decide (u.2.1 < 1) || decide (9999 < u.2.2) || decide (u.2.2 < u.2.1)
/-- What is wrong with uses: the first that is wrong says it. -/
def usesF : List (List UInt8 × Int × Int) → Int
  | [] => 0
  | u :: us => if isName u.1 = false then 11 else if useBad u = true then 1 else usesF us
theorem hsub_cons {G : Heap} {b : Nat} {o : AObj} (h : hget G b = none) : ∀ b' o', hget G b' = some o' → hget ((b, o) :: G) b' = some o' := by
  intro b' o' h'
  rw [hget_cons, if_neg]
  · exact h'
  · intro e; subst e; rw [h] at h'; cases h'
theorem hset_self {G : Heap} {b : Nat} {o x : AObj} : hset ((b, o) :: G) b x = (b, x) :: G := by simp [hset]
attribute [go_sem] hget_self hset_self List.all_cons List.all_nil scalarV Nat.zero_add
end Go.Proofs.Ytclmcpbanaojfaa

set_option linter.unusedSimpArgs false
set_option linter.unusedVariables false
namespace Go.Proofs.Ytclmcpbanaojfaa
open Go.Proofs.YtclmcpbanaojfaaV
set_option maxHeartbeats 400000
set_option maxRecDepth 100000
abbrev cV (v : Val) : List V := [.int .i64 v.kind, .int .i64 v.num, .str v.text, .sl (v.args.map eVal) v.nl .no]
theorem eC (v : Val) : eVal v = cV v := eVal_eq v
theorem q_EqualFuncV (F : FuncId) (us ws : List V) (f : Val → Val → Bool) (xs ys : List Val) (n1 n2 : Bool) (t1 t2 : Tag) (hx : (xs.length : Int) ≤ 9223372036854775807)
    (hF : ∀ a ∈ xs, ∀ b ∈ ys, Quiet Try.prog F (us ++ [.agg (cV a), .agg (cV b)] ++ ws) (.bool (f a b))) :
    Quiet Try.prog 57 [.sl (xs.map eVal) n1 t1, .sl (ys.map eVal) n2 t2, .func (.func F) us ws] (.bool (eqF f xs ys)) := by
  refine Quiet.weak fun G => ?_
  refine acall_body (rs := [.tmp 6]) Try.func57 rfl rfl Try.ntmps57 (by kernel_rfl) (Nat.le_of_ble_eq_true rfl) ?_
  refine aw_sr rfl ?_
  simp only [go_sem, reduceIte, Nat.reduceEqDiff, Nat.reduceAdd, Nat.reduceMul, Nat.reduceSub, Nat.reduceLeDiff, Nat.reduceLT, reduceCtorEq]
  refine aw_seq fun K1 hK1 => ?_
  refine aw_sr rfl ?_
  simp only [go_sem, reduceIte, Nat.reduceEqDiff, Nat.reduceAdd, Nat.reduceMul, Nat.reduceSub, Nat.reduceLeDiff, Nat.reduceLT, reduceCtorEq]
  refine aw_if rfl (fun h => ?_) (fun h => ?_)
  · refine aw_sr rfl ?_
    simp only [go_sem, reduceIte, Nat.reduceEqDiff, Nat.reduceAdd, Nat.reduceMul, Nat.reduceSub, Nat.reduceLeDiff, Nat.reduceLT, reduceCtorEq]
    refine aw_ret ⟨trivial, _, rfl, ?_, fun _ _ h => h⟩
    have h : ¬ xs.length = ys.length := by simpa [Int.natCast_inj] using h
    rw [eqF, decide_eq_false h]
    exact Vle.refl _
  · refine aw_skip (hK1 _ _ ?_)
    have hl : xs.length = ys.length := by simpa [Int.natCast_inj] using h
    refine aw_seq fun K2 hK2 => ?_
    refine aw_sr rfl ?_
    simp only [go_sem, reduceIte, Nat.reduceEqDiff, Nat.reduceAdd, Nat.reduceMul, Nat.reduceSub, Nat.reduceLeDiff, Nat.reduceLT, reduceCtorEq]
    refine aw_range xs.length (S := Unit) (fun _ _ => [(15, .sl (xs.map eVal) n1 t1), (1, .sl (ys.map eVal) n2 t2), (2, .func (.func F) us ws)]) (fun _ _ => G) (fun i _ => ((xs.take i).zip (ys.take i)).all (fun p => f p.1 p.2) = true) () hx ?_ (fun _ _ h => h) rfl rfl (fun _ _ => rfl) ?_ ?_ (by decide)
    · simp only [go_sem, reduceIte, Nat.reduceEqDiff, Nat.reduceAdd, Nat.reduceMul, Nat.reduceSub, Nat.reduceLeDiff, Nat.reduceLT, reduceCtorEq, Int.natCast_zero]
    · intro i _ hi he
      have hi2 : i < ys.length := hl ▸ hi
      refine aw_sr rfl ?_
      simp only [go_sem, reduceIte, Nat.reduceEqDiff, Nat.reduceAdd, Nat.reduceMul, Nat.reduceSub, Nat.reduceLeDiff, Nat.reduceLT, reduceCtorEq, getD_map hi, getD_map hi2, eC, cV]
      refine ⟨⟨by omega, by omega, wid_map (g := eVal) (fun _ => by simp [eC, cV]) _⟩, fun b hb => ?_⟩
      refine aw_sr rfl ?_
      simp only [go_sem, reduceIte, Nat.reduceEqDiff, Nat.reduceAdd, Nat.reduceMul, Nat.reduceSub, Nat.reduceLeDiff, Nat.reduceLT, reduceCtorEq, getD_map hi, getD_map hi2, eC, cV]
      refine ⟨⟨by omega, by omega, wid_map (g := eVal) (fun _ => by simp [eC, cV]) _⟩, fun b2 hb2 => ?_⟩
      have hne : ¬ b2 = b := by intro e; subst e; rw [hget_cons, if_pos rfl] at hb2; cases hb2
      refine aw_sr rfl ?_
      simp only [go_sem, reduceIte, Nat.reduceEqDiff, Nat.reduceAdd, Nat.reduceMul, Nat.reduceSub, Nat.reduceLeDiff, Nat.reduceLT, reduceCtorEq, hget_cons, hne]
      have hq := hF _ (List.getElem_mem hi) _ (List.getElem_mem hi2)
      refine goA_q hq ?_
      simp only [go_sem, reduceIte, Nat.reduceEqDiff, Nat.reduceAdd, Nat.reduceMul, Nat.reduceSub, Nat.reduceLeDiff, Nat.reduceLT, reduceCtorEq]
      refine aw_if rfl (fun h => ?_) (fun h => ?_)
      · refine aw_sr rfl ?_
        simp only [go_sem, reduceIte, Nat.reduceEqDiff, Nat.reduceAdd, Nat.reduceMul, Nat.reduceSub, Nat.reduceLeDiff, Nat.reduceLT, reduceCtorEq]
        refine aw_ret ⟨trivial, _, rfl, ?_, fun b' o' h => hsub_cons hb2 _ _ (hsub_cons hb _ _ h)⟩
        rw [eqF, all_zip_not (q := fun p => f p.1 p.2) hi hi2 (by simpa using h), Bool.and_false]
        exact Vle.refl _
      · refine aw_skip ⟨(), all_zip_next (q := fun p => f p.1 p.2) he hi hi2 (by simpa using h), ?_, fun b' o' h => hsub_cons hb2 _ _ (hsub_cons hb _ _ h)⟩
        simp only [go_sem, reduceIte, Nat.reduceEqDiff, Nat.reduceAdd, Nat.reduceMul, Nat.reduceSub, Nat.reduceLeDiff, Nat.reduceLT, reduceCtorEq]
    · intro _ he
      refine hK2 _ _ ?_
      refine aw_sr rfl ?_
      simp only [go_sem, reduceIte, Nat.reduceEqDiff, Nat.reduceAdd, Nat.reduceMul, Nat.reduceSub, Nat.reduceLeDiff, Nat.reduceLT, reduceCtorEq]
      refine aw_ret ⟨trivial, _, rfl, ?_, fun _ _ h => h⟩
      rw [eqF, decide_eq_true hl, Bool.true_and]
      rw [List.take_length, hl, List.take_length] at he
      rw [he]
      exact Vle.refl _
theorem q_sameValue0 : ∀ (n : Nat) (a b : Val), a.sz ≤ n → OkVal a → Quiet Try.prog 129 [.agg (cV a), .agg (cV b)] (.bool (sameV a b)) := by
  intro n
  induction n with
  | zero => intro a b h; have := a.sz_eq; omega
  | succ n ih =>
    intro a b h ho
    have hq : Quiet Try.prog 57 [.sl (a.args.map eVal) a.nl .no, .sl (b.args.map eVal) b.nl .no, .func (.func 129) [] []] (.bool (eqF sameV a.args b.args)) :=
      q_EqualFuncV _ [] [] sameV a.args b.args _ _ _ _ (le_bulk ho.len) fun x hx y hy => ih x y (by have := Val.sz_args hx; omega) (ho.arg hx)
    refine Quiet.weak fun G => ?_
    refine acall_body (rs := [.tmp 4]) Try.func129 rfl rfl Try.ntmps129 (by kernel_rfl) (Nat.le_of_ble_eq_true rfl) ?_
    refine aw_sr rfl ?_
    simp only [go_sem, reduceIte, Nat.reduceEqDiff, Nat.reduceAdd, Nat.reduceMul, Nat.reduceSub, Nat.reduceLeDiff, Nat.reduceLT, reduceCtorEq]
    intro b1 hb b2 hb2
    have hne : ¬ b2 = b1 := by intro e; subst e; rw [hget_cons, if_pos rfl] at hb2; cases hb2
    refine aw_sr rfl ?_
    simp only [go_sem, reduceIte, Nat.reduceEqDiff, Nat.reduceAdd, Nat.reduceMul, Nat.reduceSub, Nat.reduceLeDiff, Nat.reduceLT, reduceCtorEq, hget_cons, hne]
    refine goH_q (fun hg => hq) ?_
    simp only [go_sem, reduceIte, Nat.reduceEqDiff, Nat.reduceAdd, Nat.reduceMul, Nat.reduceSub, Nat.reduceLeDiff, Nat.reduceLT, reduceCtorEq]
    refine aw_ret ⟨trivial, _, rfl, ?_, fun b' o' h => hsub_cons hb2 _ _ (hsub_cons hb _ _ h)⟩
    rw [sameV_eq]
    exact Vle.refl _
theorem q_sameValue (a b : Val) (h : OkVal a) : Quiet Try.prog 129 [.agg (cV a), .agg (cV b)] (.bool (sameV a b)) := q_sameValue0 _ a b (Nat.le_refl _) h
theorem q_sameValues (xs ys : List Val) (n1 n2 : Bool) (t1 t2 : Tag) (hx : (xs.length : Int) ≤ 9223372036854775807) (ho : ∀ a ∈ xs, OkVal a) :
    Quiet Try.prog 57 [.sl (xs.map eVal) n1 t1, .sl (ys.map eVal) n2 t2, .func (.func 129) [] []] (.bool (eqF sameV xs ys)) :=
  q_EqualFuncV _ [] [] sameV xs ys _ _ _ _ hx fun x hx y hy => q_sameValue x y (ho x hx)
/-- An input: its kind, its value. -/
abbrev Inp := Int × Val
abbrev cIn (x : Inp) : List V := .int .i64 x.1 :: cV x.2
def eIn (x : Inp) : List V := cIn x
def sameI (a b : Inp) : Bool := decide (a.1 = b.1) && sameV a.2 b.2
/-- What is saved: an actor, its state, its inputs. -/
abbrev Sav := List UInt8 × (List Val × Bool) × (List Inp × Bool)
abbrev cSav (s : Sav) : List V := [.str s.1, .sl (s.2.1.1.map eVal) s.2.1.2 .no, .sl (s.2.2.1.map eIn) s.2.2.2 .no]
def sameSav (a b : Sav) : Bool := decide (a.1 = b.1) && eqF sameV a.2.1.1 b.2.1.1 && eqF sameI a.2.2.1 b.2.2.1
end Go.Proofs.Ytclmcpbanaojfaa

/- slices.Index of texts: what it answers; the condition: fewer than 2^63 elements. -/
set_option linter.unusedSimpArgs false
set_option linter.unusedVariables false
namespace Go.Proofs.Ytclmcpbanaojfaa
open Go.Proofs.YtclmcpbanaojfaaV
set_option maxHeartbeats 400000
set_option maxRecDepth 100000
theorem q_IndexStr (xs : List (List UInt8)) (nl : Bool) (t : Tag) (s : List UInt8) (hx : (xs.length : Int) ≤ 9223372036854775807) :
    Quiet Try.prog 181 [.sl (xs.map eNm) nl t, .str s] (.int .i64 (ixI (xs.findIdx? fun x => decide (s = x)))) := by
  refine Quiet.weak fun G => ?_
  refine acall_body (rs := [.tmp 4]) Try.func181 rfl rfl Try.ntmps181 (by kernel_rfl) (Nat.le_of_ble_eq_true rfl) ?_
  refine aw_sr rfl ?_
  simp only [go_sem, reduceIte, Nat.reduceEqDiff, Nat.reduceAdd, Nat.reduceMul, Nat.reduceSub, Nat.reduceLeDiff, Nat.reduceLT, reduceCtorEq]
  refine aw_seq fun K1 hK1 => ?_
  refine aw_sr rfl ?_
  simp only [go_sem, reduceIte, Nat.reduceEqDiff, Nat.reduceAdd, Nat.reduceMul, Nat.reduceSub, Nat.reduceLeDiff, Nat.reduceLT, reduceCtorEq]
  refine aw_range xs.length (S := Unit) (fun _ _ => [(0, .sl (xs.map eNm) nl t), (1, .str s)]) (fun _ _ => G) (fun i _ => ∀ j (h : j < xs.length), j < i → decide (s = xs[j]) = false) () hx ?_ (fun _ _ h => h) (fun j _ h => absurd h (by omega)) rfl (fun _ _ => rfl) ?_ ?_ (by decide)
  · simp only [go_sem, reduceIte, Nat.reduceEqDiff, Nat.reduceAdd, Nat.reduceMul, Nat.reduceSub, Nat.reduceLeDiff, Nat.reduceLT, reduceCtorEq, Int.natCast_zero]
  · intro i _ hi he
    refine aw_sr rfl ?_
    simp only [go_sem, reduceIte, Nat.reduceEqDiff, Nat.reduceAdd, Nat.reduceMul, Nat.reduceSub, Nat.reduceLeDiff, Nat.reduceLT, reduceCtorEq]
    refine aw_sr rfl ?_
    simp only [go_sem, reduceIte, Nat.reduceEqDiff, Nat.reduceAdd, Nat.reduceMul, Nat.reduceSub, Nat.reduceLeDiff, Nat.reduceLT, reduceCtorEq, getD_map hi, eNm]
    refine ⟨⟨by omega, by omega, wid_map (g := eNm) (fun _ => rfl) _⟩, ?_⟩
    refine aw_if rfl (fun h => ?_) (fun h => ?_)
    · refine aw_sr rfl ?_
      simp only [go_sem, reduceIte, Nat.reduceEqDiff, Nat.reduceAdd, Nat.reduceMul, Nat.reduceSub, Nat.reduceLeDiff, Nat.reduceLT, reduceCtorEq]
      refine aw_ret ⟨trivial, _, rfl, ?_, fun _ _ h => h⟩
      rw [ixI_at hi h (fun j hj => he j (by omega) hj)]
      exact Vle.refl _
    · refine aw_skip ⟨(), fun j hj hlt => ?_, ?_, fun _ _ h => h⟩
      · by_cases e : j = i
        · subst e; exact h
        · exact he j hj (by omega)
      simp only [go_sem, reduceIte, Nat.reduceEqDiff, Nat.reduceAdd, Nat.reduceMul, Nat.reduceSub, Nat.reduceLeDiff, Nat.reduceLT, reduceCtorEq]
  · intro _ he
    refine hK1 _ _ ?_
    refine aw_sr rfl ?_
    simp only [go_sem, reduceIte, Nat.reduceEqDiff, Nat.reduceAdd, Nat.reduceMul, Nat.reduceSub, Nat.reduceLeDiff, Nat.reduceLT, reduceCtorEq]
    refine aw_ret ⟨trivial, _, rfl, ?_, fun _ _ h => h⟩
    rw [ixI_none (fun j hj => he j hj hj)]
    exact Vle.refl _
end Go.Proofs.Ytclmcpbanaojfaa

set_option linter.unusedSimpArgs false
set_option linter.unusedVariables false
namespace Go.Proofs.Ytclmcpbanaojfaa
open Go.Proofs.YtclmcpbanaojfaaV
set_option maxHeartbeats 400000
set_option maxRecDepth 100000
abbrev Dat := D194
abbrev Mak := D196
theorem q_IndexDat (H0 : Heap) (F : FuncId) (us ws : List V) (f : Dat → Bool) (xs : List Dat) (nl : Bool) (t : Tag) (hx : (xs.length : Int) ≤ 9223372036854775807)
    (hF : ∀ a ∈ xs, QuietOn Try.prog H0 F (us ++ [.agg (eData a)] ++ ws) (.bool (f a))) :
    QuietOn Try.prog H0 271 [.sl (xs.map eData) nl t, .func (.func F) us ws] (.int .i64 (ixI (xs.findIdx? f))) := by
  intro G hG
  refine acall_body (rs := [.tmp 4]) Try.func271 rfl rfl Try.ntmps271 (by kernel_rfl) (Nat.le_of_ble_eq_true rfl) ?_
  refine aw_sr rfl ?_
  simp only [go_sem, reduceIte, Nat.reduceEqDiff, Nat.reduceAdd, Nat.reduceMul, Nat.reduceSub, Nat.reduceLeDiff, Nat.reduceLT, reduceCtorEq]
  refine aw_seq fun K1 hK1 => ?_
  refine aw_sr rfl ?_
  simp only [go_sem, reduceIte, Nat.reduceEqDiff, Nat.reduceAdd, Nat.reduceMul, Nat.reduceSub, Nat.reduceLeDiff, Nat.reduceLT, reduceCtorEq]
  refine aw_range xs.length (S := {H : Heap // H = G}) (fun _ _ => [(0, .sl (xs.map eData) nl t), (1, .func (.func F) us ws)]) (fun _ s => s.1) (fun i _ => ∀ j (h : j < xs.length), j < i → f xs[j] = false) ⟨G, rfl⟩ hx ?_ (fun _ _ h => h) (fun j _ h => absurd h (by omega)) rfl (fun _ _ => rfl) ?_ ?_ (by decide)
  · simp only [go_sem, reduceIte, Nat.reduceEqDiff, Nat.reduceAdd, Nat.reduceMul, Nat.reduceSub, Nat.reduceLeDiff, Nat.reduceLT, reduceCtorEq, Int.natCast_zero]
  · intro i ⟨H, hH⟩ hi he
    subst hH
    refine aw_sr rfl ?_
    simp only [go_sem, reduceIte, Nat.reduceEqDiff, Nat.reduceAdd, Nat.reduceMul, Nat.reduceSub, Nat.reduceLeDiff, Nat.reduceLT, reduceCtorEq]
    refine aw_sr rfl ?_
    simp only [go_sem, reduceIte, Nat.reduceEqDiff, Nat.reduceAdd, Nat.reduceMul, Nat.reduceSub, Nat.reduceLeDiff, Nat.reduceLT, reduceCtorEq, getD_map hi, e194]
    refine ⟨⟨by omega, by omega, wid_map (g := eData) (fun _ => by simp [e194]) _⟩, ?_⟩
    have hq := hF _ (List.getElem_mem hi)
    refine goA_on hq hG ?_
    simp only [go_sem, reduceIte, Nat.reduceEqDiff, Nat.reduceAdd, Nat.reduceMul, Nat.reduceSub, Nat.reduceLeDiff, Nat.reduceLT, reduceCtorEq]
    refine aw_if rfl (fun h => ?_) (fun h => ?_)
    · refine aw_sr rfl ?_
      simp only [go_sem, reduceIte, Nat.reduceEqDiff, Nat.reduceAdd, Nat.reduceMul, Nat.reduceSub, Nat.reduceLeDiff, Nat.reduceLT, reduceCtorEq]
      refine aw_ret ⟨trivial, _, rfl, ?_, rfl⟩
      rw [ixI_at hi h (fun j hj => he j (by omega) hj)]
      rfl
    · refine aw_skip ⟨⟨H, rfl⟩, fun j hj hlt => ?_, ?_, fun _ _ h => h⟩
      · by_cases e : j = i
        · subst e; exact h
        · exact he j hj (by omega)
      simp only [go_sem, reduceIte, Nat.reduceEqDiff, Nat.reduceAdd, Nat.reduceMul, Nat.reduceSub, Nat.reduceLeDiff, Nat.reduceLT, reduceCtorEq]
  · intro ⟨H, hH⟩ he
    subst hH
    refine hK1 _ _ ?_
    refine aw_sr rfl ?_
    simp only [go_sem, reduceIte, Nat.reduceEqDiff, Nat.reduceAdd, Nat.reduceMul, Nat.reduceSub, Nat.reduceLeDiff, Nat.reduceLT, reduceCtorEq]
    refine aw_ret ⟨trivial, _, rfl, ?_, rfl⟩
    rw [ixI_none (fun j hj => he j hj hj)]
    rfl
theorem q_IndexMak (H0 : Heap) (F : FuncId) (us ws : List V) (f : Mak → Bool) (xs : List Mak) (nl : Bool) (t : Tag) (hx : (xs.length : Int) ≤ 9223372036854775807)
    (hF : ∀ a ∈ xs, QuietOn Try.prog H0 F (us ++ [.agg (eMake a)] ++ ws) (.bool (f a))) :
    QuietOn Try.prog H0 296 [.sl (xs.map eMake) nl t, .func (.func F) us ws] (.int .i64 (ixI (xs.findIdx? f))) := by
  intro G hG
  refine acall_body (rs := [.tmp 4]) Try.func296 rfl rfl Try.ntmps296 (by kernel_rfl) (Nat.le_of_ble_eq_true rfl) ?_
  refine aw_sr rfl ?_
  simp only [go_sem, reduceIte, Nat.reduceEqDiff, Nat.reduceAdd, Nat.reduceMul, Nat.reduceSub, Nat.reduceLeDiff, Nat.reduceLT, reduceCtorEq]
  refine aw_seq fun K1 hK1 => ?_
  refine aw_sr rfl ?_
  simp only [go_sem, reduceIte, Nat.reduceEqDiff, Nat.reduceAdd, Nat.reduceMul, Nat.reduceSub, Nat.reduceLeDiff, Nat.reduceLT, reduceCtorEq]
  refine aw_range xs.length (S := {H : Heap // H = G}) (fun _ _ => [(0, .sl (xs.map eMake) nl t), (1, .func (.func F) us ws)]) (fun _ s => s.1) (fun i _ => ∀ j (h : j < xs.length), j < i → f xs[j] = false) ⟨G, rfl⟩ hx ?_ (fun _ _ h => h) (fun j _ h => absurd h (by omega)) rfl (fun _ _ => rfl) ?_ ?_ (by decide)
  · simp only [go_sem, reduceIte, Nat.reduceEqDiff, Nat.reduceAdd, Nat.reduceMul, Nat.reduceSub, Nat.reduceLeDiff, Nat.reduceLT, reduceCtorEq, Int.natCast_zero]
  · intro i ⟨H, hH⟩ hi he
    subst hH
    refine aw_sr rfl ?_
    simp only [go_sem, reduceIte, Nat.reduceEqDiff, Nat.reduceAdd, Nat.reduceMul, Nat.reduceSub, Nat.reduceLeDiff, Nat.reduceLT, reduceCtorEq]
    refine aw_sr rfl ?_
    simp only [go_sem, reduceIte, Nat.reduceEqDiff, Nat.reduceAdd, Nat.reduceMul, Nat.reduceSub, Nat.reduceLeDiff, Nat.reduceLT, reduceCtorEq, getD_map hi, e196]
    refine ⟨⟨by omega, by omega, wid_map (g := eMake) (fun _ => by simp [e196]) _⟩, ?_⟩
    have hq := hF _ (List.getElem_mem hi)
    refine goA_on hq hG ?_
    simp only [go_sem, reduceIte, Nat.reduceEqDiff, Nat.reduceAdd, Nat.reduceMul, Nat.reduceSub, Nat.reduceLeDiff, Nat.reduceLT, reduceCtorEq]
    refine aw_if rfl (fun h => ?_) (fun h => ?_)
    · refine aw_sr rfl ?_
      simp only [go_sem, reduceIte, Nat.reduceEqDiff, Nat.reduceAdd, Nat.reduceMul, Nat.reduceSub, Nat.reduceLeDiff, Nat.reduceLT, reduceCtorEq]
      refine aw_ret ⟨trivial, _, rfl, ?_, rfl⟩
      rw [ixI_at hi h (fun j hj => he j (by omega) hj)]
      rfl
    · refine aw_skip ⟨⟨H, rfl⟩, fun j hj hlt => ?_, ?_, fun _ _ h => h⟩
      · by_cases e : j = i
        · subst e; exact h
        · exact he j hj (by omega)
      simp only [go_sem, reduceIte, Nat.reduceEqDiff, Nat.reduceAdd, Nat.reduceMul, Nat.reduceSub, Nat.reduceLeDiff, Nat.reduceLT, reduceCtorEq]
  · intro ⟨H, hH⟩ he
    subst hH
    refine hK1 _ _ ?_
    refine aw_sr rfl ?_
    simp only [go_sem, reduceIte, Nat.reduceEqDiff, Nat.reduceAdd, Nat.reduceMul, Nat.reduceSub, Nat.reduceLeDiff, Nat.reduceLT, reduceCtorEq]
    refine aw_ret ⟨trivial, _, rfl, ?_, rfl⟩
    rw [ixI_none (fun j hj => he j hj hj)]
    rfl
theorem q_data1 (d : Dat) (b : Nat) (s : List UInt8) : QuietOn Try.prog [(b, .vars [.str s])] 272 ([] ++ [.agg (eData d)] ++ [.ptr b 0]) (.bool (decide (d.1 = s))) := by
  refine QuietOn.weak fun G hG => ?_
  have hg : hget G b = some (.vars [.str s]) := hG _ _ (hget_self _ _ _)
  refine acall_body (rs := [.tmp 3]) Try.func272 rfl rfl Try.ntmps272 (by kernel_rfl) (Nat.le_of_ble_eq_true rfl) ?_
  refine aw_sr rfl ?_
  simp only [go_sem, reduceIte, Nat.reduceEqDiff, Nat.reduceAdd, Nat.reduceMul, Nat.reduceSub, Nat.reduceLeDiff, Nat.reduceLT, reduceCtorEq, e194]
  intro b2 hb
  have hne : ¬ b2 = b := by intro e; subst e; rw [hg] at hb; cases hb
  refine aw_sr rfl ?_
  simp only [go_sem, reduceIte, Nat.reduceEqDiff, Nat.reduceAdd, Nat.reduceMul, Nat.reduceSub, Nat.reduceLeDiff, Nat.reduceLT, reduceCtorEq, hne, hg]
  exact aw_ret ⟨trivial, _, rfl, Vle.refl _, hsub_at hb⟩
/-- A program's data of a name. -/
def dataF (p : Prgm) (s : List UInt8) : Option Dat := p.2.2.2.1.1.find? fun d => decide (d.1 = s)
def zDat : Dat := ([], ([], true), ([], true))
theorem dataF_ix (p : Prgm) (s : List UInt8) : (dataF p s = none ∧ p.2.2.2.1.1.findIdx? (fun d => decide (d.1 = s)) = none) ∨ ∃ i, ∃ h : i < p.2.2.2.1.1.length, dataF p s = some p.2.2.2.1.1[i] ∧ p.2.2.2.1.1.findIdx? (fun d => decide (d.1 = s)) = some i := by
  unfold dataF
  cases h : p.2.2.2.1.1.findIdx? (fun d => decide (d.1 = s)) with
  | none => exact .inl ⟨List.find?_eq_none.2 fun x hx => by rw [List.findIdx?_eq_none_iff.1 h x hx]; simp, rfl⟩
  | some i =>
    obtain ⟨hi, h1, h2⟩ := List.findIdx?_eq_some_iff_getElem.1 h
    exact .inr ⟨i, hi, List.find?_eq_some_iff_getElem.2 ⟨h1, i, hi, rfl, fun j hj => by simpa using h2 j hj⟩, rfl⟩
theorem q_data (p : Prgm) (s : List UInt8) (hp : p.2.2.2.1.1.length ≤ bulk) : Quiet Try.prog 237 [.agg (cPrg p), .str s] (.tup [.agg (eData ((dataF p s).getD zDat)), .bool (dataF p s).isSome]) := by
  have hp' : p.2.2.2.1.1.length ≤ 1048576 := hp
  refine Quiet.weak fun G => ?_
  refine acall_body (rs := [.cell 4 194, .tmp 5]) Try.func237 rfl rfl Try.ntmps237 (by kernel_rfl) (Nat.le_of_ble_eq_true rfl) ?_
  refine aw_sr rfl ?_
  simp only [go_sem, reduceIte, Nat.reduceEqDiff, Nat.reduceAdd, Nat.reduceMul, Nat.reduceSub, Nat.reduceLeDiff, Nat.reduceLT, reduceCtorEq, e29]
  intro b2 hb2 b3 hb3 b4 hb4
  obtain ⟨n43, hb4'⟩ := fresh_cons hb4
  obtain ⟨n42, hb4''⟩ := fresh_cons hb4'
  obtain ⟨n32, hb3'⟩ := fresh_cons hb3
  refine aw_sr rfl ?_
  simp only [go_sem, reduceIte, Nat.reduceEqDiff, Nat.reduceAdd, Nat.reduceMul, Nat.reduceSub, Nat.reduceLeDiff, Nat.reduceLT, reduceCtorEq, n43, n42, n32]
  refine goA_on (q_IndexDat [(b3, .vars [.str s])] 272 [] [.ptr b3 0] (fun d => decide (d.1 = s)) p.2.2.2.1.1 p.2.2.2.1.2 .no (le_bulk hp) fun d _ => q_data1 d b3 s) (sub_one (by rw [hget_cons_ne n43, hget_self])) ?_
  simp only [go_sem, reduceIte, Nat.reduceEqDiff, Nat.reduceAdd, Nat.reduceMul, Nat.reduceSub, Nat.reduceLeDiff, Nat.reduceLT, reduceCtorEq]
  refine aw_seq fun K1 hK1 => ?_
  refine aw_sr rfl ?_
  simp only [go_sem, reduceIte, Nat.reduceEqDiff, Nat.reduceAdd, Nat.reduceMul, Nat.reduceSub, Nat.reduceLeDiff, Nat.reduceLT, reduceCtorEq]
  have hs : Sub G ((b4, .vars [.str [], .sl [] true .full, .sl [] true .full]) :: (b3, .vars [.str s]) :: (b2, .vars (cPrg p)) :: G) := sub_fresh hb4'' (sub_fresh hb3' (sub_tail hb2))
  rcases dataF_ix p s with ⟨e1, e2⟩ | ⟨i, hi, e1, e2⟩
  · rw [e1, e2]
    refine aw_if rfl (fun h => ?_) (fun h => by simp [ixI] at h)
    refine aw_sr rfl ?_
    simp only [go_sem, reduceIte, Nat.reduceEqDiff, Nat.reduceAdd, Nat.reduceMul, Nat.reduceSub, Nat.reduceLeDiff, Nat.reduceLT, reduceCtorEq]
    refine aw_ret ⟨trivial, [.agg [.str [], .sl [] true .full, .sl [] true .full], .bool false], ?_, ?_, sub_fresh hb4'' (sub_fresh hb3' (sub_tail hb2))⟩
    · simp only [go_sem, reduceIte, Nat.reduceEqDiff, Nat.reduceAdd, Nat.reduceMul, Nat.reduceSub, Nat.reduceLeDiff, Nat.reduceLT, reduceCtorEq, resL, resOf]
    · exact Vle.tupL (.cons (Vle.aggL (.cons (Vle.refl _) (.cons Vle.untag (.cons Vle.untag .nil)))) (.cons (Vle.refl _) .nil))
  · rw [e1, e2]
    have hneg : decide ((ixI (some i) : Int) < 0) = false := decide_eq_false (by simp only [ixI]; omega)
    rw [hneg]
    refine aw_if rfl (fun h => by cases h) (fun h => ?_)
    refine aw_skip (hK1 _ _ ?_)
    refine aw_sr rfl ?_
    simp only [go_sem, reduceIte, Nat.reduceEqDiff, Nat.reduceAdd, Nat.reduceMul, Nat.reduceSub, Nat.reduceLeDiff, Nat.reduceLT, reduceCtorEq, ixI, getD_map hi, n43, n42, n32, e194]
    refine ⟨⟨by omega, by omega, wid_map (g := eData) (fun _ => rfl) _⟩, ?_⟩
    refine aw_ret ⟨trivial, [.agg (eData p.2.2.2.1.1[i]), .bool true], ?_, ?_, sub_fresh hb4'' (sub_fresh hb3' (sub_tail hb2))⟩
    · simp only [go_sem, reduceIte, Nat.reduceEqDiff, Nat.reduceAdd, Nat.reduceMul, Nat.reduceSub, Nat.reduceLeDiff, Nat.reduceLT, reduceCtorEq, resL, resOf, e194]
    · rw [e1]; exact Vle.refl _
/-- The reference's place of a data. -/
theorem q_dataOf (p : Prgm) (s : List UInt8) (hp : p.2.2.2.1.1.length ≤ bulk) : Quiet Try.prog 92 [.agg (cPrg p), .str s] (.int .i64 (ixI (p.2.2.2.1.1.findIdx? fun d => decide (d.1 = s)))) := by
  have hp' : p.2.2.2.1.1.length ≤ 1048576 := hp
  refine Quiet.weak fun G => ?_
  refine acall_body (rs := [.tmp 4]) Try.func92 rfl rfl Try.ntmps92 (by kernel_rfl) (Nat.le_of_ble_eq_true rfl) ?_
  refine aw_sr rfl ?_
  simp only [go_sem, reduceIte, Nat.reduceEqDiff, Nat.reduceAdd, Nat.reduceMul, Nat.reduceSub, Nat.reduceLeDiff, Nat.reduceLT, reduceCtorEq, e29]
  intro b2 hb2
  refine aw_seq fun K1 hK1 => ?_
  refine aw_sr rfl ?_
  simp only [go_sem, reduceIte, Nat.reduceEqDiff, Nat.reduceAdd, Nat.reduceMul, Nat.reduceSub, Nat.reduceLeDiff, Nat.reduceLT, reduceCtorEq]
  refine aw_range p.2.2.2.1.1.length (S := Unit) (fun _ _ => [(8, .sl (p.2.2.2.1.1.map eData) p.2.2.2.1.2 .no), (1, .str s)]) (fun _ _ => G) (fun i _ => ∀ j (h : j < p.2.2.2.1.1.length), j < i → decide (p.2.2.2.1.1[j].1 = s) = false) () (by omega) ?_ (sub_tail hb2) (fun j _ h => absurd h (by omega)) rfl (fun _ _ => rfl) ?_ ?_ (by decide)
  · simp only [go_sem, reduceIte, Nat.reduceEqDiff, Nat.reduceAdd, Nat.reduceMul, Nat.reduceSub, Nat.reduceLeDiff, Nat.reduceLT, reduceCtorEq, Int.natCast_zero]
  · intro i _ hi he
    refine aw_sr rfl ?_
    simp only [go_sem, reduceIte, Nat.reduceEqDiff, Nat.reduceAdd, Nat.reduceMul, Nat.reduceSub, Nat.reduceLeDiff, Nat.reduceLT, reduceCtorEq, getD_map hi, e194]
    refine ⟨⟨by omega, by omega, wid_map (g := eData) (fun _ => rfl) _⟩, fun b6 hb6 => ?_⟩
    refine aw_sr rfl ?_
    simp only [go_sem, reduceIte, Nat.reduceEqDiff, Nat.reduceAdd, Nat.reduceMul, Nat.reduceSub, Nat.reduceLeDiff, Nat.reduceLT, reduceCtorEq]
    refine aw_if rfl (fun h => ?_) (fun h => ?_)
    · refine aw_sr rfl ?_
      simp only [go_sem, reduceIte, Nat.reduceEqDiff, Nat.reduceAdd, Nat.reduceMul, Nat.reduceSub, Nat.reduceLeDiff, Nat.reduceLT, reduceCtorEq]
      refine aw_ret ⟨trivial, _, rfl, ?_, sub_tail hb6⟩
      rw [ixI_at hi h (fun j hj => he j (by omega) hj)]
      exact Vle.refl _
    · refine aw_skip ⟨(), fun j hj hlt => ?_, ?_, sub_tail hb6⟩
      · by_cases e : j = i
        · subst e; exact h
        · exact he j hj (by omega)
      simp only [go_sem, reduceIte, Nat.reduceEqDiff, Nat.reduceAdd, Nat.reduceMul, Nat.reduceSub, Nat.reduceLeDiff, Nat.reduceLT, reduceCtorEq]
  · intro _ he
    refine hK1 _ _ ?_
    refine aw_sr rfl ?_
    simp only [go_sem, reduceIte, Nat.reduceEqDiff, Nat.reduceAdd, Nat.reduceMul, Nat.reduceSub, Nat.reduceLeDiff, Nat.reduceLT, reduceCtorEq]
    refine aw_ret ⟨trivial, _, rfl, ?_, fun _ _ h => h⟩
    rw [ixI_none (fun j hj => he j hj hj)]
    exact Vle.refl _
end Go.Proofs.Ytclmcpbanaojfaa

/- Types of two programs that are the same: the greatest way to take names to be alike. Pure. -/
set_option linter.unusedSimpArgs false
set_option linter.unusedVariables false
namespace Go.Proofs.Ytclmcpbanaojfaa
open Go.Proofs.YtclmcpbanaojfaaV
set_option maxHeartbeats 400000
set_option maxRecDepth 100000
namespace sm
abbrev N := List UInt8
abbrev Al := N → Bool
def ixN (l : List N) (s : N) : Int := ixI (l.findIdx? fun x => decide (s = x))
def leafF (al : Al) (x y : List N) (k : Int) (n m : N) : Bool :=
  if k = 5 then decide (ixN x n ≥ 0) && decide (ixN x n = ixN y m) else if k = 6 then decide (n = m) && al n else decide (n = []) && decide (m = [])
mutual
def sameF (al : Al) (x y : List N) : Typ → Typ → Bool
  | .mk k n ar nl, b => (decide (k = b.kind) && !(decide (k = 7))) && sameFs al x y ar b.args && leafF al x y k n b.name
def sameFs (al : Al) (x y : List N) : List Typ → List Typ → Bool
  | [], [] => true
  | a :: us, b :: vs => sameF al x y a b && sameFs al x y us vs
  | _, _ => false
end
theorem sameF_eq (al : Al) (x y : List N) (a b : Typ) : sameF al x y a b = ((decide (a.kind = b.kind) && !(decide (a.kind = 7))) && sameFs al x y a.args b.args && leafF al x y a.kind a.name b.name) := by
  cases a; rw [sameF]; rfl
theorem sameFs_len {al : Al} {x y : List N} : ∀ {us vs : List Typ}, us.length ≠ vs.length → sameFs al x y us vs = false
  | [], [], h => absurd rfl h
  | [], _ :: _, _ => by rw [sameFs]; all_goals simp
  | _ :: _, [], _ => by rw [sameFs]; all_goals simp
  | a :: us, b :: vs, h => by
    rw [sameFs, sameFs_len (fun e => h (by simp [e]))]; simp
theorem sameFs_take {al : Al} {x y : List N} : ∀ {us vs : List Typ} {i : Nat} (ha : i < us.length) (hb : i < vs.length), sameFs al x y (us.take (i + 1)) (vs.take (i + 1)) = (sameFs al x y (us.take i) (vs.take i) && sameF al x y us[i] vs[i])
  | a :: us, b :: vs, 0, _, _ => by simp [sameFs]
  | a :: us, b :: vs, i + 1, ha, hb => by
    rw [List.take_succ_cons, List.take_succ_cons, sameFs, sameFs_take (by simpa using ha) (by simpa using hb), List.take_succ_cons, List.take_succ_cons, sameFs, Bool.and_assoc]; rfl
theorem sameFs_false {al : Al} {x y : List N} : ∀ {us vs : List Typ} {i : Nat} (ha : i < us.length) (hb : i < vs.length), sameF al x y us[i] vs[i] = false → sameFs al x y us vs = false
  | a :: us, b :: vs, 0, _, _, h => by rw [sameFs, show sameF al x y a b = false from h]; rfl
  | a :: us, b :: vs, i + 1, ha, hb, h => by rw [sameFs, sameFs_false (us := us) (vs := vs) (i := i) (by simpa using ha) (by simpa using hb) h]; simp
/-! ### More names alike: more is the same -/
def Le (S T : Al) : Prop := ∀ n, S n = true → T n = true
theorem leaf_mono {S T : Al} (h : Le S T) {x y : List N} {k : Int} {n m : N} (hs : leafF S x y k n m = true) : leafF T x y k n m = true := by
  unfold leafF at hs ⊢
  split
  · rename_i h5; rw [if_pos h5] at hs; exact hs
  · rename_i h5
    rw [if_neg h5] at hs
    split
    · rename_i h6
      rw [if_pos h6] at hs
      rw [Bool.and_eq_true] at hs ⊢
      exact ⟨hs.1, h n hs.2⟩
    · rename_i h6; rw [if_neg h6] at hs; exact hs
mutual
theorem same_mono {S T : Al} (h : Le S T) {x y : List N} : ∀ {a b : Typ}, sameF S x y a b = true → sameF T x y a b = true
  | .mk k n ar nl, b, hs => by
    rw [sameF, Bool.and_eq_true, Bool.and_eq_true] at hs ⊢
    exact ⟨⟨hs.1.1, sames_mono h hs.1.2⟩, leaf_mono h hs.2⟩
theorem sames_mono {S T : Al} (h : Le S T) {x y : List N} : ∀ {us vs : List Typ}, sameFs S x y us vs = true → sameFs T x y us vs = true
  | [], [], _ => by rw [sameFs]
  | [], _ :: _, hs => by rw [sameFs_len (by simp)] at hs; cases hs
  | _ :: _, [], hs => by rw [sameFs_len (by simp)] at hs; cases hs
  | a :: us, b :: vs, hs => by
    rw [sameFs, Bool.and_eq_true] at hs ⊢
    exact ⟨same_mono h hs.1, sames_mono h hs.2⟩
end
/-! ### Makers, datas -/
def makF (al : Al) (x y : List N) (m n : Mak) : Bool := decide (m.1 = n.1) && sameFs al x y m.2.1 n.2.1
def maksF (al : Al) (x y : List N) : List Mak → List Mak → Bool
  | [], [] => true
  | a :: us, b :: vs => makF al x y a b && maksF al x y us vs
  | _, _ => false
theorem maksF_len {al : Al} {x y : List N} : ∀ {us vs : List Mak}, us.length ≠ vs.length → maksF al x y us vs = false
  | [], [], h => absurd rfl h
  | [], _ :: _, _ => rfl
  | _ :: _, [], _ => rfl
  | a :: us, b :: vs, h => by
    rw [maksF, maksF_len (fun e => h (by simp [e]))]; simp
theorem maksF_take {al : Al} {x y : List N} : ∀ {us vs : List Mak} {i : Nat} (ha : i < us.length) (hb : i < vs.length), maksF al x y (us.take (i + 1)) (vs.take (i + 1)) = (maksF al x y (us.take i) (vs.take i) && makF al x y us[i] vs[i])
  | a :: us, b :: vs, 0, _, _ => by simp [maksF]
  | a :: us, b :: vs, i + 1, ha, hb => by
    rw [List.take_succ_cons, List.take_succ_cons, maksF, maksF_take (by simpa using ha) (by simpa using hb), List.take_succ_cons, List.take_succ_cons, maksF, Bool.and_assoc]; rfl
theorem maksF_false {al : Al} {x y : List N} : ∀ {us vs : List Mak} {i : Nat} (ha : i < us.length) (hb : i < vs.length), makF al x y us[i] vs[i] = false → maksF al x y us vs = false
  | a :: us, b :: vs, 0, _, _, h => by rw [maksF, show makF al x y a b = false from h]; rfl
  | a :: us, b :: vs, i + 1, ha, hb, h => by rw [maksF, maksF_false (us := us) (vs := vs) (i := i) (by simpa using ha) (by simpa using hb) h]; simp
theorem mak_mono {S T : Al} (h : Le S T) {x y : List N} {m n : Mak} (hs : makF S x y m n = true) : makF T x y m n = true := by
  rw [makF, Bool.and_eq_true] at hs ⊢; exact ⟨hs.1, sames_mono h hs.2⟩
theorem maks_mono {S T : Al} (h : Le S T) {x y : List N} : ∀ {us vs : List Mak}, maksF S x y us vs = true → maksF T x y us vs = true
  | [], [], _ => rfl
  | [], _ :: _, hs => by cases hs
  | _ :: _, [], hs => by cases hs
  | a :: us, b :: vs, hs => by
    rw [maksF, Bool.and_eq_true] at hs ⊢
    exact ⟨mak_mono h hs.1, maks_mono h hs.2⟩
def datF (al : Al) (d f : Dat) : Bool := decide (d.2.1.1.length = f.2.1.1.length) && maksF al d.2.1.1 f.2.1.1 d.2.2.1 f.2.2.1
def okD (p q : Prgm) (al : Al) (n : N) : Bool := match dataF p n, dataF q n with
  | some d, some f => datF al d f
  | _, _ => false
theorem okD_mono {p q : Prgm} {S T : Al} (h : Le S T) {n : N} (hs : okD p q S n = true) : okD p q T n = true := by
  unfold okD at hs ⊢
  cases h1 : dataF p n with
  | none => rw [h1] at hs; cases hs
  | some d =>
    cases h2 : dataF q n with
    | none => rw [h1, h2] at hs; cases hs
    | some f =>
      rw [h1, h2] at hs
      simp only [datF, Bool.and_eq_true] at hs ⊢
      exact ⟨hs.1, maks_mono h hs.2⟩
/-! ### The greatest -/
def Post (p q : Prgm) (S : Al) : Prop := ∀ n, S n = true → okD p q S n = true
open Classical in
noncomputable def big (p q : Prgm) : Al := fun n => decide (∃ S, Post p q S ∧ S n = true)
open Classical in
theorem big_of {p q : Prgm} {S : Al} (h : Post p q S) : Le S (big p q) := fun n hn => by
  unfold big; exact decide_eq_true ⟨S, h, hn⟩
open Classical in
theorem big_post (p q : Prgm) : Post p q (big p q) := fun n hn => by
  unfold big at hn
  obtain ⟨S, h, hs⟩ := of_decide_eq_true hn
  exact okD_mono (big_of h) (h n hs)
theorem big_in {p q : Prgm} {n : N} (h : okD p q (big p q) n = true) : big p q n = true := by
  let T : Al := fun m => big p q m || decide (m = n)
  have h1 : Le (big p q) T := fun m hm => by show (big p q m || _) = true; rw [hm]; rfl
  have hT : Post p q T := fun m hm => by
    have hm : (big p q m || decide (m = n)) = true := hm
    rw [Bool.or_eq_true, decide_eq_true_eq] at hm
    rcases hm with hm | rfl
    · exact okD_mono h1 (big_post p q m hm)
    · exact okD_mono h1 h
  exact big_of hT n (by show (big p q n || decide (n = n)) = true; simp)
/-! ### What is kept of names -/
abbrev KV := List (N × Bool)
def look : KV → N → Option Bool
  | [], _ => none
  | e :: l, n => if e.1 = n then some e.2 else look l n
def putK : KV → N → Bool → KV
  | [], n, b => [(n, b)]
  | e :: l, n, b => if e.1 = n then (n, b) :: l else e :: putK l n b
theorem look_put (n m : N) (b : Bool) : ∀ l : KV, look (putK l n b) m = if m = n then some b else look l m
  | [] => by
    simp only [putK, look]
    by_cases h : m = n
    · rw [if_pos h, if_pos h.symm]
    · rw [if_neg h, if_neg (fun e => h e.symm)]
  | a :: l => by
    simp only [putK]
    by_cases h1 : a.1 = n
    · rw [if_pos h1]
      simp only [look]
      by_cases h : m = n
      · rw [if_pos h, if_pos h.symm]
      · rw [if_neg h, if_neg (fun e => h e.symm), if_neg (by rw [h1]; exact fun e => h e.symm)]
    · rw [if_neg h1]
      simp only [look]
      by_cases h2 : a.1 = m
      · rw [if_pos h2, if_pos h2, if_neg (fun e => h1 (by rw [h2, e]))]
      · rw [if_neg h2, if_neg h2]; exact look_put n m b l
theorem put_keys (n : N) (b : Bool) : ∀ l : KV, ∀ m, m ∈ (putK l n b).map (·.1) → m = n ∨ m ∈ l.map (·.1)
  | [], m, h => by simp [putK] at h; exact .inl h
  | a :: l, m, h => by
    simp only [putK] at h
    by_cases h1 : a.1 = n
    · rw [if_pos h1] at h
      rcases List.mem_cons.1 h with h | h
      · exact .inl h
      · exact .inr (List.mem_cons_of_mem _ h)
    · rw [if_neg h1] at h
      rcases List.mem_cons.1 h with h | h
      · exact .inr (by rw [h]; simp)
      · rcases put_keys n b l m h with h | h
        · exact .inl h
        · exact .inr (List.mem_cons_of_mem _ h)
theorem nodup_put (n : N) (b : Bool) : ∀ {l : KV}, (l.map (·.1)).Nodup → ((putK l n b).map (·.1)).Nodup
  | [], _ => by simp [putK]
  | a :: l, h => by
    rw [List.map_cons, List.nodup_cons] at h
    simp only [putK]
    by_cases h1 : a.1 = n
    · rw [if_pos h1, List.map_cons, List.nodup_cons]
      exact ⟨by rw [← h1]; exact h.1, h.2⟩
    · rw [if_neg h1, List.map_cons, List.nodup_cons]
      refine ⟨fun hm => ?_, nodup_put n b h.2⟩
      rcases put_keys n b l a.1 hm with e | e
      · exact h1 e
      · exact h.1 e
theorem look_mem {n : N} {v : Bool} : ∀ {l : KV}, look l n = some v → (n, v) ∈ l
  | [], h => by cases h
  | a :: l, h => by
    simp only [look] at h
    by_cases h1 : a.1 = n
    · rw [if_pos h1] at h
      cases h
      rw [← h1]; simp
    · rw [if_neg h1] at h
      exact List.mem_cons_of_mem _ (look_mem h)
theorem look_of {e : N × Bool} : ∀ {l : KV}, (l.map (·.1)).Nodup → e ∈ l → look l e.1 = some e.2
  | a :: l, h, he => by
    rw [List.map_cons, List.nodup_cons] at h
    simp only [look]
    rcases List.mem_cons.1 he with rfl | he
    · rw [if_pos rfl]
    · rw [if_neg (fun q => h.1 (by rw [q]; exact List.mem_map_of_mem he))]
      exact look_of h.2 he
theorem look_some {n : N} : ∀ {l : KV}, n ∈ l.map (·.1) → look l n ≠ none
  | a :: l, h => by
    simp only [look]
    by_cases h1 : a.1 = n
    · rw [if_pos h1]; simp
    · rw [if_neg h1]
      rcases List.mem_cons.1 h with h | h
      · exact absurd h.symm h1
      · exact look_some h
def tr (K : KV) : Al := fun n => look K n == some true
theorem tr_iff {K : KV} {n : N} : tr K n = true ↔ look K n = some true := by simp [tr]
/-- No name that is said not to be alike is. -/
def Inv (p q : Prgm) (K : KV) : Prop := ∀ n, look K n = some false → big p q n = false
/-- What a step that answers r does. -/
structure Step (p q : Prgm) (U : List N) (K K' : KV) (r : Bool) (φ : Al → Bool) : Prop where
  keep : ∀ n v, look K n = some v → look K' n = some v
  inv : Inv p q K → Inv p q K'
  no : Inv p q K → r = false → φ (big p q) = false
  yes : ∀ T : Al, (∀ n, look K' n = some true → T n = true) → (∀ n, look K n = none → look K' n ≠ some false) → (r = true → φ T = true) ∧ ∀ n, look K n = none → look K' n = some true → okD p q T n = true
  keys : ∀ n, look K n = none → look K' n ≠ none → n ∈ U
  nd : (K.map (·.1)).Nodup → (K'.map (·.1)).Nodup
theorem Step.rfl' {p q : Prgm} {U : List N} {K : KV} {r : Bool} {φ : Al → Bool} (h : ∀ T, φ T = r) : Step p q U K K r φ :=
  ⟨fun _ _ h => h, fun h => h, fun _ e => by rw [h, e], fun T _ _ => ⟨fun e => by rw [h, e], fun n h1 h2 => by rw [h1] at h2; cases h2⟩, fun n h1 h2 => absurd h1 h2, fun h => h⟩
theorem Step.congr {p q : Prgm} {U : List N} {K K' : KV} {r : Bool} {φ ψ : Al → Bool} (h : Step p q U K K' r φ) (e : ∀ T, ψ T = φ T) : Step p q U K K' r ψ := by
  have : ψ = φ := funext e
  rw [this]; exact h
/-- A step that answers no decides. -/
theorem Step.cut {p q : Prgm} {U : List N} {K K' : KV} {φ ψ : Al → Bool} (h : Step p q U K K' false φ) (e : ∀ T, φ T = false → ψ T = false) : Step p q U K K' false ψ :=
  ⟨h.keep, h.inv, fun hi hr => e _ (h.no hi hr), fun T h1 h2 => ⟨fun hr => (by cases hr), (h.yes T h1 h2).2⟩, h.keys, h.nd⟩
theorem Step.seq {p q : Prgm} {U : List N} {K K1 K2 : KV} {r : Bool} {φ ψ : Al → Bool} (h : Step p q U K K1 true φ) (g : Step p q U K1 K2 r ψ) : Step p q U K K2 r (fun T => φ T && ψ T) := by
  refine ⟨fun n v hv => g.keep n v (h.keep n v hv), fun hi => g.inv (h.inv hi), fun hi hr => ?_, fun T h1 h2 => ?_, fun n h1 h2 => ?_, fun h0 => g.nd (h.nd h0)⟩
  · show (φ _ && ψ _) = false
    rw [g.no (h.inv hi) hr, Bool.and_false]
  · have a1 : ∀ n, look K1 n = some true → T n = true := fun n hn => h1 n (g.keep n _ hn)
    have a2 : ∀ n, look K n = none → look K1 n ≠ some false := fun n hn e => h2 n hn (g.keep n _ e)
    have b2 : ∀ n, look K1 n = none → look K2 n ≠ some false := fun n hn e => by
      cases hk : look K n with
      | none => exact h2 n hk e
      | some v => have := h.keep n v hk; rw [hn] at this; cases this
    obtain ⟨q1, q2⟩ := h.yes T a1 a2
    obtain ⟨r1, r2⟩ := g.yes T h1 b2
    refine ⟨fun hr => ?_, fun n hn hv => ?_⟩
    · show (φ T && ψ T) = true
      rw [q1 rfl, r1 hr]; rfl
    · cases hk : look K1 n with
      | none => exact r2 n hk hv
      | some v =>
        have := g.keep n v hk
        rw [hv] at this
        cases this
        exact q2 n hn hk
  · cases hk : look K1 n with
    | none => exact g.keys n hk h2
    | some v => exact h.keys n h1 (by rw [hk]; simp)
/-- A name that was not met. -/
theorem Step.data {p q : Prgm} {U : List N} {K K2 : KV} {n : N} {r : Bool} (hn : look K n = none) (hU : n ∈ U) (h : Step p q U (putK K n true) K2 r (fun T => okD p q T n)) : Step p q U K (putK K2 n r) r (fun T => T n) := by
  have e1 : ∀ m, ¬ m = n → look (putK K n true) m = look K m := fun m hm => by rw [look_put, if_neg hm]
  have e2 : ∀ m, ¬ m = n → look (putK K2 n r) m = look K2 m := fun m hm => by rw [look_put, if_neg hm]
  have e0 : look (putK K2 n r) n = some r := by rw [look_put, if_pos rfl]
  have i1 : Inv p q K → Inv p q (putK K n true) := fun hi m hm => by
    by_cases hmn : m = n
    · rw [look_put, if_pos hmn] at hm; cases hm
    · rw [e1 m hmn] at hm; exact hi m hm
  have i2 : Inv p q K → r = false → big p q n = false := fun hi hr => by
    have h1 : okD p q (big p q) n = false := h.no (i1 hi) hr
    cases hb : big p q n with
    | false => rfl
    | true => rw [big_post p q n hb] at h1; cases h1
  refine ⟨fun m v hv => ?_, fun hi m hm => ?_, fun hi hr => i2 hi hr, fun T h1 h2 => ?_, fun m h1 h2 => ?_, fun h0 => nodup_put _ _ (h.nd (nodup_put _ _ h0))⟩
  · have hmn : ¬ m = n := fun e => by rw [e, hn] at hv; cases hv
    rw [e2 m hmn]
    exact h.keep m v (by rw [e1 m hmn]; exact hv)
  · by_cases hmn : m = n
    · subst hmn
      rw [e0] at hm
      exact i2 hi (Option.some.inj hm)
    · rw [e2 m hmn] at hm
      exact h.inv (i1 hi) m hm
  · have hr : r = true := by
      cases r with
      | true => rfl
      | false => exact absurd e0 (h2 n hn)
    subst hr
    have a1 : ∀ m, look K2 m = some true → T m = true := fun m hm => by
      by_cases hmn : m = n
      · subst hmn; exact h1 m e0
      · exact h1 m (by rw [e2 m hmn]; exact hm)
    have a2 : ∀ m, look (putK K n true) m = none → look K2 m ≠ some false := fun m hm he => by
      have hmn : ¬ m = n := fun e => by rw [e, look_put, if_pos rfl] at hm; cases hm
      rw [e1 m hmn] at hm
      exact h2 m hm (by rw [e2 m hmn]; exact he)
    obtain ⟨q1, q2⟩ := h.yes T a1 a2
    refine ⟨fun _ => h1 n e0, fun m hm hv => ?_⟩
    by_cases hmn : m = n
    · subst hmn; exact q1 rfl
    · rw [e2 m hmn] at hv
      exact q2 m (by rw [e1 m hmn]; exact hm) hv
  · by_cases hmn : m = n
    · subst hmn; exact hU
    · rw [e2 m hmn] at h2
      exact h.keys m (by rw [e1 m hmn]; exact h1) h2
theorem Step.met {p q : Prgm} {U : List N} {K : KV} {n : N} {r : Bool} (hn : look K n = some r) : Step p q U K K r (fun T => T n) :=
  ⟨fun _ _ h => h, fun h => h, fun hi hr => hi n (by rw [hn, hr]), fun T h1 _ => ⟨fun hr => h1 n (by rw [hn, hr]), fun m h2 h3 => by rw [h2] at h3; cases h3⟩, fun m h1 h2 => absurd h1 h2, fun h => h⟩
/-- What the whole tells: if it says no, no; if nothing new turned out not to be alike, what it says. -/
theorem Step.all {p q : Prgm} {U : List N} {K K' : KV} {r : Bool} {φ : Al → Bool} (h : Step p q U K K' r φ) (hi : Inv p q K) (hf : ∀ n v, look K n = some v → v = false) (hm : ∀ S T, Le S T → φ S = true → φ T = true) (hnew : ∀ n, look K' n = some false → look K n = some false) : φ (big p q) = r := by
  have hp : Post p q (tr K') := fun n hn => by
    rw [tr_iff] at hn
    refine (h.yes (tr K') (fun m hm => tr_iff.2 hm) (fun m hk he => by rw [hnew m he] at hk; cases hk)).2 n ?_ hn
    cases hk : look K n with
    | none => rfl
    | some v =>
      have := h.keep n v hk
      rw [hf n v hk, hn] at this
      cases this
  cases r with
  | false => exact h.no hi rfl
  | true => exact hm _ _ (big_of hp) ((h.yes (tr K') (fun m hm => tr_iff.2 hm) (fun m hk he => by rw [hnew m he] at hk; cases hk)).1 rfl)
/-! ### Names that are met -/
mutual
def tnm : Typ → List N | .mk _ n ar _ => n :: tnms ar
def tnms : List Typ → List N | [] => [] | v :: vs => tnm v ++ tnms vs
end
theorem tnm_eq (a : Typ) : tnm a = a.name :: tnms a.args := by cases a; rw [tnm]; rfl
theorem tnms_mem {a : Typ} : ∀ {l : List Typ}, a ∈ l → ∀ n ∈ tnm a, n ∈ tnms l
  | b :: l, h, n, hn => by
    rw [tnms, List.mem_append]
    rcases List.mem_cons.1 h with rfl | h
    · exact .inl hn
    · exact .inr (tnms_mem h n hn)
def makN (l : List Mak) : List N := l.flatMap fun m => tnms m.2.1
def uniN (p : Prgm) (a : Typ) : List N := tnm a ++ p.2.2.2.1.1.flatMap fun d => makN d.2.2.1
theorem uni_a (p : Prgm) (a : Typ) : ∀ n ∈ tnm a, n ∈ uniN p a := fun n h => List.mem_append_left _ h
theorem uni_d {p : Prgm} {a : Typ} {s : N} {d : Dat} (hd : dataF p s = some d) {m : Mak} (hm : m ∈ d.2.2.1) : ∀ n ∈ tnms m.2.1, n ∈ uniN p a := fun n h => by
  refine List.mem_append_right _ (List.mem_flatMap.2 ⟨d, List.mem_of_find?_eq_some hd, List.mem_flatMap.2 ⟨m, hm, h⟩⟩)
/-- How many names are not met yet. -/
def left (U : List N) (K : KV) : Nat := (U.filter fun n => look K n == none).length
theorem filter_len {A : Type} {f g : A → Bool} : ∀ {l : List A}, (∀ a ∈ l, f a = true → g a = true) → (l.filter f).length ≤ (l.filter g).length
  | [], _ => Nat.le_refl _
  | a :: l, h => by
    have ih := filter_len (l := l) fun b hb => h b (by simp [hb])
    rw [List.filter_cons, List.filter_cons]
    by_cases hf : f a = true
    · rw [if_pos hf, if_pos (h a (by simp) hf)]; simp; exact ih
    · rw [if_neg hf]
      split
      · simp; omega
      · exact ih
theorem filter_lt {A : Type} {f g : A → Bool} {x : A} : ∀ {l : List A}, (∀ a ∈ l, f a = true → g a = true) → x ∈ l → f x = false → g x = true → (l.filter f).length < (l.filter g).length
  | a :: l, h, hx, h1, h2 => by
    have ih0 := filter_len (l := l) fun b hb => h b (by simp [hb])
    rw [List.filter_cons, List.filter_cons]
    rcases List.mem_cons.1 hx with rfl | hx
    · rw [if_neg (by rw [h1]; simp), if_pos h2]; simp; omega
    · have ih := filter_lt (l := l) (fun b hb => h b (by simp [hb])) hx h1 h2
      by_cases hf : f a = true
      · rw [if_pos hf, if_pos (h a (by simp) hf)]; simp; exact ih
      · rw [if_neg hf]
        split
        · simp; omega
        · exact ih
theorem left_step {p q : Prgm} {U : List N} {K K' : KV} {r : Bool} {φ : Al → Bool} (h : Step p q U K K' r φ) : left U K' ≤ left U K :=
  filter_len fun n _ hn => by
    cases hk : look K n with
    | none => rfl
    | some v => rw [h.keep n v hk] at hn; cases hn
theorem left_put {U : List N} {K : KV} {n : N} {b : Bool} (hU : n ∈ U) (hn : look K n = none) : left U (putK K n b) < left U K :=
  filter_lt (x := n) (fun m _ hm => by
    rw [look_put] at hm
    by_cases e : m = n
    · rw [if_pos e] at hm; cases hm
    · rw [if_neg e] at hm; exact hm) hU (by rw [look_put, if_pos rfl]; rfl) (by rw [hn]; rfl)
end sm
end Go.Proofs.Ytclmcpbanaojfaa

/- Types of two programs that are the same: the program's search. -/
set_option linter.unusedSimpArgs false
set_option linter.unusedVariables false
namespace Go.Proofs.Ytclmcpbanaojfaa
open Go.Proofs.YtclmcpbanaojfaaV
set_option maxHeartbeats 2000000
set_option maxRecDepth 100000
theorem a_EqualT (F : FuncId) (us ws : List V) (xs ys : List Typ) (n1 n2 : Bool) (t1 t2 : Tag) (I : Nat → Heap → Prop) (Q : Bool → Heap → Prop) (G : Heap) (hx : (xs.length : Int) ≤ 9223372036854775807)
    (hne : xs.length ≠ ys.length → Q false G) (h0 : xs.length = ys.length → I 0 G) (hI : ∀ i H H', I i H → Sub H H' → I i H')
    (hF : ∀ i (hi : i < xs.length) (hj : i < ys.length) H, I i H → ACall Try.prog F (us ++ [.agg (cTyp xs[i]), .agg (cTyp ys[i])] ++ ws) (fun y H' => ∃ r, y = .bool r ∧ (r = true → I (i + 1) H') ∧ (r = false → Q false H')) H)
    (hend : ∀ H, xs.length = ys.length → I xs.length H → Q true H) :
    ACall Try.prog 20 [.sl (xs.map eTyp) n1 t1, .sl (ys.map eTyp) n2 t2, .func (.func F) us ws] (fun y H => ∃ r, y = .bool r ∧ Q r H) G := by
  refine acall_body (rs := [.tmp 6]) Try.func20 rfl rfl Try.ntmps20 (by kernel_rfl) (Nat.le_of_ble_eq_true rfl) ?_
  refine aw_sr rfl ?_
  simp only [go_sem, reduceIte, Nat.reduceEqDiff, Nat.reduceAdd, Nat.reduceMul, Nat.reduceSub, Nat.reduceLeDiff, Nat.reduceLT, reduceCtorEq]
  refine aw_seq fun K1 hK1 => ?_
  refine aw_sr rfl ?_
  simp only [go_sem, reduceIte, Nat.reduceEqDiff, Nat.reduceAdd, Nat.reduceMul, Nat.reduceSub, Nat.reduceLeDiff, Nat.reduceLT, reduceCtorEq]
  refine aw_if rfl (fun h => ?_) (fun h => ?_)
  · refine aw_sr rfl ?_
    simp only [go_sem, reduceIte, Nat.reduceEqDiff, Nat.reduceAdd, Nat.reduceMul, Nat.reduceSub, Nat.reduceLeDiff, Nat.reduceLT, reduceCtorEq]
    have h : ¬ xs.length = ys.length := by simpa [Int.natCast_inj] using h
    exact aw_ret ⟨trivial, _, rfl, false, rfl, hne h⟩
  refine aw_skip (hK1 _ _ ?_)
  have hl : xs.length = ys.length := by simpa [Int.natCast_inj] using h
  refine aw_seq fun K2 hK2 => ?_
  refine aw_sr rfl ?_
  simp only [go_sem, reduceIte, Nat.reduceEqDiff, Nat.reduceAdd, Nat.reduceMul, Nat.reduceSub, Nat.reduceLeDiff, Nat.reduceLT, reduceCtorEq]
  refine aw_range xs.length (S := Heap) (fun _ _ => [(15, .sl (xs.map eTyp) n1 t1), (1, .sl (ys.map eTyp) n2 t2), (2, .func (.func F) us ws)]) (fun _ s => s) (fun i s => I i s) G hx ?_ (fun _ _ h => h) (h0 hl) rfl (fun _ _ => rfl) ?_ ?_ (by decide)
  · simp only [go_sem, reduceIte, Nat.reduceEqDiff, Nat.reduceAdd, Nat.reduceMul, Nat.reduceSub, Nat.reduceLeDiff, Nat.reduceLT, reduceCtorEq, Int.natCast_zero]
  · intro i H hi hIi
    have hi2 : i < ys.length := hl ▸ hi
    refine aw_sr rfl ?_
    simp only [go_sem, reduceIte, Nat.reduceEqDiff, Nat.reduceAdd, Nat.reduceMul, Nat.reduceSub, Nat.reduceLeDiff, Nat.reduceLT, reduceCtorEq, getD_map hi, getD_map hi2, eTyp_eq, cTyp]
    refine ⟨⟨by omega, by omega, wid_map (g := eTyp) (fun _ => by simp [eTyp_eq, cTyp]) _⟩, ?_⟩
    intro b hb
    refine aw_box1 hb fun B1 hs1 h8 => ?_
    refine aw_sr rfl ?_
    simp only [go_sem, reduceIte, Nat.reduceEqDiff, Nat.reduceAdd, Nat.reduceMul, Nat.reduceSub, Nat.reduceLeDiff, Nat.reduceLT, reduceCtorEq, getD_map hi, getD_map hi2, eTyp_eq, cTyp]
    refine ⟨⟨by omega, by omega, wid_map (g := eTyp) (fun _ => by simp [eTyp_eq, cTyp]) _⟩, ?_⟩
    intro b2 hb2
    refine aw_box1 hb2 fun B2 hs2 h9 => ?_
    replace h8 := hs2 _ _ h8
    refine aw_sr rfl ?_
    simp only [go_sem, reduceIte, Nat.reduceEqDiff, Nat.reduceAdd, Nat.reduceMul, Nat.reduceSub, Nat.reduceLeDiff, Nat.reduceLT, reduceCtorEq, h8, h9]
    have hq := hF i hi hi2 B2 (hI _ _ _ (hI _ _ _ hIi hs1) hs2)
    refine goA_by hq fun y H' hy => ?_
    obtain ⟨r, rfl, hr1, hr2⟩ := hy
    simp only [go_sem, reduceIte, Nat.reduceEqDiff, Nat.reduceAdd, Nat.reduceMul, Nat.reduceSub, Nat.reduceLeDiff, Nat.reduceLT, reduceCtorEq]
    refine aw_if rfl (fun h => ?_) (fun h => ?_)
    · refine aw_sr rfl ?_
      simp only [go_sem, reduceIte, Nat.reduceEqDiff, Nat.reduceAdd, Nat.reduceMul, Nat.reduceSub, Nat.reduceLeDiff, Nat.reduceLT, reduceCtorEq]
      have hr : r = false := by simpa using h
      exact aw_ret ⟨trivial, _, rfl, false, rfl, hr2 hr⟩
    have hr : r = true := by simpa using h
    refine aw_skip ⟨H', hr1 hr, ?_, sub_rfl⟩
    simp only [go_sem, reduceIte, Nat.reduceEqDiff, Nat.reduceAdd, Nat.reduceMul, Nat.reduceSub, Nat.reduceLeDiff, Nat.reduceLT, reduceCtorEq]
  intro H hIn
  refine hK2 _ _ ?_
  refine aw_sr rfl ?_
  simp only [go_sem, reduceIte, Nat.reduceEqDiff, Nat.reduceAdd, Nat.reduceMul, Nat.reduceSub, Nat.reduceLeDiff, Nat.reduceLT, reduceCtorEq]
  exact aw_ret ⟨trivial, _, rfl, true, rfl, hend H hl hIn⟩
theorem a_EqualM (F : FuncId) (us ws : List V) (xs ys : List Mak) (n1 n2 : Bool) (t1 t2 : Tag) (I : Nat → Heap → Prop) (Q : Bool → Heap → Prop) (G : Heap) (hx : (xs.length : Int) ≤ 9223372036854775807)
    (hne : xs.length ≠ ys.length → Q false G) (h0 : xs.length = ys.length → I 0 G) (hI : ∀ i H H', I i H → Sub H H' → I i H')
    (hF : ∀ i (hi : i < xs.length) (hj : i < ys.length) H, I i H → ACall Try.prog F (us ++ [.agg (eMake xs[i]), .agg (eMake ys[i])] ++ ws) (fun y H' => ∃ r, y = .bool r ∧ (r = true → I (i + 1) H') ∧ (r = false → Q false H')) H)
    (hend : ∀ H, xs.length = ys.length → I xs.length H → Q true H) :
    ACall Try.prog 238 [.sl (xs.map eMake) n1 t1, .sl (ys.map eMake) n2 t2, .func (.func F) us ws] (fun y H => ∃ r, y = .bool r ∧ Q r H) G := by
  refine acall_body (rs := [.tmp 6]) Try.func238 rfl rfl Try.ntmps238 (by kernel_rfl) (Nat.le_of_ble_eq_true rfl) ?_
  refine aw_sr rfl ?_
  simp only [go_sem, reduceIte, Nat.reduceEqDiff, Nat.reduceAdd, Nat.reduceMul, Nat.reduceSub, Nat.reduceLeDiff, Nat.reduceLT, reduceCtorEq]
  refine aw_seq fun K1 hK1 => ?_
  refine aw_sr rfl ?_
  simp only [go_sem, reduceIte, Nat.reduceEqDiff, Nat.reduceAdd, Nat.reduceMul, Nat.reduceSub, Nat.reduceLeDiff, Nat.reduceLT, reduceCtorEq]
  refine aw_if rfl (fun h => ?_) (fun h => ?_)
  · refine aw_sr rfl ?_
    simp only [go_sem, reduceIte, Nat.reduceEqDiff, Nat.reduceAdd, Nat.reduceMul, Nat.reduceSub, Nat.reduceLeDiff, Nat.reduceLT, reduceCtorEq]
    have h : ¬ xs.length = ys.length := by simpa [Int.natCast_inj] using h
    exact aw_ret ⟨trivial, _, rfl, false, rfl, hne h⟩
  refine aw_skip (hK1 _ _ ?_)
  have hl : xs.length = ys.length := by simpa [Int.natCast_inj] using h
  refine aw_seq fun K2 hK2 => ?_
  refine aw_sr rfl ?_
  simp only [go_sem, reduceIte, Nat.reduceEqDiff, Nat.reduceAdd, Nat.reduceMul, Nat.reduceSub, Nat.reduceLeDiff, Nat.reduceLT, reduceCtorEq]
  refine aw_range xs.length (S := Heap) (fun _ _ => [(15, .sl (xs.map eMake) n1 t1), (1, .sl (ys.map eMake) n2 t2), (2, .func (.func F) us ws)]) (fun _ s => s) (fun i s => I i s) G hx ?_ (fun _ _ h => h) (h0 hl) rfl (fun _ _ => rfl) ?_ ?_ (by decide)
  · simp only [go_sem, reduceIte, Nat.reduceEqDiff, Nat.reduceAdd, Nat.reduceMul, Nat.reduceSub, Nat.reduceLeDiff, Nat.reduceLT, reduceCtorEq, Int.natCast_zero]
  · intro i H hi hIi
    have hi2 : i < ys.length := hl ▸ hi
    refine aw_sr rfl ?_
    simp only [go_sem, reduceIte, Nat.reduceEqDiff, Nat.reduceAdd, Nat.reduceMul, Nat.reduceSub, Nat.reduceLeDiff, Nat.reduceLT, reduceCtorEq, getD_map hi, getD_map hi2, e196]
    refine ⟨⟨by omega, by omega, wid_map (g := eMake) (fun _ => by simp [e196]) _⟩, ?_⟩
    intro b hb
    refine aw_box1 hb fun B1 hs1 h8 => ?_
    refine aw_sr rfl ?_
    simp only [go_sem, reduceIte, Nat.reduceEqDiff, Nat.reduceAdd, Nat.reduceMul, Nat.reduceSub, Nat.reduceLeDiff, Nat.reduceLT, reduceCtorEq, getD_map hi, getD_map hi2, e196]
    refine ⟨⟨by omega, by omega, wid_map (g := eMake) (fun _ => by simp [e196]) _⟩, ?_⟩
    intro b2 hb2
    refine aw_box1 hb2 fun B2 hs2 h9 => ?_
    replace h8 := hs2 _ _ h8
    refine aw_sr rfl ?_
    simp only [go_sem, reduceIte, Nat.reduceEqDiff, Nat.reduceAdd, Nat.reduceMul, Nat.reduceSub, Nat.reduceLeDiff, Nat.reduceLT, reduceCtorEq, h8, h9]
    have hq := hF i hi hi2 B2 (hI _ _ _ (hI _ _ _ hIi hs1) hs2)
    refine goA_by hq fun y H' hy => ?_
    obtain ⟨r, rfl, hr1, hr2⟩ := hy
    simp only [go_sem, reduceIte, Nat.reduceEqDiff, Nat.reduceAdd, Nat.reduceMul, Nat.reduceSub, Nat.reduceLeDiff, Nat.reduceLT, reduceCtorEq]
    refine aw_if rfl (fun h => ?_) (fun h => ?_)
    · refine aw_sr rfl ?_
      simp only [go_sem, reduceIte, Nat.reduceEqDiff, Nat.reduceAdd, Nat.reduceMul, Nat.reduceSub, Nat.reduceLeDiff, Nat.reduceLT, reduceCtorEq]
      have hr : r = false := by simpa using h
      exact aw_ret ⟨trivial, _, rfl, false, rfl, hr2 hr⟩
    have hr : r = true := by simpa using h
    refine aw_skip ⟨H', hr1 hr, ?_, sub_rfl⟩
    simp only [go_sem, reduceIte, Nat.reduceEqDiff, Nat.reduceAdd, Nat.reduceMul, Nat.reduceSub, Nat.reduceLeDiff, Nat.reduceLT, reduceCtorEq]
  intro H hIn
  refine hK2 _ _ ?_
  refine aw_sr rfl ?_
  simp only [go_sem, reduceIte, Nat.reduceEqDiff, Nat.reduceAdd, Nat.reduceMul, Nat.reduceSub, Nat.reduceLeDiff, Nat.reduceLT, reduceCtorEq]
  exact aw_ret ⟨trivial, _, rfl, true, rfl, hend H hl hIn⟩
end Go.Proofs.Ytclmcpbanaojfaa

/- Types of two programs that are the same: the program's functions, each once. -/
set_option linter.unusedSimpArgs false
set_option linter.unusedVariables false
namespace Go.Proofs.Ytclmcpbanaojfaa
open Go.Proofs.YtclmcpbanaojfaaV
set_option maxHeartbeats 4000000
set_option maxRecDepth 100000
namespace sm
abbrev kvB (e : N × Bool) : V × V := (.str e.1, .bool e.2)
theorem look_B (n : N) : ∀ (l : KV) (i : Nat), lkF false (.bool false) (mfind (.str n) (l.map kvB) i) = some (True, .bool (tr l n))
  | [], i => rfl
  | q :: l, i => by
    simp only [List.map_cons, mfind, keyEq, tr, look]
    by_cases h : n = q.1
    · rw [decide_eq_true h, if_pos h.symm]
      cases q.2 <;> rfl
    · rw [decide_eq_false h, if_neg (fun e => h e.symm)]
      exact look_B n l (i + 1)
theorem look_B2 (n : N) : ∀ (l : KV) (i : Nat), lkF true (.bool false) (mfind (.str n) (l.map kvB) i) = some (True, .tup [.bool (tr l n), .bool (look l n).isSome])
  | [], i => rfl
  | q :: l, i => by
    simp only [List.map_cons, mfind, keyEq, tr, look]
    by_cases h : n = q.1
    · rw [decide_eq_true h, if_pos h.symm]
      cases q.2 <;> rfl
    · rw [decide_eq_false h, if_neg (fun e => h e.symm)]
      exact look_B2 n l (i + 1)
theorem put_B1 (n : N) (b : Bool) : ∀ (l : KV) (i : Nat), (mfind (.str n) (l.map kvB) i = some none ∧ putK l n b = l ++ [(n, b)]) ∨ ∃ j, ∃ h : j < l.length, mfind (.str n) (l.map kvB) i = some (some (i + j, .bool l[j].2)) ∧ putK l n b = l.set j (n, b)
  | [], i => .inl ⟨rfl, rfl⟩
  | q :: l, i => by
    simp only [List.map_cons, mfind, keyEq, putK]
    by_cases h : n = q.1
    · rw [decide_eq_true h, if_pos h.symm]
      exact .inr ⟨0, by simp, rfl, rfl⟩
    · rw [decide_eq_false h, if_neg (fun e => h e.symm)]
      rcases put_B1 n b l (i + 1) with ⟨h1, h2⟩ | ⟨j, hj, h1, h2⟩
      · exact .inl ⟨h1, by rw [h2]; rfl⟩
      · exact .inr ⟨j + 1, by simp; omega, by rw [show i + (j + 1) = i + 1 + j from by omega]; exact h1, by rw [h2]; rfl⟩
theorem put_B (n : N) (b : Bool) (l : KV) : ∃ r, mfind (.str n) (l.map kvB) 0 = some r ∧ mput (l.map kvB) (.str n) (.bool b) r = (putK l n b).map kvB := by
  rcases put_B1 n b l 0 with ⟨h1, h2⟩ | ⟨j, hj, h1, h2⟩
  · exact ⟨_, h1, by rw [h2, List.map_append]; rfl⟩
  · refine ⟨_, h1, ?_⟩
    rw [h2, List.map_set, mput, Nat.zero_add]
theorem sameFs_cut {al : Al} {x y : List N} : ∀ {us vs : List Typ} {i : Nat} (ha : i < us.length) (hb : i < vs.length), sameFs al x y us vs = (sameFs al x y (us.take (i + 1)) (vs.take (i + 1)) && sameFs al x y (us.drop (i + 1)) (vs.drop (i + 1)))
  | a :: us, b :: vs, 0, _, _ => by simp [sameFs]
  | a :: us, b :: vs, i + 1, ha, hb => by
    rw [sameFs, sameFs_cut (i := i) (by simpa using ha) (by simpa using hb), List.take_succ_cons, List.take_succ_cons, sameFs, Bool.and_assoc, List.drop_succ_cons, List.drop_succ_cons]
theorem maksF_cut {al : Al} {x y : List N} : ∀ {us vs : List Mak} {i : Nat} (ha : i < us.length) (hb : i < vs.length), maksF al x y us vs = (maksF al x y (us.take (i + 1)) (vs.take (i + 1)) && maksF al x y (us.drop (i + 1)) (vs.drop (i + 1)))
  | a :: us, b :: vs, 0, _, _ => by simp [maksF]
  | a :: us, b :: vs, i + 1, ha, hb => by
    rw [maksF, maksF_cut (i := i) (by simpa using ha) (by simpa using hb), List.take_succ_cons, List.take_succ_cons, maksF, Bool.and_assoc, List.drop_succ_cons, List.drop_succ_cons]
/-! ### Where it lies -/
def twoV (p q : Prgm) (m : Nat) : List V := cPrg p ++ cPrg q ++ [.map m]
structure At (p q : Prgm) (bw m : Nat) (G : Heap) (K : KV) : Prop where
  w : hget G bw = some (.vars (twoV p q m))
  m : hget G m = some (.map (K.map kvB))
def Fr (m : Nat) (G G' : Heap) : Prop := ∀ z o, ¬ z = m → hget G z = some o → hget G' z = some o
theorem Fr.sub {m : Nat} {G G' : Heap} (h : Sub G G') : Fr m G G' := fun z o _ hz => h z o hz
theorem Fr.trans {m : Nat} {A B C : Heap} (h : Fr m A B) (k : Fr m B C) : Fr m A C := fun z o hn hz => k z o hn (h z o hn hz)
theorem Fr.hset {m : Nat} {G : Heap} {x : AObj} : Fr m G (hset G m x) := fun z o hn hz => hset_keep hz hn
theorem At.up {p q : Prgm} {bw m : Nat} {G G' : Heap} {K : KV} (h : At p q bw m G K) (hs : Sub G G') : At p q bw m G' K := ⟨hs _ _ h.w, hs _ _ h.m⟩
theorem At.ne {p q : Prgm} {bw m : Nat} {G : Heap} {K : KV} (h : At p q bw m G K) {b : Nat} {cs : List V} (hb : hget G b = some (.vars cs)) : ¬ b = m := fun e => by rw [e, h.m] at hb; cases hb
theorem At.put {p q : Prgm} {bw m : Nat} {G : Heap} {K : KV} (h : At p q bw m G K) (n : N) (b : Bool) : At p q bw m (hset G m (.map ((putK K n b).map kvB))) (putK K n b) := ⟨hset_keep h.w (h.ne h.w), hget_hset_self h.m⟩
def Res (p q : Prgm) (U : List N) (bw m : Nat) (G : Heap) (K : KV) (φ : Al → Bool) (y : V) (G' : Heap) : Prop := ∃ r K', y = .bool r ∧ At p q bw m G' K' ∧ Fr m G G' ∧ Step p q U K K' r φ
abbrev fSame : FuncId := 85
abbrev fTypes : FuncId := 180
abbrev fDatas : FuncId := 182
/-- What same does at two types, with at most so many names left. -/
def SpecS (p q : Prgm) (U : List N) (bw m l : Nat) (a b : Typ) : Prop := ∀ K (x y : Nms) tx ty G, left U K ≤ l → x.1.length ≤ bulk → y.1.length ≤ bulk → At p q bw m G K → ACall Try.prog fSame [.ptr bw 0, .agg (cTyp a), .agg (cTyp b), .sl (x.1.map eNm) x.2 tx, .sl (y.1.map eNm) y.2 ty] (Res p q U bw m G K fun T => sameF T x.1 y.1 a b) G
def SpecT (p q : Prgm) (U : List N) (bw m l : Nat) (us vs : List Typ) : Prop := ∀ K (x y : Nms) n1 n2 t1 t2 tx ty G, left U K ≤ l → x.1.length ≤ bulk → y.1.length ≤ bulk → At p q bw m G K → ACall Try.prog fTypes [.ptr bw 0, .sl (us.map eTyp) n1 t1, .sl (vs.map eTyp) n2 t2, .sl (x.1.map eNm) x.2 tx, .sl (y.1.map eNm) y.2 ty] (Res p q U bw m G K fun T => sameFs T x.1 y.1 us vs) G
def SpecD (p q : Prgm) (U : List N) (bw m l : Nat) : Prop := ∀ K n G, left U K ≤ l → n ∈ U → At p q bw m G K → ACall Try.prog fDatas [.ptr bw 0, .str n] (Res p q U bw m G K fun T => T n) G
end sm
open sm
theorem a_types1 {p q : Prgm} {U : List N} {bw m l : Nat} {a b : Typ} (h : SpecS p q U bw m l a b) {K : KV} {x y : Nms} {tx ty : Tag} {b5 b8 b9 : Nat} {G : Heap} (hl : left U K ≤ l) (hx : x.1.length ≤ bulk) (hy : y.1.length ≤ bulk) (hA : At p q bw m G K)
    (h5 : hget G b5 = some (.vars [.ptr bw 0])) (h8 : hget G b8 = some (.vars [.sl (x.1.map eNm) x.2 tx])) (h9 : hget G b9 = some (.vars [.sl (y.1.map eNm) y.2 ty])) :
    ACall Try.prog 236 [.agg (cTyp a), .agg (cTyp b), .ptr b5 0, .ptr b8 0, .ptr b9 0] (Res p q U bw m G K fun T => sameF T x.1 y.1 a b) G := by
  refine acall_body (rs := [.tmp 7]) Try.func236 rfl rfl Try.ntmps236 (by kernel_rfl) (Nat.le_of_ble_eq_true rfl) ?_
  refine aw_sr rfl ?_  -- r0 @shape.go:30
  simp only [go_sem, reduceIte, Nat.reduceEqDiff, Nat.reduceAdd, Nat.reduceMul, Nat.reduceSub, Nat.reduceLeDiff, Nat.reduceLT, reduceCtorEq]
  intro c5 hc5 c6 hc6
  refine aw_box2 hc5 hc6 fun B1 hs1 g5 g6 _ _ => ?_
  refine aw_sr rfl ?_  -- r1 @shape.go:30
  simp only [go_sem, reduceIte, Nat.reduceEqDiff, Nat.reduceAdd, Nat.reduceMul, Nat.reduceSub, Nat.reduceLeDiff, Nat.reduceLT, reduceCtorEq, g5, g6, hs1 _ _ h5, hs1 _ _ h8, hs1 _ _ h9]
  refine goA_by (h K x y tx ty B1 hl hx hy (hA.up hs1)) fun v G2 hv => ?_
  obtain ⟨r, K', rfl, hA2, hF2, hS⟩ := hv
  simp only [go_sem, reduceIte, Nat.reduceEqDiff, Nat.reduceAdd, Nat.reduceMul, Nat.reduceSub, Nat.reduceLeDiff, Nat.reduceLT, reduceCtorEq]
  exact aw_ret ⟨trivial, _, rfl, r, K', rfl, hA2, (Fr.sub hs1).trans hF2, hS⟩
theorem a_types {p q : Prgm} {U : List N} {bw m l : Nat} {us vs : List Typ} (h : ∀ i (hi : i < us.length) (hj : i < vs.length), SpecS p q U bw m l us[i] vs[i]) (hus : us.length ≤ bulk) : SpecT p q U bw m l us vs := by
  intro K x y n1 n2 t1 t2 tx ty G hl hx hy hA
  have hus' : us.length ≤ 1048576 := hus
  refine acall_body (rs := [.tmp 10]) Try.func180 rfl rfl Try.ntmps180 (by kernel_rfl) (Nat.le_of_ble_eq_true rfl) ?_
  refine aw_sr rfl ?_  -- r0 @shape.go:29
  simp only [go_sem, reduceIte, Nat.reduceEqDiff, Nat.reduceAdd, Nat.reduceMul, Nat.reduceSub, Nat.reduceLeDiff, Nat.reduceLT, reduceCtorEq]
  intro b5 hb5 b8 hb8 b9 hb9
  refine aw_box3 hb5 hb8 hb9 fun B1 hs1 h5 h8 h9 _ _ _ _ _ _ => ?_
  refine aw_sr rfl ?_  -- r1 @shape.go:30
  simp only [go_sem, reduceIte, Nat.reduceEqDiff, Nat.reduceAdd, Nat.reduceMul, Nat.reduceSub, Nat.reduceLeDiff, Nat.reduceLT, reduceCtorEq, h5, h8, h9]
  have hA1 := hA.up hs1
  refine goA_by (a_EqualT 236 [] [.ptr b5 0, .ptr b8 0, .ptr b9 0] us vs n1 n2 t1 t2
    (fun i H => ∃ K', At p q bw m H K' ∧ Fr m B1 H ∧ Step p q U K K' true fun T => sameFs T x.1 y.1 (us.take i) (vs.take i)) (fun r H => ∃ K', At p q bw m H K' ∧ Fr m B1 H ∧ Step p q U K K' r fun T => sameFs T x.1 y.1 us vs) B1 (by omega) (fun hne => ?_) (fun _ => ?_) (fun i H H' ⟨K', c1, c2, c3⟩ hs => ⟨K', c1.up hs, c2.trans (Fr.sub hs), c3⟩) (fun i hi hj H ⟨K', c1, c2, c3⟩ => ?_) (fun H hlen ⟨K', c1, c2, c3⟩ => ⟨K', c1, c2, ?_⟩)) fun v G2 hv => ?_
  · exact ⟨K, hA1, Fr.sub sub_rfl, Step.rfl' fun T => sameFs_len hne⟩
  · exact ⟨K, hA1, Fr.sub sub_rfl, Step.rfl' fun T => rfl⟩
  · refine (a_types1 (h i hi hj) (Nat.le_trans (left_step c3) hl) hx hy c1 (c2 _ _ (hA1.ne h5) h5) (c2 _ _ (hA1.ne h8) h8) (c2 _ _ (hA1.ne h9) h9)).mono fun v H' hv => ?_
    obtain ⟨r, K2, rfl, d1, d2, d3⟩ := hv
    refine ⟨r, rfl, fun hr => ?_, fun hr => ?_⟩
    · subst hr
      exact ⟨K2, d1, c2.trans d2, (c3.seq d3).congr fun T => sameFs_take hi hj⟩
    · subst hr
      refine ⟨K2, d1, c2.trans d2, (c3.seq d3).cut fun T hT => ?_⟩
      rw [← sameFs_take hi hj] at hT
      rw [sameFs_cut hi hj]; rw [hT]; rfl
  · rw [List.take_length, hlen, List.take_length] at c3
    exact c3
  obtain ⟨r, rfl, K', c1, c2, c3⟩ := hv
  simp only [go_sem, reduceIte, Nat.reduceEqDiff, Nat.reduceAdd, Nat.reduceMul, Nat.reduceSub, Nat.reduceLeDiff, Nat.reduceLT, reduceCtorEq]
  exact aw_ret ⟨trivial, _, rfl, r, K', rfl, c1, (Fr.sub hs1).trans c2, c3⟩
end Go.Proofs.Ytclmcpbanaojfaa

/- Types of two programs that are the same: datas, same, all of the search. -/
set_option linter.unusedSimpArgs false
set_option linter.unusedVariables false
namespace Go.Proofs.Ytclmcpbanaojfaa
open Go.Proofs.YtclmcpbanaojfaaV
set_option maxHeartbeats 4000000
set_option maxRecDepth 100000
namespace sm
theorem goG_off {P : Go.Program} {ops : List Oper} {x : R} {q : Bool} {d : Option Tmp} {op : Op} {r : Go.Proofs.YtclmcpbanaojfaaV.Rest} {f : Go.Proofs.YtclmcpbanaojfaaV.Frame} {G : Heap} {K : Kf} (h : ∀ v, go P ops r (fput f d (.opt false v)) G K) : goG P ops x false q d op r f G K := by
  unfold goG
  split
  · exact ⟨fun e => (by cases e), h _⟩
  · split
    · exact ⟨fun e => (by cases e), fun _ => ⟨.any, h _⟩⟩
    · split
      · split
        · exact ⟨.any, fun e => (by cases e), h _⟩
        · exact ⟨rfl, h _⟩
      · exact ⟨rfl, h _⟩
theorem eData_eq (d : Dat) : eData d = [.str d.1, .sl (d.2.1.1.map eNm) d.2.1.2 .no, .sl (d.2.2.1.map eMake) d.2.2.2 .no] := rfl
theorem eMake_eq (d : Mak) : eMake d = [.str d.1, .sl (d.2.1.map eTyp) d.2.2 .no] := rfl
end sm
open sm
theorem a_datas1 {p q : Prgm} {U : List N} {bw m l : Nat} {mk nk : Mak} (h : SpecT p q U bw m l mk.2.1 nk.2.1) {K : KV} {d f : Dat} {b2 b7 b9 : Nat} {G : Heap} (hl : left U K ≤ l) (hx : d.2.1.1.length ≤ bulk) (hy : f.2.1.1.length ≤ bulk) (hA : At p q bw m G K)
    (h2 : hget G b2 = some (.vars [.ptr bw 0])) (h7 : hget G b7 = some (.vars (eData d))) (h9 : hget G b9 = some (.vars (eData f))) :
    ACall Try.prog 239 [.agg (eMake mk), .agg (eMake nk), .ptr b2 0, .ptr b7 0, .ptr b9 0] (Res p q U bw m G K fun T => makF T d.2.1.1 f.2.1.1 mk nk) G := by
  rw [eData_eq] at h7 h9
  refine acall_body (rs := [.tmp 7]) Try.func239 rfl rfl Try.ntmps239 (by kernel_rfl) (Nat.le_of_ble_eq_true rfl) ?_
  refine aw_sr rfl ?_  -- r0 @shape.go:56
  simp only [go_sem, reduceIte, Nat.reduceEqDiff, Nat.reduceAdd, Nat.reduceMul, Nat.reduceSub, Nat.reduceLeDiff, Nat.reduceLT, reduceCtorEq]
  intro c5 hc5 c6 hc6
  refine aw_box2 hc5 hc6 fun B1 hs1 g5 g6 _ _ => ?_
  rw [eMake_eq] at g5 g6
  replace h2 := hs1 _ _ h2
  replace h7 := hs1 _ _ h7
  replace h9 := hs1 _ _ h9
  refine aw_sr rfl ?_  -- r1 @shape.go:57
  cases hn : decide (mk.1 = nk.1) with
  | false =>
    simp only [go_sem, reduceIte, Nat.reduceEqDiff, Nat.reduceAdd, Nat.reduceMul, Nat.reduceSub, Nat.reduceLeDiff, Nat.reduceLT, reduceCtorEq, g5, g6, h2, h7, h9, hn, true_imp_iff, false_imp_iff, Bool.false_eq_true]
    repeat' first
      | (refine sm.goG_off fun v => ?_
         simp only [go_sem, reduceIte, Nat.reduceEqDiff, Nat.reduceAdd, Nat.reduceMul, Nat.reduceSub, Nat.reduceLeDiff, Nat.reduceLT, reduceCtorEq, g5, g6, h2, h7, h9, hn, true_imp_iff, false_imp_iff, Bool.false_eq_true])
      | (refine goH_by (fun e => by cases e) (fun _ _ h => h) (fun _ => ?_)
         simp only [go_sem, reduceIte, Nat.reduceEqDiff, Nat.reduceAdd, Nat.reduceMul, Nat.reduceSub, Nat.reduceLeDiff, Nat.reduceLT, reduceCtorEq, g5, g6, h2, h7, h9, hn, true_imp_iff, false_imp_iff, Bool.false_eq_true])
    refine aw_ret ⟨trivial, _, rfl, false, K, rfl, hA.up hs1, Fr.sub hs1, Step.rfl' fun T => ?_⟩
    rw [makF, hn]; rfl
  | true =>
    simp only [go_sem, reduceIte, Nat.reduceEqDiff, Nat.reduceAdd, Nat.reduceMul, Nat.reduceSub, Nat.reduceLeDiff, Nat.reduceLT, reduceCtorEq, g5, g6, h2, h7, h9, hn, true_imp_iff]
    refine goH_by (fun _ => h K d.2.1 f.2.1 _ _ _ _ _ _ B1 hl hx hy (hA.up hs1)) (fun v G2 hv => ?_) (fun e => by cases e)
    obtain ⟨r, K', rfl, hA2, hF2, hS⟩ := hv
    simp only [go_sem, reduceIte, Nat.reduceEqDiff, Nat.reduceAdd, Nat.reduceMul, Nat.reduceSub, Nat.reduceLeDiff, Nat.reduceLT, reduceCtorEq]
    refine aw_ret ⟨trivial, _, rfl, r, K', rfl, hA2, (Fr.sub hs1).trans hF2, hS.congr fun T => ?_⟩
    rw [makF, hn]; rfl
theorem a_datas {p q : Prgm} (hp : o23 p.2.2.2.1) (hq : o23 q.2.2.2.1) {U : List N} {bw m l : Nat}
    (hT : ∀ l', l' < l → ∀ n d f, dataF p n = some d → dataF q n = some f → ∀ i (hi : i < d.2.2.1.length) (hj : i < f.2.2.1.length), SpecT p q U bw m l' d.2.2.1[i].2.1 f.2.2.1[i].2.1) : SpecD p q U bw m l := by
  intro K n G hl hU hA
  refine acall_body (rs := [.tmp 4]) Try.func182 rfl rfl Try.ntmps182 (by kernel_rfl) (Nat.le_of_ble_eq_true rfl) ?_
  refine aw_sr rfl ?_  -- r0 @shape.go:49
  simp only [go_sem, reduceIte, Nat.reduceEqDiff, Nat.reduceAdd, Nat.reduceMul, Nat.reduceSub, Nat.reduceLeDiff, Nat.reduceLT, reduceCtorEq]
  intro b2 hb2
  refine aw_box1 hb2 fun B1 hs1 h2 => ?_
  have hA1 := hA.up hs1
  have hlk := look_B2 n K 0
  have hw := hA1.w
  simp only [twoV, e29, List.cons_append, List.nil_append] at hw
  refine aw_seq fun K5 hK5 => ?_
  refine aw_sr rfl ?_  -- r1 @shape.go:50
  simp only [go_sem, reduceIte, Nat.reduceEqDiff, Nat.reduceAdd, Nat.reduceMul, Nat.reduceSub, Nat.reduceLeDiff, Nat.reduceLT, reduceCtorEq, h2, hw, hA1.m, ↓hlk]
  refine aw_sr rfl ?_  -- r2 @shape.go:50
  simp only [go_sem, reduceIte, Nat.reduceEqDiff, Nat.reduceAdd, Nat.reduceMul, Nat.reduceSub, Nat.reduceLeDiff, Nat.reduceLT, reduceCtorEq]
  refine aw_if rfl (fun h => ?_) (fun h => ?_)
  · refine aw_sr rfl ?_  -- r3 @shape.go:51
    simp only [go_sem, reduceIte, Nat.reduceEqDiff, Nat.reduceAdd, Nat.reduceMul, Nat.reduceSub, Nat.reduceLeDiff, Nat.reduceLT, reduceCtorEq]
    refine aw_ret ⟨trivial, _, rfl, tr K n, K, rfl, hA1, Fr.sub hs1, Step.met ?_⟩
    cases hk : sm.look K n with
    | none => rw [hk] at h; cases h
    | some v => simp only [tr, hk]; cases v <;> rfl
  have hn : sm.look K n = none := by
    cases hk : sm.look K n with
    | none => rfl
    | some v => rw [hk] at h; cases h
  refine aw_skip (hK5 _ _ ?_)
  refine aw_sr rfl ?_  -- r4 @shape.go:53
  simp only [go_sem, reduceIte, Nat.reduceEqDiff, Nat.reduceAdd, Nat.reduceMul, Nat.reduceSub, Nat.reduceLeDiff, Nat.reduceLT, reduceCtorEq, h2, hw]
  have hD1 := q_data p n hp.2.1
  have hD2 := q_data q n hq.2.1
  simp only [e29, e194] at hD1 hD2
  refine goA_q hD1 ?_
  simp only [go_sem, reduceIte, Nat.reduceEqDiff, Nat.reduceAdd, Nat.reduceMul, Nat.reduceSub, Nat.reduceLeDiff, Nat.reduceLT, reduceCtorEq, h2]
  intro b7 hb7
  refine aw_box1 hb7 fun B2 hs2 h7 => ?_
  replace h2 := hs2 _ _ h2
  replace hw := hs2 _ _ hw
  refine aw_sr rfl ?_  -- r5 @shape.go:54
  simp only [go_sem, reduceIte, Nat.reduceEqDiff, Nat.reduceAdd, Nat.reduceMul, Nat.reduceSub, Nat.reduceLeDiff, Nat.reduceLT, reduceCtorEq, h2, hw]
  refine goA_q hD2 ?_
  simp only [go_sem, reduceIte, Nat.reduceEqDiff, Nat.reduceAdd, Nat.reduceMul, Nat.reduceSub, Nat.reduceLeDiff, Nat.reduceLT, reduceCtorEq, h2]
  intro b9 hb9
  refine aw_box1 hb9 fun B3 hs3 h9 => ?_
  replace h2 := hs3 _ _ h2
  replace h7 := hs3 _ _ h7
  replace hw := hs3 _ _ hw
  have hA3 := (hA1.up hs2).up hs3
  have hsB := sub_trans (sub_trans hs1 hs2) hs3
  obtain ⟨r0, hf0, hp0⟩ := put_B n true K
  refine aw_sr rfl ?_  -- r6 @shape.go:55
  simp only [go_sem, reduceIte, Nat.reduceEqDiff, Nat.reduceAdd, Nat.reduceMul, Nat.reduceSub, Nat.reduceLeDiff, Nat.reduceLT, reduceCtorEq, h2, hw, hA3.m, hf0, hp0]
  have hA4 := hA3.put n true
  have hF4 : Fr m B3 (hset B3 m (.map ((putK K n true).map kvB))) := Fr.hset
  generalize hset B3 m (.map ((putK K n true).map kvB)) = G4 at hA4 hF4
  replace h2 := hF4 _ _ (hA3.ne h2) h2
  replace h7 := hF4 _ _ (hA3.ne h7) h7
  replace h9 := hF4 _ _ (hA3.ne h9) h9
  have hll : left U (putK K n true) < left U K := left_put hU hn
  refine aw_mid (fun f' G' => ∃ r K2, FSub [(1, .str n), (2, .ptr b2 0), (11, .bool r)] f' ∧ At p q bw m G' K2 ∧ Fr m G4 G' ∧ Step p q U (putK K n true) K2 r (fun T => okD p q T n)) ?_ ?_
  · refine aw_rg rfl ?_  -- r7 @shape.go:56
    cases h1 : dataF p n with
    | none =>
      rw [h1] at h7
      simp only [go_sem, reduceIte, Nat.reduceEqDiff, Nat.reduceAdd, Nat.reduceMul, Nat.reduceSub, Nat.reduceLeDiff, Nat.reduceLT, reduceCtorEq, h1, h2, h7, h9, Option.isSome_none, true_imp_iff, false_imp_iff, Bool.false_eq_true]
      repeat' first
        | (refine sm.goG_off fun v => ?_
           simp only [go_sem, reduceIte, Nat.reduceEqDiff, Nat.reduceAdd, Nat.reduceMul, Nat.reduceSub, Nat.reduceLeDiff, Nat.reduceLT, reduceCtorEq, h1, h2, h7, h9, true_imp_iff, false_imp_iff, Bool.false_eq_true])
        | (refine goH_by (fun e => by cases e) (fun _ _ h => h) (fun _ => ?_)
           simp only [go_sem, reduceIte, Nat.reduceEqDiff, Nat.reduceAdd, Nat.reduceMul, Nat.reduceSub, Nat.reduceLeDiff, Nat.reduceLT, reduceCtorEq, h1, h2, h7, h9, true_imp_iff, false_imp_iff, Bool.false_eq_true])
      refine ⟨false, putK K n true, ⟨rfl, rfl, rfl⟩, hA4, Fr.sub sub_rfl, Step.rfl' fun T => ?_⟩
      rw [okD, h1]
    | some d =>
      rw [h1, Option.getD_some] at h7
      cases h3 : dataF q n with
      | none =>
        rw [h3] at h9
        simp only [go_sem, reduceIte, Nat.reduceEqDiff, Nat.reduceAdd, Nat.reduceMul, Nat.reduceSub, Nat.reduceLeDiff, Nat.reduceLT, reduceCtorEq, h1, h3, h2, h7, h9, Option.isSome_none, Option.isSome_some, true_imp_iff, false_imp_iff, Bool.false_eq_true]
        repeat' first
          | (refine sm.goG_off fun v => ?_
             simp only [go_sem, reduceIte, Nat.reduceEqDiff, Nat.reduceAdd, Nat.reduceMul, Nat.reduceSub, Nat.reduceLeDiff, Nat.reduceLT, reduceCtorEq, h1, h3, h2, h7, h9, true_imp_iff, false_imp_iff, Bool.false_eq_true])
          | (refine goH_by (fun e => by cases e) (fun _ _ h => h) (fun _ => ?_)
             simp only [go_sem, reduceIte, Nat.reduceEqDiff, Nat.reduceAdd, Nat.reduceMul, Nat.reduceSub, Nat.reduceLeDiff, Nat.reduceLT, reduceCtorEq, h1, h3, h2, h7, h9, true_imp_iff, false_imp_iff, Bool.false_eq_true])
        refine ⟨false, putK K n true, ⟨rfl, rfl, rfl⟩, hA4, Fr.sub sub_rfl, Step.rfl' fun T => ?_⟩
        rw [okD, h1, h3]
      | some e =>
        rw [h3, Option.getD_some] at h9
        have hok : ∀ T, okD p q T n = datF T d e := fun T => by rw [okD, h1, h3]
        cases hlen : decide (d.2.1.1.length = e.2.1.1.length) with
        | false =>
          have hlen' : decide ((d.2.1.1.length : Int) = (e.2.1.1.length : Int)) = false := by rw [← hlen]; simp only [Int.natCast_inj]
          simp only [go_sem, reduceIte, Nat.reduceEqDiff, Nat.reduceAdd, Nat.reduceMul, Nat.reduceSub, Nat.reduceLeDiff, Nat.reduceLT, reduceCtorEq, h1, h3, h2, h7, h9, List.length_map, hlen', Option.isSome_none, Option.isSome_some, true_imp_iff, false_imp_iff, Bool.false_eq_true]
          repeat' first
            | (refine sm.goG_off fun v => ?_
               simp only [go_sem, reduceIte, Nat.reduceEqDiff, Nat.reduceAdd, Nat.reduceMul, Nat.reduceSub, Nat.reduceLeDiff, Nat.reduceLT, reduceCtorEq, h1, h3, h2, h7, h9, hlen', true_imp_iff, false_imp_iff, Bool.false_eq_true])
            | (refine goH_by (fun e => by cases e) (fun _ _ h => h) (fun _ => ?_)
               simp only [go_sem, reduceIte, Nat.reduceEqDiff, Nat.reduceAdd, Nat.reduceMul, Nat.reduceSub, Nat.reduceLeDiff, Nat.reduceLT, reduceCtorEq, h1, h3, h2, h7, h9, hlen', true_imp_iff, false_imp_iff, Bool.false_eq_true])
          refine ⟨false, putK K n true, ⟨rfl, rfl, rfl⟩, hA4, Fr.sub sub_rfl, Step.rfl' fun T => ?_⟩
          rw [hok, datF, hlen]; rfl
        | true =>
          have hlen' : decide ((d.2.1.1.length : Int) = (e.2.1.1.length : Int)) = true := by rw [← hlen]; simp only [Int.natCast_inj]
          simp only [go_sem, reduceIte, Nat.reduceEqDiff, Nat.reduceAdd, Nat.reduceMul, Nat.reduceSub, Nat.reduceLeDiff, Nat.reduceLT, reduceCtorEq, h1, h3, h2, h7, h9, List.length_map, hlen', Option.isSome_none, Option.isSome_some, true_imp_iff, false_imp_iff, Bool.false_eq_true]
          have od := hp.2.2 d (List.mem_of_find?_eq_some h1)
          have oe := hq.2.2 e (List.mem_of_find?_eq_some h3)
          have odl : d.2.2.1.length ≤ 1048576 := od.2.2.2.1
          have hmk : ACall Try.prog 238 [.sl (d.2.2.1.map eMake) d.2.2.2 .no, .sl (e.2.2.1.map eMake) e.2.2.2 .no, .func (.func 239) [] [.ptr b2 0, .ptr b7 0, .ptr b9 0]] (Res p q U bw m G4 (putK K n true) fun T => maksF T d.2.1.1 e.2.1.1 d.2.2.1 e.2.2.1) G4 := by
            refine (a_EqualM 239 [] [.ptr b2 0, .ptr b7 0, .ptr b9 0] d.2.2.1 e.2.2.1 _ _ _ _
              (fun i H => ∃ K', At p q bw m H K' ∧ Fr m G4 H ∧ Step p q U (putK K n true) K' true fun T => maksF T d.2.1.1 e.2.1.1 (d.2.2.1.take i) (e.2.2.1.take i)) (fun r H => ∃ K', At p q bw m H K' ∧ Fr m G4 H ∧ Step p q U (putK K n true) K' r fun T => maksF T d.2.1.1 e.2.1.1 d.2.2.1 e.2.2.1) G4 (by omega) (fun hne => ?_) (fun _ => ?_) (fun i H H' ⟨K', c1, c2, c3⟩ hs => ⟨K', c1.up hs, c2.trans (Fr.sub hs), c3⟩) (fun i hi hj H ⟨K', c1, c2, c3⟩ => ?_) (fun H hlen ⟨K', c1, c2, c3⟩ => ⟨K', c1, c2, ?_⟩)).mono fun v H hv => ?_
            · exact ⟨_, hA4, Fr.sub sub_rfl, Step.rfl' fun T => maksF_len hne⟩
            · exact ⟨_, hA4, Fr.sub sub_rfl, Step.rfl' fun T => rfl⟩
            · have hT1 := hT (left U (putK K n true)) (by omega) n d e h1 h3 i hi hj
              refine (a_datas1 hT1 (left_step c3) od.2.1.2.1 oe.2.1.2.1 c1 (c2 _ _ (hA4.ne h2) h2) (c2 _ _ (hA4.ne h7) h7) (c2 _ _ (hA4.ne h9) h9)).mono fun v H' hv => ?_
              obtain ⟨r, K2, rfl, d1, d2, d3⟩ := hv
              refine ⟨r, rfl, fun hr => ?_, fun hr => ?_⟩
              · subst hr
                exact ⟨K2, d1, c2.trans d2, (c3.seq d3).congr fun T => maksF_take hi hj⟩
              · subst hr
                refine ⟨K2, d1, c2.trans d2, (c3.seq d3).cut fun T hT => ?_⟩
                rw [← maksF_take hi hj] at hT
                rw [maksF_cut hi hj]; rw [hT]; rfl
            · rw [List.take_length, hlen, List.take_length] at c3
              exact c3
            · obtain ⟨r, rfl, K', c1, c2, c3⟩ := hv
              exact ⟨r, K', rfl, c1, c2, c3⟩
          refine goH_by (fun _ => hmk) (fun v G5 hv => ?_) (fun e => by cases e)
          obtain ⟨r, K2, rfl, c1, c2, c3⟩ := hv
          simp only [go_sem, reduceIte, Nat.reduceEqDiff, Nat.reduceAdd, Nat.reduceMul, Nat.reduceSub, Nat.reduceLeDiff, Nat.reduceLT, reduceCtorEq]
          refine ⟨r, K2, ⟨rfl, rfl, rfl⟩, c1, c2, c3.congr fun T => ?_⟩
          rw [hok, datF, hlen]; rfl
  intro f' G' ⟨r, K2, hf, c1, c2, c3⟩
  refine AW.of_fsub hf ?_
  replace h2 := c2 _ _ (hA4.ne h2) h2
  have hw5 := c1.w
  simp only [twoV, e29, List.cons_append, List.nil_append] at hw5
  obtain ⟨r5, hf5, hp5⟩ := put_B n r K2
  refine aw_sr rfl ?_  -- r8 @shape.go:59
  simp only [go_sem, reduceIte, Nat.reduceEqDiff, Nat.reduceAdd, Nat.reduceMul, Nat.reduceSub, Nat.reduceLeDiff, Nat.reduceLT, reduceCtorEq, h2, hw5, c1.m, hf5, hp5]
  refine aw_sr rfl ?_  -- r9 @shape.go:60
  simp only [go_sem, reduceIte, Nat.reduceEqDiff, Nat.reduceAdd, Nat.reduceMul, Nat.reduceSub, Nat.reduceLeDiff, Nat.reduceLT, reduceCtorEq]
  exact aw_ret ⟨trivial, _, rfl, r, _, rfl, c1.put n r, (((Fr.sub hsB).trans hF4).trans c2).trans Fr.hset, Step.data hn hU c3⟩
end Go.Proofs.Ytclmcpbanaojfaa

/- Types of two programs that are the same: same, and all of the search. -/
set_option linter.unusedSimpArgs false
set_option linter.unusedVariables false
namespace Go.Proofs.Ytclmcpbanaojfaa
open Go.Proofs.YtclmcpbanaojfaaV
set_option maxHeartbeats 4000000
set_option maxRecDepth 100000
open sm
theorem a_same {p q : Prgm} {U : List N} {bw m l : Nat} {a b : Typ} (hT : SpecT p q U bw m l a.args b.args) (hD : SpecD p q U bw m l) (ha : a.name ∈ U) : SpecS p q U bw m l a b := by
  intro K x y tx ty G hl hx hy hA
  have hx' : x.1.length ≤ 1048576 := hx
  have hy' : y.1.length ≤ 1048576 := hy
  refine acall_body (rs := [.tmp 10]) Try.func85 rfl rfl Try.ntmps85 (by kernel_rfl) (Nat.le_of_ble_eq_true rfl) ?_
  refine aw_sr rfl ?_  -- r0 @shape.go:34
  simp only [go_sem, reduceIte, Nat.reduceEqDiff, Nat.reduceAdd, Nat.reduceMul, Nat.reduceSub, Nat.reduceLeDiff, Nat.reduceLT, reduceCtorEq]
  intro b6 hb6 b7 hb7
  refine aw_box2 hb6 hb7 fun B1 hs1 h6 h7 _ _ => ?_
  have hA1 := hA.up hs1
  refine aw_seq fun K3 hK3 => ?_
  refine aw_sr rfl ?_  -- r1 @shape.go:35
  cases hk : decide (a.kind = b.kind) with
  | false =>
    have hk' : ¬ a.kind = b.kind := of_decide_eq_false hk
    have hk2 : decide (a.kind ≠ b.kind) = true := decide_eq_true hk'
    simp only [go_sem, reduceIte, Nat.reduceEqDiff, Nat.reduceAdd, Nat.reduceMul, Nat.reduceSub, Nat.reduceLeDiff, Nat.reduceLT, reduceCtorEq, h6, h7, hk2, true_imp_iff, false_imp_iff, Bool.false_eq_true, Bool.not_true]
    repeat' first
      | (refine sm.goG_off fun v => ?_
         simp only [go_sem, reduceIte, Nat.reduceEqDiff, Nat.reduceAdd, Nat.reduceMul, Nat.reduceSub, Nat.reduceLeDiff, Nat.reduceLT, reduceCtorEq, h6, h7, hk2, true_imp_iff, false_imp_iff, Bool.false_eq_true, Bool.not_true])
      | (refine goH_by (fun e => by cases e) (fun _ _ h => h) (fun _ => ?_)
         simp only [go_sem, reduceIte, Nat.reduceEqDiff, Nat.reduceAdd, Nat.reduceMul, Nat.reduceSub, Nat.reduceLeDiff, Nat.reduceLT, reduceCtorEq, h6, h7, hk2, true_imp_iff, false_imp_iff, Bool.false_eq_true, Bool.not_true])
    refine aw_if rfl (fun h => ?_) (fun h => by cases h)
    refine aw_sr rfl ?_  -- r2
    simp only [go_sem, reduceIte, Nat.reduceEqDiff, Nat.reduceAdd, Nat.reduceMul, Nat.reduceSub, Nat.reduceLeDiff, Nat.reduceLT, reduceCtorEq]
    refine aw_ret ⟨trivial, _, rfl, false, K, rfl, hA1, Fr.sub hs1, Step.rfl' fun T => ?_⟩
    rw [sameF_eq, hk]; rfl
  | true =>
  have hk' : a.kind = b.kind := of_decide_eq_true hk
  have hk2 : decide (a.kind ≠ b.kind) = false := decide_eq_false (fun h => h hk')
  cases h7k : decide (a.kind = 7) with
  | true =>
    simp only [go_sem, reduceIte, Nat.reduceEqDiff, Nat.reduceAdd, Nat.reduceMul, Nat.reduceSub, Nat.reduceLeDiff, Nat.reduceLT, reduceCtorEq, h6, h7, hk2, h7k, true_imp_iff, false_imp_iff, Bool.false_eq_true, Bool.not_true, Bool.not_false]
    repeat' first
      | (refine sm.goG_off fun v => ?_
         simp only [go_sem, reduceIte, Nat.reduceEqDiff, Nat.reduceAdd, Nat.reduceMul, Nat.reduceSub, Nat.reduceLeDiff, Nat.reduceLT, reduceCtorEq, h6, h7, hk2, h7k, true_imp_iff, false_imp_iff, Bool.false_eq_true, Bool.not_true])
      | (refine goH_by (fun e => by cases e) (fun _ _ h => h) (fun _ => ?_)
         simp only [go_sem, reduceIte, Nat.reduceEqDiff, Nat.reduceAdd, Nat.reduceMul, Nat.reduceSub, Nat.reduceLeDiff, Nat.reduceLT, reduceCtorEq, h6, h7, hk2, h7k, true_imp_iff, false_imp_iff, Bool.false_eq_true, Bool.not_true])
    refine aw_if rfl (fun h => ?_) (fun h => by cases h)
    refine aw_sr rfl ?_  -- r2
    simp only [go_sem, reduceIte, Nat.reduceEqDiff, Nat.reduceAdd, Nat.reduceMul, Nat.reduceSub, Nat.reduceLeDiff, Nat.reduceLT, reduceCtorEq]
    refine aw_ret ⟨trivial, _, rfl, false, K, rfl, hA1, Fr.sub hs1, Step.rfl' fun T => ?_⟩
    rw [sameF_eq, hk, h7k]; rfl
  | false =>
  simp only [go_sem, reduceIte, Nat.reduceEqDiff, Nat.reduceAdd, Nat.reduceMul, Nat.reduceSub, Nat.reduceLeDiff, Nat.reduceLT, reduceCtorEq, h6, h7, hk2, h7k, true_imp_iff, Bool.not_false]
  refine goH_by (fun _ => hT K x y _ _ _ _ _ _ B1 hl hx hy hA1) (fun v G2 hv => ?_) (fun e => by cases e)
  obtain ⟨r, K2, rfl, c1, c2, c3⟩ := hv
  replace h6 := c2 _ _ (hA1.ne h6) h6
  replace h7 := c2 _ _ (hA1.ne h7) h7
  have hF := (Fr.sub hs1).trans c2
  simp only [go_sem, reduceIte, Nat.reduceEqDiff, Nat.reduceAdd, Nat.reduceMul, Nat.reduceSub, Nat.reduceLeDiff, Nat.reduceLT, reduceCtorEq]
  cases r with
  | false =>
    refine aw_if rfl (fun h => ?_) (fun h => by cases h)
    refine aw_sr rfl ?_  -- r2
    simp only [go_sem, reduceIte, Nat.reduceEqDiff, Nat.reduceAdd, Nat.reduceMul, Nat.reduceSub, Nat.reduceLeDiff, Nat.reduceLT, reduceCtorEq]
    refine aw_ret ⟨trivial, _, rfl, false, K2, rfl, c1, hF, c3.cut fun T hT => ?_⟩
    rw [sameF_eq, hT, Bool.and_false]; rfl
  | true =>
  refine aw_if rfl (fun h => by cases h) (fun h => ?_)
  refine aw_skip (hK3 _ _ ?_)
  have hsame : ∀ T, sameF T x.1 y.1 a b = (sameFs T x.1 y.1 a.args b.args && leafF T x.1 y.1 a.kind a.name b.name) := fun T => by rw [sameF_eq, hk, h7k]; rfl
  refine aw_seq fun K4 hK4 => ?_
  refine aw_sr rfl ?_  -- r3 @shape.go:38
  simp only [go_sem, reduceIte, Nat.reduceEqDiff, Nat.reduceAdd, Nat.reduceMul, Nat.reduceSub, Nat.reduceLeDiff, Nat.reduceLT, reduceCtorEq, h6]
  refine aw_block ?_  -- 0
  refine aw_chain rfl rfl rfl rfl rfl ?_  -- t34 is one of [5]
  refine aw_if rfl (fun h => ?_) (fun h => ?_)
  · have h5 : a.kind = 5 := by simpa using h
    refine aw_sr rfl ?_  -- r5 @shape.go:40
    simp only [go_sem, reduceIte, Nat.reduceEqDiff, Nat.reduceAdd, Nat.reduceMul, Nat.reduceSub, Nat.reduceLeDiff, Nat.reduceLT, reduceCtorEq, h6]
    refine goA_q (q_IndexStr x.1 x.2 tx a.name (by omega)) ?_
    simp only [go_sem, reduceIte, Nat.reduceEqDiff, Nat.reduceAdd, Nat.reduceMul, Nat.reduceSub, Nat.reduceLeDiff, Nat.reduceLT, reduceCtorEq, h6]
    refine aw_sr rfl ?_  -- r6 @shape.go:41
    simp only [go_sem, reduceIte, Nat.reduceEqDiff, Nat.reduceAdd, Nat.reduceMul, Nat.reduceSub, Nat.reduceLeDiff, Nat.reduceLT, reduceCtorEq, h7]
    refine goH_q (fun hg => q_IndexStr y.1 y.2 ty b.name (by omega)) ?_
    simp only [go_sem, reduceIte, Nat.reduceEqDiff, Nat.reduceAdd, Nat.reduceMul, Nat.reduceSub, Nat.reduceLeDiff, Nat.reduceLT, reduceCtorEq, h7]
    refine aw_ret ⟨trivial, _, rfl, _, K2, rfl, c1, hF, (c3.seq (Step.rfl' fun T => ?_)).congr hsame⟩
    rw [leafF, if_pos h5]; rfl
  have h5 : ¬ a.kind = 5 := by simpa using h
  refine aw_chain rfl rfl rfl rfl rfl ?_  -- t34 is one of [6]
  refine aw_if rfl (fun h => ?_) (fun h => ?_)
  · have h6k : a.kind = 6 := by simpa using h
    refine aw_sr rfl ?_  -- r8 @shape.go:43
    cases hn : decide (a.name = b.name) with
    | false =>
      simp only [go_sem, reduceIte, Nat.reduceEqDiff, Nat.reduceAdd, Nat.reduceMul, Nat.reduceSub, Nat.reduceLeDiff, Nat.reduceLT, reduceCtorEq, h6, h7, hn, true_imp_iff, false_imp_iff, Bool.false_eq_true]
      repeat' first
        | (refine sm.goG_off fun v => ?_
           simp only [go_sem, reduceIte, Nat.reduceEqDiff, Nat.reduceAdd, Nat.reduceMul, Nat.reduceSub, Nat.reduceLeDiff, Nat.reduceLT, reduceCtorEq, h6, h7, hn, true_imp_iff, false_imp_iff, Bool.false_eq_true])
        | (refine goH_by (fun e => by cases e) (fun _ _ h => h) (fun _ => ?_)
           simp only [go_sem, reduceIte, Nat.reduceEqDiff, Nat.reduceAdd, Nat.reduceMul, Nat.reduceSub, Nat.reduceLeDiff, Nat.reduceLT, reduceCtorEq, h6, h7, hn, true_imp_iff, false_imp_iff, Bool.false_eq_true])
      refine aw_ret ⟨trivial, _, rfl, false, K2, rfl, c1, hF, (c3.seq (Step.rfl' fun T => ?_)).congr hsame⟩
      rw [leafF, if_neg h5, if_pos h6k, hn]; rfl
    | true =>
      simp only [go_sem, reduceIte, Nat.reduceEqDiff, Nat.reduceAdd, Nat.reduceMul, Nat.reduceSub, Nat.reduceLeDiff, Nat.reduceLT, reduceCtorEq, h6, h7, hn, true_imp_iff]
      refine goH_by (fun _ => hD K2 a.name G2 (Nat.le_trans (left_step c3) hl) ha c1) (fun v G5 hv => ?_) (fun e => by cases e)
      obtain ⟨r, K5, rfl, d1, d2, d3⟩ := hv
      simp only [go_sem, reduceIte, Nat.reduceEqDiff, Nat.reduceAdd, Nat.reduceMul, Nat.reduceSub, Nat.reduceLeDiff, Nat.reduceLT, reduceCtorEq]
      refine aw_ret ⟨trivial, _, rfl, r, K5, rfl, d1, hF.trans d2, (c3.seq d3).congr fun T => ?_⟩
      rw [hsame, leafF, if_neg h5, if_pos h6k, hn]; rfl
  have h6k : ¬ a.kind = 6 := by simpa using h
  refine aw_skip (hK4 _ _ ?_)
  refine aw_sr rfl ?_  -- r9 @shape.go:45
  simp only [go_sem, reduceIte, Nat.reduceEqDiff, Nat.reduceAdd, Nat.reduceMul, Nat.reduceSub, Nat.reduceLeDiff, Nat.reduceLT, reduceCtorEq, h6, h7]
  refine aw_ret ⟨trivial, _, rfl, _, K2, rfl, c1, hF, (c3.seq (Step.rfl' fun T => ?_)).congr hsame⟩
  rw [leafF, if_neg h5, if_neg h6k]
theorem same_all {p q : Prgm} (hp : o23 p.2.2.2.1) (hq : o23 q.2.2.2.1) {U : List N} {bw m : Nat} (hU : ∀ s d, dataF p s = some d → ∀ mk ∈ d.2.2.1, ∀ n ∈ tnms mk.2.1, n ∈ U) :
    ∀ l s (a b : Typ), a.sz ≤ s → OkTyp a → (∀ n ∈ tnm a, n ∈ U) → SpecS p q U bw m l a b := by
  intro l
  induction l using Nat.strongRecOn with
  | _ l ihl =>
  have hD : SpecD p q U bw m l := a_datas hp hq fun l' hl' n d f h1 h2 i hi hj => by
    have od := hp.2.2 d (List.mem_of_find?_eq_some h1)
    have om := od.2.2.2.2 _ (List.getElem_mem hi)
    have hmem : d.2.2.1[i] ∈ d.2.2.1 := List.getElem_mem hi
    refine a_types (fun j hj1 hj2 => ?_) om.2.len
    have hj : d.2.2.1[i].2.1[j] ∈ d.2.2.1[i].2.1 := List.getElem_mem hj1
    exact ihl l' hl' _ _ _ (Nat.le_refl _) (om.2.2.2 _ hj) fun nn hnn => hU n d h1 _ hmem nn (tnms_mem hj nn hnn)
  intro s
  induction s with
  | zero => intro a b hs; have := a.sz_eq; omega
  | succ s ih =>
    intro a b hs oa hn
    refine a_same (a_types (fun i hi hj => ?_) oa.len) hD (hn _ (by rw [tnm_eq]; simp))
    have hmem : a.args[i] ∈ a.args := List.getElem_mem hi
    have h1 := Typ.sz_args hmem
    refine ih _ _ (by omega) (oa.arg hmem) fun n hnn => hn n ?_
    rw [tnm_eq]
    exact List.mem_cons_of_mem _ (tnms_mem hmem n hnn)
end Go.Proofs.Ytclmcpbanaojfaa
