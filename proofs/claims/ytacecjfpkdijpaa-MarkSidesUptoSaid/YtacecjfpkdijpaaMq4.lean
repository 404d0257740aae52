/- Part 4 of a proof laid in parts; each part's own comment says what it proves and under which conditions. -/
import Derived.Test.YtacecjfpkdijpaaMq3
import Derived.Test.YtacecjfpkdijpaaProg
import Derived.Test.YtacecjfpkdijpaaRows
import Derived.WalkKit
import Derived.ProofKit
import Derived.OpenShut
import Derived.JoinedCond
/- Closed facts about the program's types, each evaluated by the kernel; no conditions. -/
namespace Go.Proofs.Ytacecjfpkdijpaa
open Go.Proofs.YtacecjfpkdijpaaV
theorem mixed : Try.prog.follows .mixedOrders = true := by kernel_rfl
@[go_sem] theorem ty_ag105 : tagg Try.prog 105 = some false := by kernel_rfl
@[go_sem] theorem ty_ag106 : tagg Try.prog 106 = some false := by kernel_rfl
@[go_sem] theorem ty_ag108 : tagg Try.prog 108 = some true := by kernel_rfl
@[go_sem] theorem ty_ag112 : tagg Try.prog 112 = some true := by kernel_rfl
@[go_sem] theorem ty_ag124 : tagg Try.prog 124 = some true := by kernel_rfl
@[go_sem] theorem ty_ag125 : tagg Try.prog 125 = some false := by kernel_rfl
@[go_sem] theorem ty_ag127 : tagg Try.prog 127 = some true := by kernel_rfl
@[go_sem] theorem ty_ag131 : tagg Try.prog 131 = some false := by kernel_rfl
@[go_sem] theorem ty_ag133 : tagg Try.prog 133 = some true := by kernel_rfl
@[go_sem] theorem ty_ag137 : tagg Try.prog 137 = some true := by kernel_rfl
@[go_sem] theorem ty_ag138 : tagg Try.prog 138 = some false := by kernel_rfl
@[go_sem] theorem ty_ag140 : tagg Try.prog 140 = some true := by kernel_rfl
@[go_sem] theorem ty_ag145 : tagg Try.prog 145 = some false := by kernel_rfl
@[go_sem] theorem ty_ag147 : tagg Try.prog 147 = some true := by kernel_rfl
@[go_sem] theorem ty_ag151 : tagg Try.prog 151 = some true := by kernel_rfl
@[go_sem] theorem ty_ag156 : tagg Try.prog 156 = some false := by kernel_rfl
@[go_sem] theorem ty_ag158 : tagg Try.prog 158 = some true := by kernel_rfl
@[go_sem] theorem ty_ag167 : tagg Try.prog 167 = some true := by kernel_rfl
@[go_sem] theorem ty_ag170 : tagg Try.prog 170 = some false := by kernel_rfl
@[go_sem] theorem ty_ag175 : tagg Try.prog 175 = some true := by kernel_rfl
@[go_sem] theorem ty_ag178 : tagg Try.prog 178 = some true := by kernel_rfl
@[go_sem] theorem ty_ag180 : tagg Try.prog 180 = some false := by kernel_rfl
@[go_sem] theorem ty_ag189 : tagg Try.prog 189 = some true := by kernel_rfl
@[go_sem] theorem ty_ag199 : tagg Try.prog 199 = some false := by kernel_rfl
@[go_sem] theorem ty_ag206 : tagg Try.prog 206 = some false := by kernel_rfl
@[go_sem] theorem ty_ag207 : tagg Try.prog 207 = some false := by kernel_rfl
@[go_sem] theorem ty_ag212 : tagg Try.prog 212 = some false := by kernel_rfl
@[go_sem] theorem ty_ag214 : tagg Try.prog 214 = some true := by kernel_rfl
@[go_sem] theorem ty_ag216 : tagg Try.prog 216 = some true := by kernel_rfl
@[go_sem] theorem ty_ag218 : tagg Try.prog 218 = some true := by kernel_rfl
@[go_sem] theorem ty_ag22 : tagg Try.prog 22 = some false := by kernel_rfl
@[go_sem] theorem ty_ag220 : tagg Try.prog 220 = some true := by kernel_rfl
@[go_sem] theorem ty_ag227 : tagg Try.prog 227 = some false := by kernel_rfl
@[go_sem] theorem ty_ag229 : tagg Try.prog 229 = some true := by kernel_rfl
@[go_sem] theorem ty_ag231 : tagg Try.prog 231 = some true := by kernel_rfl
@[go_sem] theorem ty_ag24 : tagg Try.prog 24 = some false := by kernel_rfl
@[go_sem] theorem ty_ag242 : tagg Try.prog 242 = some false := by kernel_rfl
@[go_sem] theorem ty_ag245 : tagg Try.prog 245 = some true := by kernel_rfl
@[go_sem] theorem ty_ag247 : tagg Try.prog 247 = some false := by kernel_rfl
@[go_sem] theorem ty_ag248 : tagg Try.prog 248 = some false := by kernel_rfl
@[go_sem] theorem ty_ag249 : tagg Try.prog 249 = some false := by kernel_rfl
@[go_sem] theorem ty_ag252 : tagg Try.prog 252 = some false := by kernel_rfl
@[go_sem] theorem ty_ag253 : tagg Try.prog 253 = some false := by kernel_rfl
@[go_sem] theorem ty_ag254 : tagg Try.prog 254 = some false := by kernel_rfl
@[go_sem] theorem ty_ag256 : tagg Try.prog 256 = some true := by kernel_rfl
@[go_sem] theorem ty_ag259 : tagg Try.prog 259 = some false := by kernel_rfl
@[go_sem] theorem ty_ag260 : tagg Try.prog 260 = some false := by kernel_rfl
@[go_sem] theorem ty_ag265 : tagg Try.prog 265 = some false := by kernel_rfl
@[go_sem] theorem ty_ag266 : tagg Try.prog 266 = some false := by kernel_rfl
@[go_sem] theorem ty_ag267 : tagg Try.prog 267 = some false := by kernel_rfl
@[go_sem] theorem ty_ag268 : tagg Try.prog 268 = some false := by kernel_rfl
@[go_sem] theorem ty_ag269 : tagg Try.prog 269 = some false := by kernel_rfl
@[go_sem] theorem ty_ag270 : tagg Try.prog 270 = some false := by kernel_rfl
@[go_sem] theorem ty_ag271 : tagg Try.prog 271 = some false := by kernel_rfl
@[go_sem] theorem ty_ag273 : tagg Try.prog 273 = some true := by kernel_rfl
@[go_sem] theorem ty_ag275 : tagg Try.prog 275 = some true := by kernel_rfl
@[go_sem] theorem ty_ag276 : tagg Try.prog 276 = some false := by kernel_rfl
@[go_sem] theorem ty_ag277 : tagg Try.prog 277 = some false := by kernel_rfl
@[go_sem] theorem ty_ag279 : tagg Try.prog 279 = some false := by kernel_rfl
@[go_sem] theorem ty_ag282 : tagg Try.prog 282 = some false := by kernel_rfl
@[go_sem] theorem ty_ag283 : tagg Try.prog 283 = some false := by kernel_rfl
@[go_sem] theorem ty_ag284 : tagg Try.prog 284 = some false := by kernel_rfl
@[go_sem] theorem ty_ag289 : tagg Try.prog 289 = some false := by kernel_rfl
@[go_sem] theorem ty_ag293 : tagg Try.prog 293 = some false := by kernel_rfl
@[go_sem] theorem ty_ag295 : tagg Try.prog 295 = some true := by kernel_rfl
@[go_sem] theorem ty_ag3 : tagg Try.prog 3 = some false := by kernel_rfl
@[go_sem] theorem ty_ag300 : tagg Try.prog 300 = some true := by kernel_rfl
@[go_sem] theorem ty_ag307 : tagg Try.prog 307 = some false := by kernel_rfl
@[go_sem] theorem ty_ag311 : tagg Try.prog 311 = some true := by kernel_rfl
@[go_sem] theorem ty_ag32 : tagg Try.prog 32 = some false := by kernel_rfl
@[go_sem] theorem ty_ag322 : tagg Try.prog 322 = some false := by kernel_rfl
@[go_sem] theorem ty_ag34 : tagg Try.prog 34 = some true := by kernel_rfl
@[go_sem] theorem ty_ag347 : tagg Try.prog 347 = some true := by kernel_rfl
@[go_sem] theorem ty_ag349 : tagg Try.prog 349 = some true := by kernel_rfl
@[go_sem] theorem ty_ag361 : tagg Try.prog 361 = some true := by kernel_rfl
@[go_sem] theorem ty_ag368 : tagg Try.prog 368 = some true := by kernel_rfl
@[go_sem] theorem ty_ag379 : tagg Try.prog 379 = some false := by kernel_rfl
@[go_sem] theorem ty_ag38 : tagg Try.prog 38 = some false := by kernel_rfl
@[go_sem] theorem ty_ag396 : tagg Try.prog 396 = some false := by kernel_rfl
@[go_sem] theorem ty_ag4 : tagg Try.prog 4 = some false := by kernel_rfl
@[go_sem] theorem ty_ag426 : tagg Try.prog 426 = some false := by kernel_rfl
@[go_sem] theorem ty_ag43 : tagg Try.prog 43 = some false := by kernel_rfl
@[go_sem] theorem ty_ag45 : tagg Try.prog 45 = some true := by kernel_rfl
@[go_sem] theorem ty_ag5 : tagg Try.prog 5 = some false := by kernel_rfl
@[go_sem] theorem ty_ag50 : tagg Try.prog 50 = some false := by kernel_rfl
@[go_sem] theorem ty_ag51 : tagg Try.prog 51 = some false := by kernel_rfl
@[go_sem] theorem ty_ag52 : tagg Try.prog 52 = some false := by kernel_rfl
@[go_sem] theorem ty_ag53 : tagg Try.prog 53 = some false := by kernel_rfl
@[go_sem] theorem ty_ag54 : tagg Try.prog 54 = some false := by kernel_rfl
@[go_sem] theorem ty_ag56 : tagg Try.prog 56 = some true := by kernel_rfl
@[go_sem] theorem ty_ag59 : tagg Try.prog 59 = some false := by kernel_rfl
@[go_sem] theorem ty_ag60 : tagg Try.prog 60 = some false := by kernel_rfl
@[go_sem] theorem ty_ag61 : tagg Try.prog 61 = some false := by kernel_rfl
@[go_sem] theorem ty_ag63 : tagg Try.prog 63 = some true := by kernel_rfl
@[go_sem] theorem ty_ag65 : tagg Try.prog 65 = some true := by kernel_rfl
@[go_sem] theorem ty_ag73 : tagg Try.prog 73 = some false := by kernel_rfl
@[go_sem] theorem ty_ag74 : tagg Try.prog 74 = some false := by kernel_rfl
@[go_sem] theorem ty_ag75 : tagg Try.prog 75 = some false := by kernel_rfl
@[go_sem] theorem ty_ag76 : tagg Try.prog 76 = some false := by kernel_rfl
@[go_sem] theorem ty_ag77 : tagg Try.prog 77 = some false := by kernel_rfl
@[go_sem] theorem ty_ag79 : tagg Try.prog 79 = some true := by kernel_rfl
@[go_sem] theorem ty_ag84 : tagg Try.prog 84 = some false := by kernel_rfl
@[go_sem] theorem ty_ag86 : tagg Try.prog 86 = some true := by kernel_rfl
@[go_sem] theorem ty_ag87 : tagg Try.prog 87 = some true := by kernel_rfl
@[go_sem] theorem ty_ag9 : tagg Try.prog 9 = some false := by kernel_rfl
@[go_sem] theorem ty_ag94 : tagg Try.prog 94 = some true := by kernel_rfl
@[go_sem] theorem ty_ag98 : tagg Try.prog 98 = some true := by kernel_rfl
@[go_sem] theorem ty_ar327 : tarray Try.prog 327 = some (2, 170, 1) := by kernel_rfl
@[go_sem] theorem ty_ar340 : tarray Try.prog 340 = some (2, 180, 1) := by kernel_rfl
@[go_sem] theorem ty_ar87 : tarray Try.prog 87 = some (2, 3, 1) := by kernel_rfl
@[go_sem] theorem ty_by108 : tbytes Try.prog 108 = some 56 := by kernel_rfl
@[go_sem] theorem ty_by112 : tbytes Try.prog 112 = some 56 := by kernel_rfl
@[go_sem] theorem ty_by124 : tbytes Try.prog 124 = some 80 := by kernel_rfl
@[go_sem] theorem ty_by138 : tbytes Try.prog 138 = some 24 := by kernel_rfl
@[go_sem] theorem ty_by140 : tbytes Try.prog 140 = some 16 := by kernel_rfl
@[go_sem] theorem ty_by178 : tbytes Try.prog 178 = some 32 := by kernel_rfl
@[go_sem] theorem ty_by189 : tbytes Try.prog 189 = some 16 := by kernel_rfl
@[go_sem] theorem ty_by22 : tbytes Try.prog 22 = some 24 := by kernel_rfl
@[go_sem] theorem ty_by24 : tbytes Try.prog 24 = some 8 := by kernel_rfl
@[go_sem] theorem ty_by245 : tbytes Try.prog 245 = some 32 := by kernel_rfl
@[go_sem] theorem ty_by256 : tbytes Try.prog 256 = some 96 := by kernel_rfl
@[go_sem] theorem ty_by258 : tbytes Try.prog 258 = some 16 := by kernel_rfl
@[go_sem] theorem ty_by259 : tbytes Try.prog 259 = some 8 := by kernel_rfl
@[go_sem] theorem ty_by260 : tbytes Try.prog 260 = some 8 := by kernel_rfl
@[go_sem] theorem ty_by270 : tbytes Try.prog 270 = some 8 := by kernel_rfl
@[go_sem] theorem ty_by271 : tbytes Try.prog 271 = some 24 := by kernel_rfl
@[go_sem] theorem ty_by273 : tbytes Try.prog 273 = some 16 := by kernel_rfl
@[go_sem] theorem ty_by275 : tbytes Try.prog 275 = some 56 := by kernel_rfl
@[go_sem] theorem ty_by276 : tbytes Try.prog 276 = some 24 := by kernel_rfl
@[go_sem] theorem ty_by295 : tbytes Try.prog 295 = some 72 := by kernel_rfl
@[go_sem] theorem ty_by3 : tbytes Try.prog 3 = some 8 := by kernel_rfl
@[go_sem] theorem ty_by300 : tbytes Try.prog 300 = some 64 := by kernel_rfl
@[go_sem] theorem ty_by311 : tbytes Try.prog 311 = some 16 := by kernel_rfl
@[go_sem] theorem ty_by361 : tbytes Try.prog 361 = some 64 := by kernel_rfl
@[go_sem] theorem ty_by368 : tbytes Try.prog 368 = some 16 := by kernel_rfl
@[go_sem] theorem ty_by379 : tbytes Try.prog 379 = some 8 := by kernel_rfl
@[go_sem] theorem ty_by38 : tbytes Try.prog 38 = some 24 := by kernel_rfl
@[go_sem] theorem ty_by4 : tbytes Try.prog 4 = some 1 := by kernel_rfl
@[go_sem] theorem ty_by45 : tbytes Try.prog 45 = some 48 := by kernel_rfl
@[go_sem] theorem ty_by5 : tbytes Try.prog 5 = some 1 := by kernel_rfl
@[go_sem] theorem ty_by63 : tbytes Try.prog 63 = some 136 := by kernel_rfl
@[go_sem] theorem ty_by87 : tbytes Try.prog 87 = some 16 := by kernel_rfl
@[go_sem] theorem ty_by9 : tbytes Try.prog 9 = some 16 := by kernel_rfl
@[go_sem] theorem ty_by94 : tbytes Try.prog 94 = some 24 := by kernel_rfl
@[go_sem] theorem ty_fi108_0 : tfield Try.prog 108 0 = some (0, 3, 1) := by kernel_rfl
@[go_sem] theorem ty_fi108_1 : tfield Try.prog 108 1 = some (1, 3, 1) := by kernel_rfl
@[go_sem] theorem ty_fi108_2 : tfield Try.prog 108 2 = some (2, 9, 1) := by kernel_rfl
@[go_sem] theorem ty_fi108_3 : tfield Try.prog 108 3 = some (3, 106, 1) := by kernel_rfl
@[go_sem] theorem ty_fi112_0 : tfield Try.prog 112 0 = some (0, 3, 1) := by kernel_rfl
@[go_sem] theorem ty_fi112_1 : tfield Try.prog 112 1 = some (1, 3, 1) := by kernel_rfl
@[go_sem] theorem ty_fi112_2 : tfield Try.prog 112 2 = some (2, 9, 1) := by kernel_rfl
@[go_sem] theorem ty_fi112_3 : tfield Try.prog 112 3 = some (3, 105, 1) := by kernel_rfl
@[go_sem] theorem ty_fi124_0 : tfield Try.prog 124 0 = some (0, 22, 1) := by kernel_rfl
@[go_sem] theorem ty_fi124_1 : tfield Try.prog 124 1 = some (1, 112, 4) := by kernel_rfl
@[go_sem] theorem ty_fi127_0 : tfield Try.prog 127 0 = some (0, 4, 1) := by kernel_rfl
@[go_sem] theorem ty_fi127_1 : tfield Try.prog 127 1 = some (1, 3, 1) := by kernel_rfl
@[go_sem] theorem ty_fi127_2 : tfield Try.prog 127 2 = some (2, 124, 5) := by kernel_rfl
@[go_sem] theorem ty_fi127_3 : tfield Try.prog 127 3 = some (7, 125, 1) := by kernel_rfl
@[go_sem] theorem ty_fi127_4 : tfield Try.prog 127 4 = some (8, 125, 1) := by kernel_rfl
@[go_sem] theorem ty_fi133_0 : tfield Try.prog 133 0 = some (0, 131, 1) := by kernel_rfl
@[go_sem] theorem ty_fi133_1 : tfield Try.prog 133 1 = some (1, 22, 1) := by kernel_rfl
@[go_sem] theorem ty_fi133_2 : tfield Try.prog 133 2 = some (2, 3, 1) := by kernel_rfl
@[go_sem] theorem ty_fi133_3 : tfield Try.prog 133 3 = some (3, 3, 1) := by kernel_rfl
@[go_sem] theorem ty_fi137_0 : tfield Try.prog 137 0 = some (0, 3, 1) := by kernel_rfl
@[go_sem] theorem ty_fi137_1 : tfield Try.prog 137 1 = some (1, 3, 1) := by kernel_rfl
@[go_sem] theorem ty_fi137_2 : tfield Try.prog 137 2 = some (2, 3, 1) := by kernel_rfl
@[go_sem] theorem ty_fi137_3 : tfield Try.prog 137 3 = some (3, 3, 1) := by kernel_rfl
@[go_sem] theorem ty_fi137_4 : tfield Try.prog 137 4 = some (4, 3, 1) := by kernel_rfl
@[go_sem] theorem ty_fi140_1 : tfield Try.prog 140 1 = some (1, 3, 1) := by kernel_rfl
@[go_sem] theorem ty_fi147_0 : tfield Try.prog 147 0 = some (0, 4, 1) := by kernel_rfl
@[go_sem] theorem ty_fi147_1 : tfield Try.prog 147 1 = some (1, 22, 1) := by kernel_rfl
@[go_sem] theorem ty_fi147_2 : tfield Try.prog 147 2 = some (2, 145, 1) := by kernel_rfl
@[go_sem] theorem ty_fi147_3 : tfield Try.prog 147 3 = some (3, 22, 1) := by kernel_rfl
@[go_sem] theorem ty_fi147_4 : tfield Try.prog 147 4 = some (4, 3, 1) := by kernel_rfl
@[go_sem] theorem ty_fi151_0 : tfield Try.prog 151 0 = some (0, 3, 1) := by kernel_rfl
@[go_sem] theorem ty_fi151_1 : tfield Try.prog 151 1 = some (1, 3, 1) := by kernel_rfl
@[go_sem] theorem ty_fi151_2 : tfield Try.prog 151 2 = some (2, 3, 1) := by kernel_rfl
@[go_sem] theorem ty_fi151_3 : tfield Try.prog 151 3 = some (3, 3, 1) := by kernel_rfl
@[go_sem] theorem ty_fi158_0 : tfield Try.prog 158 0 = some (0, 156, 1) := by kernel_rfl
@[go_sem] theorem ty_fi167_0 : tfield Try.prog 167 0 = some (0, 3, 1) := by kernel_rfl
@[go_sem] theorem ty_fi167_1 : tfield Try.prog 167 1 = some (1, 3, 1) := by kernel_rfl
@[go_sem] theorem ty_fi167_2 : tfield Try.prog 167 2 = some (2, 9, 1) := by kernel_rfl
@[go_sem] theorem ty_fi175_0 : tfield Try.prog 175 0 = some (0, 9, 1) := by kernel_rfl
@[go_sem] theorem ty_fi175_1 : tfield Try.prog 175 1 = some (1, 3, 1) := by kernel_rfl
@[go_sem] theorem ty_fi178_1 : tfield Try.prog 178 1 = some (1, 3, 1) := by kernel_rfl
@[go_sem] theorem ty_fi178_2 : tfield Try.prog 178 2 = some (2, 3, 1) := by kernel_rfl
@[go_sem] theorem ty_fi189_0 : tfield Try.prog 189 0 = some (0, 3, 1) := by kernel_rfl
@[go_sem] theorem ty_fi189_1 : tfield Try.prog 189 1 = some (1, 3, 1) := by kernel_rfl
@[go_sem] theorem ty_fi201_0 : tfield Try.prog 201 0 = some (0, 22, 1) := by kernel_rfl
@[go_sem] theorem ty_fi201_1 : tfield Try.prog 201 1 = some (1, 4, 1) := by kernel_rfl
@[go_sem] theorem ty_fi201_2 : tfield Try.prog 201 2 = some (2, 3, 1) := by kernel_rfl
@[go_sem] theorem ty_fi201_3 : tfield Try.prog 201 3 = some (3, 38, 1) := by kernel_rfl
@[go_sem] theorem ty_fi201_4 : tfield Try.prog 201 4 = some (4, 199, 1) := by kernel_rfl
@[go_sem] theorem ty_fi209_0 : tfield Try.prog 209 0 = some (0, 56, 8) := by kernel_rfl
@[go_sem] theorem ty_fi209_1 : tfield Try.prog 209 1 = some (8, 56, 8) := by kernel_rfl
@[go_sem] theorem ty_fi209_2 : tfield Try.prog 209 2 = some (16, 206, 1) := by kernel_rfl
@[go_sem] theorem ty_fi214_0 : tfield Try.prog 214 0 = some (0, 9, 1) := by kernel_rfl
@[go_sem] theorem ty_fi214_1 : tfield Try.prog 214 1 = some (1, 59, 1) := by kernel_rfl
@[go_sem] theorem ty_fi214_2 : tfield Try.prog 214 2 = some (2, 212, 1) := by kernel_rfl
@[go_sem] theorem ty_fi216_0 : tfield Try.prog 216 0 = some (0, 9, 1) := by kernel_rfl
@[go_sem] theorem ty_fi216_1 : tfield Try.prog 216 1 = some (1, 43, 1) := by kernel_rfl
@[go_sem] theorem ty_fi218_1 : tfield Try.prog 218 1 = some (1, 53, 1) := by kernel_rfl
@[go_sem] theorem ty_fi220_2 : tfield Try.prog 220 2 = some (2, 53, 1) := by kernel_rfl
@[go_sem] theorem ty_fi229_3 : tfield Try.prog 229 3 = some (3, 3, 1) := by kernel_rfl
@[go_sem] theorem ty_fi229_4 : tfield Try.prog 229 4 = some (4, 227, 1) := by kernel_rfl
@[go_sem] theorem ty_fi231_4 : tfield Try.prog 231 4 = some (4, 22, 1) := by kernel_rfl
@[go_sem] theorem ty_fi233_0 : tfield Try.prog 233 0 = some (0, 79, 7) := by kernel_rfl
@[go_sem] theorem ty_fi233_1 : tfield Try.prog 233 1 = some (7, 84, 1) := by kernel_rfl
@[go_sem] theorem ty_fi233_2 : tfield Try.prog 233 2 = some (8, 3, 1) := by kernel_rfl
@[go_sem] theorem ty_fi233_3 : tfield Try.prog 233 3 = some (9, 3, 1) := by kernel_rfl
@[go_sem] theorem ty_fi245_0 : tfield Try.prog 245 0 = some (0, 3, 1) := by kernel_rfl
@[go_sem] theorem ty_fi245_1 : tfield Try.prog 245 1 = some (1, 242, 1) := by kernel_rfl
@[go_sem] theorem ty_fi251_0 : tfield Try.prog 251 0 = some (0, 248, 1) := by kernel_rfl
@[go_sem] theorem ty_fi251_1 : tfield Try.prog 251 1 = some (1, 249, 1) := by kernel_rfl
@[go_sem] theorem ty_fi256_0 : tfield Try.prog 256 0 = some (0, 252, 1) := by kernel_rfl
@[go_sem] theorem ty_fi256_1 : tfield Try.prog 256 1 = some (1, 253, 1) := by kernel_rfl
@[go_sem] theorem ty_fi256_2 : tfield Try.prog 256 2 = some (2, 22, 1) := by kernel_rfl
@[go_sem] theorem ty_fi256_3 : tfield Try.prog 256 3 = some (3, 254, 1) := by kernel_rfl
@[go_sem] theorem ty_fi258_0 : tfield Try.prog 258 0 = some (0, 3, 1) := by kernel_rfl
@[go_sem] theorem ty_fi258_1 : tfield Try.prog 258 1 = some (1, 3, 1) := by kernel_rfl
@[go_sem] theorem ty_fi262_0 : tfield Try.prog 262 0 = some (0, 138, 1) := by kernel_rfl
@[go_sem] theorem ty_fi262_1 : tfield Try.prog 262 1 = some (1, 22, 1) := by kernel_rfl
@[go_sem] theorem ty_fi262_2 : tfield Try.prog 262 2 = some (2, 260, 1) := by kernel_rfl
@[go_sem] theorem ty_fi273_0 : tfield Try.prog 273 0 = some (0, 3, 1) := by kernel_rfl
@[go_sem] theorem ty_fi273_1 : tfield Try.prog 273 1 = some (1, 3, 1) := by kernel_rfl
@[go_sem] theorem ty_fi275_0 : tfield Try.prog 275 0 = some (0, 3, 1) := by kernel_rfl
@[go_sem] theorem ty_fi275_1 : tfield Try.prog 275 1 = some (1, 3, 1) := by kernel_rfl
@[go_sem] theorem ty_fi275_2 : tfield Try.prog 275 2 = some (2, 3, 1) := by kernel_rfl
@[go_sem] theorem ty_fi275_3 : tfield Try.prog 275 3 = some (3, 3, 1) := by kernel_rfl
@[go_sem] theorem ty_fi275_4 : tfield Try.prog 275 4 = some (4, 3, 1) := by kernel_rfl
@[go_sem] theorem ty_fi275_5 : tfield Try.prog 275 5 = some (5, 3, 1) := by kernel_rfl
@[go_sem] theorem ty_fi275_6 : tfield Try.prog 275 6 = some (6, 3, 1) := by kernel_rfl
@[go_sem] theorem ty_fi286_0 : tfield Try.prog 286 0 = some (0, 22, 1) := by kernel_rfl
@[go_sem] theorem ty_fi286_1 : tfield Try.prog 286 1 = some (1, 283, 1) := by kernel_rfl
@[go_sem] theorem ty_fi286_2 : tfield Try.prog 286 2 = some (2, 284, 1) := by kernel_rfl
@[go_sem] theorem ty_fi292_0 : tfield Try.prog 292 0 = some (0, 22, 1) := by kernel_rfl
@[go_sem] theorem ty_fi292_1 : tfield Try.prog 292 1 = some (1, 3, 1) := by kernel_rfl
@[go_sem] theorem ty_fi292_2 : tfield Try.prog 292 2 = some (2, 3, 1) := by kernel_rfl
@[go_sem] theorem ty_fi292_3 : tfield Try.prog 292 3 = some (3, 4, 1) := by kernel_rfl
@[go_sem] theorem ty_fi292_4 : tfield Try.prog 292 4 = some (4, 3, 1) := by kernel_rfl
@[go_sem] theorem ty_fi295_0 : tfield Try.prog 295 0 = some (0, 9, 1) := by kernel_rfl
@[go_sem] theorem ty_fi295_1 : tfield Try.prog 295 1 = some (1, 3, 1) := by kernel_rfl
@[go_sem] theorem ty_fi295_2 : tfield Try.prog 295 2 = some (2, 293, 1) := by kernel_rfl
@[go_sem] theorem ty_fi295_3 : tfield Try.prog 295 3 = some (3, 22, 1) := by kernel_rfl
@[go_sem] theorem ty_fi300_0 : tfield Try.prog 300 0 = some (0, 3, 1) := by kernel_rfl
@[go_sem] theorem ty_fi300_1 : tfield Try.prog 300 1 = some (1, 108, 4) := by kernel_rfl
@[go_sem] theorem ty_fi309_0 : tfield Try.prog 309 0 = some (0, 307, 1) := by kernel_rfl
@[go_sem] theorem ty_fi309_1 : tfield Try.prog 309 1 = some (1, 32, 1) := by kernel_rfl
@[go_sem] theorem ty_fi311_0 : tfield Try.prog 311 0 = some (0, 3, 1) := by kernel_rfl
@[go_sem] theorem ty_fi311_1 : tfield Try.prog 311 1 = some (1, 4, 1) := by kernel_rfl
@[go_sem] theorem ty_fi34_0 : tfield Try.prog 34 0 = some (0, 3, 1) := by kernel_rfl
@[go_sem] theorem ty_fi34_1 : tfield Try.prog 34 1 = some (1, 3, 1) := by kernel_rfl
@[go_sem] theorem ty_fi34_2 : tfield Try.prog 34 2 = some (2, 32, 1) := by kernel_rfl
@[go_sem] theorem ty_fi347_3 : tfield Try.prog 347 3 = some (3, 43, 1) := by kernel_rfl
@[go_sem] theorem ty_fi347_4 : tfield Try.prog 347 4 = some (4, 45, 3) := by kernel_rfl
@[go_sem] theorem ty_fi347_5 : tfield Try.prog 347 5 = some (7, 63, 8) := by kernel_rfl
@[go_sem] theorem ty_fi349_0 : tfield Try.prog 349 0 = some (0, 112, 4) := by kernel_rfl
@[go_sem] theorem ty_fi349_1 : tfield Try.prog 349 1 = some (4, 63, 8) := by kernel_rfl
@[go_sem] theorem ty_fi361_0 : tfield Try.prog 361 0 = some (0, 3, 1) := by kernel_rfl
@[go_sem] theorem ty_fi361_1 : tfield Try.prog 361 1 = some (1, 3, 1) := by kernel_rfl
@[go_sem] theorem ty_fi361_2 : tfield Try.prog 361 2 = some (2, 3, 1) := by kernel_rfl
@[go_sem] theorem ty_fi361_3 : tfield Try.prog 361 3 = some (3, 3, 1) := by kernel_rfl
@[go_sem] theorem ty_fi361_4 : tfield Try.prog 361 4 = some (4, 3, 1) := by kernel_rfl
@[go_sem] theorem ty_fi361_5 : tfield Try.prog 361 5 = some (5, 3, 1) := by kernel_rfl
@[go_sem] theorem ty_fi361_6 : tfield Try.prog 361 6 = some (6, 3, 1) := by kernel_rfl
@[go_sem] theorem ty_fi361_7 : tfield Try.prog 361 7 = some (7, 259, 1) := by kernel_rfl
@[go_sem] theorem ty_fi368_0 : tfield Try.prog 368 0 = some (0, 3, 1) := by kernel_rfl
@[go_sem] theorem ty_fi368_1 : tfield Try.prog 368 1 = some (1, 4, 1) := by kernel_rfl
@[go_sem] theorem ty_fi381_0 : tfield Try.prog 381 0 = some (0, 167, 3) := by kernel_rfl
@[go_sem] theorem ty_fi381_1 : tfield Try.prog 381 1 = some (3, 322, 1) := by kernel_rfl
@[go_sem] theorem ty_fi381_2 : tfield Try.prog 381 2 = some (4, 3, 1) := by kernel_rfl
@[go_sem] theorem ty_fi400_0 : tfield Try.prog 400 0 = some (0, 59, 1) := by kernel_rfl
@[go_sem] theorem ty_fi400_1 : tfield Try.prog 400 1 = some (1, 43, 1) := by kernel_rfl
@[go_sem] theorem ty_fi400_2 : tfield Try.prog 400 2 = some (2, 396, 1) := by kernel_rfl
@[go_sem] theorem ty_fi45_0 : tfield Try.prog 45 0 = some (0, 3, 1) := by kernel_rfl
@[go_sem] theorem ty_fi45_1 : tfield Try.prog 45 1 = some (1, 9, 1) := by kernel_rfl
@[go_sem] theorem ty_fi45_2 : tfield Try.prog 45 2 = some (2, 43, 1) := by kernel_rfl
@[go_sem] theorem ty_fi56_3 : tfield Try.prog 56 3 = some (3, 50, 1) := by kernel_rfl
@[go_sem] theorem ty_fi56_4 : tfield Try.prog 56 4 = some (4, 51, 1) := by kernel_rfl
@[go_sem] theorem ty_fi56_5 : tfield Try.prog 56 5 = some (5, 52, 1) := by kernel_rfl
@[go_sem] theorem ty_fi56_6 : tfield Try.prog 56 6 = some (6, 53, 1) := by kernel_rfl
@[go_sem] theorem ty_fi56_7 : tfield Try.prog 56 7 = some (7, 54, 1) := by kernel_rfl
@[go_sem] theorem ty_fi63_0 : tfield Try.prog 63 0 = some (0, 3, 1) := by kernel_rfl
@[go_sem] theorem ty_fi63_4 : tfield Try.prog 63 4 = some (4, 43, 1) := by kernel_rfl
@[go_sem] theorem ty_fi63_5 : tfield Try.prog 63 5 = some (5, 60, 1) := by kernel_rfl
@[go_sem] theorem ty_fi63_6 : tfield Try.prog 63 6 = some (6, 61, 1) := by kernel_rfl
@[go_sem] theorem ty_fi65_0 : tfield Try.prog 65 0 = some (0, 9, 1) := by kernel_rfl
@[go_sem] theorem ty_fi65_1 : tfield Try.prog 65 1 = some (1, 59, 1) := by kernel_rfl
@[go_sem] theorem ty_fi65_2 : tfield Try.prog 65 2 = some (2, 43, 1) := by kernel_rfl
@[go_sem] theorem ty_fi65_3 : tfield Try.prog 65 3 = some (3, 45, 3) := by kernel_rfl
@[go_sem] theorem ty_fi65_4 : tfield Try.prog 65 4 = some (6, 63, 8) := by kernel_rfl
@[go_sem] theorem ty_fi79_0 : tfield Try.prog 79 0 = some (0, 59, 1) := by kernel_rfl
@[go_sem] theorem ty_fi79_1 : tfield Try.prog 79 1 = some (1, 22, 1) := by kernel_rfl
@[go_sem] theorem ty_fi79_2 : tfield Try.prog 79 2 = some (2, 73, 1) := by kernel_rfl
@[go_sem] theorem ty_fi79_3 : tfield Try.prog 79 3 = some (3, 74, 1) := by kernel_rfl
@[go_sem] theorem ty_fi79_4 : tfield Try.prog 79 4 = some (4, 75, 1) := by kernel_rfl
@[go_sem] theorem ty_fi79_5 : tfield Try.prog 79 5 = some (5, 76, 1) := by kernel_rfl
@[go_sem] theorem ty_fi79_6 : tfield Try.prog 79 6 = some (6, 77, 1) := by kernel_rfl
@[go_sem] theorem ty_fi86_0 : tfield Try.prog 86 0 = some (0, 3, 1) := by kernel_rfl
@[go_sem] theorem ty_fi86_1 : tfield Try.prog 86 1 = some (1, 3, 1) := by kernel_rfl
@[go_sem] theorem ty_fi86_3 : tfield Try.prog 86 3 = some (3, 3, 1) := by kernel_rfl
@[go_sem] theorem ty_fi86_4 : tfield Try.prog 86 4 = some (4, 4, 1) := by kernel_rfl
@[go_sem] theorem ty_fi94_0 : tfield Try.prog 94 0 = some (0, 9, 1) := by kernel_rfl
@[go_sem] theorem ty_fi94_1 : tfield Try.prog 94 1 = some (1, 3, 1) := by kernel_rfl
@[go_sem] theorem ty_fi98_0 : tfield Try.prog 98 0 = some (0, 9, 1) := by kernel_rfl
@[go_sem] theorem ty_fi98_1 : tfield Try.prog 98 1 = some (1, 9, 1) := by kernel_rfl
@[go_sem] theorem ty_fi98_2 : tfield Try.prog 98 2 = some (2, 3, 1) := by kernel_rfl
@[go_sem] theorem ty_fs140 : flatS Try.prog 140 = some [(0, 3), (1, 3)] := by kernel_rfl
@[go_sem] theorem ty_fs178 : flatS Try.prog 178 = some [(0, 9), (1, 3), (2, 3)] := by kernel_rfl
@[go_sem] theorem ty_fs87 : flatS Try.prog 87 = some [(0, 3), (1, 3)] := by kernel_rfl
@[go_sem] theorem ty_fs94 : flatS Try.prog 94 = some [(0, 9), (1, 3)] := by kernel_rfl
@[go_sem] theorem ty_in3 : intKindOf Try.prog 3 = some .i64 := by kernel_rfl
@[go_sem] theorem ty_in403 : intKindOf Try.prog 403 = some .u32 := by kernel_rfl
@[go_sem] theorem ty_in406 : intKindOf Try.prog 406 = some .u64 := by kernel_rfl
@[go_sem] theorem ty_in426 : intKindOf Try.prog 426 = some .u64 := by kernel_rfl
@[go_sem] theorem ty_in5 : intKindOf Try.prog 5 = some .u8 := by kernel_rfl
@[go_sem] theorem ty_in88 : intKindOf Try.prog 88 = some .u64 := by kernel_rfl
@[go_sem] theorem ty_ki105 : kindIs Try.prog 105 isSliceT = true := by kernel_rfl
@[go_sem] theorem ty_ki106 : kindIs Try.prog 106 isSliceT = true := by kernel_rfl
@[go_sem] theorem ty_ki125 : kindIs Try.prog 125 isSliceT = true := by kernel_rfl
@[go_sem] theorem ty_ki130 : kindIs Try.prog 130 isSliceT = true := by kernel_rfl
@[go_sem] theorem ty_ki131 : kindIs Try.prog 131 isSliceT = true := by kernel_rfl
@[go_sem] theorem ty_ki138 : kindIs Try.prog 138 isSliceT = true := by kernel_rfl
@[go_sem] theorem ty_ki144 : kindIs Try.prog 144 isSliceT = true := by kernel_rfl
@[go_sem] theorem ty_ki145 : kindIs Try.prog 145 isSliceT = true := by kernel_rfl
@[go_sem] theorem ty_ki156 : kindIs Try.prog 156 isSliceT = true := by kernel_rfl
@[go_sem] theorem ty_ki163 : kindIs Try.prog 163 isSliceT = true := by kernel_rfl
@[go_sem] theorem ty_ki170 : kindIs Try.prog 170 isSliceT = true := by kernel_rfl
@[go_sem] theorem ty_ki171 : kindIs Try.prog 171 isSliceT = true := by kernel_rfl
@[go_sem] theorem ty_ki180 : kindIs Try.prog 180 isSliceT = true := by kernel_rfl
@[go_sem] theorem ty_ki183 : kindIs Try.prog 183 isSliceT = true := by kernel_rfl
@[go_sem] theorem ty_ki199 : kindIs Try.prog 199 isSliceT = true := by kernel_rfl
@[go_sem] theorem ty_ki206 : kindIs Try.prog 206 isMapT = true := by kernel_rfl
@[go_sem] theorem ty_ki212 : kindIs Try.prog 212 isSliceT = true := by kernel_rfl
@[go_sem] theorem ty_ki22 : kindIs Try.prog 22 isSliceT = true := by kernel_rfl
@[go_sem] theorem ty_ki227 : kindIs Try.prog 227 isSliceT = true := by kernel_rfl
@[go_sem] theorem ty_ki23 : kindIs Try.prog 23 isSliceT = true := by kernel_rfl
@[go_sem] theorem ty_ki24 : kindIs Try.prog 24 isPtrT = true := by kernel_rfl
@[go_sem] theorem ty_ki241 : kindIs Try.prog 241 isSliceT = true := by kernel_rfl
@[go_sem] theorem ty_ki242 : kindIs Try.prog 242 isSliceT = true := by kernel_rfl
@[go_sem] theorem ty_ki248 : kindIs Try.prog 248 isSliceT = true := by kernel_rfl
@[go_sem] theorem ty_ki249 : kindIs Try.prog 249 isMapT = true := by kernel_rfl
@[go_sem] theorem ty_ki252 : kindIs Try.prog 252 isSliceT = true := by kernel_rfl
@[go_sem] theorem ty_ki253 : kindIs Try.prog 253 isSliceT = true := by kernel_rfl
@[go_sem] theorem ty_ki254 : kindIs Try.prog 254 isSliceT = true := by kernel_rfl
@[go_sem] theorem ty_ki259 : kindIs Try.prog 259 isPtrT = true := by kernel_rfl
@[go_sem] theorem ty_ki260 : kindIs Try.prog 260 isMapT = true := by kernel_rfl
@[go_sem] theorem ty_ki266 : kindIs Try.prog 266 isSliceT = true := by kernel_rfl
@[go_sem] theorem ty_ki267 : kindIs Try.prog 267 isSliceT = true := by kernel_rfl
@[go_sem] theorem ty_ki268 : kindIs Try.prog 268 isSliceT = true := by kernel_rfl
@[go_sem] theorem ty_ki269 : kindIs Try.prog 269 isMapT = true := by kernel_rfl
@[go_sem] theorem ty_ki270 : kindIs Try.prog 270 isMapT = true := by kernel_rfl
@[go_sem] theorem ty_ki271 : kindIs Try.prog 271 isSliceT = true := by kernel_rfl
@[go_sem] theorem ty_ki276 : kindIs Try.prog 276 isSliceT = true := by kernel_rfl
@[go_sem] theorem ty_ki283 : kindIs Try.prog 283 isMapT = true := by kernel_rfl
@[go_sem] theorem ty_ki284 : kindIs Try.prog 284 isSliceT = true := by kernel_rfl
@[go_sem] theorem ty_ki289 : kindIs Try.prog 289 isMapT = true := by kernel_rfl
@[go_sem] theorem ty_ki293 : kindIs Try.prog 293 isSliceT = true := by kernel_rfl
@[go_sem] theorem ty_ki30 : kindIs Try.prog 30 isMapT = true := by kernel_rfl
@[go_sem] theorem ty_ki307 : kindIs Try.prog 307 isPtrT = true := by kernel_rfl
@[go_sem] theorem ty_ki31 : kindIs Try.prog 31 isMapT = true := by kernel_rfl
@[go_sem] theorem ty_ki312 : kindIs Try.prog 312 isSliceT = true := by kernel_rfl
@[go_sem] theorem ty_ki32 : kindIs Try.prog 32 isSliceT = true := by kernel_rfl
@[go_sem] theorem ty_ki322 : kindIs Try.prog 322 isSliceT = true := by kernel_rfl
@[go_sem] theorem ty_ki329 : kindIs Try.prog 329 isMapT = true := by kernel_rfl
@[go_sem] theorem ty_ki366 : kindIs Try.prog 366 isSliceT = true := by kernel_rfl
@[go_sem] theorem ty_ki38 : kindIs Try.prog 38 isSliceT = true := by kernel_rfl
@[go_sem] theorem ty_ki387 : kindIs Try.prog 387 isSliceT = true := by kernel_rfl
@[go_sem] theorem ty_ki396 : kindIs Try.prog 396 isPtrT = true := by kernel_rfl
@[go_sem] theorem ty_ki4 : kindIs Try.prog 4 isBoolT = true := by kernel_rfl
@[go_sem] theorem ty_ki43 : kindIs Try.prog 43 isSliceT = true := by kernel_rfl
@[go_sem] theorem ty_ki50 : kindIs Try.prog 50 isSliceT = true := by kernel_rfl
@[go_sem] theorem ty_ki51 : kindIs Try.prog 51 isSliceT = true := by kernel_rfl
@[go_sem] theorem ty_ki52 : kindIs Try.prog 52 isSliceT = true := by kernel_rfl
@[go_sem] theorem ty_ki53 : kindIs Try.prog 53 isSliceT = true := by kernel_rfl
@[go_sem] theorem ty_ki54 : kindIs Try.prog 54 isSliceT = true := by kernel_rfl
@[go_sem] theorem ty_ki59 : kindIs Try.prog 59 isSliceT = true := by kernel_rfl
@[go_sem] theorem ty_ki60 : kindIs Try.prog 60 isSliceT = true := by kernel_rfl
@[go_sem] theorem ty_ki61 : kindIs Try.prog 61 isSliceT = true := by kernel_rfl
@[go_sem] theorem ty_ki73 : kindIs Try.prog 73 isSliceT = true := by kernel_rfl
@[go_sem] theorem ty_ki74 : kindIs Try.prog 74 isSliceT = true := by kernel_rfl
@[go_sem] theorem ty_ki75 : kindIs Try.prog 75 isSliceT = true := by kernel_rfl
@[go_sem] theorem ty_ki76 : kindIs Try.prog 76 isSliceT = true := by kernel_rfl
@[go_sem] theorem ty_ki77 : kindIs Try.prog 77 isSliceT = true := by kernel_rfl
@[go_sem] theorem ty_ki80 : kindIs Try.prog 80 isSliceT = true := by kernel_rfl
@[go_sem] theorem ty_ki84 : kindIs Try.prog 84 isMapT = true := by kernel_rfl
@[go_sem] theorem ty_ki92 : kindIs Try.prog 92 isSliceT = true := by kernel_rfl
@[go_sem] theorem ty_kn3 : kindN Try.prog 3 = some 1 := by kernel_rfl
@[go_sem] theorem ty_kn9 : kindN Try.prog 9 = some 2 := by kernel_rfl
@[go_sem] theorem ty_mp206 : tmap Try.prog 206 = some (9, (.bool false)) := by kernel_rfl
@[go_sem] theorem ty_mp249 : tmap Try.prog 249 = some (87, (.sl [] true .full)) := by kernel_rfl
@[go_sem] theorem ty_mp260 : tmap Try.prog 260 = some (87, (.int .i64 0)) := by kernel_rfl
@[go_sem] theorem ty_mp269 : tmap Try.prog 269 = some (87, (.sl [] true .full)) := by kernel_rfl
@[go_sem] theorem ty_mp270 : tmap Try.prog 270 = some (3, (.int .i64 0)) := by kernel_rfl
@[go_sem] theorem ty_mp283 : tmap Try.prog 283 = some (87, (.sl [] true .full)) := by kernel_rfl
@[go_sem] theorem ty_mp289 : tmap Try.prog 289 = some (87, .nilp) := by kernel_rfl
@[go_sem] theorem ty_mp30 : tmap Try.prog 30 = some (3, (.bool false)) := by kernel_rfl
@[go_sem] theorem ty_mp31 : tmap Try.prog 31 = some (3, (.sl [] true .full)) := by kernel_rfl
@[go_sem] theorem ty_mp329 : tmap Try.prog 329 = some (9, (.int .i64 0)) := by kernel_rfl
@[go_sem] theorem ty_mp84 : tmap Try.prog 84 = some (87, (.sl [] true .full)) := by kernel_rfl
@[go_sem] theorem ty_ni9 : kindIs Try.prog 9 (fun d => !isIfaceT d) = true := by kernel_rfl
@[go_sem] theorem ty_pl108 : tplaces Try.prog 108 = some [(0, 1), (1, 1), (2, 1), (3, 1)] := by kernel_rfl
@[go_sem] theorem ty_pl112 : tplaces Try.prog 112 = some [(0, 1), (1, 1), (2, 1), (3, 1)] := by kernel_rfl
@[go_sem] theorem ty_pl124 : tplaces Try.prog 124 = some [(0, 1), (1, 4)] := by kernel_rfl
@[go_sem] theorem ty_pl127 : tplaces Try.prog 127 = some [(0, 1), (1, 1), (2, 5), (7, 1), (8, 1)] := by kernel_rfl
@[go_sem] theorem ty_pl133 : tplaces Try.prog 133 = some [(0, 1), (1, 1), (2, 1), (3, 1)] := by kernel_rfl
@[go_sem] theorem ty_pl137 : tplaces Try.prog 137 = some [(0, 1), (1, 1), (2, 1), (3, 1), (4, 1)] := by kernel_rfl
@[go_sem] theorem ty_pl140 : tplaces Try.prog 140 = some [(0, 1), (1, 1)] := by kernel_rfl
@[go_sem] theorem ty_pl147 : tplaces Try.prog 147 = some [(0, 1), (1, 1), (2, 1), (3, 1), (4, 1)] := by kernel_rfl
@[go_sem] theorem ty_pl151 : tplaces Try.prog 151 = some [(0, 1), (1, 1), (2, 1), (3, 1)] := by kernel_rfl
@[go_sem] theorem ty_pl158 : tplaces Try.prog 158 = some [(0, 1)] := by kernel_rfl
@[go_sem] theorem ty_pl167 : tplaces Try.prog 167 = some [(0, 1), (1, 1), (2, 1)] := by kernel_rfl
@[go_sem] theorem ty_pl175 : tplaces Try.prog 175 = some [(0, 1), (1, 1)] := by kernel_rfl
@[go_sem] theorem ty_pl178 : tplaces Try.prog 178 = some [(0, 1), (1, 1), (2, 1)] := by kernel_rfl
@[go_sem] theorem ty_pl189 : tplaces Try.prog 189 = some [(0, 1), (1, 1)] := by kernel_rfl
@[go_sem] theorem ty_pl201 : tplaces Try.prog 201 = some [(0, 1), (1, 1), (2, 1), (3, 1), (4, 1)] := by kernel_rfl
@[go_sem] theorem ty_pl209 : tplaces Try.prog 209 = some [(0, 8), (8, 8), (16, 1)] := by kernel_rfl
@[go_sem] theorem ty_pl214 : tplaces Try.prog 214 = some [(0, 1), (1, 1), (2, 1)] := by kernel_rfl
@[go_sem] theorem ty_pl233 : tplaces Try.prog 233 = some [(0, 7), (7, 1), (8, 1), (9, 1)] := by kernel_rfl
@[go_sem] theorem ty_pl245 : tplaces Try.prog 245 = some [(0, 1), (1, 1)] := by kernel_rfl
@[go_sem] theorem ty_pl251 : tplaces Try.prog 251 = some [(0, 1), (1, 1)] := by kernel_rfl
@[go_sem] theorem ty_pl256 : tplaces Try.prog 256 = some [(0, 1), (1, 1), (2, 1), (3, 1)] := by kernel_rfl
@[go_sem] theorem ty_pl258 : tplaces Try.prog 258 = some [(0, 1), (1, 1)] := by kernel_rfl
@[go_sem] theorem ty_pl262 : tplaces Try.prog 262 = some [(0, 1), (1, 1), (2, 1)] := by kernel_rfl
@[go_sem] theorem ty_pl273 : tplaces Try.prog 273 = some [(0, 1), (1, 1)] := by kernel_rfl
@[go_sem] theorem ty_pl275 : tplaces Try.prog 275 = some [(0, 1), (1, 1), (2, 1), (3, 1), (4, 1), (5, 1), (6, 1)] := by kernel_rfl
@[go_sem] theorem ty_pl286 : tplaces Try.prog 286 = some [(0, 1), (1, 1), (2, 1)] := by kernel_rfl
@[go_sem] theorem ty_pl292 : tplaces Try.prog 292 = some [(0, 1), (1, 1), (2, 1), (3, 1), (4, 1)] := by kernel_rfl
@[go_sem] theorem ty_pl295 : tplaces Try.prog 295 = some [(0, 1), (1, 1), (2, 1), (3, 1)] := by kernel_rfl
@[go_sem] theorem ty_pl300 : tplaces Try.prog 300 = some [(0, 1), (1, 4)] := by kernel_rfl
@[go_sem] theorem ty_pl311 : tplaces Try.prog 311 = some [(0, 1), (1, 1)] := by kernel_rfl
@[go_sem] theorem ty_pl327 : tplaces Try.prog 327 = some [(0, 1), (1, 1)] := by kernel_rfl
@[go_sem] theorem ty_pl340 : tplaces Try.prog 340 = some [(0, 1), (1, 1)] := by kernel_rfl
@[go_sem] theorem ty_pl361 : tplaces Try.prog 361 = some [(0, 1), (1, 1), (2, 1), (3, 1), (4, 1), (5, 1), (6, 1), (7, 1)] := by kernel_rfl
@[go_sem] theorem ty_pl368 : tplaces Try.prog 368 = some [(0, 1), (1, 1)] := by kernel_rfl
@[go_sem] theorem ty_pl381 : tplaces Try.prog 381 = some [(0, 3), (3, 1), (4, 1)] := by kernel_rfl
@[go_sem] theorem ty_pl400 : tplaces Try.prog 400 = some [(0, 1), (1, 1), (2, 1)] := by kernel_rfl
@[go_sem] theorem ty_pl45 : tplaces Try.prog 45 = some [(0, 1), (1, 1), (2, 1)] := by kernel_rfl
@[go_sem] theorem ty_pl56 : tplaces Try.prog 56 = some [(0, 1), (1, 1), (2, 1), (3, 1), (4, 1), (5, 1), (6, 1), (7, 1)] := by kernel_rfl
@[go_sem] theorem ty_pl65 : tplaces Try.prog 65 = some [(0, 1), (1, 1), (2, 1), (3, 3), (6, 8)] := by kernel_rfl
@[go_sem] theorem ty_pl87 : tplaces Try.prog 87 = some [(0, 1), (1, 1)] := by kernel_rfl
@[go_sem] theorem ty_pl94 : tplaces Try.prog 94 = some [(0, 1), (1, 1)] := by kernel_rfl
@[go_sem] theorem ty_sl105 : tslice Try.prog 105 = some (112, 4) := by kernel_rfl
@[go_sem] theorem ty_sl106 : tslice Try.prog 106 = some (108, 4) := by kernel_rfl
@[go_sem] theorem ty_sl125 : tslice Try.prog 125 = some (127, 9) := by kernel_rfl
@[go_sem] theorem ty_sl130 : tslice Try.prog 130 = some (137, 5) := by kernel_rfl
@[go_sem] theorem ty_sl131 : tslice Try.prog 131 = some (138, 1) := by kernel_rfl
@[go_sem] theorem ty_sl138 : tslice Try.prog 138 = some (140, 2) := by kernel_rfl
@[go_sem] theorem ty_sl144 : tslice Try.prog 144 = some (151, 4) := by kernel_rfl
@[go_sem] theorem ty_sl145 : tslice Try.prog 145 = some (38, 1) := by kernel_rfl
@[go_sem] theorem ty_sl156 : tslice Try.prog 156 = some (295, 4) := by kernel_rfl
@[go_sem] theorem ty_sl163 : tslice Try.prog 163 = some (167, 3) := by kernel_rfl
@[go_sem] theorem ty_sl170 : tslice Try.prog 170 = some (175, 2) := by kernel_rfl
@[go_sem] theorem ty_sl171 : tslice Try.prog 171 = some (178, 3) := by kernel_rfl
@[go_sem] theorem ty_sl180 : tslice Try.prog 180 = some (189, 2) := by kernel_rfl
@[go_sem] theorem ty_sl183 : tslice Try.prog 183 = some (87, 2) := by kernel_rfl
@[go_sem] theorem ty_sl199 : tslice Try.prog 199 = some (4, 1) := by kernel_rfl
@[go_sem] theorem ty_sl212 : tslice Try.prog 212 = some (216, 2) := by kernel_rfl
@[go_sem] theorem ty_sl22 : tslice Try.prog 22 = some (3, 1) := by kernel_rfl
@[go_sem] theorem ty_sl227 : tslice Try.prog 227 = some (231, 5) := by kernel_rfl
@[go_sem] theorem ty_sl23 : tslice Try.prog 23 = some (34, 4) := by kernel_rfl
@[go_sem] theorem ty_sl241 : tslice Try.prog 241 = some (245, 2) := by kernel_rfl
@[go_sem] theorem ty_sl242 : tslice Try.prog 242 = some (124, 5) := by kernel_rfl
@[go_sem] theorem ty_sl248 : tslice Try.prog 248 = some (256, 4) := by kernel_rfl
@[go_sem] theorem ty_sl252 : tslice Try.prog 252 = some (259, 1) := by kernel_rfl
@[go_sem] theorem ty_sl253 : tslice Try.prog 253 = some (258, 2) := by kernel_rfl
@[go_sem] theorem ty_sl254 : tslice Try.prog 254 = some (361, 8) := by kernel_rfl
@[go_sem] theorem ty_sl265 : tslice Try.prog 265 = some (270, 1) := by kernel_rfl
@[go_sem] theorem ty_sl266 : tslice Try.prog 266 = some (260, 1) := by kernel_rfl
@[go_sem] theorem ty_sl267 : tslice Try.prog 267 = some (271, 1) := by kernel_rfl
@[go_sem] theorem ty_sl268 : tslice Try.prog 268 = some (276, 1) := by kernel_rfl
@[go_sem] theorem ty_sl271 : tslice Try.prog 271 = some (273, 2) := by kernel_rfl
@[go_sem] theorem ty_sl276 : tslice Try.prog 276 = some (275, 7) := by kernel_rfl
@[go_sem] theorem ty_sl284 : tslice Try.prog 284 = some (24, 1) := by kernel_rfl
@[go_sem] theorem ty_sl293 : tslice Try.prog 293 = some (300, 5) := by kernel_rfl
@[go_sem] theorem ty_sl312 : tslice Try.prog 312 = some (311, 2) := by kernel_rfl
@[go_sem] theorem ty_sl32 : tslice Try.prog 32 = some (5, 1) := by kernel_rfl
@[go_sem] theorem ty_sl322 : tslice Try.prog 322 = some (379, 1) := by kernel_rfl
@[go_sem] theorem ty_sl366 : tslice Try.prog 366 = some (368, 2) := by kernel_rfl
@[go_sem] theorem ty_sl38 : tslice Try.prog 38 = some (22, 1) := by kernel_rfl
@[go_sem] theorem ty_sl387 : tslice Try.prog 387 = some (180, 1) := by kernel_rfl
@[go_sem] theorem ty_sl43 : tslice Try.prog 43 = some (45, 3) := by kernel_rfl
@[go_sem] theorem ty_sl50 : tslice Try.prog 50 = some (214, 3) := by kernel_rfl
@[go_sem] theorem ty_sl51 : tslice Try.prog 51 = some (218, 2) := by kernel_rfl
@[go_sem] theorem ty_sl52 : tslice Try.prog 52 = some (220, 3) := by kernel_rfl
@[go_sem] theorem ty_sl53 : tslice Try.prog 53 = some (347, 15) := by kernel_rfl
@[go_sem] theorem ty_sl54 : tslice Try.prog 54 = some (65, 14) := by kernel_rfl
@[go_sem] theorem ty_sl59 : tslice Try.prog 59 = some (9, 1) := by kernel_rfl
@[go_sem] theorem ty_sl60 : tslice Try.prog 60 = some (63, 8) := by kernel_rfl
@[go_sem] theorem ty_sl61 : tslice Try.prog 61 = some (349, 12) := by kernel_rfl
@[go_sem] theorem ty_sl73 : tslice Try.prog 73 = some (229, 5) := by kernel_rfl
@[go_sem] theorem ty_sl75 : tslice Try.prog 75 = some (98, 3) := by kernel_rfl
@[go_sem] theorem ty_sl77 : tslice Try.prog 77 = some (105, 1) := by kernel_rfl
@[go_sem] theorem ty_sl80 : tslice Try.prog 80 = some (86, 5) := by kernel_rfl
@[go_sem] theorem ty_sl92 : tslice Try.prog 92 = some (94, 2) := by kernel_rfl
@[go_sem] theorem ty_st105 : isStr Try.prog 105 = false := by kernel_rfl
@[go_sem] theorem ty_st106 : isStr Try.prog 106 = false := by kernel_rfl
@[go_sem] theorem ty_st125 : isStr Try.prog 125 = false := by kernel_rfl
@[go_sem] theorem ty_st130 : isStr Try.prog 130 = false := by kernel_rfl
@[go_sem] theorem ty_st131 : isStr Try.prog 131 = false := by kernel_rfl
@[go_sem] theorem ty_st138 : isStr Try.prog 138 = false := by kernel_rfl
@[go_sem] theorem ty_st144 : isStr Try.prog 144 = false := by kernel_rfl
@[go_sem] theorem ty_st145 : isStr Try.prog 145 = false := by kernel_rfl
@[go_sem] theorem ty_st156 : isStr Try.prog 156 = false := by kernel_rfl
@[go_sem] theorem ty_st163 : isStr Try.prog 163 = false := by kernel_rfl
@[go_sem] theorem ty_st170 : isStr Try.prog 170 = false := by kernel_rfl
@[go_sem] theorem ty_st171 : isStr Try.prog 171 = false := by kernel_rfl
@[go_sem] theorem ty_st180 : isStr Try.prog 180 = false := by kernel_rfl
@[go_sem] theorem ty_st183 : isStr Try.prog 183 = false := by kernel_rfl
@[go_sem] theorem ty_st199 : isStr Try.prog 199 = false := by kernel_rfl
@[go_sem] theorem ty_st212 : isStr Try.prog 212 = false := by kernel_rfl
@[go_sem] theorem ty_st22 : isStr Try.prog 22 = false := by kernel_rfl
@[go_sem] theorem ty_st227 : isStr Try.prog 227 = false := by kernel_rfl
@[go_sem] theorem ty_st23 : isStr Try.prog 23 = false := by kernel_rfl
@[go_sem] theorem ty_st241 : isStr Try.prog 241 = false := by kernel_rfl
@[go_sem] theorem ty_st242 : isStr Try.prog 242 = false := by kernel_rfl
@[go_sem] theorem ty_st248 : isStr Try.prog 248 = false := by kernel_rfl
@[go_sem] theorem ty_st252 : isStr Try.prog 252 = false := by kernel_rfl
@[go_sem] theorem ty_st253 : isStr Try.prog 253 = false := by kernel_rfl
@[go_sem] theorem ty_st254 : isStr Try.prog 254 = false := by kernel_rfl
@[go_sem] theorem ty_st260 : isStr Try.prog 260 = false := by kernel_rfl
@[go_sem] theorem ty_st266 : isStr Try.prog 266 = false := by kernel_rfl
@[go_sem] theorem ty_st267 : isStr Try.prog 267 = false := by kernel_rfl
@[go_sem] theorem ty_st268 : isStr Try.prog 268 = false := by kernel_rfl
@[go_sem] theorem ty_st271 : isStr Try.prog 271 = false := by kernel_rfl
@[go_sem] theorem ty_st276 : isStr Try.prog 276 = false := by kernel_rfl
@[go_sem] theorem ty_st284 : isStr Try.prog 284 = false := by kernel_rfl
@[go_sem] theorem ty_st293 : isStr Try.prog 293 = false := by kernel_rfl
@[go_sem] theorem ty_st3 : isStr Try.prog 3 = false := by kernel_rfl
@[go_sem] theorem ty_st30 : isStr Try.prog 30 = false := by kernel_rfl
@[go_sem] theorem ty_st307 : isStr Try.prog 307 = false := by kernel_rfl
@[go_sem] theorem ty_st312 : isStr Try.prog 312 = false := by kernel_rfl
@[go_sem] theorem ty_st32 : isStr Try.prog 32 = false := by kernel_rfl
@[go_sem] theorem ty_st322 : isStr Try.prog 322 = false := by kernel_rfl
@[go_sem] theorem ty_st327 : isStr Try.prog 327 = false := by kernel_rfl
@[go_sem] theorem ty_st340 : isStr Try.prog 340 = false := by kernel_rfl
@[go_sem] theorem ty_st366 : isStr Try.prog 366 = false := by kernel_rfl
@[go_sem] theorem ty_st38 : isStr Try.prog 38 = false := by kernel_rfl
@[go_sem] theorem ty_st387 : isStr Try.prog 387 = false := by kernel_rfl
@[go_sem] theorem ty_st401 : isStr Try.prog 401 = false := by kernel_rfl
@[go_sem] theorem ty_st403 : isStr Try.prog 403 = false := by kernel_rfl
@[go_sem] theorem ty_st406 : isStr Try.prog 406 = false := by kernel_rfl
@[go_sem] theorem ty_st426 : isStr Try.prog 426 = false := by kernel_rfl
@[go_sem] theorem ty_st43 : isStr Try.prog 43 = false := by kernel_rfl
@[go_sem] theorem ty_st5 : isStr Try.prog 5 = false := by kernel_rfl
@[go_sem] theorem ty_st50 : isStr Try.prog 50 = false := by kernel_rfl
@[go_sem] theorem ty_st51 : isStr Try.prog 51 = false := by kernel_rfl
@[go_sem] theorem ty_st52 : isStr Try.prog 52 = false := by kernel_rfl
@[go_sem] theorem ty_st53 : isStr Try.prog 53 = false := by kernel_rfl
@[go_sem] theorem ty_st54 : isStr Try.prog 54 = false := by kernel_rfl
@[go_sem] theorem ty_st59 : isStr Try.prog 59 = false := by kernel_rfl
@[go_sem] theorem ty_st60 : isStr Try.prog 60 = false := by kernel_rfl
@[go_sem] theorem ty_st61 : isStr Try.prog 61 = false := by kernel_rfl
@[go_sem] theorem ty_st73 : isStr Try.prog 73 = false := by kernel_rfl
@[go_sem] theorem ty_st74 : isStr Try.prog 74 = false := by kernel_rfl
@[go_sem] theorem ty_st75 : isStr Try.prog 75 = false := by kernel_rfl
@[go_sem] theorem ty_st76 : isStr Try.prog 76 = false := by kernel_rfl
@[go_sem] theorem ty_st77 : isStr Try.prog 77 = false := by kernel_rfl
@[go_sem] theorem ty_st80 : isStr Try.prog 80 = false := by kernel_rfl
@[go_sem] theorem ty_st87 : isStr Try.prog 87 = false := by kernel_rfl
@[go_sem] theorem ty_st88 : isStr Try.prog 88 = false := by kernel_rfl
@[go_sem] theorem ty_st9 : isStr Try.prog 9 = true := by kernel_rfl
@[go_sem] theorem ty_st92 : isStr Try.prog 92 = false := by kernel_rfl
@[go_sem] theorem ty_sz105 : tsz Try.prog 105 = some 1 := by kernel_rfl
@[go_sem] theorem ty_sz106 : tsz Try.prog 106 = some 1 := by kernel_rfl
@[go_sem] theorem ty_sz108 : tsz Try.prog 108 = some 4 := by kernel_rfl
@[go_sem] theorem ty_sz112 : tsz Try.prog 112 = some 4 := by kernel_rfl
@[go_sem] theorem ty_sz124 : tsz Try.prog 124 = some 5 := by kernel_rfl
@[go_sem] theorem ty_sz125 : tsz Try.prog 125 = some 1 := by kernel_rfl
@[go_sem] theorem ty_sz127 : tsz Try.prog 127 = some 9 := by kernel_rfl
@[go_sem] theorem ty_sz131 : tsz Try.prog 131 = some 1 := by kernel_rfl
@[go_sem] theorem ty_sz133 : tsz Try.prog 133 = some 4 := by kernel_rfl
@[go_sem] theorem ty_sz137 : tsz Try.prog 137 = some 5 := by kernel_rfl
@[go_sem] theorem ty_sz138 : tsz Try.prog 138 = some 1 := by kernel_rfl
@[go_sem] theorem ty_sz140 : tsz Try.prog 140 = some 2 := by kernel_rfl
@[go_sem] theorem ty_sz145 : tsz Try.prog 145 = some 1 := by kernel_rfl
@[go_sem] theorem ty_sz147 : tsz Try.prog 147 = some 5 := by kernel_rfl
@[go_sem] theorem ty_sz151 : tsz Try.prog 151 = some 4 := by kernel_rfl
@[go_sem] theorem ty_sz156 : tsz Try.prog 156 = some 1 := by kernel_rfl
@[go_sem] theorem ty_sz158 : tsz Try.prog 158 = some 1 := by kernel_rfl
@[go_sem] theorem ty_sz167 : tsz Try.prog 167 = some 3 := by kernel_rfl
@[go_sem] theorem ty_sz175 : tsz Try.prog 175 = some 2 := by kernel_rfl
@[go_sem] theorem ty_sz178 : tsz Try.prog 178 = some 3 := by kernel_rfl
@[go_sem] theorem ty_sz180 : tsz Try.prog 180 = some 1 := by kernel_rfl
@[go_sem] theorem ty_sz189 : tsz Try.prog 189 = some 2 := by kernel_rfl
@[go_sem] theorem ty_sz199 : tsz Try.prog 199 = some 1 := by kernel_rfl
@[go_sem] theorem ty_sz201 : tsz Try.prog 201 = some 5 := by kernel_rfl
@[go_sem] theorem ty_sz206 : tsz Try.prog 206 = some 1 := by kernel_rfl
@[go_sem] theorem ty_sz207 : tsz Try.prog 207 = some 1 := by kernel_rfl
@[go_sem] theorem ty_sz209 : tsz Try.prog 209 = some 17 := by kernel_rfl
@[go_sem] theorem ty_sz212 : tsz Try.prog 212 = some 1 := by kernel_rfl
@[go_sem] theorem ty_sz214 : tsz Try.prog 214 = some 3 := by kernel_rfl
@[go_sem] theorem ty_sz216 : tsz Try.prog 216 = some 2 := by kernel_rfl
@[go_sem] theorem ty_sz218 : tsz Try.prog 218 = some 2 := by kernel_rfl
@[go_sem] theorem ty_sz22 : tsz Try.prog 22 = some 1 := by kernel_rfl
@[go_sem] theorem ty_sz220 : tsz Try.prog 220 = some 3 := by kernel_rfl
@[go_sem] theorem ty_sz227 : tsz Try.prog 227 = some 1 := by kernel_rfl
@[go_sem] theorem ty_sz229 : tsz Try.prog 229 = some 5 := by kernel_rfl
@[go_sem] theorem ty_sz231 : tsz Try.prog 231 = some 5 := by kernel_rfl
@[go_sem] theorem ty_sz233 : tsz Try.prog 233 = some 10 := by kernel_rfl
@[go_sem] theorem ty_sz24 : tsz Try.prog 24 = some 1 := by kernel_rfl
@[go_sem] theorem ty_sz242 : tsz Try.prog 242 = some 1 := by kernel_rfl
@[go_sem] theorem ty_sz245 : tsz Try.prog 245 = some 2 := by kernel_rfl
@[go_sem] theorem ty_sz247 : tsz Try.prog 247 = some 1 := by kernel_rfl
@[go_sem] theorem ty_sz248 : tsz Try.prog 248 = some 1 := by kernel_rfl
@[go_sem] theorem ty_sz249 : tsz Try.prog 249 = some 1 := by kernel_rfl
@[go_sem] theorem ty_sz251 : tsz Try.prog 251 = some 2 := by kernel_rfl
@[go_sem] theorem ty_sz252 : tsz Try.prog 252 = some 1 := by kernel_rfl
@[go_sem] theorem ty_sz253 : tsz Try.prog 253 = some 1 := by kernel_rfl
@[go_sem] theorem ty_sz254 : tsz Try.prog 254 = some 1 := by kernel_rfl
@[go_sem] theorem ty_sz256 : tsz Try.prog 256 = some 4 := by kernel_rfl
@[go_sem] theorem ty_sz258 : tsz Try.prog 258 = some 2 := by kernel_rfl
@[go_sem] theorem ty_sz259 : tsz Try.prog 259 = some 1 := by kernel_rfl
@[go_sem] theorem ty_sz260 : tsz Try.prog 260 = some 1 := by kernel_rfl
@[go_sem] theorem ty_sz262 : tsz Try.prog 262 = some 3 := by kernel_rfl
@[go_sem] theorem ty_sz265 : tsz Try.prog 265 = some 1 := by kernel_rfl
@[go_sem] theorem ty_sz266 : tsz Try.prog 266 = some 1 := by kernel_rfl
@[go_sem] theorem ty_sz267 : tsz Try.prog 267 = some 1 := by kernel_rfl
@[go_sem] theorem ty_sz268 : tsz Try.prog 268 = some 1 := by kernel_rfl
@[go_sem] theorem ty_sz269 : tsz Try.prog 269 = some 1 := by kernel_rfl
@[go_sem] theorem ty_sz270 : tsz Try.prog 270 = some 1 := by kernel_rfl
@[go_sem] theorem ty_sz271 : tsz Try.prog 271 = some 1 := by kernel_rfl
@[go_sem] theorem ty_sz273 : tsz Try.prog 273 = some 2 := by kernel_rfl
@[go_sem] theorem ty_sz275 : tsz Try.prog 275 = some 7 := by kernel_rfl
@[go_sem] theorem ty_sz276 : tsz Try.prog 276 = some 1 := by kernel_rfl
@[go_sem] theorem ty_sz277 : tsz Try.prog 277 = some 1 := by kernel_rfl
@[go_sem] theorem ty_sz279 : tsz Try.prog 279 = some 1 := by kernel_rfl
@[go_sem] theorem ty_sz282 : tsz Try.prog 282 = some 1 := by kernel_rfl
@[go_sem] theorem ty_sz283 : tsz Try.prog 283 = some 1 := by kernel_rfl
@[go_sem] theorem ty_sz284 : tsz Try.prog 284 = some 1 := by kernel_rfl
@[go_sem] theorem ty_sz286 : tsz Try.prog 286 = some 3 := by kernel_rfl
@[go_sem] theorem ty_sz289 : tsz Try.prog 289 = some 1 := by kernel_rfl
@[go_sem] theorem ty_sz292 : tsz Try.prog 292 = some 5 := by kernel_rfl
@[go_sem] theorem ty_sz293 : tsz Try.prog 293 = some 1 := by kernel_rfl
@[go_sem] theorem ty_sz295 : tsz Try.prog 295 = some 4 := by kernel_rfl
@[go_sem] theorem ty_sz3 : tsz Try.prog 3 = some 1 := by kernel_rfl
@[go_sem] theorem ty_sz300 : tsz Try.prog 300 = some 5 := by kernel_rfl
@[go_sem] theorem ty_sz307 : tsz Try.prog 307 = some 1 := by kernel_rfl
@[go_sem] theorem ty_sz309 : tsz Try.prog 309 = some 2 := by kernel_rfl
@[go_sem] theorem ty_sz311 : tsz Try.prog 311 = some 2 := by kernel_rfl
@[go_sem] theorem ty_sz32 : tsz Try.prog 32 = some 1 := by kernel_rfl
@[go_sem] theorem ty_sz322 : tsz Try.prog 322 = some 1 := by kernel_rfl
@[go_sem] theorem ty_sz34 : tsz Try.prog 34 = some 4 := by kernel_rfl
@[go_sem] theorem ty_sz347 : tsz Try.prog 347 = some 15 := by kernel_rfl
@[go_sem] theorem ty_sz349 : tsz Try.prog 349 = some 12 := by kernel_rfl
@[go_sem] theorem ty_sz361 : tsz Try.prog 361 = some 8 := by kernel_rfl
@[go_sem] theorem ty_sz368 : tsz Try.prog 368 = some 2 := by kernel_rfl
@[go_sem] theorem ty_sz379 : tsz Try.prog 379 = some 1 := by kernel_rfl
@[go_sem] theorem ty_sz38 : tsz Try.prog 38 = some 1 := by kernel_rfl
@[go_sem] theorem ty_sz381 : tsz Try.prog 381 = some 5 := by kernel_rfl
@[go_sem] theorem ty_sz396 : tsz Try.prog 396 = some 1 := by kernel_rfl
@[go_sem] theorem ty_sz4 : tsz Try.prog 4 = some 1 := by kernel_rfl
@[go_sem] theorem ty_sz400 : tsz Try.prog 400 = some 3 := by kernel_rfl
@[go_sem] theorem ty_sz426 : tsz Try.prog 426 = some 1 := by kernel_rfl
@[go_sem] theorem ty_sz43 : tsz Try.prog 43 = some 1 := by kernel_rfl
@[go_sem] theorem ty_sz45 : tsz Try.prog 45 = some 3 := by kernel_rfl
@[go_sem] theorem ty_sz5 : tsz Try.prog 5 = some 1 := by kernel_rfl
@[go_sem] theorem ty_sz50 : tsz Try.prog 50 = some 1 := by kernel_rfl
@[go_sem] theorem ty_sz51 : tsz Try.prog 51 = some 1 := by kernel_rfl
@[go_sem] theorem ty_sz52 : tsz Try.prog 52 = some 1 := by kernel_rfl
@[go_sem] theorem ty_sz53 : tsz Try.prog 53 = some 1 := by kernel_rfl
@[go_sem] theorem ty_sz54 : tsz Try.prog 54 = some 1 := by kernel_rfl
@[go_sem] theorem ty_sz56 : tsz Try.prog 56 = some 8 := by kernel_rfl
@[go_sem] theorem ty_sz59 : tsz Try.prog 59 = some 1 := by kernel_rfl
@[go_sem] theorem ty_sz60 : tsz Try.prog 60 = some 1 := by kernel_rfl
@[go_sem] theorem ty_sz61 : tsz Try.prog 61 = some 1 := by kernel_rfl
@[go_sem] theorem ty_sz63 : tsz Try.prog 63 = some 8 := by kernel_rfl
@[go_sem] theorem ty_sz65 : tsz Try.prog 65 = some 14 := by kernel_rfl
@[go_sem] theorem ty_sz73 : tsz Try.prog 73 = some 1 := by kernel_rfl
@[go_sem] theorem ty_sz74 : tsz Try.prog 74 = some 1 := by kernel_rfl
@[go_sem] theorem ty_sz75 : tsz Try.prog 75 = some 1 := by kernel_rfl
@[go_sem] theorem ty_sz76 : tsz Try.prog 76 = some 1 := by kernel_rfl
@[go_sem] theorem ty_sz77 : tsz Try.prog 77 = some 1 := by kernel_rfl
@[go_sem] theorem ty_sz79 : tsz Try.prog 79 = some 7 := by kernel_rfl
@[go_sem] theorem ty_sz84 : tsz Try.prog 84 = some 1 := by kernel_rfl
@[go_sem] theorem ty_sz86 : tsz Try.prog 86 = some 5 := by kernel_rfl
@[go_sem] theorem ty_sz87 : tsz Try.prog 87 = some 2 := by kernel_rfl
@[go_sem] theorem ty_sz9 : tsz Try.prog 9 = some 1 := by kernel_rfl
@[go_sem] theorem ty_sz94 : tsz Try.prog 94 = some 2 := by kernel_rfl
@[go_sem] theorem ty_sz98 : tsz Try.prog 98 = some 3 := by kernel_rfl
@[go_sem] theorem ty_u83 : isU8s Try.prog 3 = false := by kernel_rfl
@[go_sem] theorem ty_u8307 : isU8s Try.prog 307 = false := by kernel_rfl
@[go_sem] theorem ty_u832 : isU8s Try.prog 32 = true := by kernel_rfl
@[go_sem] theorem ty_u8401 : isU8s Try.prog 401 = false := by kernel_rfl
@[go_sem] theorem ty_u8403 : isU8s Try.prog 403 = false := by kernel_rfl
@[go_sem] theorem ty_u8406 : isU8s Try.prog 406 = false := by kernel_rfl
@[go_sem] theorem ty_u8426 : isU8s Try.prog 426 = false := by kernel_rfl
@[go_sem] theorem ty_u85 : isU8s Try.prog 5 = false := by kernel_rfl
@[go_sem] theorem ty_u888 : isU8s Try.prog 88 = false := by kernel_rfl
@[go_sem] theorem ty_u89 : isU8s Try.prog 9 = false := by kernel_rfl
@[go_sem] theorem ty_un3 : (Try.prog.underlying 3).isSome = true := by kernel_rfl
@[go_sem] theorem ty_un307 : (Try.prog.underlying 307).isSome = true := by kernel_rfl
@[go_sem] theorem ty_un32 : (Try.prog.underlying 32).isSome = true := by kernel_rfl
@[go_sem] theorem ty_un401 : (Try.prog.underlying 401).isSome = true := by kernel_rfl
@[go_sem] theorem ty_un403 : (Try.prog.underlying 403).isSome = true := by kernel_rfl
@[go_sem] theorem ty_un406 : (Try.prog.underlying 406).isSome = true := by kernel_rfl
@[go_sem] theorem ty_un426 : (Try.prog.underlying 426).isSome = true := by kernel_rfl
@[go_sem] theorem ty_un5 : (Try.prog.underlying 5).isSome = true := by kernel_rfl
@[go_sem] theorem ty_un88 : (Try.prog.underlying 88).isSome = true := by kernel_rfl
@[go_sem] theorem ty_un9 : (Try.prog.underlying 9).isSome = true := by kernel_rfl
@[go_sem] theorem ty_ze108 : tzero Try.prog 108 = some (.agg [(.int .i64 0), (.int .i64 0), (.str []), (.sl [] true .full)]) := by kernel_rfl
@[go_sem] theorem ty_ze112 : tzero Try.prog 112 = some (.agg [(.int .i64 0), (.int .i64 0), (.str []), (.sl [] true .full)]) := by kernel_rfl
@[go_sem] theorem ty_ze124 : tzero Try.prog 124 = some (.agg [(.sl [] true .full), (.int .i64 0), (.int .i64 0), (.str []), (.sl [] true .full)]) := by kernel_rfl
@[go_sem] theorem ty_ze127 : tzero Try.prog 127 = some (.agg [(.bool false), (.int .i64 0), (.sl [] true .full), (.int .i64 0), (.int .i64 0), (.str []), (.sl [] true .full), (.sl [] true .full), (.sl [] true .full)]) := by kernel_rfl
@[go_sem] theorem ty_ze131 : tzero Try.prog 131 = some (.sl [] true .full) := by kernel_rfl
@[go_sem] theorem ty_ze133 : tzero Try.prog 133 = some (.agg [(.sl [] true .full), (.sl [] true .full), (.int .i64 0), (.int .i64 0)]) := by kernel_rfl
@[go_sem] theorem ty_ze137 : tzero Try.prog 137 = some (.agg [(.int .i64 0), (.int .i64 0), (.int .i64 0), (.int .i64 0), (.int .i64 0)]) := by kernel_rfl
@[go_sem] theorem ty_ze138 : tzero Try.prog 138 = some (.sl [] true .full) := by kernel_rfl
@[go_sem] theorem ty_ze140 : tzero Try.prog 140 = some (.agg [(.int .i64 0), (.int .i64 0)]) := by kernel_rfl
@[go_sem] theorem ty_ze147 : tzero Try.prog 147 = some (.agg [(.bool false), (.sl [] true .full), (.sl [] true .full), (.sl [] true .full), (.int .i64 0)]) := by kernel_rfl
@[go_sem] theorem ty_ze151 : tzero Try.prog 151 = some (.agg [(.int .i64 0), (.int .i64 0), (.int .i64 0), (.int .i64 0)]) := by kernel_rfl
@[go_sem] theorem ty_ze158 : tzero Try.prog 158 = some (.agg [(.sl [] true .full)]) := by kernel_rfl
@[go_sem] theorem ty_ze167 : tzero Try.prog 167 = some (.agg [(.int .i64 0), (.int .i64 0), (.str [])]) := by kernel_rfl
@[go_sem] theorem ty_ze175 : tzero Try.prog 175 = some (.agg [(.str []), (.int .i64 0)]) := by kernel_rfl
@[go_sem] theorem ty_ze178 : tzero Try.prog 178 = some (.agg [(.str []), (.int .i64 0), (.int .i64 0)]) := by kernel_rfl
@[go_sem] theorem ty_ze180 : tzero Try.prog 180 = some (.sl [] true .full) := by kernel_rfl
@[go_sem] theorem ty_ze189 : tzero Try.prog 189 = some (.agg [(.int .i64 0), (.int .i64 0)]) := by kernel_rfl
@[go_sem] theorem ty_ze199 : tzero Try.prog 199 = some (.sl [] true .full) := by kernel_rfl
@[go_sem] theorem ty_ze201 : tzero Try.prog 201 = some (.agg [(.sl [] true .full), (.bool false), (.int .i64 0), (.sl [] true .full), (.sl [] true .full)]) := by kernel_rfl
@[go_sem] theorem ty_ze209 : tzero Try.prog 209 = some (.agg [(.str []), (.int .i64 0), (.sl [] true .full), (.sl [] true .full), (.sl [] true .full), (.sl [] true .full), (.sl [] true .full), (.sl [] true .full), (.str []), (.int .i64 0), (.sl [] true .full), (.sl [] true .full), (.sl [] true .full), (.sl [] true .full), (.sl [] true .full), (.sl [] true .full), .nilm]) := by kernel_rfl
@[go_sem] theorem ty_ze214 : tzero Try.prog 214 = some (.agg [(.str []), (.sl [] true .full), (.sl [] true .full)]) := by kernel_rfl
@[go_sem] theorem ty_ze216 : tzero Try.prog 216 = some (.agg [(.str []), (.sl [] true .full)]) := by kernel_rfl
@[go_sem] theorem ty_ze218 : tzero Try.prog 218 = some (.agg [(.str []), (.sl [] true .full)]) := by kernel_rfl
@[go_sem] theorem ty_ze22 : tzero Try.prog 22 = some (.sl [] true .full) := by kernel_rfl
@[go_sem] theorem ty_ze220 : tzero Try.prog 220 = some (.agg [(.str []), (.str []), (.sl [] true .full)]) := by kernel_rfl
@[go_sem] theorem ty_ze229 : tzero Try.prog 229 = some (.agg [(.str []), (.int .i64 0), (.int .i64 0), (.int .i64 0), (.sl [] true .full)]) := by kernel_rfl
@[go_sem] theorem ty_ze231 : tzero Try.prog 231 = some (.agg [(.int .i64 0), (.int .i64 0), (.int .i64 0), (.int .i64 0), (.sl [] true .full)]) := by kernel_rfl
@[go_sem] theorem ty_ze233 : tzero Try.prog 233 = some (.agg [(.sl [] true .full), (.sl [] true .full), (.sl [] true .full), (.sl [] true .full), (.sl [] true .full), (.sl [] true .full), (.sl [] true .full), .nilm, (.int .i64 0), (.int .i64 0)]) := by kernel_rfl
@[go_sem] theorem ty_ze24 : tzero Try.prog 24 = some .nilp := by kernel_rfl
@[go_sem] theorem ty_ze245 : tzero Try.prog 245 = some (.agg [(.int .i64 0), (.sl [] true .full)]) := by kernel_rfl
@[go_sem] theorem ty_ze251 : tzero Try.prog 251 = some (.agg [(.sl [] true .full), .nilm]) := by kernel_rfl
@[go_sem] theorem ty_ze256 : tzero Try.prog 256 = some (.agg [(.sl [] true .full), (.sl [] true .full), (.sl [] true .full), (.sl [] true .full)]) := by kernel_rfl
@[go_sem] theorem ty_ze258 : tzero Try.prog 258 = some (.agg [(.int .i64 0), (.int .i64 0)]) := by kernel_rfl
@[go_sem] theorem ty_ze259 : tzero Try.prog 259 = some .nilp := by kernel_rfl
@[go_sem] theorem ty_ze260 : tzero Try.prog 260 = some .nilm := by kernel_rfl
@[go_sem] theorem ty_ze262 : tzero Try.prog 262 = some (.agg [(.sl [] true .full), (.sl [] true .full), .nilm]) := by kernel_rfl
@[go_sem] theorem ty_ze265 : tzero Try.prog 265 = some (.sl [] true .full) := by kernel_rfl
@[go_sem] theorem ty_ze266 : tzero Try.prog 266 = some (.sl [] true .full) := by kernel_rfl
@[go_sem] theorem ty_ze267 : tzero Try.prog 267 = some (.sl [] true .full) := by kernel_rfl
@[go_sem] theorem ty_ze268 : tzero Try.prog 268 = some (.sl [] true .full) := by kernel_rfl
@[go_sem] theorem ty_ze269 : tzero Try.prog 269 = some .nilm := by kernel_rfl
@[go_sem] theorem ty_ze270 : tzero Try.prog 270 = some .nilm := by kernel_rfl
@[go_sem] theorem ty_ze271 : tzero Try.prog 271 = some (.sl [] true .full) := by kernel_rfl
@[go_sem] theorem ty_ze273 : tzero Try.prog 273 = some (.agg [(.int .i64 0), (.int .i64 0)]) := by kernel_rfl
@[go_sem] theorem ty_ze275 : tzero Try.prog 275 = some (.agg [(.int .i64 0), (.int .i64 0), (.int .i64 0), (.int .i64 0), (.int .i64 0), (.int .i64 0), (.int .i64 0)]) := by kernel_rfl
@[go_sem] theorem ty_ze276 : tzero Try.prog 276 = some (.sl [] true .full) := by kernel_rfl
@[go_sem] theorem ty_ze277 : tzero Try.prog 277 = some .nilf := by kernel_rfl
@[go_sem] theorem ty_ze279 : tzero Try.prog 279 = some .nilf := by kernel_rfl
@[go_sem] theorem ty_ze286 : tzero Try.prog 286 = some (.agg [(.sl [] true .full), .nilm, (.sl [] true .full)]) := by kernel_rfl
@[go_sem] theorem ty_ze289 : tzero Try.prog 289 = some .nilm := by kernel_rfl
@[go_sem] theorem ty_ze292 : tzero Try.prog 292 = some (.agg [(.sl [] true .full), (.int .i64 0), (.int .i64 0), (.bool false), (.int .i64 0)]) := by kernel_rfl
@[go_sem] theorem ty_ze295 : tzero Try.prog 295 = some (.agg [(.str []), (.int .i64 0), (.sl [] true .full), (.sl [] true .full)]) := by kernel_rfl
@[go_sem] theorem ty_ze3 : tzero Try.prog 3 = some (.int .i64 0) := by kernel_rfl
@[go_sem] theorem ty_ze300 : tzero Try.prog 300 = some (.agg [(.int .i64 0), (.int .i64 0), (.int .i64 0), (.str []), (.sl [] true .full)]) := by kernel_rfl
@[go_sem] theorem ty_ze309 : tzero Try.prog 309 = some (.agg [.nilp, (.sl [] true .full)]) := by kernel_rfl
@[go_sem] theorem ty_ze311 : tzero Try.prog 311 = some (.agg [(.int .i64 0), (.bool false)]) := by kernel_rfl
@[go_sem] theorem ty_ze327 : tzero Try.prog 327 = some (.agg [(.sl [] true .full), (.sl [] true .full)]) := by kernel_rfl
@[go_sem] theorem ty_ze34 : tzero Try.prog 34 = some (.agg [(.int .i64 0), (.int .i64 0), (.sl [] true .full), (.sl [] true .full)]) := by kernel_rfl
@[go_sem] theorem ty_ze340 : tzero Try.prog 340 = some (.agg [(.sl [] true .full), (.sl [] true .full)]) := by kernel_rfl
@[go_sem] theorem ty_ze347 : tzero Try.prog 347 = some (.agg [(.str []), (.sl [] true .full), (.sl [] true .full), (.sl [] true .full), (.int .i64 0), (.str []), (.sl [] true .full), (.int .i64 0), (.int .i64 0), (.str []), (.sl [] true .full), (.sl [] true .full), (.sl [] true .full), (.sl [] true .full), (.int .i64 0)]) := by kernel_rfl
@[go_sem] theorem ty_ze349 : tzero Try.prog 349 = some (.agg [(.int .i64 0), (.int .i64 0), (.str []), (.sl [] true .full), (.int .i64 0), (.int .i64 0), (.str []), (.sl [] true .full), (.sl [] true .full), (.sl [] true .full), (.sl [] true .full), (.int .i64 0)]) := by kernel_rfl
@[go_sem] theorem ty_ze361 : tzero Try.prog 361 = some (.agg [(.int .i64 0), (.int .i64 0), (.int .i64 0), (.int .i64 0), (.int .i64 0), (.int .i64 0), (.int .i64 0), .nilp]) := by kernel_rfl
@[go_sem] theorem ty_ze368 : tzero Try.prog 368 = some (.agg [(.int .i64 0), (.bool false)]) := by kernel_rfl
@[go_sem] theorem ty_ze379 : tzero Try.prog 379 = some .nilp := by kernel_rfl
@[go_sem] theorem ty_ze38 : tzero Try.prog 38 = some (.sl [] true .full) := by kernel_rfl
@[go_sem] theorem ty_ze381 : tzero Try.prog 381 = some (.agg [(.int .i64 0), (.int .i64 0), (.str []), (.sl [] true .full), (.int .i64 0)]) := by kernel_rfl
@[go_sem] theorem ty_ze4 : tzero Try.prog 4 = some (.bool false) := by kernel_rfl
@[go_sem] theorem ty_ze400 : tzero Try.prog 400 = some (.agg [(.sl [] true .full), (.sl [] true .full), .nilp]) := by kernel_rfl
@[go_sem] theorem ty_ze426 : tzero Try.prog 426 = some (.int .u64 0) := by kernel_rfl
@[go_sem] theorem ty_ze45 : tzero Try.prog 45 = some (.agg [(.int .i64 0), (.str []), (.sl [] true .full)]) := by kernel_rfl
@[go_sem] theorem ty_ze5 : tzero Try.prog 5 = some (.int .u8 0) := by kernel_rfl
@[go_sem] theorem ty_ze56 : tzero Try.prog 56 = some (.agg [(.str []), (.int .i64 0), (.sl [] true .full), (.sl [] true .full), (.sl [] true .full), (.sl [] true .full), (.sl [] true .full), (.sl [] true .full)]) := by kernel_rfl
@[go_sem] theorem ty_ze63 : tzero Try.prog 63 = some (.agg [(.int .i64 0), (.int .i64 0), (.str []), (.sl [] true .full), (.sl [] true .full), (.sl [] true .full), (.sl [] true .full), (.int .i64 0)]) := by kernel_rfl
@[go_sem] theorem ty_ze65 : tzero Try.prog 65 = some (.agg [(.str []), (.sl [] true .full), (.sl [] true .full), (.int .i64 0), (.str []), (.sl [] true .full), (.int .i64 0), (.int .i64 0), (.str []), (.sl [] true .full), (.sl [] true .full), (.sl [] true .full), (.sl [] true .full), (.int .i64 0)]) := by kernel_rfl
@[go_sem] theorem ty_ze86 : tzero Try.prog 86 = some (.agg [(.int .i64 0), (.int .i64 0), (.int .i64 0), (.int .i64 0), (.bool false)]) := by kernel_rfl
@[go_sem] theorem ty_ze87 : tzero Try.prog 87 = some (.agg [(.int .i64 0), (.int .i64 0)]) := by kernel_rfl
@[go_sem] theorem ty_ze9 : tzero Try.prog 9 = some (.str []) := by kernel_rfl
@[go_sem] theorem ty_ze94 : tzero Try.prog 94 = some (.agg [(.str []), (.int .i64 0)]) := by kernel_rfl
@[go_sem] theorem ty_ze98 : tzero Try.prog 98 = some (.agg [(.str []), (.str []), (.int .i64 0)]) := by kernel_rfl
end Go.Proofs.Ytacecjfpkdijpaa

/- The arguments of 'roadlaw5.MarkSides' as data; no conditions. -/
set_option linter.unusedVariables false
set_option linter.unusedSimpArgs false
set_option maxRecDepth 100000
namespace Go.Proofs.Ytacecjfpkdijpaa.markSides
open Go.RowKit Go.Proofs.YtacecjfpkdijpaaV
def e3 (x : Int) : List V := [.int .i64 x]
def o3 (x : Int) : Prop := IntKind.i64.min ≤ x ∧ x ≤ IntKind.i64.max
theorem d3 (n : Nat) : Dec Try.prog 3 e3 o3 n := dec_int (by kernel_rfl)
theorem p3 (x : Int) : 1 ≤ vszL (e3 x) := by simp only [e3, vszL, vsz]; omega
abbrev D22 := List Int × Bool
def e22 (x : D22) : List V := [.sl (x.1.map e3) x.2 .no]
def o22 (x : D22) : Prop := OkS o3 x
theorem d22 (n : Nat) : Dec Try.prog 22 e22 o22 n := dec_slice (el := 3) (by kernel_rfl) p3 (fun m _ => d3 m)
theorem p22 (x : D22) : 1 ≤ vszL (e22 x) := by simp only [e22, vszL, vsz]; omega
abbrev D32 := List UInt8 × Bool
def e32 (x : D32) : List V := [.sl (bytesV x.1) x.2 .no]
def o32 (x : D32) : Prop := (x.2 = true → x.1 = []) ∧ x.1.length ≤ bulk
theorem d32 (n : Nat) : Dec Try.prog 32 e32 o32 n := dec_bytes (el := 5) (by kernel_rfl) (by kernel_rfl)
theorem p32 (x : D32) : 1 ≤ vszL (e32 x) := by simp only [e32, vszL, vsz]; omega
abbrev D34 := Int × Int × D32 × D22
def e34 (x : D34) : List V := [.int .i64 x.1, .int .i64 x.2.1, .sl (bytesV x.2.2.1.1) x.2.2.1.2 .no, .sl (x.2.2.2.1.map e3) x.2.2.2.2 .no]
def o34 (x : D34) : Prop := o3 x.1 ∧ o3 x.2.1 ∧ o32 x.2.2.1 ∧ o22 x.2.2.2
theorem d34 (n : Nat) : Dec Try.prog 34 e34 o34 n := by
  intro cs hv hb
  obtain ⟨m, rfl, h⟩ := dec_struct (ts := [3, 3, 32, 22]) (by kernel_rfl) hv
  obtain ⟨a0, r0, rfl, _, h0, a1, r1, rfl, _, h1, a2, r2, rfl, _, h2, a3, r3, rfl, _, h3, rfl⟩ := h
  simp only [vszL_append] at hb
  obtain ⟨x0, rfl, q0⟩ := d3 m _ h0 (by omega)
  obtain ⟨x1, rfl, q1⟩ := d3 m _ h1 (by omega)
  obtain ⟨x2, rfl, q2⟩ := d32 m _ h2 (by omega)
  obtain ⟨x3, rfl, q3⟩ := d22 m _ h3 (by omega)
  exact ⟨(x0, x1, x2, x3), rfl, q0, q1, q2, q3⟩
theorem p34 (x : D34) : 1 ≤ vszL (e34 x) := by simp only [e34, vszL, vsz]; omega
abbrev D23 := List D34 × Bool
def e23 (x : D23) : List V := [.sl (x.1.map e34) x.2 .no]
def o23 (x : D23) : Prop := OkS o34 x
theorem d23 (n : Nat) : Dec Try.prog 23 e23 o23 n := dec_slice (el := 34) (by kernel_rfl) p34 (fun m _ => d34 m)
theorem p23 (x : D23) : 1 ≤ vszL (e23 x) := by simp only [e23, vszL, vsz]; omega
theorem args {xs : List V} (h : TyAll Try.prog [22, 23] xs) (hs : vszL xs ≤ 1048576) : ∃ (x0 : D22) (x1 : D23), xs = [.sl (x0.1.map e3) x0.2 .no, .sl (x1.1.map e34) x1.2 .no] ∧ o22 x0 ∧ o23 x1 := by
  obtain ⟨y0, r0, rfl, h0, y1, r1, rfl, h1, rfl⟩ := h
  simp only [vszL] at hs
  obtain ⟨x0, g0, q0⟩ := dec_one (by kernel_rfl) d22 h0 (by show vsz _ ≤ 1048576; omega)
  obtain ⟨x1, g1, q1⟩ := dec_one (by kernel_rfl) d23 h1 (by show vsz _ ≤ 1048576; omega)
  cases g0
  cases g1
  exact ⟨x0, x1, rfl, q0, q1⟩
end Go.Proofs.Ytacecjfpkdijpaa.markSides

/- Slices of numbers and of truths: where one stands, copies. No conditions but sizes. -/
set_option linter.unusedSimpArgs false
set_option linter.unusedVariables false
namespace Go.Proofs.Ytacecjfpkdijpaa
open Go.Proofs.YtacecjfpkdijpaaV
set_option maxHeartbeats 1000000
set_option maxRecDepth 100000
namespace mk
def eN (n : Int) : List V := [.int .i64 n]
theorem wid_eN (l : List Int) : wid 1 (l.map eN) := wid_map (g := eN) (fun _ => rfl) _
theorem sca_eN (l : List Int) : sca (l.map eN) := sca_map (g := eN) (fun a x hx => by simp [eN] at hx; subst hx; rfl) _
def idxF {A : Type} (f : A → Bool) (xs : List A) : Int := if xs.findIdx f < xs.length then (xs.findIdx f : Int) else -1
theorem idxF_at {A : Type} {f : A → Bool} {xs : List A} {i : Nat} (hi : i < xs.length) (h : f xs[i] = true) (hb : ∀ j (hj : j < i), f xs[j] = false) : idxF f xs = (i : Int) := by
  have e : xs.findIdx f = i := (List.findIdx_eq hi).2 ⟨h, fun j hj => hb j hj⟩
  rw [idxF, e, if_pos hi]
theorem idxF_none {A : Type} {f : A → Bool} {xs : List A} (h : ∀ j (hj : j < xs.length), f xs[j] = false) : idxF f xs = -1 := by
  rw [idxF, if_neg]
  intro hlt
  have h1 := List.findIdx_getElem (w := hlt)
  rw [h _ hlt] at h1
  cases h1
theorem idxF_any {A : Type} (f : A → Bool) (xs : List A) : decide (idxF f xs ≥ 0) = xs.any f := by
  rw [Bool.eq_iff_iff, decide_eq_true_eq, List.any_eq_true]
  constructor
  · intro h
    unfold idxF at h
    split at h
    · rename_i hlt; exact ⟨_, List.getElem_mem hlt, List.findIdx_getElem (w := hlt)⟩
    · omega
  · rintro ⟨x, hx, hf⟩
    have := List.findIdx_lt_length_of_exists ⟨x, hx, hf⟩
    rw [idxF, if_pos this]; omega
end mk
open mk in
theorem q_IndexN (xs : List Int) (nl : Bool) (t : Tag) (s : Int) (hx : (xs.length : Int) ≤ 9223372036854775807) :
    Quiet Try.prog 90 [.sl (xs.map eN) nl t, .int .i64 s] (.int .i64 (idxF (fun x => decide (s = x)) xs)) := by
  refine Quiet.weak fun G => ?_
  refine acall_body (rs := [.tmp 4]) Try.func90 rfl rfl Try.ntmps90 (by kernel_rfl) (Nat.le_of_ble_eq_true rfl) ?_
  refine aw_sr rfl ?_
  simp only [go_sem, reduceIte, Nat.reduceEqDiff, Nat.reduceAdd, Nat.reduceMul, Nat.reduceSub, Nat.reduceLeDiff, Nat.reduceLT, reduceCtorEq]
  refine aw_seq fun K1 hK1 => ?_
  refine aw_sr rfl ?_
  simp only [go_sem, reduceIte, Nat.reduceEqDiff, Nat.reduceAdd, Nat.reduceMul, Nat.reduceSub, Nat.reduceLeDiff, Nat.reduceLT, reduceCtorEq]
  refine aw_range xs.length (S := Unit) (fun _ _ => [(0, .sl (xs.map eN) nl t), (1, .int .i64 s)]) (fun _ _ => G) (fun i _ => ∀ j (h : j < xs.length), j < i → decide (s = xs[j]) = false) () hx ?_ (fun _ _ h => h) (fun j _ h => absurd h (by omega)) rfl (fun _ _ => rfl) ?_ ?_ (by decide)
  · simp only [go_sem, reduceIte, Nat.reduceEqDiff, Nat.reduceAdd, Nat.reduceMul, Nat.reduceSub, Nat.reduceLeDiff, Nat.reduceLT, reduceCtorEq, Int.natCast_zero]
  · intro i _ hi he
    refine aw_sr rfl ?_
    simp only [go_sem, reduceIte, Nat.reduceEqDiff, Nat.reduceAdd, Nat.reduceMul, Nat.reduceSub, Nat.reduceLeDiff, Nat.reduceLT, reduceCtorEq]
    refine aw_sr rfl ?_
    simp only [go_sem, reduceIte, Nat.reduceEqDiff, Nat.reduceAdd, Nat.reduceMul, Nat.reduceSub, Nat.reduceLeDiff, Nat.reduceLT, reduceCtorEq, getD_map hi, eN]
    refine ⟨⟨by omega, by omega, wid_eN _⟩, ?_⟩
    refine aw_if rfl (fun h => ?_) (fun h => ?_)
    · refine aw_sr rfl ?_
      simp only [go_sem, reduceIte, Nat.reduceEqDiff, Nat.reduceAdd, Nat.reduceMul, Nat.reduceSub, Nat.reduceLeDiff, Nat.reduceLT, reduceCtorEq]
      refine aw_ret ⟨trivial, _, rfl, ?_, fun _ _ h => h⟩
      rw [idxF_at hi h (fun j hj => he j (by omega) hj)]
      exact Vle.refl _
    · refine aw_skip ⟨(), fun j hj hlt => ?_, ?_, fun _ _ h => h⟩
      · by_cases e : j = i
        · subst e; exact h
        · exact he j hj (by omega)
      simp only [go_sem, reduceIte, Nat.reduceEqDiff, Nat.reduceAdd, Nat.reduceMul, Nat.reduceSub, Nat.reduceLeDiff, Nat.reduceLT, reduceCtorEq]
  · intro _ he
    refine hK1 _ _ ?_
    refine aw_sr rfl ?_
    simp only [go_sem, reduceIte, Nat.reduceEqDiff, Nat.reduceAdd, Nat.reduceMul, Nat.reduceSub, Nat.reduceLeDiff, Nat.reduceLT, reduceCtorEq]
    refine aw_ret ⟨trivial, _, rfl, ?_, fun _ _ h => h⟩
    rw [idxF_none (fun j hj => he j hj hj)]
    exact Vle.refl _
open mk in
theorem q_ContainsN (xs : List Int) (nl : Bool) (t : Tag) (s : Int) (hx : (xs.length : Int) ≤ 9223372036854775807) :
    Quiet Try.prog 17 [.sl (xs.map eN) nl t, .int .i64 s] (.bool (xs.any fun x => decide (s = x))) := by
  refine Quiet.weak fun G => ?_
  refine acall_body (rs := [.tmp 4]) Try.func17 rfl rfl Try.ntmps17 (by kernel_rfl) (Nat.le_of_ble_eq_true rfl) ?_
  refine aw_sr rfl ?_
  simp only [go_sem, reduceIte, Nat.reduceEqDiff, Nat.reduceAdd, Nat.reduceMul, Nat.reduceSub, Nat.reduceLeDiff, Nat.reduceLT, reduceCtorEq]
  refine aw_sr rfl ?_
  simp only [go_sem, reduceIte, Nat.reduceEqDiff, Nat.reduceAdd, Nat.reduceMul, Nat.reduceSub, Nat.reduceLeDiff, Nat.reduceLT, reduceCtorEq]
  refine goA_q (q_IndexN xs nl t s hx) ?_
  simp only [go_sem, reduceIte, Nat.reduceEqDiff, Nat.reduceAdd, Nat.reduceMul, Nat.reduceSub, Nat.reduceLeDiff, Nat.reduceLT, reduceCtorEq]
  refine aw_ret ⟨trivial, _, rfl, ?_, sub_rfl⟩
  rw [← idxF_any]
  exact Vle.refl _
open mk in
theorem q_IndexB (b c : Nat) (xs : List Bool) (s : Bool) (hx : (xs.length : Int) ≤ 9223372036854775807) :
    QuietOn Try.prog [(b, .vars (xs.map V.bool))] 160 [.ms b 0 xs.length c, .bool s] (.int .i64 (idxF (fun x => s == x) xs)) := by
  refine QuietOn.weak fun G hG => ?_
  have h3 := hG _ _ (hget_self _ _ _)
  refine acall_body (rs := [.tmp 4]) Try.func160 rfl rfl Try.ntmps160 (by kernel_rfl) (Nat.le_of_ble_eq_true rfl) ?_
  refine aw_sr rfl ?_
  simp only [go_sem, reduceIte, Nat.reduceEqDiff, Nat.reduceAdd, Nat.reduceMul, Nat.reduceSub, Nat.reduceLeDiff, Nat.reduceLT, reduceCtorEq]
  refine aw_seq fun K1 hK1 => ?_
  refine aw_sr rfl ?_
  simp only [go_sem, reduceIte, Nat.reduceEqDiff, Nat.reduceAdd, Nat.reduceMul, Nat.reduceSub, Nat.reduceLeDiff, Nat.reduceLT, reduceCtorEq]
  refine aw_range xs.length (S := Unit) (fun _ _ => [(0, .ms b 0 xs.length c), (1, .bool s)]) (fun _ _ => G) (fun i _ => ∀ j (h : j < xs.length), j < i → (s == xs[j]) = false) () hx ?_ (fun _ _ h => h) (fun j _ h => absurd h (by omega)) rfl (fun _ _ => rfl) ?_ ?_ (by decide)
  · simp only [go_sem, reduceIte, Nat.reduceEqDiff, Nat.reduceAdd, Nat.reduceMul, Nat.reduceSub, Nat.reduceLeDiff, Nat.reduceLT, reduceCtorEq, Int.natCast_zero]
  · intro i _ hi he
    have hgi : (xs.map V.bool)[i]? = some (.bool xs[i]) := by rw [List.getElem?_map, List.getElem?_eq_getElem hi]; rfl
    refine aw_sr rfl ?_
    simp only [go_sem, reduceIte, Nat.reduceEqDiff, Nat.reduceAdd, Nat.reduceMul, Nat.reduceSub, Nat.reduceLeDiff, Nat.reduceLT, reduceCtorEq]
    refine aw_sr rfl ?_
    simp only [go_sem, reduceIte, Nat.reduceEqDiff, Nat.reduceAdd, Nat.reduceMul, Nat.reduceSub, Nat.reduceLeDiff, Nat.reduceLT, reduceCtorEq, h3, Nat.mul_one, Nat.zero_add, Int.toNat_natCast, hgi]
    refine ⟨⟨by omega, by omega⟩, ?_⟩
    refine aw_if rfl (fun h => ?_) (fun h => ?_)
    · refine aw_sr rfl ?_
      simp only [go_sem, reduceIte, Nat.reduceEqDiff, Nat.reduceAdd, Nat.reduceMul, Nat.reduceSub, Nat.reduceLeDiff, Nat.reduceLT, reduceCtorEq]
      refine aw_ret ⟨trivial, _, rfl, ?_, fun _ _ h => h⟩
      rw [idxF_at hi h (fun j hj => he j (by omega) hj)]
      exact Vle.refl _
    · refine aw_skip ⟨(), fun j hj hlt => ?_, ?_, fun _ _ h => h⟩
      · by_cases e : j = i
        · subst e; exact h
        · exact he j hj (by omega)
      simp only [go_sem, reduceIte, Nat.reduceEqDiff, Nat.reduceAdd, Nat.reduceMul, Nat.reduceSub, Nat.reduceLeDiff, Nat.reduceLT, reduceCtorEq]
  · intro _ he
    refine hK1 _ _ ?_
    refine aw_sr rfl ?_
    simp only [go_sem, reduceIte, Nat.reduceEqDiff, Nat.reduceAdd, Nat.reduceMul, Nat.reduceSub, Nat.reduceLeDiff, Nat.reduceLT, reduceCtorEq]
    refine aw_ret ⟨trivial, _, rfl, ?_, fun _ _ h => h⟩
    rw [idxF_none (fun j hj => he j hj hj)]
    exact Vle.refl _
open mk in
theorem q_ContainsB (b c : Nat) (xs : List Bool) (s : Bool) (hx : (xs.length : Int) ≤ 9223372036854775807) :
    QuietOn Try.prog [(b, .vars (xs.map V.bool))] 91 [.ms b 0 xs.length c, .bool s] (.bool (xs.any fun x => s == x)) := by
  refine QuietOn.weak fun G hG => ?_
  refine acall_body (rs := [.tmp 4]) Try.func91 rfl rfl Try.ntmps91 (by kernel_rfl) (Nat.le_of_ble_eq_true rfl) ?_
  refine aw_sr rfl ?_
  simp only [go_sem, reduceIte, Nat.reduceEqDiff, Nat.reduceAdd, Nat.reduceMul, Nat.reduceSub, Nat.reduceLeDiff, Nat.reduceLT, reduceCtorEq]
  refine aw_sr rfl ?_
  simp only [go_sem, reduceIte, Nat.reduceEqDiff, Nat.reduceAdd, Nat.reduceMul, Nat.reduceSub, Nat.reduceLeDiff, Nat.reduceLT, reduceCtorEq]
  refine goA_on (q_IndexB b c xs s hx) hG ?_
  simp only [go_sem, reduceIte, Nat.reduceEqDiff, Nat.reduceAdd, Nat.reduceMul, Nat.reduceSub, Nat.reduceLeDiff, Nat.reduceLT, reduceCtorEq]
  refine aw_ret ⟨trivial, _, rfl, ?_, sub_rfl⟩
  rw [← idxF_any]
  exact Vle.refl _
open mk in
theorem q_CloneN (l : List Int) (nl : Bool) (t : Tag) (hl : l.length ≤ 1048576) (hnl : nl = true → l = []) : Quiet Try.prog 89 [.sl (l.map eN) nl t] (.sl (l.map eN) nl .no) := by
  refine Quiet.weak fun G => ?_
  refine acall_body (rs := [.tmp 2]) Try.func89 rfl rfl Try.ntmps89 (by kernel_rfl) (Nat.le_of_ble_eq_true rfl) ?_
  refine aw_sr rfl ?_  -- r0
  simp only [go_sem, reduceIte, Nat.reduceEqDiff, Nat.reduceAdd, Nat.reduceMul, Nat.reduceSub, Nat.reduceLeDiff, Nat.reduceLT, reduceCtorEq]
  refine aw_seq fun K1 hK1 => ?_
  refine aw_sr rfl ?_  -- r1
  simp only [go_sem, reduceIte, Nat.reduceEqDiff, Nat.reduceAdd, Nat.reduceMul, Nat.reduceSub, Nat.reduceLeDiff, Nat.reduceLT, reduceCtorEq]
  refine aw_if rfl (fun h => ?_) (fun h => ?_)
  · refine aw_sr rfl ?_  -- r2
    simp only [go_sem, reduceIte, Nat.reduceEqDiff, Nat.reduceAdd, Nat.reduceMul, Nat.reduceSub, Nat.reduceLeDiff, Nat.reduceLT, reduceCtorEq]
    refine aw_ret ⟨trivial, _, rfl, ?_, sub_rfl⟩
    rw [hnl h, h]; exact Vle.untag
  refine aw_skip (hK1 _ _ ?_)
  refine aw_sr rfl ?_  -- r3
  simp only [go_sem, reduceIte, Nat.reduceEqDiff, Nat.reduceAdd, Nat.reduceMul, Nat.reduceSub, Nat.reduceLeDiff, Nat.reduceLT, reduceCtorEq]
  refine goP_rm (G := G) (Rm.start _ _ _) sub_rfl ?_ fun t1 H1 hr1 hs1 hg1 => ?_
  · exact ⟨rfl, rfl, by decide, by simp [wid], wid_eN _, sca_eN _, by simp; omega, by simp; omega⟩
  simp only [go_sem, reduceIte, Nat.reduceEqDiff, Nat.reduceAdd, Nat.reduceMul, Nat.reduceSub, Nat.reduceLeDiff, Nat.reduceLT, reduceCtorEq]
  refine aw_ret ⟨trivial, _, rfl, ?_, hs1⟩
  have h : nl = false := by simpa using h
  rw [h]
  exact Vle.untag
open mk in
theorem q_EqN (xs ys : List Int) (n1 n2 : Bool) (t1 t2 : Tag) (hx : (xs.length : Int) ≤ 9223372036854775807) : Quiet Try.prog 21 [.sl (xs.map eN) n1 t1, .sl (ys.map eN) n2 t2] (.bool (decide (xs = ys))) := by
  intro G
  refine acall_body (rs := [.tmp 4]) Try.func21 rfl rfl Try.ntmps21 (by kernel_rfl) (Nat.le_of_ble_eq_true rfl) ?_
  refine aw_sr rfl ?_
  simp only [go_sem, reduceIte, Nat.reduceEqDiff, Nat.reduceAdd, Nat.reduceMul, Nat.reduceSub, Nat.reduceLeDiff, Nat.reduceLT, reduceCtorEq]
  refine aw_seq fun K2 hK2 => ?_
  refine aw_sr rfl ?_
  simp only [go_sem, reduceIte, Nat.reduceEqDiff, Nat.reduceAdd, Nat.reduceMul, Nat.reduceSub, Nat.reduceLeDiff, Nat.reduceLT, reduceCtorEq]
  refine aw_if rfl (fun h => ?_) (fun h => ?_)
  · refine aw_sr rfl ?_
    simp only [go_sem, reduceIte, Nat.reduceEqDiff, Nat.reduceAdd, Nat.reduceMul, Nat.reduceSub, Nat.reduceLeDiff, Nat.reduceLT, reduceCtorEq]
    refine aw_ret ⟨trivial, _, rfl, ?_⟩
    simp only [decide_eq_true_eq, ne_eq, Int.natCast_inj] at h
    refine ⟨?_, rfl⟩
    rw [decide_eq_false (fun e => h (by rw [e]))]
    rfl
  · refine aw_skip (hK2 _ _ ?_)
    have hl : xs.length = ys.length := by simpa [Int.natCast_inj] using h
    refine aw_seq fun K3 hK3 => ?_
    refine aw_sr rfl ?_
    simp only [go_sem, reduceIte, Nat.reduceEqDiff, Nat.reduceAdd, Nat.reduceMul, Nat.reduceSub, Nat.reduceLeDiff, Nat.reduceLT, reduceCtorEq]
    refine aw_range xs.length (S := Unit) (fun _ _ => [(0, .sl (xs.map eN) n1 t1), (1, .sl (ys.map eN) n2 t2)]) (fun _ _ => G) (fun i _ => xs.take i = ys.take i) () hx ?_ (fun _ _ h => h) rfl rfl (fun _ _ => rfl) ?_ ?_ (by decide)
    · simp only [go_sem, reduceIte, Nat.reduceEqDiff, Nat.reduceAdd, Nat.reduceMul, Nat.reduceSub, Nat.reduceLeDiff, Nat.reduceLT, reduceCtorEq]
    · intro i _ hi he
      refine aw_sr rfl ?_
      simp only [go_sem, reduceIte, Nat.reduceEqDiff, Nat.reduceAdd, Nat.reduceMul, Nat.reduceSub, Nat.reduceLeDiff, Nat.reduceLT, reduceCtorEq]
      refine aw_srd [(0,true),(1,true),(2,true),(3,true),(4,true),(5,true),(6,true),(7,true),(8,true)] mixed rfl (by kernel_rfl) ?_
      simp only [go_sem, reduceIte, Nat.reduceEqDiff, Nat.reduceAdd, Nat.reduceMul, Nat.reduceSub, Nat.reduceLeDiff, Nat.reduceLT, reduceCtorEq, getD_map hi, getD_map (hl ▸ hi), eN]
      refine ⟨⟨by omega, by omega, wid_map (g := eN) (fun _ => rfl) _⟩, ⟨by omega, by omega, wid_map (g := eN) (fun _ => rfl) _⟩, ?_⟩
      refine aw_if rfl (fun h => ?_) (fun h => ?_)
      · refine aw_sr rfl ?_
        simp only [go_sem, reduceIte, Nat.reduceEqDiff, Nat.reduceAdd, Nat.reduceMul, Nat.reduceSub, Nat.reduceLeDiff, Nat.reduceLT, reduceCtorEq]
        refine aw_ret ⟨trivial, _, rfl, ?_⟩
        refine ⟨?_, rfl⟩
        have h : ¬ xs[i] = ys[i]'(hl ▸ hi) := by simpa using h
        rw [decide_eq_false (fun e => h (by subst e; rfl))]
        rfl
      · have h : xs[i] = ys[i]'(hl ▸ hi) := by simpa using h
        refine aw_skip ⟨(), ?_, ?_, fun _ _ h => h⟩
        · rw [List.take_succ_eq_append_getElem hi, List.take_succ_eq_append_getElem (hl ▸ hi), he, h]
        · simp only [go_sem, reduceIte, Nat.reduceEqDiff, Nat.reduceAdd, Nat.reduceMul, Nat.reduceSub, Nat.reduceLeDiff, Nat.reduceLT, reduceCtorEq]
    · intro _ he
      refine hK3 _ _ ?_
      refine aw_sr rfl ?_
      simp only [go_sem, reduceIte, Nat.reduceEqDiff, Nat.reduceAdd, Nat.reduceMul, Nat.reduceSub, Nat.reduceLeDiff, Nat.reduceLT, reduceCtorEq]
      refine aw_ret ⟨trivial, _, rfl, ?_⟩
      rw [List.take_length, hl, List.take_length] at he
      subst he
      rw [decide_eq_true rfl]
      exact ⟨rfl, rfl⟩
end Go.Proofs.Ytacecjfpkdijpaa

/- What a side is, and what Begin and Marker do. No conditions but sizes. -/
set_option linter.unusedSimpArgs false
set_option linter.unusedVariables false
namespace Go.Proofs.Ytacecjfpkdijpaa
open Go.Proofs.YtacecjfpkdijpaaV
set_option maxHeartbeats 2000000
set_option maxRecDepth 100000
namespace mk
theorem goG_off {P : Go.Program} {ops : List Oper} {x : R} {q : Bool} {d : Option Tmp} {op : Op} {r : Go.Proofs.YtacecjfpkdijpaaV.Rest} {f : Go.Proofs.YtacecjfpkdijpaaV.Frame} {G : Heap} {K : Kf} (h : ∀ v, go P ops r (fput f d (.opt false v)) G K) : goG P ops x false q d op r f G K := by
  unfold goG
  split
  · exact ⟨fun e => (by cases e), h _⟩
  · split
    · exact ⟨fun e => (by cases e), fun _ => ⟨.any, h _⟩⟩
    · split
      · split
        · exact ⟨.any, fun e => (by cases e), h _⟩
        · exact ⟨rfl, h _⟩
      · exact ⟨rfl, h _⟩
abbrev W := List Int × Bool × Tag
def wC (w : W) : V := .sl (w.1.map eN) w.2.1 w.2.2
structure Sd where
  begun : Bool
  state : Int
  ways : List W
  over : List Bool
abbrev sdC (ps : List Int) (pnl : Bool) (bw bo : Nat) (begun : Bool) (state : Int) : List V := [.sl (ps.map eN) pnl .no, .bool begun, .int .i64 state, .ms bw 0 ps.length ps.length, .ms bo 0 ps.length ps.length]
/-- A side, as it lies in the heap. -/
structure SideAt (H : Heap) (bs bw bo : Nat) (ps : List Int) (pnl : Bool) (s : Sd) : Prop where
  main : hget H bs = some (.vars (sdC ps pnl bw bo s.begun s.state))
  ways : hget H bw = some (.vars (s.ways.map wC))
  over : hget H bo = some (.vars (s.over.map V.bool))
  lw : s.ways.length = ps.length
  lo : s.over.length = ps.length
  n1 : ¬ bs = bw
  n2 : ¬ bs = bo
  n3 : ¬ bw = bo
theorem SideAt.begin {G G' : Heap} {bs bw bo : Nat} {ps : List Int} {pnl : Bool} {s : Sd} (h : SideAt G bs bw bo ps pnl s) {b : Bool} {k : Int} (h1 : hget G' bs = some (.vars (sdC ps pnl bw bo b k))) (h2 : ∀ x, ¬ x = bs → hget G' x = hget G x) : SideAt G' bs bw bo ps pnl { s with begun := b, state := k } :=
  ⟨h1, by rw [h2 _ (fun e => h.n1 e.symm)]; exact h.ways, by rw [h2 _ (fun e => h.n2 e.symm)]; exact h.over, h.lw, h.lo, h.n1, h.n2, h.n3⟩
theorem idx_cases (s : Int) (ps : List Int) : (idxF (fun x => decide (s = x)) ps = -1 ∧ ∀ p ∈ ps, ¬ s = p) ∨ ∃ i, ∃ h : i < ps.length, idxF (fun x => decide (s = x)) ps = (i : Int) ∧ ps[i] = s := by
  unfold idxF
  split
  · rename_i h
    refine .inr ⟨_, h, rfl, ?_⟩
    have := List.findIdx_getElem (w := h)
    simpa using (of_decide_eq_true this).symm
  · rename_i h
    refine .inl ⟨rfl, fun p hp e => h ?_⟩
    exact List.findIdx_lt_length_of_exists ⟨p, hp, by simpa using e⟩
end mk
open mk in
theorem a_Begin {G : Heap} {bs bw bo : Nat} {ps : List Int} {pnl : Bool} {s : Sd} (hS : SideAt G bs bw bo ps pnl s) (k : Int) :
    ACall Try.prog 16 [.ptr bs 0, .int .i64 k] (fun y G' => y = .int .i64 (if s.begun = true then 8 else 0) ∧ SideAt G' bs bw bo ps pnl { s with begun := true, state := if s.begun = true then s.state else k } ∧ ∀ x, ¬ x = bs → hget G' x = hget G x) G := by
  have h1 := hS.main
  refine acall_body (rs := [.tmp 4]) Try.func16 rfl rfl Try.ntmps16 (by kernel_rfl) (Nat.le_of_ble_eq_true rfl) ?_
  refine aw_sr rfl ?_  -- r0 @mark.go:41
  simp only [go_sem, reduceIte, Nat.reduceEqDiff, Nat.reduceAdd, Nat.reduceMul, Nat.reduceSub, Nat.reduceLeDiff, Nat.reduceLT, reduceCtorEq]
  refine aw_seq fun K3 hK3 => ?_
  refine aw_sr rfl ?_  -- r1 @mark.go:42
  simp only [go_sem, reduceIte, Nat.reduceEqDiff, Nat.reduceAdd, Nat.reduceMul, Nat.reduceSub, Nat.reduceLeDiff, Nat.reduceLT, reduceCtorEq, h1]
  refine aw_if rfl (fun h => ?_) (fun h => ?_)
  · refine aw_sr rfl ?_  -- r2 @mark.go:43
    simp only [go_sem, reduceIte, Nat.reduceEqDiff, Nat.reduceAdd, Nat.reduceMul, Nat.reduceSub, Nat.reduceLeDiff, Nat.reduceLT, reduceCtorEq]
    refine aw_ret ⟨trivial, _, rfl, ?_⟩
    rw [if_pos h, if_pos h]
    refine ⟨rfl, hS.begin ?_ (fun _ _ => rfl), fun _ _ => rfl⟩
    rw [h1, h]
  refine aw_skip (hK3 _ _ ?_)
  refine aw_sr rfl ?_  -- r3 @mark.go:45
  have g2 : ∀ x, hget (hset G bs x) bs = some x := fun x => hget_hset_self h1
  simp only [go_sem, reduceIte, Nat.reduceEqDiff, Nat.reduceAdd, Nat.reduceMul, Nat.reduceSub, Nat.reduceLeDiff, Nat.reduceLT, reduceCtorEq, h1, g2]
  refine aw_sr rfl ?_  -- r4 @mark.go:46
  simp only [go_sem, reduceIte, Nat.reduceEqDiff, Nat.reduceAdd, Nat.reduceMul, Nat.reduceSub, Nat.reduceLeDiff, Nat.reduceLT, reduceCtorEq]
  refine aw_ret ⟨trivial, _, rfl, ?_⟩
  have hb : ¬ s.begun = true := by rw [h]; simp
  rw [if_neg hb, if_neg hb]
  have e : ∀ x, ¬ x = bs → hget (hset (hset G bs (.vars (sdC ps pnl bw bo true s.state))) bs (.vars (sdC ps pnl bw bo true k))) x = hget G x := fun x hx => by rw [hget_hset_ne hx, hget_hset_ne hx]
  exact ⟨rfl, hS.begin (hget_hset_self (g2 _)) e, e⟩
open mk in
theorem a_Marker {G : Heap} {bs bw bo : Nat} {ps : List Int} {pnl : Bool} {s : Sd} (hS : SideAt G bs bw bo ps pnl s) (hps : ps.length ≤ 8) (p k : Int) :
    ACall Try.prog 18 [.ptr bs 0, .int .i64 p, .int .i64 k] (fun y G' =>
      ((∀ q ∈ ps, ¬ p = q) ∧ y = .tup [.bool false, .int .i64 4] ∧ G' = G) ∨ (∃ i, ∃ h : i < ps.length, ps[i] = p ∧ s.over[i]? = some true ∧ y = .tup [.bool false, .int .i64 5] ∧ G' = G) ∨
      (∃ i, ∃ h : i < ps.length, ps[i] = p ∧ s.over[i]? = some false ∧ y = .tup [.bool (!s.begun), .int .i64 0] ∧ SideAt G' bs bw bo ps pnl { s with begun := true, state := if s.begun = true then s.state else k, over := s.over.set i true } ∧ ∀ x, ¬ x = bs → ¬ x = bo → hget G' x = hget G x)) G := by
  have h1 := hS.main
  have h3 := hS.over
  have hlo := hS.lo
  refine acall_body (rs := [.tmp 6, .tmp 7]) Try.func18 rfl rfl Try.ntmps18 (by kernel_rfl) (Nat.le_of_ble_eq_true rfl) ?_
  refine aw_sr rfl ?_  -- r0 @mark.go:50
  simp only [go_sem, reduceIte, Nat.reduceEqDiff, Nat.reduceAdd, Nat.reduceMul, Nat.reduceSub, Nat.reduceLeDiff, Nat.reduceLT, reduceCtorEq]
  refine aw_sr rfl ?_  -- r1 @mark.go:51
  simp only [go_sem, reduceIte, Nat.reduceEqDiff, Nat.reduceAdd, Nat.reduceMul, Nat.reduceSub, Nat.reduceLeDiff, Nat.reduceLT, reduceCtorEq, h1]
  refine goA_q (q_IndexN ps pnl .no p (by omega)) ?_
  simp only [go_sem, reduceIte, Nat.reduceEqDiff, Nat.reduceAdd, Nat.reduceMul, Nat.reduceSub, Nat.reduceLeDiff, Nat.reduceLT, reduceCtorEq]
  have hc := idx_cases p ps
  generalize idxF (fun x => decide (p = x)) ps = ix at hc
  refine aw_seq fun K4 hK4 => ?_
  refine aw_block ?_  -- 0
  refine aw_sr rfl ?_  -- r2 @mark.go:53
  simp only [go_sem, reduceIte, Nat.reduceEqDiff, Nat.reduceAdd, Nat.reduceMul, Nat.reduceSub, Nat.reduceLeDiff, Nat.reduceLT, reduceCtorEq]
  refine aw_if rfl (fun h => ?_) (fun h => ?_)
  · refine aw_sr rfl ?_  -- r3 @mark.go:54
    simp only [go_sem, reduceIte, Nat.reduceEqDiff, Nat.reduceAdd, Nat.reduceMul, Nat.reduceSub, Nat.reduceLeDiff, Nat.reduceLT, reduceCtorEq]
    refine aw_ret ⟨trivial, _, rfl, .inl ⟨?_, rfl, rfl⟩⟩
    rcases hc with ⟨_, hc⟩ | ⟨i, hi, rfl, _⟩
    · exact hc
    · rw [decide_eq_true_eq] at h; omega
  obtain ⟨i, hi, rfl, hpi⟩ : ∃ i, ∃ h : i < ps.length, ix = (i : Int) ∧ ps[i] = p := by
    rcases hc with ⟨rfl, _⟩ | hc
    · simp at h
    · exact hc
  have hi' : i < s.over.length := by omega
  have hgi : (s.over.map V.bool)[i]? = some (.bool s.over[i]) := by rw [List.getElem?_map, List.getElem?_eq_getElem hi']; rfl
  refine aw_sr rfl ?_  -- r4 @mark.go:55
  simp only [go_sem, reduceIte, Nat.reduceEqDiff, Nat.reduceAdd, Nat.reduceMul, Nat.reduceSub, Nat.reduceLeDiff, Nat.reduceLT, reduceCtorEq, h1, h3, Nat.mul_one, Nat.zero_add, Int.toNat_natCast, hgi]
  refine ⟨⟨by omega, by omega⟩, ?_⟩
  refine aw_if rfl (fun h => ?_) (fun h => ?_)
  · refine aw_sr rfl ?_  -- r5 @mark.go:56
    simp only [go_sem, reduceIte, Nat.reduceEqDiff, Nat.reduceAdd, Nat.reduceMul, Nat.reduceSub, Nat.reduceLeDiff, Nat.reduceLT, reduceCtorEq]
    exact aw_ret ⟨trivial, _, rfl, .inr (.inl ⟨i, hi, hpi, by rw [List.getElem?_eq_getElem hi', h], rfl, rfl⟩)⟩
  have hov : s.over[i]? = some false := by rw [List.getElem?_eq_getElem hi', h]
  refine aw_skip (hK4 _ _ ?_)
  refine aw_sr rfl ?_  -- r6 @mark.go:58
  simp only [go_sem, reduceIte, Nat.reduceEqDiff, Nat.reduceAdd, Nat.reduceMul, Nat.reduceSub, Nat.reduceLeDiff, Nat.reduceLT, reduceCtorEq]
  refine goA_by (a_Begin hS k) fun y G2 hy => ?_
  obtain ⟨rfl, hS2, hk2⟩ := hy
  simp only [go_sem, reduceIte, Nat.reduceEqDiff, Nat.reduceAdd, Nat.reduceMul, Nat.reduceSub, Nat.reduceLeDiff, Nat.reduceLT, reduceCtorEq]
  have g1 := hS2.main
  have g3 := hS2.over
  have hfirst : decide ((if s.begun = true then (8 : Int) else 0) = 0) = !s.begun := by cases s.begun <;> rfl
  refine aw_sr rfl ?_  -- r7 @mark.go:59
  simp only [go_sem, reduceIte, Nat.reduceEqDiff, Nat.reduceAdd, Nat.reduceMul, Nat.reduceSub, Nat.reduceLeDiff, Nat.reduceLT, reduceCtorEq, g1, g3, Nat.mul_one, Nat.zero_add, Int.toNat_natCast]
  refine ⟨⟨by omega, by omega⟩, by omega, ?_⟩
  refine aw_sr rfl ?_  -- r8 @mark.go:60
  simp only [go_sem, reduceIte, Nat.reduceEqDiff, Nat.reduceAdd, Nat.reduceMul, Nat.reduceSub, Nat.reduceLeDiff, Nat.reduceLT, reduceCtorEq, hfirst]
  refine aw_ret ⟨trivial, _, rfl, .inr (.inr ⟨i, hi, hpi, hov, rfl, ?_, ?_⟩)⟩
  · refine ⟨?_, ?_, ?_, hS2.lw, by rw [List.length_set]; exact hS.lo, hS2.n1, hS2.n2, hS2.n3⟩
    · exact hset_keep hS2.main hS2.n2
    · exact hset_keep hS2.ways hS2.n3
    · rw [hget_hset_self g3, List.map_set]
  · intro x hx hx2
    rw [hget_hset_ne hx2]; exact hk2 x hx
end Go.Proofs.Ytacecjfpkdijpaa

/- What Message, Tell and New of a side do. No conditions but sizes. -/
set_option linter.unusedSimpArgs false
set_option linter.unusedVariables false
namespace Go.Proofs.Ytacecjfpkdijpaa
open Go.Proofs.YtacecjfpkdijpaaV
set_option maxHeartbeats 2000000
set_option maxRecDepth 100000
namespace mk
/-- A way is written on. -/
def addW (w : W) (n : Int) (t : Tag) : W := (w.1 ++ [n], false, t)
theorem isE_map {A B : Type} (f : A → B) (l : List A) : (l.map f).isEmpty = l.isEmpty := by cases l <;> rfl
end mk
open mk in
theorem a_Message {B G : Heap} {bs bw bo : Nat} {ps : List Int} {pnl : Bool} {s : Sd} (hS : SideAt G bs bw bo ps pnl s) (hps : ps.length ≤ 8) (hB : Sub B G) (hbw : hget B bw = none) (hr : ∀ w ∈ s.ways, Rm B G 1 w.2.2 ∧ w.1.length ≤ 200) (p n : Int) :
    ACall Try.prog 19 [.ptr bs 0, .int .i64 p, .int .i64 n] (fun y G' =>
      ((∀ q ∈ ps, ¬ p = q) ∧ y = .int .i64 4 ∧ G' = G) ∨ (∃ i, ∃ h : i < ps.length, ps[i] = p ∧ (s.begun = false ∨ s.over[i]? = some true) ∧ y = .int .i64 0 ∧ G' = G) ∨
      (∃ i w, ∃ h : i < ps.length, ps[i] = p ∧ s.begun = true ∧ s.over[i]? = some false ∧ s.ways[i]? = some w ∧ w.1.length = 200 ∧ y = .int .i64 6 ∧ G' = G) ∨
      (∃ i w t', ∃ h : i < ps.length, ps[i] = p ∧ s.begun = true ∧ s.over[i]? = some false ∧ s.ways[i]? = some w ∧ w.1.length < 200 ∧ y = .int .i64 0 ∧ SideAt G' bs bw bo ps pnl { s with ways := s.ways.set i (addW w n t') } ∧ Sub B G' ∧ Rm B G' 1 t' ∧
        (∀ k t2, Rm B G k t2 → Dis w.2.2 t2 → Rm B G' k t2 ∧ Dis t' t2) ∧ ∀ x o, ¬ x = bw → (∀ e c, o ≠ .top e c) → hget G x = some o → hget G' x = some o)) G := by
  have h1 := hS.main
  have h2 := hS.ways
  have h3 := hS.over
  have hlo := hS.lo
  have hlw := hS.lw
  refine acall_body (rs := [.tmp 6]) Try.func19 rfl rfl Try.ntmps19 (by kernel_rfl) (Nat.le_of_ble_eq_true rfl) ?_
  refine aw_sr rfl ?_  -- r0 @mark.go:64
  simp only [go_sem, reduceIte, Nat.reduceEqDiff, Nat.reduceAdd, Nat.reduceMul, Nat.reduceSub, Nat.reduceLeDiff, Nat.reduceLT, reduceCtorEq]
  refine aw_sr rfl ?_  -- r1 @mark.go:65
  simp only [go_sem, reduceIte, Nat.reduceEqDiff, Nat.reduceAdd, Nat.reduceMul, Nat.reduceSub, Nat.reduceLeDiff, Nat.reduceLT, reduceCtorEq, h1]
  refine goA_q (q_IndexN ps pnl .no p (by omega)) ?_
  simp only [go_sem, reduceIte, Nat.reduceEqDiff, Nat.reduceAdd, Nat.reduceMul, Nat.reduceSub, Nat.reduceLeDiff, Nat.reduceLT, reduceCtorEq]
  have hc := idx_cases p ps
  generalize idxF (fun x => decide (p = x)) ps = ix at hc
  refine aw_seq fun K5 hK5 => ?_
  refine aw_sr rfl ?_  -- r2 @mark.go:66
  simp only [go_sem, reduceIte, Nat.reduceEqDiff, Nat.reduceAdd, Nat.reduceMul, Nat.reduceSub, Nat.reduceLeDiff, Nat.reduceLT, reduceCtorEq]
  refine aw_if rfl (fun h => ?_) (fun h => ?_)
  · refine aw_sr rfl ?_  -- r3 @mark.go:67
    simp only [go_sem, reduceIte, Nat.reduceEqDiff, Nat.reduceAdd, Nat.reduceMul, Nat.reduceSub, Nat.reduceLeDiff, Nat.reduceLT, reduceCtorEq]
    refine aw_ret ⟨trivial, _, rfl, .inl ⟨?_, rfl, rfl⟩⟩
    rcases hc with ⟨_, hc⟩ | ⟨i, hi, rfl, _⟩
    · exact hc
    · rw [decide_eq_true_eq] at h; omega
  obtain ⟨i, hi, rfl, hpi⟩ : ∃ i, ∃ h : i < ps.length, ix = (i : Int) ∧ ps[i] = p := by
    rcases hc with ⟨rfl, _⟩ | hc
    · simp at h
    · exact hc
  refine aw_skip (hK5 _ _ ?_)
  have hi' : i < s.over.length := by omega
  have hiw : i < s.ways.length := by omega
  have hgi : (s.over.map V.bool)[i]? = some (.bool s.over[i]) := by rw [List.getElem?_map, List.getElem?_eq_getElem hi']; rfl
  have hgw : (s.ways.map wC)[i]? = some (wC s.ways[i]) := by rw [List.getElem?_map, List.getElem?_eq_getElem hiw]; rfl
  have hsw : s.ways[i]? = some s.ways[i] := List.getElem?_eq_getElem hiw
  have bdo : (0 ≤ ((i : Nat) : Int) ∧ ((i : Nat) : Int) < ((ps.length : Nat) : Int)) = True := eq_true ⟨by omega, by omega⟩
  have hrw := hr s.ways[i] (List.getElem_mem hiw)
  refine aw_seq fun K6 hK6 => ?_
  refine aw_sr rfl ?_  -- r4 @mark.go:69
  cases hbg : s.begun with
  | false =>
    simp only [go_sem, reduceIte, Nat.reduceEqDiff, Nat.reduceAdd, Nat.reduceMul, Nat.reduceSub, Nat.reduceLeDiff, Nat.reduceLT, reduceCtorEq, h1, hbg, true_imp_iff, false_imp_iff, Bool.false_eq_true]
    repeat' first
      | (refine mk.goG_off fun v => ?_
         simp only [go_sem, reduceIte, Nat.reduceEqDiff, Nat.reduceAdd, Nat.reduceMul, Nat.reduceSub, Nat.reduceLeDiff, Nat.reduceLT, reduceCtorEq, h1, hbg, true_imp_iff, false_imp_iff, Bool.false_eq_true])
    refine aw_if rfl (fun h => ?_) (fun h => by cases h)
    refine aw_sr rfl ?_  -- r5 @mark.go:70
    simp only [go_sem, reduceIte, Nat.reduceEqDiff, Nat.reduceAdd, Nat.reduceMul, Nat.reduceSub, Nat.reduceLeDiff, Nat.reduceLT, reduceCtorEq]
    exact aw_ret ⟨trivial, _, rfl, .inr (.inl ⟨i, hi, hpi, .inl (by first | trivial | rfl), rfl, rfl⟩)⟩
  | true =>
  simp only [go_sem, reduceIte, Nat.reduceEqDiff, Nat.reduceAdd, Nat.reduceMul, Nat.reduceSub, Nat.reduceLeDiff, Nat.reduceLT, reduceCtorEq, h1, h3, hbg, Nat.mul_one, Nat.zero_add, Int.toNat_natCast, hgi, bdo, true_imp_iff]
  refine aw_if rfl (fun h => ?_) (fun h => ?_)
  · refine aw_sr rfl ?_  -- r5 @mark.go:70
    simp only [go_sem, reduceIte, Nat.reduceEqDiff, Nat.reduceAdd, Nat.reduceMul, Nat.reduceSub, Nat.reduceLeDiff, Nat.reduceLT, reduceCtorEq]
    exact aw_ret ⟨trivial, _, rfl, .inr (.inl ⟨i, hi, hpi, .inr (by rw [List.getElem?_eq_getElem hi', h]), rfl, rfl⟩)⟩
  have hov : s.over[i]? = some false := by rw [List.getElem?_eq_getElem hi', h]
  refine aw_skip (hK6 _ _ ?_)
  generalize hW : s.ways[i] = w at hgw hsw hrw
  obtain ⟨wl, wn, wt⟩ := w
  obtain ⟨hrw, hwl⟩ := hrw
  simp only at hrw hwl
  refine aw_seq fun K7 hK7 => ?_
  refine aw_sr rfl ?_  -- r6 @mark.go:72
  simp only [go_sem, reduceIte, Nat.reduceEqDiff, Nat.reduceAdd, Nat.reduceMul, Nat.reduceSub, Nat.reduceLeDiff, Nat.reduceLT, reduceCtorEq, h1, h2, Nat.mul_one, Nat.zero_add, Int.toNat_natCast, hgw, wC, bdo]
  refine aw_if rfl (fun h => ?_) (fun h => ?_)
  · have h200 : wl.length = 200 := by rw [decide_eq_true_eq] at h; omega
    refine aw_sr rfl ?_  -- r7 @mark.go:73
    simp only [go_sem, reduceIte, Nat.reduceEqDiff, Nat.reduceAdd, Nat.reduceMul, Nat.reduceSub, Nat.reduceLeDiff, Nat.reduceLT, reduceCtorEq]
    exact aw_ret ⟨trivial, _, rfl, .inr (.inr (.inl ⟨i, _, hi, hpi, hbg, hov, hsw, h200, rfl, rfl⟩))⟩
  have h200 : wl.length < 200 := by rw [decide_eq_false_iff_not] at h; omega
  refine aw_skip (hK7 _ _ ?_)
  refine aw_srd [(0,true),(1,true),(2,true),(3,true),(4,true),(5,true),(6,true),(7,true),(8,true),(9,true),(10,true),(11,true),(12,true),(13,true),(14,false),(15,true),(16,false)] mixed rfl (by kernel_rfl) ?_  -- r8 @mark.go:75
  simp only [go_sem, reduceIte, Nat.reduceEqDiff, Nat.reduceAdd, Nat.reduceMul, Nat.reduceSub, Nat.reduceLeDiff, Nat.reduceLT, reduceCtorEq, h1, h2, Nat.mul_one, Nat.zero_add, Int.toNat_natCast, hgw, wC, bdo]
  refine goP_rm (G := B) hrw hB ?_ fun t' H' hr' hs' hg' => ?_
  · exact ⟨rfl, rfl, by decide, wid_eN _, wid_one rfl, by simp [sca, scalarV], by simp; omega, by simp; omega⟩
  have g1 := hg'.vars h1
  have g2 := hg'.vars h2
  have g3 := hg'.vars h3
  simp only [go_sem, reduceIte, Nat.reduceEqDiff, Nat.reduceAdd, Nat.reduceMul, Nat.reduceSub, Nat.reduceLeDiff, Nat.reduceLT, reduceCtorEq, g1, g2, Nat.mul_one, Nat.zero_add, Int.toNat_natCast, bdo]
  refine ⟨by omega, ?_⟩
  refine aw_sr rfl ?_  -- r9 @mark.go:76
  simp only [go_sem, reduceIte, Nat.reduceEqDiff, Nat.reduceAdd, Nat.reduceMul, Nat.reduceSub, Nat.reduceLeDiff, Nat.reduceLT, reduceCtorEq]
  refine aw_ret ⟨trivial, _, rfl, .inr (.inr (.inr ⟨i, _, t', hi, hpi, hbg, hov, hsw, h200, rfl, ?_, sub_hset_fresh hbw hs', hr'.hset g2 (fun _ _ e => by cases e), fun k t2 a1 a2 => ?_, fun x o hx ho hxo => ?_⟩))⟩
  · refine ⟨hset_keep (by first | exact g1 | (simp only [hbg] at g1 ⊢; exact g1)) hS.n1, ?_, hset_keep g3 (fun e => hS.n3 e.symm), by rw [List.length_set]; exact hS.lw, hS.lo, hS.n1, hS.n2, hS.n3⟩
    rw [hget_hset_self g2, List.map_set, addW, wC]
    simp only [List.map_append, List.map_cons, List.map_nil]
    rfl
  · obtain ⟨q1, q2⟩ := hg'.2 B k t2 a1 a2
    exact ⟨q1.hset g2 (fun _ _ e => by cases e), q2⟩
  · exact hset_keep (hg'.1 _ _ hxo ho) hx
end Go.Proofs.Ytacecjfpkdijpaa

/- What a side tells, and a new one. No conditions but sizes. -/
set_option linter.unusedSimpArgs false
set_option linter.unusedVariables false
namespace Go.Proofs.Ytacecjfpkdijpaa
open Go.Proofs.YtacecjfpkdijpaaV
set_option maxHeartbeats 2000000
set_option maxRecDepth 100000
namespace mk
def eW (w : W) : List V := [.sl (w.1.map eN) w.2.1 .no]
theorem wid_eW (l : List W) : wid 1 (l.map eW) := wid_map (g := eW) (fun _ => rfl) _
theorem isE_one {A : Type} (l : List A) (a : A) : (l ++ [a]).isEmpty = false := by cases l <;> rfl
def doneS (s : Sd) : Bool := s.begun && !(s.over.any fun x => false == x)
def tellV (s : Sd) : V := if doneS s = true then .tup [.int .i64 s.state, .sl (s.ways.map eW) s.ways.isEmpty .no, .int .i64 0] else .tup [.int .i64 0, .sl [] true .no, .int .i64 8]
theorem SideAt.sub {H H' : Heap} {bs bw bo : Nat} {ps : List Int} {pnl : Bool} {s : Sd} (h : SideAt H bs bw bo ps pnl s) (hs : Sub H H') : SideAt H' bs bw bo ps pnl s :=
  ⟨hs _ _ h.main, hs _ _ h.ways, hs _ _ h.over, h.lw, h.lo, h.n1, h.n2, h.n3⟩
end mk
open mk in
theorem q_Tell {G0 : Heap} {bs bw bo : Nat} {ps : List Int} {pnl : Bool} {s : Sd} (hS : SideAt G0 bs bw bo ps pnl s) (hps : ps.length ≤ 8) (hw : ∀ w ∈ s.ways, w.1.length ≤ 200 ∧ (w.2.1 = true → w.1 = [])) :
    QuietOn Try.prog G0 20 [.ptr bs 0] (tellV s) := by
  refine QuietOn.weak fun G hG => ?_
  replace hS := hS.sub hG
  have h1 := hS.main
  have h2 := hS.ways
  have h3 := hS.over
  have hlo := hS.lo
  have hlw := hS.lw
  have hC := q_ContainsB bo ps.length s.over false (by omega)
  rw [hlo] at hC
  refine acall_body (rs := [.tmp 2, .tmp 3, .tmp 4]) Try.func20 rfl rfl Try.ntmps20 (by kernel_rfl) (Nat.le_of_ble_eq_true rfl) ?_
  refine aw_sr rfl ?_  -- r0 @mark.go:80
  simp only [go_sem, reduceIte, Nat.reduceEqDiff, Nat.reduceAdd, Nat.reduceMul, Nat.reduceSub, Nat.reduceLeDiff, Nat.reduceLT, reduceCtorEq]
  refine aw_seq fun K8 hK8 => ?_
  refine aw_sr rfl ?_  -- r1 @mark.go:81
  simp only [go_sem, reduceIte, Nat.reduceEqDiff, Nat.reduceAdd, Nat.reduceMul, Nat.reduceSub, Nat.reduceLeDiff, Nat.reduceLT, reduceCtorEq, h1]
  refine goH_on (fun hg => hC) (sub_one h3) ?_
  simp only [go_sem, reduceIte, Nat.reduceEqDiff, Nat.reduceAdd, Nat.reduceMul, Nat.reduceSub, Nat.reduceLeDiff, Nat.reduceLT, reduceCtorEq]
  refine aw_if rfl (fun h => ?_) (fun h => ?_)
  · have hd : doneS s = false := by
      simp only [doneS]
      cases hb : s.begun with
      | false => rfl
      | true => rw [hb] at h; simpa using h
    refine aw_sr rfl ?_  -- r2 @mark.go:82
    simp only [go_sem, reduceIte, Nat.reduceEqDiff, Nat.reduceAdd, Nat.reduceMul, Nat.reduceSub, Nat.reduceLeDiff, Nat.reduceLT, reduceCtorEq]
    refine aw_ret ⟨trivial, _, rfl, ?_, sub_rfl⟩
    rw [tellV, if_neg (by rw [hd]; simp)]
    exact .tupL (.cons (Vle.refl _) (.cons .untag (.cons (Vle.refl _) .nil)))
  have hd : doneS s = true := by
    simp only [doneS]
    cases hb : s.begun with
    | false => rw [hb] at h; simp at h
    | true => rw [hb] at h; simpa using h
  refine aw_skip (hK8 _ _ ?_)
  refine aw_sr rfl ?_  -- r3 @mark.go:84
  simp only [go_sem, reduceIte, Nat.reduceEqDiff, Nat.reduceAdd, Nat.reduceMul, Nat.reduceSub, Nat.reduceLeDiff, Nat.reduceLT, reduceCtorEq]
  refine aw_seq fun K9 hK9 => ?_
  refine aw_sr rfl ?_  -- r4 @mark.go:85
  simp only [go_sem, reduceIte, Nat.reduceEqDiff, Nat.reduceAdd, Nat.reduceMul, Nat.reduceSub, Nat.reduceLeDiff, Nat.reduceLT, reduceCtorEq, h1]
  refine aw_range ps.length (S := Tag × Heap) (fun i s' => [(0, .ptr bs 0), (5, .sl ((s.ways.take i).map eW) (s.ways.take i).isEmpty s'.1), (23, .ms bw 0 ps.length ps.length)]) (fun _ s' => s'.2) (fun i s' => Rm G s'.2 1 s'.1 ∧ Sub G s'.2) (.full, G) (by omega) ?_ (fun _ _ h => h) ⟨Rm.start _ _ _, sub_rfl⟩ rfl (fun _ _ => rfl) ?_ ?_ (by decide)
  · simp only [go_sem, reduceIte, Nat.reduceEqDiff, Nat.reduceAdd, Nat.reduceMul, Nat.reduceSub, Nat.reduceLeDiff, Nat.reduceLT, reduceCtorEq, Int.natCast_zero, List.take_zero, List.map_nil, List.isEmpty_nil]
  · intro i ⟨t4, H⟩ hi ⟨hr, hs⟩
    simp only at hr hs ⊢
    have hiw : i < s.ways.length := by omega
    have htk : s.ways.take (i + 1) = s.ways.take i ++ [s.ways[i]] := List.take_succ_eq_append_getElem hiw
    have hgw : (s.ways.map wC)[i]? = some (wC s.ways[i]) := by rw [List.getElem?_map, List.getElem?_eq_getElem hiw]; rfl
    obtain ⟨hwl, hwn⟩ := hw _ (List.getElem_mem hiw)
    generalize s.ways[i] = w at htk hgw hwl hwn
    refine aw_sr rfl ?_  -- r6 @mark.go:85
    simp only [go_sem, reduceIte, Nat.reduceEqDiff, Nat.reduceAdd, Nat.reduceMul, Nat.reduceSub, Nat.reduceLeDiff, Nat.reduceLT, reduceCtorEq, hs _ _ h2, Nat.mul_one, Nat.zero_add, Int.toNat_natCast, hgw, wC]
    refine ⟨⟨by omega, by omega⟩, ?_⟩
    refine aw_rg rfl ?_  -- r7 @mark.go:86
    simp only [go_sem, reduceIte, Nat.reduceEqDiff, Nat.reduceAdd, Nat.reduceMul, Nat.reduceSub, Nat.reduceLeDiff, Nat.reduceLT, reduceCtorEq]
    refine goA_q (q_CloneN w.1 w.2.1 w.2.2 (by omega) hwn) ?_
    simp only [go_sem, reduceIte, Nat.reduceEqDiff, Nat.reduceAdd, Nat.reduceMul, Nat.reduceSub, Nat.reduceLeDiff, Nat.reduceLT, reduceCtorEq]
    refine goP_rm (G := G) hr hs ?_ fun t6 H6 hr6 hs6 hg6 => ?_
    · exact ⟨rfl, rfl, by decide, wid_eW _, wid_one rfl, by simp [sca, scalarV], by simp; omega, by simp; omega⟩
    simp only [go_sem, reduceIte, Nat.reduceEqDiff, Nat.reduceAdd, Nat.reduceMul, Nat.reduceSub, Nat.reduceLeDiff, Nat.reduceLT, reduceCtorEq]
    refine ⟨(t6, H6), ⟨hr6, hs6⟩, ?_, sub_rfl⟩
    rw [htk, isE_one, List.map_append, List.map_cons, List.map_nil, eW]
    exact ⟨rfl, rfl, rfl, rfl, rfl⟩
  intro ⟨t4, H⟩ ⟨hr, hs⟩
  simp only at hr hs ⊢
  rw [List.take_of_length_le (by omega)]
  refine hK9 _ _ ?_
  refine aw_sr rfl ?_  -- r9 @mark.go:88
  simp only [go_sem, reduceIte, Nat.reduceEqDiff, Nat.reduceAdd, Nat.reduceMul, Nat.reduceSub, Nat.reduceLeDiff, Nat.reduceLT, reduceCtorEq, hs _ _ h1]
  refine aw_ret ⟨trivial, _, rfl, ?_, hs⟩
  rw [tellV, if_pos hd]
  exact .tupL (.cons (Vle.refl _) (.cons .untag (.cons (Vle.refl _) .nil)))
namespace mk
def dupAt (ps : List Int) (i : Nat) : Bool := (ps.take i).any fun x => decide (ps.getD i 0 = x)
def dupP (ps : List Int) : Bool := (List.range ps.length).any fun i => dupAt ps i
def newE (ps : List Int) : Int := if 8 < ps.length then 2 else if dupP ps = true then 5 else 0
def sd0 (n : Nat) : Sd := ⟨false, 0, List.replicate n ([], true, .full), List.replicate n false⟩
theorem rep_one (n : Nat) (x : V) : (List.replicate n [x]).flatten = List.replicate n x := by
  induction n with
  | zero => rfl
  | succ n ih => rw [List.replicate_succ, List.flatten_cons, ih, List.replicate_succ]; rfl
theorem dup_take {ps : List Int} {i : Nat} (hi : i < ps.length) (h : ((List.range i).any fun j => dupAt ps j) = false) (h2 : dupAt ps i = false) : ((List.range (i + 1)).any fun j => dupAt ps j) = false := by
  rw [List.range_succ, List.any_append, h]; simp [h2]
theorem dup_hit {ps : List Int} {i : Nat} (hi : i < ps.length) (h : dupAt ps i = true) : dupP ps = true := List.any_eq_true.2 ⟨i, by simpa using hi, h⟩
end mk
open mk in
theorem a_New (G : Heap) (ps : List Int) (pnl : Bool) (t : Tag) (hl : ps.length ≤ 1048576) (hnl : pnl = true → ps = []) :
    ACall Try.prog 15 [.sl (ps.map eN) pnl t] (fun y G' => (newE ps ≠ 0 ∧ y = .tup [.nilp, .int .i64 (newE ps)] ∧ Sub G G') ∨ (newE ps = 0 ∧ ∃ bs bw bo, y = .tup [.ptr bs 0, .int .i64 0] ∧ SideAt G' bs bw bo ps pnl (sd0 ps.length) ∧ hget G bs = none ∧ hget G bw = none ∧ hget G bo = none ∧ Sub G G')) G := by
  refine acall_body (rs := [.tmp 2, .tmp 3]) Try.func15 rfl rfl Try.ntmps15 (by kernel_rfl) (Nat.le_of_ble_eq_true rfl) ?_
  refine aw_sr rfl ?_  -- r0 @mark.go:28
  simp only [go_sem, reduceIte, Nat.reduceEqDiff, Nat.reduceAdd, Nat.reduceMul, Nat.reduceSub, Nat.reduceLeDiff, Nat.reduceLT, reduceCtorEq]
  refine aw_seq fun K1 hK1 => ?_
  refine aw_sr rfl ?_  -- r1 @mark.go:29
  simp only [go_sem, reduceIte, Nat.reduceEqDiff, Nat.reduceAdd, Nat.reduceMul, Nat.reduceSub, Nat.reduceLeDiff, Nat.reduceLT, reduceCtorEq]
  refine aw_if rfl (fun h => ?_) (fun h => ?_)
  · have h8 : 8 < ps.length := by rw [decide_eq_true_eq] at h; omega
    have he : newE ps = 2 := if_pos h8
    refine aw_sr rfl ?_  -- r2 @mark.go:30
    simp only [go_sem, reduceIte, Nat.reduceEqDiff, Nat.reduceAdd, Nat.reduceMul, Nat.reduceSub, Nat.reduceLeDiff, Nat.reduceLT, reduceCtorEq]
    refine aw_ret ⟨trivial, _, rfl, .inl ⟨by rw [he]; decide, by rw [he]; rfl, sub_rfl⟩⟩
  have h8 : ¬ 8 < ps.length := by rw [decide_eq_false_iff_not] at h; omega
  have he : newE ps = if dupP ps = true then 5 else 0 := if_neg h8
  refine aw_skip (hK1 _ _ ?_)
  refine aw_seq fun K2 hK2 => ?_
  refine aw_sr rfl ?_  -- r3 @mark.go:32
  simp only [go_sem, reduceIte, Nat.reduceEqDiff, Nat.reduceAdd, Nat.reduceMul, Nat.reduceSub, Nat.reduceLeDiff, Nat.reduceLT, reduceCtorEq]
  refine aw_range ps.length (S := Unit) (fun i _ => [(0, .sl (ps.map eN) pnl t), (9, .sl (ps.map eN) pnl t)]) (fun _ _ => G) (fun i _ => ((List.range i).any fun j => dupAt ps j) = false) () (by omega) ?_ (fun _ _ h => h) rfl rfl (fun _ _ => rfl) ?_ ?_ (by decide)
  · simp only [go_sem, reduceIte, Nat.reduceEqDiff, Nat.reduceAdd, Nat.reduceMul, Nat.reduceSub, Nat.reduceLeDiff, Nat.reduceLT, reduceCtorEq, Int.natCast_zero]
  · intro i _ hi hd
    have hg : ps.getD i 0 = ps[i] := by rw [List.getD_eq_getElem?_getD, List.getElem?_eq_getElem hi]; rfl
    refine aw_sr rfl ?_  -- r5 @mark.go:32
    simp only [go_sem, reduceIte, Nat.reduceEqDiff, Nat.reduceAdd, Nat.reduceMul, Nat.reduceSub, Nat.reduceLeDiff, Nat.reduceLT, reduceCtorEq, getD_map hi, eN]
    refine ⟨⟨by omega, by omega, wid_eN _⟩, ?_⟩
    refine aw_sr rfl ?_  -- r6 @mark.go:33
    simp only [go_sem, reduceIte, Nat.reduceEqDiff, Nat.reduceAdd, Nat.reduceMul, Nat.reduceSub, Nat.reduceLeDiff, Nat.reduceLT, reduceCtorEq, Int.toNat_natCast, Int.toNat_zero, List.drop_zero, Nat.sub_zero, ← List.map_take]
    refine ⟨⟨⟨by omega, by omega⟩, wid_eN _⟩, ?_⟩
    refine goA_q (q_ContainsN (ps.take i) _ _ ps[i] (by rw [List.length_take]; omega)) ?_
    simp only [go_sem, reduceIte, Nat.reduceEqDiff, Nat.reduceAdd, Nat.reduceMul, Nat.reduceSub, Nat.reduceLeDiff, Nat.reduceLT, reduceCtorEq]
    refine aw_if rfl (fun h => ?_) (fun h => ?_)
    · have hh : dupAt ps i = true := by rw [dupAt, hg]; exact h
      refine aw_sr rfl ?_  -- r7 @mark.go:34
      simp only [go_sem, reduceIte, Nat.reduceEqDiff, Nat.reduceAdd, Nat.reduceMul, Nat.reduceSub, Nat.reduceLeDiff, Nat.reduceLT, reduceCtorEq]
      rw [if_pos (dup_hit hi hh)] at he
      refine aw_ret ⟨trivial, _, rfl, .inl ⟨by rw [he]; decide, by rw [he]; rfl, sub_rfl⟩⟩
    have hh : dupAt ps i = false := by rw [dupAt, hg]; exact h
    refine aw_skip ⟨(), by have := dup_take hi hd hh; rw [List.range_succ] at this; exact this, ?_, sub_rfl⟩
    simp only [go_sem, reduceIte, Nat.reduceEqDiff, Nat.reduceAdd, Nat.reduceMul, Nat.reduceSub, Nat.reduceLeDiff, Nat.reduceLT, reduceCtorEq]
  intro _ hd
  rw [if_neg (by rw [dupP, hd]; simp)] at he
  refine hK2 _ _ ?_
  refine aw_mid (fun f' G' => ∃ bs bw bo, FSub [(2, .ptr bs 0), (3, .int .i64 0)] f' ∧ SideAt G' bs bw bo ps pnl (sd0 ps.length) ∧ (hget G bs = none ∧ hget G bw = none ∧ hget G bo = none) ∧ Sub G G') ?_ ?_
  · refine aw_rgt [(0,true),(1,true),(2,true),(3,true),(4,false),(5,true),(6,true),(7,false),(8,true),(9,false),(10,true),(11,true)]
      (.fork2 [(0,true),(1,true),(2,true),(3,true),(5,true),(6,true)] 4 7 (.leaf [(7,false),(8,true),(9,false),(10,true),(11,true)]) (.leaf [(4,false),(8,true),(9,false),(10,true),(11,true)])) mixed rfl (by kernel_rfl) ?_  -- r9
    simp only [go_sem, reduceIte, Nat.reduceEqDiff, Nat.reduceAdd, Nat.reduceMul, Nat.reduceSub, Nat.reduceLeDiff, Nat.reduceLT, reduceCtorEq, goTr]
    refine goQ_by (q_CloneN ps pnl t hl hnl) ?_
    simp only [go_sem, reduceIte, Nat.reduceEqDiff, Nat.reduceAdd, Nat.reduceMul, Nat.reduceSub, Nat.reduceLeDiff, Nat.reduceLT, reduceCtorEq, goTr, Int.toNat_natCast]
    refine ⟨⟨⟨by omega, by omega, by omega, by omega⟩, ?_⟩, ⟨⟨by omega, by omega, by omega, by omega⟩, ?_⟩⟩
    · intro b26 hb26
      refine ⟨⟨by omega, by omega, by omega, by omega⟩, ?_⟩
      intro b29 hb29 b31 hb31
      obtain ⟨m1, c29⟩ := fresh_cons hb29
      obtain ⟨m2, hx⟩ := fresh_cons hb31
      obtain ⟨m3, c31⟩ := fresh_cons hx
      refine ⟨b31, b26, b29, ⟨rfl, rfl⟩, ⟨hget_self _ _ _, ?_, ?_, by simp [sd0], by simp [sd0], (by first | exact m3 | exact fun e => m3 e.symm), (by first | exact m2 | exact fun e => m2 e.symm), (by first | exact m1 | exact fun e => m1 e.symm)⟩, ⟨c31, hb26, c29⟩, sub_fresh c31 (sub_fresh c29 (sub_tail hb26))⟩
      · rw [hget_cons_ne (by first | exact m3 | exact fun e => m3 e.symm), hget_cons_ne (by first | exact m1 | exact fun e => m1 e.symm), hget_self, rep_one, sd0, List.map_replicate]; rfl
      · rw [hget_cons_ne (by first | exact m2 | exact fun e => m2 e.symm), hget_self, rep_one, sd0, List.map_replicate]
    · intro b29 hb29
      refine ⟨⟨by omega, by omega, by omega, by omega⟩, ?_⟩
      intro b26 hb26 b31 hb31
      obtain ⟨m1, c26⟩ := fresh_cons hb26
      obtain ⟨m2, hx⟩ := fresh_cons hb31
      obtain ⟨m3, c31⟩ := fresh_cons hx
      refine ⟨b31, b26, b29, ⟨rfl, rfl⟩, ⟨hget_self _ _ _, ?_, ?_, by simp [sd0], by simp [sd0], (by first | exact m2 | exact fun e => m2 e.symm), (by first | exact m3 | exact fun e => m3 e.symm), (by first | exact m1 | exact fun e => m1 e.symm)⟩, ⟨c31, c26, hb29⟩, sub_fresh c31 (sub_fresh c26 (sub_tail hb29))⟩
      · rw [hget_cons_ne (by first | exact m2 | exact fun e => m2 e.symm), hget_self, rep_one, sd0, List.map_replicate]; rfl
      · rw [hget_cons_ne (by first | exact m3 | exact fun e => m3 e.symm), hget_cons_ne (by first | exact m1 | exact fun e => m1 e.symm), hget_self, rep_one, sd0, List.map_replicate]
  intro f' G' ⟨bs, bw, bo, hf, hS, ⟨g1, g2, g3⟩, hs⟩
  refine AW.of_fsub hf ?_
  exact aw_ret ⟨trivial, _, rfl, .inr ⟨he, bs, bw, bo, rfl, hS, g1, g2, g3, hs⟩⟩
end Go.Proofs.Ytacecjfpkdijpaa

/- MarkSides: what a side holds beside what the law keeps. Pure, and as heaps. -/
set_option linter.unusedSimpArgs false
set_option linter.unusedVariables false
namespace Go.Proofs.Ytacecjfpkdijpaa
open Go.Proofs.YtacecjfpkdijpaaV
set_option maxHeartbeats 2000000
set_option maxRecDepth 100000
namespace mk
/-! ### Maps -/
abbrev M := List (Int × W)
def w0 : W := ([], true, .full)
def wOf : M → Int → W
  | [], _ => w0
  | q :: l, p => if q.1 = p then q.2 else wOf l p
def putM : M → Int → W → M
  | [], p, w => [(p, w)]
  | q :: l, p, w => if q.1 = p then (p, w) :: l else q :: putM l p w
theorem wOf_put (w : W) (p q : Int) : ∀ l : M, wOf (putM l p w) q = if q = p then w else wOf l q
  | [] => by
    simp only [putM, wOf]
    by_cases h : q = p
    · rw [if_pos h, if_pos h.symm]
    · rw [if_neg h, if_neg (fun e => h e.symm)]
  | a :: l => by
    simp only [putM]
    by_cases h1 : a.1 = p
    · rw [if_pos h1]
      simp only [wOf]
      by_cases h : q = p
      · rw [if_pos h, if_pos h.symm]
      · rw [if_neg h, if_neg (fun e => h e.symm), if_neg (by rw [h1]; exact fun e => h e.symm)]
    · rw [if_neg h1]
      simp only [wOf]
      by_cases h2 : a.1 = q
      · rw [if_pos h2, if_pos h2, if_neg (fun e => h1 (by rw [h2, e]))]
      · rw [if_neg h2, if_neg h2]; exact wOf_put w p q l
abbrev kvO (p : Int) : V × V := (.int .i64 p, .bool true)
abbrev kvW (q : Int × W) : V × V := (.int .i64 q.1, wC q.2)
theorem find_O {p : Int} : ∀ {l : List Int} {i : Nat}, ¬ p ∈ l → mfind (.int .i64 p) (l.map kvO) i = some none
  | [], i, _ => rfl
  | q :: l, i, h => by
    have h1 : ¬ p = q := fun e => h (by rw [e]; simp)
    simp only [List.map_cons, mfind, keyEq, decide_eq_false h1]
    exact find_O fun hp => h (by simp [hp])
theorem look_O (p : Int) : ∀ (l : List Int) (i : Nat), lkF false (.bool false) (mfind (.int .i64 p) (l.map kvO) i) = some (True, .bool (decide (p ∈ l)))
  | [], i => rfl
  | q :: l, i => by
    simp only [List.map_cons, mfind, keyEq]
    by_cases h : p = q
    · rw [decide_eq_true h, decide_eq_true (by rw [h]; simp)]; rfl
    · rw [decide_eq_false h]
      refine (look_O p l (i + 1)).trans ?_
      have : (p ∈ l) = (p ∈ q :: l) := by simp [h]
      simp only [this]
theorem look_W (p : Int) : ∀ (l : M) (i : Nat), lkF false (.sl [] true .full) (mfind (.int .i64 p) (l.map kvW) i) = some (True, wC (wOf l p))
  | [], i => rfl
  | q :: l, i => by
    simp only [List.map_cons, mfind, keyEq, wOf, if_true]
    by_cases h : p = q.1
    · rw [decide_eq_true h, if_pos h.symm]; rfl
    · rw [decide_eq_false h, if_neg (fun e => h e.symm)]
      exact look_W p l (i + 1)
/-- Where a way is put. -/
theorem put_W (p : Int) (w : W) : ∀ (l : M) (i : Nat), (mfind (.int .i64 p) (l.map kvW) i = some none ∧ putM l p w = l ++ [(p, w)] ∧ wOf l p = w0) ∨ ∃ j, ∃ h : j < l.length, mfind (.int .i64 p) (l.map kvW) i = some (some (i + j, wC l[j].2)) ∧ putM l p w = l.set j (p, w) ∧ wOf l p = l[j].2
  | [], i => .inl ⟨rfl, rfl, rfl⟩
  | q :: l, i => by
    simp only [List.map_cons, mfind, keyEq, wOf, putM, if_true]
    by_cases h : p = q.1
    · rw [decide_eq_true h, if_pos h.symm, if_pos h.symm]
      exact .inr ⟨0, by simp, rfl, rfl, rfl⟩
    · rw [decide_eq_false h, if_neg (fun e => h e.symm), if_neg (fun e => h e.symm)]
      rcases put_W p w l (i + 1) with ⟨h1, h2, h3⟩ | ⟨j, hj, h1, h2, h3⟩
      · exact .inl ⟨h1, by rw [h2]; rfl, h3⟩
      · exact .inr ⟨j + 1, by simp; omega, by rw [show i + (j + 1) = i + 1 + j from by omega]; exact h1, by rw [h2]; rfl, h3⟩
/-! ### Rooms of several slices -/
def Rooms (B H : Heap) (T : List Tag) : Prop := (∀ i (h : i < T.length), Rm B H 1 T[i]) ∧ ∀ i j (hi : i < T.length) (hj : j < T.length), ¬ i = j → Dis T[i] T[j]
theorem Rooms.mono {B H H' : Heap} {T : List Tag} (h : Rooms B H T) (hk : ∀ t, Rm B H 1 t → Rm B H' 1 t) : Rooms B H' T := ⟨fun i hi => hk _ (h.1 i hi), h.2⟩
theorem Rooms.set {B H H' : Heap} {T : List Tag} {i : Nat} {t' : Tag} (h : Rooms B H T) (hi : i < T.length) (hr : Rm B H' 1 t') (hg : ∀ t2, Rm B H 1 t2 → Dis T[i] t2 → Rm B H' 1 t2 ∧ Dis t' t2) : Rooms B H' (T.set i t') := by
  refine ⟨fun j hj => ?_, fun j k hj hk hjk => ?_⟩
  · rw [List.getElem_set]
    split
    · exact hr
    · rename_i hn
      have hj' : j < T.length := by simpa using hj
      exact (hg _ (h.1 j hj') (h.2 i j hi hj' hn)).1
  · have hj' : j < T.length := by simpa using hj
    have hk' : k < T.length := by simpa using hk
    rw [List.getElem_set, List.getElem_set]
    by_cases e1 : i = j
    · rw [if_pos e1, if_neg (fun e => hjk (by omega))]
      exact (hg _ (h.1 k hk') (h.2 i k hi hk' (fun e => hjk (by omega)))).2
    · rw [if_neg e1]
      by_cases e2 : i = k
      · rw [if_pos e2]
        exact (hg _ (h.1 j hj') (h.2 i j hi hj' e1)).2.symm
      · rw [if_neg e2]
        exact h.2 j k hj' hk' hjk
theorem Rooms.push {B H H' : Heap} {T : List Tag} {t' : Tag} (h : Rooms B H T) (hr : Rm B H' 1 t') (hg : ∀ t2, Rm B H 1 t2 → Rm B H' 1 t2 ∧ Dis t' t2) : Rooms B H' (T ++ [t']) := by
  have key : ∀ j (hj : j < (T ++ [t']).length), (∃ h : j < T.length, (T ++ [t'])[j] = T[j]) ∨ (j = T.length ∧ (T ++ [t'])[j] = t') := by
    intro j hj
    by_cases h1 : j < T.length
    · exact .inl ⟨h1, List.getElem_append_left h1⟩
    · have : j = T.length := by simp at hj; omega
      subst this
      exact .inr ⟨rfl, by simp⟩
  refine ⟨fun j hj => ?_, fun j k hj hk hjk => ?_⟩
  · rcases key j hj with ⟨h1, e⟩ | ⟨_, e⟩
    · rw [e]; exact (hg _ (h.1 j h1)).1
    · rw [e]; exact hr
  · rcases key j hj with ⟨h1, e⟩ | ⟨j1, e⟩ <;> rcases key k hk with ⟨h2, f⟩ | ⟨k1, f⟩
    · rw [e, f]; exact h.2 j k h1 h2 hjk
    · rw [e, f]; exact (hg _ (h.1 j h1)).2.symm
    · rw [e, f]; exact (hg _ (h.1 k h2)).2
    · exact absurd (by omega) hjk
/-! ### What lies in the heap -/
structure X where
  s : Sd
  O : List Int
  M : M
def tgs (x : X) : List Tag := x.s.ways.map (·.2.2) ++ x.M.map (·.2.2.2)
structure Lay (B H : Heap) (bs bw bo m1 m2 : Nat) (ps : List Int) (pnl : Bool) (x : X) : Prop where
  side : SideAt H bs bw bo ps pnl x.s
  over : hget H m1 = some (.map (x.O.map kvO))
  ways : hget H m2 = some (.map (x.M.map kvW))
  sub : Sub B H
  fs : hget B bs = none ∧ hget B bw = none ∧ hget B bo = none ∧ hget B m1 = none ∧ hget B m2 = none
  ne : ¬ m1 = m2
  rooms : Rooms B H (tgs x)
theorem Rm.keep {B H H' : Heap} {n : Nat} {t : Tag} (h : Rm B H n t) (hk : ∀ b e c, hget H b = some (.top e c) → hget H' b = some (.top e c)) : Rm B H' n t := by
  rcases h with h | ⟨b, e, c, h1, h2, h3⟩
  · exact .inl h
  · exact .inr ⟨b, e, c, h1, hk _ _ _ h2, h3⟩
theorem Lay.up {B H H' : Heap} {bs bw bo m1 m2 : Nat} {ps : List Int} {pnl : Bool} {x : X} (h : Lay B H bs bw bo m1 m2 ps pnl x) (hs : Sub H H') : Lay B H' bs bw bo m1 m2 ps pnl x :=
  ⟨h.side.sub hs, hs _ _ h.over, hs _ _ h.ways, sub_trans h.sub hs, h.fs, h.ne, h.rooms.mono fun t ht => ht.sub hs⟩
/-- The side's own variables are written, no way among them. -/
theorem Lay.side' {B H H' : Heap} {bs bw bo m1 m2 : Nat} {ps : List Int} {pnl : Bool} {x : X} (h : Lay B H bs bw bo m1 m2 ps pnl x) {s' : Sd} (hS : SideAt H' bs bw bo ps pnl s') (hw : s'.ways = x.s.ways) (hk : ∀ y, ¬ y = bs → ¬ y = bo → hget H' y = hget H y) : Lay B H' bs bw bo m1 m2 ps pnl { x with s := s' } := by
  have ns : ∀ {y o}, hget H y = some o → (∀ cs, o ≠ .vars cs) → hget H' y = some o := fun {y o} hy ho => by
    rw [hk y (fun e => ?_) (fun e => ?_)]
    · exact hy
    · subst e; rw [h.side.main] at hy; cases hy; exact ho _ rfl
    · subst e; rw [h.side.over] at hy; cases hy; exact ho _ rfl
  refine ⟨hS, ns h.over (fun _ e => by cases e), ns h.ways (fun _ e => by cases e), fun y o hy => ?_, h.fs, h.ne, ?_⟩
  · rw [hk y (fun e => ?_) (fun e => ?_)]
    · exact h.sub _ _ hy
    · subst e; rw [h.fs.1] at hy; cases hy
    · subst e; rw [h.fs.2.2.1] at hy; cases hy
  · rw [tgs]; simp only [hw]
    exact h.rooms.mono fun t ht => Rm.keep ht fun b e c hb => ns hb (fun _ q => by cases q)
theorem SideAt.mset {H : Heap} {bs bw bo b : Nat} {ps : List Int} {pnl : Bool} {s : Sd} {kvs : List (V × V)} {o : AObj} (h : SideAt H bs bw bo ps pnl s) (hb : hget H b = some (.map kvs)) : SideAt (hset H b o) bs bw bo ps pnl s := by
  have ns : ∀ {y cs}, hget H y = some (.vars cs) → hget (hset H b o) y = some (.vars cs) := fun {y cs} hy => hset_keep hy (fun e => by subst e; rw [hb] at hy; cases hy)
  exact ⟨ns h.main, ns h.ways, ns h.over, h.lw, h.lo, h.n1, h.n2, h.n3⟩
theorem Lay.putO {B H : Heap} {bs bw bo m1 m2 : Nat} {ps : List Int} {pnl : Bool} {x : X} (h : Lay B H bs bw bo m1 m2 ps pnl x) (p : Int) : Lay B (hset H m1 (.map ((x.O ++ [p]).map kvO))) bs bw bo m1 m2 ps pnl { x with O := x.O ++ [p] } :=
  ⟨h.side.mset h.over, hget_hset_self h.over, hset_keep h.ways (fun e => h.ne e.symm), sub_hset_fresh h.fs.2.2.2.1 h.sub, h.fs, h.ne, h.rooms.mono fun t ht => ht.hset h.over (fun _ _ e => by cases e)⟩
theorem Lay.grow {B H H1 : Heap} {bs bw bo m1 m2 : Nat} {ps : List Int} {pnl : Bool} {x : X} (h : Lay B H bs bw bo m1 m2 ps pnl x) {t t' : Tag} (hg : Grow H t H1 t') : SideAt H1 bs bw bo ps pnl x.s ∧ hget H1 m1 = some (.map (x.O.map kvO)) ∧ hget H1 m2 = some (.map (x.M.map kvW)) :=
  ⟨⟨hg.vars h.side.main, hg.vars h.side.ways, hg.vars h.side.over, h.side.lw, h.side.lo, h.side.n1, h.side.n2, h.side.n3⟩, hg.map h.over, hg.map h.ways⟩
theorem Lay.putW {B H H1 : Heap} {bs bw bo m1 m2 : Nat} {ps : List Int} {pnl : Bool} {x : X} (h : Lay B H bs bw bo m1 m2 ps pnl x) {p : Int} {t' : Tag} (hr : Rm B H1 1 t') (hs : Sub B H1) (hg : Grow H (wOf x.M p).2.2 H1 t') (l : List Int) : Lay B (hset H1 m2 (.map ((putM x.M p (l, false, t')).map kvW))) bs bw bo m1 m2 ps pnl { x with M := putM x.M p (l, false, t') } := by
  obtain ⟨g1, g2, g3⟩ := h.grow hg
  refine ⟨g1.mset g3, hset_keep g2 h.ne, hget_hset_self g3, sub_hset_fresh h.fs.2.2.2.2 hs, h.fs, h.ne, ?_⟩
  have nt : ∀ e c, AObj.map (x.M.map kvW) ≠ .top e c := fun _ _ e => by cases e
  have hrm := h.rooms
  rcases put_W p (l, false, t') x.M 0 with ⟨_, h2, h3⟩ | ⟨j, hj, _, h2, h3⟩
  · have e : tgs { x with M := putM x.M p (l, false, t') } = tgs x ++ [t'] := by
      simp only [tgs, h2, List.map_append, List.append_assoc, List.map_cons, List.map_nil]
    rw [e]
    refine hrm.push (hr.hset g3 nt) fun t2 ht2 => ?_
    obtain ⟨q1, q2⟩ := hg.2 B 1 t2 ht2 (by rw [h3]; exact Dis.full' _)
    exact ⟨q1.hset g3 nt, q2⟩
  · have e : tgs { x with M := putM x.M p (l, false, t') } = (tgs x).set (x.s.ways.length + j) t' := by
      simp only [tgs, h2, List.map_set]
      rw [List.set_append_right _ _ (by simp), List.length_map, Nat.add_sub_cancel_left]
    have hi : x.s.ways.length + j < (tgs x).length := by rw [tgs, List.length_append, List.length_map, List.length_map]; omega
    have et : (tgs x)[x.s.ways.length + j] = (wOf x.M p).2.2 := by
      rw [h3]
      simp only [tgs]
      rw [List.getElem_append_right (by simp)]
      simp
    rw [e]
    refine hrm.set hi (hr.hset g3 nt) fun t2 ht2 hd => ?_
    rw [et] at hd
    obtain ⟨q1, q2⟩ := hg.2 B 1 t2 ht2 hd
    exact ⟨q1.hset g3 nt, q2⟩
/-- A way of the side is written on. -/
theorem Lay.putS {B H H1 : Heap} {bs bw bo m1 m2 : Nat} {ps : List Int} {pnl : Bool} {x : X} (h : Lay B H bs bw bo m1 m2 ps pnl x) {i : Nat} {w : W} {n : Int} {t' : Tag} (hi : x.s.ways[i]? = some w)
    (hS : SideAt H1 bs bw bo ps pnl { x.s with ways := x.s.ways.set i (addW w n t') }) (hs : Sub B H1) (hr : Rm B H1 1 t') (hg : ∀ k t2, Rm B H k t2 → Dis w.2.2 t2 → Rm B H1 k t2 ∧ Dis t' t2) (hk : ∀ y o, ¬ y = bw → (∀ e c, o ≠ .top e c) → hget H y = some o → hget H1 y = some o) :
    Lay B H1 bs bw bo m1 m2 ps pnl { x with s := { x.s with ways := x.s.ways.set i (addW w n t') } } := by
  have hl : i < x.s.ways.length := by
    rcases Nat.lt_or_ge i x.s.ways.length with h1 | h1
    · exact h1
    · rw [List.getElem?_eq_none h1] at hi; cases hi
  have hw : x.s.ways[i] = w := by rw [List.getElem?_eq_getElem hl] at hi; exact Option.some.inj hi
  refine ⟨hS, hk _ _ (fun e => ?_) (fun _ _ q => by cases q) h.over, hk _ _ (fun e => ?_) (fun _ _ q => by cases q) h.ways, hs, h.fs, h.ne, ?_⟩
  · have := h.over; rw [e, h.side.ways] at this; cases this
  · have := h.ways; rw [e, h.side.ways] at this; cases this
  · have e : tgs { x with s := { x.s with ways := x.s.ways.set i (addW w n t') } } = (tgs x).set i t' := by
      simp only [tgs, List.map_set, addW]
      rw [List.set_append_left _ _ (by simpa using hl)]
    have hi2 : i < (tgs x).length := by rw [tgs, List.length_append, List.length_map]; omega
    have et : (tgs x)[i] = w.2.2 := by
      simp only [tgs]
      rw [List.getElem_append_left (by simpa using hl)]
      simp [hw]
    rw [e]
    refine h.rooms.set hi2 hr fun t2 ht2 hd => ?_
    rw [et] at hd
    exact hg 1 t2 ht2 hd
/-! ### What the law keeps -/
structure XOk (ps : List Int) (x : X) : Prop where
  ov : ∀ i (h : i < ps.length), x.s.over[i]? = some (decide (ps[i] ∈ x.O))
  cnt : x.O.length = x.s.over.count true
  lo : x.s.over.length = ps.length
  wy : ∀ i (h : i < ps.length), (x.s.ways[i]?).map (·.1) = some (wOf x.M ps[i]).1
  lim : ∀ w ∈ x.s.ways, w.1.length ≤ 200 ∧ (w.2.1 = true → w.1 = [])
def Inj (ps : List Int) : Prop := ∀ i j (hi : i < ps.length) (hj : j < ps.length), ps[i] = ps[j] → i = j
theorem inj_of {ps : List Int} (h : dupP ps = false) : Inj ps := by
  have key : ∀ i j (hi : i < ps.length) (hj : j < ps.length), i < j → ¬ ps[i] = ps[j] := by
    intro i j hi hj hij e
    have : dupP ps = true := by
      refine List.any_eq_true.2 ⟨j, by simpa using hj, ?_⟩
      refine List.any_eq_true.2 ⟨ps[i], ?_, ?_⟩
      · rw [List.mem_take_iff_getElem]
        exact ⟨i, by omega, rfl⟩
      · rw [List.getD_eq_getElem?_getD, List.getElem?_eq_getElem hj]
        simpa using e.symm
    rw [h] at this; cases this
  intro i j hi hj e
  rcases Nat.lt_trichotomy i j with h1 | h1 | h1
  · exact absurd e (key i j hi hj h1)
  · exact h1
  · exact absurd e.symm (key j i hj hi h1)
theorem XOk.start (ps : List Int) : XOk ps ⟨sd0 ps.length, [], []⟩ := by
  refine ⟨fun i h => ?_, ?_, by simp [sd0], fun i h => ?_, fun w hw => ?_⟩
  · simp only [sd0]; rw [List.getElem?_replicate_of_lt h]; rfl
  · simp only [sd0]; rw [List.count_replicate]; rfl
  · simp only [sd0]; rw [List.getElem?_replicate_of_lt h]; rfl
  · obtain ⟨_, rfl⟩ := List.mem_replicate.1 hw
    exact ⟨by simp, fun _ => rfl⟩
theorem XOk.begin {ps : List Int} {x : X} (h : XOk ps x) (b : Bool) (k : Int) : XOk ps { x with s := { x.s with begun := b, state := k } } := ⟨h.ov, h.cnt, h.lo, h.wy, h.lim⟩
theorem count_set {l : List Bool} {i : Nat} (h : l[i]? = some false) : (l.set i true).count true = l.count true + 1 := by
  induction l generalizing i with
  | nil => simp at h
  | cons a l ih =>
    cases i with
    | zero => simp at h; subst h; simp
    | succ i =>
      simp at h
      rw [List.set_cons_succ, List.count_cons, List.count_cons, ih h]; omega
theorem XOk.mark {ps : List Int} {x : X} (h : XOk ps x) (hj : Inj ps) {i : Nat} (hi : i < ps.length) (hv : x.s.over[i]? = some false) (b : Bool) (k : Int) : XOk ps { s := { x.s with begun := b, state := k, over := x.s.over.set i true }, O := x.O ++ [ps[i]], M := x.M } := by
  refine ⟨fun j hjl => ?_, ?_, by simpa using h.lo, h.wy, h.lim⟩
  · simp only
    rw [List.getElem?_set]
    by_cases e : i = j
    · subst e
      rw [if_pos rfl, if_pos (by rw [h.lo]; exact hi)]
      simp
    · rw [if_neg e, h.ov j hjl]
      have : (ps[j] ∈ x.O ++ [ps[i]]) = (ps[j] ∈ x.O) := by
        have : ¬ ps[j] = ps[i] := fun q => e (hj j i hjl hi q).symm
        simp [this]
      simp only [this]
  · simp only
    rw [count_set hv, List.length_append, h.cnt]; rfl
theorem XOk.way {ps : List Int} {x : X} (h : XOk ps x) (hj : Inj ps) {i : Nat} (hi : i < ps.length) {w : W} (hw : x.s.ways[i]? = some w) (hl : w.1.length < 200) (n : Int) (t t2 : Tag) : XOk ps { s := { x.s with ways := x.s.ways.set i (addW w n t) }, O := x.O, M := putM x.M ps[i] ((wOf x.M ps[i]).1 ++ [n], false, t2) } := by
  have hil : i < x.s.ways.length := by
    rcases Nat.lt_or_ge i x.s.ways.length with h1 | h1
    · exact h1
    · rw [List.getElem?_eq_none h1] at hw; cases hw
  refine ⟨h.ov, h.cnt, h.lo, fun j hjl => ?_, fun v hv => ?_⟩
  · simp only
    rw [List.getElem?_set, wOf_put]
    by_cases e : i = j
    · subst e
      rw [if_pos rfl, if_pos hil, if_pos rfl]
      have := h.wy i hi
      rw [hw] at this
      simp only [Option.map_some, Option.some.injEq, addW] at this ⊢
      rw [this]
    · rw [if_neg e, if_neg (fun q => e (hj j i hjl hi q).symm)]
      exact h.wy j hjl
  · rcases List.mem_or_eq_of_mem_set hv with h1 | h1
    · exact h.lim v h1
    · subst h1
      simp only [addW, List.length_append, List.length_cons, List.length_nil]
      exact ⟨by omega, fun q => by cases q⟩
theorem XOk.done {ps : List Int} {x : X} (h : XOk ps x) : (x.s.over.any fun b => false == b) = decide (x.O.length < ps.length) := by
  rw [h.cnt, ← h.lo]
  generalize x.s.over = l
  induction l with
  | nil => rfl
  | cons a l ih =>
    rw [List.any_cons, ih, List.count_cons, List.length_cons]
    have := List.count_le_length (a := true) (l := l)
    cases a <;> simp <;> omega
abbrev Act := Int × Int × (List UInt8 × Bool) × (List Int × Bool)
abbrev cAct (a : Act) : List V := [.int .i64 a.1, .int .i64 a.2.1, .sl (bytesV a.2.2.1.1) a.2.2.1.2 .no, .sl (a.2.2.2.1.map eN) a.2.2.2.2 .no]
def eAct (a : Act) : List V := cAct a
theorem wid_eAct (l : List Act) : wid 4 (l.map eAct) := wid_map (g := eAct) (fun _ => rfl) _
end mk
end Go.Proofs.Ytacecjfpkdijpaa

/- MarkSides: the law, over data. No conditions but sizes. -/
set_option linter.unusedSimpArgs false
set_option linter.unusedVariables false
namespace Go.Proofs.Ytacecjfpkdijpaa
open Go.Proofs.YtacecjfpkdijpaaV
set_option maxHeartbeats 8000000
set_option maxRecDepth 100000
namespace mk
theorem sub_keep {B H H' : Heap} {b : Nat} (hs : Sub B H) (hb : hget B b = none) (hk : ∀ x, ¬ x = b → hget H' x = hget H x) : Sub B H' := fun y o hy => by
  rw [hk y (fun e => by subst e; rw [hb] at hy; cases hy)]
  exact hs _ _ hy
def wantN (ps : List Int) (i : Nat) : Int := if ((List.range i).any fun j => dupAt ps j) = true then 5 else 0
theorem wantN_succ (ps : List Int) (i : Nat) : wantN ps (i + 1) = if dupAt ps i = true then 5 else wantN ps i := by
  rw [wantN, wantN, List.range_succ, List.any_append]
  cases h1 : (List.range i).any fun j => dupAt ps j <;> cases h2 : dupAt ps i <;> simp [h2]
theorem newE_want (ps : List Int) : newE ps = if 8 < ps.length then 2 else wantN ps ps.length := rfl
theorem in_iff (ps : List Int) (n : Int) : (ps.any fun x => decide (n = x)) = decide (n ∈ ps) := by
  induction ps with
  | nil => rfl
  | cons a l ih => rw [List.any_cons, ih]; simp
theorem Lay.room {B H : Heap} {bs bw bo m1 m2 : Nat} {ps : List Int} {pnl : Bool} {x : X} (h : Lay B H bs bw bo m1 m2 ps pnl x) (p : Int) : Rm B H 1 (wOf x.M p).2.2 := by
  rcases put_W p w0 x.M 0 with ⟨_, _, h3⟩ | ⟨j, hj, _, _, h3⟩
  · rw [h3]; exact .inl rfl
  · have := h.rooms.1 (x.s.ways.length + j) (by rw [tgs, List.length_append, List.length_map, List.length_map]; omega)
    simp only [tgs] at this
    rw [List.getElem_append_right (by simp)] at this
    rw [h3]
    simpa using this
theorem Lay.rooms' {B H : Heap} {bs bw bo m1 m2 : Nat} {ps : List Int} {pnl : Bool} {x : X} (h : Lay B H bs bw bo m1 m2 ps pnl x) {w : W} (hw : w ∈ x.s.ways) : Rm B H 1 w.2.2 := by
  obtain ⟨j, hj, e⟩ := List.getElem_of_mem hw
  have := h.rooms.1 j (by rw [tgs, List.length_append, List.length_map]; omega)
  simp only [tgs] at this
  rw [List.getElem_append_left (by simpa using hj)] at this
  simpa [e] using this
theorem put_W2 (p k : Int) (t' : Tag) (l : List Int) (m : M) : ∃ r, mfind (.int .i64 p) (m.map kvW) 0 = some r ∧ mput (m.map kvW) (.int .i64 p) (.sl (l.map eN ++ [[.int .i64 k]]) false t') r = (putM m p (l ++ [k], false, t')).map kvW := by
  have e : V.sl (l.map eN ++ [[.int .i64 k]]) false t' = wC (l ++ [k], false, t') := by rw [wC, List.map_append]; rfl
  rw [e]
  rcases put_W p (l ++ [k], false, t') m 0 with ⟨h1, h2, _⟩ | ⟨j, hj, h1, h2, _⟩
  · exact ⟨_, h1, by rw [h2, List.map_append]; rfl⟩
  · refine ⟨_, h1, ?_⟩
    rw [h2, List.map_set, mput, Nat.zero_add]
theorem cases_at {ps : List Int} {x : X} (hX : XOk ps x) (n : Int) : (∀ q ∈ ps, ¬ n = q) ∨ ∃ j, ∃ hj : j < ps.length, ps[j] = n ∧ ∃ w, x.s.ways[j]? = some w ∧ w.1 = (wOf x.M n).1 ∧ w.1.length ≤ 200 ∧ (w.2.1 = true → w.1 = []) ∧ x.s.over[j]? = some (decide (n ∈ x.O)) := by
  by_cases h : n ∈ ps
  · obtain ⟨j, hj, e⟩ := List.getElem_of_mem h
    refine .inr ⟨j, hj, e, ?_⟩
    have h1 := hX.wy j hj
    cases hw : x.s.ways[j]? with
    | none => rw [hw] at h1; cases h1
    | some w =>
      rw [hw, e] at h1
      have h2 := hX.lim w (List.mem_of_getElem? hw)
      exact ⟨w, rfl, by simpa using h1, h2.1, h2.2, by rw [hX.ov j hj, e]⟩
  · exact .inl fun q hq e => h (e ▸ hq)
theorem ik : ((IntKind.i64 == IntKind.i64) = true) = True := eq_true rfl
end mk
open mk in
theorem law0_MarkSides (ps : List Int) (pnl : Bool) (acts : List mk.Act) (anl : Bool) (hps : ps.length ≤ 1048576) (hnl : pnl = true → ps = []) (ha : acts.length ≤ 1048576) (hda : ∀ a ∈ acts, a.2.2.1.1.length ≤ 1048576) :
    Quiet Try.prog 3 [.sl (ps.map eN) pnl .no, .sl (acts.map eAct) anl .no] (.bool true) := by
  refine Quiet.weak fun G => ?_
  refine acall_body (rs := [.tmp 4]) Try.func3 rfl rfl Try.ntmps3 (by kernel_rfl) (Nat.le_of_ble_eq_true rfl) ?_
  refine aw_sr rfl ?_  -- r0 @low.go:196
  simp only [go_sem, reduceIte, Nat.reduceEqDiff, Nat.reduceAdd, Nat.reduceMul, Nat.reduceSub, Nat.reduceLeDiff, Nat.reduceLT, reduceCtorEq]
  refine aw_seq fun K1 hK1 => ?_
  refine aw_sr rfl ?_  -- r1 @low.go:197
  simp only [go_sem, reduceIte, Nat.reduceEqDiff, Nat.reduceAdd, Nat.reduceMul, Nat.reduceSub, Nat.reduceLeDiff, Nat.reduceLT, reduceCtorEq]
  have hN := a_New G [] true .full (by simp) (fun _ => rfl)
  refine goA_by hN fun y G1 hy => ?_
  rcases hy with ⟨he, _⟩ | ⟨_, bs, bw, bo, rfl, hS, c1, c2, c3, hs1⟩
  · exact absurd rfl he
  simp only [go_sem, reduceIte, Nat.reduceEqDiff, Nat.reduceAdd, Nat.reduceMul, Nat.reduceSub, Nat.reduceLeDiff, Nat.reduceLT, reduceCtorEq]
  refine aw_sr rfl ?_  -- r2 @low.go:197
  simp only [go_sem, reduceIte, Nat.reduceEqDiff, Nat.reduceAdd, Nat.reduceMul, Nat.reduceSub, Nat.reduceLeDiff, Nat.reduceLT, reduceCtorEq]
  refine goH_by (fun _ => a_Begin hS 3) (fun y G2 hy => ?_) (fun e => by simp at e)
  obtain ⟨rfl, hS2, hk2⟩ := hy
  have b0 : (sd0 0).begun = false := rfl
  simp only [go_sem, reduceIte, Nat.reduceEqDiff, Nat.reduceAdd, Nat.reduceMul, Nat.reduceSub, Nat.reduceLeDiff, Nat.reduceLT, reduceCtorEq, b0, Bool.false_eq_true, if_false]
  refine goH_by (fun _ => a_Begin hS2 3) (fun y G3 hy => ?_) (fun e => by simp [b0] at e)
  obtain ⟨rfl, hS3, hk3⟩ := hy
  simp only [go_sem, reduceIte, Nat.reduceEqDiff, Nat.reduceAdd, Nat.reduceMul, Nat.reduceSub, Nat.reduceLeDiff, Nat.reduceLT, reduceCtorEq]
  have hsG := sub_keep (sub_keep hs1 c1 hk2) c1 hk3
  clear hS hS2 hS3 hk2 hk3 hs1 c1 c2 c3 hN
  refine aw_if rfl (fun h => by simp [b0] at h) (fun _ => ?_)
  clear b0
  refine aw_skip (hK1 _ _ ?_)
  refine aw_sr rfl ?_  -- r4 @low.go:200
  simp only [go_sem, reduceIte, Nat.reduceEqDiff, Nat.reduceAdd, Nat.reduceMul, Nat.reduceSub, Nat.reduceLeDiff, Nat.reduceLT, reduceCtorEq]
  refine goA_by (a_New G3 ps pnl .no hps hnl) fun y G4 hy => ?_
  obtain ⟨sv, rfl, hy0, hy1, hs4⟩ : ∃ sv, y = .tup [sv, .int .i64 (newE ps)] ∧ (newE ps ≠ 0 → sv = .nilp) ∧ (newE ps = 0 → ∃ bs bw bo, sv = .ptr bs 0 ∧ SideAt G4 bs bw bo ps pnl (sd0 ps.length) ∧ hget G3 bs = none ∧ hget G3 bw = none ∧ hget G3 bo = none) ∧ Sub G3 G4 := by
    rcases hy with ⟨he, rfl, hs⟩ | ⟨he, bs, bw, bo, rfl, hS, c1, c2, c3, hs⟩
    · exact ⟨_, rfl, fun _ => rfl, fun e => absurd e he, hs⟩
    · exact ⟨.ptr bs 0, by rw [he], fun e => absurd he e, fun _ => ⟨bs, bw, bo, rfl, hS, c1, c2, c3⟩, hs⟩
  simp only [go_sem, reduceIte, Nat.reduceEqDiff, Nat.reduceAdd, Nat.reduceMul, Nat.reduceSub, Nat.reduceLeDiff, Nat.reduceLT, reduceCtorEq]
  refine aw_sr rfl ?_  -- r5 @low.go:201
  simp only [go_sem, reduceIte, Nat.reduceEqDiff, Nat.reduceAdd, Nat.reduceMul, Nat.reduceSub, Nat.reduceLeDiff, Nat.reduceLT, reduceCtorEq]
  refine aw_seq fun K2 hK2 => ?_
  refine aw_sr rfl ?_  -- r6 @low.go:202
  simp only [go_sem, reduceIte, Nat.reduceEqDiff, Nat.reduceAdd, Nat.reduceMul, Nat.reduceSub, Nat.reduceLeDiff, Nat.reduceLT, reduceCtorEq]
  have hw0 : wantN ps 0 = 0 := rfl
  have hnw := newE_want ps
  generalize newE ps = ev at hy0 hy1 hnw
  refine aw_range ps.length (S := Unit) (fun i _ => [(0, .sl (ps.map eN) pnl .no), (1, .sl (acts.map eAct) anl .no), (7, sv), (8, .int .i64 ev), (9, .int .i64 (wantN ps i)), (54, .sl (ps.map eN) pnl .no)]) (fun _ _ => G4) (fun i _ => True) () (by omega) ?_ (fun _ _ h => h) trivial rfl (fun _ _ => rfl) ?_ ?_ (by decide)
  · simp only [go_sem, reduceIte, Nat.reduceEqDiff, Nat.reduceAdd, Nat.reduceMul, Nat.reduceSub, Nat.reduceLeDiff, Nat.reduceLT, reduceCtorEq, Int.natCast_zero, hw0]
  · intro i _ hi _
    have hg : ps.getD i 0 = ps[i] := by rw [List.getD_eq_getElem?_getD, List.getElem?_eq_getElem hi]; rfl
    have hws := wantN_succ ps i
    refine aw_sr rfl ?_  -- r8 @low.go:202
    simp only [go_sem, reduceIte, Nat.reduceEqDiff, Nat.reduceAdd, Nat.reduceMul, Nat.reduceSub, Nat.reduceLeDiff, Nat.reduceLT, reduceCtorEq, getD_map hi, eN]
    refine ⟨⟨by omega, by omega, wid_eN _⟩, ?_⟩
    refine aw_sr rfl ?_  -- r9 @low.go:203
    simp only [go_sem, reduceIte, Nat.reduceEqDiff, Nat.reduceAdd, Nat.reduceMul, Nat.reduceSub, Nat.reduceLeDiff, Nat.reduceLT, reduceCtorEq, Int.toNat_natCast, Int.toNat_zero, List.drop_zero, Nat.sub_zero, ← List.map_take]
    refine ⟨⟨⟨by omega, by omega⟩, wid_eN _⟩, ?_⟩
    refine goA_q (q_ContainsN (ps.take i) _ _ ps[i] (by rw [List.length_take]; omega)) ?_
    simp only [go_sem, reduceIte, Nat.reduceEqDiff, Nat.reduceAdd, Nat.reduceMul, Nat.reduceSub, Nat.reduceLeDiff, Nat.reduceLT, reduceCtorEq]
    refine aw_if rfl (fun h => ?_) (fun h => ?_)
    · have hh : dupAt ps i = true := by rw [dupAt, hg]; exact h
      rw [if_pos hh] at hws
      refine aw_rg rfl ?_  -- r10 @low.go:204
      simp only [go_sem, reduceIte, Nat.reduceEqDiff, Nat.reduceAdd, Nat.reduceMul, Nat.reduceSub, Nat.reduceLeDiff, Nat.reduceLT, reduceCtorEq]
      refine ⟨(), ?_⟩
      rw [hws]
      simp only [go_sem, reduceIte, Nat.reduceEqDiff, Nat.reduceAdd, Nat.reduceMul, Nat.reduceSub, Nat.reduceLeDiff, Nat.reduceLT, reduceCtorEq]
      exact sub_rfl
    · have hh : ¬ dupAt ps i = true := by rw [dupAt, hg, h]; simp
      rw [if_neg hh] at hws
      refine aw_skip ⟨(), ?_⟩
      rw [hws]
      simp only [go_sem, reduceIte, Nat.reduceEqDiff, Nat.reduceAdd, Nat.reduceMul, Nat.reduceSub, Nat.reduceLeDiff, Nat.reduceLT, reduceCtorEq]
      exact sub_rfl
  intro _ _
  refine hK2 _ _ ?_
  refine aw_mid (fun f' G' => FSub [(0, .sl (ps.map eN) pnl .no), (1, .sl (acts.map eAct) anl .no), (7, sv), (8, .int .i64 ev), (9, .int .i64 ev)] f' ∧ G' = G4) ?_ ?_
  · -- 2 ways
    refine aw_sr rfl ?_  -- r12 @low.go:207
    simp only [go_sem, reduceIte, Nat.reduceEqDiff, Nat.reduceAdd, Nat.reduceMul, Nat.reduceSub, Nat.reduceLeDiff, Nat.reduceLT, reduceCtorEq]
    refine aw_if rfl (fun h => ?_) (fun h => ?_)
    · have h8 : 8 < ps.length := by rw [decide_eq_true_eq] at h; omega
      rw [if_pos h8] at hnw
      refine aw_rg rfl ?_  -- r13 @low.go:208
      simp only [go_sem, reduceIte, Nat.reduceEqDiff, Nat.reduceAdd, Nat.reduceMul, Nat.reduceSub, Nat.reduceLeDiff, Nat.reduceLT, reduceCtorEq]
      rw [hnw]
      exact ⟨⟨rfl, rfl, rfl, rfl, rfl⟩, rfl⟩
    · have h8 : ¬ 8 < ps.length := by rw [decide_eq_false_iff_not] at h; omega
      rw [if_neg h8] at hnw
      refine aw_skip ⟨?_, rfl⟩
      rw [hnw]
      exact ⟨rfl, rfl, rfl, rfl, rfl⟩
  intro f' G' ⟨hf, hg⟩
  rw [hg]
  refine AW.of_fsub hf ?_
  refine aw_seq fun K3 hK3 => ?_
  refine aw_sr rfl ?_  -- r14 @low.go:210
  simp only [go_sem, reduceIte, Nat.reduceEqDiff, Nat.reduceAdd, Nat.reduceMul, Nat.reduceSub, Nat.reduceLeDiff, Nat.reduceLT, reduceCtorEq]
  refine aw_if rfl (fun h => ?_) (fun h => ?_)
  · have he : ev ≠ 0 := by simpa using h
    rw [hy0 he]
    refine aw_sr rfl ?_  -- r15 @low.go:211
    simp only [go_sem, reduceIte, Nat.reduceEqDiff, Nat.reduceAdd, Nat.reduceMul, Nat.reduceSub, Nat.reduceLeDiff, Nat.reduceLT, reduceCtorEq]
    exact aw_ret ⟨trivial, _, rfl, Vle.refl _, sub_trans hsG hs4⟩
  have he : ev = 0 := by simpa using h
  obtain ⟨bs, bw, bo, rfl, hS, c1, c2, c3⟩ := hy1 he
  have h8 : ps.length ≤ 8 ∧ Inj ps := by
    rw [he] at hnw
    by_cases h8 : 8 < ps.length
    · rw [if_pos h8] at hnw; cases hnw
    · rw [if_neg h8] at hnw
      refine ⟨by omega, inj_of ?_⟩
      cases hd : dupP ps with
      | false => rfl
      | true =>
        have : wantN ps ps.length = 5 := if_pos hd
        rw [this] at hnw; cases hnw
  obtain ⟨h8, hinj⟩ := h8
  clear hnw hw0 hy0 hy1
  subst he
  refine aw_skip (hK3 _ _ ?_)
  refine aw_sr rfl ?_  -- r16 @low.go:213
  simp only [go_sem, reduceIte, Nat.reduceEqDiff, Nat.reduceAdd, Nat.reduceMul, Nat.reduceSub, Nat.reduceLeDiff, Nat.reduceLT, reduceCtorEq]
  refine aw_sr rfl ?_  -- r17 @low.go:214
  simp only [go_sem, reduceIte, Nat.reduceEqDiff, Nat.reduceAdd, Nat.reduceMul, Nat.reduceSub, Nat.reduceLeDiff, Nat.reduceLT, reduceCtorEq]
  intro m1 hm1
  refine aw_box1 hm1 fun B1 hs1 h84 => ?_
  refine aw_sr rfl ?_  -- r18 @low.go:215
  simp only [go_sem, reduceIte, Nat.reduceEqDiff, Nat.reduceAdd, Nat.reduceMul, Nat.reduceSub, Nat.reduceLeDiff, Nat.reduceLT, reduceCtorEq]
  intro m2 hm2
  have n12 := ne_fresh h84 hm2
  have e1 := sub_none hs4 hm1
  have e2 := sub_none (sub_trans hs4 hs1) hm2
  refine aw_box1 hm2 fun B2 hs2 h85 => ?_
  have hL0 : Lay G3 B2 bs bw bo m1 m2 ps pnl ⟨sd0 ps.length, [], []⟩ := by
    refine ⟨(hS.sub hs1).sub hs2, hs2 _ _ h84, h85, sub_trans (sub_trans hs4 hs1) hs2, ⟨c1, c2, c3, e1, e2⟩, n12, ?_⟩
    have ht : ∀ i (h : i < (tgs ⟨sd0 ps.length, [], []⟩).length), (tgs ⟨sd0 ps.length, [], []⟩)[i] = .full := by
      intro i h
      have : (tgs ⟨sd0 ps.length, [], []⟩)[i] ∈ tgs ⟨sd0 ps.length, [], []⟩ := List.getElem_mem h
      generalize (tgs ⟨sd0 ps.length, [], []⟩)[i] = t at this
      simp only [tgs, sd0, List.map_nil, List.append_nil, List.mem_map, List.mem_replicate] at this
      obtain ⟨w, ⟨_, rfl⟩, rfl⟩ := this
      rfl
    exact ⟨fun i h => by rw [ht i h]; exact .inl rfl, fun i j hi hj _ => by rw [ht i hi]; exact Dis.full' _⟩
  have hX0 := XOk.start ps
  clear hs1 hs2 h84 h85 hm1 hm2 e1 e2 hS hs4 c1 c2 c3 hg hf
  refine aw_seq fun K4 hK4 => ?_
  refine aw_sr rfl ?_  -- r19 @low.go:216
  simp only [go_sem, reduceIte, Nat.reduceEqDiff, Nat.reduceAdd, Nat.reduceMul, Nat.reduceSub, Nat.reduceLeDiff, Nat.reduceLT, reduceCtorEq]
  refine aw_range acts.length (S := X × Heap) (fun i s => [(0, .sl (ps.map eN) pnl .no), (7, .ptr bs 0), (12, .bool s.1.s.begun), (13, .int .i64 s.1.s.state), (14, .map m1), (15, .map m2), (86, .sl (acts.map eAct) anl .no)]) (fun _ s => s.2) (fun i s => Lay G3 s.2 bs bw bo m1 m2 ps pnl s.1 ∧ XOk ps s.1) (⟨sd0 ps.length, [], []⟩, B2) (by omega) ?_ (fun _ _ h => h) ⟨hL0, hX0⟩ rfl (fun _ _ => rfl) ?_ ?_ (by decide)
  · simp only [go_sem, reduceIte, Nat.reduceEqDiff, Nat.reduceAdd, Nat.reduceMul, Nat.reduceSub, Nat.reduceLeDiff, Nat.reduceLT, reduceCtorEq, Int.natCast_zero, sd0]
  · intro i ⟨x, H⟩ hi ⟨hL, hX⟩
    simp only at hL hX ⊢
    refine aw_sr rfl ?_  -- r21 @low.go:216
    simp only [go_sem, reduceIte, Nat.reduceEqDiff, Nat.reduceAdd, Nat.reduceMul, Nat.reduceSub, Nat.reduceLeDiff, Nat.reduceLT, reduceCtorEq, getD_map hi, eAct, cAct]
    refine ⟨⟨by omega, by omega, wid_eAct _⟩, ?_⟩
    have hdl := hda acts[i] (List.getElem_mem hi)
    generalize acts[i] = a at hdl
    obtain ⟨ak, an, ⟨ad, adn⟩, al⟩ := a
    simp only at hdl ⊢
    intro b17 hb17
    refine aw_box1 hb17 fun B3 hs3 h17 => ?_
    have n1 := ne_fresh hL.side.main hb17
    have n2 := ne_fresh hL.side.ways hb17
    have n3 := ne_fresh hL.side.over hb17
    have n4 := ne_fresh hL.over hb17
    have n5 := ne_fresh hL.ways hb17
    replace hL := hL.up hs3
    clear hs3 hb17
    refine aw_seq fun K5 hK5 => ?_
    refine aw_sr rfl ?_  -- r22 @low.go:217
    simp only [go_sem, reduceIte, Nat.reduceEqDiff, Nat.reduceAdd, Nat.reduceMul, Nat.reduceSub, Nat.reduceLeDiff, Nat.reduceLT, reduceCtorEq]
    refine aw_if rfl (fun h => ?_) (fun h => ?_)
    · refine aw_exit ?_  -- 2
      refine hK4 _ _ ?_
      refine aw_sr rfl ?_  -- r68 @low.go:283
      simp only [go_sem, reduceIte, Nat.reduceEqDiff, Nat.reduceAdd, Nat.reduceMul, Nat.reduceSub, Nat.reduceLeDiff, Nat.reduceLT, reduceCtorEq]
      exact aw_ret ⟨trivial, _, rfl, Vle.refl _, sub_trans hsG hL.sub⟩
    refine aw_skip (hK5 _ _ ?_)
    refine aw_sr rfl ?_  -- r23 @low.go:220
    simp only [go_sem, reduceIte, Nat.reduceEqDiff, Nat.reduceAdd, Nat.reduceMul, Nat.reduceSub, Nat.reduceLeDiff, Nat.reduceLT, reduceCtorEq, h17]
    refine goA_q (q_ContainsN ps pnl .no an (by omega)) ?_
    simp only [go_sem, reduceIte, Nat.reduceEqDiff, Nat.reduceAdd, Nat.reduceMul, Nat.reduceSub, Nat.reduceLeDiff, Nat.reduceLT, reduceCtorEq, h17, in_iff]
    refine aw_sr rfl ?_  -- r24 @low.go:221
    simp only [go_sem, reduceIte, Nat.reduceEqDiff, Nat.reduceAdd, Nat.reduceMul, Nat.reduceSub, Nat.reduceLeDiff, Nat.reduceLT, reduceCtorEq, h17]
    refine aw_mid (fun f' G' => ∃ x', FSub [(0, .sl (ps.map eN) pnl .no), (7, .ptr bs 0), (12, .bool x'.s.begun), (13, .int .i64 x'.s.state), (14, .map m1), (15, .map m2), (86, .sl (acts.map eAct) anl .no), (87, .int .i64 ((acts.length : Nat) : Int)), (88, .int .i64 ((i : Nat) : Int))] f' ∧ Lay G3 G' bs bw bo m1 m2 ps pnl x' ∧ XOk ps x') ?_ ?_
    · -- 5 ways
      have hbl : ∀ w ∈ x.s.ways, Rm G3 B3 1 w.2.2 ∧ w.1.length ≤ 200 := fun w hw => ⟨hL.rooms' hw, (hX.lim w hw).1⟩
      have hca := cases_at hX an
      refine aw_sr rfl ?_  -- r25 @low.go:222
      simp only [go_sem, reduceIte, Nat.reduceEqDiff, Nat.reduceAdd, Nat.reduceMul, Nat.reduceSub, Nat.reduceLeDiff, Nat.reduceLT, reduceCtorEq, h17]
      refine aw_block ?_  -- 4
      refine aw_chain rfl rfl rfl rfl rfl ?_  -- t103 is one of [0]
      refine aw_if rfl (fun h => ?_) (fun h => ?_)
      · refine aw_sr rfl ?_  -- r36 @low.go:224
        simp only [go_sem, reduceIte, Nat.reduceEqDiff, Nat.reduceAdd, Nat.reduceMul, Nat.reduceSub, Nat.reduceLeDiff, Nat.reduceLT, reduceCtorEq]
        refine aw_mid (fun f' G' => FSub [(12, .bool true), (13, .int .i64 (if x.s.begun = true then x.s.state else ((ad.length : Nat) : Int))), (20, .int .i64 (if x.s.begun = true then 8 else 0)), (19, .int .i64 ((ad.length : Nat) : Int)), (0, .sl (ps.map eN) pnl .no), (7, .ptr bs 0), (14, .map m1), (15, .map m2), (86, .sl (acts.map eAct) anl .no), (87, .int .i64 ((acts.length : Nat) : Int)), (88, .int .i64 ((i : Nat) : Int))] f' ∧ G' = B3) ?_ ?_
        · -- 2 ways
          refine aw_sr rfl ?_  -- r37 @low.go:225
          simp only [go_sem, reduceIte, Nat.reduceEqDiff, Nat.reduceAdd, Nat.reduceMul, Nat.reduceSub, Nat.reduceLeDiff, Nat.reduceLT, reduceCtorEq]
          refine aw_if rfl (fun h => ?_) (fun h => ?_)
          · refine aw_rg rfl ?_  -- r38 @low.go:226
            simp only [go_sem, reduceIte, Nat.reduceEqDiff, Nat.reduceAdd, Nat.reduceMul, Nat.reduceSub, Nat.reduceLeDiff, Nat.reduceLT, reduceCtorEq]
            rw [h]
            exact ⟨⟨rfl, rfl, rfl, rfl, rfl, rfl, rfl, rfl, rfl, rfl, rfl⟩, rfl⟩
          · refine aw_rg rfl ?_  -- r39 @low.go:228
            simp only [go_sem, reduceIte, Nat.reduceEqDiff, Nat.reduceAdd, Nat.reduceMul, Nat.reduceSub, Nat.reduceLeDiff, Nat.reduceLT, reduceCtorEq]
            rw [h]
            exact ⟨⟨rfl, rfl, rfl, rfl, rfl, rfl, rfl, rfl, rfl, rfl, rfl⟩, rfl⟩
        intro f' G' ⟨hf, hg⟩
        rw [hg]
        refine AW.of_fsub hf ?_
        refine aw_sr rfl ?_  -- r40 @low.go:230
        simp only [go_sem, reduceIte, Nat.reduceEqDiff, Nat.reduceAdd, Nat.reduceMul, Nat.reduceSub, Nat.reduceLeDiff, Nat.reduceLT, reduceCtorEq]
        refine goA_by (a_Begin hL.side _) fun y G5 hy => ?_
        obtain ⟨rfl, hS5, hk5⟩ := hy
        simp only [go_sem, reduceIte, Nat.reduceEqDiff, Nat.reduceAdd, Nat.reduceMul, Nat.reduceSub, Nat.reduceLeDiff, Nat.reduceLT, reduceCtorEq]
        refine aw_if rfl (fun h => by simp at h) (fun h => ?_)
        refine aw_skip ⟨{ x with s := { x.s with begun := true, state := if x.s.begun = true then x.s.state else ((ad.length : Nat) : Int) } }, ?_, hL.side' hS5 rfl (fun y h _ => hk5 y h), hX.begin _ _⟩
        exact ⟨rfl, rfl, rfl, rfl, rfl, rfl, rfl, rfl, rfl⟩
      · refine aw_chain rfl rfl rfl rfl rfl ?_  -- t103 is one of [1]
        refine aw_if rfl (fun h => ?_) (fun h => ?_)
        · have hlO := look_O an x.O 0
          refine aw_sr rfl ?_  -- r43 @low.go:234
          simp only [go_sem, reduceIte, Nat.reduceEqDiff, Nat.reduceAdd, Nat.reduceMul, Nat.reduceSub, Nat.reduceLeDiff, Nat.reduceLT, reduceCtorEq, h17]
          refine goA_by (a_Marker hL.side h8 an _) fun y G5 hy => ?_
          rcases hy with ⟨hn, rfl, rfl⟩ | ⟨j, hj, e, hv, rfl, rfl⟩ | ⟨j, hj, e, hv, rfl, hS5, hk5⟩
          · have hd : decide (an ∈ ps) = false := decide_eq_false fun h => hn _ h rfl
            simp only [go_sem, reduceIte, Nat.reduceEqDiff, Nat.reduceAdd, Nat.reduceMul, Nat.reduceSub, Nat.reduceLeDiff, Nat.reduceLT, reduceCtorEq, h17]
            refine aw_block ?_  -- 6
            refine aw_sr rfl ?_  -- r49 @low.go:236
            simp only [go_sem, reduceIte, Nat.reduceEqDiff, Nat.reduceAdd, Nat.reduceMul, Nat.reduceSub, Nat.reduceLeDiff, Nat.reduceLT, reduceCtorEq, hd]
            refine aw_if rfl (fun h => ?_) (fun h => by cases h)
            refine aw_sr rfl ?_  -- r50 @low.go:237
            simp only [go_sem, reduceIte, Nat.reduceEqDiff, Nat.reduceAdd, Nat.reduceMul, Nat.reduceSub, Nat.reduceLeDiff, Nat.reduceLT, reduceCtorEq]
            refine aw_if rfl (fun h => by simp at h) (fun h => ?_)
            refine aw_skip ⟨x, ?_, hL, hX⟩
            exact ⟨rfl, rfl, rfl, rfl, rfl, rfl, rfl, rfl, rfl⟩
          · have hd : decide (an ∈ ps) = true := decide_eq_true (e ▸ List.getElem_mem hj)
            have hv2 : decide (an ∈ x.O) = true := by have := hX.ov j hj; rw [hv, e] at this; exact (Option.some.inj this).symm
            simp only [go_sem, reduceIte, Nat.reduceEqDiff, Nat.reduceAdd, Nat.reduceMul, Nat.reduceSub, Nat.reduceLeDiff, Nat.reduceLT, reduceCtorEq, h17]
            refine aw_block ?_  -- 6
            refine aw_sr rfl ?_  -- r49 @low.go:236
            simp only [go_sem, reduceIte, Nat.reduceEqDiff, Nat.reduceAdd, Nat.reduceMul, Nat.reduceSub, Nat.reduceLeDiff, Nat.reduceLT, reduceCtorEq, hd]
            refine aw_if rfl (fun h => by cases h) (fun h => ?_)
            refine aw_sr rfl ?_  -- r52 @low.go:240
            simp only [go_sem, reduceIte, Nat.reduceEqDiff, Nat.reduceAdd, Nat.reduceMul, Nat.reduceSub, Nat.reduceLeDiff, Nat.reduceLT, reduceCtorEq, h17, hL.over, ↓hlO, ik, if_true]
            refine aw_if rfl (fun h => ?_) (fun h => by rw [hv2] at h; cases h)
            refine aw_sr rfl ?_  -- r53 @low.go:241
            simp only [go_sem, reduceIte, Nat.reduceEqDiff, Nat.reduceAdd, Nat.reduceMul, Nat.reduceSub, Nat.reduceLeDiff, Nat.reduceLT, reduceCtorEq]
            refine aw_if rfl (fun h => by simp at h) (fun h => ?_)
            refine aw_skip ⟨x, ?_, hL, hX⟩
            exact ⟨rfl, rfl, rfl, rfl, rfl, rfl, rfl, rfl, rfl⟩
          · have hd : decide (an ∈ ps) = true := decide_eq_true (e ▸ List.getElem_mem hj)
            have hv2 : decide (an ∈ x.O) = false := by have := hX.ov j hj; rw [hv, e] at this; exact (Option.some.inj this).symm
            have hv3 : ¬ an ∈ x.O := of_decide_eq_false hv2
            have hL5 := hL.side' hS5 rfl hk5
            have hX5 := hX.mark hinj hj hv true (if x.s.begun = true then x.s.state else ((ad.length : Nat) : Int))
            rw [e] at hX5
            have g17 := h17
            rw [← hk5 b17 (fun q => n1 q.symm) (fun q => n3 q.symm)] at g17
            simp only [go_sem, reduceIte, Nat.reduceEqDiff, Nat.reduceAdd, Nat.reduceMul, Nat.reduceSub, Nat.reduceLeDiff, Nat.reduceLT, reduceCtorEq, g17]
            refine aw_block ?_  -- 6
            refine aw_sr rfl ?_  -- r49 @low.go:236
            simp only [go_sem, reduceIte, Nat.reduceEqDiff, Nat.reduceAdd, Nat.reduceMul, Nat.reduceSub, Nat.reduceLeDiff, Nat.reduceLT, reduceCtorEq, hd]
            refine aw_if rfl (fun h => by cases h) (fun h => ?_)
            refine aw_sr rfl ?_  -- r52 @low.go:240
            simp only [go_sem, reduceIte, Nat.reduceEqDiff, Nat.reduceAdd, Nat.reduceMul, Nat.reduceSub, Nat.reduceLeDiff, Nat.reduceLT, reduceCtorEq, g17, hL5.over, ↓hlO, ik, if_true]
            refine aw_if rfl (fun h => by rw [hv2] at h; cases h) (fun h => ?_)
            refine aw_seq fun K6 hK6 => ?_
            refine aw_sr rfl ?_  -- r44 @low.go:245
            simp only [go_sem, reduceIte, Nat.reduceEqDiff, Nat.reduceAdd, Nat.reduceMul, Nat.reduceSub, Nat.reduceLeDiff, Nat.reduceLT, reduceCtorEq]
            refine aw_if rfl (fun h => by cases hb : x.s.begun <;> simp [hb] at h) (fun h => ?_)
            refine aw_skip (hK6 _ _ ?_)
            refine aw_mid (fun f' G' => FSub [(12, .bool true), (13, .int .i64 (if x.s.begun = true then x.s.state else ((ad.length : Nat) : Int))), (17, .ptr b17 0), (0, .sl (ps.map eN) pnl .no), (7, .ptr bs 0), (14, .map m1), (15, .map m2), (86, .sl (acts.map eAct) anl .no), (87, .int .i64 ((acts.length : Nat) : Int)), (88, .int .i64 ((i : Nat) : Int))] f' ∧ G' = G5) ?_ ?_
            · -- 2 ways
              refine aw_sr rfl ?_  -- r46 @low.go:248
              simp only [go_sem, reduceIte, Nat.reduceEqDiff, Nat.reduceAdd, Nat.reduceMul, Nat.reduceSub, Nat.reduceLeDiff, Nat.reduceLT, reduceCtorEq]
              refine aw_if rfl (fun h => ?_) (fun h => ?_)
              · have hb : x.s.begun = false := by simpa using h
                refine aw_rg rfl ?_  -- r47 @low.go:249
                simp only [go_sem, reduceIte, Nat.reduceEqDiff, Nat.reduceAdd, Nat.reduceMul, Nat.reduceSub, Nat.reduceLeDiff, Nat.reduceLT, reduceCtorEq]
                rw [hb]
                exact ⟨⟨rfl, rfl, rfl, rfl, rfl, rfl, rfl, rfl, rfl, rfl⟩, rfl⟩
              · have hb : x.s.begun = true := by simpa using h
                refine aw_skip ⟨?_, rfl⟩
                rw [hb]
                exact ⟨rfl, rfl, rfl, rfl, rfl, rfl, rfl, rfl, rfl, rfl⟩
            intro f' G' ⟨hf, hg⟩
            rw [hg]
            refine AW.of_fsub hf ?_
            refine aw_rg rfl ?_  -- r48 @low.go:251
            have hfo := find_O (i := 0) hv3
            have hfi := hL5.putO an
            rw [List.map_append] at hfi
            simp only [go_sem, reduceIte, Nat.reduceEqDiff, Nat.reduceAdd, Nat.reduceMul, Nat.reduceSub, Nat.reduceLeDiff, Nat.reduceLT, reduceCtorEq, g17, hL5.over, hfo, mput, ik, true_and]
            exact ⟨{ s := { x.s with begun := true, state := if x.s.begun = true then x.s.state else ((ad.length : Nat) : Int), over := x.s.over.set j true }, O := x.O ++ [an], M := x.M }, ⟨rfl, rfl, rfl, rfl, rfl, rfl, rfl, rfl, rfl⟩, hfi, hX5⟩
        · have hlO := look_O an x.O 0
          have hlW := look_W an x.M 0
          refine aw_sr rfl ?_  -- r26 @low.go:254
          simp only [go_sem, reduceIte, Nat.reduceEqDiff, Nat.reduceAdd, Nat.reduceMul, Nat.reduceSub, Nat.reduceLeDiff, Nat.reduceLT, reduceCtorEq]
          refine aw_seq fun K7 hK7 => ?_
          refine aw_block ?_  -- 5
          rcases hca with hn | ⟨j, hj, e, w, hw, hwl, hw2, hwn, hov⟩
          · have hd : decide (an ∈ ps) = false := decide_eq_false fun h => hn _ h rfl
            refine aw_sr rfl ?_  -- r27 @low.go:256
            simp only [go_sem, reduceIte, Nat.reduceEqDiff, Nat.reduceAdd, Nat.reduceMul, Nat.reduceSub, Nat.reduceLeDiff, Nat.reduceLT, reduceCtorEq, hd]
            refine aw_if rfl (fun h => ?_) (fun h => by cases h)
            refine aw_rg rfl ?_  -- r28 @low.go:257
            simp only [go_sem, reduceIte, Nat.reduceEqDiff, Nat.reduceAdd, Nat.reduceMul, Nat.reduceSub, Nat.reduceLeDiff, Nat.reduceLT, reduceCtorEq]
            refine hK7 _ _ ?_
            refine aw_sr rfl ?_  -- r33 @low.go:263
            simp only [go_sem, reduceIte, Nat.reduceEqDiff, Nat.reduceAdd, Nat.reduceMul, Nat.reduceSub, Nat.reduceLeDiff, Nat.reduceLT, reduceCtorEq, h17]
            refine goA_by (a_Message hL.side h8 hL.sub hL.fs.2.1 hbl an _) fun y G5 hy => ?_
            rcases hy with ⟨_, rfl, rfl⟩ | ⟨i', h', e', _⟩ | ⟨i', w', h', e', _⟩ | ⟨i', w', t', h', e', _⟩
            · simp only [go_sem, reduceIte, Nat.reduceEqDiff, Nat.reduceAdd, Nat.reduceMul, Nat.reduceSub, Nat.reduceLeDiff, Nat.reduceLT, reduceCtorEq]
              refine aw_if rfl (fun h => by simp at h) (fun h => ?_)
              refine aw_skip ⟨x, ?_, hL, hX⟩
              exact ⟨rfl, rfl, rfl, rfl, rfl, rfl, rfl, rfl, rfl⟩
            · exact absurd e'.symm (hn _ (List.getElem_mem h'))
            · exact absurd e'.symm (hn _ (List.getElem_mem h'))
            · exact absurd e'.symm (hn _ (List.getElem_mem h'))
          have hd : decide (an ∈ ps) = true := decide_eq_true (e ▸ List.getElem_mem hj)
          have hne : ¬ ∀ q ∈ ps, ¬ an = q := fun h => h _ (List.getElem_mem hj) e.symm
          refine aw_sr rfl ?_  -- r27 @low.go:256
          simp only [go_sem, reduceIte, Nat.reduceEqDiff, Nat.reduceAdd, Nat.reduceMul, Nat.reduceSub, Nat.reduceLeDiff, Nat.reduceLT, reduceCtorEq, hd]
          refine aw_if rfl (fun h => by cases h) (fun h => ?_)
          have fin0 : ∀ i' (h' : i' < ps.length), ps[i'] = an → i' = j := fun i' h' e' => hinj i' j h' hj (e'.trans e.symm)
          have hk200 : ((List.map eN (wOf x.M an).1).length : Int) = (w.1.length : Int) := by rw [List.length_map, hwl]
          by_cases hq : x.s.begun = false ∨ an ∈ x.O
          · -- nothing is heard
            have hq2 : x.s.begun = false ∨ x.s.over[j]? = some true := hq.imp id fun h => by rw [hov, decide_eq_true h]
            have hmsg : ACall Try.prog 19 [.ptr bs 0, .int .i64 an, .int .i64 ((ad.length : Nat) : Int)] (fun y G' => y = .int .i64 0 ∧ G' = B3) B3 := by
              refine (a_Message hL.side h8 hL.sub hL.fs.2.1 hbl an _).mono fun y G5 hy => ?_
              rcases hy with ⟨h', _⟩ | ⟨i', h', e', _, rfl, rfl⟩ | ⟨i', w', h', e', b', o', _⟩ | ⟨i', w', t', h', e', b', o', _⟩
              · exact absurd h' hne
              · exact ⟨rfl, rfl⟩
              · cases fin0 i' h' e'
                rw [b', o'] at hq2; simp at hq2
              · cases fin0 i' h' e'
                rw [b', o'] at hq2; simp at hq2
            refine aw_sr rfl ?_  -- r29 @low.go:258
            cases hb : x.s.begun with
            | false =>
              simp only [go_sem, reduceIte, Nat.reduceEqDiff, Nat.reduceAdd, Nat.reduceMul, Nat.reduceSub, Nat.reduceLeDiff, Nat.reduceLT, reduceCtorEq, h17, hL.over, hb, true_imp_iff, false_imp_iff, Bool.false_eq_true]
              repeat' first
                | (refine mk.goG_off fun v => ?_
                   simp only [go_sem, reduceIte, Nat.reduceEqDiff, Nat.reduceAdd, Nat.reduceMul, Nat.reduceSub, Nat.reduceLeDiff, Nat.reduceLT, reduceCtorEq, h17, hL.over, hb, true_imp_iff, false_imp_iff, Bool.false_eq_true])
              refine aw_if rfl (fun h => by cases h) (fun h => ?_)
              refine aw_sr rfl ?_  -- r31 @low.go:260
              simp only [go_sem, reduceIte, Nat.reduceEqDiff, Nat.reduceAdd, Nat.reduceMul, Nat.reduceSub, Nat.reduceLeDiff, Nat.reduceLT, reduceCtorEq, h17, hL.over, hb, true_imp_iff, false_imp_iff, Bool.false_eq_true]
              repeat' first
                | (refine mk.goG_off fun v => ?_
                   simp only [go_sem, reduceIte, Nat.reduceEqDiff, Nat.reduceAdd, Nat.reduceMul, Nat.reduceSub, Nat.reduceLeDiff, Nat.reduceLT, reduceCtorEq, h17, hL.over, hb, true_imp_iff, false_imp_iff, Bool.false_eq_true])
              refine aw_if rfl (fun h => by cases h) (fun h => ?_)
              refine aw_skip (hK7 _ _ ?_)
              refine aw_sr rfl ?_  -- r33 @low.go:263
              simp only [go_sem, reduceIte, Nat.reduceEqDiff, Nat.reduceAdd, Nat.reduceMul, Nat.reduceSub, Nat.reduceLeDiff, Nat.reduceLT, reduceCtorEq, h17]
              refine goA_by hmsg fun y G5 hy => ?_
              obtain ⟨rfl, rfl⟩ := hy
              simp only [go_sem, reduceIte, Nat.reduceEqDiff, Nat.reduceAdd, Nat.reduceMul, Nat.reduceSub, Nat.reduceLeDiff, Nat.reduceLT, reduceCtorEq]
              refine aw_if rfl (fun h => by simp at h) (fun h => ?_)
              refine aw_skip ⟨x, ?_, hL, hX⟩
              rw [hb]
              exact ⟨rfl, rfl, rfl, rfl, rfl, rfl, rfl, rfl, rfl⟩
            | true =>
              have hO : decide (an ∈ x.O) = true := by
                rcases hq with h2 | h2
                · rw [hb] at h2; cases h2
                · exact decide_eq_true h2
              rw [hO] at hlO
              simp only [go_sem, reduceIte, Nat.reduceEqDiff, Nat.reduceAdd, Nat.reduceMul, Nat.reduceSub, Nat.reduceLeDiff, Nat.reduceLT, reduceCtorEq, h17, hL.over, hb, ↓hlO, ik, if_true, true_imp_iff, false_imp_iff, Bool.false_eq_true]
              repeat' first
                | (refine mk.goG_off fun v => ?_
                   simp only [go_sem, reduceIte, Nat.reduceEqDiff, Nat.reduceAdd, Nat.reduceMul, Nat.reduceSub, Nat.reduceLeDiff, Nat.reduceLT, reduceCtorEq, h17, hL.over, hb, ↓hlO, ik, if_true, true_imp_iff, false_imp_iff, Bool.false_eq_true])
              refine aw_if rfl (fun h => by cases h) (fun h => ?_)
              refine aw_sr rfl ?_  -- r31 @low.go:260
              simp only [go_sem, reduceIte, Nat.reduceEqDiff, Nat.reduceAdd, Nat.reduceMul, Nat.reduceSub, Nat.reduceLeDiff, Nat.reduceLT, reduceCtorEq, h17, hL.over, hb, ↓hlO, ik, if_true, true_imp_iff, false_imp_iff, Bool.false_eq_true]
              refine aw_if rfl (fun h => by cases h) (fun h => ?_)
              refine aw_skip (hK7 _ _ ?_)
              refine aw_sr rfl ?_  -- r33 @low.go:263
              simp only [go_sem, reduceIte, Nat.reduceEqDiff, Nat.reduceAdd, Nat.reduceMul, Nat.reduceSub, Nat.reduceLeDiff, Nat.reduceLT, reduceCtorEq, h17]
              refine goA_by hmsg fun y G5 hy => ?_
              obtain ⟨rfl, rfl⟩ := hy
              simp only [go_sem, reduceIte, Nat.reduceEqDiff, Nat.reduceAdd, Nat.reduceMul, Nat.reduceSub, Nat.reduceLeDiff, Nat.reduceLT, reduceCtorEq]
              refine aw_if rfl (fun h => by simp at h) (fun h => ?_)
              refine aw_skip ⟨x, ?_, hL, hX⟩
              rw [hb]
              exact ⟨rfl, rfl, rfl, rfl, rfl, rfl, rfl, rfl, rfl⟩
          have hb : x.s.begun = true := by
            cases h : x.s.begun with
            | false => exact absurd (.inl h) hq
            | true => rfl
          have hO0 : ¬ an ∈ x.O := fun h => hq (.inr h)
          have hO : decide (an ∈ x.O) = false := decide_eq_false hO0
          rw [hO] at hlO hov
          obtain ⟨wl, wn, wt⟩ := w
          simp only at hwl hw2 hwn
          refine aw_sr rfl ?_  -- r29 @low.go:258
          simp only [go_sem, reduceIte, Nat.reduceEqDiff, Nat.reduceAdd, Nat.reduceMul, Nat.reduceSub, Nat.reduceLeDiff, Nat.reduceLT, reduceCtorEq, h17, hL.over, hL.ways, hb, ↓hlO, ↓hlW, wC, ik, if_true, true_imp_iff, false_imp_iff, Bool.false_eq_true]
          rw [← hwl]
          refine aw_if rfl (fun h => ?_) (fun h => ?_)
          · have h200 : wl.length = 200 := by simp at h; omega
            refine aw_rg rfl ?_  -- r30 @low.go:259
            simp only [go_sem, reduceIte, Nat.reduceEqDiff, Nat.reduceAdd, Nat.reduceMul, Nat.reduceSub, Nat.reduceLeDiff, Nat.reduceLT, reduceCtorEq]
            refine hK7 _ _ ?_
            refine aw_sr rfl ?_  -- r33 @low.go:263
            simp only [go_sem, reduceIte, Nat.reduceEqDiff, Nat.reduceAdd, Nat.reduceMul, Nat.reduceSub, Nat.reduceLeDiff, Nat.reduceLT, reduceCtorEq, h17]
            refine goA_by (a_Message hL.side h8 hL.sub hL.fs.2.1 hbl an _) fun y G5 hy => ?_
            rcases hy with ⟨h', _⟩ | ⟨i', h', e', b', rfl, rfl⟩ | ⟨i', w', h', e', b', o', ww', l', rfl, rfl⟩ | ⟨i', w', t', h', e', b', o', ww', l', _⟩
            · exact absurd h' hne
            · cases fin0 i' h' e'
              rw [hb, hov] at b'; simp at b'
            · simp only [go_sem, reduceIte, Nat.reduceEqDiff, Nat.reduceAdd, Nat.reduceMul, Nat.reduceSub, Nat.reduceLeDiff, Nat.reduceLT, reduceCtorEq]
              refine aw_if rfl (fun h => by simp at h) (fun h => ?_)
              refine aw_skip ⟨x, ?_, hL, hX⟩
              rw [hb]
              exact ⟨rfl, rfl, rfl, rfl, rfl, rfl, rfl, rfl, rfl⟩
            · cases fin0 i' h' e'
              rw [hw] at ww'; cases ww'
              simp only at l'; omega
          · have h200 : wl.length < 200 := by simp at h; omega
            refine aw_sr rfl ?_  -- r31 @low.go:260
            simp only [go_sem, reduceIte, Nat.reduceEqDiff, Nat.reduceAdd, Nat.reduceMul, Nat.reduceSub, Nat.reduceLeDiff, Nat.reduceLT, reduceCtorEq, h17, hL.over, hL.ways, hb, ↓hlO, ↓hlW, wC, ik, if_true, true_imp_iff, false_imp_iff, Bool.false_eq_true]
            refine aw_if rfl (fun h => ?_) (fun h => by cases h)
            have hrm := hL.room an
            refine aw_rgd [(0,true),(1,true),(2,true),(3,true),(4,true),(5,true),(6,true),(7,true),(8,true),(9,false),(10,false)] mixed rfl (by kernel_rfl) ?_  -- r32 @low.go:261
            simp only [go_sem, reduceIte, Nat.reduceEqDiff, Nat.reduceAdd, Nat.reduceMul, Nat.reduceSub, Nat.reduceLeDiff, Nat.reduceLT, reduceCtorEq, h17, hL.over, hL.ways, ↓hlO, ↓hlW, wC, ik, if_true]
            refine goP_rm (G := G3) hrm hL.sub ?_ fun t' H6 hr6 hs6 hg6 => ?_
            · exact ⟨rfl, rfl, by decide, wid_eN _, wid_one rfl, by simp [sca, scalarV], by rw [← hwl]; simp; omega, by rw [← hwl]; simp; omega⟩
            obtain ⟨r, hf6, hp6⟩ := put_W2 an ((ad.length : Nat) : Int) t' (wOf x.M an).1 x.M
            have hL6 := hL.putW hr6 hs6 hg6 ((wOf x.M an).1 ++ [((ad.length : Nat) : Int)])
            have g6 := hL.grow hg6
            have h17' := hset_keep (x := AObj.map ((putM x.M an ((wOf x.M an).1 ++ [((ad.length : Nat) : Int)], false, t')).map kvW)) (hg6.vars h17) (fun q => n5 q.symm)
            simp only [go_sem, reduceIte, Nat.reduceEqDiff, Nat.reduceAdd, Nat.reduceMul, Nat.reduceSub, Nat.reduceLeDiff, Nat.reduceLT, reduceCtorEq, g6.2.2, hf6, hp6, ik, List.isEmpty_cons, Bool.and_false]
            refine hK7 _ _ ?_
            refine aw_sr rfl ?_  -- r33 @low.go:263
            generalize hset H6 m2 _ = H7 at hL6 h17'
            simp only [go_sem, reduceIte, Nat.reduceEqDiff, Nat.reduceAdd, Nat.reduceMul, Nat.reduceSub, Nat.reduceLeDiff, Nat.reduceLT, reduceCtorEq, h17']
            refine goA_by (a_Message hL6.side h8 hL6.sub hL6.fs.2.1 (fun w hw => ⟨hL6.rooms' hw, (hX.lim w hw).1⟩) an _) fun y G5 hy => ?_
            rcases hy with ⟨h', _⟩ | ⟨i', h', e', b', _⟩ | ⟨i', w', h', e', b', o', ww', l', _⟩ | ⟨i', w', t2', h', e', b', o', ww', l', rfl, hS7, hs7, hr7, hg7, hk7⟩
            · exact absurd h' hne
            · cases fin0 i' h' e'
              rw [hb, hov] at b'; simp at b'
            · cases fin0 i' h' e'
              rw [hw] at ww'; cases ww'
              simp only at l'; omega
            · cases fin0 i' h' e'
              rw [hw] at ww'; cases ww'
              have hL7 := hL6.putS hw hS7 hs7 hr7 hg7 hk7
              have hX7 := hX.way hinj hj hw h200 ((ad.length : Nat) : Int) t2' t'
              rw [e] at hX7
              simp only [go_sem, reduceIte, Nat.reduceEqDiff, Nat.reduceAdd, Nat.reduceMul, Nat.reduceSub, Nat.reduceLeDiff, Nat.reduceLT, reduceCtorEq]
              refine aw_if rfl (fun h => by simp at h) (fun h => ?_)
              refine aw_skip ⟨_, ?_, hL7, hX7⟩
              rw [hb]
              exact ⟨rfl, rfl, rfl, rfl, rfl, rfl, rfl, rfl, rfl⟩
    intro f' G' ⟨x', hf, hL, hX⟩
    clear h17 n1 n2 n3 n4 n5
    refine AW.of_fsub hf ?_
    clear hf
    have ht := q_Tell hL.side h8 hX.lim
    have hdn := hX.done
    have hlw := hL.side.lw
    have hfin : (x'.s.begun = true ∧ ps.length ≤ x'.O.length ∧ doneS x'.s = true) ∨ ((x'.s.begun = true → x'.O.length < ps.length) ∧ doneS x'.s = false) := by
      unfold doneS
      rw [hdn]
      cases hb : x'.s.begun with
      | false => exact .inr ⟨fun e => (by cases e), rfl⟩
      | true =>
        by_cases hl : x'.O.length < ps.length
        · exact .inr ⟨fun _ => hl, by rw [decide_eq_true hl]; rfl⟩
        · exact .inl ⟨rfl, by omega, by rw [decide_eq_false hl]; rfl⟩
    rcases hfin with ⟨hb, hl, hd⟩ | ⟨hl, hd⟩
    · rw [tellV, if_pos hd] at ht
      refine aw_sr rfl ?_  -- r55 @low.go:267
      simp only [go_sem, reduceIte, Nat.reduceEqDiff, Nat.reduceAdd, Nat.reduceMul, Nat.reduceSub, Nat.reduceLeDiff, Nat.reduceLT, reduceCtorEq]
      refine goA_on ht sub_rfl ?_
      simp only [go_sem, reduceIte, Nat.reduceEqDiff, Nat.reduceAdd, Nat.reduceMul, Nat.reduceSub, Nat.reduceLeDiff, Nat.reduceLT, reduceCtorEq]
      refine aw_seq fun K7 hK7 => ?_
      refine aw_sr rfl ?_  -- r56 @low.go:268
      simp only [go_sem, reduceIte, Nat.reduceEqDiff, Nat.reduceAdd, Nat.reduceMul, Nat.reduceSub, Nat.reduceLeDiff, Nat.reduceLT, reduceCtorEq, hb, hL.over, List.length_map]
      refine aw_if rfl (fun h => by simp at h; omega) (fun h => ?_)
      refine aw_skip (hK7 _ _ ?_)
      refine aw_seq fun K9 hK9 => ?_
      refine aw_sr rfl ?_  -- r59 @low.go:274
      simp only [go_sem, reduceIte, Nat.reduceEqDiff, Nat.reduceAdd, Nat.reduceMul, Nat.reduceSub, Nat.reduceLeDiff, Nat.reduceLT, reduceCtorEq]
      refine aw_if rfl (fun h => by simp at h; omega) (fun h => ?_)
      refine aw_skip (hK9 _ _ ?_)
      refine aw_sr rfl ?_  -- r61 @low.go:277
      simp only [go_sem, reduceIte, Nat.reduceEqDiff, Nat.reduceAdd, Nat.reduceMul, Nat.reduceSub, Nat.reduceLeDiff, Nat.reduceLT, reduceCtorEq]
      refine aw_range ps.length (S := Unit) (fun i' _ => [(0, .sl (ps.map eN) pnl .no), (7, .ptr bs 0), (12, .bool true), (13, .int .i64 x'.s.state), (14, .map m1), (15, .map m2), (25, .sl (x'.s.ways.map eW) x'.s.ways.isEmpty .no), (86, .sl (acts.map eAct) anl .no), (87, .int .i64 ((acts.length : Nat) : Int)), (88, .int .i64 ((i : Nat) : Int)), (240, .sl (ps.map eN) pnl .no)]) (fun _ _ => G') (fun i _ => True) () (by omega) ?_ (fun _ _ h => h) trivial rfl (fun _ _ => rfl) ?_ ?_ (by decide)
      · simp only [go_sem, reduceIte, Nat.reduceEqDiff, Nat.reduceAdd, Nat.reduceMul, Nat.reduceSub, Nat.reduceLeDiff, Nat.reduceLT, reduceCtorEq, Int.natCast_zero]
      · intro j _ hj _
        have hjw : j < x'.s.ways.length := by omega
        have hlW := look_W ps[j] x'.M 0
        have hwy := hX.wy j hj
        have hlm := (hX.lim _ (List.getElem_mem hjw)).1
        rw [List.getElem?_eq_getElem hjw] at hwy
        simp only [Option.map_some, Option.some.injEq] at hwy
        refine aw_sr rfl ?_  -- r63 @low.go:277
        simp only [go_sem, reduceIte, Nat.reduceEqDiff, Nat.reduceAdd, Nat.reduceMul, Nat.reduceSub, Nat.reduceLeDiff, Nat.reduceLT, reduceCtorEq, getD_map hj, eN]
        refine ⟨⟨by omega, by omega, wid_eN _⟩, ?_⟩
        refine aw_srd [(0,true),(1,true),(2,true),(3,true),(4,true),(5,true),(6,true),(7,true),(8,true)] mixed rfl (by kernel_rfl) ?_  -- r64 @low.go:278
        simp only [go_sem, reduceIte, Nat.reduceEqDiff, Nat.reduceAdd, Nat.reduceMul, Nat.reduceSub, Nat.reduceLeDiff, Nat.reduceLT, reduceCtorEq, getD_map hjw, eW, hL.ways, ↓hlW, wC, ik, if_true]
        refine ⟨⟨by omega, by omega, wid_eW _⟩, ?_⟩
        refine goQ_by (q_EqN _ _ _ _ _ _ (by omega)) ?_
        simp only [go_sem, reduceIte, Nat.reduceEqDiff, Nat.reduceAdd, Nat.reduceMul, Nat.reduceSub, Nat.reduceLeDiff, Nat.reduceLT, reduceCtorEq]
        refine aw_if rfl (fun h => by simp [hwy] at h) (fun h => ?_)
        refine aw_skip ⟨(), ?_⟩
        simp only [go_sem, reduceIte, Nat.reduceEqDiff, Nat.reduceAdd, Nat.reduceMul, Nat.reduceSub, Nat.reduceLeDiff, Nat.reduceLT, reduceCtorEq]
        exact sub_rfl
      intro _ _
      refine ⟨(x', G'), ⟨hL, hX⟩, ?_, sub_rfl⟩
      rw [hb]
      simp only [go_sem, reduceIte, Nat.reduceEqDiff, Nat.reduceAdd, Nat.reduceMul, Nat.reduceSub, Nat.reduceLeDiff, Nat.reduceLT, reduceCtorEq]
    · rw [tellV, if_neg (by rw [hd]; simp)] at ht
      refine aw_sr rfl ?_  -- r55 @low.go:267
      simp only [go_sem, reduceIte, Nat.reduceEqDiff, Nat.reduceAdd, Nat.reduceMul, Nat.reduceSub, Nat.reduceLeDiff, Nat.reduceLT, reduceCtorEq]
      refine goA_on ht sub_rfl ?_
      simp only [go_sem, reduceIte, Nat.reduceEqDiff, Nat.reduceAdd, Nat.reduceMul, Nat.reduceSub, Nat.reduceLeDiff, Nat.reduceLT, reduceCtorEq]
      refine aw_seq fun K7 hK7 => ?_
      refine aw_sr rfl ?_  -- r56 @low.go:268
      have hcond : (!x'.s.begun || decide ((x'.O.length : Int) < (ps.length : Int))) = true := by
        cases hb : x'.s.begun with
        | false => rfl
        | true => simpa using hl hb
      simp only [go_sem, reduceIte, Nat.reduceEqDiff, Nat.reduceAdd, Nat.reduceMul, Nat.reduceSub, Nat.reduceLeDiff, Nat.reduceLT, reduceCtorEq, hL.over, List.length_map]
      refine aw_if rfl (fun _ => ?_) (fun h => by rw [hcond] at h; cases h)
      refine aw_seq fun K8 hK8 => ?_
      refine aw_sr rfl ?_  -- r57 @low.go:269
      simp only [go_sem, reduceIte, Nat.reduceEqDiff, Nat.reduceAdd, Nat.reduceMul, Nat.reduceSub, Nat.reduceLeDiff, Nat.reduceLT, reduceCtorEq]
      refine aw_if rfl (fun h => by simp at h) (fun h => ?_)
      refine aw_skip (hK8 _ _ ?_)
      refine aw_exit ?_  -- 3
      refine ⟨(x', G'), ⟨hL, hX⟩, ?_, sub_rfl⟩
      simp only [go_sem, reduceIte, Nat.reduceEqDiff, Nat.reduceAdd, Nat.reduceMul, Nat.reduceSub, Nat.reduceLeDiff, Nat.reduceLT, reduceCtorEq]
  intro ⟨x, H⟩ ⟨hL, hX⟩
  refine hK4 _ _ ?_
  refine aw_sr rfl ?_  -- r68 @low.go:283
  simp only [go_sem, reduceIte, Nat.reduceEqDiff, Nat.reduceAdd, Nat.reduceMul, Nat.reduceSub, Nat.reduceLeDiff, Nat.reduceLT, reduceCtorEq]
  exact aw_ret ⟨trivial, _, rfl, Vle.refl _, sub_trans hsG hL.sub⟩
end Go.Proofs.Ytacecjfpkdijpaa

/- MarkSides: the law, over its arguments as data. -/
namespace Go.Proofs.Ytacecjfpkdijpaa.markSides
open Go.Proofs.YtacecjfpkdijpaaV
set_option linter.unusedVariables false
set_option maxRecDepth 100000
theorem law (x0 : D22) (x1 : D23) (q0 : o22 x0) (q1 : o23 x1) : Quiet Try.prog 3 [.sl (x0.1.map e3) x0.2 .no, .sl (x1.1.map e34) x1.2 .no] (.bool true) :=
  law0_MarkSides x0.1 x0.2 x1.1 x1.2 q0.2.1 q0.1 q1.2.1 (fun p hp => (q1.2.2 p hp).2.2.1.2)
end Go.Proofs.Ytacecjfpkdijpaa.markSides

/- 'roadlaw5.MarkSides' returns true for every input whose bulk is at most 1048576 values and letters (the statement's own bound): . No other condition. -/
set_option linter.unusedSimpArgs false
set_option linter.unusedVariables false
set_option maxRecDepth 100000
namespace Go.Proofs.Ytacecjfpkdijpaa.markSides
open Go.ChangeShapes Go.WideShapes Go.ChangeAt Go.RowKit
open Go.Proofs.YtacecjfpkdijpaaV
theorem own : ownKnob Try.prog.godebug = none := by kernel_rfl
theorem laidOut : laidOutB Try.prog = true := by kernel_rfl
theorem uBool : Try.prog.underlying 4 = some .bool := by kernel_rfl
theorem typed {xs : List V} (h : TyAll Try.prog [22, 23] xs) (hs : vszL xs ≤ 1048576) : Quiet Try.prog 3 xs (.bool true) := by
  obtain ⟨x0, x1, rfl, q0, q1⟩ := args h hs
  exact law x0 x1 q0 q1
theorem contract (H : Type) (enc : TypeId × Value → H) (W : World) (base : Nat) (args : Array Value) (ds gs : List (DataW H)) (before : List MemPlace)
    (hval : ∀ (j : Nat) t v, Try.f3.params[j]? = some t → args[j]? = some v → Value.okWide Try.prog W .any base t v)
    (hW : DataW.Whole enc Try.prog Try.f3.params.toList Rows.markSidesSpec.vars false W args.toList ds gs before) (hk : Rows.uptoSmall H (ds ++ gs) = true) :
    Calls Try.prog 3 args W fun e W' => ∃ v, e = .returned v ∧ Rows.markSidesSpec.post enc Try.prog Try.f3 false true false false W args v W' := by
  have hW' := hW
  obtain ⟨p, q, hA0, hV, rfl, hfz, hnd⟩ := hW
  have hA : DataW.TrodAll enc Try.prog W 0 (fun _ => true) true Try.f3.params.toList args.toList ds p := hA0
  obtain ⟨rfl, rfl⟩ := trodVars_none hV
  rw [Try.params3] at hA hval
  obtain ⟨xs, hr, ht, hs⟩ := trod_all (fun j t v hj hv => hval j t v (by simpa using hj) (by simpa using hv)) hA
  have hk' : Rows.uptoBulkAll (ds ++ []) ≤ 1048576 := of_decide_eq_true hk
  rw [List.append_nil] at hk'
  have hq := typed ht (Nat.le_trans hs hk')
  refine (ACall.calls (hq []) Try.func3 rfl rfl hr).mono fun e W' ⟨v, he, bel, M', x, G', hx, hxe, _⟩ => ?_
  subst hxe
  have hv := hx.bool_inv
  subst he hv
  have hst := trod_stays laidOut bel (by kernel_rfl) hA
  obtain ⟨v0, vs0, d0, ds0, p0, q0, hargs, rfl, rfl, h0, r0⟩ := trodAll_cons hA
  obtain ⟨v1, vs1, d1, ds1, p1, q1, rfl, rfl, rfl, h1, r1⟩ := trodAll_cons r0
  obtain ⟨rfl, rfl, rfl⟩ := trodAll_nil r1
  exact ⟨_, rfl, _, _, _, [], _, [], hW', trodAll_mk1 (shut_bool uBool _), hst, rfl, bel.frame _, fun h => by cases h⟩
set_option maxRecDepth 100000 in
theorem lifted (os : Os) (started : os.Started) (H : Type) (enc : TypeId × Value → H) (F : Stop.Interp) :
    ReturnsInHanded {} Try.checked os 3 .any ((Rows.OpenSpec.upto Rows.markSidesSpec).pre6 enc Try.prog Try.f3 Rows.markSidesUptoRow.domain false) (((Rows.OpenSpec.upto Rows.markSidesSpec).at F).post enc Try.prog Try.f3 false true false false) := by
  refine returnsInHanded_of_cond (C := Try.checked) (s := Rows.OpenSpec.upto Rows.markSidesSpec) (k := Rows.uptoSmall) rfl own started (by kernel_rfl) Try.func3
    (OpenSpec.witness (enc := enc) (C := Try.checked) (s := Rows.OpenSpec.upto Rows.markSidesSpec) (k := Rows.uptoSmall) rfl false ⟨#[], #[(.slice none 0 0), (.slice none 0 0)], []⟩ 8 (by kernel_rfl) (by kernel_rfl) (by kernel_rfl)
      (x := ([.nil, .nil], [], [])) (by kernel_rfl) rfl (by kernel_rfl)) ?_
  intro W base args ds gs before hval hW _ hk _
  exact contract H enc W base args ds gs before hval hW hk
set_option maxHeartbeats 4000000 in
theorem joined : joinedFacts Try.pinned.checked.prog 3 Try.f3 (Rows.OpenSpec.upto Rows.markSidesSpec).bare Rows.markSidesUptoRow = true := by
  unfold joinedFacts
  simp only [Bool.and_eq_true]
  repeat' apply And.intro
  all_goals (as_aux_lemma => kernel_rfl)
theorem over : Rows.markSidesUptoRow.holds Try.pinned (Rows.OpenSpec.upto Rows.markSidesSpec) :=
  OpenClaim.holds_of_cond 3 Try.f3 rfl rfl rfl rfl rfl rfl rfl ⟨rfl, rfl, rfl, rfl, rfl⟩ rfl rfl rfl rfl rfl (by kernel_rfl) Try.func3 joined
    (of_decide_eq_true (by kernel_rfl)) (by unfold Func.isWrapper; first | (rw [if_pos (by decide +kernel)]; kernel_rfl) | (rw [if_neg (by decide +kernel)]; exact ⟨rfl, rfl⟩))
    (fun os started H enc _ F => lifted os started H enc F)
theorem proved : Rows.MarkSidesUptoSaid := over
#print axioms proved
end Go.Proofs.Ytacecjfpkdijpaa.markSides
