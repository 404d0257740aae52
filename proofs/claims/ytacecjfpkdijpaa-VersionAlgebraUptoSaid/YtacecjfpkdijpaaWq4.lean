/- Part 4 of a proof laid in parts; each part's own comment says what it proves and under which conditions. -/
import Derived.Test.YtacecjfpkdijpaaWq3
import Derived.Test.YtacecjfpkdijpaaProg
import Derived.Shelf.SlSortCmp.WholeK
import Derived.Shelf.SlicesG.Cmp
import Derived.Ground.SlsfProg
import Derived.Ground.SlgcProg
import Derived.Shelf.SlGeneric
import Derived.Test.YtacecjfpkdijpaaChecked
import Derived.LoopN
import Derived.Deep.RegionHeld3
import Derived.Test.YtacecjfpkdijpaaRows
import Derived.WalkKit
import Derived.ProofKit
import Derived.OpenShut
import Derived.JoinedCond
/- Closed facts about the program's types, each evaluated by the kernel; no conditions. -/
namespace Go.Proofs.Ytacecjfpkdijpaa
open Go.Proofs.YtacecjfpkdijpaaV
theorem mixed : Try.prog.follows .mixedOrders = true := by kernel_rfl
@[go_sem] theorem ty_ag105 : tagg Try.prog 105 = some false := by kernel_rfl
@[go_sem] theorem ty_ag106 : tagg Try.prog 106 = some false := by kernel_rfl
@[go_sem] theorem ty_ag108 : tagg Try.prog 108 = some true := by kernel_rfl
@[go_sem] theorem ty_ag112 : tagg Try.prog 112 = some true := by kernel_rfl
@[go_sem] theorem ty_ag124 : tagg Try.prog 124 = some true := by kernel_rfl
@[go_sem] theorem ty_ag125 : tagg Try.prog 125 = some false := by kernel_rfl
@[go_sem] theorem ty_ag127 : tagg Try.prog 127 = some true := by kernel_rfl
@[go_sem] theorem ty_ag131 : tagg Try.prog 131 = some false := by kernel_rfl
@[go_sem] theorem ty_ag133 : tagg Try.prog 133 = some true := by kernel_rfl
@[go_sem] theorem ty_ag137 : tagg Try.prog 137 = some true := by kernel_rfl
@[go_sem] theorem ty_ag138 : tagg Try.prog 138 = some false := by kernel_rfl
@[go_sem] theorem ty_ag140 : tagg Try.prog 140 = some true := by kernel_rfl
@[go_sem] theorem ty_ag145 : tagg Try.prog 145 = some false := by kernel_rfl
@[go_sem] theorem ty_ag147 : tagg Try.prog 147 = some true := by kernel_rfl
@[go_sem] theorem ty_ag151 : tagg Try.prog 151 = some true := by kernel_rfl
@[go_sem] theorem ty_ag156 : tagg Try.prog 156 = some false := by kernel_rfl
@[go_sem] theorem ty_ag158 : tagg Try.prog 158 = some true := by kernel_rfl
@[go_sem] theorem ty_ag167 : tagg Try.prog 167 = some true := by kernel_rfl
@[go_sem] theorem ty_ag170 : tagg Try.prog 170 = some false := by kernel_rfl
@[go_sem] theorem ty_ag175 : tagg Try.prog 175 = some true := by kernel_rfl
@[go_sem] theorem ty_ag178 : tagg Try.prog 178 = some true := by kernel_rfl
@[go_sem] theorem ty_ag180 : tagg Try.prog 180 = some false := by kernel_rfl
@[go_sem] theorem ty_ag189 : tagg Try.prog 189 = some true := by kernel_rfl
@[go_sem] theorem ty_ag199 : tagg Try.prog 199 = some false := by kernel_rfl
@[go_sem] theorem ty_ag206 : tagg Try.prog 206 = some false := by kernel_rfl
@[go_sem] theorem ty_ag207 : tagg Try.prog 207 = some false := by kernel_rfl
@[go_sem] theorem ty_ag212 : tagg Try.prog 212 = some false := by kernel_rfl
@[go_sem] theorem ty_ag214 : tagg Try.prog 214 = some true := by kernel_rfl
@[go_sem] theorem ty_ag216 : tagg Try.prog 216 = some true := by kernel_rfl
@[go_sem] theorem ty_ag218 : tagg Try.prog 218 = some true := by kernel_rfl
@[go_sem] theorem ty_ag22 : tagg Try.prog 22 = some false := by kernel_rfl
@[go_sem] theorem ty_ag220 : tagg Try.prog 220 = some true := by kernel_rfl
@[go_sem] theorem ty_ag227 : tagg Try.prog 227 = some false := by kernel_rfl
@[go_sem] theorem ty_ag229 : tagg Try.prog 229 = some true := by kernel_rfl
@[go_sem] theorem ty_ag231 : tagg Try.prog 231 = some true := by kernel_rfl
@[go_sem] theorem ty_ag24 : tagg Try.prog 24 = some false := by kernel_rfl
@[go_sem] theorem ty_ag242 : tagg Try.prog 242 = some false := by kernel_rfl
@[go_sem] theorem ty_ag245 : tagg Try.prog 245 = some true := by kernel_rfl
@[go_sem] theorem ty_ag247 : tagg Try.prog 247 = some false := by kernel_rfl
@[go_sem] theorem ty_ag248 : tagg Try.prog 248 = some false := by kernel_rfl
@[go_sem] theorem ty_ag249 : tagg Try.prog 249 = some false := by kernel_rfl
@[go_sem] theorem ty_ag252 : tagg Try.prog 252 = some false := by kernel_rfl
@[go_sem] theorem ty_ag253 : tagg Try.prog 253 = some false := by kernel_rfl
@[go_sem] theorem ty_ag254 : tagg Try.prog 254 = some false := by kernel_rfl
@[go_sem] theorem ty_ag256 : tagg Try.prog 256 = some true := by kernel_rfl
@[go_sem] theorem ty_ag259 : tagg Try.prog 259 = some false := by kernel_rfl
@[go_sem] theorem ty_ag260 : tagg Try.prog 260 = some false := by kernel_rfl
@[go_sem] theorem ty_ag265 : tagg Try.prog 265 = some false := by kernel_rfl
@[go_sem] theorem ty_ag266 : tagg Try.prog 266 = some false := by kernel_rfl
@[go_sem] theorem ty_ag267 : tagg Try.prog 267 = some false := by kernel_rfl
@[go_sem] theorem ty_ag268 : tagg Try.prog 268 = some false := by kernel_rfl
@[go_sem] theorem ty_ag269 : tagg Try.prog 269 = some false := by kernel_rfl
@[go_sem] theorem ty_ag270 : tagg Try.prog 270 = some false := by kernel_rfl
@[go_sem] theorem ty_ag271 : tagg Try.prog 271 = some false := by kernel_rfl
@[go_sem] theorem ty_ag273 : tagg Try.prog 273 = some true := by kernel_rfl
@[go_sem] theorem ty_ag275 : tagg Try.prog 275 = some true := by kernel_rfl
@[go_sem] theorem ty_ag276 : tagg Try.prog 276 = some false := by kernel_rfl
@[go_sem] theorem ty_ag277 : tagg Try.prog 277 = some false := by kernel_rfl
@[go_sem] theorem ty_ag279 : tagg Try.prog 279 = some false := by kernel_rfl
@[go_sem] theorem ty_ag282 : tagg Try.prog 282 = some false := by kernel_rfl
@[go_sem] theorem ty_ag283 : tagg Try.prog 283 = some false := by kernel_rfl
@[go_sem] theorem ty_ag284 : tagg Try.prog 284 = some false := by kernel_rfl
@[go_sem] theorem ty_ag289 : tagg Try.prog 289 = some false := by kernel_rfl
@[go_sem] theorem ty_ag293 : tagg Try.prog 293 = some false := by kernel_rfl
@[go_sem] theorem ty_ag295 : tagg Try.prog 295 = some true := by kernel_rfl
@[go_sem] theorem ty_ag3 : tagg Try.prog 3 = some false := by kernel_rfl
@[go_sem] theorem ty_ag300 : tagg Try.prog 300 = some true := by kernel_rfl
@[go_sem] theorem ty_ag307 : tagg Try.prog 307 = some false := by kernel_rfl
@[go_sem] theorem ty_ag311 : tagg Try.prog 311 = some true := by kernel_rfl
@[go_sem] theorem ty_ag32 : tagg Try.prog 32 = some false := by kernel_rfl
@[go_sem] theorem ty_ag322 : tagg Try.prog 322 = some false := by kernel_rfl
@[go_sem] theorem ty_ag34 : tagg Try.prog 34 = some true := by kernel_rfl
@[go_sem] theorem ty_ag347 : tagg Try.prog 347 = some true := by kernel_rfl
@[go_sem] theorem ty_ag349 : tagg Try.prog 349 = some true := by kernel_rfl
@[go_sem] theorem ty_ag361 : tagg Try.prog 361 = some true := by kernel_rfl
@[go_sem] theorem ty_ag368 : tagg Try.prog 368 = some true := by kernel_rfl
@[go_sem] theorem ty_ag379 : tagg Try.prog 379 = some false := by kernel_rfl
@[go_sem] theorem ty_ag38 : tagg Try.prog 38 = some false := by kernel_rfl
@[go_sem] theorem ty_ag396 : tagg Try.prog 396 = some false := by kernel_rfl
@[go_sem] theorem ty_ag4 : tagg Try.prog 4 = some false := by kernel_rfl
@[go_sem] theorem ty_ag426 : tagg Try.prog 426 = some false := by kernel_rfl
@[go_sem] theorem ty_ag43 : tagg Try.prog 43 = some false := by kernel_rfl
@[go_sem] theorem ty_ag45 : tagg Try.prog 45 = some true := by kernel_rfl
@[go_sem] theorem ty_ag5 : tagg Try.prog 5 = some false := by kernel_rfl
@[go_sem] theorem ty_ag50 : tagg Try.prog 50 = some false := by kernel_rfl
@[go_sem] theorem ty_ag51 : tagg Try.prog 51 = some false := by kernel_rfl
@[go_sem] theorem ty_ag52 : tagg Try.prog 52 = some false := by kernel_rfl
@[go_sem] theorem ty_ag53 : tagg Try.prog 53 = some false := by kernel_rfl
@[go_sem] theorem ty_ag54 : tagg Try.prog 54 = some false := by kernel_rfl
@[go_sem] theorem ty_ag56 : tagg Try.prog 56 = some true := by kernel_rfl
@[go_sem] theorem ty_ag59 : tagg Try.prog 59 = some false := by kernel_rfl
@[go_sem] theorem ty_ag60 : tagg Try.prog 60 = some false := by kernel_rfl
@[go_sem] theorem ty_ag61 : tagg Try.prog 61 = some false := by kernel_rfl
@[go_sem] theorem ty_ag63 : tagg Try.prog 63 = some true := by kernel_rfl
@[go_sem] theorem ty_ag65 : tagg Try.prog 65 = some true := by kernel_rfl
@[go_sem] theorem ty_ag73 : tagg Try.prog 73 = some false := by kernel_rfl
@[go_sem] theorem ty_ag74 : tagg Try.prog 74 = some false := by kernel_rfl
@[go_sem] theorem ty_ag75 : tagg Try.prog 75 = some false := by kernel_rfl
@[go_sem] theorem ty_ag76 : tagg Try.prog 76 = some false := by kernel_rfl
@[go_sem] theorem ty_ag77 : tagg Try.prog 77 = some false := by kernel_rfl
@[go_sem] theorem ty_ag79 : tagg Try.prog 79 = some true := by kernel_rfl
@[go_sem] theorem ty_ag84 : tagg Try.prog 84 = some false := by kernel_rfl
@[go_sem] theorem ty_ag86 : tagg Try.prog 86 = some true := by kernel_rfl
@[go_sem] theorem ty_ag87 : tagg Try.prog 87 = some true := by kernel_rfl
@[go_sem] theorem ty_ag9 : tagg Try.prog 9 = some false := by kernel_rfl
@[go_sem] theorem ty_ag94 : tagg Try.prog 94 = some true := by kernel_rfl
@[go_sem] theorem ty_ag98 : tagg Try.prog 98 = some true := by kernel_rfl
@[go_sem] theorem ty_ar327 : tarray Try.prog 327 = some (2, 170, 1) := by kernel_rfl
@[go_sem] theorem ty_ar340 : tarray Try.prog 340 = some (2, 180, 1) := by kernel_rfl
@[go_sem] theorem ty_ar87 : tarray Try.prog 87 = some (2, 3, 1) := by kernel_rfl
@[go_sem] theorem ty_by108 : tbytes Try.prog 108 = some 56 := by kernel_rfl
@[go_sem] theorem ty_by112 : tbytes Try.prog 112 = some 56 := by kernel_rfl
@[go_sem] theorem ty_by124 : tbytes Try.prog 124 = some 80 := by kernel_rfl
@[go_sem] theorem ty_by138 : tbytes Try.prog 138 = some 24 := by kernel_rfl
@[go_sem] theorem ty_by140 : tbytes Try.prog 140 = some 16 := by kernel_rfl
@[go_sem] theorem ty_by178 : tbytes Try.prog 178 = some 32 := by kernel_rfl
@[go_sem] theorem ty_by189 : tbytes Try.prog 189 = some 16 := by kernel_rfl
@[go_sem] theorem ty_by22 : tbytes Try.prog 22 = some 24 := by kernel_rfl
@[go_sem] theorem ty_by24 : tbytes Try.prog 24 = some 8 := by kernel_rfl
@[go_sem] theorem ty_by245 : tbytes Try.prog 245 = some 32 := by kernel_rfl
@[go_sem] theorem ty_by256 : tbytes Try.prog 256 = some 96 := by kernel_rfl
@[go_sem] theorem ty_by258 : tbytes Try.prog 258 = some 16 := by kernel_rfl
@[go_sem] theorem ty_by259 : tbytes Try.prog 259 = some 8 := by kernel_rfl
@[go_sem] theorem ty_by260 : tbytes Try.prog 260 = some 8 := by kernel_rfl
@[go_sem] theorem ty_by270 : tbytes Try.prog 270 = some 8 := by kernel_rfl
@[go_sem] theorem ty_by271 : tbytes Try.prog 271 = some 24 := by kernel_rfl
@[go_sem] theorem ty_by273 : tbytes Try.prog 273 = some 16 := by kernel_rfl
@[go_sem] theorem ty_by275 : tbytes Try.prog 275 = some 56 := by kernel_rfl
@[go_sem] theorem ty_by276 : tbytes Try.prog 276 = some 24 := by kernel_rfl
@[go_sem] theorem ty_by295 : tbytes Try.prog 295 = some 72 := by kernel_rfl
@[go_sem] theorem ty_by3 : tbytes Try.prog 3 = some 8 := by kernel_rfl
@[go_sem] theorem ty_by300 : tbytes Try.prog 300 = some 64 := by kernel_rfl
@[go_sem] theorem ty_by311 : tbytes Try.prog 311 = some 16 := by kernel_rfl
@[go_sem] theorem ty_by361 : tbytes Try.prog 361 = some 64 := by kernel_rfl
@[go_sem] theorem ty_by368 : tbytes Try.prog 368 = some 16 := by kernel_rfl
@[go_sem] theorem ty_by379 : tbytes Try.prog 379 = some 8 := by kernel_rfl
@[go_sem] theorem ty_by38 : tbytes Try.prog 38 = some 24 := by kernel_rfl
@[go_sem] theorem ty_by4 : tbytes Try.prog 4 = some 1 := by kernel_rfl
@[go_sem] theorem ty_by45 : tbytes Try.prog 45 = some 48 := by kernel_rfl
@[go_sem] theorem ty_by5 : tbytes Try.prog 5 = some 1 := by kernel_rfl
@[go_sem] theorem ty_by63 : tbytes Try.prog 63 = some 136 := by kernel_rfl
@[go_sem] theorem ty_by87 : tbytes Try.prog 87 = some 16 := by kernel_rfl
@[go_sem] theorem ty_by9 : tbytes Try.prog 9 = some 16 := by kernel_rfl
@[go_sem] theorem ty_by94 : tbytes Try.prog 94 = some 24 := by kernel_rfl
@[go_sem] theorem ty_fi108_0 : tfield Try.prog 108 0 = some (0, 3, 1) := by kernel_rfl
@[go_sem] theorem ty_fi108_1 : tfield Try.prog 108 1 = some (1, 3, 1) := by kernel_rfl
@[go_sem] theorem ty_fi108_2 : tfield Try.prog 108 2 = some (2, 9, 1) := by kernel_rfl
@[go_sem] theorem ty_fi108_3 : tfield Try.prog 108 3 = some (3, 106, 1) := by kernel_rfl
@[go_sem] theorem ty_fi112_0 : tfield Try.prog 112 0 = some (0, 3, 1) := by kernel_rfl
@[go_sem] theorem ty_fi112_1 : tfield Try.prog 112 1 = some (1, 3, 1) := by kernel_rfl
@[go_sem] theorem ty_fi112_2 : tfield Try.prog 112 2 = some (2, 9, 1) := by kernel_rfl
@[go_sem] theorem ty_fi112_3 : tfield Try.prog 112 3 = some (3, 105, 1) := by kernel_rfl
@[go_sem] theorem ty_fi124_0 : tfield Try.prog 124 0 = some (0, 22, 1) := by kernel_rfl
@[go_sem] theorem ty_fi124_1 : tfield Try.prog 124 1 = some (1, 112, 4) := by kernel_rfl
@[go_sem] theorem ty_fi127_0 : tfield Try.prog 127 0 = some (0, 4, 1) := by kernel_rfl
@[go_sem] theorem ty_fi127_1 : tfield Try.prog 127 1 = some (1, 3, 1) := by kernel_rfl
@[go_sem] theorem ty_fi127_2 : tfield Try.prog 127 2 = some (2, 124, 5) := by kernel_rfl
@[go_sem] theorem ty_fi127_3 : tfield Try.prog 127 3 = some (7, 125, 1) := by kernel_rfl
@[go_sem] theorem ty_fi127_4 : tfield Try.prog 127 4 = some (8, 125, 1) := by kernel_rfl
@[go_sem] theorem ty_fi133_0 : tfield Try.prog 133 0 = some (0, 131, 1) := by kernel_rfl
@[go_sem] theorem ty_fi133_1 : tfield Try.prog 133 1 = some (1, 22, 1) := by kernel_rfl
@[go_sem] theorem ty_fi133_2 : tfield Try.prog 133 2 = some (2, 3, 1) := by kernel_rfl
@[go_sem] theorem ty_fi133_3 : tfield Try.prog 133 3 = some (3, 3, 1) := by kernel_rfl
@[go_sem] theorem ty_fi137_0 : tfield Try.prog 137 0 = some (0, 3, 1) := by kernel_rfl
@[go_sem] theorem ty_fi137_1 : tfield Try.prog 137 1 = some (1, 3, 1) := by kernel_rfl
@[go_sem] theorem ty_fi137_2 : tfield Try.prog 137 2 = some (2, 3, 1) := by kernel_rfl
@[go_sem] theorem ty_fi137_3 : tfield Try.prog 137 3 = some (3, 3, 1) := by kernel_rfl
@[go_sem] theorem ty_fi137_4 : tfield Try.prog 137 4 = some (4, 3, 1) := by kernel_rfl
@[go_sem] theorem ty_fi140_1 : tfield Try.prog 140 1 = some (1, 3, 1) := by kernel_rfl
@[go_sem] theorem ty_fi147_0 : tfield Try.prog 147 0 = some (0, 4, 1) := by kernel_rfl
@[go_sem] theorem ty_fi147_1 : tfield Try.prog 147 1 = some (1, 22, 1) := by kernel_rfl
@[go_sem] theorem ty_fi147_2 : tfield Try.prog 147 2 = some (2, 145, 1) := by kernel_rfl
@[go_sem] theorem ty_fi147_3 : tfield Try.prog 147 3 = some (3, 22, 1) := by kernel_rfl
@[go_sem] theorem ty_fi147_4 : tfield Try.prog 147 4 = some (4, 3, 1) := by kernel_rfl
@[go_sem] theorem ty_fi151_0 : tfield Try.prog 151 0 = some (0, 3, 1) := by kernel_rfl
@[go_sem] theorem ty_fi151_1 : tfield Try.prog 151 1 = some (1, 3, 1) := by kernel_rfl
@[go_sem] theorem ty_fi151_2 : tfield Try.prog 151 2 = some (2, 3, 1) := by kernel_rfl
@[go_sem] theorem ty_fi151_3 : tfield Try.prog 151 3 = some (3, 3, 1) := by kernel_rfl
@[go_sem] theorem ty_fi158_0 : tfield Try.prog 158 0 = some (0, 156, 1) := by kernel_rfl
@[go_sem] theorem ty_fi167_0 : tfield Try.prog 167 0 = some (0, 3, 1) := by kernel_rfl
@[go_sem] theorem ty_fi167_1 : tfield Try.prog 167 1 = some (1, 3, 1) := by kernel_rfl
@[go_sem] theorem ty_fi167_2 : tfield Try.prog 167 2 = some (2, 9, 1) := by kernel_rfl
@[go_sem] theorem ty_fi175_0 : tfield Try.prog 175 0 = some (0, 9, 1) := by kernel_rfl
@[go_sem] theorem ty_fi175_1 : tfield Try.prog 175 1 = some (1, 3, 1) := by kernel_rfl
@[go_sem] theorem ty_fi178_1 : tfield Try.prog 178 1 = some (1, 3, 1) := by kernel_rfl
@[go_sem] theorem ty_fi178_2 : tfield Try.prog 178 2 = some (2, 3, 1) := by kernel_rfl
@[go_sem] theorem ty_fi189_0 : tfield Try.prog 189 0 = some (0, 3, 1) := by kernel_rfl
@[go_sem] theorem ty_fi189_1 : tfield Try.prog 189 1 = some (1, 3, 1) := by kernel_rfl
@[go_sem] theorem ty_fi201_0 : tfield Try.prog 201 0 = some (0, 22, 1) := by kernel_rfl
@[go_sem] theorem ty_fi201_1 : tfield Try.prog 201 1 = some (1, 4, 1) := by kernel_rfl
@[go_sem] theorem ty_fi201_2 : tfield Try.prog 201 2 = some (2, 3, 1) := by kernel_rfl
@[go_sem] theorem ty_fi201_3 : tfield Try.prog 201 3 = some (3, 38, 1) := by kernel_rfl
@[go_sem] theorem ty_fi201_4 : tfield Try.prog 201 4 = some (4, 199, 1) := by kernel_rfl
@[go_sem] theorem ty_fi209_0 : tfield Try.prog 209 0 = some (0, 56, 8) := by kernel_rfl
@[go_sem] theorem ty_fi209_1 : tfield Try.prog 209 1 = some (8, 56, 8) := by kernel_rfl
@[go_sem] theorem ty_fi209_2 : tfield Try.prog 209 2 = some (16, 206, 1) := by kernel_rfl
@[go_sem] theorem ty_fi214_0 : tfield Try.prog 214 0 = some (0, 9, 1) := by kernel_rfl
@[go_sem] theorem ty_fi214_1 : tfield Try.prog 214 1 = some (1, 59, 1) := by kernel_rfl
@[go_sem] theorem ty_fi214_2 : tfield Try.prog 214 2 = some (2, 212, 1) := by kernel_rfl
@[go_sem] theorem ty_fi216_0 : tfield Try.prog 216 0 = some (0, 9, 1) := by kernel_rfl
@[go_sem] theorem ty_fi216_1 : tfield Try.prog 216 1 = some (1, 43, 1) := by kernel_rfl
@[go_sem] theorem ty_fi218_1 : tfield Try.prog 218 1 = some (1, 53, 1) := by kernel_rfl
@[go_sem] theorem ty_fi220_2 : tfield Try.prog 220 2 = some (2, 53, 1) := by kernel_rfl
@[go_sem] theorem ty_fi229_3 : tfield Try.prog 229 3 = some (3, 3, 1) := by kernel_rfl
@[go_sem] theorem ty_fi229_4 : tfield Try.prog 229 4 = some (4, 227, 1) := by kernel_rfl
@[go_sem] theorem ty_fi231_4 : tfield Try.prog 231 4 = some (4, 22, 1) := by kernel_rfl
@[go_sem] theorem ty_fi233_0 : tfield Try.prog 233 0 = some (0, 79, 7) := by kernel_rfl
@[go_sem] theorem ty_fi233_1 : tfield Try.prog 233 1 = some (7, 84, 1) := by kernel_rfl
@[go_sem] theorem ty_fi233_2 : tfield Try.prog 233 2 = some (8, 3, 1) := by kernel_rfl
@[go_sem] theorem ty_fi233_3 : tfield Try.prog 233 3 = some (9, 3, 1) := by kernel_rfl
@[go_sem] theorem ty_fi245_0 : tfield Try.prog 245 0 = some (0, 3, 1) := by kernel_rfl
@[go_sem] theorem ty_fi245_1 : tfield Try.prog 245 1 = some (1, 242, 1) := by kernel_rfl
@[go_sem] theorem ty_fi251_0 : tfield Try.prog 251 0 = some (0, 248, 1) := by kernel_rfl
@[go_sem] theorem ty_fi251_1 : tfield Try.prog 251 1 = some (1, 249, 1) := by kernel_rfl
@[go_sem] theorem ty_fi256_0 : tfield Try.prog 256 0 = some (0, 252, 1) := by kernel_rfl
@[go_sem] theorem ty_fi256_1 : tfield Try.prog 256 1 = some (1, 253, 1) := by kernel_rfl
@[go_sem] theorem ty_fi256_2 : tfield Try.prog 256 2 = some (2, 22, 1) := by kernel_rfl
@[go_sem] theorem ty_fi256_3 : tfield Try.prog 256 3 = some (3, 254, 1) := by kernel_rfl
@[go_sem] theorem ty_fi258_0 : tfield Try.prog 258 0 = some (0, 3, 1) := by kernel_rfl
@[go_sem] theorem ty_fi258_1 : tfield Try.prog 258 1 = some (1, 3, 1) := by kernel_rfl
@[go_sem] theorem ty_fi262_0 : tfield Try.prog 262 0 = some (0, 138, 1) := by kernel_rfl
@[go_sem] theorem ty_fi262_1 : tfield Try.prog 262 1 = some (1, 22, 1) := by kernel_rfl
@[go_sem] theorem ty_fi262_2 : tfield Try.prog 262 2 = some (2, 260, 1) := by kernel_rfl
@[go_sem] theorem ty_fi273_0 : tfield Try.prog 273 0 = some (0, 3, 1) := by kernel_rfl
@[go_sem] theorem ty_fi273_1 : tfield Try.prog 273 1 = some (1, 3, 1) := by kernel_rfl
@[go_sem] theorem ty_fi275_0 : tfield Try.prog 275 0 = some (0, 3, 1) := by kernel_rfl
@[go_sem] theorem ty_fi275_1 : tfield Try.prog 275 1 = some (1, 3, 1) := by kernel_rfl
@[go_sem] theorem ty_fi275_2 : tfield Try.prog 275 2 = some (2, 3, 1) := by kernel_rfl
@[go_sem] theorem ty_fi275_3 : tfield Try.prog 275 3 = some (3, 3, 1) := by kernel_rfl
@[go_sem] theorem ty_fi275_4 : tfield Try.prog 275 4 = some (4, 3, 1) := by kernel_rfl
@[go_sem] theorem ty_fi275_5 : tfield Try.prog 275 5 = some (5, 3, 1) := by kernel_rfl
@[go_sem] theorem ty_fi275_6 : tfield Try.prog 275 6 = some (6, 3, 1) := by kernel_rfl
@[go_sem] theorem ty_fi286_0 : tfield Try.prog 286 0 = some (0, 22, 1) := by kernel_rfl
@[go_sem] theorem ty_fi286_1 : tfield Try.prog 286 1 = some (1, 283, 1) := by kernel_rfl
@[go_sem] theorem ty_fi286_2 : tfield Try.prog 286 2 = some (2, 284, 1) := by kernel_rfl
@[go_sem] theorem ty_fi292_0 : tfield Try.prog 292 0 = some (0, 22, 1) := by kernel_rfl
@[go_sem] theorem ty_fi292_1 : tfield Try.prog 292 1 = some (1, 3, 1) := by kernel_rfl
@[go_sem] theorem ty_fi292_2 : tfield Try.prog 292 2 = some (2, 3, 1) := by kernel_rfl
@[go_sem] theorem ty_fi292_3 : tfield Try.prog 292 3 = some (3, 4, 1) := by kernel_rfl
@[go_sem] theorem ty_fi292_4 : tfield Try.prog 292 4 = some (4, 3, 1) := by kernel_rfl
@[go_sem] theorem ty_fi295_0 : tfield Try.prog 295 0 = some (0, 9, 1) := by kernel_rfl
@[go_sem] theorem ty_fi295_1 : tfield Try.prog 295 1 = some (1, 3, 1) := by kernel_rfl
@[go_sem] theorem ty_fi295_2 : tfield Try.prog 295 2 = some (2, 293, 1) := by kernel_rfl
@[go_sem] theorem ty_fi295_3 : tfield Try.prog 295 3 = some (3, 22, 1) := by kernel_rfl
@[go_sem] theorem ty_fi300_0 : tfield Try.prog 300 0 = some (0, 3, 1) := by kernel_rfl
@[go_sem] theorem ty_fi300_1 : tfield Try.prog 300 1 = some (1, 108, 4) := by kernel_rfl
@[go_sem] theorem ty_fi309_0 : tfield Try.prog 309 0 = some (0, 307, 1) := by kernel_rfl
@[go_sem] theorem ty_fi309_1 : tfield Try.prog 309 1 = some (1, 32, 1) := by kernel_rfl
@[go_sem] theorem ty_fi311_0 : tfield Try.prog 311 0 = some (0, 3, 1) := by kernel_rfl
@[go_sem] theorem ty_fi311_1 : tfield Try.prog 311 1 = some (1, 4, 1) := by kernel_rfl
@[go_sem] theorem ty_fi34_0 : tfield Try.prog 34 0 = some (0, 3, 1) := by kernel_rfl
@[go_sem] theorem ty_fi34_1 : tfield Try.prog 34 1 = some (1, 3, 1) := by kernel_rfl
@[go_sem] theorem ty_fi34_2 : tfield Try.prog 34 2 = some (2, 32, 1) := by kernel_rfl
@[go_sem] theorem ty_fi347_3 : tfield Try.prog 347 3 = some (3, 43, 1) := by kernel_rfl
@[go_sem] theorem ty_fi347_4 : tfield Try.prog 347 4 = some (4, 45, 3) := by kernel_rfl
@[go_sem] theorem ty_fi347_5 : tfield Try.prog 347 5 = some (7, 63, 8) := by kernel_rfl
@[go_sem] theorem ty_fi349_0 : tfield Try.prog 349 0 = some (0, 112, 4) := by kernel_rfl
@[go_sem] theorem ty_fi349_1 : tfield Try.prog 349 1 = some (4, 63, 8) := by kernel_rfl
@[go_sem] theorem ty_fi361_0 : tfield Try.prog 361 0 = some (0, 3, 1) := by kernel_rfl
@[go_sem] theorem ty_fi361_1 : tfield Try.prog 361 1 = some (1, 3, 1) := by kernel_rfl
@[go_sem] theorem ty_fi361_2 : tfield Try.prog 361 2 = some (2, 3, 1) := by kernel_rfl
@[go_sem] theorem ty_fi361_3 : tfield Try.prog 361 3 = some (3, 3, 1) := by kernel_rfl
@[go_sem] theorem ty_fi361_4 : tfield Try.prog 361 4 = some (4, 3, 1) := by kernel_rfl
@[go_sem] theorem ty_fi361_5 : tfield Try.prog 361 5 = some (5, 3, 1) := by kernel_rfl
@[go_sem] theorem ty_fi361_6 : tfield Try.prog 361 6 = some (6, 3, 1) := by kernel_rfl
@[go_sem] theorem ty_fi361_7 : tfield Try.prog 361 7 = some (7, 259, 1) := by kernel_rfl
@[go_sem] theorem ty_fi368_0 : tfield Try.prog 368 0 = some (0, 3, 1) := by kernel_rfl
@[go_sem] theorem ty_fi368_1 : tfield Try.prog 368 1 = some (1, 4, 1) := by kernel_rfl
@[go_sem] theorem ty_fi381_0 : tfield Try.prog 381 0 = some (0, 167, 3) := by kernel_rfl
@[go_sem] theorem ty_fi381_1 : tfield Try.prog 381 1 = some (3, 322, 1) := by kernel_rfl
@[go_sem] theorem ty_fi381_2 : tfield Try.prog 381 2 = some (4, 3, 1) := by kernel_rfl
@[go_sem] theorem ty_fi400_0 : tfield Try.prog 400 0 = some (0, 59, 1) := by kernel_rfl
@[go_sem] theorem ty_fi400_1 : tfield Try.prog 400 1 = some (1, 43, 1) := by kernel_rfl
@[go_sem] theorem ty_fi400_2 : tfield Try.prog 400 2 = some (2, 396, 1) := by kernel_rfl
@[go_sem] theorem ty_fi45_0 : tfield Try.prog 45 0 = some (0, 3, 1) := by kernel_rfl
@[go_sem] theorem ty_fi45_1 : tfield Try.prog 45 1 = some (1, 9, 1) := by kernel_rfl
@[go_sem] theorem ty_fi45_2 : tfield Try.prog 45 2 = some (2, 43, 1) := by kernel_rfl
@[go_sem] theorem ty_fi56_3 : tfield Try.prog 56 3 = some (3, 50, 1) := by kernel_rfl
@[go_sem] theorem ty_fi56_4 : tfield Try.prog 56 4 = some (4, 51, 1) := by kernel_rfl
@[go_sem] theorem ty_fi56_5 : tfield Try.prog 56 5 = some (5, 52, 1) := by kernel_rfl
@[go_sem] theorem ty_fi56_6 : tfield Try.prog 56 6 = some (6, 53, 1) := by kernel_rfl
@[go_sem] theorem ty_fi56_7 : tfield Try.prog 56 7 = some (7, 54, 1) := by kernel_rfl
@[go_sem] theorem ty_fi63_0 : tfield Try.prog 63 0 = some (0, 3, 1) := by kernel_rfl
@[go_sem] theorem ty_fi63_4 : tfield Try.prog 63 4 = some (4, 43, 1) := by kernel_rfl
@[go_sem] theorem ty_fi63_5 : tfield Try.prog 63 5 = some (5, 60, 1) := by kernel_rfl
@[go_sem] theorem ty_fi63_6 : tfield Try.prog 63 6 = some (6, 61, 1) := by kernel_rfl
@[go_sem] theorem ty_fi65_0 : tfield Try.prog 65 0 = some (0, 9, 1) := by kernel_rfl
@[go_sem] theorem ty_fi65_1 : tfield Try.prog 65 1 = some (1, 59, 1) := by kernel_rfl
@[go_sem] theorem ty_fi65_2 : tfield Try.prog 65 2 = some (2, 43, 1) := by kernel_rfl
@[go_sem] theorem ty_fi65_3 : tfield Try.prog 65 3 = some (3, 45, 3) := by kernel_rfl
@[go_sem] theorem ty_fi65_4 : tfield Try.prog 65 4 = some (6, 63, 8) := by kernel_rfl
@[go_sem] theorem ty_fi79_0 : tfield Try.prog 79 0 = some (0, 59, 1) := by kernel_rfl
@[go_sem] theorem ty_fi79_1 : tfield Try.prog 79 1 = some (1, 22, 1) := by kernel_rfl
@[go_sem] theorem ty_fi79_2 : tfield Try.prog 79 2 = some (2, 73, 1) := by kernel_rfl
@[go_sem] theorem ty_fi79_3 : tfield Try.prog 79 3 = some (3, 74, 1) := by kernel_rfl
@[go_sem] theorem ty_fi79_4 : tfield Try.prog 79 4 = some (4, 75, 1) := by kernel_rfl
@[go_sem] theorem ty_fi79_5 : tfield Try.prog 79 5 = some (5, 76, 1) := by kernel_rfl
@[go_sem] theorem ty_fi79_6 : tfield Try.prog 79 6 = some (6, 77, 1) := by kernel_rfl
@[go_sem] theorem ty_fi86_0 : tfield Try.prog 86 0 = some (0, 3, 1) := by kernel_rfl
@[go_sem] theorem ty_fi86_1 : tfield Try.prog 86 1 = some (1, 3, 1) := by kernel_rfl
@[go_sem] theorem ty_fi86_3 : tfield Try.prog 86 3 = some (3, 3, 1) := by kernel_rfl
@[go_sem] theorem ty_fi86_4 : tfield Try.prog 86 4 = some (4, 4, 1) := by kernel_rfl
@[go_sem] theorem ty_fi94_0 : tfield Try.prog 94 0 = some (0, 9, 1) := by kernel_rfl
@[go_sem] theorem ty_fi94_1 : tfield Try.prog 94 1 = some (1, 3, 1) := by kernel_rfl
@[go_sem] theorem ty_fi98_0 : tfield Try.prog 98 0 = some (0, 9, 1) := by kernel_rfl
@[go_sem] theorem ty_fi98_1 : tfield Try.prog 98 1 = some (1, 9, 1) := by kernel_rfl
@[go_sem] theorem ty_fi98_2 : tfield Try.prog 98 2 = some (2, 3, 1) := by kernel_rfl
@[go_sem] theorem ty_fs140 : flatS Try.prog 140 = some [(0, 3), (1, 3)] := by kernel_rfl
@[go_sem] theorem ty_fs178 : flatS Try.prog 178 = some [(0, 9), (1, 3), (2, 3)] := by kernel_rfl
@[go_sem] theorem ty_fs87 : flatS Try.prog 87 = some [(0, 3), (1, 3)] := by kernel_rfl
@[go_sem] theorem ty_fs94 : flatS Try.prog 94 = some [(0, 9), (1, 3)] := by kernel_rfl
@[go_sem] theorem ty_in3 : intKindOf Try.prog 3 = some .i64 := by kernel_rfl
@[go_sem] theorem ty_in403 : intKindOf Try.prog 403 = some .u32 := by kernel_rfl
@[go_sem] theorem ty_in406 : intKindOf Try.prog 406 = some .u64 := by kernel_rfl
@[go_sem] theorem ty_in426 : intKindOf Try.prog 426 = some .u64 := by kernel_rfl
@[go_sem] theorem ty_in5 : intKindOf Try.prog 5 = some .u8 := by kernel_rfl
@[go_sem] theorem ty_in88 : intKindOf Try.prog 88 = some .u64 := by kernel_rfl
@[go_sem] theorem ty_ki105 : kindIs Try.prog 105 isSliceT = true := by kernel_rfl
@[go_sem] theorem ty_ki106 : kindIs Try.prog 106 isSliceT = true := by kernel_rfl
@[go_sem] theorem ty_ki125 : kindIs Try.prog 125 isSliceT = true := by kernel_rfl
@[go_sem] theorem ty_ki130 : kindIs Try.prog 130 isSliceT = true := by kernel_rfl
@[go_sem] theorem ty_ki131 : kindIs Try.prog 131 isSliceT = true := by kernel_rfl
@[go_sem] theorem ty_ki138 : kindIs Try.prog 138 isSliceT = true := by kernel_rfl
@[go_sem] theorem ty_ki144 : kindIs Try.prog 144 isSliceT = true := by kernel_rfl
@[go_sem] theorem ty_ki145 : kindIs Try.prog 145 isSliceT = true := by kernel_rfl
@[go_sem] theorem ty_ki156 : kindIs Try.prog 156 isSliceT = true := by kernel_rfl
@[go_sem] theorem ty_ki163 : kindIs Try.prog 163 isSliceT = true := by kernel_rfl
@[go_sem] theorem ty_ki170 : kindIs Try.prog 170 isSliceT = true := by kernel_rfl
@[go_sem] theorem ty_ki171 : kindIs Try.prog 171 isSliceT = true := by kernel_rfl
@[go_sem] theorem ty_ki180 : kindIs Try.prog 180 isSliceT = true := by kernel_rfl
@[go_sem] theorem ty_ki183 : kindIs Try.prog 183 isSliceT = true := by kernel_rfl
@[go_sem] theorem ty_ki199 : kindIs Try.prog 199 isSliceT = true := by kernel_rfl
@[go_sem] theorem ty_ki206 : kindIs Try.prog 206 isMapT = true := by kernel_rfl
@[go_sem] theorem ty_ki212 : kindIs Try.prog 212 isSliceT = true := by kernel_rfl
@[go_sem] theorem ty_ki22 : kindIs Try.prog 22 isSliceT = true := by kernel_rfl
@[go_sem] theorem ty_ki227 : kindIs Try.prog 227 isSliceT = true := by kernel_rfl
@[go_sem] theorem ty_ki23 : kindIs Try.prog 23 isSliceT = true := by kernel_rfl
@[go_sem] theorem ty_ki24 : kindIs Try.prog 24 isPtrT = true := by kernel_rfl
@[go_sem] theorem ty_ki241 : kindIs Try.prog 241 isSliceT = true := by kernel_rfl
@[go_sem] theorem ty_ki242 : kindIs Try.prog 242 isSliceT = true := by kernel_rfl
@[go_sem] theorem ty_ki248 : kindIs Try.prog 248 isSliceT = true := by kernel_rfl
@[go_sem] theorem ty_ki249 : kindIs Try.prog 249 isMapT = true := by kernel_rfl
@[go_sem] theorem ty_ki252 : kindIs Try.prog 252 isSliceT = true := by kernel_rfl
@[go_sem] theorem ty_ki253 : kindIs Try.prog 253 isSliceT = true := by kernel_rfl
@[go_sem] theorem ty_ki254 : kindIs Try.prog 254 isSliceT = true := by kernel_rfl
@[go_sem] theorem ty_ki259 : kindIs Try.prog 259 isPtrT = true := by kernel_rfl
@[go_sem] theorem ty_ki260 : kindIs Try.prog 260 isMapT = true := by kernel_rfl
@[go_sem] theorem ty_ki266 : kindIs Try.prog 266 isSliceT = true := by kernel_rfl
@[go_sem] theorem ty_ki267 : kindIs Try.prog 267 isSliceT = true := by kernel_rfl
@[go_sem] theorem ty_ki268 : kindIs Try.prog 268 isSliceT = true := by kernel_rfl
@[go_sem] theorem ty_ki269 : kindIs Try.prog 269 isMapT = true := by kernel_rfl
@[go_sem] theorem ty_ki270 : kindIs Try.prog 270 isMapT = true := by kernel_rfl
@[go_sem] theorem ty_ki271 : kindIs Try.prog 271 isSliceT = true := by kernel_rfl
@[go_sem] theorem ty_ki276 : kindIs Try.prog 276 isSliceT = true := by kernel_rfl
@[go_sem] theorem ty_ki283 : kindIs Try.prog 283 isMapT = true := by kernel_rfl
@[go_sem] theorem ty_ki284 : kindIs Try.prog 284 isSliceT = true := by kernel_rfl
@[go_sem] theorem ty_ki289 : kindIs Try.prog 289 isMapT = true := by kernel_rfl
@[go_sem] theorem ty_ki293 : kindIs Try.prog 293 isSliceT = true := by kernel_rfl
@[go_sem] theorem ty_ki30 : kindIs Try.prog 30 isMapT = true := by kernel_rfl
@[go_sem] theorem ty_ki307 : kindIs Try.prog 307 isPtrT = true := by kernel_rfl
@[go_sem] theorem ty_ki31 : kindIs Try.prog 31 isMapT = true := by kernel_rfl
@[go_sem] theorem ty_ki312 : kindIs Try.prog 312 isSliceT = true := by kernel_rfl
@[go_sem] theorem ty_ki32 : kindIs Try.prog 32 isSliceT = true := by kernel_rfl
@[go_sem] theorem ty_ki322 : kindIs Try.prog 322 isSliceT = true := by kernel_rfl
@[go_sem] theorem ty_ki329 : kindIs Try.prog 329 isMapT = true := by kernel_rfl
@[go_sem] theorem ty_ki366 : kindIs Try.prog 366 isSliceT = true := by kernel_rfl
@[go_sem] theorem ty_ki38 : kindIs Try.prog 38 isSliceT = true := by kernel_rfl
@[go_sem] theorem ty_ki387 : kindIs Try.prog 387 isSliceT = true := by kernel_rfl
@[go_sem] theorem ty_ki396 : kindIs Try.prog 396 isPtrT = true := by kernel_rfl
@[go_sem] theorem ty_ki4 : kindIs Try.prog 4 isBoolT = true := by kernel_rfl
@[go_sem] theorem ty_ki43 : kindIs Try.prog 43 isSliceT = true := by kernel_rfl
@[go_sem] theorem ty_ki50 : kindIs Try.prog 50 isSliceT = true := by kernel_rfl
@[go_sem] theorem ty_ki51 : kindIs Try.prog 51 isSliceT = true := by kernel_rfl
@[go_sem] theorem ty_ki52 : kindIs Try.prog 52 isSliceT = true := by kernel_rfl
@[go_sem] theorem ty_ki53 : kindIs Try.prog 53 isSliceT = true := by kernel_rfl
@[go_sem] theorem ty_ki54 : kindIs Try.prog 54 isSliceT = true := by kernel_rfl
@[go_sem] theorem ty_ki59 : kindIs Try.prog 59 isSliceT = true := by kernel_rfl
@[go_sem] theorem ty_ki60 : kindIs Try.prog 60 isSliceT = true := by kernel_rfl
@[go_sem] theorem ty_ki61 : kindIs Try.prog 61 isSliceT = true := by kernel_rfl
@[go_sem] theorem ty_ki73 : kindIs Try.prog 73 isSliceT = true := by kernel_rfl
@[go_sem] theorem ty_ki74 : kindIs Try.prog 74 isSliceT = true := by kernel_rfl
@[go_sem] theorem ty_ki75 : kindIs Try.prog 75 isSliceT = true := by kernel_rfl
@[go_sem] theorem ty_ki76 : kindIs Try.prog 76 isSliceT = true := by kernel_rfl
@[go_sem] theorem ty_ki77 : kindIs Try.prog 77 isSliceT = true := by kernel_rfl
@[go_sem] theorem ty_ki80 : kindIs Try.prog 80 isSliceT = true := by kernel_rfl
@[go_sem] theorem ty_ki84 : kindIs Try.prog 84 isMapT = true := by kernel_rfl
@[go_sem] theorem ty_ki92 : kindIs Try.prog 92 isSliceT = true := by kernel_rfl
@[go_sem] theorem ty_kn3 : kindN Try.prog 3 = some 1 := by kernel_rfl
@[go_sem] theorem ty_kn9 : kindN Try.prog 9 = some 2 := by kernel_rfl
@[go_sem] theorem ty_mp206 : tmap Try.prog 206 = some (9, (.bool false)) := by kernel_rfl
@[go_sem] theorem ty_mp249 : tmap Try.prog 249 = some (87, (.sl [] true .full)) := by kernel_rfl
@[go_sem] theorem ty_mp260 : tmap Try.prog 260 = some (87, (.int .i64 0)) := by kernel_rfl
@[go_sem] theorem ty_mp269 : tmap Try.prog 269 = some (87, (.sl [] true .full)) := by kernel_rfl
@[go_sem] theorem ty_mp270 : tmap Try.prog 270 = some (3, (.int .i64 0)) := by kernel_rfl
@[go_sem] theorem ty_mp283 : tmap Try.prog 283 = some (87, (.sl [] true .full)) := by kernel_rfl
@[go_sem] theorem ty_mp289 : tmap Try.prog 289 = some (87, .nilp) := by kernel_rfl
@[go_sem] theorem ty_mp30 : tmap Try.prog 30 = some (3, (.bool false)) := by kernel_rfl
@[go_sem] theorem ty_mp31 : tmap Try.prog 31 = some (3, (.sl [] true .full)) := by kernel_rfl
@[go_sem] theorem ty_mp329 : tmap Try.prog 329 = some (9, (.int .i64 0)) := by kernel_rfl
@[go_sem] theorem ty_mp84 : tmap Try.prog 84 = some (87, (.sl [] true .full)) := by kernel_rfl
@[go_sem] theorem ty_ni9 : kindIs Try.prog 9 (fun d => !isIfaceT d) = true := by kernel_rfl
@[go_sem] theorem ty_pl108 : tplaces Try.prog 108 = some [(0, 1), (1, 1), (2, 1), (3, 1)] := by kernel_rfl
@[go_sem] theorem ty_pl112 : tplaces Try.prog 112 = some [(0, 1), (1, 1), (2, 1), (3, 1)] := by kernel_rfl
@[go_sem] theorem ty_pl124 : tplaces Try.prog 124 = some [(0, 1), (1, 4)] := by kernel_rfl
@[go_sem] theorem ty_pl127 : tplaces Try.prog 127 = some [(0, 1), (1, 1), (2, 5), (7, 1), (8, 1)] := by kernel_rfl
@[go_sem] theorem ty_pl133 : tplaces Try.prog 133 = some [(0, 1), (1, 1), (2, 1), (3, 1)] := by kernel_rfl
@[go_sem] theorem ty_pl137 : tplaces Try.prog 137 = some [(0, 1), (1, 1), (2, 1), (3, 1), (4, 1)] := by kernel_rfl
@[go_sem] theorem ty_pl140 : tplaces Try.prog 140 = some [(0, 1), (1, 1)] := by kernel_rfl
@[go_sem] theorem ty_pl147 : tplaces Try.prog 147 = some [(0, 1), (1, 1), (2, 1), (3, 1), (4, 1)] := by kernel_rfl
@[go_sem] theorem ty_pl151 : tplaces Try.prog 151 = some [(0, 1), (1, 1), (2, 1), (3, 1)] := by kernel_rfl
@[go_sem] theorem ty_pl158 : tplaces Try.prog 158 = some [(0, 1)] := by kernel_rfl
@[go_sem] theorem ty_pl167 : tplaces Try.prog 167 = some [(0, 1), (1, 1), (2, 1)] := by kernel_rfl
@[go_sem] theorem ty_pl175 : tplaces Try.prog 175 = some [(0, 1), (1, 1)] := by kernel_rfl
@[go_sem] theorem ty_pl178 : tplaces Try.prog 178 = some [(0, 1), (1, 1), (2, 1)] := by kernel_rfl
@[go_sem] theorem ty_pl189 : tplaces Try.prog 189 = some [(0, 1), (1, 1)] := by kernel_rfl
@[go_sem] theorem ty_pl201 : tplaces Try.prog 201 = some [(0, 1), (1, 1), (2, 1), (3, 1), (4, 1)] := by kernel_rfl
@[go_sem] theorem ty_pl209 : tplaces Try.prog 209 = some [(0, 8), (8, 8), (16, 1)] := by kernel_rfl
@[go_sem] theorem ty_pl214 : tplaces Try.prog 214 = some [(0, 1), (1, 1), (2, 1)] := by kernel_rfl
@[go_sem] theorem ty_pl233 : tplaces Try.prog 233 = some [(0, 7), (7, 1), (8, 1), (9, 1)] := by kernel_rfl
@[go_sem] theorem ty_pl245 : tplaces Try.prog 245 = some [(0, 1), (1, 1)] := by kernel_rfl
@[go_sem] theorem ty_pl251 : tplaces Try.prog 251 = some [(0, 1), (1, 1)] := by kernel_rfl
@[go_sem] theorem ty_pl256 : tplaces Try.prog 256 = some [(0, 1), (1, 1), (2, 1), (3, 1)] := by kernel_rfl
@[go_sem] theorem ty_pl258 : tplaces Try.prog 258 = some [(0, 1), (1, 1)] := by kernel_rfl
@[go_sem] theorem ty_pl262 : tplaces Try.prog 262 = some [(0, 1), (1, 1), (2, 1)] := by kernel_rfl
@[go_sem] theorem ty_pl273 : tplaces Try.prog 273 = some [(0, 1), (1, 1)] := by kernel_rfl
@[go_sem] theorem ty_pl275 : tplaces Try.prog 275 = some [(0, 1), (1, 1), (2, 1), (3, 1), (4, 1), (5, 1), (6, 1)] := by kernel_rfl
@[go_sem] theorem ty_pl286 : tplaces Try.prog 286 = some [(0, 1), (1, 1), (2, 1)] := by kernel_rfl
@[go_sem] theorem ty_pl292 : tplaces Try.prog 292 = some [(0, 1), (1, 1), (2, 1), (3, 1), (4, 1)] := by kernel_rfl
@[go_sem] theorem ty_pl295 : tplaces Try.prog 295 = some [(0, 1), (1, 1), (2, 1), (3, 1)] := by kernel_rfl
@[go_sem] theorem ty_pl300 : tplaces Try.prog 300 = some [(0, 1), (1, 4)] := by kernel_rfl
@[go_sem] theorem ty_pl311 : tplaces Try.prog 311 = some [(0, 1), (1, 1)] := by kernel_rfl
@[go_sem] theorem ty_pl327 : tplaces Try.prog 327 = some [(0, 1), (1, 1)] := by kernel_rfl
@[go_sem] theorem ty_pl340 : tplaces Try.prog 340 = some [(0, 1), (1, 1)] := by kernel_rfl
@[go_sem] theorem ty_pl361 : tplaces Try.prog 361 = some [(0, 1), (1, 1), (2, 1), (3, 1), (4, 1), (5, 1), (6, 1), (7, 1)] := by kernel_rfl
@[go_sem] theorem ty_pl368 : tplaces Try.prog 368 = some [(0, 1), (1, 1)] := by kernel_rfl
@[go_sem] theorem ty_pl381 : tplaces Try.prog 381 = some [(0, 3), (3, 1), (4, 1)] := by kernel_rfl
@[go_sem] theorem ty_pl400 : tplaces Try.prog 400 = some [(0, 1), (1, 1), (2, 1)] := by kernel_rfl
@[go_sem] theorem ty_pl45 : tplaces Try.prog 45 = some [(0, 1), (1, 1), (2, 1)] := by kernel_rfl
@[go_sem] theorem ty_pl56 : tplaces Try.prog 56 = some [(0, 1), (1, 1), (2, 1), (3, 1), (4, 1), (5, 1), (6, 1), (7, 1)] := by kernel_rfl
@[go_sem] theorem ty_pl65 : tplaces Try.prog 65 = some [(0, 1), (1, 1), (2, 1), (3, 3), (6, 8)] := by kernel_rfl
@[go_sem] theorem ty_pl87 : tplaces Try.prog 87 = some [(0, 1), (1, 1)] := by kernel_rfl
@[go_sem] theorem ty_pl94 : tplaces Try.prog 94 = some [(0, 1), (1, 1)] := by kernel_rfl
@[go_sem] theorem ty_sl105 : tslice Try.prog 105 = some (112, 4) := by kernel_rfl
@[go_sem] theorem ty_sl106 : tslice Try.prog 106 = some (108, 4) := by kernel_rfl
@[go_sem] theorem ty_sl125 : tslice Try.prog 125 = some (127, 9) := by kernel_rfl
@[go_sem] theorem ty_sl130 : tslice Try.prog 130 = some (137, 5) := by kernel_rfl
@[go_sem] theorem ty_sl131 : tslice Try.prog 131 = some (138, 1) := by kernel_rfl
@[go_sem] theorem ty_sl138 : tslice Try.prog 138 = some (140, 2) := by kernel_rfl
@[go_sem] theorem ty_sl144 : tslice Try.prog 144 = some (151, 4) := by kernel_rfl
@[go_sem] theorem ty_sl145 : tslice Try.prog 145 = some (38, 1) := by kernel_rfl
@[go_sem] theorem ty_sl156 : tslice Try.prog 156 = some (295, 4) := by kernel_rfl
@[go_sem] theorem ty_sl163 : tslice Try.prog 163 = some (167, 3) := by kernel_rfl
@[go_sem] theorem ty_sl170 : tslice Try.prog 170 = some (175, 2) := by kernel_rfl
@[go_sem] theorem ty_sl171 : tslice Try.prog 171 = some (178, 3) := by kernel_rfl
@[go_sem] theorem ty_sl180 : tslice Try.prog 180 = some (189, 2) := by kernel_rfl
@[go_sem] theorem ty_sl183 : tslice Try.prog 183 = some (87, 2) := by kernel_rfl
@[go_sem] theorem ty_sl199 : tslice Try.prog 199 = some (4, 1) := by kernel_rfl
@[go_sem] theorem ty_sl212 : tslice Try.prog 212 = some (216, 2) := by kernel_rfl
@[go_sem] theorem ty_sl22 : tslice Try.prog 22 = some (3, 1) := by kernel_rfl
@[go_sem] theorem ty_sl227 : tslice Try.prog 227 = some (231, 5) := by kernel_rfl
@[go_sem] theorem ty_sl23 : tslice Try.prog 23 = some (34, 4) := by kernel_rfl
@[go_sem] theorem ty_sl241 : tslice Try.prog 241 = some (245, 2) := by kernel_rfl
@[go_sem] theorem ty_sl242 : tslice Try.prog 242 = some (124, 5) := by kernel_rfl
@[go_sem] theorem ty_sl248 : tslice Try.prog 248 = some (256, 4) := by kernel_rfl
@[go_sem] theorem ty_sl252 : tslice Try.prog 252 = some (259, 1) := by kernel_rfl
@[go_sem] theorem ty_sl253 : tslice Try.prog 253 = some (258, 2) := by kernel_rfl
@[go_sem] theorem ty_sl254 : tslice Try.prog 254 = some (361, 8) := by kernel_rfl
@[go_sem] theorem ty_sl265 : tslice Try.prog 265 = some (270, 1) := by kernel_rfl
@[go_sem] theorem ty_sl266 : tslice Try.prog 266 = some (260, 1) := by kernel_rfl
@[go_sem] theorem ty_sl267 : tslice Try.prog 267 = some (271, 1) := by kernel_rfl
@[go_sem] theorem ty_sl268 : tslice Try.prog 268 = some (276, 1) := by kernel_rfl
@[go_sem] theorem ty_sl271 : tslice Try.prog 271 = some (273, 2) := by kernel_rfl
@[go_sem] theorem ty_sl276 : tslice Try.prog 276 = some (275, 7) := by kernel_rfl
@[go_sem] theorem ty_sl284 : tslice Try.prog 284 = some (24, 1) := by kernel_rfl
@[go_sem] theorem ty_sl293 : tslice Try.prog 293 = some (300, 5) := by kernel_rfl
@[go_sem] theorem ty_sl312 : tslice Try.prog 312 = some (311, 2) := by kernel_rfl
@[go_sem] theorem ty_sl32 : tslice Try.prog 32 = some (5, 1) := by kernel_rfl
@[go_sem] theorem ty_sl322 : tslice Try.prog 322 = some (379, 1) := by kernel_rfl
@[go_sem] theorem ty_sl366 : tslice Try.prog 366 = some (368, 2) := by kernel_rfl
@[go_sem] theorem ty_sl38 : tslice Try.prog 38 = some (22, 1) := by kernel_rfl
@[go_sem] theorem ty_sl387 : tslice Try.prog 387 = some (180, 1) := by kernel_rfl
@[go_sem] theorem ty_sl43 : tslice Try.prog 43 = some (45, 3) := by kernel_rfl
@[go_sem] theorem ty_sl50 : tslice Try.prog 50 = some (214, 3) := by kernel_rfl
@[go_sem] theorem ty_sl51 : tslice Try.prog 51 = some (218, 2) := by kernel_rfl
@[go_sem] theorem ty_sl52 : tslice Try.prog 52 = some (220, 3) := by kernel_rfl
@[go_sem] theorem ty_sl53 : tslice Try.prog 53 = some (347, 15) := by kernel_rfl
@[go_sem] theorem ty_sl54 : tslice Try.prog 54 = some (65, 14) := by kernel_rfl
@[go_sem] theorem ty_sl59 : tslice Try.prog 59 = some (9, 1) := by kernel_rfl
@[go_sem] theorem ty_sl60 : tslice Try.prog 60 = some (63, 8) := by kernel_rfl
@[go_sem] theorem ty_sl61 : tslice Try.prog 61 = some (349, 12) := by kernel_rfl
@[go_sem] theorem ty_sl73 : tslice Try.prog 73 = some (229, 5) := by kernel_rfl
@[go_sem] theorem ty_sl75 : tslice Try.prog 75 = some (98, 3) := by kernel_rfl
@[go_sem] theorem ty_sl77 : tslice Try.prog 77 = some (105, 1) := by kernel_rfl
@[go_sem] theorem ty_sl80 : tslice Try.prog 80 = some (86, 5) := by kernel_rfl
@[go_sem] theorem ty_sl92 : tslice Try.prog 92 = some (94, 2) := by kernel_rfl
@[go_sem] theorem ty_st105 : isStr Try.prog 105 = false := by kernel_rfl
@[go_sem] theorem ty_st106 : isStr Try.prog 106 = false := by kernel_rfl
@[go_sem] theorem ty_st125 : isStr Try.prog 125 = false := by kernel_rfl
@[go_sem] theorem ty_st130 : isStr Try.prog 130 = false := by kernel_rfl
@[go_sem] theorem ty_st131 : isStr Try.prog 131 = false := by kernel_rfl
@[go_sem] theorem ty_st138 : isStr Try.prog 138 = false := by kernel_rfl
@[go_sem] theorem ty_st144 : isStr Try.prog 144 = false := by kernel_rfl
@[go_sem] theorem ty_st145 : isStr Try.prog 145 = false := by kernel_rfl
@[go_sem] theorem ty_st156 : isStr Try.prog 156 = false := by kernel_rfl
@[go_sem] theorem ty_st163 : isStr Try.prog 163 = false := by kernel_rfl
@[go_sem] theorem ty_st170 : isStr Try.prog 170 = false := by kernel_rfl
@[go_sem] theorem ty_st171 : isStr Try.prog 171 = false := by kernel_rfl
@[go_sem] theorem ty_st180 : isStr Try.prog 180 = false := by kernel_rfl
@[go_sem] theorem ty_st183 : isStr Try.prog 183 = false := by kernel_rfl
@[go_sem] theorem ty_st199 : isStr Try.prog 199 = false := by kernel_rfl
@[go_sem] theorem ty_st212 : isStr Try.prog 212 = false := by kernel_rfl
@[go_sem] theorem ty_st22 : isStr Try.prog 22 = false := by kernel_rfl
@[go_sem] theorem ty_st227 : isStr Try.prog 227 = false := by kernel_rfl
@[go_sem] theorem ty_st23 : isStr Try.prog 23 = false := by kernel_rfl
@[go_sem] theorem ty_st241 : isStr Try.prog 241 = false := by kernel_rfl
@[go_sem] theorem ty_st242 : isStr Try.prog 242 = false := by kernel_rfl
@[go_sem] theorem ty_st248 : isStr Try.prog 248 = false := by kernel_rfl
@[go_sem] theorem ty_st252 : isStr Try.prog 252 = false := by kernel_rfl
@[go_sem] theorem ty_st253 : isStr Try.prog 253 = false := by kernel_rfl
@[go_sem] theorem ty_st254 : isStr Try.prog 254 = false := by kernel_rfl
@[go_sem] theorem ty_st260 : isStr Try.prog 260 = false := by kernel_rfl
@[go_sem] theorem ty_st266 : isStr Try.prog 266 = false := by kernel_rfl
@[go_sem] theorem ty_st267 : isStr Try.prog 267 = false := by kernel_rfl
@[go_sem] theorem ty_st268 : isStr Try.prog 268 = false := by kernel_rfl
@[go_sem] theorem ty_st271 : isStr Try.prog 271 = false := by kernel_rfl
@[go_sem] theorem ty_st276 : isStr Try.prog 276 = false := by kernel_rfl
@[go_sem] theorem ty_st284 : isStr Try.prog 284 = false := by kernel_rfl
@[go_sem] theorem ty_st293 : isStr Try.prog 293 = false := by kernel_rfl
@[go_sem] theorem ty_st3 : isStr Try.prog 3 = false := by kernel_rfl
@[go_sem] theorem ty_st30 : isStr Try.prog 30 = false := by kernel_rfl
@[go_sem] theorem ty_st307 : isStr Try.prog 307 = false := by kernel_rfl
@[go_sem] theorem ty_st312 : isStr Try.prog 312 = false := by kernel_rfl
@[go_sem] theorem ty_st32 : isStr Try.prog 32 = false := by kernel_rfl
@[go_sem] theorem ty_st322 : isStr Try.prog 322 = false := by kernel_rfl
@[go_sem] theorem ty_st327 : isStr Try.prog 327 = false := by kernel_rfl
@[go_sem] theorem ty_st340 : isStr Try.prog 340 = false := by kernel_rfl
@[go_sem] theorem ty_st366 : isStr Try.prog 366 = false := by kernel_rfl
@[go_sem] theorem ty_st38 : isStr Try.prog 38 = false := by kernel_rfl
@[go_sem] theorem ty_st387 : isStr Try.prog 387 = false := by kernel_rfl
@[go_sem] theorem ty_st401 : isStr Try.prog 401 = false := by kernel_rfl
@[go_sem] theorem ty_st403 : isStr Try.prog 403 = false := by kernel_rfl
@[go_sem] theorem ty_st406 : isStr Try.prog 406 = false := by kernel_rfl
@[go_sem] theorem ty_st426 : isStr Try.prog 426 = false := by kernel_rfl
@[go_sem] theorem ty_st43 : isStr Try.prog 43 = false := by kernel_rfl
@[go_sem] theorem ty_st5 : isStr Try.prog 5 = false := by kernel_rfl
@[go_sem] theorem ty_st50 : isStr Try.prog 50 = false := by kernel_rfl
@[go_sem] theorem ty_st51 : isStr Try.prog 51 = false := by kernel_rfl
@[go_sem] theorem ty_st52 : isStr Try.prog 52 = false := by kernel_rfl
@[go_sem] theorem ty_st53 : isStr Try.prog 53 = false := by kernel_rfl
@[go_sem] theorem ty_st54 : isStr Try.prog 54 = false := by kernel_rfl
@[go_sem] theorem ty_st59 : isStr Try.prog 59 = false := by kernel_rfl
@[go_sem] theorem ty_st60 : isStr Try.prog 60 = false := by kernel_rfl
@[go_sem] theorem ty_st61 : isStr Try.prog 61 = false := by kernel_rfl
@[go_sem] theorem ty_st73 : isStr Try.prog 73 = false := by kernel_rfl
@[go_sem] theorem ty_st74 : isStr Try.prog 74 = false := by kernel_rfl
@[go_sem] theorem ty_st75 : isStr Try.prog 75 = false := by kernel_rfl
@[go_sem] theorem ty_st76 : isStr Try.prog 76 = false := by kernel_rfl
@[go_sem] theorem ty_st77 : isStr Try.prog 77 = false := by kernel_rfl
@[go_sem] theorem ty_st80 : isStr Try.prog 80 = false := by kernel_rfl
@[go_sem] theorem ty_st87 : isStr Try.prog 87 = false := by kernel_rfl
@[go_sem] theorem ty_st88 : isStr Try.prog 88 = false := by kernel_rfl
@[go_sem] theorem ty_st9 : isStr Try.prog 9 = true := by kernel_rfl
@[go_sem] theorem ty_st92 : isStr Try.prog 92 = false := by kernel_rfl
@[go_sem] theorem ty_sz105 : tsz Try.prog 105 = some 1 := by kernel_rfl
@[go_sem] theorem ty_sz106 : tsz Try.prog 106 = some 1 := by kernel_rfl
@[go_sem] theorem ty_sz108 : tsz Try.prog 108 = some 4 := by kernel_rfl
@[go_sem] theorem ty_sz112 : tsz Try.prog 112 = some 4 := by kernel_rfl
@[go_sem] theorem ty_sz124 : tsz Try.prog 124 = some 5 := by kernel_rfl
@[go_sem] theorem ty_sz125 : tsz Try.prog 125 = some 1 := by kernel_rfl
@[go_sem] theorem ty_sz127 : tsz Try.prog 127 = some 9 := by kernel_rfl
@[go_sem] theorem ty_sz131 : tsz Try.prog 131 = some 1 := by kernel_rfl
@[go_sem] theorem ty_sz133 : tsz Try.prog 133 = some 4 := by kernel_rfl
@[go_sem] theorem ty_sz137 : tsz Try.prog 137 = some 5 := by kernel_rfl
@[go_sem] theorem ty_sz138 : tsz Try.prog 138 = some 1 := by kernel_rfl
@[go_sem] theorem ty_sz140 : tsz Try.prog 140 = some 2 := by kernel_rfl
@[go_sem] theorem ty_sz145 : tsz Try.prog 145 = some 1 := by kernel_rfl
@[go_sem] theorem ty_sz147 : tsz Try.prog 147 = some 5 := by kernel_rfl
@[go_sem] theorem ty_sz151 : tsz Try.prog 151 = some 4 := by kernel_rfl
@[go_sem] theorem ty_sz156 : tsz Try.prog 156 = some 1 := by kernel_rfl
@[go_sem] theorem ty_sz158 : tsz Try.prog 158 = some 1 := by kernel_rfl
@[go_sem] theorem ty_sz167 : tsz Try.prog 167 = some 3 := by kernel_rfl
@[go_sem] theorem ty_sz175 : tsz Try.prog 175 = some 2 := by kernel_rfl
@[go_sem] theorem ty_sz178 : tsz Try.prog 178 = some 3 := by kernel_rfl
@[go_sem] theorem ty_sz180 : tsz Try.prog 180 = some 1 := by kernel_rfl
@[go_sem] theorem ty_sz189 : tsz Try.prog 189 = some 2 := by kernel_rfl
@[go_sem] theorem ty_sz199 : tsz Try.prog 199 = some 1 := by kernel_rfl
@[go_sem] theorem ty_sz201 : tsz Try.prog 201 = some 5 := by kernel_rfl
@[go_sem] theorem ty_sz206 : tsz Try.prog 206 = some 1 := by kernel_rfl
@[go_sem] theorem ty_sz207 : tsz Try.prog 207 = some 1 := by kernel_rfl
@[go_sem] theorem ty_sz209 : tsz Try.prog 209 = some 17 := by kernel_rfl
@[go_sem] theorem ty_sz212 : tsz Try.prog 212 = some 1 := by kernel_rfl
@[go_sem] theorem ty_sz214 : tsz Try.prog 214 = some 3 := by kernel_rfl
@[go_sem] theorem ty_sz216 : tsz Try.prog 216 = some 2 := by kernel_rfl
@[go_sem] theorem ty_sz218 : tsz Try.prog 218 = some 2 := by kernel_rfl
@[go_sem] theorem ty_sz22 : tsz Try.prog 22 = some 1 := by kernel_rfl
@[go_sem] theorem ty_sz220 : tsz Try.prog 220 = some 3 := by kernel_rfl
@[go_sem] theorem ty_sz227 : tsz Try.prog 227 = some 1 := by kernel_rfl
@[go_sem] theorem ty_sz229 : tsz Try.prog 229 = some 5 := by kernel_rfl
@[go_sem] theorem ty_sz231 : tsz Try.prog 231 = some 5 := by kernel_rfl
@[go_sem] theorem ty_sz233 : tsz Try.prog 233 = some 10 := by kernel_rfl
@[go_sem] theorem ty_sz24 : tsz Try.prog 24 = some 1 := by kernel_rfl
@[go_sem] theorem ty_sz242 : tsz Try.prog 242 = some 1 := by kernel_rfl
@[go_sem] theorem ty_sz245 : tsz Try.prog 245 = some 2 := by kernel_rfl
@[go_sem] theorem ty_sz247 : tsz Try.prog 247 = some 1 := by kernel_rfl
@[go_sem] theorem ty_sz248 : tsz Try.prog 248 = some 1 := by kernel_rfl
@[go_sem] theorem ty_sz249 : tsz Try.prog 249 = some 1 := by kernel_rfl
@[go_sem] theorem ty_sz251 : tsz Try.prog 251 = some 2 := by kernel_rfl
@[go_sem] theorem ty_sz252 : tsz Try.prog 252 = some 1 := by kernel_rfl
@[go_sem] theorem ty_sz253 : tsz Try.prog 253 = some 1 := by kernel_rfl
@[go_sem] theorem ty_sz254 : tsz Try.prog 254 = some 1 := by kernel_rfl
@[go_sem] theorem ty_sz256 : tsz Try.prog 256 = some 4 := by kernel_rfl
@[go_sem] theorem ty_sz258 : tsz Try.prog 258 = some 2 := by kernel_rfl
@[go_sem] theorem ty_sz259 : tsz Try.prog 259 = some 1 := by kernel_rfl
@[go_sem] theorem ty_sz260 : tsz Try.prog 260 = some 1 := by kernel_rfl
@[go_sem] theorem ty_sz262 : tsz Try.prog 262 = some 3 := by kernel_rfl
@[go_sem] theorem ty_sz265 : tsz Try.prog 265 = some 1 := by kernel_rfl
@[go_sem] theorem ty_sz266 : tsz Try.prog 266 = some 1 := by kernel_rfl
@[go_sem] theorem ty_sz267 : tsz Try.prog 267 = some 1 := by kernel_rfl
@[go_sem] theorem ty_sz268 : tsz Try.prog 268 = some 1 := by kernel_rfl
@[go_sem] theorem ty_sz269 : tsz Try.prog 269 = some 1 := by kernel_rfl
@[go_sem] theorem ty_sz270 : tsz Try.prog 270 = some 1 := by kernel_rfl
@[go_sem] theorem ty_sz271 : tsz Try.prog 271 = some 1 := by kernel_rfl
@[go_sem] theorem ty_sz273 : tsz Try.prog 273 = some 2 := by kernel_rfl
@[go_sem] theorem ty_sz275 : tsz Try.prog 275 = some 7 := by kernel_rfl
@[go_sem] theorem ty_sz276 : tsz Try.prog 276 = some 1 := by kernel_rfl
@[go_sem] theorem ty_sz277 : tsz Try.prog 277 = some 1 := by kernel_rfl
@[go_sem] theorem ty_sz279 : tsz Try.prog 279 = some 1 := by kernel_rfl
@[go_sem] theorem ty_sz282 : tsz Try.prog 282 = some 1 := by kernel_rfl
@[go_sem] theorem ty_sz283 : tsz Try.prog 283 = some 1 := by kernel_rfl
@[go_sem] theorem ty_sz284 : tsz Try.prog 284 = some 1 := by kernel_rfl
@[go_sem] theorem ty_sz286 : tsz Try.prog 286 = some 3 := by kernel_rfl
@[go_sem] theorem ty_sz289 : tsz Try.prog 289 = some 1 := by kernel_rfl
@[go_sem] theorem ty_sz292 : tsz Try.prog 292 = some 5 := by kernel_rfl
@[go_sem] theorem ty_sz293 : tsz Try.prog 293 = some 1 := by kernel_rfl
@[go_sem] theorem ty_sz295 : tsz Try.prog 295 = some 4 := by kernel_rfl
@[go_sem] theorem ty_sz3 : tsz Try.prog 3 = some 1 := by kernel_rfl
@[go_sem] theorem ty_sz300 : tsz Try.prog 300 = some 5 := by kernel_rfl
@[go_sem] theorem ty_sz307 : tsz Try.prog 307 = some 1 := by kernel_rfl
@[go_sem] theorem ty_sz309 : tsz Try.prog 309 = some 2 := by kernel_rfl
@[go_sem] theorem ty_sz311 : tsz Try.prog 311 = some 2 := by kernel_rfl
@[go_sem] theorem ty_sz32 : tsz Try.prog 32 = some 1 := by kernel_rfl
@[go_sem] theorem ty_sz322 : tsz Try.prog 322 = some 1 := by kernel_rfl
@[go_sem] theorem ty_sz34 : tsz Try.prog 34 = some 4 := by kernel_rfl
@[go_sem] theorem ty_sz347 : tsz Try.prog 347 = some 15 := by kernel_rfl
@[go_sem] theorem ty_sz349 : tsz Try.prog 349 = some 12 := by kernel_rfl
@[go_sem] theorem ty_sz361 : tsz Try.prog 361 = some 8 := by kernel_rfl
@[go_sem] theorem ty_sz368 : tsz Try.prog 368 = some 2 := by kernel_rfl
@[go_sem] theorem ty_sz379 : tsz Try.prog 379 = some 1 := by kernel_rfl
@[go_sem] theorem ty_sz38 : tsz Try.prog 38 = some 1 := by kernel_rfl
@[go_sem] theorem ty_sz381 : tsz Try.prog 381 = some 5 := by kernel_rfl
@[go_sem] theorem ty_sz396 : tsz Try.prog 396 = some 1 := by kernel_rfl
@[go_sem] theorem ty_sz4 : tsz Try.prog 4 = some 1 := by kernel_rfl
@[go_sem] theorem ty_sz400 : tsz Try.prog 400 = some 3 := by kernel_rfl
@[go_sem] theorem ty_sz426 : tsz Try.prog 426 = some 1 := by kernel_rfl
@[go_sem] theorem ty_sz43 : tsz Try.prog 43 = some 1 := by kernel_rfl
@[go_sem] theorem ty_sz45 : tsz Try.prog 45 = some 3 := by kernel_rfl
@[go_sem] theorem ty_sz5 : tsz Try.prog 5 = some 1 := by kernel_rfl
@[go_sem] theorem ty_sz50 : tsz Try.prog 50 = some 1 := by kernel_rfl
@[go_sem] theorem ty_sz51 : tsz Try.prog 51 = some 1 := by kernel_rfl
@[go_sem] theorem ty_sz52 : tsz Try.prog 52 = some 1 := by kernel_rfl
@[go_sem] theorem ty_sz53 : tsz Try.prog 53 = some 1 := by kernel_rfl
@[go_sem] theorem ty_sz54 : tsz Try.prog 54 = some 1 := by kernel_rfl
@[go_sem] theorem ty_sz56 : tsz Try.prog 56 = some 8 := by kernel_rfl
@[go_sem] theorem ty_sz59 : tsz Try.prog 59 = some 1 := by kernel_rfl
@[go_sem] theorem ty_sz60 : tsz Try.prog 60 = some 1 := by kernel_rfl
@[go_sem] theorem ty_sz61 : tsz Try.prog 61 = some 1 := by kernel_rfl
@[go_sem] theorem ty_sz63 : tsz Try.prog 63 = some 8 := by kernel_rfl
@[go_sem] theorem ty_sz65 : tsz Try.prog 65 = some 14 := by kernel_rfl
@[go_sem] theorem ty_sz73 : tsz Try.prog 73 = some 1 := by kernel_rfl
@[go_sem] theorem ty_sz74 : tsz Try.prog 74 = some 1 := by kernel_rfl
@[go_sem] theorem ty_sz75 : tsz Try.prog 75 = some 1 := by kernel_rfl
@[go_sem] theorem ty_sz76 : tsz Try.prog 76 = some 1 := by kernel_rfl
@[go_sem] theorem ty_sz77 : tsz Try.prog 77 = some 1 := by kernel_rfl
@[go_sem] theorem ty_sz79 : tsz Try.prog 79 = some 7 := by kernel_rfl
@[go_sem] theorem ty_sz84 : tsz Try.prog 84 = some 1 := by kernel_rfl
@[go_sem] theorem ty_sz86 : tsz Try.prog 86 = some 5 := by kernel_rfl
@[go_sem] theorem ty_sz87 : tsz Try.prog 87 = some 2 := by kernel_rfl
@[go_sem] theorem ty_sz9 : tsz Try.prog 9 = some 1 := by kernel_rfl
@[go_sem] theorem ty_sz94 : tsz Try.prog 94 = some 2 := by kernel_rfl
@[go_sem] theorem ty_sz98 : tsz Try.prog 98 = some 3 := by kernel_rfl
@[go_sem] theorem ty_u83 : isU8s Try.prog 3 = false := by kernel_rfl
@[go_sem] theorem ty_u8307 : isU8s Try.prog 307 = false := by kernel_rfl
@[go_sem] theorem ty_u832 : isU8s Try.prog 32 = true := by kernel_rfl
@[go_sem] theorem ty_u8401 : isU8s Try.prog 401 = false := by kernel_rfl
@[go_sem] theorem ty_u8403 : isU8s Try.prog 403 = false := by kernel_rfl
@[go_sem] theorem ty_u8406 : isU8s Try.prog 406 = false := by kernel_rfl
@[go_sem] theorem ty_u8426 : isU8s Try.prog 426 = false := by kernel_rfl
@[go_sem] theorem ty_u85 : isU8s Try.prog 5 = false := by kernel_rfl
@[go_sem] theorem ty_u888 : isU8s Try.prog 88 = false := by kernel_rfl
@[go_sem] theorem ty_u89 : isU8s Try.prog 9 = false := by kernel_rfl
@[go_sem] theorem ty_un3 : (Try.prog.underlying 3).isSome = true := by kernel_rfl
@[go_sem] theorem ty_un307 : (Try.prog.underlying 307).isSome = true := by kernel_rfl
@[go_sem] theorem ty_un32 : (Try.prog.underlying 32).isSome = true := by kernel_rfl
@[go_sem] theorem ty_un401 : (Try.prog.underlying 401).isSome = true := by kernel_rfl
@[go_sem] theorem ty_un403 : (Try.prog.underlying 403).isSome = true := by kernel_rfl
@[go_sem] theorem ty_un406 : (Try.prog.underlying 406).isSome = true := by kernel_rfl
@[go_sem] theorem ty_un426 : (Try.prog.underlying 426).isSome = true := by kernel_rfl
@[go_sem] theorem ty_un5 : (Try.prog.underlying 5).isSome = true := by kernel_rfl
@[go_sem] theorem ty_un88 : (Try.prog.underlying 88).isSome = true := by kernel_rfl
@[go_sem] theorem ty_un9 : (Try.prog.underlying 9).isSome = true := by kernel_rfl
@[go_sem] theorem ty_ze108 : tzero Try.prog 108 = some (.agg [(.int .i64 0), (.int .i64 0), (.str []), (.sl [] true .full)]) := by kernel_rfl
@[go_sem] theorem ty_ze112 : tzero Try.prog 112 = some (.agg [(.int .i64 0), (.int .i64 0), (.str []), (.sl [] true .full)]) := by kernel_rfl
@[go_sem] theorem ty_ze124 : tzero Try.prog 124 = some (.agg [(.sl [] true .full), (.int .i64 0), (.int .i64 0), (.str []), (.sl [] true .full)]) := by kernel_rfl
@[go_sem] theorem ty_ze127 : tzero Try.prog 127 = some (.agg [(.bool false), (.int .i64 0), (.sl [] true .full), (.int .i64 0), (.int .i64 0), (.str []), (.sl [] true .full), (.sl [] true .full), (.sl [] true .full)]) := by kernel_rfl
@[go_sem] theorem ty_ze131 : tzero Try.prog 131 = some (.sl [] true .full) := by kernel_rfl
@[go_sem] theorem ty_ze133 : tzero Try.prog 133 = some (.agg [(.sl [] true .full), (.sl [] true .full), (.int .i64 0), (.int .i64 0)]) := by kernel_rfl
@[go_sem] theorem ty_ze137 : tzero Try.prog 137 = some (.agg [(.int .i64 0), (.int .i64 0), (.int .i64 0), (.int .i64 0), (.int .i64 0)]) := by kernel_rfl
@[go_sem] theorem ty_ze138 : tzero Try.prog 138 = some (.sl [] true .full) := by kernel_rfl
@[go_sem] theorem ty_ze140 : tzero Try.prog 140 = some (.agg [(.int .i64 0), (.int .i64 0)]) := by kernel_rfl
@[go_sem] theorem ty_ze147 : tzero Try.prog 147 = some (.agg [(.bool false), (.sl [] true .full), (.sl [] true .full), (.sl [] true .full), (.int .i64 0)]) := by kernel_rfl
@[go_sem] theorem ty_ze151 : tzero Try.prog 151 = some (.agg [(.int .i64 0), (.int .i64 0), (.int .i64 0), (.int .i64 0)]) := by kernel_rfl
@[go_sem] theorem ty_ze158 : tzero Try.prog 158 = some (.agg [(.sl [] true .full)]) := by kernel_rfl
@[go_sem] theorem ty_ze167 : tzero Try.prog 167 = some (.agg [(.int .i64 0), (.int .i64 0), (.str [])]) := by kernel_rfl
@[go_sem] theorem ty_ze175 : tzero Try.prog 175 = some (.agg [(.str []), (.int .i64 0)]) := by kernel_rfl
@[go_sem] theorem ty_ze178 : tzero Try.prog 178 = some (.agg [(.str []), (.int .i64 0), (.int .i64 0)]) := by kernel_rfl
@[go_sem] theorem ty_ze180 : tzero Try.prog 180 = some (.sl [] true .full) := by kernel_rfl
@[go_sem] theorem ty_ze189 : tzero Try.prog 189 = some (.agg [(.int .i64 0), (.int .i64 0)]) := by kernel_rfl
@[go_sem] theorem ty_ze199 : tzero Try.prog 199 = some (.sl [] true .full) := by kernel_rfl
@[go_sem] theorem ty_ze201 : tzero Try.prog 201 = some (.agg [(.sl [] true .full), (.bool false), (.int .i64 0), (.sl [] true .full), (.sl [] true .full)]) := by kernel_rfl
@[go_sem] theorem ty_ze209 : tzero Try.prog 209 = some (.agg [(.str []), (.int .i64 0), (.sl [] true .full), (.sl [] true .full), (.sl [] true .full), (.sl [] true .full), (.sl [] true .full), (.sl [] true .full), (.str []), (.int .i64 0), (.sl [] true .full), (.sl [] true .full), (.sl [] true .full), (.sl [] true .full), (.sl [] true .full), (.sl [] true .full), .nilm]) := by kernel_rfl
@[go_sem] theorem ty_ze214 : tzero Try.prog 214 = some (.agg [(.str []), (.sl [] true .full), (.sl [] true .full)]) := by kernel_rfl
@[go_sem] theorem ty_ze216 : tzero Try.prog 216 = some (.agg [(.str []), (.sl [] true .full)]) := by kernel_rfl
@[go_sem] theorem ty_ze218 : tzero Try.prog 218 = some (.agg [(.str []), (.sl [] true .full)]) := by kernel_rfl
@[go_sem] theorem ty_ze22 : tzero Try.prog 22 = some (.sl [] true .full) := by kernel_rfl
@[go_sem] theorem ty_ze220 : tzero Try.prog 220 = some (.agg [(.str []), (.str []), (.sl [] true .full)]) := by kernel_rfl
@[go_sem] theorem ty_ze229 : tzero Try.prog 229 = some (.agg [(.str []), (.int .i64 0), (.int .i64 0), (.int .i64 0), (.sl [] true .full)]) := by kernel_rfl
@[go_sem] theorem ty_ze231 : tzero Try.prog 231 = some (.agg [(.int .i64 0), (.int .i64 0), (.int .i64 0), (.int .i64 0), (.sl [] true .full)]) := by kernel_rfl
@[go_sem] theorem ty_ze233 : tzero Try.prog 233 = some (.agg [(.sl [] true .full), (.sl [] true .full), (.sl [] true .full), (.sl [] true .full), (.sl [] true .full), (.sl [] true .full), (.sl [] true .full), .nilm, (.int .i64 0), (.int .i64 0)]) := by kernel_rfl
@[go_sem] theorem ty_ze24 : tzero Try.prog 24 = some .nilp := by kernel_rfl
@[go_sem] theorem ty_ze245 : tzero Try.prog 245 = some (.agg [(.int .i64 0), (.sl [] true .full)]) := by kernel_rfl
@[go_sem] theorem ty_ze251 : tzero Try.prog 251 = some (.agg [(.sl [] true .full), .nilm]) := by kernel_rfl
@[go_sem] theorem ty_ze256 : tzero Try.prog 256 = some (.agg [(.sl [] true .full), (.sl [] true .full), (.sl [] true .full), (.sl [] true .full)]) := by kernel_rfl
@[go_sem] theorem ty_ze258 : tzero Try.prog 258 = some (.agg [(.int .i64 0), (.int .i64 0)]) := by kernel_rfl
@[go_sem] theorem ty_ze259 : tzero Try.prog 259 = some .nilp := by kernel_rfl
@[go_sem] theorem ty_ze260 : tzero Try.prog 260 = some .nilm := by kernel_rfl
@[go_sem] theorem ty_ze262 : tzero Try.prog 262 = some (.agg [(.sl [] true .full), (.sl [] true .full), .nilm]) := by kernel_rfl
@[go_sem] theorem ty_ze265 : tzero Try.prog 265 = some (.sl [] true .full) := by kernel_rfl
@[go_sem] theorem ty_ze266 : tzero Try.prog 266 = some (.sl [] true .full) := by kernel_rfl
@[go_sem] theorem ty_ze267 : tzero Try.prog 267 = some (.sl [] true .full) := by kernel_rfl
@[go_sem] theorem ty_ze268 : tzero Try.prog 268 = some (.sl [] true .full) := by kernel_rfl
@[go_sem] theorem ty_ze269 : tzero Try.prog 269 = some .nilm := by kernel_rfl
@[go_sem] theorem ty_ze270 : tzero Try.prog 270 = some .nilm := by kernel_rfl
@[go_sem] theorem ty_ze271 : tzero Try.prog 271 = some (.sl [] true .full) := by kernel_rfl
@[go_sem] theorem ty_ze273 : tzero Try.prog 273 = some (.agg [(.int .i64 0), (.int .i64 0)]) := by kernel_rfl
@[go_sem] theorem ty_ze275 : tzero Try.prog 275 = some (.agg [(.int .i64 0), (.int .i64 0), (.int .i64 0), (.int .i64 0), (.int .i64 0), (.int .i64 0), (.int .i64 0)]) := by kernel_rfl
@[go_sem] theorem ty_ze276 : tzero Try.prog 276 = some (.sl [] true .full) := by kernel_rfl
@[go_sem] theorem ty_ze277 : tzero Try.prog 277 = some .nilf := by kernel_rfl
@[go_sem] theorem ty_ze279 : tzero Try.prog 279 = some .nilf := by kernel_rfl
@[go_sem] theorem ty_ze286 : tzero Try.prog 286 = some (.agg [(.sl [] true .full), .nilm, (.sl [] true .full)]) := by kernel_rfl
@[go_sem] theorem ty_ze289 : tzero Try.prog 289 = some .nilm := by kernel_rfl
@[go_sem] theorem ty_ze292 : tzero Try.prog 292 = some (.agg [(.sl [] true .full), (.int .i64 0), (.int .i64 0), (.bool false), (.int .i64 0)]) := by kernel_rfl
@[go_sem] theorem ty_ze295 : tzero Try.prog 295 = some (.agg [(.str []), (.int .i64 0), (.sl [] true .full), (.sl [] true .full)]) := by kernel_rfl
@[go_sem] theorem ty_ze3 : tzero Try.prog 3 = some (.int .i64 0) := by kernel_rfl
@[go_sem] theorem ty_ze300 : tzero Try.prog 300 = some (.agg [(.int .i64 0), (.int .i64 0), (.int .i64 0), (.str []), (.sl [] true .full)]) := by kernel_rfl
@[go_sem] theorem ty_ze309 : tzero Try.prog 309 = some (.agg [.nilp, (.sl [] true .full)]) := by kernel_rfl
@[go_sem] theorem ty_ze311 : tzero Try.prog 311 = some (.agg [(.int .i64 0), (.bool false)]) := by kernel_rfl
@[go_sem] theorem ty_ze327 : tzero Try.prog 327 = some (.agg [(.sl [] true .full), (.sl [] true .full)]) := by kernel_rfl
@[go_sem] theorem ty_ze34 : tzero Try.prog 34 = some (.agg [(.int .i64 0), (.int .i64 0), (.sl [] true .full), (.sl [] true .full)]) := by kernel_rfl
@[go_sem] theorem ty_ze340 : tzero Try.prog 340 = some (.agg [(.sl [] true .full), (.sl [] true .full)]) := by kernel_rfl
@[go_sem] theorem ty_ze347 : tzero Try.prog 347 = some (.agg [(.str []), (.sl [] true .full), (.sl [] true .full), (.sl [] true .full), (.int .i64 0), (.str []), (.sl [] true .full), (.int .i64 0), (.int .i64 0), (.str []), (.sl [] true .full), (.sl [] true .full), (.sl [] true .full), (.sl [] true .full), (.int .i64 0)]) := by kernel_rfl
@[go_sem] theorem ty_ze349 : tzero Try.prog 349 = some (.agg [(.int .i64 0), (.int .i64 0), (.str []), (.sl [] true .full), (.int .i64 0), (.int .i64 0), (.str []), (.sl [] true .full), (.sl [] true .full), (.sl [] true .full), (.sl [] true .full), (.int .i64 0)]) := by kernel_rfl
@[go_sem] theorem ty_ze361 : tzero Try.prog 361 = some (.agg [(.int .i64 0), (.int .i64 0), (.int .i64 0), (.int .i64 0), (.int .i64 0), (.int .i64 0), (.int .i64 0), .nilp]) := by kernel_rfl
@[go_sem] theorem ty_ze368 : tzero Try.prog 368 = some (.agg [(.int .i64 0), (.bool false)]) := by kernel_rfl
@[go_sem] theorem ty_ze379 : tzero Try.prog 379 = some .nilp := by kernel_rfl
@[go_sem] theorem ty_ze38 : tzero Try.prog 38 = some (.sl [] true .full) := by kernel_rfl
@[go_sem] theorem ty_ze381 : tzero Try.prog 381 = some (.agg [(.int .i64 0), (.int .i64 0), (.str []), (.sl [] true .full), (.int .i64 0)]) := by kernel_rfl
@[go_sem] theorem ty_ze4 : tzero Try.prog 4 = some (.bool false) := by kernel_rfl
@[go_sem] theorem ty_ze400 : tzero Try.prog 400 = some (.agg [(.sl [] true .full), (.sl [] true .full), .nilp]) := by kernel_rfl
@[go_sem] theorem ty_ze426 : tzero Try.prog 426 = some (.int .u64 0) := by kernel_rfl
@[go_sem] theorem ty_ze45 : tzero Try.prog 45 = some (.agg [(.int .i64 0), (.str []), (.sl [] true .full)]) := by kernel_rfl
@[go_sem] theorem ty_ze5 : tzero Try.prog 5 = some (.int .u8 0) := by kernel_rfl
@[go_sem] theorem ty_ze56 : tzero Try.prog 56 = some (.agg [(.str []), (.int .i64 0), (.sl [] true .full), (.sl [] true .full), (.sl [] true .full), (.sl [] true .full), (.sl [] true .full), (.sl [] true .full)]) := by kernel_rfl
@[go_sem] theorem ty_ze63 : tzero Try.prog 63 = some (.agg [(.int .i64 0), (.int .i64 0), (.str []), (.sl [] true .full), (.sl [] true .full), (.sl [] true .full), (.sl [] true .full), (.int .i64 0)]) := by kernel_rfl
@[go_sem] theorem ty_ze65 : tzero Try.prog 65 = some (.agg [(.str []), (.sl [] true .full), (.sl [] true .full), (.int .i64 0), (.str []), (.sl [] true .full), (.int .i64 0), (.int .i64 0), (.str []), (.sl [] true .full), (.sl [] true .full), (.sl [] true .full), (.sl [] true .full), (.int .i64 0)]) := by kernel_rfl
@[go_sem] theorem ty_ze86 : tzero Try.prog 86 = some (.agg [(.int .i64 0), (.int .i64 0), (.int .i64 0), (.int .i64 0), (.bool false)]) := by kernel_rfl
@[go_sem] theorem ty_ze87 : tzero Try.prog 87 = some (.agg [(.int .i64 0), (.int .i64 0)]) := by kernel_rfl
@[go_sem] theorem ty_ze9 : tzero Try.prog 9 = some (.str []) := by kernel_rfl
@[go_sem] theorem ty_ze94 : tzero Try.prog 94 = some (.agg [(.str []), (.int .i64 0)]) := by kernel_rfl
@[go_sem] theorem ty_ze98 : tzero Try.prog 98 = some (.agg [(.str []), (.str []), (.int .i64 0)]) := by kernel_rfl
end Go.Proofs.Ytacecjfpkdijpaa

/- The arguments of 'roadlaw5.VersionAlgebra' as data; no conditions. -/
set_option linter.unusedVariables false
set_option linter.unusedSimpArgs false
set_option maxRecDepth 100000
namespace Go.Proofs.Ytacecjfpkdijpaa.versionAlgebra
open Go.RowKit Go.Proofs.YtacecjfpkdijpaaV
def e3 (x : Int) : List V := [.int .i64 x]
def o3 (x : Int) : Prop := IntKind.i64.min ≤ x ∧ x ≤ IntKind.i64.max
theorem d3 (n : Nat) : Dec Try.prog 3 e3 o3 n := dec_int (by kernel_rfl)
theorem p3 (x : Int) : 1 ≤ vszL (e3 x) := by simp only [e3, vszL, vsz]; omega
abbrev D189 := Int × Int
def e189 (x : D189) : List V := [.int .i64 x.1, .int .i64 x.2]
def o189 (x : D189) : Prop := o3 x.1 ∧ o3 x.2
theorem d189 (n : Nat) : Dec Try.prog 189 e189 o189 n := by
  intro cs hv hb
  obtain ⟨m, rfl, h⟩ := dec_struct (ts := [3, 3]) (by kernel_rfl) hv
  obtain ⟨a0, r0, rfl, _, h0, a1, r1, rfl, _, h1, rfl⟩ := h
  simp only [vszL_append] at hb
  obtain ⟨x0, rfl, q0⟩ := d3 m _ h0 (by omega)
  obtain ⟨x1, rfl, q1⟩ := d3 m _ h1 (by omega)
  exact ⟨(x0, x1), rfl, q0, q1⟩
theorem p189 (x : D189) : 1 ≤ vszL (e189 x) := by simp only [e189, vszL, vsz]; omega
abbrev D180 := List D189 × Bool
def e180 (x : D180) : List V := [.sl (x.1.map e189) x.2 .no]
def o180 (x : D180) : Prop := OkS o189 x
theorem d180 (n : Nat) : Dec Try.prog 180 e180 o180 n := dec_slice (el := 189) (by kernel_rfl) p189 (fun m _ => d189 m)
theorem p180 (x : D180) : 1 ≤ vszL (e180 x) := by simp only [e180, vszL, vsz]; omega
theorem args {xs : List V} (h : TyAll Try.prog [180, 180] xs) (hs : vszL xs ≤ 1048576) : ∃ (x0 : D180) (x1 : D180), xs = [.sl (x0.1.map e189) x0.2 .no, .sl (x1.1.map e189) x1.2 .no] ∧ o180 x0 ∧ o180 x1 := by
  obtain ⟨y0, r0, rfl, h0, y1, r1, rfl, h1, rfl⟩ := h
  simp only [vszL] at hs
  obtain ⟨x0, g0, q0⟩ := dec_one (by kernel_rfl) d180 h0 (by show vsz _ ≤ 1048576; omega)
  obtain ⟨x1, g1, q1⟩ := dec_one (by kernel_rfl) d180 h1 (by show vsz _ ≤ 1048576; omega)
  cases g0
  cases g1
  exact ⟨x0, x1, rfl, q0, q1⟩
end Go.Proofs.Ytacecjfpkdijpaa.versionAlgebra

/- The kit's contracts of slices.SortFunc at ranges of versions and of cmp.Compare, laid at this program. -/
namespace Go.Proofs
open Go.Shelf
def Try.sortR_ren : Go.Shelf.Ren := ⟨fun | 6 => 145 | 15 => 199 | 14 => 198 | 28 => 228 | 29 => 229 | 20 => 220 | 21 => 221 | 22 => 222 | 23 => 223 | 24 => 224 | 25 => 225 | 26 => 226 | 27 => 227 | 46 => 240 | 47 => 241 | 48 => 242 | 49 => 243 | 50 => 244 | 57 => 257 | n => n, fun | 22 => 180 | 24 => 189 | 25 => 334 | 3 => 3 | 39 => 88 | 0 => 0 | 53 => 403 | 55 => 406 | 4 => 4 | 46 => 411 | 45 => 410 | 50 => 278 | 5 => 5 | 9 => 9 | 66 => 426 | 70 => 430 | 76 => 439 | 77 => 100 | n => n, fun | n => n⟩
theorem Try.sortR : Go.Proofs.SlLaysF0.n6 Try.prog Try.sortR_ren := {
  mixed := by kernel_rfl
  f6 := ⟨Try.f145.name, by decide, Try.func145.trans (congrArg some (by kernel_rfl))⟩
  f14 := ⟨Try.f198.name, by decide, Try.func198.trans (congrArg some (by kernel_rfl))⟩
  f15 := Try.func199.trans (congrArg some (by kernel_rfl))
  f20 := ⟨Try.f220.name, by decide, Try.func220.trans (congrArg some (by kernel_rfl))⟩
  f21 := ⟨Try.f221.name, by decide, Try.func221.trans (congrArg some (by kernel_rfl))⟩
  f22 := ⟨Try.f222.name, by decide, Try.func222.trans (congrArg some (by kernel_rfl))⟩
  f23 := ⟨Try.f223.name, by decide, Try.func223.trans (congrArg some (by kernel_rfl))⟩
  f24 := ⟨Try.f224.name, by decide, Try.func224.trans (congrArg some (by kernel_rfl))⟩
  f25 := ⟨Try.f225.name, by decide, Try.func225.trans (congrArg some (by kernel_rfl))⟩
  f26 := ⟨Try.f226.name, by decide, Try.func226.trans (congrArg some (by kernel_rfl))⟩
  f27 := ⟨Try.f227.name, by decide, Try.func227.trans (congrArg some (by kernel_rfl))⟩
  f28 := Try.func228.trans (congrArg some (by kernel_rfl))
  f29 := Try.func229.trans (congrArg some (by kernel_rfl))
  f46 := ⟨Try.f240.name, by decide, Try.func240.trans (congrArg some (by kernel_rfl))⟩
  f47 := Try.func241.trans (congrArg some (by kernel_rfl))
  f48 := Try.func242.trans (congrArg some (by kernel_rfl))
  f49 := ⟨Try.f243.name, by decide, Try.func243.trans (congrArg some (by kernel_rfl))⟩
  f50 := ⟨Try.f244.name, by decide, Try.func244.trans (congrArg some (by kernel_rfl))⟩
  f57 := ⟨Try.f257.name, by decide, Try.func257.trans (congrArg some (by kernel_rfl))⟩
  t0 := Try.underlying0
  a0 := Try.isAgg0
  z0 := Try.sizeOf0
  v0 := Try.zeroValue0
  t3 := Try.underlying3
  a3 := Try.isAgg3
  z3 := Try.sizeOf3
  v3 := Try.zeroValue3
  t4 := Try.underlying4
  a4 := Try.isAgg4
  z4 := Try.sizeOf4
  v4 := Try.zeroValue4
  t5 := Try.underlying5
  a5 := Try.isAgg5
  z5 := Try.sizeOf5
  v5 := Try.zeroValue5
  t9 := Try.underlying9
  a9 := Try.isAgg9
  z9 := Try.sizeOf9
  v9 := Try.zeroValue9
  t22 := Try.underlying180
  a22 := Try.isAgg180
  z22 := Try.sizeOf180
  v22 := Try.zeroValue180
  t25 := Try.underlying334
  a25 := Try.isAgg334
  z25 := Try.sizeOf334
  v25 := Try.zeroValue334
  t39 := Try.underlying88
  a39 := Try.isAgg88
  z39 := Try.sizeOf88
  v39 := Try.zeroValue88
  t45 := Try.underlying410
  a45 := Try.isAgg410
  z45 := Try.sizeOf410
  v45 := Try.zeroValue410
  t46 := Try.underlying411
  a46 := Try.isAgg411
  z46 := Try.sizeOf411
  v46 := Try.zeroValue411
  t50 := Try.underlying278
  a50 := Try.isAgg278
  z50 := Try.sizeOf278
  v50 := Try.zeroValue278
  t53 := Try.underlying403
  a53 := Try.isAgg403
  z53 := Try.sizeOf403
  v53 := Try.zeroValue403
  t55 := Try.underlying406
  a55 := Try.isAgg406
  z55 := Try.sizeOf406
  v55 := Try.zeroValue406
  t66 := Try.underlying426
  a66 := Try.isAgg426
  z66 := Try.sizeOf426
  v66 := Try.zeroValue426
  t70 := Try.underlying430
  a70 := Try.isAgg430
  z70 := Try.sizeOf430
  v70 := Try.zeroValue430
  t76 := Try.underlying439
  a76 := Try.isAgg439
  z76 := Try.sizeOf439
  v76 := Try.zeroValue439
  t77 := Try.underlying100
  a77 := Try.isAgg100
  z77 := Try.sizeOf100
  v77 := Try.zeroValue100 }
def Try.cmpInt_ren : Go.Shelf.Ren := ⟨fun | 5 => 148 | 7 => 200 | n => n, fun | 22 => 3 | 3 => 3 | 4 => 4 | n => n, fun | n => n⟩
theorem Try.cmpInt : Go.Proofs.SlLaysC2.n5 Try.prog Try.cmpInt_ren := {
  mixed := by kernel_rfl
  f5 := ⟨Try.f148.name, by decide, Try.func148.trans (congrArg some (by kernel_rfl))⟩
  f7 := ⟨Try.f200.name, by decide, Try.func200.trans (congrArg some (by kernel_rfl))⟩
  t3 := Try.underlying3
  a3 := Try.isAgg3
  z3 := Try.sizeOf3
  v3 := Try.zeroValue3
  t4 := Try.underlying4
  a4 := Try.isAgg4
  z4 := Try.sizeOf4
  v4 := Try.zeroValue4
  t22 := Try.underlying3
  a22 := Try.isAgg3
  z22 := Try.sizeOf3
  v22 := Try.zeroValue3 }
end Go.Proofs

/- The order of ranges, as the sort asks it. UNDER WAY. -/
namespace Go.Proofs
open Go.Shelf Go.RowKit Go.Lib Go.Sort
set_option maxHeartbeats 1000000
theorem Try.orR (a b : Int) (blk : Nat) (W : World) (h0 : W.cell? ⟨blk, 0, none⟩ = some (.int .i64 a)) (h1 : W.cell? ⟨blk, 1, none⟩ = some (.int .i64 b)) :
    Calls Try.prog 147 #[.slice (some ⟨blk, 0, none⟩) 2 2] W fun e w' => e = .returned (.int .i64 (if a = 0 then b else a)) ∧ w' = W := by
  obtain ⟨r, hr⟩ : ∃ r, r = (if a = 0 then b else a) := ⟨_, rfl⟩
  rw [← hr]
  go_enter Try.func147, Try.ntmps147
  go_wp2
  refine wp_loop_rounds 3 ?_
  rw [rounds_succ]
  go_wp2
  · go_ret
    rename_i h
    have h : ¬ a = 0 := by simpa using h
    exact ⟨by rw [hr, if_neg h]; rfl, rfl⟩
  rename_i h
  have h : a = 0 := by simpa using h
  rw [if_pos h] at hr
  rw [rounds_succ]
  go_wp2
  · go_ret
    exact ⟨by rw [hr]; rfl, rfl⟩
  rename_i h
  have h : b = 0 := by simpa using h
  rw [rounds_succ]
  go_wp2
  go_ret
  exact ⟨by rw [hr, h]; rfl, rfl⟩
end Go.Proofs

/- The order of ranges, as the sort asks it. -/
namespace Go.Proofs
open Go.Shelf Go.RowKit Go.Lib Go.Sort
def Try.orI (a b : Int) : Int := if a = 0 then b else a
theorem Try.orA (a b : Int) (W : World) (A B : Obj) (T : TypeId) : Calls Try.prog 147 #[.slice (some ⟨W.heap.size + 1 + 1, 0, none⟩) 2 2] (((W.alloc A).alloc B).alloc (.cells #[.int .i64 a, .int .i64 b] T)).drew fun e w' => e = .returned (.int .i64 (Try.orI a b)) ∧ w' = (((W.alloc A).alloc B).alloc (.cells #[.int .i64 a, .int .i64 b] T)).drew :=
  Try.orR a b (W.heap.size + 1 + 1) _ (by unfold World.cell? World.drew World.alloc; simp [Array.getElem_push]) (by unfold World.cell? World.drew World.alloc; simp [Array.getElem_push])
def Try.encR (x : Int × Int) : List Value := [.int .i64 x.1, .int .i64 x.2]
def Try.cmpR (x y : Int × Int) : Int := Try.orI (Lib.compareInt x.1 y.1) (Lib.compareInt x.2 y.2)
set_option maxRecDepth 100000 in
set_option maxHeartbeats 1000000 in
theorem Try.closureR (x y : Int × Int) (W : World) : Calls Try.prog 146 #[.agg #[.int .i64 x.1, .int .i64 x.2], .agg #[.int .i64 y.1, .int .i64 y.2]] W fun e w' => e = .returned (.int .i64 (Try.cmpR x y)) ∧ ∃ q os', w' = grow (W.drewN q) os' := by
  have hcon := fun a b W' => AnyG.cmp_Compare_int Try.cmpInt a b W'
  change ∀ a b W', Calls Try.prog 148 _ _ _ at hcon
  go_enter Try.func146, Try.ntmps146
  go_wp2_with (first | (go_at_call 148; refine (hcon _ _ _).mono ?_; rintro e w' ⟨rfl, rfl⟩))
  go_region_held3 (fun w' => w'.cell? ⟨W.heap.size, 0, none⟩ = some (.int .i64 x.1) ∧ w'.cell? ⟨W.heap.size, 1, none⟩ = some (.int .i64 x.2) ∧ w'.cell? ⟨W.heap.size + 1, 0, none⟩ = some (.int .i64 y.1) ∧ w'.cell? ⟨W.heap.size + 1, 1, none⟩ = some (.int .i64 y.2)) (go_keep) (first | (go_at_call 148; refine (hcon _ _ _).mono ?_; rintro e w' ⟨rfl, rfl⟩) | (go_at_call 147; refine (Try.orA _ _ _ _ _ _).mono ?_; rintro e w' ⟨rfl, rfl⟩))
  go_wp2
  go_ret
  exact ⟨rfl, 1, _, by rw [alloc_eq_grow, alloc_eq_grow, alloc_eq_grow, grow_grow, grow_grow]; rfl⟩
end Go.Proofs

/- The order of ranges is one. -/
namespace Go.Proofs
open Go.Shelf Go.RowKit Go.Lib Go.Sort
theorem Try.lt_iff (x y : Int × Int) : ltOf Try.cmpR x y = true ↔ x.1 < y.1 ∨ (x.1 = y.1 ∧ x.2 < y.2) := by
  unfold ltOf Try.cmpR Try.orI Lib.compareInt
  rw [decide_eq_true_eq]
  repeat' split
  all_goals omega
theorem Try.swoR : SWO (ltOf Try.cmpR) where
  irrefl x := by
    rw [← Bool.not_eq_true, Try.lt_iff]; omega
  trans x y z h1 h2 := by
    rw [Try.lt_iff] at *; omega
  ntrans x y z h1 h2 := by
    rw [← Bool.not_eq_true, Try.lt_iff] at *; omega
theorem Try.cmpLays (blk off size : Nat) (w : World) : CmpLays Try.prog 146 #[] Try.encR 2 Try.cmpR blk off size w :=
  fun _ _ _ _ x y => Try.closureR x y _
end Go.Proofs

/- Sets of versions as lists of ranges: one list a set. No conditions. -/
set_option linter.unusedSimpArgs false
set_option linter.unusedVariables false
namespace Go.Proofs.Ytacecjfpkdijpaa
open Go.Proofs.YtacecjfpkdijpaaV
abbrev Rg := Int × Int
def inR (v : Int) (l : List Rg) : Bool := l.any fun r => decide (r.1 ≤ v) && decide (v ≤ r.2)
/-- Ranges, rising, with a version between each two that is in none. -/
def Canon : Int → List Rg → Prop
  | _, [] => True
  | lo, r :: l => lo ≤ r.1 ∧ r.1 ≤ r.2 ∧ Canon (r.2 + 2) l
theorem inR_nil (v : Int) : inR v [] = false := rfl
theorem inR_cons (v : Int) (r : Rg) (l : List Rg) : inR v (r :: l) = (decide (r.1 ≤ v) && decide (v ≤ r.2) || inR v l) := rfl
theorem inR_append (v : Int) (l m : List Rg) : inR v (l ++ m) = (inR v l || inR v m) := by simp [inR]
theorem inR_iff {v : Int} {l : List Rg} : inR v l = true ↔ ∃ r ∈ l, r.1 ≤ v ∧ v ≤ r.2 := by simp [inR]
theorem Canon.low : ∀ {lo : Int} {l : List Rg}, Canon lo l → ∀ {v : Int}, v < lo → inR v l = false
  | _, [], _, _, _ => rfl
  | lo, r :: l, ⟨h1, h2, h3⟩, v, hv => by
    rw [inR_cons, h3.low (by omega), Bool.or_false, decide_eq_false (by omega), Bool.false_and]
theorem canon_unique : ∀ {lo : Int} {l m : List Rg}, Canon lo l → Canon lo m → (∀ v, inR v l = inR v m) → l = m
  | _, [], [], _, _, _ => rfl
  | _, [], s :: m, _, ⟨_, h2, _⟩, h => by
    have := h s.1
    rw [inR_nil, inR_cons, decide_eq_true (Int.le_refl _), decide_eq_true h2] at this
    cases this
  | _, r :: l, [], ⟨_, h2, _⟩, _, h => by
    have := h r.1
    rw [inR_nil, inR_cons, decide_eq_true (Int.le_refl _), decide_eq_true h2] at this
    cases this
  | lo, r :: l, s :: m, ⟨a1, a2, a3⟩, ⟨b1, b2, b3⟩, h => by
    have hr : inR r.1 (s :: m) = true := by rw [← h, inR_cons, decide_eq_true (Int.le_refl _), decide_eq_true a2]; rfl
    have hs : inR s.1 (r :: l) = true := by rw [h, inR_cons, decide_eq_true (Int.le_refl _), decide_eq_true b2]; rfl
    have e1 : r.1 = s.1 := by
      have p1 : s.1 ≤ r.1 := by
        rcases Int.lt_or_le r.1 s.1 with q | q
        · rw [inR_cons, decide_eq_false (by omega), b3.low (by omega)] at hr; cases hr
        · exact q
      have p2 : r.1 ≤ s.1 := by
        rcases Int.lt_or_le s.1 r.1 with q | q
        · rw [inR_cons, decide_eq_false (by omega), a3.low (by omega)] at hs; cases hs
        · exact q
      omega
    have e2 : r.2 = s.2 := by
      have p1 : ¬ r.2 < s.2 := fun q => by
        have := h (r.2 + 1)
        rw [inR_cons, inR_cons, a3.low (by omega), decide_eq_false (show ¬ r.2 + 1 ≤ r.2 by omega), decide_eq_true (show s.1 ≤ r.2 + 1 by omega), decide_eq_true (show r.2 + 1 ≤ s.2 by omega)] at this
        simp at this
      have p2 : ¬ s.2 < r.2 := fun q => by
        have := h (s.2 + 1)
        rw [inR_cons, inR_cons, b3.low (by omega), decide_eq_false (show ¬ s.2 + 1 ≤ s.2 by omega), decide_eq_true (show r.1 ≤ s.2 + 1 by omega), decide_eq_true (show s.2 + 1 ≤ r.2 by omega)] at this
        simp at this
      omega
    have e : r = s := Prod.ext e1 e2
    subst e
    rw [canon_unique a3 b3 fun v => ?_]
    rcases Int.lt_or_le v (r.2 + 2) with q | q
    · rw [a3.low q, b3.low q]
    · have := h v
      rw [inR_cons, inR_cons, decide_eq_false (show ¬ v ≤ r.2 by omega), Bool.and_false, Bool.false_or, Bool.false_or] at this
      exact this
/-- Where the next range may begin. -/
def nextLo (lo : Int) (l : List Rg) : Int := match l.getLast? with | none => lo | some p => p.2 + 2
theorem nextLo_cons (lo : Int) (r : Rg) (l : List Rg) : nextLo lo (r :: l) = nextLo (r.2 + 2) l := by
  unfold nextLo
  cases l with
  | nil => rfl
  | cons s l => rw [List.getLast?_cons_cons]; cases h : (s :: l).getLast? with
    | none => simp at h
    | some p => rfl
theorem canon_snoc : ∀ {lo : Int} {l : List Rg} {q : Rg}, Canon lo (l ++ [q]) ↔ Canon lo l ∧ nextLo lo l ≤ q.1 ∧ q.1 ≤ q.2
  | lo, [], q => by simp [Canon, nextLo]
  | lo, r :: l, q => by
    rw [List.cons_append, Canon, Canon, canon_snoc, nextLo_cons]
    constructor
    · rintro ⟨h1, h2, h3, h4, h5⟩; exact ⟨⟨h1, h2, h3⟩, h4, h5⟩
    · rintro ⟨⟨h1, h2, h3⟩, h4, h5⟩; exact ⟨h1, h2, h3, h4, h5⟩
/-- One range more, behind ranges that begin no later. -/
def mstep (out : List Rg) (r : Rg) : List Rg := match out.getLast? with
  | none => out ++ [r]
  | some q => if r.1 ≤ q.2 + 1 then out.dropLast ++ [(q.1, max q.2 r.2)] else out ++ [r]
theorem mstep_ok {lo : Int} {out : List Rg} {r : Rg} (hc : Canon lo out) (hl : lo ≤ r.1) (hr : r.1 ≤ r.2) (hq : ∀ q ∈ out.getLast?, q.1 ≤ r.1) :
    Canon lo (mstep out r) ∧ (∀ v, inR v (mstep out r) = (inR v out || (decide (r.1 ≤ v) && decide (v ≤ r.2)))) ∧ ∀ q ∈ (mstep out r).getLast?, q.1 ≤ r.1 := by
  unfold mstep
  cases h : out.getLast? with
  | none =>
    have : out = [] := List.getLast?_eq_none_iff.1 h
    subst this
    refine ⟨⟨hl, hr, trivial⟩, fun v => by simp [inR], fun q hq => ?_⟩
    simp at hq; subst hq; exact Int.le_refl _
  | some q =>
    have hqr := hq q h
    obtain ⟨o, rfl⟩ : ∃ o, out = o ++ [q] := List.getLast?_eq_some_iff.1 h
    obtain ⟨c1, c2, c3⟩ := canon_snoc.1 hc
    simp only
    split
    · rename_i hle
      rw [List.dropLast_concat]
      refine ⟨canon_snoc.2 ⟨c1, c2, by simp only; omega⟩, fun v => ?_, fun p hp => ?_⟩
      · rw [inR_append, inR_append, Bool.or_assoc]
        congr 1
        simp only [inR, List.any_cons, List.any_nil, Bool.or_false]
        rw [Bool.eq_iff_iff]
        simp only [Bool.or_eq_true, Bool.and_eq_true, decide_eq_true_eq]
        omega
      · simp at hp; subst hp; exact hqr
    · rename_i hle
      refine ⟨canon_snoc.2 ⟨hc, ?_, hr⟩, fun v => ?_, fun p hp => ?_⟩
      · unfold nextLo; rw [List.getLast?_concat]; simp only; omega
      · rw [inR_append v (o ++ [q])]; simp [inR]
      · rw [List.getLast?_concat] at hp; simp at hp; subst hp; exact Int.le_refl _
theorem merge_ok : ∀ {l : List Rg} {lo : Int} {out : List Rg}, Canon lo out → (∀ r ∈ l, lo ≤ r.1 ∧ r.1 ≤ r.2) → l.Pairwise (fun a b => a.1 ≤ b.1) → (∀ q ∈ out.getLast?, ∀ r ∈ l, q.1 ≤ r.1) →
    Canon lo (l.foldl mstep out) ∧ ∀ v, inR v (l.foldl mstep out) = (inR v out || inR v l)
  | [], lo, out, hc, _, _, _ => ⟨hc, fun v => by rw [inR_nil, Bool.or_false]; rfl⟩
  | r :: l, lo, out, hc, hl, hp, hq => by
    obtain ⟨m1, m2, m3⟩ := mstep_ok hc (hl r (by simp)).1 (hl r (by simp)).2 (fun q h => hq q h r (by simp))
    obtain ⟨p1, p2⟩ := List.pairwise_cons.1 hp
    obtain ⟨i1, i2⟩ := merge_ok m1 (fun s hs => hl s (by simp [hs])) p2 (fun q h s hs => Int.le_trans (m3 q h) (p1 s hs))
    refine ⟨i1, fun v => ?_⟩
    rw [List.foldl_cons, i2, m2, inR_cons, Bool.or_assoc]
end Go.Proofs.Ytacecjfpkdijpaa

/- Sets of versions: the reference's spans are the merged list. No conditions. -/
set_option linter.unusedSimpArgs false
set_option linter.unusedVariables false
namespace Go.Proofs.Ytacecjfpkdijpaa
open Go.Proofs.YtacecjfpkdijpaaV
/-- What the reference makes of the numbers from 1 to n that are in. -/
def spans (p : Int → Bool) (n : Nat) : List Rg := (List.range n).foldl (fun (out : List Rg) (k : Nat) => if p ((k : Int) + 1) = true then mstep out ((k : Int) + 1, (k : Int) + 1) else out) []
theorem spans_succ (p : Int → Bool) (n : Nat) : spans p (n + 1) = if p ((n : Int) + 1) = true then mstep (spans p n) ((n : Int) + 1, (n : Int) + 1) else spans p n := by
  rw [spans, List.range_succ, List.foldl_append]; rfl
theorem spans_ok (p : Int → Bool) : ∀ n : Nat, Canon 1 (spans p n) ∧ (∀ v, inR v (spans p n) = (decide (1 ≤ v) && decide (v ≤ (n : Int)) && p v)) ∧ ∀ q ∈ (spans p n).getLast?, q.1 ≤ q.2 ∧ q.2 ≤ (n : Int)
  | 0 => ⟨trivial, fun v => by
      show false = _
      by_cases h : 1 ≤ v
      · rw [decide_eq_false (show ¬ v ≤ ((0 : Nat) : Int) by omega), Bool.and_false, Bool.false_and]
      · rw [decide_eq_false h, Bool.false_and, Bool.false_and], fun q h => by cases h⟩
  | n + 1 => by
    obtain ⟨i1, i2, i3⟩ := spans_ok p n
    rw [spans_succ]
    by_cases hp : p ((n : Int) + 1) = true
    · rw [if_pos hp]
      obtain ⟨m1, m2, m3⟩ := mstep_ok (r := ((n : Int) + 1, (n : Int) + 1)) i1 (by simp only; omega) (Int.le_refl _) (fun q h => by have := i3 q h; simp only; omega)
      refine ⟨m1, fun v => ?_, fun q h => ?_⟩
      · rw [m2, i2]
        by_cases e : v = (n : Int) + 1
        · subst e
          rw [hp, Bool.and_true, Bool.and_true, decide_eq_true (Int.le_refl _), decide_eq_true (show (1 : Int) ≤ (n : Int) + 1 by omega), decide_eq_true (show (n : Int) + 1 ≤ ((n + 1 : Nat) : Int) by omega)]; simp
        · rw [Bool.eq_iff_iff]
          simp only [Bool.or_eq_true, Bool.and_eq_true, decide_eq_true_eq]
          constructor
          · rintro (⟨⟨a, b⟩, c⟩ | ⟨a, b⟩)
            · exact ⟨⟨a, by omega⟩, c⟩
            · exact absurd (by omega) e
          · rintro ⟨⟨a, b⟩, c⟩
            exact .inl ⟨⟨a, by omega⟩, c⟩
      · have hc := m1
        obtain ⟨o, ho⟩ : ∃ o, mstep (spans p n) ((n : Int) + 1, (n : Int) + 1) = o ++ [q] := List.getLast?_eq_some_iff.1 h
        rw [ho] at hc
        have h12 := (canon_snoc.1 hc).2.2
        refine ⟨h12, ?_⟩
        have hin : inR q.2 (mstep (spans p n) ((n : Int) + 1, (n : Int) + 1)) = true := by
          rw [ho, inR_append, inR_cons, decide_eq_true h12, decide_eq_true (Int.le_refl _)]; simp
        rw [m2, i2] at hin
        simp only [Bool.or_eq_true, Bool.and_eq_true, decide_eq_true_eq] at hin
        omega
    · rw [if_neg hp]
      refine ⟨i1, fun v => ?_, fun q h => by have := i3 q h; omega⟩
      rw [i2]
      by_cases e : v = (n : Int) + 1
      · subst e
        rw [show p ((n : Int) + 1) = false by simpa using hp, Bool.and_false, Bool.and_false]
      · congr 2
        rw [Bool.eq_iff_iff, decide_eq_true_eq, decide_eq_true_eq]; omega
/-- Ranges in order, merged: the spans of what is in them. -/
theorem merge_spans {n : Nat} (hn : n = 9999) {l : List Rg} (hl : ∀ r ∈ l, 1 ≤ r.1 ∧ r.1 ≤ r.2 ∧ r.2 ≤ 9999) (hp : l.Pairwise (fun a b => a.1 ≤ b.1)) {p : Int → Bool} (hpv : ∀ v, 1 ≤ v → v ≤ 9999 → p v = inR v l) : l.foldl mstep [] = spans p n := by
  obtain ⟨m1, m2⟩ := merge_ok (lo := 1) (out := []) trivial (fun r hr => ⟨(hl r hr).1, (hl r hr).2.1⟩) hp (fun q h => by cases h)
  obtain ⟨s1, s2, _⟩ := spans_ok p n
  refine canon_unique m1 s1 fun v => ?_
  rw [m2, s2, inR_nil, Bool.false_or]
  by_cases h : 1 ≤ v ∧ v ≤ 9999
  · rw [decide_eq_true h.1, decide_eq_true (show v ≤ (n : Int) by omega), hpv v h.1 h.2]; rfl
  · have h0 : inR v l = false := by
      rw [← Bool.not_eq_true]
      intro q
      obtain ⟨r, hr, h1, h2⟩ := inR_iff.1 q
      have := hl r hr
      omega
    rw [h0]
    by_cases h1 : 1 ≤ v
    · rw [decide_eq_false (show ¬ v ≤ (n : Int) by omega), Bool.and_false, Bool.false_and]
    · rw [decide_eq_false h1, Bool.false_and, Bool.false_and]
end Go.Proofs.Ytacecjfpkdijpaa

/- What is wrong with a set of versions: the program's word and the reference's. No conditions but sizes. -/
set_option linter.unusedSimpArgs false
set_option linter.unusedVariables false
namespace Go.Proofs.Ytacecjfpkdijpaa
open Go.Proofs.YtacecjfpkdijpaaV
set_option maxHeartbeats 1000000
set_option maxRecDepth 100000
theorem goG_off {P : Go.Program} {ops : List Oper} {x : R} {q : Bool} {d : Option Tmp} {op : Op} {r : Go.Proofs.YtacecjfpkdijpaaV.Rest} {f : Go.Proofs.YtacecjfpkdijpaaV.Frame} {G : Heap} {K : Kf} (h : ∀ v, go P ops r (fput f d (.opt false v)) G K) : goG P ops x false q d op r f G K := by
  unfold goG
  split
  · exact ⟨fun e => (by cases e), h _⟩
  · split
    · exact ⟨fun e => (by cases e), fun _ => ⟨.any, h _⟩⟩
    · split
      · split
        · exact ⟨.any, fun e => (by cases e), h _⟩
        · exact ⟨rfl, h _⟩
      · exact ⟨rfl, h _⟩
def cRg (r : Rg) : List V := [.int .i64 r.1, .int .i64 r.2]
def eRg (r : Rg) : List V := cRg r
theorem wid_eRg (xs : List Rg) : wid 2 (xs.map eRg) := wid_map (g := eRg) (fun _ => rfl) _
def badR (r : Rg) : Bool := decide (r.1 < 1) || decide (9999 < r.2) || decide (r.2 < r.1)
def nearR : Option Rg → Rg → Bool | none, _ => false | some q, r => decide (r.1 ≤ q.2 + 1)
def faultL : Option Rg → List Rg → Int
  | _, [] => 0
  | p, r :: l => if badR r = true then 1 else if nearR p r = true then 21 else faultL (some r) l
theorem faultL_cons (p : Option Rg) (r : Rg) (l : List Rg) : faultL p (r :: l) = if badR r = true then 1 else if nearR p r = true then 21 else faultL (some r) l := rfl
def faultV (l : List Rg) : Int := if 50 < l.length then 2 else faultL none l
def prevR (l : List Rg) (i : Nat) : Option Rg := if i = 0 then none else l[i - 1]?
theorem prevR_succ {l : List Rg} {i : Nat} (h : i < l.length) : prevR l (i + 1) = some l[i] := by
  rw [prevR, if_neg (by omega), Nat.add_sub_cancel, List.getElem?_eq_getElem h]
theorem badR_not {r : Rg} (h : badR r = false) : 1 ≤ r.1 ∧ r.1 ≤ r.2 ∧ r.2 ≤ 9999 := by
  simp only [badR, Bool.or_eq_false_iff, decide_eq_false_iff_not] at h; omega
theorem q_VCheck (l : List Rg) (nl : Bool) (t : Tag) (hl : l.length ≤ 1048576) : Quiet Try.prog 83 [.sl (l.map eRg) nl t] (.int .i64 (faultV l)) := by
  refine Quiet.weak fun G => ?_
  refine acall_body (rs := [.tmp 2]) Try.func83 rfl rfl Try.ntmps83 (by kernel_rfl) (Nat.le_of_ble_eq_true rfl) ?_
  refine aw_sr rfl ?_  -- r0 @version.go:23
  simp only [go_sem, reduceIte, Nat.reduceEqDiff, Nat.reduceAdd, Nat.reduceMul, Nat.reduceSub, Nat.reduceLeDiff, Nat.reduceLT, reduceCtorEq]
  refine aw_seq fun K1 hK1 => ?_
  refine aw_sr rfl ?_  -- r1 @version.go:24
  simp only [go_sem, reduceIte, Nat.reduceEqDiff, Nat.reduceAdd, Nat.reduceMul, Nat.reduceSub, Nat.reduceLeDiff, Nat.reduceLT, reduceCtorEq]
  refine aw_if rfl (fun h => ?_) (fun h => ?_)
  · refine aw_sr rfl ?_  -- r2 @version.go:25
    simp only [go_sem, reduceIte, Nat.reduceEqDiff, Nat.reduceAdd, Nat.reduceMul, Nat.reduceSub, Nat.reduceLeDiff, Nat.reduceLT, reduceCtorEq]
    refine aw_ret ⟨trivial, _, rfl, ?_, sub_rfl⟩
    rw [faultV, if_pos (by rw [decide_eq_true_eq] at h; omega)]
    exact Vle.refl _
  have h50 : ¬ 50 < l.length := by rw [decide_eq_false_iff_not] at h; omega
  have hV : faultV l = faultL none l := by rw [faultV, if_neg h50]
  refine aw_skip (hK1 _ _ ?_)
  refine aw_seq fun K2 hK2 => ?_
  refine aw_sr rfl ?_  -- r3 @version.go:27
  simp only [go_sem, reduceIte, Nat.reduceEqDiff, Nat.reduceAdd, Nat.reduceMul, Nat.reduceSub, Nat.reduceLeDiff, Nat.reduceLT, reduceCtorEq]
  refine aw_range l.length (S := Unit) (fun i _ => [(0, .sl (l.map eRg) nl t), (8, .sl (l.map eRg) nl t)]) (fun _ _ => G) (fun i _ => faultL none l = faultL (prevR l i) (l.drop i) ∧ ∀ q ∈ prevR l i, badR q = false) () (by omega) ?_ (fun _ _ h => h) ⟨by simp [prevR], fun q hq => by simp [prevR] at hq⟩ rfl (fun _ _ => rfl) ?_ ?_ (by decide)
  · simp only [go_sem, reduceIte, Nat.reduceEqDiff, Nat.reduceAdd, Nat.reduceMul, Nat.reduceSub, Nat.reduceLeDiff, Nat.reduceLT, reduceCtorEq, Int.natCast_zero]
  · intro i _ hi ⟨he, hq⟩
    rw [List.drop_eq_getElem_cons hi, faultL_cons] at he
    refine aw_sr rfl ?_  -- r5 @version.go:27
    simp only [go_sem, reduceIte, Nat.reduceEqDiff, Nat.reduceAdd, Nat.reduceMul, Nat.reduceSub, Nat.reduceLeDiff, Nat.reduceLT, reduceCtorEq, getD_map hi, eRg, cRg]
    refine ⟨⟨by omega, by omega, wid_eRg _⟩, ?_⟩
    generalize hr : l[i] = r at he
    intro b4 hb4
    refine aw_box1 hb4 fun B1 hs1 h4 => ?_
    have hsB := hs1
    refine aw_seq fun K3 hK3 => ?_
    refine aw_sr rfl ?_  -- r6 @version.go:28
    simp only [go_sem, reduceIte, Nat.reduceEqDiff, Nat.reduceAdd, Nat.reduceMul, Nat.reduceSub, Nat.reduceLeDiff, Nat.reduceLT, reduceCtorEq, h4]
    refine aw_if rfl (fun h => ?_) (fun h => ?_)
    · have hb : badR r = true := h
      rw [if_pos hb] at he
      refine aw_sr rfl ?_  -- r7 @version.go:29
      simp only [go_sem, reduceIte, Nat.reduceEqDiff, Nat.reduceAdd, Nat.reduceMul, Nat.reduceSub, Nat.reduceLeDiff, Nat.reduceLT, reduceCtorEq]
      refine aw_ret ⟨trivial, _, rfl, ?_, hsB⟩
      rw [hV, he]; exact Vle.refl _
    have hb : badR r = false := h
    rw [if_neg (by rw [hb]; simp)] at he
    refine aw_skip (hK3 _ _ ?_)
    by_cases i0 : i = 0
    · have d0 : decide ((0 : Int) < ((i : Nat) : Int)) = false := decide_eq_false (by omega)
      have hn : prevR l i = none := by rw [prevR, if_pos i0]
      rw [hn, if_neg (by simp [nearR])] at he
      refine aw_srd [(0,true),(1,true),(2,true),(3,true),(4,true),(5,true),(6,true),(7,true),(8,true),(9,true),(10,true),(11,true),(12,true),(13,true)] mixed rfl (by kernel_rfl) ?_  -- r8 @version.go:31
      simp only [go_sem, reduceIte, Nat.reduceEqDiff, Nat.reduceAdd, Nat.reduceMul, Nat.reduceSub, Nat.reduceLeDiff, Nat.reduceLT, reduceCtorEq, h4, d0, true_imp_iff, false_imp_iff]
      repeat' first
        | (refine goG_off fun v => ?_
           simp only [go_sem, reduceIte, Nat.reduceEqDiff, Nat.reduceAdd, Nat.reduceMul, Nat.reduceSub, Nat.reduceLeDiff, Nat.reduceLT, reduceCtorEq, h4, d0, true_imp_iff, false_imp_iff])
      refine aw_if rfl (fun h => by simp at h) (fun h => ?_)
      refine aw_skip ⟨(), ⟨?_, ?_⟩, ?_, hsB⟩
      · rw [prevR_succ hi, hr]; exact he
      · intro q hq2; rw [prevR_succ hi, hr] at hq2; cases hq2; exact hb
      · simp only [go_sem, reduceIte, Nat.reduceEqDiff, Nat.reduceAdd, Nat.reduceMul, Nat.reduceSub, Nat.reduceLeDiff, Nat.reduceLT, reduceCtorEq]
    · have d0 : decide ((0 : Int) < ((i : Nat) : Int)) = true := decide_eq_true (by omega)
      have hi1 : i - 1 < l.length := by omega
      have hn : prevR l i = some l[i - 1] := by rw [prevR, if_neg i0, List.getElem?_eq_getElem hi1]
      rw [hn] at he hq
      have hqb := badR_not (hq _ rfl)
      generalize hp : l[i - 1] = q at he hqb
      have w1 : IntKind.i64.wrap (((i : Nat) : Int) - 1) = ((i - 1 : Nat) : Int) := by rw [wrap64 (by omega) (by omega)]; omega
      have w2 : IntKind.i64.wrap (q.2 + 1) = q.2 + 1 := wrap64 (by omega) (by omega)
      refine aw_srd [(0,true),(1,true),(2,true),(3,true),(4,true),(5,true),(6,true),(7,true),(8,true),(9,true),(10,true),(11,true),(12,true),(13,true)] mixed rfl (by kernel_rfl) ?_  -- r8 @version.go:31
      simp only [go_sem, reduceIte, Nat.reduceEqDiff, Nat.reduceAdd, Nat.reduceMul, Nat.reduceSub, Nat.reduceLeDiff, Nat.reduceLT, reduceCtorEq, h4, d0, w1, Int.toNat_natCast, getD_map hi1, eRg, cRg, hp, w2, true_imp_iff, false_imp_iff]
      refine ⟨⟨by omega, by omega, wid_eRg _⟩, ?_⟩
      refine aw_if rfl (fun h => ?_) (fun h => ?_)
      · rw [if_pos (show nearR (some q) r = true from h)] at he
        refine aw_sr rfl ?_  -- r9
        simp only [go_sem, reduceIte, Nat.reduceEqDiff, Nat.reduceAdd, Nat.reduceMul, Nat.reduceSub, Nat.reduceLeDiff, Nat.reduceLT, reduceCtorEq]
        refine aw_ret ⟨trivial, _, rfl, ?_, hsB⟩
        rw [hV, he]; exact Vle.refl _
      have hnr : nearR (some q) r = false := h
      rw [if_neg (by rw [hnr]; simp)] at he
      refine aw_skip ⟨(), ⟨?_, ?_⟩, ?_, hsB⟩
      · rw [prevR_succ hi, hr]; exact he
      · intro q' hq2; rw [prevR_succ hi, hr] at hq2; cases hq2; exact hb
      · simp only [go_sem, reduceIte, Nat.reduceEqDiff, Nat.reduceAdd, Nat.reduceMul, Nat.reduceSub, Nat.reduceLeDiff, Nat.reduceLT, reduceCtorEq]
  intro _ he
  refine hK2 _ _ ?_
  refine aw_sr rfl ?_  -- r11 @version.go:35
  simp only [go_sem, reduceIte, Nat.reduceEqDiff, Nat.reduceAdd, Nat.reduceMul, Nat.reduceSub, Nat.reduceLeDiff, Nat.reduceLT, reduceCtorEq]
  refine aw_ret ⟨trivial, _, rfl, ?_, sub_rfl⟩
  rw [hV, he.1, List.drop_length]; exact Vle.refl _
end Go.Proofs.Ytacecjfpkdijpaa

/- What is wrong with a set of versions, by the reference; pairs; ends. No conditions but sizes. -/
set_option linter.unusedSimpArgs false
set_option linter.unusedVariables false
namespace Go.Proofs.Ytacecjfpkdijpaa
open Go.Proofs.YtacecjfpkdijpaaV
set_option maxHeartbeats 1000000
set_option maxRecDepth 100000
theorem tn0 : Int.toNat 0 * 1 = 0 := rfl
theorem tn1 : Int.toNat 1 * 1 = 1 := rfl
theorem bd0 : ((0 : Int) ≤ 0 ∧ (0 : Int) < ((2 : Nat) : Int)) = True := eq_true (by decide)
theorem bd1 : ((0 : Int) ≤ 1 ∧ (1 : Int) < ((2 : Nat) : Int)) = True := eq_true (by decide)
def lastV : Option Rg → Int | none => -1 | some q => q.2
theorem q_VersionFault (l : List Rg) (nl : Bool) (t : Tag) (hl : l.length ≤ 1048576) : Quiet Try.prog 81 [.sl (l.map eRg) nl t] (.int .i64 (faultV l)) := by
  refine Quiet.weak fun G => ?_
  refine acall_body (rs := [.tmp 2]) Try.func81 rfl rfl Try.ntmps81 (by kernel_rfl) (Nat.le_of_ble_eq_true rfl) ?_
  refine aw_sr rfl ?_  -- r0 @keep.go:407
  simp only [go_sem, reduceIte, Nat.reduceEqDiff, Nat.reduceAdd, Nat.reduceMul, Nat.reduceSub, Nat.reduceLeDiff, Nat.reduceLT, reduceCtorEq]
  refine aw_seq fun K1 hK1 => ?_
  refine aw_sr rfl ?_  -- r1 @keep.go:408
  simp only [go_sem, reduceIte, Nat.reduceEqDiff, Nat.reduceAdd, Nat.reduceMul, Nat.reduceSub, Nat.reduceLeDiff, Nat.reduceLT, reduceCtorEq]
  refine aw_if rfl (fun h => ?_) (fun h => ?_)
  · refine aw_sr rfl ?_  -- r2 @keep.go:409
    simp only [go_sem, reduceIte, Nat.reduceEqDiff, Nat.reduceAdd, Nat.reduceMul, Nat.reduceSub, Nat.reduceLeDiff, Nat.reduceLT, reduceCtorEq]
    refine aw_ret ⟨trivial, _, rfl, ?_, sub_rfl⟩
    rw [faultV, if_pos (by rw [decide_eq_true_eq] at h; omega)]
    exact Vle.refl _
  have h50 : ¬ 50 < l.length := by rw [decide_eq_false_iff_not] at h; omega
  have hV : faultV l = faultL none l := by rw [faultV, if_neg h50]
  refine aw_skip (hK1 _ _ ?_)
  refine aw_sr rfl ?_  -- r3 @keep.go:411
  simp only [go_sem, reduceIte, Nat.reduceEqDiff, Nat.reduceAdd, Nat.reduceMul, Nat.reduceSub, Nat.reduceLeDiff, Nat.reduceLT, reduceCtorEq]
  refine aw_seq fun K2 hK2 => ?_
  refine aw_sr rfl ?_  -- r4 @keep.go:412
  simp only [go_sem, reduceIte, Nat.reduceEqDiff, Nat.reduceAdd, Nat.reduceMul, Nat.reduceSub, Nat.reduceLeDiff, Nat.reduceLT, reduceCtorEq]
  refine aw_range l.length (S := Unit) (fun i _ => [(3, .int .i64 (lastV (prevR l i))), (9, .sl (l.map eRg) nl t)]) (fun _ _ => G) (fun i _ => faultL none l = faultL (prevR l i) (l.drop i) ∧ ∀ q ∈ prevR l i, badR q = false) () (by omega) ?_ (fun _ _ h => h) ⟨by simp [prevR], fun q hq => by simp [prevR] at hq⟩ rfl (fun _ _ => rfl) ?_ ?_ (by decide)
  · simp only [go_sem, reduceIte, Nat.reduceEqDiff, Nat.reduceAdd, Nat.reduceMul, Nat.reduceSub, Nat.reduceLeDiff, Nat.reduceLT, reduceCtorEq, Int.natCast_zero, show lastV (prevR l 0) = -1 from rfl]
  · intro i _ hi ⟨he, hq⟩
    rw [List.drop_eq_getElem_cons hi, faultL_cons] at he
    refine aw_sr rfl ?_  -- r6 @keep.go:412
    simp only [go_sem, reduceIte, Nat.reduceEqDiff, Nat.reduceAdd, Nat.reduceMul, Nat.reduceSub, Nat.reduceLeDiff, Nat.reduceLT, reduceCtorEq, getD_map hi, eRg, cRg]
    refine ⟨⟨by omega, by omega, wid_eRg _⟩, ?_⟩
    have hs := prevR_succ hi
    generalize l[i] = r at he hs
    intro b5 hb5
    refine aw_box1 hb5 fun B1 hs1 h5 => ?_
    have hsB := hs1
    refine aw_seq fun K3 hK3 => ?_
    refine aw_sr rfl ?_  -- r7 @keep.go:413
    simp only [go_sem, reduceIte, Nat.reduceEqDiff, Nat.reduceAdd, Nat.reduceMul, Nat.reduceSub, Nat.reduceLeDiff, Nat.reduceLT, reduceCtorEq, h5, tn0, tn1, bd0, bd1, true_and, implies_true]
    refine aw_if rfl (fun h => ?_) (fun h => ?_)
    · have hb : badR r = true := h
      rw [if_pos hb] at he
      refine aw_sr rfl ?_  -- r8 @keep.go:414
      simp only [go_sem, reduceIte, Nat.reduceEqDiff, Nat.reduceAdd, Nat.reduceMul, Nat.reduceSub, Nat.reduceLeDiff, Nat.reduceLT, reduceCtorEq]
      refine aw_ret ⟨trivial, _, rfl, ?_, hsB⟩
      rw [hV, he]; exact Vle.refl _
    have hb : badR r = false := h
    rw [if_neg (by rw [hb]; simp)] at he
    refine aw_skip (hK3 _ _ ?_)
    refine aw_seq fun K4 hK4 => ?_
    have hw : IntKind.i64.wrap (lastV (prevR l i) + 1) = lastV (prevR l i) + 1 := by
      cases hp : prevR l i with
      | none => decide
      | some q => have := badR_not (hq q hp); exact wrap64 (by simp only [lastV]; omega) (by simp only [lastV]; omega)
    have hnr : nearR (prevR l i) r = (decide (r.1 ≤ lastV (prevR l i) + 1) && decide (0 < lastV (prevR l i))) := by
      cases hp : prevR l i with
      | none => simp [nearR, lastV]
      | some q => have := badR_not (hq q hp); show decide (r.1 ≤ q.2 + 1) = (decide (r.1 ≤ q.2 + 1) && decide (0 < q.2)); rw [decide_eq_true (show 0 < q.2 by omega), Bool.and_true]
    refine aw_sr rfl ?_  -- r9 @keep.go:416
    simp only [go_sem, reduceIte, Nat.reduceEqDiff, Nat.reduceAdd, Nat.reduceMul, Nat.reduceSub, Nat.reduceLeDiff, Nat.reduceLT, reduceCtorEq, h5, tn0, tn1, bd0, bd1, hw, true_and, implies_true]
    refine aw_if rfl (fun h => ?_) (fun h => ?_)
    · rw [if_pos (hnr.trans h)] at he
      refine aw_sr rfl ?_  -- r10 @keep.go:417
      simp only [go_sem, reduceIte, Nat.reduceEqDiff, Nat.reduceAdd, Nat.reduceMul, Nat.reduceSub, Nat.reduceLeDiff, Nat.reduceLT, reduceCtorEq]
      refine aw_ret ⟨trivial, _, rfl, ?_, hsB⟩
      rw [hV, he]; exact Vle.refl _
    rw [if_neg (by rw [hnr, h]; simp)] at he
    refine aw_skip (hK4 _ _ ?_)
    refine aw_rg rfl ?_  -- r11 @keep.go:419
    simp only [go_sem, reduceIte, Nat.reduceEqDiff, Nat.reduceAdd, Nat.reduceMul, Nat.reduceSub, Nat.reduceLeDiff, Nat.reduceLT, reduceCtorEq, h5, tn0, tn1, bd0, bd1, true_and, implies_true]
    refine ⟨(), ⟨?_, ?_⟩, ?_, hsB⟩
    · rw [hs]; exact he
    · intro q' hq2; rw [hs] at hq2; cases hq2; exact hb
    · simp only [go_sem, reduceIte, Nat.reduceEqDiff, Nat.reduceAdd, Nat.reduceMul, Nat.reduceSub, Nat.reduceLeDiff, Nat.reduceLT, reduceCtorEq]
      rw [hs]; rfl
  intro _ he
  refine hK2 _ _ ?_
  refine aw_sr rfl ?_  -- r13 @keep.go:421
  simp only [go_sem, reduceIte, Nat.reduceEqDiff, Nat.reduceAdd, Nat.reduceMul, Nat.reduceSub, Nat.reduceLeDiff, Nat.reduceLT, reduceCtorEq]
  refine aw_ret ⟨trivial, _, rfl, ?_, sub_rfl⟩
  rw [hV, he.1, List.drop_length]; exact Vle.refl _
end Go.Proofs.Ytacecjfpkdijpaa

/- Ends of a set of versions; ranges as pairs. No conditions but sizes. -/
set_option linter.unusedSimpArgs false
set_option linter.unusedVariables false
namespace Go.Proofs.Ytacecjfpkdijpaa
open Go.Proofs.YtacecjfpkdijpaaV
set_option maxHeartbeats 1000000
set_option maxRecDepth 100000
def endsV (l : List Rg) : Int × Int × Int := if faultV l ≠ 0 then (0, 0, faultV l) else if h : l.length = 0 then (0, 0, 4) else ((l[0]'(by omega)).1, (l[l.length - 1]'(by omega)).2, 0)
theorem q_Ends (l : List Rg) (nl : Bool) (t : Tag) (hl : l.length ≤ 1048576) : Quiet Try.prog 82 [.sl (l.map eRg) nl t] (.tup [.int .i64 (endsV l).1, .int .i64 (endsV l).2.1, .int .i64 (endsV l).2.2]) := by
  refine Quiet.weak fun G => ?_
  refine acall_body (rs := [.tmp 2, .tmp 3, .tmp 4]) Try.func82 rfl rfl Try.ntmps82 (by kernel_rfl) (Nat.le_of_ble_eq_true rfl) ?_
  refine aw_sr rfl ?_  -- r0 @version.go:127
  simp only [go_sem, reduceIte, Nat.reduceEqDiff, Nat.reduceAdd, Nat.reduceMul, Nat.reduceSub, Nat.reduceLeDiff, Nat.reduceLT, reduceCtorEq]
  refine aw_seq fun K1 hK1 => ?_
  refine aw_sr rfl ?_  -- r1 @version.go:128
  simp only [go_sem, reduceIte, Nat.reduceEqDiff, Nat.reduceAdd, Nat.reduceMul, Nat.reduceSub, Nat.reduceLeDiff, Nat.reduceLT, reduceCtorEq]
  refine goA_q (q_VCheck l nl t hl) ?_
  simp only [go_sem, reduceIte, Nat.reduceEqDiff, Nat.reduceAdd, Nat.reduceMul, Nat.reduceSub, Nat.reduceLeDiff, Nat.reduceLT, reduceCtorEq]
  refine aw_sr rfl ?_  -- r2 @version.go:128
  simp only [go_sem, reduceIte, Nat.reduceEqDiff, Nat.reduceAdd, Nat.reduceMul, Nat.reduceSub, Nat.reduceLeDiff, Nat.reduceLT, reduceCtorEq]
  refine aw_if rfl (fun h => ?_) (fun h => ?_)
  · have hf : faultV l ≠ 0 := by simpa using h
    refine aw_sr rfl ?_  -- r3 @version.go:129
    simp only [go_sem, reduceIte, Nat.reduceEqDiff, Nat.reduceAdd, Nat.reduceMul, Nat.reduceSub, Nat.reduceLeDiff, Nat.reduceLT, reduceCtorEq]
    refine aw_ret ⟨trivial, _, rfl, ?_, sub_rfl⟩
    rw [endsV, if_pos hf]; exact Vle.refl _
  have hf : ¬ faultV l ≠ 0 := by simpa using h
  refine aw_skip (hK1 _ _ ?_)
  refine aw_seq fun K2 hK2 => ?_
  refine aw_sr rfl ?_  -- r4 @version.go:131
  simp only [go_sem, reduceIte, Nat.reduceEqDiff, Nat.reduceAdd, Nat.reduceMul, Nat.reduceSub, Nat.reduceLeDiff, Nat.reduceLT, reduceCtorEq]
  refine aw_if rfl (fun h => ?_) (fun h => ?_)
  · have h0 : l.length = 0 := by rw [decide_eq_true_eq] at h; omega
    refine aw_sr rfl ?_  -- r5 @version.go:132
    simp only [go_sem, reduceIte, Nat.reduceEqDiff, Nat.reduceAdd, Nat.reduceMul, Nat.reduceSub, Nat.reduceLeDiff, Nat.reduceLT, reduceCtorEq]
    refine aw_ret ⟨trivial, _, rfl, ?_, sub_rfl⟩
    rw [endsV, if_neg hf, dif_pos h0]; exact Vle.refl _
  have h0 : ¬ l.length = 0 := by rw [decide_eq_false_iff_not] at h; omega
  have w1 : IntKind.i64.wrap (((l.length : Nat) : Int) - 1) = ((l.length - 1 : Nat) : Int) := by rw [wrap64 (by omega) (by omega)]; omega
  refine aw_skip (hK2 _ _ ?_)
  refine aw_srd [(0,true),(1,true),(2,true),(3,true),(4,true),(5,true),(6,true),(7,true),(8,true),(9,true),(10,true),(11,true),(12,true),(13,true)] mixed rfl (by kernel_rfl) ?_  -- r6 @version.go:134
  simp only [go_sem, reduceIte, Nat.reduceEqDiff, Nat.reduceAdd, Nat.reduceMul, Nat.reduceSub, Nat.reduceLeDiff, Nat.reduceLT, reduceCtorEq, w1, Int.toNat_zero, Int.toNat_natCast, getD_map (show 0 < l.length by omega), getD_map (show l.length - 1 < l.length by omega), eRg, cRg]
  refine ⟨⟨by omega, by omega, wid_eRg _⟩, ⟨by omega, by omega, wid_eRg _⟩, ?_⟩
  refine aw_ret ⟨trivial, _, rfl, ?_, sub_rfl⟩
  rw [endsV, if_neg hf, dif_neg h0]; exact Vle.refl _
theorem isE_snoc {A : Type} (l : List A) (a : A) : (l ++ [a]).isEmpty = false := by cases l <;> rfl
theorem q_pairs (l : List Rg) (nl : Bool) (t : Tag) (hl : l.length ≤ 1048576) : Quiet Try.prog 78 [.sl (l.map eRg) nl t] (.sl (l.map eRg) l.isEmpty .no) := by
  refine Quiet.weak fun G => ?_
  refine acall_body (rs := [.tmp 2]) Try.func78 rfl rfl Try.ntmps78 (by kernel_rfl) (Nat.le_of_ble_eq_true rfl) ?_
  refine aw_sr rfl ?_  -- r0 @high.go:20
  simp only [go_sem, reduceIte, Nat.reduceEqDiff, Nat.reduceAdd, Nat.reduceMul, Nat.reduceSub, Nat.reduceLeDiff, Nat.reduceLT, reduceCtorEq]
  refine aw_sr rfl ?_  -- r1 @high.go:21
  simp only [go_sem, reduceIte, Nat.reduceEqDiff, Nat.reduceAdd, Nat.reduceMul, Nat.reduceSub, Nat.reduceLeDiff, Nat.reduceLT, reduceCtorEq]
  refine aw_seq fun K1 hK1 => ?_
  refine aw_sr rfl ?_  -- r2 @high.go:22
  simp only [go_sem, reduceIte, Nat.reduceEqDiff, Nat.reduceAdd, Nat.reduceMul, Nat.reduceSub, Nat.reduceLeDiff, Nat.reduceLT, reduceCtorEq]
  refine aw_range l.length (S := Tag × Heap) (fun i s => [(3, .sl ((l.take i).map eRg) (l.take i).isEmpty s.1), (6, .sl (l.map eRg) nl t)]) (fun _ s => s.2) (fun i s => Rm G s.2 2 s.1 ∧ Sub G s.2) (.full, G) (by omega) ?_ (fun _ _ h => h) ⟨Rm.start _ _ _, sub_rfl⟩ rfl (fun _ _ => rfl) ?_ ?_ (by decide)
  · simp only [go_sem, reduceIte, Nat.reduceEqDiff, Nat.reduceAdd, Nat.reduceMul, Nat.reduceSub, Nat.reduceLeDiff, Nat.reduceLT, reduceCtorEq, Int.natCast_zero, List.take_zero, List.map_nil]
  · intro i ⟨t4, H⟩ hi ⟨hr, hs⟩
    simp only at hr hs ⊢
    have htk : l.take (i + 1) = l.take i ++ [l[i]] := List.take_succ_eq_append_getElem hi
    refine aw_sr rfl ?_  -- r4 @high.go:22
    simp only [go_sem, reduceIte, Nat.reduceEqDiff, Nat.reduceAdd, Nat.reduceMul, Nat.reduceSub, Nat.reduceLeDiff, Nat.reduceLT, reduceCtorEq, getD_map hi, eRg, cRg]
    refine ⟨⟨by omega, by omega, wid_eRg _⟩, ?_⟩
    generalize l[i] = r at htk
    intro b5 hb5
    refine aw_box1 hb5 fun B1 hs1 h5 => ?_
    refine aw_rg rfl ?_  -- r5 @high.go:23
    simp only [go_sem, reduceIte, Nat.reduceEqDiff, Nat.reduceAdd, Nat.reduceMul, Nat.reduceSub, Nat.reduceLeDiff, Nat.reduceLT, reduceCtorEq, h5]
    refine goP_rm (hr.sub hs1) (sub_trans hs hs1) ?_ fun t5 H5 hr5 hs5 hg5 => ?_
    · exact ⟨rfl, rfl, by decide, wid_eRg _, wid_one rfl, by simp [sca, scalarV], by simp; omega, by simp; omega⟩
    simp only [go_sem, reduceIte, Nat.reduceEqDiff, Nat.reduceAdd, Nat.reduceMul, Nat.reduceSub, Nat.reduceLeDiff, Nat.reduceLT, reduceCtorEq]
    refine ⟨(t5, H5), ⟨hr5, hs5⟩, ?_, sub_rfl⟩
    simp only [go_sem, reduceIte, Nat.reduceEqDiff, Nat.reduceAdd, Nat.reduceMul, Nat.reduceSub, Nat.reduceLeDiff, Nat.reduceLT, reduceCtorEq]
    rw [htk, isE_snoc, List.map_append, List.map_cons, List.map_nil, eRg, cRg]
    try simp
  intro ⟨t4, H⟩ ⟨hr, hs⟩
  simp only at hr hs ⊢
  refine hK1 _ _ ?_
  rw [List.take_length]
  refine aw_sr rfl ?_  -- r7 @high.go:25
  simp only [go_sem, reduceIte, Nat.reduceEqDiff, Nat.reduceAdd, Nat.reduceMul, Nat.reduceSub, Nat.reduceLeDiff, Nat.reduceLT, reduceCtorEq]
  exact aw_ret ⟨trivial, _, rfl, Vle.untag, hs⟩
end Go.Proofs.Ytacecjfpkdijpaa

/- The reference's truths of versions: in which ones a version is. No conditions but sizes. -/
set_option linter.unusedSimpArgs false
set_option linter.unusedVariables false
namespace Go.Proofs.Ytacecjfpkdijpaa
open Go.Proofs.YtacecjfpkdijpaaV
set_option maxHeartbeats 1000000
set_option maxRecDepth 100000
theorem setH {H1 H2 : Heap} {b : Nat} {x y : AObj} (h : hset H1 b x = H2) (hb : hget H1 b = some y) : hget H2 b = some x ∧ (∀ b' o, hget H1 b' = some o → ¬ b' = b → hget H2 b' = some o) ∧ (∀ G, hget G b = none → Sub G H1 → Sub G H2) := by
  subst h
  exact ⟨hget_hset_self hb, fun b' o h hn => hset_keep h hn, fun G h hs => sub_hset_fresh h hs⟩
theorem ne_of {H : Heap} {b c : Nat} {o : AObj} (h : hget H b = some o) (hc : hget H c = none) : ¬ b = c := fun e => by subst e; rw [h] at hc; cases hc
def arrB (g : Nat → Bool) : List (List V) := (List.range 10001).map fun j => [.bool (g j)]
theorem arrB_len (g : Nat → Bool) : (arrB g).length = 10001 := by rw [arrB, List.length_map, List.length_range]
theorem wid_arrB (g : Nat → Bool) : wid 1 (arrB g) := wid_map (g := fun j => [V.bool (g j)]) (fun _ => rfl) _
theorem arrB_flat (g : Nat → Bool) : (arrB g).flatten.length = 10001 := by rw [flatten_length (n := 1) (wid_arrB g), arrB_len]
theorem arrB_zero : (List.replicate 10001 [V.bool false]).flatten = (arrB fun _ => false).flatten := by rw [arrB, List.map_const', List.length_range]
theorem arrB_store {g : Nat → Bool} {k : Nat} (hk : k < 10001) : (arrB g).flatten.set k (.bool true) = (arrB fun i => decide (i = k) || g i).flatten := by
  have h := setMany_flatten (n := k) (c := [V.bool true]) (wid_arrB g) rfl (by rw [arrB_len]; exact hk)
  rw [Nat.mul_one] at h
  refine Eq.trans (h : (arrB g).flatten.set k (.bool true) = _) ?_
  rw [arrB, map_range_set]
  congr 1
  refine List.map_congr_left fun j _ => ?_
  by_cases e : j = k <;> simp [e]
theorem arrB_get {g : Nat → Bool} {k : Nat} (hk : k < 10001) : (arrB g).getD k [] = [.bool (g k)] := by
  rw [List.getD_eq_getElem?_getD, arrB, List.getElem?_map, List.getElem?_range hk]; rfl
theorem q_bits (l : List Rg) (nl : Bool) (t : Tag) (hl : l.length ≤ 1048576) (hb : ∀ r ∈ l, 1 ≤ r.1 ∧ r.2 ≤ 9999) : Quiet Try.prog 149 [.sl (l.map eRg) nl t] (.sl (arrB fun j => inR j l) false .no) := by
  refine Quiet.turn fun G => ?_
  refine acall_body (rs := [.tmp 2]) Try.func149 rfl rfl Try.ntmps149 (by kernel_rfl) (Nat.le_of_ble_eq_true rfl) ?_
  refine aw_sr rfl ?_  -- r0 @keep.go:425
  simp only [go_sem, reduceIte, Nat.reduceEqDiff, Nat.reduceAdd, Nat.reduceMul, Nat.reduceSub, Nat.reduceLeDiff, Nat.reduceLT, reduceCtorEq]
  refine aw_sr rfl ?_  -- r1 @keep.go:426
  simp only [go_sem, reduceIte, Nat.reduceEqDiff, Nat.reduceAdd, Nat.reduceMul, Nat.reduceSub, Nat.reduceLeDiff, Nat.reduceLT, reduceCtorEq]
  refine ⟨⟨by decide, by decide, by decide⟩, ?_⟩
  intro b7 hb7
  rw [show (10001 : Int).toNat = 10001 from rfl, arrB_zero]
  refine aw_box1 hb7 fun B1 hs1 h7 => ?_
  refine aw_seq fun K1 hK1 => ?_
  refine aw_sr rfl ?_  -- r2 @keep.go:427
  simp only [go_sem, reduceIte, Nat.reduceEqDiff, Nat.reduceAdd, Nat.reduceMul, Nat.reduceSub, Nat.reduceLeDiff, Nat.reduceLT, reduceCtorEq]
  refine aw_range l.length (S := Heap) (fun i _ => [(3, .ms b7 0 10001 10001), (8, .sl (l.map eRg) nl t)]) (fun _ H => H) (fun i H => Sub G H ∧ hget H b7 = some (.vars (arrB fun j => inR j (l.take i)).flatten)) B1 (by omega) ?_ (fun _ _ h => h) ⟨hs1, h7⟩ rfl (fun _ _ => rfl) ?_ ?_ (by decide)
  · simp only [go_sem, reduceIte, Nat.reduceEqDiff, Nat.reduceAdd, Nat.reduceMul, Nat.reduceSub, Nat.reduceLeDiff, Nat.reduceLT, reduceCtorEq, Int.natCast_zero]
  · intro i H hi ⟨hsH, h7⟩
    have htk : l.take (i + 1) = l.take i ++ [l[i]] := List.take_succ_eq_append_getElem hi
    have hbr := hb l[i] (List.getElem_mem hi)
    refine aw_sr rfl ?_  -- r4 @keep.go:427
    simp only [go_sem, reduceIte, Nat.reduceEqDiff, Nat.reduceAdd, Nat.reduceMul, Nat.reduceSub, Nat.reduceLeDiff, Nat.reduceLT, reduceCtorEq, getD_map hi, eRg, cRg]
    refine ⟨⟨by omega, by omega, wid_eRg _⟩, ?_⟩
    generalize l[i] = r at htk hbr
    intro b5 hb5
    have hne := ne_of h7 hb5
    refine aw_box1 hb5 fun B2 hs2 h5 => ?_
    replace h7 := hs2 _ _ h7
    replace hsH := sub_trans hsH hs2
    refine aw_sr rfl ?_  -- r5 @keep.go:428
    simp only [go_sem, reduceIte, Nat.reduceEqDiff, Nat.reduceAdd, Nat.reduceMul, Nat.reduceSub, Nat.reduceLeDiff, Nat.reduceLT, reduceCtorEq, h5, tn0, tn1]
    refine ⟨by decide, ?_⟩
    refine aw_block ?_  -- 2
    refine aw_lph (S := {s : Int × Heap // r.1 ≤ s.1 ∧ (s.1 ≤ r.2 + 1 ∨ s.1 = r.1) ∧ Sub G s.2 ∧ hget s.2 b5 = some (.vars [.int .i64 r.1, .int .i64 r.2]) ∧ hget s.2 b7 = some (.vars (arrB fun j => inR j (l.take i) || (decide (r.1 ≤ (j : Int)) && decide ((j : Int) < s.1))).flatten)})
      (fun s => [(3, .ms b7 0 10001 10001), (5, .ptr b5 0), (6, .int .i64 s.1.1), (8, .sl (l.map eRg) nl t), (9, .int .i64 ((l.length : Nat) : Int)), (10, .int .i64 ((i : Nat) : Int))]) (fun s => s.1.2) (fun s => (r.2 + 1 - s.1.1).toNat) ⟨(r.1, B2), Int.le_refl _, .inr rfl, hsH, h5, ?_⟩ ?_ (fun _ _ h => h) ?_
    · rw [h7]; congr 4; funext j
      by_cases q : r.1 ≤ (j : Int)
      · rw [decide_eq_true q, decide_eq_false (show ¬ (j : Int) < r.1 by omega)]; simp
      · rw [decide_eq_false q]; simp
    · simp only [go_sem, reduceIte, Nat.reduceEqDiff, Nat.reduceAdd, Nat.reduceMul, Nat.reduceSub, Nat.reduceLeDiff, Nat.reduceLT, reduceCtorEq]
    intro ⟨⟨v, H⟩, k1, k2, k3, k4, k5⟩
    simp only at k1 k2 k3 k4 k5 ⊢
    refine aw_seq fun K3 hK3 => ?_
    refine aw_sr rfl ?_  -- r6 @keep.go:428
    simp only [go_sem, reduceIte, Nat.reduceEqDiff, Nat.reduceAdd, Nat.reduceMul, Nat.reduceSub, Nat.reduceLeDiff, Nat.reduceLT, reduceCtorEq, k4, tn0, tn1]
    refine ⟨by decide, ?_⟩
    refine aw_if rfl (fun h => ?_) (fun h => ?_)
    · have hv : v ≤ r.2 := by simpa using h
      refine aw_skip (hK3 _ _ ?_)
      refine aw_seq fun K4 hK4 => ?_
      refine aw_block ?_  -- 3
      refine aw_rg rfl ?_  -- r8 @keep.go:429
      simp only [go_sem, reduceIte, Nat.reduceEqDiff, Nat.reduceAdd, Nat.reduceMul, Nat.reduceSub, Nat.reduceLeDiff, Nat.reduceLT, reduceCtorEq, k5, Nat.mul_one, Nat.zero_add]
      refine ⟨⟨by omega, by omega⟩, ?_⟩
      refine ⟨by rw [arrB_flat]; omega, ?_⟩
      rw [arrB_store (show v.toNat < 10001 by omega)]
      generalize hH2 : hset H b7 _ = H2
      obtain ⟨g7, gk, gs⟩ := setH hH2 k5
      refine hK4 _ _ ?_
      refine aw_rg rfl ?_  -- r7 @keep.go:428
      have hw : IntKind.i64.wrap (v + 1) = v + 1 := wrap64 (by omega) (by omega)
      simp only [go_sem, reduceIte, Nat.reduceEqDiff, Nat.reduceAdd, Nat.reduceMul, Nat.reduceSub, Nat.reduceLeDiff, Nat.reduceLT, reduceCtorEq, hw]
      refine ⟨⟨(v + 1, H2), by simp only; omega, by simp only; omega, gs _ hb7 k3, gk _ _ k4 (fun e => hne e.symm), ?_⟩, by simp only; omega, by trivial, sub_rfl⟩
      rw [g7]; congr 4; funext j
      rw [Bool.eq_iff_iff]
      simp only [Bool.or_eq_true, Bool.and_eq_true, decide_eq_true_eq]
      constructor
      · rintro (q | q | ⟨q1, q2⟩)
        · exact .inr ⟨by omega, by omega⟩
        · exact .inl q
        · exact .inr ⟨q1, by omega⟩
      · rintro (q | ⟨q1, q2⟩)
        · exact .inr (.inl q)
        · by_cases e : j = v.toNat
          · exact .inl e
          · exact .inr (.inr ⟨q1, by omega⟩)
    · have hv : ¬ v ≤ r.2 := by simpa using h
      refine aw_exit ?_  -- 2
      refine ⟨H, ⟨k3, ?_⟩, ⟨rfl, rfl, rfl, rfl⟩, sub_rfl⟩
      rw [k5, htk]; congr 4; funext j
      rw [inR_append, inR_cons, inR_nil, Bool.or_false]
      congr 1
      rw [Bool.eq_iff_iff]
      simp only [Bool.and_eq_true, decide_eq_true_eq]
      omega
  intro H ⟨hsH, h7⟩
  rw [List.take_length] at h7
  refine hK1 _ _ ?_
  refine aw_sr rfl ?_  -- r10 @keep.go:432
  simp only [go_sem, reduceIte, Nat.reduceEqDiff, Nat.reduceAdd, Nat.reduceMul, Nat.reduceSub, Nat.reduceLeDiff, Nat.reduceLT, reduceCtorEq]
  exact aw_ret ⟨trivial, _, rfl, _, _, turn_buf (sz := 1) (c := 10001) (rest := []) (by rw [List.append_nil]; exact h7) (arrB_len _) (wid_arrB _) (.ms _ rfl), Vle.refl _, fun k o hk => by rw [hget_hdel_ne (fun e => by subst e; rw [hb7] at hk; cases hk)]; exact hsH _ _ hk⟩
end Go.Proofs.Ytacecjfpkdijpaa

/- The reference's ranges of what is in. No conditions but sizes. -/
set_option linter.unusedSimpArgs false
set_option linter.unusedVariables false
namespace Go.Proofs.Ytacecjfpkdijpaa
open Go.Proofs.YtacecjfpkdijpaaV
set_option maxHeartbeats 1000000
set_option maxRecDepth 100000
def toldF (l : List Rg) : List Rg × Int := if 50 < l.length then ([], 2) else (l, 0)
theorem toldF_nil {l : List Rg} (h : 50 < l.length) : toldF l = ([], 2) := if_pos h
theorem toldF_ok {l : List Rg} (h : ¬ 50 < l.length) : toldF l = (l, 0) := if_neg h
abbrev tRg (x : List Rg × Int) : V := .tup [.sl (x.1.map eRg) x.1.isEmpty .no, .int .i64 x.2]
theorem isE_map {A B : Type} (f : A → B) (l : List A) : (l.map f).isEmpty = l.isEmpty := by cases l <;> rfl
/-- What a slice of ranges that was made is turned to. -/
theorem turn_rg {G H : Heap} {l : List Rg} {X : V} (hB : Buf G H 2 (l.map eRg) X) (hs : Sub G H) (n : Int) : ∃ y G2, Turn (.tup [X, .int .i64 n]) H y G2 ∧ Vle y (tRg (l, n)) ∧ Sub G G2 := by
  rcases hB with ⟨h1, rfl⟩ | ⟨h1, b, c, rfl, h3, h4, h5, h6⟩
  · have : l = [] := by simpa using h1
    subst this
    exact ⟨_, _, Turn.refl _ _, .tupL (.cons .untag (.cons (Vle.refl _) .nil)), hs⟩
  · have hne : l.isEmpty = false := by cases l with | nil => simp at h1 | cons a l => rfl
    refine ⟨_, _, turn_buf (y := .tup [.sl (l.map eRg) false .no, .int .i64 n]) h5 rfl h4 (.tup _ _ rfl fun i hi => match i, hi with
      | 0, _ => .ms _ rfl
      | 1, _ => .same _), ?_, fun k o hk => by rw [hget_hdel_ne (fun e => by subst e; rw [h6] at hk; cases hk)]; exact hs _ _ hk⟩
    unfold tRg
    simp only [hne]
    exact Vle.refl _
theorem spans_nil {p : Int → Bool} {k : Nat} (h : p ((k : Int) + 1) = true) (hs : spans p k = []) : spans p (k + 1) = [((k : Int) + 1, (k : Int) + 1)] := by
  rw [spans_succ, if_pos h, hs]; rfl
theorem spans_snoc {p : Int → Bool} {k : Nat} (h : p ((k : Int) + 1) = true) {o : List Rg} {q : Rg} (hs : spans p k = o ++ [q]) : spans p (k + 1) = if q.2 = (k : Int) then o ++ [(q.1, (k : Int) + 1)] else o ++ [q] ++ [((k : Int) + 1, (k : Int) + 1)] := by
  have h3 := (spans_ok p k).2.2 q (by rw [hs]; simp)
  rw [spans_succ, if_pos h, hs]
  unfold mstep
  rw [List.getLast?_concat]
  simp only [List.dropLast_concat]
  by_cases e : q.2 = (k : Int)
  · rw [if_pos (by omega), if_pos e, show max q.2 ((k : Int) + 1) = (k : Int) + 1 by omega]
  · rw [if_neg (by omega), if_neg e]
theorem spans_len (p : Int → Bool) (k : Nat) : (spans p k).length ≤ k := by
  induction k with
  | zero => simp [spans]
  | succ k ih =>
    rw [spans_succ]
    split
    · unfold mstep
      split
      · simp; omega
      · split
        · simp; omega
        · simp; omega
    · omega
theorem q_ranges {G0 : Heap} {g : Go.FuncId} {cap : List V} (p : Int → Bool) (hc : ∀ v, 1 ≤ v → v < 10000 → QuietOn Try.prog G0 g ([.int .i64 v] ++ cap) (.bool (p v))) : QuietOn Try.prog G0 150 [.func (.func g) [] cap] (tRg (toldF (spans p 9999))) := by
  refine QuietOn.weak fun G hG0 => ?_
  refine ACall.turn ?_
  refine acall_body (rs := [.tmp 2, .tmp 3]) Try.func150 rfl rfl Try.ntmps150 (by kernel_rfl) (Nat.le_of_ble_eq_true rfl) ?_
  refine aw_sr rfl ?_  -- r0 @keep.go:436
  simp only [go_sem, reduceIte, Nat.reduceEqDiff, Nat.reduceAdd, Nat.reduceMul, Nat.reduceSub, Nat.reduceLeDiff, Nat.reduceLT, reduceCtorEq]
  refine aw_sr rfl ?_  -- r1 @keep.go:437
  simp only [go_sem, reduceIte, Nat.reduceEqDiff, Nat.reduceAdd, Nat.reduceMul, Nat.reduceSub, Nat.reduceLeDiff, Nat.reduceLT, reduceCtorEq]
  refine aw_seq fun K1 hK1 => ?_
  refine aw_sr rfl ?_  -- r2 @keep.go:438
  simp only [go_sem, reduceIte, Nat.reduceEqDiff, Nat.reduceAdd, Nat.reduceMul, Nat.reduceSub, Nat.reduceLeDiff, Nat.reduceLT, reduceCtorEq]
  refine aw_block ?_  -- 0
  refine aw_lph (S := {s : Nat × V × Heap // s.1 ≤ 9999 ∧ Buf G s.2.2 2 ((spans p s.1).map eRg) s.2.1 ∧ Sub G s.2.2}) (fun s => [(0, .func (.func g) [] cap), (4, s.1.2.1), (5, .int .i64 ((s.1.1 : Int) + 1))]) (fun s => s.1.2.2) (fun s => 9999 - s.1.1) ⟨(0, .sl [] true .full, G), by simp, Buf.start _ _ _, sub_rfl⟩ ?_ (fun _ _ h => h) ?_
  · simp only [go_sem, reduceIte, Nat.reduceEqDiff, Nat.reduceAdd, Nat.reduceMul, Nat.reduceSub, Nat.reduceLeDiff, Nat.reduceLT, reduceCtorEq]
    rfl
  intro ⟨⟨k, X, H⟩, k1, k2, k3⟩
  simp only at k1 k2 k3 ⊢
  have hw : IntKind.i64.wrap ((k : Int) + 1 + 1) = ((k + 1 : Nat) : Int) + 1 := by rw [wrap64 (by omega) (by omega)]; omega
  have hw1 : IntKind.i64.wrap ((k : Int) + 1 - 1) = (k : Int) := by rw [wrap64 (by omega) (by omega)]; omega
  refine aw_seq fun K2 hK2 => ?_
  refine aw_sr rfl ?_  -- r3 @keep.go:438
  simp only [go_sem, reduceIte, Nat.reduceEqDiff, Nat.reduceAdd, Nat.reduceMul, Nat.reduceSub, Nat.reduceLeDiff, Nat.reduceLT, reduceCtorEq]
  refine aw_if rfl (fun h => ?_) (fun h => ?_)
  · have hk : k < 9999 := by rw [decide_eq_true_eq] at h; omega
    refine aw_skip (hK2 _ _ ?_)
    refine aw_mid (fun f' G' => ∃ X' H', FSub [(0, .func (.func g) [] cap), (4, X'), (5, .int .i64 ((k : Int) + 1))] f' ∧ G' = H' ∧ Buf G H' 2 ((spans p (k + 1)).map eRg) X' ∧ Sub G H') ?_ ?_
    · refine aw_block ?_  -- 1
      refine aw_seq fun K3 hK3 => ?_
      refine aw_sr rfl ?_  -- r5 @keep.go:439
      simp only [go_sem, reduceIte, Nat.reduceEqDiff, Nat.reduceAdd, Nat.reduceMul, Nat.reduceSub, Nat.reduceLeDiff, Nat.reduceLT, reduceCtorEq]
      refine goA_by (hc _ (by omega) (by omega) H (sub_trans hG0 k3)) fun y H5 hy => ?_
      obtain ⟨rfl, rfl⟩ := hy
      simp only [go_sem, reduceIte, Nat.reduceEqDiff, Nat.reduceAdd, Nat.reduceMul, Nat.reduceSub, Nat.reduceLeDiff, Nat.reduceLT, reduceCtorEq]
      refine aw_if rfl (fun h => ?_) (fun h => ?_)
      · have hp : p ((k : Int) + 1) = false := by simpa using h
        refine aw_exit ?_  -- 1
        refine ⟨X, _, ⟨rfl, rfl, rfl⟩, rfl, ?_, k3⟩
        rw [spans_succ, if_neg (by rw [hp]; simp)]; exact k2
      have hp : p ((k : Int) + 1) = true := by simpa using h
      refine aw_skip (hK3 _ _ ?_)
      have hlen := spans_len p k
      rcases List.eq_nil_or_concat (spans p k) with hsp | ⟨o, q, hsp⟩
      · have hX : X = .sl [] true .full := by
          rcases k2 with ⟨_, h⟩ | ⟨h, _⟩
          · exact h
          · rw [hsp] at h; exact absurd rfl h
        have k2' := k2
        rw [hsp] at k2'
        subst hX
        refine aw_sr rfl ?_  -- r6
        simp only [go_sem, reduceIte, Nat.reduceEqDiff, Nat.reduceAdd, Nat.reduceMul, Nat.reduceSub, Nat.reduceLeDiff, Nat.reduceLT, reduceCtorEq, List.length_nil, Int.natCast_zero]
        refine aw_sr rfl ?_  -- r7
        have d00 : decide ((0 : Int) < 0) = false := rfl
        simp only [go_sem, reduceIte, Nat.reduceEqDiff, Nat.reduceAdd, Nat.reduceMul, Nat.reduceSub, Nat.reduceLeDiff, Nat.reduceLT, reduceCtorEq, d00, true_imp_iff, false_imp_iff, Bool.false_eq_true]
        repeat' first
          | (refine goG_off fun v => ?_
             simp only [go_sem, reduceIte, Nat.reduceEqDiff, Nat.reduceAdd, Nat.reduceMul, Nat.reduceSub, Nat.reduceLeDiff, Nat.reduceLT, reduceCtorEq, d00, true_imp_iff, false_imp_iff, Bool.false_eq_true])
        refine aw_if rfl (fun h => by simp at h) (fun h => ?_)
        refine aw_rgk 5 rfl rfl rfl ?_  -- r9
        simp only [go_sem, reduceIte, Nat.reduceEqDiff, Nat.reduceAdd, Nat.reduceMul, Nat.reduceSub, Nat.reduceLeDiff, Nat.reduceLT, reduceCtorEq]
        refine ⟨_, step_buf (k := 16) (ys := [eRg ((k : Int) + 1, (k : Int) + 1)]) k2' (fun b hb => sub_none k3 hb) rfl rfl ty_sl183 (by simp only [go_sem, reduceIte, Nat.reduceEqDiff, Nat.reduceAdd, Nat.reduceMul, Nat.reduceSub, Nat.reduceLeDiff, Nat.reduceLT, reduceCtorEq, srcV, eRg, cRg]) ty_by87 ty_ze87 ⟨rfl, rfl, by decide, wid_one rfl, by simp [sca, eRg, cRg, scalarV], by simp, by simp, by simp⟩, fun x H' ⟨hB, hD, hg⟩ => ?_⟩
        refine ⟨x, H', ⟨rfl, rfl, rfl⟩, rfl, ?_, fun b o hb => by rw [hg b (by rw [hb]; simp)]; exact k3 _ _ hb⟩
        rw [spans_nil hp hsp]; exact hB
      · rw [List.concat_eq_append] at hsp
        have hln : (spans p k).length = o.length + 1 := by rw [hsp]; simp
        have k2' := k2
        rw [hsp, List.map_append, List.map_cons, List.map_nil] at k2'
        obtain ⟨b, c, rfl, hlc⟩ := k2'.ms (by simp)
        obtain ⟨cs, c1, c2, c3, c4, c5, c6⟩ := k2'.last
        have hq := c4 1 _ (show (eRg q)[1]? = some (.int .i64 q.2) from rfl)
        rw [List.length_map] at c4 c5 c6 hq
        have hm : (o.map eRg ++ [eRg q]).length = o.length + 1 := by simp
        rw [hm] at k2 k2' hlc c6 ⊢
        have hd0 : decide ((0 : Int) < ((o.length + 1 : Nat) : Int)) = true := by rw [decide_eq_true_eq]; omega
        have hwl : IntKind.i64.wrap (((o.length + 1 : Nat) : Int) - 1) = ((o.length : Nat) : Int) := by rw [wrap64 (by omega) (by omega)]; omega
        refine aw_sr rfl ?_  -- r6
        simp only [go_sem, reduceIte, Nat.reduceEqDiff, Nat.reduceAdd, Nat.reduceMul, Nat.reduceSub, Nat.reduceLeDiff, Nat.reduceLT, reduceCtorEq]
        refine aw_sr rfl ?_  -- r7
        simp only [go_sem, reduceIte, Nat.reduceEqDiff, Nat.reduceAdd, Nat.reduceMul, Nat.reduceSub, Nat.reduceLeDiff, Nat.reduceLT, reduceCtorEq, c1, hq, hd0, hwl, tn1, hw1, Int.toNat_natCast]
        refine ⟨fun _ => ⟨by omega, by omega⟩, fun _ => ⟨by decide, by decide⟩, ?_⟩
        refine aw_if rfl (fun h => ?_) (fun h => ?_)
        · have he : q.2 = (k : Int) := by simpa using h
          refine aw_rg rfl ?_  -- r8
          simp only [go_sem, reduceIte, Nat.reduceEqDiff, Nat.reduceAdd, Nat.reduceMul, Nat.reduceSub, Nat.reduceLeDiff, Nat.reduceLT, reduceCtorEq, c1, hwl, tn1, Int.toNat_natCast]
          refine ⟨⟨by omega, by omega⟩, ⟨by decide, by decide⟩, by omega, ?_⟩
          refine ⟨_, _, ⟨rfl, rfl, rfl⟩, rfl, ?_, sub_hset_fresh c2 k3⟩
          have hB := c6 1 (.int .i64 ((k : Int) + 1)) (by decide)
          rw [spans_snoc hp hsp, if_pos he, List.map_append, List.map_cons, List.map_nil]
          exact hB
        · have he : ¬ q.2 = (k : Int) := by simpa using h
          refine aw_rgk 5 rfl rfl rfl ?_  -- r9
          simp only [go_sem, reduceIte, Nat.reduceEqDiff, Nat.reduceAdd, Nat.reduceMul, Nat.reduceSub, Nat.reduceLeDiff, Nat.reduceLT, reduceCtorEq]
          refine ⟨_, step_buf (k := 16) (ys := [eRg ((k : Int) + 1, (k : Int) + 1)]) k2' (fun b hb => sub_none k3 hb) rfl rfl ty_sl183 (by simp only [go_sem, reduceIte, Nat.reduceEqDiff, Nat.reduceAdd, Nat.reduceMul, Nat.reduceSub, Nat.reduceLeDiff, Nat.reduceLT, reduceCtorEq, srcV, eRg, cRg]) ty_by87 ty_ze87 ⟨rfl, rfl, by decide, wid_one rfl, by simp [sca, eRg, cRg, scalarV], by simp; omega, by simp; omega, by simp⟩, fun x H' ⟨hB, hD, hg⟩ => ?_⟩
          refine ⟨x, H', ⟨rfl, rfl, rfl⟩, rfl, ?_, fun b o hb => by rw [hg b (by rw [hb]; simp)]; exact k3 _ _ hb⟩
          rw [spans_snoc hp hsp, if_neg he, List.map_append, List.map_append, List.map_cons, List.map_nil]; exact hB
    intro f' G' ⟨X', H', hf, hg, hB, hs⟩
    rw [hg]
    refine AW.of_fsub hf ?_
    refine aw_rg rfl ?_  -- r4 @keep.go:438
    simp only [go_sem, reduceIte, Nat.reduceEqDiff, Nat.reduceAdd, Nat.reduceMul, Nat.reduceSub, Nat.reduceLeDiff, Nat.reduceLT, reduceCtorEq, hw]
    exact ⟨⟨(k + 1, X', H'), by simp only; omega, hB, hs⟩, by simp only; omega, by trivial, sub_rfl⟩
  · have hk : k = 9999 := by rw [decide_eq_false_iff_not] at h; omega
    subst hk
    refine aw_exit ?_  -- 0
    refine hK1 _ _ ?_
    have hlen := spans_len p 9999
    generalize hsp : spans p 9999 = l at k2 hlen
    refine aw_seq fun K4 hK4 => ?_
    have hL : lenV Try.prog H 183 X = ok (.int .i64 ((l.length : Nat) : Int)) := by
      rcases k2 with ⟨h1, rfl⟩ | ⟨h1, b, c, rfl, _⟩
      · have : l = [] := by simpa using h1
        subst this; rfl
      · rw [List.length_map]; rfl
    refine aw_sr rfl ?_  -- r10 @keep.go:448
    simp only [go_sem, reduceIte, Nat.reduceEqDiff, Nat.reduceAdd, Nat.reduceMul, Nat.reduceSub, Nat.reduceLeDiff, Nat.reduceLT, reduceCtorEq, ↓hL]
    refine aw_if rfl (fun h => ?_) (fun h => ?_)
    · have hl : 50 < l.length := by rw [decide_eq_true_eq] at h; omega
      refine aw_sr rfl ?_  -- r11
      simp only [go_sem, reduceIte, Nat.reduceEqDiff, Nat.reduceAdd, Nat.reduceMul, Nat.reduceSub, Nat.reduceLeDiff, Nat.reduceLT, reduceCtorEq]
      refine aw_ret ⟨trivial, _, rfl, ?_⟩
      rw [toldF_nil hl]
      exact ⟨_, _, Turn.refl _ _, .tupL (.cons .untag (.cons (Vle.refl _) .nil)), k3⟩
    have hl : ¬ 50 < l.length := by rw [decide_eq_false_iff_not] at h; omega
    refine aw_skip (hK4 _ _ ?_)
    refine aw_sr rfl ?_  -- r12
    simp only [go_sem, reduceIte, Nat.reduceEqDiff, Nat.reduceAdd, Nat.reduceMul, Nat.reduceSub, Nat.reduceLeDiff, Nat.reduceLT, reduceCtorEq]
    refine aw_ret ⟨trivial, _, rfl, ?_⟩
    rw [toldF_ok hl]
    exact turn_rg k2 k3 0
end Go.Proofs.Ytacecjfpkdijpaa

/- The reference's set of versions. No conditions but sizes. -/
set_option linter.unusedSimpArgs false
set_option linter.unusedVariables false
namespace Go.Proofs.Ytacecjfpkdijpaa
open Go.Proofs.YtacecjfpkdijpaaV
set_option maxHeartbeats 1000000
set_option maxRecDepth 100000
def setF (l : List Rg) : List Rg × Int := if l.any badR = true then ([], 1) else toldF (spans (fun v => inR v l) 9999)
theorem q_VersionSet1 (b : Nat) (g : Nat → Bool) (v : Int) (h1 : 1 ≤ v) (h2 : v < 10000) : QuietOn Try.prog [(b, .vars [.sl (arrB g) false .no])] 151 [.int .i64 v, .ptr b 0] (.bool (g v.toNat)) := by
  refine QuietOn.weak fun G hG => ?_
  have h3 := hG _ _ (hget_self _ _ _)
  refine acall_body (rs := [.tmp 3]) Try.func151 rfl rfl Try.ntmps151 (by kernel_rfl) (Nat.le_of_ble_eq_true rfl) ?_
  refine aw_sr rfl ?_  -- r0 @keep.go:462
  simp only [go_sem, reduceIte, Nat.reduceEqDiff, Nat.reduceAdd, Nat.reduceMul, Nat.reduceSub, Nat.reduceLeDiff, Nat.reduceLT, reduceCtorEq]
  refine aw_sr rfl ?_  -- r1 @keep.go:462
  simp only [go_sem, reduceIte, Nat.reduceEqDiff, Nat.reduceAdd, Nat.reduceMul, Nat.reduceSub, Nat.reduceLeDiff, Nat.reduceLT, reduceCtorEq, h3, arrB_get (g := g) (show v.toNat < 10001 by omega), arrB_len]
  refine ⟨⟨by omega, by omega, wid_arrB _⟩, ?_⟩
  exact aw_ret ⟨trivial, _, rfl, Vle.refl _, sub_rfl⟩
theorem any_take_succ {l : List Rg} {i : Nat} (hi : i < l.length) (h : (l.take i).any badR = false) (h2 : badR l[i] = false) : (l.take (i + 1)).any badR = false := by
  rw [List.take_succ_eq_append_getElem hi, List.any_append, h]; simp [h2]
theorem any_of_getElem {l : List Rg} {i : Nat} (hi : i < l.length) (h : badR l[i] = true) : l.any badR = true := List.any_eq_true.2 ⟨_, List.getElem_mem hi, h⟩
theorem spans_congr {p q : Int → Bool} {n : Nat} (h : ∀ v, 1 ≤ v → v ≤ (n : Int) → p v = q v) : spans p n = spans q n := by
  induction n with
  | zero => rfl
  | succ n ih => rw [spans_succ, spans_succ, ih fun v h1 h2 => h v h1 (by omega), h ((n : Int) + 1) (by omega) (by omega)]
theorem q_VersionSet (l : List Rg) (nl : Bool) (t : Tag) (hl : l.length ≤ 1048576) : Quiet Try.prog 77 [.sl (l.map eRg) nl t] (tRg (setF l)) := by
  refine Quiet.weak fun G => ?_
  refine acall_body (rs := [.tmp 2, .tmp 3]) Try.func77 rfl rfl Try.ntmps77 (by kernel_rfl) (Nat.le_of_ble_eq_true rfl) ?_
  refine aw_sr rfl ?_  -- r0 @keep.go:455
  simp only [go_sem, reduceIte, Nat.reduceEqDiff, Nat.reduceAdd, Nat.reduceMul, Nat.reduceSub, Nat.reduceLeDiff, Nat.reduceLT, reduceCtorEq]
  refine aw_seq fun K1 hK1 => ?_
  refine aw_sr rfl ?_  -- r1 @keep.go:456
  simp only [go_sem, reduceIte, Nat.reduceEqDiff, Nat.reduceAdd, Nat.reduceMul, Nat.reduceSub, Nat.reduceLeDiff, Nat.reduceLT, reduceCtorEq]
  refine aw_range l.length (S := Unit) (fun i _ => [(0, .sl (l.map eRg) nl t), (7, .sl (l.map eRg) nl t)]) (fun _ _ => G) (fun i _ => (l.take i).any badR = false) () (by omega) ?_ (fun _ _ h => h) rfl rfl (fun _ _ => rfl) ?_ ?_ (by decide)
  · simp only [go_sem, reduceIte, Nat.reduceEqDiff, Nat.reduceAdd, Nat.reduceMul, Nat.reduceSub, Nat.reduceLeDiff, Nat.reduceLT, reduceCtorEq, Int.natCast_zero]
  · intro i _ hi he
    have hany := any_of_getElem hi
    have hstep := any_take_succ hi he
    refine aw_sr rfl ?_  -- r3 @keep.go:456
    simp only [go_sem, reduceIte, Nat.reduceEqDiff, Nat.reduceAdd, Nat.reduceMul, Nat.reduceSub, Nat.reduceLeDiff, Nat.reduceLT, reduceCtorEq, getD_map hi, eRg, cRg]
    refine ⟨⟨by omega, by omega, wid_eRg _⟩, ?_⟩
    generalize l[i] = r at hany hstep
    intro b5 hb5
    refine aw_box1 hb5 fun B1 hs1 h5 => ?_
    have hsB := hs1
    refine aw_sr rfl ?_  -- r4 @keep.go:457
    simp only [go_sem, reduceIte, Nat.reduceEqDiff, Nat.reduceAdd, Nat.reduceMul, Nat.reduceSub, Nat.reduceLeDiff, Nat.reduceLT, reduceCtorEq, h5, tn0, tn1, bd0, bd1, true_and, implies_true]
    refine aw_if rfl (fun h => ?_) (fun h => ?_)
    · have hb : badR r = true := h
      refine aw_sr rfl ?_  -- r5 @keep.go:458
      simp only [go_sem, reduceIte, Nat.reduceEqDiff, Nat.reduceAdd, Nat.reduceMul, Nat.reduceSub, Nat.reduceLeDiff, Nat.reduceLT, reduceCtorEq]
      refine aw_ret ⟨trivial, _, rfl, ?_, hsB⟩
      rw [setF, if_pos (hany hb)]
      exact .tupL (.cons .untag (.cons (Vle.refl _) .nil))
    have hb : badR r = false := h
    refine aw_skip ?_
    refine ⟨(), hstep hb, ?_, hsB⟩
    simp only [go_sem, reduceIte, Nat.reduceEqDiff, Nat.reduceAdd, Nat.reduceMul, Nat.reduceSub, Nat.reduceLeDiff, Nat.reduceLT, reduceCtorEq]
  intro _ he
  rw [List.take_length] at he
  have hok : ∀ r ∈ l, badR r = false := fun r hr => by simpa using List.any_eq_false.1 he r hr
  refine hK1 _ _ ?_
  refine aw_sr rfl ?_  -- r7 @keep.go:461
  simp only [go_sem, reduceIte, Nat.reduceEqDiff, Nat.reduceAdd, Nat.reduceMul, Nat.reduceSub, Nat.reduceLeDiff, Nat.reduceLT, reduceCtorEq]
  refine goA_q (q_bits l nl t hl fun r hr => by have := badR_not (hok r hr); omega) ?_
  simp only [go_sem, reduceIte, Nat.reduceEqDiff, Nat.reduceAdd, Nat.reduceMul, Nat.reduceSub, Nat.reduceLeDiff, Nat.reduceLT, reduceCtorEq]
  intro b6 hb6
  refine aw_box1 hb6 fun B1 hs1 h6 => ?_
  have hsB := hs1
  refine aw_sr rfl ?_  -- r8 @keep.go:462
  simp only [go_sem, reduceIte, Nat.reduceEqDiff, Nat.reduceAdd, Nat.reduceMul, Nat.reduceSub, Nat.reduceLeDiff, Nat.reduceLT, reduceCtorEq, h6]
  refine goA_by (q_ranges (fun v => inR v l) (fun v h1 h2 => (by have := q_VersionSet1 b6 (fun j => inR (j : Int) l) v h1 h2; rw [Int.toNat_of_nonneg (by omega)] at this; exact this)) B1 (sub_one h6)) fun y H5 hy => ?_
  obtain ⟨rfl, rfl⟩ := hy
  simp only [go_sem, reduceIte, Nat.reduceEqDiff, Nat.reduceAdd, Nat.reduceMul, Nat.reduceSub, Nat.reduceLeDiff, Nat.reduceLT, reduceCtorEq]
  refine aw_ret ⟨trivial, _, rfl, ?_, hsB⟩
  rw [setF, if_neg (by rw [he]; simp)]
  exact Vle.refl _
end Go.Proofs.Ytacecjfpkdijpaa

/- The set of versions: a copy of its ranges in order. No conditions but sizes. -/
set_option linter.unusedSimpArgs false
set_option linter.unusedVariables false
namespace Go.Proofs.Ytacecjfpkdijpaa
open Go.Proofs.YtacecjfpkdijpaaV
set_option maxHeartbeats 1000000
set_option maxRecDepth 100000
theorem sca_eRg (l : List Rg) : sca (l.map eRg) := sca_map (g := eRg) (fun a x hx => by simp [eRg, cRg] at hx; rcases hx with rfl | rfl <;> rfl) _
theorem a_CloneR (l : List Rg) (nl : Bool) (t : Tag) (hl : l.length ≤ 1048576) (hne : l ≠ []) (hnl : nl = true → l = []) (G : Heap) : ACall Try.prog 144 [.sl (l.map eRg) nl t]
    (fun y H => ∃ b c rest, y = .ms b 0 l.length c ∧ l.length ≤ c ∧ hget G b = none ∧ hget H b = some (.vars ((l.map eRg).flatten ++ rest)) ∧ Sub G H) G := by
  have hnl0 : nl = false := by cases nl with | false => rfl | true => exact absurd (hnl rfl) hne
  subst hnl0
  refine acall_body (rs := [.tmp 2]) Try.func144 rfl rfl Try.ntmps144 (by kernel_rfl) (Nat.le_of_ble_eq_true rfl) ?_
  refine aw_sr rfl ?_  -- r0
  simp only [go_sem, reduceIte, Nat.reduceEqDiff, Nat.reduceAdd, Nat.reduceMul, Nat.reduceSub, Nat.reduceLeDiff, Nat.reduceLT, reduceCtorEq]
  refine aw_seq fun K1 hK1 => ?_
  refine aw_sr rfl ?_  -- r1
  simp only [go_sem, reduceIte, Nat.reduceEqDiff, Nat.reduceAdd, Nat.reduceMul, Nat.reduceSub, Nat.reduceLeDiff, Nat.reduceLT, reduceCtorEq]
  refine aw_if rfl (fun h => by simp at h) (fun h => ?_)
  refine aw_skip (hK1 _ _ ?_)
  refine aw_sr rfl ?_  -- r3
  simp only [go_sem, reduceIte, Nat.reduceEqDiff, Nat.reduceAdd, Nat.reduceMul, Nat.reduceSub, Nat.reduceLeDiff, Nat.reduceLT, reduceCtorEq]
  refine ⟨⟨rfl, rfl, by decide, by simp [wid], wid_eRg _, sca_eRg _, by simp; omega, by simp; omega⟩, .inr ⟨rfl, rfl, by simpa using hne, fun b c hb hc => ?_⟩⟩
  simp only [go_sem, reduceIte, Nat.reduceEqDiff, Nat.reduceAdd, Nat.reduceMul, Nat.reduceSub, Nat.reduceLeDiff, Nat.reduceLT, reduceCtorEq]
  refine aw_ret ⟨trivial, _, rfl, b, c, _, rfl, by simpa using hc, hb, hget_self _ _ _, sub_tail hb⟩
theorem a_CloneR0 (nl : Bool) (t : Tag) (G : Heap) : ACall Try.prog 144 [.sl [] nl t]
    (fun y H => ∃ nl2 t2, y = .sl [] nl2 t2 ∧ Sub G H) G := by
  refine acall_body (rs := [.tmp 2]) Try.func144 rfl rfl Try.ntmps144 (by kernel_rfl) (Nat.le_of_ble_eq_true rfl) ?_
  refine aw_sr rfl ?_  -- r0
  simp only [go_sem, reduceIte, Nat.reduceEqDiff, Nat.reduceAdd, Nat.reduceMul, Nat.reduceSub, Nat.reduceLeDiff, Nat.reduceLT, reduceCtorEq]
  refine aw_seq fun K1 hK1 => ?_
  refine aw_sr rfl ?_  -- r1
  simp only [go_sem, reduceIte, Nat.reduceEqDiff, Nat.reduceAdd, Nat.reduceMul, Nat.reduceSub, Nat.reduceLeDiff, Nat.reduceLT, reduceCtorEq]
  refine aw_if rfl (fun h => ?_) (fun h => ?_)
  · refine aw_sr rfl ?_  -- r2
    simp only [go_sem, reduceIte, Nat.reduceEqDiff, Nat.reduceAdd, Nat.reduceMul, Nat.reduceSub, Nat.reduceLeDiff, Nat.reduceLT, reduceCtorEq]
    exact aw_ret ⟨trivial, _, rfl, _, _, rfl, sub_rfl⟩
  refine aw_skip (hK1 _ _ ?_)
  refine aw_sr rfl ?_  -- r3
  simp only [go_sem, reduceIte, Nat.reduceEqDiff, Nat.reduceAdd, Nat.reduceMul, Nat.reduceSub, Nat.reduceLeDiff, Nat.reduceLT, reduceCtorEq]
  refine goP_rm (G := G) (Rm.start _ _ _) sub_rfl ?_ fun t1 H1 hr1 hs1 hg1 => ?_
  · exact ⟨rfl, rfl, by decide, by simp [wid], by simp, by simp, by simp, by simp⟩
  simp only [go_sem, reduceIte, Nat.reduceEqDiff, Nat.reduceAdd, Nat.reduceMul, Nat.reduceSub, Nat.reduceLeDiff, Nat.reduceLT, reduceCtorEq]
  exact aw_ret ⟨trivial, _, rfl, _, _, rfl, hs1⟩
theorem enc_Rg : Enc eRg Go.Proofs.Try.encR 2 where
  len _ := rfl
  len' _ := rfl
  one x v hv := by simp [Go.Proofs.Try.encR] at hv; rcases hv with rfl | rfl <;> rfl
  rep M x i h u := by
    match i, h with
    | 0, _ => exact ⟨fun h => by cases h; rfl, fun h => by subst h; exact .int _ _⟩
    | 1, _ => exact ⟨fun h => by cases h; rfl, fun h => by subst h; exact .int _ _⟩
theorem a_SortR (l : List Rg) (b c : Nat) (rest : List V) {G : Heap} (hb : hget G b = some (.vars ((l.map eRg).flatten ++ rest))) (hl : l.length ≤ 1048576) :
    ACall Try.prog 145 [.ms b 0 l.length c, .func (.func 146) [] []]
      (fun _ G' => ∃ l' : List Rg, l'.Perm l ∧ l'.Pairwise (fun x y => x.1 ≤ y.1) ∧ G' = hset G b (.vars ((l'.map eRg).flatten ++ rest))) G :=
  (a_sort (k := 2) Go.Proofs.Try.sortR (fun w => Go.Proofs.YtacecjfpkdijpaaV.run_isAgg ty_ag189) (fun w => Go.Proofs.YtacecjfpkdijpaaV.run_sizeOf ty_sz189) enc_Rg Go.Proofs.Try.swoR (g := 146) (enters_of Try.func146 (by kernel_rfl) rfl) Go.Proofs.Try.cmpLays Try.func145 rfl rfl hb (by omega)).mono fun _ _ ⟨l', h1, h2, h3⟩ => ⟨l', h1, h2.imp fun {x y} h => by
    have := mt (Go.Proofs.Try.lt_iff y x).2 (by rw [h]; simp)
    omega, h3⟩
theorem a_SortR0 (nl : Bool) (t : Tag) (X : V) (G : Heap) : ACall Try.prog 145 [.sl [] nl t, X] (fun _ G' => G' = G) G :=
  a_sort0 Go.Proofs.Try.sortR Try.func145 rfl rfl G
end Go.Proofs.Ytacecjfpkdijpaa

/- The set of versions. No conditions but sizes. -/
set_option linter.unusedSimpArgs false
set_option linter.unusedVariables false
namespace Go.Proofs.Ytacecjfpkdijpaa
open Go.Proofs.YtacecjfpkdijpaaV
set_option maxHeartbeats 2000000
set_option maxRecDepth 100000
theorem inR_perm {l l' : List Rg} (h : l'.Perm l) (v : Int) : inR v l' = inR v l := by
  rw [Bool.eq_iff_iff, inR_iff, inR_iff]
  exact ⟨fun ⟨r, hr, q⟩ => ⟨r, h.mem_iff.1 hr, q⟩, fun ⟨r, hr, q⟩ => ⟨r, h.mem_iff.2 hr, q⟩⟩
theorem spans_empty (n : Nat) : spans (fun v => inR v []) n = [] := by
  induction n with
  | zero => rfl
  | succ n ih => rw [spans_succ, if_neg (by simp [inR]), ih]
theorem merged {l l' : List Rg} (hok : ∀ r ∈ l, badR r = false) (hp : l'.Perm l) (hs : l'.Pairwise (fun x y => x.1 ≤ y.1)) : l'.foldl mstep [] = spans (fun v => inR v l) 9999 :=
  merge_spans rfl (fun r hr => by have := badR_not (hok r (hp.mem_iff.1 hr)); omega) hs (fun v _ _ => (inR_perm hp v).symm)
theorem mstep_snoc (o : List Rg) (q r : Rg) : mstep (o ++ [q]) r = if r.1 ≤ q.2 + 1 then o ++ [(q.1, max q.2 r.2)] else o ++ [q] ++ [r] := by
  unfold mstep
  rw [List.getLast?_concat]
  simp only [List.dropLast_concat]
theorem mstep_nil (r : Rg) : mstep [] r = [r] := rfl
theorem foldl_take {l : List Rg} {i : Nat} (h : i < l.length) : (l.take (i + 1)).foldl mstep [] = mstep ((l.take i).foldl mstep []) l[i] := by
  rw [List.take_succ_eq_append_getElem h, List.foldl_append]; rfl
theorem mfold_len : ∀ (l : List Rg) (o : List Rg), (l.foldl mstep o).length ≤ o.length + l.length
  | [], o => by simp
  | r :: l, o => by
    have h := mfold_len l (mstep o r)
    have h2 : (mstep o r).length ≤ o.length + 1 := by
      unfold mstep
      split
      · simp
      · split
        · simp
        · simp
    rw [List.foldl_cons, List.length_cons]; omega
theorem mfold_bd : ∀ (l o : List Rg), (∀ r ∈ l, badR r = false) → (∀ q ∈ o, badR q = false) → ∀ q ∈ l.foldl mstep o, badR q = false
  | [], o, _, h => h
  | r :: l, o, hl, h => by
    refine mfold_bd l (mstep o r) (fun x hx => hl x (by simp [hx])) ?_
    have hr := badR_not (hl r (by simp))
    rcases List.eq_nil_or_concat o with rfl | ⟨o', q, rfl⟩
    · intro x hx
      rw [mstep_nil] at hx
      simp at hx; subst hx; exact hl _ (by simp)
    · rw [List.concat_eq_append] at h ⊢
      have hq := badR_not (h q (by simp))
      rw [mstep_snoc]
      intro x hx
      split at hx
      · rw [List.mem_append] at hx
        rcases hx with hx | hx
        · exact h x (by simp [hx])
        · simp at hx; subst hx
          simp only [badR, Bool.or_eq_false_iff, decide_eq_false_iff_not]; omega
      · rw [List.mem_append] at hx
        rcases hx with hx | hx
        · exact h x hx
        · simp at hx; subst hx; exact hl _ (by simp)
theorem row_at {n : Nat} {es : List (List V)} (hw : wid n es) {i : Nat} (hi : i < es.length) (rest : List V) : ((es.flatten ++ rest).drop (i * n)).take n = es[i] ∧ i * n + n ≤ (es.flatten ++ rest).length := by
  have h1 : es.flatten = (es.take i).flatten ++ (es[i] ++ (es.drop (i + 1)).flatten) := by
    have e : es = es.take i ++ (es[i] :: es.drop (i + 1)) := by rw [← List.drop_eq_getElem_cons hi, List.take_append_drop]
    have e2 := congrArg List.flatten e
    rw [List.flatten_append, List.flatten_cons] at e2
    exact e2
  have h2 : (es.take i).flatten.length = i * n := by
    rw [flatten_length (n := n) (wid_take hw i), List.length_take, Nat.min_eq_left (by omega)]
  have h3 : es[i].length = n := hw _ (List.getElem_mem hi)
  constructor
  · rw [h1, ← h2, List.append_assoc, List.drop_left, List.append_assoc, ← h3, List.take_left]
  · rw [h1]; simp only [List.length_append, h2, h3]; omega
theorem q_Set (l : List Rg) (nl : Bool) (t : Tag) (hl : l.length ≤ 1048576) (hnl : nl = true → l = []) : Quiet Try.prog 76 [.sl (l.map eRg) nl t] (tRg (setF l)) := by
  refine Quiet.weak fun G => ?_
  refine ACall.turn ?_
  refine acall_body (rs := [.tmp 2, .tmp 3]) Try.func76 rfl rfl Try.ntmps76 (by kernel_rfl) (Nat.le_of_ble_eq_true rfl) ?_
  refine aw_sr rfl ?_  -- r0 @version.go:39
  simp only [go_sem, reduceIte, Nat.reduceEqDiff, Nat.reduceAdd, Nat.reduceMul, Nat.reduceSub, Nat.reduceLeDiff, Nat.reduceLT, reduceCtorEq]
  refine aw_seq fun K1 hK1 => ?_
  refine aw_sr rfl ?_  -- r1 @version.go:40
  simp only [go_sem, reduceIte, Nat.reduceEqDiff, Nat.reduceAdd, Nat.reduceMul, Nat.reduceSub, Nat.reduceLeDiff, Nat.reduceLT, reduceCtorEq]
  refine aw_range l.length (S := Unit) (fun i _ => [(0, .sl (l.map eRg) nl t), (10, .sl (l.map eRg) nl t)]) (fun _ _ => G) (fun i _ => (l.take i).any badR = false) () (by omega) ?_ (fun _ _ h => h) rfl rfl (fun _ _ => rfl) ?_ ?_ (by decide)
  · simp only [go_sem, reduceIte, Nat.reduceEqDiff, Nat.reduceAdd, Nat.reduceMul, Nat.reduceSub, Nat.reduceLeDiff, Nat.reduceLT, reduceCtorEq, Int.natCast_zero]
  · intro i _ hi he
    have hany := any_of_getElem hi
    have hstep := any_take_succ hi he
    refine aw_sr rfl ?_  -- r3 @version.go:40
    simp only [go_sem, reduceIte, Nat.reduceEqDiff, Nat.reduceAdd, Nat.reduceMul, Nat.reduceSub, Nat.reduceLeDiff, Nat.reduceLT, reduceCtorEq, getD_map hi, eRg, cRg]
    refine ⟨⟨by omega, by omega, wid_eRg _⟩, ?_⟩
    generalize l[i] = r at hany hstep
    intro b5 hb5
    refine aw_box1 hb5 fun B1 hs1 h5 => ?_
    have hsB := hs1
    refine aw_sr rfl ?_  -- r4 @version.go:41
    simp only [go_sem, reduceIte, Nat.reduceEqDiff, Nat.reduceAdd, Nat.reduceMul, Nat.reduceSub, Nat.reduceLeDiff, Nat.reduceLT, reduceCtorEq, h5]
    refine aw_if rfl (fun h => ?_) (fun h => ?_)
    · have hb : badR r = true := h
      refine aw_sr rfl ?_  -- r5 @version.go:42
      simp only [go_sem, reduceIte, Nat.reduceEqDiff, Nat.reduceAdd, Nat.reduceMul, Nat.reduceSub, Nat.reduceLeDiff, Nat.reduceLT, reduceCtorEq]
      refine aw_ret ⟨trivial, _, rfl, _, _, Turn.refl _ _, ?_, hsB⟩
      rw [setF, if_pos (hany hb)]
      exact .tupL (.cons .untag (.cons (Vle.refl _) .nil))
    have hb : badR r = false := h
    refine aw_skip ?_
    refine ⟨(), hstep hb, ?_, hsB⟩
    simp only [go_sem, reduceIte, Nat.reduceEqDiff, Nat.reduceAdd, Nat.reduceMul, Nat.reduceSub, Nat.reduceLeDiff, Nat.reduceLT, reduceCtorEq]
  intro _ he
  rw [List.take_length] at he
  have hok : ∀ r ∈ l, badR r = false := fun r hr => by simpa using List.any_eq_false.1 he r hr
  have hset : setF l = toldF (spans (fun v => inR v l) 9999) := by rw [setF, if_neg (by rw [he]; simp)]
  refine hK1 _ _ ?_
  refine aw_sr rfl ?_  -- r7 @version.go:45
  simp only [go_sem, reduceIte, Nat.reduceEqDiff, Nat.reduceAdd, Nat.reduceMul, Nat.reduceSub, Nat.reduceLeDiff, Nat.reduceLT, reduceCtorEq]
  by_cases hne : l = []
  · subst hne
    rw [spans_empty] at hset
    refine goA_by (a_CloneR0 nl t G) fun y H1 hy => ?_
    obtain ⟨nl2, t2, rfl, hs1⟩ := hy
    simp only [go_sem, reduceIte, Nat.reduceEqDiff, Nat.reduceAdd, Nat.reduceMul, Nat.reduceSub, Nat.reduceLeDiff, Nat.reduceLT, reduceCtorEq]
    refine aw_sr rfl ?_  -- r8 @version.go:46
    simp only [go_sem, reduceIte, Nat.reduceEqDiff, Nat.reduceAdd, Nat.reduceMul, Nat.reduceSub, Nat.reduceLeDiff, Nat.reduceLT, reduceCtorEq]
    refine goA_by (a_SortR0 nl2 t2 _ H1) fun y H2 hy => ?_
    subst hy
    simp only [go_sem, reduceIte, Nat.reduceEqDiff, Nat.reduceAdd, Nat.reduceMul, Nat.reduceSub, Nat.reduceLeDiff, Nat.reduceLT, reduceCtorEq]
    refine aw_sr rfl ?_  -- r9 @version.go:47
    simp only [go_sem, reduceIte, Nat.reduceEqDiff, Nat.reduceAdd, Nat.reduceMul, Nat.reduceSub, Nat.reduceLeDiff, Nat.reduceLT, reduceCtorEq]
    refine aw_seq fun K2 hK2 => ?_
    refine aw_sr rfl ?_  -- r10 @version.go:48
    simp only [go_sem, reduceIte, Nat.reduceEqDiff, Nat.reduceAdd, Nat.reduceMul, Nat.reduceSub, Nat.reduceLeDiff, Nat.reduceLT, reduceCtorEq]
    refine aw_range 0 (S := Unit) (fun i _ => [(6, .sl [] true .full)]) (fun _ _ => H2) (fun i _ => True) () (by omega) ?_ (fun _ _ h => h) trivial rfl (fun _ _ => rfl) (fun i _ hi => absurd hi (by omega)) ?_ (by decide)
    · simp only [go_sem, reduceIte, Nat.reduceEqDiff, Nat.reduceAdd, Nat.reduceMul, Nat.reduceSub, Nat.reduceLeDiff, Nat.reduceLT, reduceCtorEq, Int.natCast_zero, List.length_nil]
    intro _ _
    refine hK2 _ _ ?_
    refine aw_seq fun K3 hK3 => ?_
    refine aw_sr rfl ?_  -- r18 @version.go:55
    simp only [go_sem, reduceIte, Nat.reduceEqDiff, Nat.reduceAdd, Nat.reduceMul, Nat.reduceSub, Nat.reduceLeDiff, Nat.reduceLT, reduceCtorEq]
    refine aw_if rfl (fun h => by simp at h) (fun h => ?_)
    refine aw_skip (hK3 _ _ ?_)
    refine aw_sr rfl ?_  -- r20 @version.go:58
    simp only [go_sem, reduceIte, Nat.reduceEqDiff, Nat.reduceAdd, Nat.reduceMul, Nat.reduceSub, Nat.reduceLeDiff, Nat.reduceLT, reduceCtorEq]
    refine aw_ret ⟨trivial, _, rfl, _, _, Turn.refl _ _, ?_, hs1⟩
    rw [hset]
    exact .tupL (.cons .untag (.cons (Vle.refl _) .nil))
  refine goA_by (a_CloneR l nl t hl hne hnl G) fun y H1 hy => ?_
  obtain ⟨b, c, rest, rfl, hlc, hbG, hb1, hs1⟩ := hy
  simp only [go_sem, reduceIte, Nat.reduceEqDiff, Nat.reduceAdd, Nat.reduceMul, Nat.reduceSub, Nat.reduceLeDiff, Nat.reduceLT, reduceCtorEq]
  refine aw_sr rfl ?_  -- r8 @version.go:46
  simp only [go_sem, reduceIte, Nat.reduceEqDiff, Nat.reduceAdd, Nat.reduceMul, Nat.reduceSub, Nat.reduceLeDiff, Nat.reduceLT, reduceCtorEq]
  refine goA_by (a_SortR l b c rest hb1 hl) fun y H2 hy => ?_
  obtain ⟨l', hp, hsort, hH2⟩ := hy
  obtain ⟨hb2, _, hk⟩ := setH hH2.symm hb1
  have hs2 := hk G hbG hs1
  rw [← merged hok hp hsort] at hset
  have hl' : l'.length = l.length := hp.length_eq
  have hok' : ∀ r ∈ l', badR r = false := fun r hr => hok r (hp.mem_iff.1 hr)
  have hrow : ∀ i (hi : i < l'.length), (((l'.map eRg).flatten ++ rest).drop (i * 2)).take 2 = cRg l'[i] ∧ i * 2 + 2 ≤ ((l'.map eRg).flatten ++ rest).length := fun i hi => by
    have := row_at (wid_eRg l') (i := i) (by rw [List.length_map]; exact hi) rest
    rw [List.getElem_map] at this; exact this
  generalize (l'.map eRg).flatten ++ rest = cs0 at hb2 hrow
  simp only [go_sem, reduceIte, Nat.reduceEqDiff, Nat.reduceAdd, Nat.reduceMul, Nat.reduceSub, Nat.reduceLeDiff, Nat.reduceLT, reduceCtorEq]
  refine aw_sr rfl ?_  -- r9 @version.go:47
  simp only [go_sem, reduceIte, Nat.reduceEqDiff, Nat.reduceAdd, Nat.reduceMul, Nat.reduceSub, Nat.reduceLeDiff, Nat.reduceLT, reduceCtorEq]
  refine aw_seq fun K2 hK2 => ?_
  refine aw_sr rfl ?_  -- r10 @version.go:48
  simp only [go_sem, reduceIte, Nat.reduceEqDiff, Nat.reduceAdd, Nat.reduceMul, Nat.reduceSub, Nat.reduceLeDiff, Nat.reduceLT, reduceCtorEq]
  refine aw_range l.length (S := V × Heap) (fun i s => [(6, s.1), (36, .ms b 0 l.length c)]) (fun _ s => s.2) (fun i s => Buf H2 s.2 2 (((l'.take i).foldl mstep []).map eRg) s.1 ∧ Sub H2 s.2) (.sl [] true .full, H2) (by omega) ?_ (fun _ _ h => h) ⟨Buf.start _ _ _, sub_rfl⟩ rfl (fun _ _ => rfl) ?_ ?_ (by decide)
  · simp only [go_sem, reduceIte, Nat.reduceEqDiff, Nat.reduceAdd, Nat.reduceMul, Nat.reduceSub, Nat.reduceLeDiff, Nat.reduceLT, reduceCtorEq, Int.natCast_zero]
  · intro i ⟨X, H⟩ hi ⟨hB, hs⟩
    simp only at hB hs ⊢
    have hi' : i < l'.length := by omega
    obtain ⟨hr1, hr2⟩ := hrow i hi'
    have hbH := hs _ _ hb2
    have hft := foldl_take hi'
    have hml := mfold_len (l'.take i) []
    have hbd := mfold_bd (l'.take i) [] (fun r hr => hok' r (List.mem_of_mem_take hr)) (fun q hq => by simp at hq)
    have hrb := badR_not (hok' l'[i] (List.getElem_mem hi'))
    rw [List.length_take, List.length_nil] at hml
    refine aw_sr rfl ?_  -- r12 @version.go:48
    simp only [go_sem, reduceIte, Nat.reduceEqDiff, Nat.reduceAdd, Nat.reduceMul, Nat.reduceSub, Nat.reduceLeDiff, Nat.reduceLT, reduceCtorEq, hbH, hr1, eq_true hr2, cRg, Nat.zero_add, Int.toNat_natCast]
    refine ⟨⟨by omega, by omega⟩, ?_⟩
    generalize l'[i] = r at hft hrb
    intro b8 hb8
    refine aw_box1 hb8 fun B1 hsb h8 => ?_
    replace hB := hB.sub hsb
    replace hs := sub_trans hs hsb
    clear hbH
    rcases List.eq_nil_or_concat ((l'.take i).foldl mstep []) with hsp | ⟨o, q, hsp⟩
    · have hX : X = .sl [] true .full := by
        rcases hB with ⟨_, h⟩ | ⟨h, _⟩
        · exact h
        · rw [hsp] at h; exact absurd rfl h
      subst hX
      rw [hsp] at hB hft
      have d00 : decide ((0 : Int) < 0) = false := rfl
      refine aw_sr rfl ?_  -- r13
      simp only [go_sem, reduceIte, Nat.reduceEqDiff, Nat.reduceAdd, Nat.reduceMul, Nat.reduceSub, Nat.reduceLeDiff, Nat.reduceLT, reduceCtorEq, List.length_nil, Int.natCast_zero]
      refine aw_srd [(0,true),(1,true),(2,true),(3,true),(4,true),(5,true),(6,true),(7,true),(8,true),(9,true),(10,true),(11,true),(12,true),(13,true)] mixed rfl (by kernel_rfl) ?_  -- r14
      simp only [go_sem, reduceIte, Nat.reduceEqDiff, Nat.reduceAdd, Nat.reduceMul, Nat.reduceSub, Nat.reduceLeDiff, Nat.reduceLT, reduceCtorEq, h8, d00, true_imp_iff, false_imp_iff, Bool.false_eq_true]
      repeat' first
        | (refine goG_off fun v => ?_
           simp only [go_sem, reduceIte, Nat.reduceEqDiff, Nat.reduceAdd, Nat.reduceMul, Nat.reduceSub, Nat.reduceLeDiff, Nat.reduceLT, reduceCtorEq, h8, d00, true_imp_iff, false_imp_iff, Bool.false_eq_true])
      refine aw_if rfl (fun h => by simp at h) (fun h => ?_)
      refine aw_rgk 3 rfl rfl rfl ?_  -- r16
      simp only [go_sem, reduceIte, Nat.reduceEqDiff, Nat.reduceAdd, Nat.reduceMul, Nat.reduceSub, Nat.reduceLeDiff, Nat.reduceLT, reduceCtorEq, h8]
      refine ⟨_, step_buf (k := 16) (ys := [eRg r]) hB (fun b hb => sub_none hs hb) rfl rfl ty_sl180 (by simp only [go_sem, reduceIte, Nat.reduceEqDiff, Nat.reduceAdd, Nat.reduceMul, Nat.reduceSub, Nat.reduceLeDiff, Nat.reduceLT, reduceCtorEq, srcV, eRg, cRg]) ty_by189 ty_ze189 ⟨rfl, rfl, by decide, wid_one rfl, by simp [sca, eRg, cRg, scalarV], by simp, by simp, by simp⟩, fun x H' ⟨hB, hD, hg⟩ => ?_⟩
      refine ⟨(x, H'), ⟨?_, fun b o hb => by rw [hg b (by rw [hb]; simp)]; exact hs _ _ hb⟩, ⟨rfl, rfl, rfl, rfl⟩, sub_rfl⟩
      rw [hft, mstep_nil]; exact hB
    · rw [List.concat_eq_append] at hsp
      have hln : ((l'.take i).foldl mstep []).length = o.length + 1 := by rw [hsp]; simp
      have hqb := badR_not (hbd q (by rw [hsp]; simp))
      rw [hsp] at hft
      rw [hsp, List.map_append, List.map_cons, List.map_nil] at hB
      obtain ⟨b9, c9, rfl, hlc9⟩ := hB.ms (by simp)
      obtain ⟨cs, c1, c2, c3, c4, c5, c6⟩ := hB.last
      have hq := c4 1 _ (show (eRg q)[1]? = some (.int .i64 q.2) from rfl)
      rw [List.length_map] at c4 c5 c6 hq
      have hm : (o.map eRg ++ [eRg q]).length = o.length + 1 := by simp
      rw [hm] at hB hlc9 c6 ⊢
      have hd0 : decide ((0 : Int) < ((o.length + 1 : Nat) : Int)) = true := by rw [decide_eq_true_eq]; omega
      have hwl : IntKind.i64.wrap (((o.length + 1 : Nat) : Int) - 1) = ((o.length : Nat) : Int) := by rw [wrap64 (by omega) (by omega)]; omega
      have hwq : IntKind.i64.wrap (q.2 + 1) = q.2 + 1 := wrap64 (by omega) (by omega)
      refine aw_sr rfl ?_  -- r13
      simp only [go_sem, reduceIte, Nat.reduceEqDiff, Nat.reduceAdd, Nat.reduceMul, Nat.reduceSub, Nat.reduceLeDiff, Nat.reduceLT, reduceCtorEq]
      refine aw_srd [(0,true),(1,true),(2,true),(3,true),(4,true),(5,true),(6,true),(7,true),(8,true),(9,true),(10,true),(11,true),(12,true),(13,true)] mixed rfl (by kernel_rfl) ?_  -- r14
      simp only [go_sem, reduceIte, Nat.reduceEqDiff, Nat.reduceAdd, Nat.reduceMul, Nat.reduceSub, Nat.reduceLeDiff, Nat.reduceLT, reduceCtorEq, h8, c1, hq, hd0, hwl, hwq, Int.toNat_natCast, Nat.zero_add]
      refine ⟨fun _ => ⟨by omega, by omega⟩, ?_⟩
      refine aw_if rfl (fun h => ?_) (fun h => ?_)
      · have hle : r.1 ≤ q.2 + 1 := by simpa using h
        have hmx : (if r.2 > q.2 then r.2 else q.2) = max q.2 r.2 := by split <;> omega
        refine aw_rgd [(0,true),(1,true),(2,true),(3,true),(4,true),(5,true),(6,true),(7,true),(8,true),(9,true),(10,true),(11,true),(12,true),(13,true),(14,false)] mixed rfl (by kernel_rfl) ?_  -- r15
        simp only [go_sem, reduceIte, Nat.reduceEqDiff, Nat.reduceAdd, Nat.reduceMul, Nat.reduceSub, Nat.reduceLeDiff, Nat.reduceLT, reduceCtorEq, h8, c1, hq, hwl, hmx, Int.toNat_natCast, Nat.zero_add]
        refine ⟨⟨by omega, by omega⟩, ⟨by omega, by omega⟩, by omega, ?_⟩
        refine ⟨(.ms b9 0 (o.length + 1) c9, Go.Proofs.YtacecjfpkdijpaaV.hset B1 b9 (.vars (cs.set (o.length * 2 + 1) (.int .i64 (max q.2 r.2))))), ⟨?_, sub_hset_fresh c2 hs⟩, ⟨rfl, rfl, rfl, rfl⟩, sub_rfl⟩
        have hB := c6 1 (.int .i64 (max q.2 r.2)) (by decide)
        rw [hft, mstep_snoc, if_pos hle, List.map_append, List.map_cons, List.map_nil]
        exact hB
      · have hle : ¬ r.1 ≤ q.2 + 1 := by simpa using h
        refine aw_rgk 3 rfl rfl rfl ?_  -- r16
        simp only [go_sem, reduceIte, Nat.reduceEqDiff, Nat.reduceAdd, Nat.reduceMul, Nat.reduceSub, Nat.reduceLeDiff, Nat.reduceLT, reduceCtorEq, h8]
        refine ⟨_, step_buf (k := 16) (ys := [eRg r]) hB (fun b hb => sub_none hs hb) rfl rfl ty_sl180 (by simp only [go_sem, reduceIte, Nat.reduceEqDiff, Nat.reduceAdd, Nat.reduceMul, Nat.reduceSub, Nat.reduceLeDiff, Nat.reduceLT, reduceCtorEq, srcV, eRg, cRg]) ty_by189 ty_ze189 ⟨rfl, rfl, by decide, wid_one rfl, by simp [sca, eRg, cRg, scalarV], by simp; omega, by simp; omega, by simp⟩, fun x H' ⟨hB, hD, hg⟩ => ?_⟩
        refine ⟨(x, H'), ⟨?_, fun b o hb => by rw [hg b (by rw [hb]; simp)]; exact hs _ _ hb⟩, ⟨rfl, rfl, rfl, rfl⟩, sub_rfl⟩
        rw [hft, mstep_snoc, if_neg hle, List.map_append, List.map_append, List.map_cons, List.map_nil, List.map_cons, List.map_nil]; exact hB
  intro ⟨X, H⟩ ⟨hB, hs⟩
  simp only at hB hs ⊢
  refine hK2 _ _ ?_
  rw [List.take_of_length_le (by omega)] at hB
  have hml := mfold_len l' []
  rw [List.length_nil] at hml
  generalize l'.foldl mstep [] = m at hB hml hset
  have hL : lenV Try.prog H 180 X = ok (.int .i64 ((m.length : Nat) : Int)) := by
    rcases hB with ⟨h1, rfl⟩ | ⟨h1, b, c, rfl, _⟩
    · have : m = [] := by simpa using h1
      subst this; rfl
    · rw [List.length_map]; rfl
  refine aw_seq fun K3 hK3 => ?_
  refine aw_sr rfl ?_  -- r18 @version.go:55
  simp only [go_sem, reduceIte, Nat.reduceEqDiff, Nat.reduceAdd, Nat.reduceMul, Nat.reduceSub, Nat.reduceLeDiff, Nat.reduceLT, reduceCtorEq, ↓hL]
  refine aw_if rfl (fun h => ?_) (fun h => ?_)
  · have hl : 50 < m.length := by rw [decide_eq_true_eq] at h; omega
    refine aw_sr rfl ?_  -- r19
    simp only [go_sem, reduceIte, Nat.reduceEqDiff, Nat.reduceAdd, Nat.reduceMul, Nat.reduceSub, Nat.reduceLeDiff, Nat.reduceLT, reduceCtorEq]
    refine aw_ret ⟨trivial, _, rfl, ?_⟩
    rw [hset, toldF_nil hl]
    exact ⟨_, _, Turn.refl _ _, .tupL (.cons .untag (.cons (Vle.refl _) .nil)), sub_trans hs2 hs⟩
  have hl : ¬ 50 < m.length := by rw [decide_eq_false_iff_not] at h; omega
  refine aw_skip (hK3 _ _ ?_)
  refine aw_sr rfl ?_  -- r20
  simp only [go_sem, reduceIte, Nat.reduceEqDiff, Nat.reduceAdd, Nat.reduceMul, Nat.reduceSub, Nat.reduceLeDiff, Nat.reduceLT, reduceCtorEq]
  refine aw_ret ⟨trivial, _, rfl, ?_⟩
  rw [hset, toldF_ok hl]
  exact turn_rg (hB.base hs2) (sub_trans hs2 hs) 0
end Go.Proofs.Ytacecjfpkdijpaa

/- Sets of versions: what is in none, and in both, as lists of ranges. No conditions. -/
set_option linter.unusedSimpArgs false
set_option linter.unusedVariables false
namespace Go.Proofs.Ytacecjfpkdijpaa
open Go.Proofs.YtacecjfpkdijpaaV
theorem Canon.mono : ∀ {l : List Rg} {lo lo' : Int}, lo' ≤ lo → Canon lo l → Canon lo' l
  | [], _, _, _, _ => trivial
  | r :: l, lo, lo', h, ⟨h1, h2, h3⟩ => ⟨by omega, h2, h3⟩
theorem canon_append : ∀ {l m : List Rg} {lo hi : Int}, Canon lo l → (∀ r ∈ l, r.2 ≤ hi) → Canon (hi + 2) m → lo ≤ hi + 2 → Canon lo (l ++ m)
  | [], m, lo, hi, _, _, hm, h => hm.mono h
  | r :: l, m, lo, hi, ⟨h1, h2, h3⟩, hb, hm, h => ⟨h1, h2, canon_append h3 (fun x hx => hb x (by simp [hx])) hm (by have := hb r (by simp); omega)⟩
theorem faultL_ok : ∀ {l : List Rg} {p : Option Rg}, faultL p l = 0 → (∀ r ∈ l, badR r = false) ∧ Canon (match p with | none => 1 | some q => q.2 + 2) l
  | [], p, _ => ⟨by simp, by cases p <;> trivial⟩
  | r :: l, p, h => by
    rw [faultL_cons] at h
    by_cases hb : badR r = true
    · rw [if_pos hb] at h; omega
    · rw [if_neg hb] at h
      have hb : badR r = false := by simpa using hb
      have hr := badR_not hb
      by_cases hn : nearR p r = true
      · rw [if_pos hn] at h; omega
      · rw [if_neg hn] at h
        obtain ⟨i1, i2⟩ := faultL_ok h
        refine ⟨fun x hx => ?_, ?_, hr.2.1, i2⟩
        · rcases List.mem_cons.1 hx with rfl | hx
          · exact hb
          · exact i1 x hx
        · cases p with
          | none => exact hr.1
          | some q => simp only [nearR, decide_eq_true_eq] at hn; simp only; omega
theorem faultV_ok {l : List Rg} (h : faultV l = 0) : l.length ≤ 50 ∧ (∀ r ∈ l, badR r = false) ∧ Canon 1 l := by
  unfold faultV at h
  split at h
  · omega
  · obtain ⟨h1, h2⟩ := faultL_ok h
    exact ⟨by omega, h1, h2⟩
/-! ### in none -/
def notL : Int → List Rg → List Rg
  | at', [] => if at' ≤ 9999 then [(at', 9999)] else []
  | at', r :: l => (if at' < r.1 then [(at', r.1 - 1)] else []) ++ notL (r.2 + 1) l
theorem canon_not : ∀ {l : List Rg} {a : Int}, Canon a l → Canon a (notL a l)
  | [], a, _ => by
    rw [notL]
    split
    · exact ⟨Int.le_refl _, by simp only; omega, trivial⟩
    · trivial
  | r :: l, a, ⟨h1, h2, h3⟩ => by
    have ih := canon_not (h3.mono (show r.2 + 1 ≤ r.2 + 2 by omega))
    rw [notL]
    split
    · exact ⟨Int.le_refl _, by simp only; omega, ih.mono (by simp only; omega)⟩
    · exact ih.mono (by omega)
theorem inR_not (v : Int) : ∀ {l : List Rg} {a : Int}, Canon a l → (∀ r ∈ l, r.2 ≤ 9999) → inR v (notL a l) = (decide (a ≤ v) && decide (v ≤ 9999) && !inR v l)
  | [], a, _, _ => by
    rw [notL, inR_nil]
    split
    · rw [inR_cons, inR_nil]; simp
    · rw [inR_nil, Bool.eq_iff_iff]; simp; omega
  | r :: l, a, ⟨h1, h2, h3⟩, hb => by
    have ih := inR_not v (h3.mono (show r.2 + 1 ≤ r.2 + 2 by omega)) (fun x hx => hb x (by simp [hx]))
    have hr := hb r (by simp)
    rw [notL, inR_append, ih, inR_cons]
    have hlow : v < r.2 + 2 → inR v l = false := fun h => h3.low h
    have e1 : inR v (if a < r.1 then [(a, r.1 - 1)] else []) = (decide (a ≤ v) && decide (v < r.1)) := by
      split
      · rw [inR_cons, inR_nil, Bool.or_false, Bool.eq_iff_iff]; simp; omega
      · rw [inR_nil, Bool.eq_iff_iff]; simp; omega
    rw [e1]
    by_cases q : v < r.2 + 2
    · rw [hlow q, Bool.eq_iff_iff]; simp; omega
    · rw [show decide (v < r.1) = false from decide_eq_false (by omega), show decide (v ≤ r.2) = false from decide_eq_false (by omega), show decide (r.2 + 1 ≤ v) = true from decide_eq_true (by omega), show decide (a ≤ v) = true from decide_eq_true (by omega)]
      simp
theorem not_spans {l : List Rg} (h : faultV l = 0) {n : Nat} (hn : n = 9999) : notL 1 l = spans (fun v => !inR v l) n := by
  obtain ⟨_, h2, h3⟩ := faultV_ok h
  obtain ⟨s1, s2, _⟩ := spans_ok (fun v => !inR v l) n
  refine canon_unique (canon_not h3) s1 fun v => ?_
  rw [inR_not v h3 (fun r hr => by have := badR_not (h2 r hr); omega), s2, show (n : Int) = 9999 by omega]
theorem notL_len : ∀ (l : List Rg) (a : Int), (notL a l).length ≤ l.length + 1
  | [], a => by rw [notL]; split <;> simp
  | r :: l, a => by
    have := notL_len l (r.2 + 1)
    rw [notL, List.length_append, List.length_cons]
    split
    · simp; omega
    · simp; omega
/-! ### in both -/
def int1 (x y : Rg) : List Rg := if max x.1 y.1 ≤ min x.2 y.2 then [(max x.1 y.1, min x.2 y.2)] else []
def intR (x : Rg) (b : List Rg) : List Rg := b.flatMap (int1 x)
def intL (a b : List Rg) : List Rg := a.flatMap fun x => intR x b
theorem intR_cons (x y : Rg) (b : List Rg) : intR x (y :: b) = int1 x y ++ intR x b := by rw [intR, List.flatMap_cons]; rfl
theorem intL_cons (x : Rg) (a b : List Rg) : intL (x :: a) b = intR x b ++ intL a b := by rw [intL, List.flatMap_cons]; rfl
theorem canon_intR (x : Rg) : ∀ {b : List Rg} {lo : Int}, Canon lo b → Canon (max lo x.1) (intR x b)
  | [], _, _ => trivial
  | y :: b, lo, ⟨h1, h2, h3⟩ => by
    have ih := canon_intR x h3
    rw [intR_cons]
    unfold int1
    split
    · exact ⟨by simp only; omega, by simp only; omega, ih.mono (by simp only; omega)⟩
    · exact ih.mono (by omega)
theorem intR_le (x : Rg) (b : List Rg) : ∀ r ∈ intR x b, r.2 ≤ x.2 := by
  intro r hr
  obtain ⟨y, _, h⟩ := List.mem_flatMap.1 hr
  unfold int1 at h
  split at h
  · simp at h; subst h; simp only; omega
  · cases h
theorem inR_intR (v : Int) (x : Rg) : ∀ (b : List Rg), inR v (intR x b) = (decide (x.1 ≤ v) && decide (v ≤ x.2) && inR v b)
  | [] => by rw [inR_nil, Bool.and_false]; rfl
  | y :: b => by
    rw [intR_cons, inR_append, inR_intR v x b, inR_cons]
    have e : inR v (int1 x y) = (decide (x.1 ≤ v) && decide (v ≤ x.2) && (decide (y.1 ≤ v) && decide (v ≤ y.2))) := by
      unfold int1
      split
      · rw [inR_cons, inR_nil, Bool.or_false, Bool.eq_iff_iff]; simp; omega
      · rw [inR_nil, Bool.eq_iff_iff]; simp; omega
    rw [e, Bool.and_or_distrib_left]
theorem canon_intL {b : List Rg} (hb : Canon 1 b) : ∀ {a : List Rg} {lo : Int}, Canon lo a → Canon lo (intL a b)
  | [], _, _ => trivial
  | x :: a, lo, ⟨h1, h2, h3⟩ => by
    rw [intL_cons]
    exact canon_append ((canon_intR x hb).mono (by omega)) (intR_le x b) (canon_intL hb h3) (by omega)
theorem inR_intL (v : Int) (b : List Rg) : ∀ (a : List Rg), inR v (intL a b) = (inR v a && inR v b)
  | [] => by rw [inR_nil, Bool.false_and]; rfl
  | x :: a => by
    rw [intL_cons, inR_append, inR_intR, inR_intL v b a, inR_cons, Bool.and_or_distrib_right]
theorem int1_len (x y : Rg) : (int1 x y).length ≤ 1 := by unfold int1; split <;> simp
theorem intR_len (x : Rg) : ∀ (b : List Rg), (intR x b).length ≤ b.length
  | [] => by simp [intR]
  | y :: b => by
    have := intR_len x b; have := int1_len x y
    rw [intR_cons, List.length_append, List.length_cons]; omega
theorem intL_len (b : List Rg) : ∀ (a : List Rg), (intL a b).length ≤ a.length * b.length
  | [] => by simp [intL]
  | x :: a => by
    have := intL_len b a; have := intR_len x b
    rw [intL_cons, List.length_append, List.length_cons, Nat.add_mul, Nat.one_mul]; omega
def twoP (a b : List Rg) (both : Bool) (v : Int) : Bool := inR v a && inR v b || !both && (inR v a || inR v b)
theorem spans_congr2 {p q : Int → Bool} {n : Nat} (h : ∀ v, 1 ≤ v → v ≤ (n : Int) → p v = q v) : spans p n = spans q n := by
  induction n with
  | zero => rfl
  | succ n ih => rw [spans_succ, spans_succ, ih fun v h1 h2 => h v h1 (by omega), h ((n : Int) + 1) (by omega) (by omega)]
theorem int_spans {a b : List Rg} (ha : faultV a = 0) (hb : faultV b = 0) {n : Nat} (hn : n = 9999) : intL a b = spans (twoP a b true) n := by
  obtain ⟨_, a2, a3⟩ := faultV_ok ha
  obtain ⟨_, b2, b3⟩ := faultV_ok hb
  obtain ⟨s1, s2, _⟩ := spans_ok (twoP a b true) n
  refine canon_unique (canon_intL b3 a3) s1 fun v => ?_
  rw [inR_intL, s2, twoP]
  have hin : inR v a = true → 1 ≤ v ∧ v ≤ 9999 := fun h => by
    obtain ⟨r, hr, h1, h2⟩ := inR_iff.1 h
    have := badR_not (a2 r hr); omega
  cases h : inR v a with
  | false => simp
  | true =>
    obtain ⟨h1, h2⟩ := hin h
    rw [decide_eq_true h1, decide_eq_true (show v ≤ (n : Int) by omega)]
    simp
theorem or_spans (a b : List Rg) (n : Nat) : spans (fun v => inR v (a ++ b)) n = spans (twoP a b false) n :=
  spans_congr2 fun v _ _ => by
    rw [inR_append, twoP]
    cases inR v a <;> cases inR v b <;> rfl
end Go.Proofs.Ytacecjfpkdijpaa

/- The reference's algebra of sets of versions. No conditions but sizes. -/
set_option linter.unusedSimpArgs false
set_option linter.unusedVariables false
namespace Go.Proofs.Ytacecjfpkdijpaa
open Go.Proofs.YtacecjfpkdijpaaV
set_option maxHeartbeats 1000000
set_option maxRecDepth 100000
def notR (l : List Rg) : List Rg × Int := if faultV l ≠ 0 then ([], faultV l) else toldF (spans (fun v => !inR v l) 9999)
def twoR (a b : List Rg) (both : Bool) : List Rg × Int := if faultV a ≠ 0 then ([], faultV a) else if faultV b ≠ 0 then ([], faultV b) else toldF (spans (twoP a b both) 9999)
theorem bits_ok {l : List Rg} (h : faultV l = 0) : ∀ r ∈ l, 1 ≤ r.1 ∧ r.2 ≤ 9999 := fun r hr => by
  have := badR_not ((faultV_ok h).2.1 r hr); omega
theorem q_VersionNot1 (b : Nat) (g : Nat → Bool) (v : Int) (h1 : 1 ≤ v) (h2 : v < 10000) : QuietOn Try.prog [(b, .vars [.sl (arrB g) false .no])] 157 [.int .i64 v, .ptr b 0] (.bool (!g v.toNat)) := by
  refine QuietOn.weak fun G hG => ?_
  have h3 := hG _ _ (hget_self _ _ _)
  refine acall_body (rs := [.tmp 3]) Try.func157 rfl rfl Try.ntmps157 (by kernel_rfl) (Nat.le_of_ble_eq_true rfl) ?_
  refine aw_sr rfl ?_  -- r0 @keep.go:471
  simp only [go_sem, reduceIte, Nat.reduceEqDiff, Nat.reduceAdd, Nat.reduceMul, Nat.reduceSub, Nat.reduceLeDiff, Nat.reduceLT, reduceCtorEq]
  refine aw_sr rfl ?_  -- r1 @keep.go:471
  simp only [go_sem, reduceIte, Nat.reduceEqDiff, Nat.reduceAdd, Nat.reduceMul, Nat.reduceSub, Nat.reduceLeDiff, Nat.reduceLT, reduceCtorEq, h3, arrB_get (g := g) (show v.toNat < 10001 by omega), arrB_len]
  refine ⟨⟨by omega, by omega, wid_arrB _⟩, ?_⟩
  exact aw_ret ⟨trivial, _, rfl, Vle.refl _, sub_rfl⟩
theorem q_VersionNot (l : List Rg) (nl : Bool) (t : Tag) (hl : l.length ≤ 1048576) : Quiet Try.prog 85 [.sl (l.map eRg) nl t] (tRg (notR l)) := by
  refine Quiet.weak fun G => ?_
  refine acall_body (rs := [.tmp 2, .tmp 3]) Try.func85 rfl rfl Try.ntmps85 (by kernel_rfl) (Nat.le_of_ble_eq_true rfl) ?_
  refine aw_sr rfl ?_  -- r0 @keep.go:466
  simp only [go_sem, reduceIte, Nat.reduceEqDiff, Nat.reduceAdd, Nat.reduceMul, Nat.reduceSub, Nat.reduceLeDiff, Nat.reduceLT, reduceCtorEq]
  refine aw_seq fun K1 hK1 => ?_
  refine aw_sr rfl ?_  -- r1 @keep.go:467
  simp only [go_sem, reduceIte, Nat.reduceEqDiff, Nat.reduceAdd, Nat.reduceMul, Nat.reduceSub, Nat.reduceLeDiff, Nat.reduceLT, reduceCtorEq]
  refine goA_q (q_VersionFault l nl t hl) ?_
  simp only [go_sem, reduceIte, Nat.reduceEqDiff, Nat.reduceAdd, Nat.reduceMul, Nat.reduceSub, Nat.reduceLeDiff, Nat.reduceLT, reduceCtorEq]
  refine aw_sr rfl ?_  -- r2 @keep.go:467
  simp only [go_sem, reduceIte, Nat.reduceEqDiff, Nat.reduceAdd, Nat.reduceMul, Nat.reduceSub, Nat.reduceLeDiff, Nat.reduceLT, reduceCtorEq]
  refine aw_if rfl (fun h => ?_) (fun h => ?_)
  · have hf : faultV l ≠ 0 := by simpa using h
    refine aw_sr rfl ?_  -- r3 @keep.go:468
    simp only [go_sem, reduceIte, Nat.reduceEqDiff, Nat.reduceAdd, Nat.reduceMul, Nat.reduceSub, Nat.reduceLeDiff, Nat.reduceLT, reduceCtorEq]
    refine aw_ret ⟨trivial, _, rfl, ?_, sub_rfl⟩
    rw [notR, if_pos hf]
    exact .tupL (.cons .untag (.cons (Vle.refl _) .nil))
  have hf : faultV l = 0 := by simpa using h
  refine aw_skip (hK1 _ _ ?_)
  refine aw_sr rfl ?_  -- r4 @keep.go:470
  simp only [go_sem, reduceIte, Nat.reduceEqDiff, Nat.reduceAdd, Nat.reduceMul, Nat.reduceSub, Nat.reduceLeDiff, Nat.reduceLT, reduceCtorEq]
  refine goA_q (q_bits l nl t hl (bits_ok hf)) ?_
  simp only [go_sem, reduceIte, Nat.reduceEqDiff, Nat.reduceAdd, Nat.reduceMul, Nat.reduceSub, Nat.reduceLeDiff, Nat.reduceLT, reduceCtorEq]
  intro b5 hb5
  refine aw_box1 hb5 fun B1 hs1 h5 => ?_
  have hsB := hs1
  refine aw_sr rfl ?_  -- r5 @keep.go:471
  simp only [go_sem, reduceIte, Nat.reduceEqDiff, Nat.reduceAdd, Nat.reduceMul, Nat.reduceSub, Nat.reduceLeDiff, Nat.reduceLT, reduceCtorEq, h5]
  refine goA_by (q_ranges (fun v => !inR v l) (fun v h1 h2 => (by have := q_VersionNot1 b5 (fun j => inR (j : Int) l) v h1 h2; rw [Int.toNat_of_nonneg (by omega)] at this; exact this)) B1 (sub_one h5)) fun y H5 hy => ?_
  obtain ⟨rfl, rfl⟩ := hy
  simp only [go_sem, reduceIte, Nat.reduceEqDiff, Nat.reduceAdd, Nat.reduceMul, Nat.reduceSub, Nat.reduceLeDiff, Nat.reduceLT, reduceCtorEq]
  refine aw_ret ⟨trivial, _, rfl, ?_, hsB⟩
  rw [notR, if_neg (by simp [hf])]
  exact Vle.refl _
theorem q_VersionTwo1 (b1 b2 b3 : Nat) (x y : Nat → Bool) (both : Bool) (v : Int) (h1 : 1 ≤ v) (h2 : v < 10000) (n12 : ¬ b1 = b2) (n13 : ¬ b1 = b3) (n23 : ¬ b2 = b3) :
    QuietOn Try.prog [(b1, .vars [.sl (arrB x) false .no]), (b2, .vars [.sl (arrB y) false .no]), (b3, .vars [.bool both])] 159 [.int .i64 v, .ptr b1 0, .ptr b2 0, .ptr b3 0] (.bool (x v.toNat && y v.toNat || !both && (x v.toNat || y v.toNat))) := by
  refine QuietOn.weak fun G hG => ?_
  have g1 := hG _ _ (hget_self _ _ _)
  have g2 := hG b2 _ (by rw [hget_cons_ne n12]; exact hget_self _ _ _)
  have g3 := hG b3 _ (by rw [hget_cons_ne n13, hget_cons_ne n23]; exact hget_self _ _ _)
  have a1 := arrB_get (g := x) (show v.toNat < 10001 by omega)
  have a2 := arrB_get (g := y) (show v.toNat < 10001 by omega)
  generalize x v.toNat = p at a1
  generalize y v.toNat = q at a2
  have bd : (0 ≤ v ∧ v < ((10001 : Nat) : Int) ∧ wid 1 (arrB x)) = True := eq_true ⟨by omega, by omega, wid_arrB _⟩
  have bd2 : (0 ≤ v ∧ v < ((10001 : Nat) : Int) ∧ wid 1 (arrB y)) = True := eq_true ⟨by omega, by omega, wid_arrB _⟩
  refine acall_body (rs := [.tmp 5]) Try.func159 rfl rfl Try.ntmps159 (by kernel_rfl) (Nat.le_of_ble_eq_true rfl) ?_
  refine aw_sr rfl ?_  -- r0 @keep.go:483
  simp only [go_sem, reduceIte, Nat.reduceEqDiff, Nat.reduceAdd, Nat.reduceMul, Nat.reduceSub, Nat.reduceLeDiff, Nat.reduceLT, reduceCtorEq]
  refine aw_sr rfl ?_  -- r1 @keep.go:483
  cases p <;> cases q <;> cases both
  all_goals (simp only [go_sem, reduceIte, Nat.reduceEqDiff, Nat.reduceAdd, Nat.reduceMul, Nat.reduceSub, Nat.reduceLeDiff, Nat.reduceLT, reduceCtorEq, g1, g2, g3, a1, a2, arrB_len, bd, bd2, true_imp_iff, false_imp_iff, Bool.false_eq_true])
  all_goals (repeat' first
    | (refine goG_off fun v => ?_
       simp only [go_sem, reduceIte, Nat.reduceEqDiff, Nat.reduceAdd, Nat.reduceMul, Nat.reduceSub, Nat.reduceLeDiff, Nat.reduceLT, reduceCtorEq, g1, g2, g3, a1, a2, arrB_len, bd, bd2, true_imp_iff, false_imp_iff, Bool.false_eq_true]))
  all_goals exact aw_ret ⟨trivial, _, rfl, Vle.refl _, sub_rfl⟩
theorem q_VersionTwo (a b : List Rg) (n1 n2 : Bool) (t1 t2 : Tag) (both : Bool) (ha : a.length ≤ 1048576) (hb : b.length ≤ 1048576) : Quiet Try.prog 87 [.sl (a.map eRg) n1 t1, .sl (b.map eRg) n2 t2, .bool both] (tRg (twoR a b both)) := by
  refine Quiet.weak fun G => ?_
  refine acall_body (rs := [.tmp 6, .tmp 7]) Try.func87 rfl rfl Try.ntmps87 (by kernel_rfl) (Nat.le_of_ble_eq_true rfl) ?_
  refine aw_sr rfl ?_  -- r0 @keep.go:475
  simp only [go_sem, reduceIte, Nat.reduceEqDiff, Nat.reduceAdd, Nat.reduceMul, Nat.reduceSub, Nat.reduceLeDiff, Nat.reduceLT, reduceCtorEq]
  intro b5 hb5
  refine aw_box1 hb5 fun B1 hs1 h5 => ?_
  have hsB := hs1
  refine aw_seq fun K2 hK2 => ?_
  refine aw_sr rfl ?_  -- r1 @keep.go:476
  simp only [go_sem, reduceIte, Nat.reduceEqDiff, Nat.reduceAdd, Nat.reduceMul, Nat.reduceSub, Nat.reduceLeDiff, Nat.reduceLT, reduceCtorEq]
  refine goA_q (q_VersionFault a n1 t1 ha) ?_
  simp only [go_sem, reduceIte, Nat.reduceEqDiff, Nat.reduceAdd, Nat.reduceMul, Nat.reduceSub, Nat.reduceLeDiff, Nat.reduceLT, reduceCtorEq]
  refine aw_sr rfl ?_  -- r2 @keep.go:476
  simp only [go_sem, reduceIte, Nat.reduceEqDiff, Nat.reduceAdd, Nat.reduceMul, Nat.reduceSub, Nat.reduceLeDiff, Nat.reduceLT, reduceCtorEq]
  refine aw_if rfl (fun h => ?_) (fun h => ?_)
  · have hf : faultV a ≠ 0 := by simpa using h
    refine aw_sr rfl ?_  -- r3 @keep.go:477
    simp only [go_sem, reduceIte, Nat.reduceEqDiff, Nat.reduceAdd, Nat.reduceMul, Nat.reduceSub, Nat.reduceLeDiff, Nat.reduceLT, reduceCtorEq]
    refine aw_ret ⟨trivial, _, rfl, ?_, hsB⟩
    rw [twoR, if_pos hf]
    exact .tupL (.cons .untag (.cons (Vle.refl _) .nil))
  have hf : faultV a = 0 := by simpa using h
  refine aw_skip (hK2 _ _ ?_)
  refine aw_seq fun K3 hK3 => ?_
  refine aw_sr rfl ?_  -- r4 @keep.go:479
  simp only [go_sem, reduceIte, Nat.reduceEqDiff, Nat.reduceAdd, Nat.reduceMul, Nat.reduceSub, Nat.reduceLeDiff, Nat.reduceLT, reduceCtorEq]
  refine goA_q (q_VersionFault b n2 t2 hb) ?_
  simp only [go_sem, reduceIte, Nat.reduceEqDiff, Nat.reduceAdd, Nat.reduceMul, Nat.reduceSub, Nat.reduceLeDiff, Nat.reduceLT, reduceCtorEq]
  refine aw_sr rfl ?_  -- r5 @keep.go:479
  simp only [go_sem, reduceIte, Nat.reduceEqDiff, Nat.reduceAdd, Nat.reduceMul, Nat.reduceSub, Nat.reduceLeDiff, Nat.reduceLT, reduceCtorEq]
  refine aw_if rfl (fun h => ?_) (fun h => ?_)
  · have hg : faultV b ≠ 0 := by simpa using h
    refine aw_sr rfl ?_  -- r6 @keep.go:480
    simp only [go_sem, reduceIte, Nat.reduceEqDiff, Nat.reduceAdd, Nat.reduceMul, Nat.reduceSub, Nat.reduceLeDiff, Nat.reduceLT, reduceCtorEq]
    refine aw_ret ⟨trivial, _, rfl, ?_, hsB⟩
    rw [twoR, if_neg (by simp [hf]), if_pos hg]
    exact .tupL (.cons .untag (.cons (Vle.refl _) .nil))
  have hg : faultV b = 0 := by simpa using h
  refine aw_skip (hK3 _ _ ?_)
  refine aw_sr rfl ?_  -- r7 @keep.go:482
  simp only [go_sem, reduceIte, Nat.reduceEqDiff, Nat.reduceAdd, Nat.reduceMul, Nat.reduceSub, Nat.reduceLeDiff, Nat.reduceLT, reduceCtorEq]
  refine goA_q (q_bits a n1 t1 ha (bits_ok hf)) ?_
  simp only [go_sem, reduceIte, Nat.reduceEqDiff, Nat.reduceAdd, Nat.reduceMul, Nat.reduceSub, Nat.reduceLeDiff, Nat.reduceLT, reduceCtorEq]
  refine goA_q (q_bits b n2 t2 hb (bits_ok hg)) ?_
  simp only [go_sem, reduceIte, Nat.reduceEqDiff, Nat.reduceAdd, Nat.reduceMul, Nat.reduceSub, Nat.reduceLeDiff, Nat.reduceLT, reduceCtorEq]
  intro b10 hb10
  intro b11 hb11
  have n510 := ne_of h5 hb10
  obtain ⟨m1, m2⟩ := fresh_cons hb11
  have n511 := ne_of h5 m2
  simp only [go_sem, reduceIte, Nat.reduceEqDiff, Nat.reduceAdd, Nat.reduceMul, Nat.reduceSub, Nat.reduceLeDiff, Nat.reduceLT, reduceCtorEq, m1]
  have hb11' : hget ((b10, .vars [V.sl (arrB fun j => inR (j : Int) a) false Tag.no]) :: B1) b11 = none := by first | (rw [hget_cons_ne m1]; exact m2) | (rw [hget_cons_ne (fun e => m1 e.symm)]; exact m2)
  refine aw_box2 hb10 hb11' fun B2 hs2 h10 h11 n1011 _ => ?_
  replace h5 := hs2 _ _ h5
  replace hsB := sub_trans hsB hs2
  refine aw_sr rfl ?_  -- r8 @keep.go:483
  simp only [go_sem, reduceIte, Nat.reduceEqDiff, Nat.reduceAdd, Nat.reduceMul, Nat.reduceSub, Nat.reduceLeDiff, Nat.reduceLT, reduceCtorEq, h5, h10, h11]
  have hG3 : Sub [(b10, .vars [.sl (arrB fun j => inR (j : Int) a) false .no]), (b11, .vars [.sl (arrB fun j => inR (j : Int) b) false .no]), (b5, .vars [.bool both])] B2 := fun k o hk => by
    rw [hget_cons] at hk
    split at hk
    · rename_i e; subst e; cases hk; exact h10
    · rw [hget_cons] at hk
      split at hk
      · rename_i e; subst e; cases hk; exact h11
      · rw [hget_cons] at hk
        split at hk
        · rename_i e; subst e; cases hk; exact h5
        · cases hk
  refine goA_by (q_ranges (twoP a b both) (fun v h1 h2 => (by have := q_VersionTwo1 b10 b11 b5 (fun j => inR (j : Int) a) (fun j => inR (j : Int) b) both v h1 h2 (fun e => m1 e.symm) (fun e => n510 e.symm) (fun e => n511 e.symm); rw [Int.toNat_of_nonneg (by omega)] at this; exact this)) B2 hG3) fun y H5 hy => ?_
  obtain ⟨rfl, rfl⟩ := hy
  simp only [go_sem, reduceIte, Nat.reduceEqDiff, Nat.reduceAdd, Nat.reduceMul, Nat.reduceSub, Nat.reduceLeDiff, Nat.reduceLT, reduceCtorEq]
  refine aw_ret ⟨trivial, _, rfl, ?_, hsB⟩
  rw [twoR, if_neg (by simp [hf]), if_neg (by simp [hg])]
  exact Vle.refl _
end Go.Proofs.Ytacecjfpkdijpaa

/- What is in none of a set of versions. No conditions but sizes. -/
set_option linter.unusedSimpArgs false
set_option linter.unusedVariables false
namespace Go.Proofs.Ytacecjfpkdijpaa
open Go.Proofs.YtacecjfpkdijpaaV
set_option maxHeartbeats 1000000
set_option maxRecDepth 100000
theorem q_CloneR (l : List Rg) (nl : Bool) (t : Tag) (hl : l.length ≤ 1048576) (hnl : nl = true → l = []) : Quiet Try.prog 144 [.sl (l.map eRg) nl t] (.sl (l.map eRg) nl .no) := by
  refine Quiet.weak fun G => ?_
  refine acall_body (rs := [.tmp 2]) Try.func144 rfl rfl Try.ntmps144 (by kernel_rfl) (Nat.le_of_ble_eq_true rfl) ?_
  refine aw_sr rfl ?_  -- r0
  simp only [go_sem, reduceIte, Nat.reduceEqDiff, Nat.reduceAdd, Nat.reduceMul, Nat.reduceSub, Nat.reduceLeDiff, Nat.reduceLT, reduceCtorEq]
  refine aw_seq fun K1 hK1 => ?_
  refine aw_sr rfl ?_  -- r1
  simp only [go_sem, reduceIte, Nat.reduceEqDiff, Nat.reduceAdd, Nat.reduceMul, Nat.reduceSub, Nat.reduceLeDiff, Nat.reduceLT, reduceCtorEq]
  refine aw_if rfl (fun h => ?_) (fun h => ?_)
  · refine aw_sr rfl ?_  -- r2
    simp only [go_sem, reduceIte, Nat.reduceEqDiff, Nat.reduceAdd, Nat.reduceMul, Nat.reduceSub, Nat.reduceLeDiff, Nat.reduceLT, reduceCtorEq]
    refine aw_ret ⟨trivial, _, rfl, ?_, sub_rfl⟩
    rw [hnl h, h]; exact Vle.untag
  refine aw_skip (hK1 _ _ ?_)
  refine aw_sr rfl ?_  -- r3
  simp only [go_sem, reduceIte, Nat.reduceEqDiff, Nat.reduceAdd, Nat.reduceMul, Nat.reduceSub, Nat.reduceLeDiff, Nat.reduceLT, reduceCtorEq]
  refine goP_rm (G := G) (Rm.start _ _ _) sub_rfl ?_ fun t1 H1 hr1 hs1 hg1 => ?_
  · exact ⟨rfl, rfl, by decide, by simp [wid], wid_eRg _, sca_eRg _, by simp; omega, by simp; omega⟩
  simp only [go_sem, reduceIte, Nat.reduceEqDiff, Nat.reduceAdd, Nat.reduceMul, Nat.reduceSub, Nat.reduceLeDiff, Nat.reduceLT, reduceCtorEq]
  refine aw_ret ⟨trivial, _, rfl, ?_, hs1⟩
  have h : nl = false := by simpa using h
  rw [h]
  exact Vle.untag
theorem q_told (l : List Rg) (t : Tag) (hl : l.length ≤ 1048576) : Quiet Try.prog 155 [.sl (l.map eRg) l.isEmpty t] (tRg (toldF l)) := by
  refine Quiet.weak fun G => ?_
  refine acall_body (rs := [.tmp 2, .tmp 3]) Try.func155 rfl rfl Try.ntmps155 (by kernel_rfl) (Nat.le_of_ble_eq_true rfl) ?_
  refine aw_sr rfl ?_  -- r0 @version.go:83
  simp only [go_sem, reduceIte, Nat.reduceEqDiff, Nat.reduceAdd, Nat.reduceMul, Nat.reduceSub, Nat.reduceLeDiff, Nat.reduceLT, reduceCtorEq]
  refine aw_seq fun K2 hK2 => ?_
  refine aw_sr rfl ?_  -- r1 @version.go:84
  simp only [go_sem, reduceIte, Nat.reduceEqDiff, Nat.reduceAdd, Nat.reduceMul, Nat.reduceSub, Nat.reduceLeDiff, Nat.reduceLT, reduceCtorEq]
  refine aw_if rfl (fun h => ?_) (fun h => ?_)
  · have hl : 50 < l.length := by rw [decide_eq_true_eq] at h; omega
    refine aw_sr rfl ?_  -- r2 @version.go:85
    simp only [go_sem, reduceIte, Nat.reduceEqDiff, Nat.reduceAdd, Nat.reduceMul, Nat.reduceSub, Nat.reduceLeDiff, Nat.reduceLT, reduceCtorEq]
    refine aw_ret ⟨trivial, _, rfl, ?_, sub_rfl⟩
    rw [toldF_nil hl]
    exact .tupL (.cons .untag (.cons (Vle.refl _) .nil))
  have hl2 : ¬ 50 < l.length := by rw [decide_eq_false_iff_not] at h; omega
  refine aw_skip (hK2 _ _ ?_)
  refine aw_sr rfl ?_  -- r3 @version.go:87
  simp only [go_sem, reduceIte, Nat.reduceEqDiff, Nat.reduceAdd, Nat.reduceMul, Nat.reduceSub, Nat.reduceLeDiff, Nat.reduceLT, reduceCtorEq]
  refine goA_q (q_CloneR l l.isEmpty t hl (fun h => by simpa using h)) ?_
  simp only [go_sem, reduceIte, Nat.reduceEqDiff, Nat.reduceAdd, Nat.reduceMul, Nat.reduceSub, Nat.reduceLeDiff, Nat.reduceLT, reduceCtorEq]
  refine aw_ret ⟨trivial, _, rfl, ?_, sub_rfl⟩
  rw [toldF_ok hl2]
  exact Vle.refl _
theorem notL_cons (a : Int) (r : Rg) (l : List Rg) : notL a (r :: l) = (if a < r.1 then [(a, r.1 - 1)] else []) ++ notL (r.2 + 1) l := rfl
theorem q_not (l : List Rg) (nl : Bool) (t : Tag) (hf : faultV l = 0) : Quiet Try.prog 156 [.sl (l.map eRg) nl t] (.sl ((notL 1 l).map eRg) (notL 1 l).isEmpty .no) := by
  obtain ⟨hl, hok, hcan⟩ := faultV_ok hf
  refine Quiet.weak fun G => ?_
  refine acall_body (rs := [.tmp 2]) Try.func156 rfl rfl Try.ntmps156 (by kernel_rfl) (Nat.le_of_ble_eq_true rfl) ?_
  refine aw_sr rfl ?_  -- r0 @version.go:67
  simp only [go_sem, reduceIte, Nat.reduceEqDiff, Nat.reduceAdd, Nat.reduceMul, Nat.reduceSub, Nat.reduceLeDiff, Nat.reduceLT, reduceCtorEq]
  refine aw_sr rfl ?_  -- r1 @version.go:68
  simp only [go_sem, reduceIte, Nat.reduceEqDiff, Nat.reduceAdd, Nat.reduceMul, Nat.reduceSub, Nat.reduceLeDiff, Nat.reduceLT, reduceCtorEq]
  refine aw_sr rfl ?_  -- r2 @version.go:69
  simp only [go_sem, reduceIte, Nat.reduceEqDiff, Nat.reduceAdd, Nat.reduceMul, Nat.reduceSub, Nat.reduceLeDiff, Nat.reduceLT, reduceCtorEq]
  refine aw_seq fun K1 hK1 => ?_
  refine aw_sr rfl ?_  -- r3 @version.go:70
  simp only [go_sem, reduceIte, Nat.reduceEqDiff, Nat.reduceAdd, Nat.reduceMul, Nat.reduceSub, Nat.reduceLeDiff, Nat.reduceLT, reduceCtorEq]
  refine aw_range l.length (S := List Rg × Int × Tag × Heap) (fun i s => [(3, .sl (s.1.map eRg) s.1.isEmpty s.2.2.1), (4, .int .i64 s.2.1), (7, .sl (l.map eRg) nl t)]) (fun _ s => s.2.2.2) (fun i s => s.1 ++ notL s.2.1 (l.drop i) = notL 1 l ∧ 1 ≤ s.2.1 ∧ s.2.1 ≤ 10000 ∧ Rm G s.2.2.2 2 s.2.2.1 ∧ Sub G s.2.2.2) ([], 1, .full, G) (by omega) ?_ (fun _ _ h => h) ⟨by simp, by simp, by simp, Rm.start _ _ _, sub_rfl⟩ rfl (fun _ _ => rfl) ?_ ?_ (by decide)
  · simp only [go_sem, reduceIte, Nat.reduceEqDiff, Nat.reduceAdd, Nat.reduceMul, Nat.reduceSub, Nat.reduceLeDiff, Nat.reduceLT, reduceCtorEq, Int.natCast_zero, List.map_nil, List.isEmpty_nil]
  · intro i ⟨o, a, t4, H⟩ hi ⟨he, ha1, ha2, hr, hs⟩
    simp only at he ha1 ha2 hr hs ⊢
    have hrb := badR_not (hok l[i] (List.getElem_mem hi))
    rw [List.drop_eq_getElem_cons hi, notL_cons] at he
    have hol : o.length ≤ l.length + 1 := by
      have h1 := congrArg List.length he
      have h2 := notL_len l 1
      rw [List.length_append] at h1; omega
    refine aw_sr rfl ?_  -- r5 @version.go:70
    simp only [go_sem, reduceIte, Nat.reduceEqDiff, Nat.reduceAdd, Nat.reduceMul, Nat.reduceSub, Nat.reduceLeDiff, Nat.reduceLT, reduceCtorEq, getD_map hi, eRg, cRg]
    refine ⟨⟨by omega, by omega, wid_eRg _⟩, ?_⟩
    generalize l[i] = r at he hrb
    intro b6 hb6
    refine aw_box1 hb6 fun B1 hs1 h6 => ?_
    replace hr := hr.sub hs1
    replace hs := sub_trans hs hs1
    have w1 : IntKind.i64.wrap (r.1 - 1) = r.1 - 1 := wrap64 (by omega) (by omega)
    have w2 : IntKind.i64.wrap (r.2 + 1) = r.2 + 1 := wrap64 (by omega) (by omega)
    refine aw_mid (fun f' G' => ∃ o' t', o' = o ++ (if a < r.1 then [(a, r.1 - 1)] else []) ∧ FSub [(3, .sl (o'.map eRg) o'.isEmpty t'), (6, .ptr b6 0), (7, .sl (l.map eRg) nl t), (8, .int .i64 ((l.length : Nat) : Int)), (9, .int .i64 ((i : Nat) : Int))] f' ∧ Rm G G' 2 t' ∧ Sub G G' ∧ hget G' b6 = some (.vars [.int .i64 r.1, .int .i64 r.2])) ?_ ?_
    · refine aw_sr rfl ?_  -- r6 @version.go:71
      simp only [go_sem, reduceIte, Nat.reduceEqDiff, Nat.reduceAdd, Nat.reduceMul, Nat.reduceSub, Nat.reduceLeDiff, Nat.reduceLT, reduceCtorEq, h6]
      refine aw_if rfl (fun h => ?_) (fun h => ?_)
      · have h : a < r.1 := by simpa using h
        refine aw_rg rfl ?_  -- r7 @version.go:72
        simp only [go_sem, reduceIte, Nat.reduceEqDiff, Nat.reduceAdd, Nat.reduceMul, Nat.reduceSub, Nat.reduceLeDiff, Nat.reduceLT, reduceCtorEq, h6, w1]
        refine goP_rm (G := G) hr hs ?_ fun t5 H5 hr5 hs5 hg5 => ?_
        · exact ⟨rfl, rfl, by decide, wid_eRg _, wid_one rfl, by simp [sca, scalarV], by simp; omega, by simp; omega⟩
        simp only [go_sem, reduceIte, Nat.reduceEqDiff, Nat.reduceAdd, Nat.reduceMul, Nat.reduceSub, Nat.reduceLeDiff, Nat.reduceLT, reduceCtorEq]
        refine ⟨_, t5, rfl, ?_, hr5, hs5, ?_⟩
        · rw [if_pos h, isE_snoc, List.map_append, List.map_cons, List.map_nil, eRg, cRg]
          exact ⟨rfl, rfl, rfl, rfl, rfl⟩
        · exact hg5.vars h6
      · have h : ¬ a < r.1 := by simpa using h
        refine aw_skip ⟨_, t4, rfl, ?_, hr, hs, h6⟩
        rw [if_neg h, List.append_nil]
        exact ⟨rfl, rfl, rfl, rfl, rfl⟩
    intro f' G' ⟨o', t', ho, hf', hr', hs', h6'⟩
    refine AW.of_fsub hf' ?_
    refine aw_rg rfl ?_  -- r8 @version.go:74
    simp only [go_sem, reduceIte, Nat.reduceEqDiff, Nat.reduceAdd, Nat.reduceMul, Nat.reduceSub, Nat.reduceLeDiff, Nat.reduceLT, reduceCtorEq, h6', w2]
    refine ⟨(o', r.2 + 1, t', G'), ⟨?_, by simp only; omega, by simp only; omega, hr', hs'⟩, ?_, sub_rfl⟩
    · simp only; rw [ho, List.append_assoc]; exact he
    · simp only [go_sem, reduceIte, Nat.reduceEqDiff, Nat.reduceAdd, Nat.reduceMul, Nat.reduceSub, Nat.reduceLeDiff, Nat.reduceLT, reduceCtorEq]
  intro ⟨o, a, t4, H⟩ ⟨he, ha1, ha2, hr, hs⟩
  simp only at he ha1 ha2 hr hs ⊢
  rw [List.drop_length, notL] at he
  have hol : o.length ≤ l.length + 1 := by
    have h1 := congrArg List.length he
    have h2 := notL_len l 1
    rw [List.length_append] at h1; omega
  refine hK1 _ _ ?_
  refine aw_mid (fun f' G' => ∃ t', FSub [(3, .sl ((notL 1 l).map eRg) (notL 1 l).isEmpty t')] f' ∧ Sub G G') ?_ ?_
  · refine aw_sr rfl ?_  -- r10 @version.go:76
    simp only [go_sem, reduceIte, Nat.reduceEqDiff, Nat.reduceAdd, Nat.reduceMul, Nat.reduceSub, Nat.reduceLeDiff, Nat.reduceLT, reduceCtorEq]
    refine aw_if rfl (fun h => ?_) (fun h => ?_)
    · have h : a ≤ 9999 := by simpa using h
      refine aw_rg rfl ?_  -- r11 @version.go:77
      simp only [go_sem, reduceIte, Nat.reduceEqDiff, Nat.reduceAdd, Nat.reduceMul, Nat.reduceSub, Nat.reduceLeDiff, Nat.reduceLT, reduceCtorEq]
      refine goP_rm (G := G) hr hs ?_ fun t5 H5 hr5 hs5 hg5 => ?_
      · exact ⟨rfl, rfl, by decide, wid_eRg _, wid_one rfl, by simp [sca, scalarV], by simp; omega, by simp; omega⟩
      simp only [go_sem, reduceIte, Nat.reduceEqDiff, Nat.reduceAdd, Nat.reduceMul, Nat.reduceSub, Nat.reduceLeDiff, Nat.reduceLT, reduceCtorEq]
      refine ⟨t5, ?_, hs5⟩
      rw [← he, if_pos h, isE_snoc, List.map_append, List.map_cons, List.map_nil, eRg, cRg]
      exact rfl
    · have h : ¬ a ≤ 9999 := by simpa using h
      refine aw_skip ⟨t4, ?_, hs⟩
      rw [← he, if_neg h, List.append_nil]
      trivial
  intro f' G' ⟨t', hf', hs'⟩
  refine AW.of_fsub hf' ?_
  refine aw_sr rfl ?_  -- r12 @version.go:79
  simp only [go_sem, reduceIte, Nat.reduceEqDiff, Nat.reduceAdd, Nat.reduceMul, Nat.reduceSub, Nat.reduceLeDiff, Nat.reduceLT, reduceCtorEq]
  exact aw_ret ⟨trivial, _, rfl, Vle.untag, hs'⟩
end Go.Proofs.Ytacecjfpkdijpaa

/- Sets of versions one behind the other, and what is in either. No conditions but sizes. -/
set_option linter.unusedSimpArgs false
set_option linter.unusedVariables false
namespace Go.Proofs.Ytacecjfpkdijpaa
open Go.Proofs.YtacecjfpkdijpaaV
set_option maxHeartbeats 1000000
set_option maxRecDepth 100000
theorem a_GrowR (n : Nat) (hn : n ≤ 4194304) (G : Heap) : ACall Try.prog 202 [.sl [] true .full, .int .i64 ((n : Nat) : Int)] (fun y G' => ∃ t, y = .sl [] (decide (n = 0)) t ∧ Rm G G' 2 t ∧ Sub G G') G := by
  refine ACall.turn ?_
  refine acall_body (rs := [.tmp 4]) Try.func202 rfl rfl Try.ntmps202 (by kernel_rfl) (Nat.le_of_ble_eq_true rfl) ?_
  refine aw_sr rfl ?_  -- r0
  simp only [go_sem, reduceIte, Nat.reduceEqDiff, Nat.reduceAdd, Nat.reduceMul, Nat.reduceSub, Nat.reduceLeDiff, Nat.reduceLT, reduceCtorEq]
  refine aw_seq fun K1 hK1 => ?_
  refine aw_sr rfl ?_  -- r1
  simp only [go_sem, reduceIte, Nat.reduceEqDiff, Nat.reduceAdd, Nat.reduceMul, Nat.reduceSub, Nat.reduceLeDiff, Nat.reduceLT, reduceCtorEq]
  refine aw_if rfl (fun h => by rw [decide_eq_true_eq] at h; omega) (fun h => ?_)
  refine aw_skip (hK1 _ _ ?_)
  refine aw_seq fun K2 hK2 => ?_
  have hw : IntKind.i64.wrap (((n : Nat) : Int) - IntKind.i64.wrap (0 - 0)) = ((n : Nat) : Int) := by rw [show IntKind.i64.wrap (0 - 0) = 0 from rfl, Int.sub_zero]; exact wrap64 (by omega) (by omega)
  refine aw_sr rfl ?_  -- r3
  simp only [go_sem, reduceIte, Nat.reduceEqDiff, Nat.reduceAdd, Nat.reduceMul, Nat.reduceSub, Nat.reduceLeDiff, Nat.reduceLT, reduceCtorEq, List.length_nil, Int.natCast_zero, hw]
  refine aw_sr rfl ?_  -- r4
  simp only [go_sem, reduceIte, Nat.reduceEqDiff, Nat.reduceAdd, Nat.reduceMul, Nat.reduceSub, Nat.reduceLeDiff, Nat.reduceLT, reduceCtorEq]
  refine aw_if rfl (fun h => ?_) (fun h => ?_)
  · have h0 : 0 < n := by rw [decide_eq_true_eq] at h; omega
    refine aw_rg rfl ?_  -- r5
    have st0 : sliceTag Tag.full 2 0 (Int.toNat 0) 0 = Tag.full := rfl
    simp only [go_sem, reduceIte, Nat.reduceEqDiff, Nat.reduceAdd, Nat.reduceMul, Nat.reduceSub, Nat.reduceLeDiff, Nat.reduceLT, reduceCtorEq, List.length_nil, Int.natCast_zero, st0]
    refine ⟨⟨⟨Int.le_refl _, Int.le_refl _⟩, by simp [wid]⟩, ?_⟩
    refine goP2_make ⟨by kernel_rfl, by omega, by omega, by omega, rfl, rfl, by decide⟩ fun b c hb hc => ?_
    simp only [go_sem, reduceIte, Nat.reduceEqDiff, Nat.reduceAdd, Nat.reduceMul, Nat.reduceSub, Nat.reduceLeDiff, Nat.reduceLT, reduceCtorEq, List.length_nil, Int.natCast_zero]
    refine ⟨⟨by omega, by omega⟩, ?_⟩
    refine hK2 _ _ ?_
    refine aw_sr rfl ?_  -- r6
    simp only [go_sem, reduceIte, Nat.reduceEqDiff, Nat.reduceAdd, Nat.reduceMul, Nat.reduceSub, Nat.reduceLeDiff, Nat.reduceLT, reduceCtorEq]
    refine aw_ret ⟨trivial, _, rfl, ?_⟩
    rw [decide_eq_false (show ¬ n = 0 by omega)]
    refine ⟨_, _, turn_top (n := 2) (by rw [List.length_replicate]; exact Nat.le_refl _), _, rfl, .inr ⟨_, _, _, rfl, hget_self _ _ _, hb⟩, sub_tail hb⟩
  · have h0 : n = 0 := by rw [decide_eq_false_iff_not] at h; omega
    refine aw_skip (hK2 _ _ ?_)
    refine aw_sr rfl ?_  -- r6
    simp only [go_sem, reduceIte, Nat.reduceEqDiff, Nat.reduceAdd, Nat.reduceMul, Nat.reduceSub, Nat.reduceLeDiff, Nat.reduceLT, reduceCtorEq]
    refine aw_ret ⟨trivial, _, rfl, ?_⟩
    rw [decide_eq_true h0]
    exact ⟨_, _, Turn.refl _ _, _, rfl, Rm.start _ _ _, sub_rfl⟩
def eRn (x : List Rg × Bool) : List V := [.sl (x.1.map eRg) x.2 .no]
theorem wid_eRn (xs : List (List Rg × Bool)) : wid 1 (xs.map eRn) := wid_map (g := eRn) (fun _ => rfl) _
def catR (l : List (List Rg × Bool)) : List Rg := l.flatMap (·.1)
theorem catR_nil : catR [] = [] := rfl
theorem catR_succ {l : List (List Rg × Bool)} {i : Nat} (h : i < l.length) : catR (l.take (i + 1)) = catR (l.take i) ++ l[i].1 := by
  rw [catR, catR, List.take_succ_eq_append_getElem h, List.flatMap_append]; simp
theorem catR_le {l : List (List Rg × Bool)} (i : Nat) : (catR (l.take i)).length ≤ (catR l).length := by
  have h : catR l = catR (l.take i) ++ catR (l.drop i) := by rw [catR, catR, catR, ← List.flatMap_append, List.take_append_drop]
  rw [h, List.length_append]; omega
theorem q_ConcatR (l : List (List Rg × Bool)) (nl : Bool) (t : Tag) (hl : l.length ≤ 1048576) (hn : (catR l).length ≤ 4194304) : Quiet Try.prog 158 [.sl (l.map eRn) nl t] (.sl ((catR l).map eRg) (decide ((catR l).length = 0)) .no) := by
  refine Quiet.weak fun G => ?_
  refine acall_body (rs := [.tmp 2]) Try.func158 rfl rfl Try.ntmps158 (by kernel_rfl) (Nat.le_of_ble_eq_true rfl) ?_
  refine aw_sr rfl ?_  -- r0 @slices.go:491
  simp only [go_sem, reduceIte, Nat.reduceEqDiff, Nat.reduceAdd, Nat.reduceMul, Nat.reduceSub, Nat.reduceLeDiff, Nat.reduceLT, reduceCtorEq]
  refine aw_sr rfl ?_  -- r1 @slices.go:492
  simp only [go_sem, reduceIte, Nat.reduceEqDiff, Nat.reduceAdd, Nat.reduceMul, Nat.reduceSub, Nat.reduceLeDiff, Nat.reduceLT, reduceCtorEq]
  refine aw_seq fun K1 hK1 => ?_
  refine aw_sr rfl ?_  -- r2 @slices.go:493
  simp only [go_sem, reduceIte, Nat.reduceEqDiff, Nat.reduceAdd, Nat.reduceMul, Nat.reduceSub, Nat.reduceLeDiff, Nat.reduceLT, reduceCtorEq]
  refine aw_range l.length (S := Unit) (fun i _ => [(0, .sl (l.map eRn) nl t), (3, .int .i64 (((catR (l.take i)).length : Nat) : Int)), (9, .sl (l.map eRn) nl t)]) (fun _ _ => G) (fun _ _ => True) () (by omega) ?_ (fun _ _ h => h) trivial rfl (fun _ _ => rfl) ?_ ?_ (by decide)
  · simp only [go_sem, reduceIte, Nat.reduceEqDiff, Nat.reduceAdd, Nat.reduceMul, Nat.reduceSub, Nat.reduceLeDiff, Nat.reduceLT, reduceCtorEq, List.take_zero, catR_nil, List.length_nil, Int.natCast_zero]
  · intro i _ hi _
    have hc := catR_le (l := l) i
    have hc1 := catR_le (l := l) (i + 1)
    rw [catR_succ hi, List.length_append] at hc1
    have hw : IntKind.i64.wrap ((((catR (l.take i)).length : Nat) : Int) + ((l[i].1.length : Nat) : Int)) = (((catR (l.take (i + 1))).length : Nat) : Int) := by rw [catR_succ hi, List.length_append, wrap64 (by omega) (by omega)]; omega
    refine aw_sr rfl ?_  -- r4 @slices.go:493
    simp only [go_sem, reduceIte, Nat.reduceEqDiff, Nat.reduceAdd, Nat.reduceMul, Nat.reduceSub, Nat.reduceLeDiff, Nat.reduceLT, reduceCtorEq, getD_map hi, eRn]
    refine ⟨⟨by omega, by omega, wid_eRn _⟩, ?_⟩
    refine aw_sr rfl ?_  -- r5 @slices.go:494
    simp only [go_sem, reduceIte, Nat.reduceEqDiff, Nat.reduceAdd, Nat.reduceMul, Nat.reduceSub, Nat.reduceLeDiff, Nat.reduceLT, reduceCtorEq, hw]
    refine aw_sr rfl ?_  -- r6 @slices.go:495
    simp only [go_sem, reduceIte, Nat.reduceEqDiff, Nat.reduceAdd, Nat.reduceMul, Nat.reduceSub, Nat.reduceLeDiff, Nat.reduceLT, reduceCtorEq]
    refine aw_if rfl (fun h => by rw [decide_eq_true_eq] at h; omega) (fun h => ?_)
    refine aw_skip ⟨(), ?_, sub_rfl⟩
    exact ⟨rfl, rfl, rfl, rfl, rfl⟩
  intro _ _
  refine hK1 _ _ ?_
  rw [List.take_length]
  refine aw_sr rfl ?_  -- r9 @slices.go:502
  simp only [go_sem, reduceIte, Nat.reduceEqDiff, Nat.reduceAdd, Nat.reduceMul, Nat.reduceSub, Nat.reduceLeDiff, Nat.reduceLT, reduceCtorEq]
  refine goA_by (a_GrowR (catR l).length hn G) fun y G3 hy => ?_
  obtain ⟨t3, rfl, hr3, hs3⟩ := hy
  simp only [go_sem, reduceIte, Nat.reduceEqDiff, Nat.reduceAdd, Nat.reduceMul, Nat.reduceSub, Nat.reduceLeDiff, Nat.reduceLT, reduceCtorEq]
  refine aw_seq fun K2 hK2 => ?_
  refine aw_sr rfl ?_  -- r10 @slices.go:503
  simp only [go_sem, reduceIte, Nat.reduceEqDiff, Nat.reduceAdd, Nat.reduceMul, Nat.reduceSub, Nat.reduceLeDiff, Nat.reduceLT, reduceCtorEq]
  refine aw_range l.length (S := Tag × Heap) (fun i s => [(6, .sl ((catR (l.take i)).map eRg) (decide ((catR l).length = 0)) s.1), (25, .sl (l.map eRn) nl t)]) (fun _ s => s.2) (fun i s => Rm G s.2 2 s.1 ∧ Sub G s.2) (t3, G3) (by omega) ?_ (fun _ _ h => h) ⟨hr3, hs3⟩ rfl (fun _ _ => rfl) ?_ ?_ (by decide)
  · simp only [go_sem, reduceIte, Nat.reduceEqDiff, Nat.reduceAdd, Nat.reduceMul, Nat.reduceSub, Nat.reduceLeDiff, Nat.reduceLT, reduceCtorEq, List.take_zero, catR_nil, List.length_nil, Int.natCast_zero, List.map_nil]
  · intro i ⟨t4, H⟩ hi ⟨hr, hs⟩
    simp only at hr hs ⊢
    have hc1 := catR_le (l := l) (i + 1)
    rw [catR_succ hi, List.length_append] at hc1
    have hnl : (decide ((catR l).length = 0) && (l[i].1.map eRg).isEmpty) = decide ((catR l).length = 0) := by
      by_cases q : (catR l).length = 0
      · have : l[i].1 = [] := List.eq_nil_of_length_eq_zero (by omega)
        rw [this, decide_eq_true q]; rfl
      · rw [decide_eq_false q]; rfl
    refine aw_sr rfl ?_  -- r12 @slices.go:503
    simp only [go_sem, reduceIte, Nat.reduceEqDiff, Nat.reduceAdd, Nat.reduceMul, Nat.reduceSub, Nat.reduceLeDiff, Nat.reduceLT, reduceCtorEq, getD_map hi, eRn]
    refine ⟨⟨by omega, by omega, wid_eRn _⟩, ?_⟩
    refine aw_rg rfl ?_  -- r13 @slices.go:504
    simp only [go_sem, reduceIte, Nat.reduceEqDiff, Nat.reduceAdd, Nat.reduceMul, Nat.reduceSub, Nat.reduceLeDiff, Nat.reduceLT, reduceCtorEq]
    refine goP_rm hr hs ?_ fun t5 H5 hr5 hs5 hg5 => ?_
    · exact ⟨rfl, rfl, by decide, wid_eRg _, wid_eRg _, sca_eRg _, by simp; omega, by simp; omega⟩
    rw [hnl]
    simp only [go_sem, reduceIte, Nat.reduceEqDiff, Nat.reduceAdd, Nat.reduceMul, Nat.reduceSub, Nat.reduceLeDiff, Nat.reduceLT, reduceCtorEq]
    refine ⟨(t5, H5), ⟨hr5, hs5⟩, ?_, sub_rfl⟩
    simp only [go_sem, reduceIte, Nat.reduceEqDiff, Nat.reduceAdd, Nat.reduceMul, Nat.reduceSub, Nat.reduceLeDiff, Nat.reduceLT, reduceCtorEq]
    rw [catR_succ hi, List.map_append]
    try simp
  intro ⟨t4, H⟩ ⟨hr, hs⟩
  simp only at hr hs ⊢
  refine hK2 _ _ ?_
  rw [List.take_length]
  refine aw_sr rfl ?_  -- r15 @slices.go:506
  simp only [go_sem, reduceIte, Nat.reduceEqDiff, Nat.reduceAdd, Nat.reduceMul, Nat.reduceSub, Nat.reduceLeDiff, Nat.reduceLT, reduceCtorEq]
  exact aw_ret ⟨trivial, _, rfl, Vle.untag, hs⟩
end Go.Proofs.Ytacecjfpkdijpaa

/- Not, Either and Both of sets of versions. No conditions but sizes. -/
set_option linter.unusedSimpArgs false
set_option linter.unusedVariables false
namespace Go.Proofs.Ytacecjfpkdijpaa
open Go.Proofs.YtacecjfpkdijpaaV
set_option maxHeartbeats 2000000
set_option maxRecDepth 100000
theorem q_Not (l : List Rg) (nl : Bool) (t : Tag) (hl : l.length ≤ 1048576) : Quiet Try.prog 84 [.sl (l.map eRg) nl t] (tRg (notR l)) := by
  refine Quiet.weak fun G => ?_
  refine acall_body (rs := [.tmp 2, .tmp 3]) Try.func84 rfl rfl Try.ntmps84 (by kernel_rfl) (Nat.le_of_ble_eq_true rfl) ?_
  refine aw_sr rfl ?_  -- r0 @version.go:91
  simp only [go_sem, reduceIte, Nat.reduceEqDiff, Nat.reduceAdd, Nat.reduceMul, Nat.reduceSub, Nat.reduceLeDiff, Nat.reduceLT, reduceCtorEq]
  refine aw_seq fun K3 hK3 => ?_
  refine aw_sr rfl ?_  -- r1 @version.go:92
  simp only [go_sem, reduceIte, Nat.reduceEqDiff, Nat.reduceAdd, Nat.reduceMul, Nat.reduceSub, Nat.reduceLeDiff, Nat.reduceLT, reduceCtorEq]
  refine goA_q (q_VCheck l nl t hl) ?_
  simp only [go_sem, reduceIte, Nat.reduceEqDiff, Nat.reduceAdd, Nat.reduceMul, Nat.reduceSub, Nat.reduceLeDiff, Nat.reduceLT, reduceCtorEq]
  refine aw_sr rfl ?_  -- r2 @version.go:92
  simp only [go_sem, reduceIte, Nat.reduceEqDiff, Nat.reduceAdd, Nat.reduceMul, Nat.reduceSub, Nat.reduceLeDiff, Nat.reduceLT, reduceCtorEq]
  refine aw_if rfl (fun h => ?_) (fun h => ?_)
  · have hf : faultV l ≠ 0 := by simpa using h
    refine aw_sr rfl ?_  -- r3 @version.go:93
    simp only [go_sem, reduceIte, Nat.reduceEqDiff, Nat.reduceAdd, Nat.reduceMul, Nat.reduceSub, Nat.reduceLeDiff, Nat.reduceLT, reduceCtorEq]
    refine aw_ret ⟨trivial, _, rfl, ?_, sub_rfl⟩
    rw [notR, if_pos hf]
    exact .tupL (.cons .untag (.cons (Vle.refl _) .nil))
  have hf : faultV l = 0 := by simpa using h
  have hn := notL_len l 1
  have h50 := (faultV_ok hf).1
  refine aw_skip (hK3 _ _ ?_)
  refine aw_sr rfl ?_  -- r4 @version.go:95
  simp only [go_sem, reduceIte, Nat.reduceEqDiff, Nat.reduceAdd, Nat.reduceMul, Nat.reduceSub, Nat.reduceLeDiff, Nat.reduceLT, reduceCtorEq]
  refine goA_q (q_not l nl t hf) ?_
  simp only [go_sem, reduceIte, Nat.reduceEqDiff, Nat.reduceAdd, Nat.reduceMul, Nat.reduceSub, Nat.reduceLeDiff, Nat.reduceLT, reduceCtorEq]
  refine goA_q (q_told (notL 1 l) .no (by omega)) ?_
  simp only [go_sem, reduceIte, Nat.reduceEqDiff, Nat.reduceAdd, Nat.reduceMul, Nat.reduceSub, Nat.reduceLeDiff, Nat.reduceLT, reduceCtorEq]
  refine aw_ret ⟨trivial, _, rfl, ?_, sub_rfl⟩
  rw [notR, if_neg (by simp [hf]), ← not_spans hf rfl]
  exact Vle.refl _
theorem getD_two {x y z : V} {k : Nat} (h : k < 2) : [x, y].getD k z = if k = 0 then x else y := by
  rcases (show k = 0 ∨ k = 1 by omega) with rfl | rfl <;> rfl
theorem q_Either (a b : List Rg) (n1 n2 : Bool) (ha : a.length ≤ 1048576) (hb : b.length ≤ 1048576) : Quiet Try.prog 86 [.sl (a.map eRg) n1 .no, .sl (b.map eRg) n2 .no] (tRg (twoR a b false)) := by
  have hC : Quiet Try.prog 158 [.sl [[.sl (a.map eRg) n1 .no], [.sl (b.map eRg) n2 .no]] false .full] (.sl ((a ++ b).map eRg) (decide ((a ++ b).length = 0)) .no) := by
    have e : catR [(a, n1), (b, n2)] = a ++ b := by simp [catR]
    have h := q_ConcatR [(a, n1), (b, n2)] false .full (by simp) (by rw [e, List.length_append]; omega)
    rw [e] at h
    exact h
  refine Quiet.weak fun G => ?_
  refine acall_body (rs := [.tmp 4, .tmp 5]) Try.func86 rfl rfl Try.ntmps86 (by kernel_rfl) (Nat.le_of_ble_eq_true rfl) ?_
  refine aw_sr rfl ?_  -- r0 @version.go:99
  simp only [go_sem, reduceIte, Nat.reduceEqDiff, Nat.reduceAdd, Nat.reduceMul, Nat.reduceSub, Nat.reduceLeDiff, Nat.reduceLT, reduceCtorEq]
  refine aw_seq fun K4 hK4 => ?_
  refine aw_sr rfl ?_  -- r1 @version.go:100
  simp only [go_sem, reduceIte, Nat.reduceEqDiff, Nat.reduceAdd, Nat.reduceMul, Nat.reduceSub, Nat.reduceLeDiff, Nat.reduceLT, reduceCtorEq]
  refine aw_block ?_
  refine aw_lph (S := {k : Nat // k ≤ 2 ∧ (1 ≤ k → faultV a = 0) ∧ (2 ≤ k → faultV b = 0)}) (fun s => [(0, .sl (a.map eRg) n1 .no), (1, .sl (b.map eRg) n2 .no), (11, .agg [.sl (a.map eRg) n1 .no, .sl (b.map eRg) n2 .no]), (12, .int .i64 ((s.1 : Nat) : Int))]) (fun _ => G) (fun s => 2 - s.1) ⟨0, by omega, by omega, by omega⟩ ?_ (fun _ _ h => h) ?_
  · simp only [go_sem, reduceIte, Nat.reduceEqDiff, Nat.reduceAdd, Nat.reduceMul, Nat.reduceSub, Nat.reduceLeDiff, Nat.reduceLT, reduceCtorEq, Int.natCast_zero]
  intro ⟨k, hk, hw1, hw2⟩
  simp only at hk hw1 hw2 ⊢
  refine aw_sr rfl ?_  -- r2
  simp only [go_sem, reduceIte, Nat.reduceEqDiff, Nat.reduceAdd, Nat.reduceMul, Nat.reduceSub, Nat.reduceLeDiff, Nat.reduceLT, reduceCtorEq]
  refine aw_seq fun K6 hK6 => ?_
  refine aw_if rfl (fun h => ?_) (fun h => ?_)
  · have hk2 : k < 2 := by rw [decide_eq_true_eq] at h; omega
    refine aw_skip (hK6 _ _ ?_)
    refine aw_seq fun K7 hK7 => ?_
    refine aw_block ?_
    obtain ⟨ws, nw, hlw, hget, hbad, hgo⟩ : ∃ (ws : List Rg) (nw : Bool), ws.length ≤ 1048576 ∧ ([V.sl (a.map eRg) n1 .no, .sl (b.map eRg) n2 .no].getD k .any = V.sl (ws.map eRg) nw .no) ∧ (faultV ws ≠ 0 → twoR a b false = ([], faultV ws)) ∧ (faultV ws = 0 → (1 ≤ k + 1 → faultV a = 0) ∧ (2 ≤ k + 1 → faultV b = 0)) := by
      rcases (show k = 0 ∨ k = 1 by omega) with rfl | rfl
      · exact ⟨a, n1, ha, rfl, fun e => by rw [twoR, if_pos e], fun e => ⟨fun _ => e, fun e => by omega⟩⟩
      · exact ⟨b, n2, hb, rfl, fun e => by rw [twoR, if_neg (by simp [hw1 (by omega)]), if_pos e], fun e => ⟨fun _ => hw1 (by omega), fun _ => e⟩⟩
    refine aw_sr rfl ?_  -- r3
    simp only [go_sem, reduceIte, Nat.reduceEqDiff, Nat.reduceAdd, Nat.reduceMul, Nat.reduceSub, Nat.reduceLeDiff, Nat.reduceLT, reduceCtorEq, hget]
    refine ⟨⟨by omega, by omega⟩, ?_⟩
    refine aw_sr rfl ?_  -- r4 @version.go:101
    simp only [go_sem, reduceIte, Nat.reduceEqDiff, Nat.reduceAdd, Nat.reduceMul, Nat.reduceSub, Nat.reduceLeDiff, Nat.reduceLT, reduceCtorEq]
    refine goA_q (q_VCheck ws nw .no hlw) ?_
    simp only [go_sem, reduceIte, Nat.reduceEqDiff, Nat.reduceAdd, Nat.reduceMul, Nat.reduceSub, Nat.reduceLeDiff, Nat.reduceLT, reduceCtorEq]
    refine aw_sr rfl ?_  -- r5 @version.go:101
    simp only [go_sem, reduceIte, Nat.reduceEqDiff, Nat.reduceAdd, Nat.reduceMul, Nat.reduceSub, Nat.reduceLeDiff, Nat.reduceLT, reduceCtorEq]
    refine aw_if rfl (fun h => ?_) (fun h => ?_)
    · have hf : faultV ws ≠ 0 := by simpa using h
      refine aw_sr rfl ?_  -- r6 @version.go:102
      simp only [go_sem, reduceIte, Nat.reduceEqDiff, Nat.reduceAdd, Nat.reduceMul, Nat.reduceSub, Nat.reduceLeDiff, Nat.reduceLT, reduceCtorEq]
      refine aw_ret ⟨trivial, _, rfl, ?_, sub_rfl⟩
      rw [hbad hf]
      exact .tupL (.cons .untag (.cons (Vle.refl _) .nil))
    have hf : faultV ws = 0 := by simpa using h
    refine aw_skip ?_
    refine hK7 _ _ ?_
    have hw : IntKind.i64.wrap ((k : Int) + 1) = ((k + 1 : Nat) : Int) := by rw [wrap64 (by omega) (by omega)]; omega
    refine aw_rg rfl ?_  -- r7
    simp only [go_sem, reduceIte, Nat.reduceEqDiff, Nat.reduceAdd, Nat.reduceMul, Nat.reduceSub, Nat.reduceLeDiff, Nat.reduceLT, reduceCtorEq, hw]
    exact ⟨⟨k + 1, by omega, (hgo hf).1, (hgo hf).2⟩, by simp only; omega, by trivial, sub_rfl⟩
  · have hk2 : k = 2 := by rw [decide_eq_false_iff_not] at h; omega
    subst hk2
    have hfa := hw1 (by omega)
    have hfb := hw2 (by omega)
    obtain ⟨a50, abad, _⟩ := faultV_ok hfa
    obtain ⟨b50, bbad, _⟩ := faultV_ok hfb
    have hset : setF (a ++ b) = twoR a b false := by
      rw [setF, if_neg, twoR, if_neg (by simp [hfa]), if_neg (by simp [hfb]), or_spans]
      rw [List.any_append, Bool.or_eq_true]
      rintro (h | h)
      · obtain ⟨r, hr, h⟩ := List.any_eq_true.1 h; rw [abad r hr] at h; cases h
      · obtain ⟨r, hr, h⟩ := List.any_eq_true.1 h; rw [bbad r hr] at h; cases h
    refine aw_exit ?_
    refine hK4 _ _ ?_
    refine aw_sr rfl ?_  -- r8 @version.go:105
    simp only [go_sem, reduceIte, Nat.reduceEqDiff, Nat.reduceAdd, Nat.reduceMul, Nat.reduceSub, Nat.reduceLeDiff, Nat.reduceLT, reduceCtorEq]
    refine goA_q hC ?_
    simp only [go_sem, reduceIte, Nat.reduceEqDiff, Nat.reduceAdd, Nat.reduceMul, Nat.reduceSub, Nat.reduceLeDiff, Nat.reduceLT, reduceCtorEq]
    refine goA_q (q_Set (a ++ b) _ .no (by rw [List.length_append]; omega) (fun h => List.eq_nil_of_length_eq_zero (by simpa using h))) ?_
    simp only [go_sem, reduceIte, Nat.reduceEqDiff, Nat.reduceAdd, Nat.reduceMul, Nat.reduceSub, Nat.reduceLeDiff, Nat.reduceLT, reduceCtorEq]
    refine aw_ret ⟨trivial, _, rfl, ?_, sub_rfl⟩
    rw [hset]
    exact Vle.refl _
theorem intL_take {a b : List Rg} {i : Nat} (h : i < a.length) : intL (a.take (i + 1)) b = intL (a.take i) b ++ intR a[i] b := by
  rw [intL, intL, List.take_succ_eq_append_getElem h, List.flatMap_append]; simp
theorem intR_take {x : Rg} {b : List Rg} {i : Nat} (h : i < b.length) : intR x (b.take (i + 1)) = intR x (b.take i) ++ int1 x b[i] := by
  rw [intR, intR, List.take_succ_eq_append_getElem h, List.flatMap_append]; simp
theorem q_Both (a b : List Rg) (n1 n2 : Bool) (ha : a.length ≤ 1048576) (hb : b.length ≤ 1048576) : Quiet Try.prog 88 [.sl (a.map eRg) n1 .no, .sl (b.map eRg) n2 .no] (tRg (twoR a b true)) := by
  refine Quiet.weak fun G => ?_
  refine acall_body (rs := [.tmp 4, .tmp 5]) Try.func88 rfl rfl Try.ntmps88 (by kernel_rfl) (Nat.le_of_ble_eq_true rfl) ?_
  refine aw_sr rfl ?_  -- r0 @version.go:109
  simp only [go_sem, reduceIte, Nat.reduceEqDiff, Nat.reduceAdd, Nat.reduceMul, Nat.reduceSub, Nat.reduceLeDiff, Nat.reduceLT, reduceCtorEq]
  refine aw_seq fun K4 hK4 => ?_
  refine aw_sr rfl ?_  -- r1 @version.go:110
  simp only [go_sem, reduceIte, Nat.reduceEqDiff, Nat.reduceAdd, Nat.reduceMul, Nat.reduceSub, Nat.reduceLeDiff, Nat.reduceLT, reduceCtorEq]
  refine aw_block ?_
  refine aw_lph (S := {k : Nat // k ≤ 2 ∧ (1 ≤ k → faultV a = 0) ∧ (2 ≤ k → faultV b = 0)}) (fun s => [(0, .sl (a.map eRg) n1 .no), (1, .sl (b.map eRg) n2 .no), (17, .agg [.sl (a.map eRg) n1 .no, .sl (b.map eRg) n2 .no]), (18, .int .i64 ((s.1 : Nat) : Int))]) (fun _ => G) (fun s => 2 - s.1) ⟨0, by omega, by omega, by omega⟩ ?_ (fun _ _ h => h) ?_
  · simp only [go_sem, reduceIte, Nat.reduceEqDiff, Nat.reduceAdd, Nat.reduceMul, Nat.reduceSub, Nat.reduceLeDiff, Nat.reduceLT, reduceCtorEq, Int.natCast_zero]
  intro ⟨k, hk, hw1, hw2⟩
  simp only at hk hw1 hw2 ⊢
  refine aw_sr rfl ?_  -- r2
  simp only [go_sem, reduceIte, Nat.reduceEqDiff, Nat.reduceAdd, Nat.reduceMul, Nat.reduceSub, Nat.reduceLeDiff, Nat.reduceLT, reduceCtorEq]
  refine aw_seq fun K6 hK6 => ?_
  refine aw_if rfl (fun h => ?_) (fun h => ?_)
  · have hk2 : k < 2 := by rw [decide_eq_true_eq] at h; omega
    refine aw_skip (hK6 _ _ ?_)
    refine aw_seq fun K7 hK7 => ?_
    refine aw_block ?_
    obtain ⟨ws, nw, hlw, hget, hbad, hgo⟩ : ∃ (ws : List Rg) (nw : Bool), ws.length ≤ 1048576 ∧ ([V.sl (a.map eRg) n1 .no, .sl (b.map eRg) n2 .no].getD k .any = V.sl (ws.map eRg) nw .no) ∧ (faultV ws ≠ 0 → twoR a b true = ([], faultV ws)) ∧ (faultV ws = 0 → (1 ≤ k + 1 → faultV a = 0) ∧ (2 ≤ k + 1 → faultV b = 0)) := by
      rcases (show k = 0 ∨ k = 1 by omega) with rfl | rfl
      · exact ⟨a, n1, ha, rfl, fun e => by rw [twoR, if_pos e], fun e => ⟨fun _ => e, fun e => by omega⟩⟩
      · exact ⟨b, n2, hb, rfl, fun e => by rw [twoR, if_neg (by simp [hw1 (by omega)]), if_pos e], fun e => ⟨fun _ => hw1 (by omega), fun _ => e⟩⟩
    refine aw_sr rfl ?_  -- r3
    simp only [go_sem, reduceIte, Nat.reduceEqDiff, Nat.reduceAdd, Nat.reduceMul, Nat.reduceSub, Nat.reduceLeDiff, Nat.reduceLT, reduceCtorEq, hget]
    refine ⟨⟨by omega, by omega⟩, ?_⟩
    refine aw_sr rfl ?_  -- r4 @version.go:111
    simp only [go_sem, reduceIte, Nat.reduceEqDiff, Nat.reduceAdd, Nat.reduceMul, Nat.reduceSub, Nat.reduceLeDiff, Nat.reduceLT, reduceCtorEq]
    refine goA_q (q_VCheck ws nw .no hlw) ?_
    simp only [go_sem, reduceIte, Nat.reduceEqDiff, Nat.reduceAdd, Nat.reduceMul, Nat.reduceSub, Nat.reduceLeDiff, Nat.reduceLT, reduceCtorEq]
    refine aw_sr rfl ?_  -- r5 @version.go:111
    simp only [go_sem, reduceIte, Nat.reduceEqDiff, Nat.reduceAdd, Nat.reduceMul, Nat.reduceSub, Nat.reduceLeDiff, Nat.reduceLT, reduceCtorEq]
    refine aw_if rfl (fun h => ?_) (fun h => ?_)
    · have hf : faultV ws ≠ 0 := by simpa using h
      refine aw_sr rfl ?_  -- r6 @version.go:112
      simp only [go_sem, reduceIte, Nat.reduceEqDiff, Nat.reduceAdd, Nat.reduceMul, Nat.reduceSub, Nat.reduceLeDiff, Nat.reduceLT, reduceCtorEq]
      refine aw_ret ⟨trivial, _, rfl, ?_, sub_rfl⟩
      rw [hbad hf]
      exact .tupL (.cons .untag (.cons (Vle.refl _) .nil))
    have hf : faultV ws = 0 := by simpa using h
    refine aw_skip ?_
    refine hK7 _ _ ?_
    have hw : IntKind.i64.wrap ((k : Int) + 1) = ((k + 1 : Nat) : Int) := by rw [wrap64 (by omega) (by omega)]; omega
    refine aw_rg rfl ?_  -- r7
    simp only [go_sem, reduceIte, Nat.reduceEqDiff, Nat.reduceAdd, Nat.reduceMul, Nat.reduceSub, Nat.reduceLeDiff, Nat.reduceLT, reduceCtorEq, hw]
    exact ⟨⟨k + 1, by omega, (hgo hf).1, (hgo hf).2⟩, by simp only; omega, by trivial, sub_rfl⟩
  have hk2 : k = 2 := by rw [decide_eq_false_iff_not] at h; omega
  subst hk2
  have hfa := hw1 (by omega)
  have hfb := hw2 (by omega)
  obtain ⟨a50, abad, _⟩ := faultV_ok hfa
  obtain ⟨b50, bbad, _⟩ := faultV_ok hfb
  have hset : toldF (intL a b) = twoR a b true := by rw [twoR, if_neg (by simp [hfa]), if_neg (by simp [hfb]), int_spans hfa hfb rfl]
  have hlen : ∀ i, (intL (a.take i) b).length ≤ 2500 := fun i => by
    have h1 := intL_len b (a.take i)
    have h2 : (a.take i).length * b.length ≤ 50 * 50 := Nat.mul_le_mul (by rw [List.length_take]; omega) b50
    omega
  refine aw_exit ?_
  refine hK4 _ _ ?_
  refine aw_sr rfl ?_  -- r8 @version.go:115
  simp only [go_sem, reduceIte, Nat.reduceEqDiff, Nat.reduceAdd, Nat.reduceMul, Nat.reduceSub, Nat.reduceLeDiff, Nat.reduceLT, reduceCtorEq]
  refine aw_seq fun K8 hK8 => ?_
  refine aw_sr rfl ?_  -- r9 @version.go:116
  simp only [go_sem, reduceIte, Nat.reduceEqDiff, Nat.reduceAdd, Nat.reduceMul, Nat.reduceSub, Nat.reduceLeDiff, Nat.reduceLT, reduceCtorEq]
  refine aw_range a.length (S := Tag × Heap) (fun i s => [(1, .sl (b.map eRg) n2 .no), (9, .sl ((intL (a.take i) b).map eRg) (intL (a.take i) b).isEmpty s.1), (27, .sl (a.map eRg) n1 .no)]) (fun _ s => s.2) (fun i s => Rm G s.2 2 s.1 ∧ Sub G s.2) (.full, G) (by omega) ?_ (fun _ _ h => h) ⟨Rm.start _ _ _, sub_rfl⟩ rfl (fun _ _ => rfl) ?_ ?_ (by decide)
  · simp only [go_sem, reduceIte, Nat.reduceEqDiff, Nat.reduceAdd, Nat.reduceMul, Nat.reduceSub, Nat.reduceLeDiff, Nat.reduceLT, reduceCtorEq, Int.natCast_zero, List.take_zero, show intL [] b = [] from rfl, List.map_nil, List.isEmpty_nil]
  · intro i ⟨t4, H⟩ hi ⟨hr, hs⟩
    simp only at hr hs ⊢
    have hli := hlen i
    have htk := intL_take (b := b) hi
    refine aw_sr rfl ?_  -- r11 @version.go:116
    simp only [go_sem, reduceIte, Nat.reduceEqDiff, Nat.reduceAdd, Nat.reduceMul, Nat.reduceSub, Nat.reduceLeDiff, Nat.reduceLT, reduceCtorEq, getD_map hi, eRg, cRg]
    refine ⟨⟨by omega, by omega, wid_eRg _⟩, ?_⟩
    generalize a[i] = x at htk
    generalize intL (a.take i) b = o at hli htk
    intro b11 hb11
    refine aw_box1 hb11 fun B1 hs1 h11 => ?_
    replace hr := hr.sub hs1
    replace hs := sub_trans hs hs1
    refine aw_sr rfl ?_  -- r12 @version.go:117
    simp only [go_sem, reduceIte, Nat.reduceEqDiff, Nat.reduceAdd, Nat.reduceMul, Nat.reduceSub, Nat.reduceLeDiff, Nat.reduceLT, reduceCtorEq]
    refine aw_range b.length (S := Tag × Heap) (fun j s => [(1, .sl (b.map eRg) n2 .no), (9, .sl ((o ++ intR x (b.take j)).map eRg) (o ++ intR x (b.take j)).isEmpty s.1), (11, .ptr b11 0), (27, .sl (a.map eRg) n1 .no), (28, .int .i64 ((a.length : Nat) : Int)), (29, .int .i64 ((i : Nat) : Int)), (33, .sl (b.map eRg) n2 .no)]) (fun _ s => s.2) (fun j s => Rm G s.2 2 s.1 ∧ Sub G s.2 ∧ hget s.2 b11 = some (.vars [.int .i64 x.1, .int .i64 x.2])) (t4, B1) (by omega) ?_ (fun _ _ h => h) ⟨hr, hs, h11⟩ rfl (fun _ _ => rfl) ?_ ?_ (by decide)
    · simp only [go_sem, reduceIte, Nat.reduceEqDiff, Nat.reduceAdd, Nat.reduceMul, Nat.reduceSub, Nat.reduceLeDiff, Nat.reduceLT, reduceCtorEq, Int.natCast_zero, List.take_zero, show intR x [] = [] from rfl, List.append_nil]
    · intro j ⟨t5, H⟩ hj ⟨hr, hs, h11⟩
      simp only at hr hs h11 ⊢
      have hjl := intR_len x (b.take j)
      rw [List.length_take] at hjl
      have htj := intR_take (x := x) hj
      refine aw_sr rfl ?_  -- r14 @version.go:117
      simp only [go_sem, reduceIte, Nat.reduceEqDiff, Nat.reduceAdd, Nat.reduceMul, Nat.reduceSub, Nat.reduceLeDiff, Nat.reduceLT, reduceCtorEq, getD_map hj, eRg, cRg]
      refine ⟨⟨by omega, by omega, wid_eRg _⟩, ?_⟩
      generalize b[j] = y at htj
      intro b13 hb13
      refine aw_box1 hb13 fun B2 hs2 h13 => ?_
      replace h11 := hs2 _ _ h11
      replace hr := hr.sub hs2
      replace hs := sub_trans hs hs2
      have hmx : (if y.1 > x.1 then y.1 else x.1) = max x.1 y.1 := by split <;> omega
      have hmn : (if y.2 < x.2 then y.2 else x.2) = min x.2 y.2 := by split <;> omega
      refine aw_sr rfl ?_  -- r15 @version.go:118
      simp only [go_sem, reduceIte, Nat.reduceEqDiff, Nat.reduceAdd, Nat.reduceMul, Nat.reduceSub, Nat.reduceLeDiff, Nat.reduceLT, reduceCtorEq, h11, h13, hmx, hmn]
      intro b14 hb14
      refine aw_box1 hb14 fun B3 hs3 h14 => ?_
      replace h11 := hs3 _ _ h11
      replace hr := hr.sub hs3
      replace hs := sub_trans hs hs3
      refine aw_sr rfl ?_  -- r16 @version.go:118
      simp only [go_sem, reduceIte, Nat.reduceEqDiff, Nat.reduceAdd, Nat.reduceMul, Nat.reduceSub, Nat.reduceLeDiff, Nat.reduceLT, reduceCtorEq, h14]
      refine aw_if rfl (fun h => ?_) (fun h => ?_)
      · have h : max x.1 y.1 ≤ min x.2 y.2 := by simpa using h
        have hi1 : int1 x y = [(max x.1 y.1, min x.2 y.2)] := if_pos h
        refine aw_rg rfl ?_  -- r17 @version.go:119
        simp only [go_sem, reduceIte, Nat.reduceEqDiff, Nat.reduceAdd, Nat.reduceMul, Nat.reduceSub, Nat.reduceLeDiff, Nat.reduceLT, reduceCtorEq, h14]
        refine goP_rm (G := G) hr hs ?_ fun t6 H6 hr6 hs6 hg6 => ?_
        · exact ⟨rfl, rfl, by decide, wid_eRg _, wid_one rfl, by simp [sca, scalarV], by simp; omega, by simp; omega⟩
        simp only [go_sem, reduceIte, Nat.reduceEqDiff, Nat.reduceAdd, Nat.reduceMul, Nat.reduceSub, Nat.reduceLeDiff, Nat.reduceLT, reduceCtorEq]
        refine ⟨(t6, H6), ⟨hr6, hs6, hg6.vars h11⟩, ?_, sub_rfl⟩
        simp only [go_sem, reduceIte, Nat.reduceEqDiff, Nat.reduceAdd, Nat.reduceMul, Nat.reduceSub, Nat.reduceLeDiff, Nat.reduceLT, reduceCtorEq]
        rw [htj, hi1, ← List.append_assoc, isE_snoc, List.map_append (l₂ := [(max x.1 y.1, min x.2 y.2)]), List.map_cons, List.map_nil, eRg, cRg]
      · have h : ¬ max x.1 y.1 ≤ min x.2 y.2 := by simpa using h
        have hi1 : int1 x y = [] := if_neg h
        refine aw_skip ⟨(t5, B3), ⟨hr, hs, h11⟩, ?_, sub_rfl⟩
        rw [htj, hi1, List.append_nil]
        exact ⟨rfl, rfl, rfl, rfl, rfl, rfl, rfl, rfl, rfl⟩
    intro ⟨t5, H⟩ ⟨hr, hs, h11⟩
    simp only at hr hs h11 ⊢
    rw [List.take_length, ← htk]
    refine ⟨(t5, H), ⟨hr, hs⟩, ?_, sub_rfl⟩
    simp only [go_sem, reduceIte, Nat.reduceEqDiff, Nat.reduceAdd, Nat.reduceMul, Nat.reduceSub, Nat.reduceLeDiff, Nat.reduceLT, reduceCtorEq]
  intro ⟨t4, H⟩ ⟨hr, hs⟩
  simp only at hr hs ⊢
  have hli := hlen a.length
  rw [List.take_length] at hli ⊢
  refine hK8 _ _ ?_
  refine aw_sr rfl ?_  -- r20 @version.go:123
  simp only [go_sem, reduceIte, Nat.reduceEqDiff, Nat.reduceAdd, Nat.reduceMul, Nat.reduceSub, Nat.reduceLeDiff, Nat.reduceLT, reduceCtorEq]
  refine goA_q (q_told (intL a b) t4 (by omega)) ?_
  simp only [go_sem, reduceIte, Nat.reduceEqDiff, Nat.reduceAdd, Nat.reduceMul, Nat.reduceSub, Nat.reduceLeDiff, Nat.reduceLT, reduceCtorEq]
  refine aw_ret ⟨trivial, _, rfl, ?_, hs⟩
  rw [hset]
  exact Vle.refl _
end Go.Proofs.Ytacecjfpkdijpaa

/- In: is a version in a set; the same ranges. No conditions but sizes. -/
set_option linter.unusedSimpArgs false
set_option linter.unusedVariables false
namespace Go.Proofs.Ytacecjfpkdijpaa
open Go.Proofs.YtacecjfpkdijpaaV
set_option maxHeartbeats 1000000
set_option maxRecDepth 100000
namespace vs
def idxF {A : Type} (f : A → Bool) (xs : List A) : Int := if xs.findIdx f < xs.length then (xs.findIdx f : Int) else -1
theorem idxF_at {A : Type} {f : A → Bool} {xs : List A} {i : Nat} (hi : i < xs.length) (h : f xs[i] = true) (hb : ∀ j (hj : j < i), f xs[j] = false) : idxF f xs = (i : Int) := by
  have e : xs.findIdx f = i := (List.findIdx_eq hi).2 ⟨h, fun j hj => hb j hj⟩
  rw [idxF, e, if_pos hi]
theorem idxF_none {A : Type} {f : A → Bool} {xs : List A} (h : ∀ j (hj : j < xs.length), f xs[j] = false) : idxF f xs = -1 := by
  rw [idxF, if_neg]
  intro hlt
  have h1 := List.findIdx_getElem (w := hlt)
  rw [h _ hlt] at h1
  cases h1
theorem idxF_any {A : Type} (f : A → Bool) (xs : List A) : decide (idxF f xs ≥ 0) = xs.any f := by
  rw [Bool.eq_iff_iff, decide_eq_true_eq, List.any_eq_true]
  constructor
  · intro h
    unfold idxF at h
    split at h
    · rename_i hlt; exact ⟨_, List.getElem_mem hlt, List.findIdx_getElem (w := hlt)⟩
    · omega
  · rintro ⟨x, hx, hf⟩
    have := List.findIdx_lt_length_of_exists ⟨x, hx, hf⟩
    rw [idxF, if_pos this]; omega
theorem q_IdxRg (H0 : Heap) (F : FuncId) (us ws : List V) (f : Rg → Bool) (xs : List Rg) (nl : Bool) (t : Tag) (hx : (xs.length : Int) ≤ 9223372036854775807)
    (hF : ∀ a ∈ xs, QuietOn Try.prog H0 F (us ++ [V.agg <| cRg a] ++ ws) (.bool (f a))) :
    QuietOn Try.prog H0 201 [.sl (xs.map eRg) nl t, .func (.func F) us ws] (.int .i64 (idxF f xs)) := by
  intro G hG
  refine acall_body (rs := [.tmp 4]) Try.func201 rfl rfl Try.ntmps201 (by kernel_rfl) (Nat.le_of_ble_eq_true rfl) ?_
  refine aw_sr rfl ?_
  simp only [go_sem, reduceIte, Nat.reduceEqDiff, Nat.reduceAdd, Nat.reduceMul, Nat.reduceSub, Nat.reduceLeDiff, Nat.reduceLT, reduceCtorEq]
  refine aw_seq fun K1 hK1 => ?_
  refine aw_sr rfl ?_
  simp only [go_sem, reduceIte, Nat.reduceEqDiff, Nat.reduceAdd, Nat.reduceMul, Nat.reduceSub, Nat.reduceLeDiff, Nat.reduceLT, reduceCtorEq]
  refine aw_range xs.length (S := {H : Heap // H = G}) (fun _ _ => [(0, .sl (xs.map eRg) nl t), (1, .func (.func F) us ws)]) (fun _ s => s.1) (fun i _ => ∀ j (h : j < xs.length), j < i → f xs[j] = false) ⟨G, rfl⟩ hx ?_ (fun _ _ h => h) (fun j _ h => absurd h (by omega)) rfl (fun _ _ => rfl) ?_ ?_ (by decide)
  · simp only [go_sem, reduceIte, Nat.reduceEqDiff, Nat.reduceAdd, Nat.reduceMul, Nat.reduceSub, Nat.reduceLeDiff, Nat.reduceLT, reduceCtorEq, Int.natCast_zero]
  · intro i ⟨H, hH⟩ hi he
    subst hH
    refine aw_sr rfl ?_
    simp only [go_sem, reduceIte, Nat.reduceEqDiff, Nat.reduceAdd, Nat.reduceMul, Nat.reduceSub, Nat.reduceLeDiff, Nat.reduceLT, reduceCtorEq]
    refine aw_sr rfl ?_
    simp only [go_sem, reduceIte, Nat.reduceEqDiff, Nat.reduceAdd, Nat.reduceMul, Nat.reduceSub, Nat.reduceLeDiff, Nat.reduceLT, reduceCtorEq, getD_map hi, eRg, cRg]
    refine ⟨⟨by omega, by omega, wid_map (g := eRg) (fun _ => by simp [eRg, cRg]) _⟩, ?_⟩
    have hq := hF _ (List.getElem_mem hi)
    refine goA_on hq hG ?_
    simp only [go_sem, reduceIte, Nat.reduceEqDiff, Nat.reduceAdd, Nat.reduceMul, Nat.reduceSub, Nat.reduceLeDiff, Nat.reduceLT, reduceCtorEq]
    refine aw_if rfl (fun h => ?_) (fun h => ?_)
    · refine aw_sr rfl ?_
      simp only [go_sem, reduceIte, Nat.reduceEqDiff, Nat.reduceAdd, Nat.reduceMul, Nat.reduceSub, Nat.reduceLeDiff, Nat.reduceLT, reduceCtorEq]
      refine aw_ret ⟨trivial, _, rfl, ?_, rfl⟩
      rw [idxF_at hi h (fun j hj => he j (by omega) hj)]
      rfl
    · refine aw_skip ⟨⟨H, rfl⟩, fun j hj hlt => ?_, ?_, fun _ _ h => h⟩
      · by_cases e : j = i
        · subst e; exact h
        · exact he j hj (by omega)
      simp only [go_sem, reduceIte, Nat.reduceEqDiff, Nat.reduceAdd, Nat.reduceMul, Nat.reduceSub, Nat.reduceLeDiff, Nat.reduceLT, reduceCtorEq]
  · intro ⟨H, hH⟩ he
    subst hH
    refine hK1 _ _ ?_
    refine aw_sr rfl ?_
    simp only [go_sem, reduceIte, Nat.reduceEqDiff, Nat.reduceAdd, Nat.reduceMul, Nat.reduceSub, Nat.reduceLeDiff, Nat.reduceLT, reduceCtorEq]
    refine aw_ret ⟨trivial, _, rfl, ?_, rfl⟩
    rw [idxF_none (fun j hj => he j hj hj)]
    rfl
theorem q_AnyRg (H0 : Heap) (F : FuncId) (us ws : List V) (f : Rg → Bool) (xs : List Rg) (nl : Bool) (t : Tag) (hx : (xs.length : Int) ≤ 9223372036854775807)
    (hF : ∀ a ∈ xs, QuietOn Try.prog H0 F (us ++ [V.agg <| cRg a] ++ ws) (.bool (f a))) :
    QuietOn Try.prog H0 152 [.sl (xs.map eRg) nl t, .func (.func F) us ws] (.bool (xs.any f)) := by
  intro G hG
  refine acall_body (rs := [.tmp 4]) Try.func152 rfl rfl Try.ntmps152 (by kernel_rfl) (Nat.le_of_ble_eq_true rfl) ?_
  refine aw_sr rfl ?_
  simp only [go_sem, reduceIte, Nat.reduceEqDiff, Nat.reduceAdd, Nat.reduceMul, Nat.reduceSub, Nat.reduceLeDiff, Nat.reduceLT, reduceCtorEq]
  refine aw_sr rfl ?_
  simp only [go_sem, reduceIte, Nat.reduceEqDiff, Nat.reduceAdd, Nat.reduceMul, Nat.reduceSub, Nat.reduceLeDiff, Nat.reduceLT, reduceCtorEq]
  refine goA_on (q_IdxRg H0 F us ws f xs nl t hx hF) hG ?_
  simp only [go_sem, reduceIte, Nat.reduceEqDiff, Nat.reduceAdd, Nat.reduceMul, Nat.reduceSub, Nat.reduceLeDiff, Nat.reduceLT, reduceCtorEq]
  refine aw_ret ⟨trivial, _, rfl, ?_, rfl⟩
  rw [← idxF_any]
  rfl
theorem q_EqualRg (xs ys : List Rg) (n1 n2 : Bool) (t1 t2 : Tag) (hx : (xs.length : Int) ≤ 9223372036854775807) : Quiet Try.prog 154 [.sl (xs.map eRg) n1 t1, .sl (ys.map eRg) n2 t2] (.bool (decide (xs = ys))) := by
  intro G
  refine acall_body (rs := [.tmp 4]) Try.func154 rfl rfl Try.ntmps154 (by kernel_rfl) (Nat.le_of_ble_eq_true rfl) ?_
  refine aw_sr rfl ?_
  simp only [go_sem, reduceIte, Nat.reduceEqDiff, Nat.reduceAdd, Nat.reduceMul, Nat.reduceSub, Nat.reduceLeDiff, Nat.reduceLT, reduceCtorEq]
  refine aw_seq fun K2 hK2 => ?_
  refine aw_sr rfl ?_
  simp only [go_sem, reduceIte, Nat.reduceEqDiff, Nat.reduceAdd, Nat.reduceMul, Nat.reduceSub, Nat.reduceLeDiff, Nat.reduceLT, reduceCtorEq]
  refine aw_if rfl (fun h => ?_) (fun h => ?_)
  · refine aw_sr rfl ?_
    simp only [go_sem, reduceIte, Nat.reduceEqDiff, Nat.reduceAdd, Nat.reduceMul, Nat.reduceSub, Nat.reduceLeDiff, Nat.reduceLT, reduceCtorEq]
    refine aw_ret ⟨trivial, _, rfl, ?_⟩
    simp only [decide_eq_true_eq, ne_eq, Int.natCast_inj] at h
    refine ⟨?_, rfl⟩
    rw [decide_eq_false (fun e => h (by rw [e]))]
    rfl
  · refine aw_skip (hK2 _ _ ?_)
    have hl : xs.length = ys.length := by simpa [Int.natCast_inj] using h
    refine aw_seq fun K3 hK3 => ?_
    refine aw_sr rfl ?_
    simp only [go_sem, reduceIte, Nat.reduceEqDiff, Nat.reduceAdd, Nat.reduceMul, Nat.reduceSub, Nat.reduceLeDiff, Nat.reduceLT, reduceCtorEq]
    refine aw_range xs.length (S := Unit) (fun _ _ => [(0, .sl (xs.map eRg) n1 t1), (1, .sl (ys.map eRg) n2 t2)]) (fun _ _ => G) (fun i _ => xs.take i = ys.take i) () hx ?_ (fun _ _ h => h) rfl rfl (fun _ _ => rfl) ?_ ?_ (by decide)
    · simp only [go_sem, reduceIte, Nat.reduceEqDiff, Nat.reduceAdd, Nat.reduceMul, Nat.reduceSub, Nat.reduceLeDiff, Nat.reduceLT, reduceCtorEq]
    · intro i _ hi he
      refine aw_sr rfl ?_
      simp only [go_sem, reduceIte, Nat.reduceEqDiff, Nat.reduceAdd, Nat.reduceMul, Nat.reduceSub, Nat.reduceLeDiff, Nat.reduceLT, reduceCtorEq]
      refine aw_srd [(0,true),(1,true),(2,true),(3,true),(4,true),(5,true),(6,true),(7,true),(8,true)] mixed rfl (by kernel_rfl) ?_
      simp only [go_sem, reduceIte, Nat.reduceEqDiff, Nat.reduceAdd, Nat.reduceMul, Nat.reduceSub, Nat.reduceLeDiff, Nat.reduceLT, reduceCtorEq, getD_map hi, getD_map (hl ▸ hi), eRg, cRg]
      refine ⟨⟨by omega, by omega, wid_map (g := eRg) (fun _ => rfl) _⟩, ⟨by omega, by omega, wid_map (g := eRg) (fun _ => rfl) _⟩, ?_⟩
      refine aw_if rfl (fun h => ?_) (fun h => ?_)
      · refine aw_sr rfl ?_
        simp only [go_sem, reduceIte, Nat.reduceEqDiff, Nat.reduceAdd, Nat.reduceMul, Nat.reduceSub, Nat.reduceLeDiff, Nat.reduceLT, reduceCtorEq]
        refine aw_ret ⟨trivial, _, rfl, ?_⟩
        refine ⟨?_, rfl⟩
        have h : ¬ xs[i] = ys[i]'(hl ▸ hi) := fun e => by rw [e] at h; simp at h
        rw [decide_eq_false (fun e => h (by subst e; rfl))]
        rfl
      · have h : xs[i] = ys[i]'(hl ▸ hi) := by
          have h2 : xs[i].1 = (ys[i]'(hl ▸ hi)).1 ∧ xs[i].2 = (ys[i]'(hl ▸ hi)).2 := by simpa using h
          exact Prod.ext h2.1 h2.2
        refine aw_skip ⟨(), ?_, ?_, fun _ _ h => h⟩
        · rw [List.take_succ_eq_append_getElem hi, List.take_succ_eq_append_getElem (hl ▸ hi), he, h]
        · simp only [go_sem, reduceIte, Nat.reduceEqDiff, Nat.reduceAdd, Nat.reduceMul, Nat.reduceSub, Nat.reduceLeDiff, Nat.reduceLT, reduceCtorEq]
    · intro _ he
      refine hK3 _ _ ?_
      refine aw_sr rfl ?_
      simp only [go_sem, reduceIte, Nat.reduceEqDiff, Nat.reduceAdd, Nat.reduceMul, Nat.reduceSub, Nat.reduceLeDiff, Nat.reduceLT, reduceCtorEq]
      refine aw_ret ⟨trivial, _, rfl, ?_⟩
      rw [List.take_length, hl, List.take_length] at he
      subst he
      rw [decide_eq_true rfl]
      exact ⟨rfl, rfl⟩
end vs
theorem q_In1 (b : Nat) (v : Int) (r : Rg) : QuietOn Try.prog [(b, .vars [.int .i64 v])] 153 [.agg (cRg r), .ptr b 0] (.bool (decide (r.1 ≤ v) && decide (v ≤ r.2))) := by
  refine QuietOn.weak fun G hG => ?_
  have h3 := hG _ _ (hget_self _ _ _)
  refine acall_body (rs := [.tmp 3]) Try.func153 rfl rfl Try.ntmps153 (by kernel_rfl) (Nat.le_of_ble_eq_true rfl) ?_
  refine aw_sr rfl ?_  -- r0 @version.go:63
  simp only [go_sem, reduceIte, Nat.reduceEqDiff, Nat.reduceAdd, Nat.reduceMul, Nat.reduceSub, Nat.reduceLeDiff, Nat.reduceLT, reduceCtorEq, cRg]
  intro b2 hb2
  refine aw_box1 hb2 fun B1 hs1 h2 => ?_
  replace h3 := hs1 _ _ h3
  refine aw_sr rfl ?_  -- r1 @version.go:63
  simp only [go_sem, reduceIte, Nat.reduceEqDiff, Nat.reduceAdd, Nat.reduceMul, Nat.reduceSub, Nat.reduceLeDiff, Nat.reduceLT, reduceCtorEq, h2, h3]
  exact aw_ret ⟨trivial, _, rfl, Vle.refl _, hs1⟩
theorem q_In (l : List Rg) (nl : Bool) (t : Tag) (v : Int) (hl : l.length ≤ 1048576) : Quiet Try.prog 79 [.sl (l.map eRg) nl t, .int .i64 v] (.bool (inR v l)) := by
  refine Quiet.weak fun G => ?_
  refine acall_body (rs := [.tmp 4]) Try.func79 rfl rfl Try.ntmps79 (by kernel_rfl) (Nat.le_of_ble_eq_true rfl) ?_
  refine aw_sr rfl ?_  -- r0 @version.go:62
  simp only [go_sem, reduceIte, Nat.reduceEqDiff, Nat.reduceAdd, Nat.reduceMul, Nat.reduceSub, Nat.reduceLeDiff, Nat.reduceLT, reduceCtorEq]
  intro b3 hb3
  refine aw_box1 hb3 fun B1 hs1 h3 => ?_
  have hsB := hs1
  refine aw_sr rfl ?_  -- r1 @version.go:63
  simp only [go_sem, reduceIte, Nat.reduceEqDiff, Nat.reduceAdd, Nat.reduceMul, Nat.reduceSub, Nat.reduceLeDiff, Nat.reduceLT, reduceCtorEq, h3]
  refine goA_on (vs.q_AnyRg [(b3, .vars [.int .i64 v])] _ [] [.ptr b3 0] (fun r => decide (r.1 ≤ v) && decide (v ≤ r.2)) l nl t (by omega) fun r _ => q_In1 b3 v r) (sub_one h3) ?_
  simp only [go_sem, reduceIte, Nat.reduceEqDiff, Nat.reduceAdd, Nat.reduceMul, Nat.reduceSub, Nat.reduceLeDiff, Nat.reduceLT, reduceCtorEq, h3]
  exact aw_ret ⟨trivial, _, rfl, Vle.refl _, hsB⟩
theorem q_sameRanges (a b : List Rg) (n1 n2 : Bool) (t1 t2 : Tag) (ha : a.length ≤ 1048576) : Quiet Try.prog 80 [.sl (a.map eRg) n1 t1, .sl (b.map eRg) n2 t2] (.bool (decide (a = b))) := by
  refine Quiet.weak fun G => ?_
  refine acall_body (rs := [.tmp 4]) Try.func80 rfl rfl Try.ntmps80 (by kernel_rfl) (Nat.le_of_ble_eq_true rfl) ?_
  refine aw_sr rfl ?_  -- r0 @high.go:28
  simp only [go_sem, reduceIte, Nat.reduceEqDiff, Nat.reduceAdd, Nat.reduceMul, Nat.reduceSub, Nat.reduceLeDiff, Nat.reduceLT, reduceCtorEq]
  refine aw_sr rfl ?_  -- r1 @high.go:28
  simp only [go_sem, reduceIte, Nat.reduceEqDiff, Nat.reduceAdd, Nat.reduceMul, Nat.reduceSub, Nat.reduceLeDiff, Nat.reduceLT, reduceCtorEq]
  refine goA_q (q_pairs a n1 t1 ha) ?_
  simp only [go_sem, reduceIte, Nat.reduceEqDiff, Nat.reduceAdd, Nat.reduceMul, Nat.reduceSub, Nat.reduceLeDiff, Nat.reduceLT, reduceCtorEq]
  refine goA_q (vs.q_EqualRg a b _ _ _ _ (by omega)) ?_
  simp only [go_sem, reduceIte, Nat.reduceEqDiff, Nat.reduceAdd, Nat.reduceMul, Nat.reduceSub, Nat.reduceLeDiff, Nat.reduceLT, reduceCtorEq]
  exact aw_ret ⟨trivial, _, rfl, Vle.refl _, sub_rfl⟩
end Go.Proofs.Ytacecjfpkdijpaa

/- VersionAlgebra: the law, over data. No conditions but sizes. -/
set_option linter.unusedSimpArgs false
set_option linter.unusedVariables false
namespace Go.Proofs.Ytacecjfpkdijpaa
open Go.Proofs.YtacecjfpkdijpaaV
set_option maxHeartbeats 2000000
set_option maxRecDepth 100000
theorem toldF_len (l : List Rg) : (toldF l).1.length ≤ 50 := by
  unfold toldF
  split
  · simp
  · simp only; omega
theorem notR_len (l : List Rg) : (notR l).1.length ≤ 50 := by
  unfold notR
  split
  · simp
  · exact toldF_len _
theorem twoR_len (a b : List Rg) (c : Bool) : (twoR a b c).1.length ≤ 50 := by
  unfold twoR
  split
  · simp
  · split
    · simp
    · exact toldF_len _
theorem law0_VersionAlgebra (a b : List Rg) (n1 n2 : Bool) (ha : a.length ≤ 1048576) (hb : b.length ≤ 1048576) : Quiet Try.prog 14 [.sl (a.map eRg) n1 .no, .sl (b.map eRg) n2 .no] (.bool true) := by
  have l1 := notR_len a
  have l2 := twoR_len a b false
  have l3 := twoR_len a b true
  refine Quiet.weak fun G => ?_
  refine acall_body (rs := [.tmp 4]) Try.func14 rfl rfl Try.ntmps14 (by kernel_rfl) (Nat.le_of_ble_eq_true rfl) ?_
  refine aw_sr rfl ?_  -- r0 @high.go:53
  simp only [go_sem, reduceIte, Nat.reduceEqDiff, Nat.reduceAdd, Nat.reduceMul, Nat.reduceSub, Nat.reduceLeDiff, Nat.reduceLT, reduceCtorEq]
  refine aw_sr rfl ?_  -- r1 @high.go:54
  simp only [go_sem, reduceIte, Nat.reduceEqDiff, Nat.reduceAdd, Nat.reduceMul, Nat.reduceSub, Nat.reduceLeDiff, Nat.reduceLT, reduceCtorEq]
  refine goA_q (q_Not a n1 .no ha) ?_
  simp only [go_sem, reduceIte, Nat.reduceEqDiff, Nat.reduceAdd, Nat.reduceMul, Nat.reduceSub, Nat.reduceLeDiff, Nat.reduceLT, reduceCtorEq]
  refine aw_sr rfl ?_  -- r2 @high.go:55
  simp only [go_sem, reduceIte, Nat.reduceEqDiff, Nat.reduceAdd, Nat.reduceMul, Nat.reduceSub, Nat.reduceLeDiff, Nat.reduceLT, reduceCtorEq]
  refine goA_q (q_pairs a n1 .no ha) ?_
  simp only [go_sem, reduceIte, Nat.reduceEqDiff, Nat.reduceAdd, Nat.reduceMul, Nat.reduceSub, Nat.reduceLeDiff, Nat.reduceLT, reduceCtorEq]
  refine goA_q (q_VersionNot a _ .no ha) ?_
  simp only [go_sem, reduceIte, Nat.reduceEqDiff, Nat.reduceAdd, Nat.reduceMul, Nat.reduceSub, Nat.reduceLeDiff, Nat.reduceLT, reduceCtorEq]
  refine aw_sr rfl ?_  -- r3 @high.go:56
  simp only [go_sem, reduceIte, Nat.reduceEqDiff, Nat.reduceAdd, Nat.reduceMul, Nat.reduceSub, Nat.reduceLeDiff, Nat.reduceLT, reduceCtorEq]
  refine goA_q (q_Either a b n1 n2 ha hb) ?_
  simp only [go_sem, reduceIte, Nat.reduceEqDiff, Nat.reduceAdd, Nat.reduceMul, Nat.reduceSub, Nat.reduceLeDiff, Nat.reduceLT, reduceCtorEq]
  refine aw_sr rfl ?_  -- r4 @high.go:57
  simp only [go_sem, reduceIte, Nat.reduceEqDiff, Nat.reduceAdd, Nat.reduceMul, Nat.reduceSub, Nat.reduceLeDiff, Nat.reduceLT, reduceCtorEq]
  refine goA_q (q_pairs a n1 .no ha) ?_
  simp only [go_sem, reduceIte, Nat.reduceEqDiff, Nat.reduceAdd, Nat.reduceMul, Nat.reduceSub, Nat.reduceLeDiff, Nat.reduceLT, reduceCtorEq]
  refine goA_q (q_pairs b n2 .no hb) ?_
  simp only [go_sem, reduceIte, Nat.reduceEqDiff, Nat.reduceAdd, Nat.reduceMul, Nat.reduceSub, Nat.reduceLeDiff, Nat.reduceLT, reduceCtorEq]
  refine goA_q (q_VersionTwo a b _ _ .no .no false ha hb) ?_
  simp only [go_sem, reduceIte, Nat.reduceEqDiff, Nat.reduceAdd, Nat.reduceMul, Nat.reduceSub, Nat.reduceLeDiff, Nat.reduceLT, reduceCtorEq]
  refine aw_sr rfl ?_  -- r5 @high.go:58
  simp only [go_sem, reduceIte, Nat.reduceEqDiff, Nat.reduceAdd, Nat.reduceMul, Nat.reduceSub, Nat.reduceLeDiff, Nat.reduceLT, reduceCtorEq]
  refine goA_q (q_Both a b n1 n2 ha hb) ?_
  simp only [go_sem, reduceIte, Nat.reduceEqDiff, Nat.reduceAdd, Nat.reduceMul, Nat.reduceSub, Nat.reduceLeDiff, Nat.reduceLT, reduceCtorEq]
  refine aw_sr rfl ?_  -- r6 @high.go:59
  simp only [go_sem, reduceIte, Nat.reduceEqDiff, Nat.reduceAdd, Nat.reduceMul, Nat.reduceSub, Nat.reduceLeDiff, Nat.reduceLT, reduceCtorEq]
  refine goA_q (q_pairs a n1 .no ha) ?_
  simp only [go_sem, reduceIte, Nat.reduceEqDiff, Nat.reduceAdd, Nat.reduceMul, Nat.reduceSub, Nat.reduceLeDiff, Nat.reduceLT, reduceCtorEq]
  refine goA_q (q_pairs b n2 .no hb) ?_
  simp only [go_sem, reduceIte, Nat.reduceEqDiff, Nat.reduceAdd, Nat.reduceMul, Nat.reduceSub, Nat.reduceLeDiff, Nat.reduceLT, reduceCtorEq]
  refine goA_q (q_VersionTwo a b _ _ .no .no true ha hb) ?_
  simp only [go_sem, reduceIte, Nat.reduceEqDiff, Nat.reduceAdd, Nat.reduceMul, Nat.reduceSub, Nat.reduceLeDiff, Nat.reduceLT, reduceCtorEq]
  generalize notR a = x at l1
  generalize twoR a b false = y at l2
  generalize twoR a b true = z at l3
  refine aw_sr rfl ?_  -- r7 @high.go:60
  simp only [go_sem, reduceIte, Nat.reduceEqDiff, Nat.reduceAdd, Nat.reduceMul, Nat.reduceSub, Nat.reduceLeDiff, Nat.reduceLT, reduceCtorEq]
  refine goA_q (q_sameRanges x.1 x.1 _ _ _ _ (by omega)) ?_
  simp only [go_sem, reduceIte, Nat.reduceEqDiff, Nat.reduceAdd, Nat.reduceMul, Nat.reduceSub, Nat.reduceLeDiff, Nat.reduceLT, reduceCtorEq]
  refine goH_q (fun hg => q_sameRanges y.1 y.1 _ _ _ _ (by omega)) ?_
  simp only [go_sem, reduceIte, Nat.reduceEqDiff, Nat.reduceAdd, Nat.reduceMul, Nat.reduceSub, Nat.reduceLeDiff, Nat.reduceLT, reduceCtorEq]
  refine goH_q (fun hg => q_sameRanges z.1 z.1 _ _ _ _ (by omega)) ?_
  simp only [go_sem, reduceIte, Nat.reduceEqDiff, Nat.reduceAdd, Nat.reduceMul, Nat.reduceSub, Nat.reduceLeDiff, Nat.reduceLT, reduceCtorEq]
  refine aw_ret ⟨trivial, _, rfl, ?_, sub_rfl⟩
  exact Vle.refl _
end Go.Proofs.Ytacecjfpkdijpaa

/- VersionAlgebra: the law, over its arguments as data. -/
namespace Go.Proofs.Ytacecjfpkdijpaa.versionAlgebra
open Go.Proofs.YtacecjfpkdijpaaV
set_option linter.unusedVariables false
set_option maxRecDepth 100000
theorem law (x0 : D180) (x1 : D180) (q0 : o180 x0) (q1 : o180 x1) : Quiet Try.prog 14 [.sl (x0.1.map e189) x0.2 .no, .sl (x1.1.map e189) x1.2 .no] (.bool true) :=
  law0_VersionAlgebra x0.1 x1.1 x0.2 x1.2 q0.2.1 q1.2.1
end Go.Proofs.Ytacecjfpkdijpaa.versionAlgebra

/- 'roadlaw5.VersionAlgebra' returns true for every input whose bulk is at most 1048576 values and letters (the statement's own bound): . No other condition. -/
set_option linter.unusedSimpArgs false
set_option linter.unusedVariables false
set_option maxRecDepth 100000
namespace Go.Proofs.Ytacecjfpkdijpaa.versionAlgebra
open Go.ChangeShapes Go.WideShapes Go.ChangeAt Go.RowKit
open Go.Proofs.YtacecjfpkdijpaaV
theorem own : ownKnob Try.prog.godebug = none := by kernel_rfl
theorem laidOut : laidOutB Try.prog = true := by kernel_rfl
theorem uBool : Try.prog.underlying 4 = some .bool := by kernel_rfl
theorem typed {xs : List V} (h : TyAll Try.prog [180, 180] xs) (hs : vszL xs ≤ 1048576) : Quiet Try.prog 14 xs (.bool true) := by
  obtain ⟨x0, x1, rfl, q0, q1⟩ := args h hs
  exact law x0 x1 q0 q1
theorem contract (H : Type) (enc : TypeId × Value → H) (W : World) (base : Nat) (args : Array Value) (ds gs : List (DataW H)) (before : List MemPlace)
    (hval : ∀ (j : Nat) t v, Try.f14.params[j]? = some t → args[j]? = some v → Value.okWide Try.prog W .any base t v)
    (hW : DataW.Whole enc Try.prog Try.f14.params.toList Rows.versionAlgebraSpec.vars false W args.toList ds gs before) (hk : Rows.uptoSmall H (ds ++ gs) = true) :
    Calls Try.prog 14 args W fun e W' => ∃ v, e = .returned v ∧ Rows.versionAlgebraSpec.post enc Try.prog Try.f14 false true false false W args v W' := by
  have hW' := hW
  obtain ⟨p, q, hA0, hV, rfl, hfz, hnd⟩ := hW
  have hA : DataW.TrodAll enc Try.prog W 0 (fun _ => true) true Try.f14.params.toList args.toList ds p := hA0
  obtain ⟨rfl, rfl⟩ := trodVars_none hV
  rw [Try.params14] at hA hval
  obtain ⟨xs, hr, ht, hs⟩ := trod_all (fun j t v hj hv => hval j t v (by simpa using hj) (by simpa using hv)) hA
  have hk' : Rows.uptoBulkAll (ds ++ []) ≤ 1048576 := of_decide_eq_true hk
  rw [List.append_nil] at hk'
  have hq := typed ht (Nat.le_trans hs hk')
  refine (ACall.calls (hq []) Try.func14 rfl rfl hr).mono fun e W' ⟨v, he, bel, M', x, G', hx, hxe, _⟩ => ?_
  subst hxe
  have hv := hx.bool_inv
  subst he hv
  have hst := trod_stays laidOut bel (by kernel_rfl) hA
  obtain ⟨v0, vs0, d0, ds0, p0, q0, hargs, rfl, rfl, h0, r0⟩ := trodAll_cons hA
  obtain ⟨v1, vs1, d1, ds1, p1, q1, rfl, rfl, rfl, h1, r1⟩ := trodAll_cons r0
  obtain ⟨rfl, rfl, rfl⟩ := trodAll_nil r1
  exact ⟨_, rfl, _, _, _, [], _, [], hW', trodAll_mk1 (shut_bool uBool _), hst, rfl, bel.frame _, fun h => by cases h⟩
set_option maxRecDepth 100000 in
theorem lifted (os : Os) (started : os.Started) (H : Type) (enc : TypeId × Value → H) (F : Stop.Interp) :
    ReturnsInHanded {} Try.checked os 14 .any ((Rows.OpenSpec.upto Rows.versionAlgebraSpec).pre6 enc Try.prog Try.f14 Rows.versionAlgebraUptoRow.domain false) (((Rows.OpenSpec.upto Rows.versionAlgebraSpec).at F).post enc Try.prog Try.f14 false true false false) := by
  refine returnsInHanded_of_cond (C := Try.checked) (s := Rows.OpenSpec.upto Rows.versionAlgebraSpec) (k := Rows.uptoSmall) rfl own started (by kernel_rfl) Try.func14
    (OpenSpec.witness (enc := enc) (C := Try.checked) (s := Rows.OpenSpec.upto Rows.versionAlgebraSpec) (k := Rows.uptoSmall) rfl false ⟨#[], #[(.slice none 0 0), (.slice none 0 0)], []⟩ 8 (by kernel_rfl) (by kernel_rfl) (by kernel_rfl)
      (x := ([.nil, .nil], [], [])) (by kernel_rfl) rfl (by kernel_rfl)) ?_
  intro W base args ds gs before hval hW _ hk _
  exact contract H enc W base args ds gs before hval hW hk
set_option maxHeartbeats 4000000 in
theorem joined : joinedFacts Try.pinned.checked.prog 14 Try.f14 (Rows.OpenSpec.upto Rows.versionAlgebraSpec).bare Rows.versionAlgebraUptoRow = true := by
  unfold joinedFacts
  simp only [Bool.and_eq_true]
  repeat' apply And.intro
  all_goals (as_aux_lemma => kernel_rfl)
theorem over : Rows.versionAlgebraUptoRow.holds Try.pinned (Rows.OpenSpec.upto Rows.versionAlgebraSpec) :=
  OpenClaim.holds_of_cond 14 Try.f14 rfl rfl rfl rfl rfl rfl rfl ⟨rfl, rfl, rfl, rfl, rfl⟩ rfl rfl rfl rfl rfl (by kernel_rfl) Try.func14 joined
    (of_decide_eq_true (by kernel_rfl)) (by unfold Func.isWrapper; first | (rw [if_pos (by decide +kernel)]; kernel_rfl) | (rw [if_neg (by decide +kernel)]; exact ⟨rfl, rfl⟩))
    (fun os started H enc _ F => lifted os started H enc F)
theorem proved : Rows.VersionAlgebraUptoSaid := over
#print axioms proved
end Go.Proofs.Ytacecjfpkdijpaa.versionAlgebra
