/- Part 4 of a proof laid in parts; each part's own comment says what it proves and under which conditions. -/
import Derived.Test.YtacecjfpkdijpaaXq3
import Derived.Test.YtacecjfpkdijpaaProg
import Derived.Shelf.Strings.OnBuilder
import Derived.Ground.NamesProg
import Derived.Shelf.SlGeneric
import Derived.Test.YtacecjfpkdijpaaChecked
import Derived.Test.YtacecjfpkdijpaaRows
import Derived.WalkKit
import Derived.ProofKit
import Derived.OpenShut
import Derived.JoinedCond
/- Closed facts about the program's types, each evaluated by the kernel; no conditions. -/
namespace Go.Proofs.Ytacecjfpkdijpaa
open Go.Proofs.YtacecjfpkdijpaaV
theorem mixed : Try.prog.follows .mixedOrders = true := by kernel_rfl
@[go_sem] theorem ty_ag105 : tagg Try.prog 105 = some false := by kernel_rfl
@[go_sem] theorem ty_ag106 : tagg Try.prog 106 = some false := by kernel_rfl
@[go_sem] theorem ty_ag108 : tagg Try.prog 108 = some true := by kernel_rfl
@[go_sem] theorem ty_ag112 : tagg Try.prog 112 = some true := by kernel_rfl
@[go_sem] theorem ty_ag124 : tagg Try.prog 124 = some true := by kernel_rfl
@[go_sem] theorem ty_ag125 : tagg Try.prog 125 = some false := by kernel_rfl
@[go_sem] theorem ty_ag127 : tagg Try.prog 127 = some true := by kernel_rfl
@[go_sem] theorem ty_ag131 : tagg Try.prog 131 = some false := by kernel_rfl
@[go_sem] theorem ty_ag133 : tagg Try.prog 133 = some true := by kernel_rfl
@[go_sem] theorem ty_ag137 : tagg Try.prog 137 = some true := by kernel_rfl
@[go_sem] theorem ty_ag138 : tagg Try.prog 138 = some false := by kernel_rfl
@[go_sem] theorem ty_ag140 : tagg Try.prog 140 = some true := by kernel_rfl
@[go_sem] theorem ty_ag145 : tagg Try.prog 145 = some false := by kernel_rfl
@[go_sem] theorem ty_ag147 : tagg Try.prog 147 = some true := by kernel_rfl
@[go_sem] theorem ty_ag151 : tagg Try.prog 151 = some true := by kernel_rfl
@[go_sem] theorem ty_ag156 : tagg Try.prog 156 = some false := by kernel_rfl
@[go_sem] theorem ty_ag158 : tagg Try.prog 158 = some true := by kernel_rfl
@[go_sem] theorem ty_ag167 : tagg Try.prog 167 = some true := by kernel_rfl
@[go_sem] theorem ty_ag170 : tagg Try.prog 170 = some false := by kernel_rfl
@[go_sem] theorem ty_ag175 : tagg Try.prog 175 = some true := by kernel_rfl
@[go_sem] theorem ty_ag178 : tagg Try.prog 178 = some true := by kernel_rfl
@[go_sem] theorem ty_ag180 : tagg Try.prog 180 = some false := by kernel_rfl
@[go_sem] theorem ty_ag189 : tagg Try.prog 189 = some true := by kernel_rfl
@[go_sem] theorem ty_ag199 : tagg Try.prog 199 = some false := by kernel_rfl
@[go_sem] theorem ty_ag206 : tagg Try.prog 206 = some false := by kernel_rfl
@[go_sem] theorem ty_ag207 : tagg Try.prog 207 = some false := by kernel_rfl
@[go_sem] theorem ty_ag212 : tagg Try.prog 212 = some false := by kernel_rfl
@[go_sem] theorem ty_ag214 : tagg Try.prog 214 = some true := by kernel_rfl
@[go_sem] theorem ty_ag216 : tagg Try.prog 216 = some true := by kernel_rfl
@[go_sem] theorem ty_ag218 : tagg Try.prog 218 = some true := by kernel_rfl
@[go_sem] theorem ty_ag22 : tagg Try.prog 22 = some false := by kernel_rfl
@[go_sem] theorem ty_ag220 : tagg Try.prog 220 = some true := by kernel_rfl
@[go_sem] theorem ty_ag227 : tagg Try.prog 227 = some false := by kernel_rfl
@[go_sem] theorem ty_ag229 : tagg Try.prog 229 = some true := by kernel_rfl
@[go_sem] theorem ty_ag231 : tagg Try.prog 231 = some true := by kernel_rfl
@[go_sem] theorem ty_ag24 : tagg Try.prog 24 = some false := by kernel_rfl
@[go_sem] theorem ty_ag242 : tagg Try.prog 242 = some false := by kernel_rfl
@[go_sem] theorem ty_ag245 : tagg Try.prog 245 = some true := by kernel_rfl
@[go_sem] theorem ty_ag247 : tagg Try.prog 247 = some false := by kernel_rfl
@[go_sem] theorem ty_ag248 : tagg Try.prog 248 = some false := by kernel_rfl
@[go_sem] theorem ty_ag249 : tagg Try.prog 249 = some false := by kernel_rfl
@[go_sem] theorem ty_ag252 : tagg Try.prog 252 = some false := by kernel_rfl
@[go_sem] theorem ty_ag253 : tagg Try.prog 253 = some false := by kernel_rfl
@[go_sem] theorem ty_ag254 : tagg Try.prog 254 = some false := by kernel_rfl
@[go_sem] theorem ty_ag256 : tagg Try.prog 256 = some true := by kernel_rfl
@[go_sem] theorem ty_ag259 : tagg Try.prog 259 = some false := by kernel_rfl
@[go_sem] theorem ty_ag260 : tagg Try.prog 260 = some false := by kernel_rfl
@[go_sem] theorem ty_ag265 : tagg Try.prog 265 = some false := by kernel_rfl
@[go_sem] theorem ty_ag266 : tagg Try.prog 266 = some false := by kernel_rfl
@[go_sem] theorem ty_ag267 : tagg Try.prog 267 = some false := by kernel_rfl
@[go_sem] theorem ty_ag268 : tagg Try.prog 268 = some false := by kernel_rfl
@[go_sem] theorem ty_ag269 : tagg Try.prog 269 = some false := by kernel_rfl
@[go_sem] theorem ty_ag270 : tagg Try.prog 270 = some false := by kernel_rfl
@[go_sem] theorem ty_ag271 : tagg Try.prog 271 = some false := by kernel_rfl
@[go_sem] theorem ty_ag273 : tagg Try.prog 273 = some true := by kernel_rfl
@[go_sem] theorem ty_ag275 : tagg Try.prog 275 = some true := by kernel_rfl
@[go_sem] theorem ty_ag276 : tagg Try.prog 276 = some false := by kernel_rfl
@[go_sem] theorem ty_ag277 : tagg Try.prog 277 = some false := by kernel_rfl
@[go_sem] theorem ty_ag279 : tagg Try.prog 279 = some false := by kernel_rfl
@[go_sem] theorem ty_ag282 : tagg Try.prog 282 = some false := by kernel_rfl
@[go_sem] theorem ty_ag283 : tagg Try.prog 283 = some false := by kernel_rfl
@[go_sem] theorem ty_ag284 : tagg Try.prog 284 = some false := by kernel_rfl
@[go_sem] theorem ty_ag289 : tagg Try.prog 289 = some false := by kernel_rfl
@[go_sem] theorem ty_ag293 : tagg Try.prog 293 = some false := by kernel_rfl
@[go_sem] theorem ty_ag295 : tagg Try.prog 295 = some true := by kernel_rfl
@[go_sem] theorem ty_ag3 : tagg Try.prog 3 = some false := by kernel_rfl
@[go_sem] theorem ty_ag300 : tagg Try.prog 300 = some true := by kernel_rfl
@[go_sem] theorem ty_ag307 : tagg Try.prog 307 = some false := by kernel_rfl
@[go_sem] theorem ty_ag311 : tagg Try.prog 311 = some true := by kernel_rfl
@[go_sem] theorem ty_ag32 : tagg Try.prog 32 = some false := by kernel_rfl
@[go_sem] theorem ty_ag322 : tagg Try.prog 322 = some false := by kernel_rfl
@[go_sem] theorem ty_ag34 : tagg Try.prog 34 = some true := by kernel_rfl
@[go_sem] theorem ty_ag347 : tagg Try.prog 347 = some true := by kernel_rfl
@[go_sem] theorem ty_ag349 : tagg Try.prog 349 = some true := by kernel_rfl
@[go_sem] theorem ty_ag361 : tagg Try.prog 361 = some true := by kernel_rfl
@[go_sem] theorem ty_ag368 : tagg Try.prog 368 = some true := by kernel_rfl
@[go_sem] theorem ty_ag379 : tagg Try.prog 379 = some false := by kernel_rfl
@[go_sem] theorem ty_ag38 : tagg Try.prog 38 = some false := by kernel_rfl
@[go_sem] theorem ty_ag396 : tagg Try.prog 396 = some false := by kernel_rfl
@[go_sem] theorem ty_ag4 : tagg Try.prog 4 = some false := by kernel_rfl
@[go_sem] theorem ty_ag426 : tagg Try.prog 426 = some false := by kernel_rfl
@[go_sem] theorem ty_ag43 : tagg Try.prog 43 = some false := by kernel_rfl
@[go_sem] theorem ty_ag45 : tagg Try.prog 45 = some true := by kernel_rfl
@[go_sem] theorem ty_ag5 : tagg Try.prog 5 = some false := by kernel_rfl
@[go_sem] theorem ty_ag50 : tagg Try.prog 50 = some false := by kernel_rfl
@[go_sem] theorem ty_ag51 : tagg Try.prog 51 = some false := by kernel_rfl
@[go_sem] theorem ty_ag52 : tagg Try.prog 52 = some false := by kernel_rfl
@[go_sem] theorem ty_ag53 : tagg Try.prog 53 = some false := by kernel_rfl
@[go_sem] theorem ty_ag54 : tagg Try.prog 54 = some false := by kernel_rfl
@[go_sem] theorem ty_ag56 : tagg Try.prog 56 = some true := by kernel_rfl
@[go_sem] theorem ty_ag59 : tagg Try.prog 59 = some false := by kernel_rfl
@[go_sem] theorem ty_ag60 : tagg Try.prog 60 = some false := by kernel_rfl
@[go_sem] theorem ty_ag61 : tagg Try.prog 61 = some false := by kernel_rfl
@[go_sem] theorem ty_ag63 : tagg Try.prog 63 = some true := by kernel_rfl
@[go_sem] theorem ty_ag65 : tagg Try.prog 65 = some true := by kernel_rfl
@[go_sem] theorem ty_ag73 : tagg Try.prog 73 = some false := by kernel_rfl
@[go_sem] theorem ty_ag74 : tagg Try.prog 74 = some false := by kernel_rfl
@[go_sem] theorem ty_ag75 : tagg Try.prog 75 = some false := by kernel_rfl
@[go_sem] theorem ty_ag76 : tagg Try.prog 76 = some false := by kernel_rfl
@[go_sem] theorem ty_ag77 : tagg Try.prog 77 = some false := by kernel_rfl
@[go_sem] theorem ty_ag79 : tagg Try.prog 79 = some true := by kernel_rfl
@[go_sem] theorem ty_ag84 : tagg Try.prog 84 = some false := by kernel_rfl
@[go_sem] theorem ty_ag86 : tagg Try.prog 86 = some true := by kernel_rfl
@[go_sem] theorem ty_ag87 : tagg Try.prog 87 = some true := by kernel_rfl
@[go_sem] theorem ty_ag9 : tagg Try.prog 9 = some false := by kernel_rfl
@[go_sem] theorem ty_ag94 : tagg Try.prog 94 = some true := by kernel_rfl
@[go_sem] theorem ty_ag98 : tagg Try.prog 98 = some true := by kernel_rfl
@[go_sem] theorem ty_ar327 : tarray Try.prog 327 = some (2, 170, 1) := by kernel_rfl
@[go_sem] theorem ty_ar340 : tarray Try.prog 340 = some (2, 180, 1) := by kernel_rfl
@[go_sem] theorem ty_ar87 : tarray Try.prog 87 = some (2, 3, 1) := by kernel_rfl
@[go_sem] theorem ty_by108 : tbytes Try.prog 108 = some 56 := by kernel_rfl
@[go_sem] theorem ty_by112 : tbytes Try.prog 112 = some 56 := by kernel_rfl
@[go_sem] theorem ty_by124 : tbytes Try.prog 124 = some 80 := by kernel_rfl
@[go_sem] theorem ty_by138 : tbytes Try.prog 138 = some 24 := by kernel_rfl
@[go_sem] theorem ty_by140 : tbytes Try.prog 140 = some 16 := by kernel_rfl
@[go_sem] theorem ty_by178 : tbytes Try.prog 178 = some 32 := by kernel_rfl
@[go_sem] theorem ty_by189 : tbytes Try.prog 189 = some 16 := by kernel_rfl
@[go_sem] theorem ty_by22 : tbytes Try.prog 22 = some 24 := by kernel_rfl
@[go_sem] theorem ty_by24 : tbytes Try.prog 24 = some 8 := by kernel_rfl
@[go_sem] theorem ty_by245 : tbytes Try.prog 245 = some 32 := by kernel_rfl
@[go_sem] theorem ty_by256 : tbytes Try.prog 256 = some 96 := by kernel_rfl
@[go_sem] theorem ty_by258 : tbytes Try.prog 258 = some 16 := by kernel_rfl
@[go_sem] theorem ty_by259 : tbytes Try.prog 259 = some 8 := by kernel_rfl
@[go_sem] theorem ty_by260 : tbytes Try.prog 260 = some 8 := by kernel_rfl
@[go_sem] theorem ty_by270 : tbytes Try.prog 270 = some 8 := by kernel_rfl
@[go_sem] theorem ty_by271 : tbytes Try.prog 271 = some 24 := by kernel_rfl
@[go_sem] theorem ty_by273 : tbytes Try.prog 273 = some 16 := by kernel_rfl
@[go_sem] theorem ty_by275 : tbytes Try.prog 275 = some 56 := by kernel_rfl
@[go_sem] theorem ty_by276 : tbytes Try.prog 276 = some 24 := by kernel_rfl
@[go_sem] theorem ty_by295 : tbytes Try.prog 295 = some 72 := by kernel_rfl
@[go_sem] theorem ty_by3 : tbytes Try.prog 3 = some 8 := by kernel_rfl
@[go_sem] theorem ty_by300 : tbytes Try.prog 300 = some 64 := by kernel_rfl
@[go_sem] theorem ty_by311 : tbytes Try.prog 311 = some 16 := by kernel_rfl
@[go_sem] theorem ty_by361 : tbytes Try.prog 361 = some 64 := by kernel_rfl
@[go_sem] theorem ty_by368 : tbytes Try.prog 368 = some 16 := by kernel_rfl
@[go_sem] theorem ty_by379 : tbytes Try.prog 379 = some 8 := by kernel_rfl
@[go_sem] theorem ty_by38 : tbytes Try.prog 38 = some 24 := by kernel_rfl
@[go_sem] theorem ty_by4 : tbytes Try.prog 4 = some 1 := by kernel_rfl
@[go_sem] theorem ty_by45 : tbytes Try.prog 45 = some 48 := by kernel_rfl
@[go_sem] theorem ty_by5 : tbytes Try.prog 5 = some 1 := by kernel_rfl
@[go_sem] theorem ty_by63 : tbytes Try.prog 63 = some 136 := by kernel_rfl
@[go_sem] theorem ty_by87 : tbytes Try.prog 87 = some 16 := by kernel_rfl
@[go_sem] theorem ty_by9 : tbytes Try.prog 9 = some 16 := by kernel_rfl
@[go_sem] theorem ty_by94 : tbytes Try.prog 94 = some 24 := by kernel_rfl
@[go_sem] theorem ty_fi108_0 : tfield Try.prog 108 0 = some (0, 3, 1) := by kernel_rfl
@[go_sem] theorem ty_fi108_1 : tfield Try.prog 108 1 = some (1, 3, 1) := by kernel_rfl
@[go_sem] theorem ty_fi108_2 : tfield Try.prog 108 2 = some (2, 9, 1) := by kernel_rfl
@[go_sem] theorem ty_fi108_3 : tfield Try.prog 108 3 = some (3, 106, 1) := by kernel_rfl
@[go_sem] theorem ty_fi112_0 : tfield Try.prog 112 0 = some (0, 3, 1) := by kernel_rfl
@[go_sem] theorem ty_fi112_1 : tfield Try.prog 112 1 = some (1, 3, 1) := by kernel_rfl
@[go_sem] theorem ty_fi112_2 : tfield Try.prog 112 2 = some (2, 9, 1) := by kernel_rfl
@[go_sem] theorem ty_fi112_3 : tfield Try.prog 112 3 = some (3, 105, 1) := by kernel_rfl
@[go_sem] theorem ty_fi124_0 : tfield Try.prog 124 0 = some (0, 22, 1) := by kernel_rfl
@[go_sem] theorem ty_fi124_1 : tfield Try.prog 124 1 = some (1, 112, 4) := by kernel_rfl
@[go_sem] theorem ty_fi127_0 : tfield Try.prog 127 0 = some (0, 4, 1) := by kernel_rfl
@[go_sem] theorem ty_fi127_1 : tfield Try.prog 127 1 = some (1, 3, 1) := by kernel_rfl
@[go_sem] theorem ty_fi127_2 : tfield Try.prog 127 2 = some (2, 124, 5) := by kernel_rfl
@[go_sem] theorem ty_fi127_3 : tfield Try.prog 127 3 = some (7, 125, 1) := by kernel_rfl
@[go_sem] theorem ty_fi127_4 : tfield Try.prog 127 4 = some (8, 125, 1) := by kernel_rfl
@[go_sem] theorem ty_fi133_0 : tfield Try.prog 133 0 = some (0, 131, 1) := by kernel_rfl
@[go_sem] theorem ty_fi133_1 : tfield Try.prog 133 1 = some (1, 22, 1) := by kernel_rfl
@[go_sem] theorem ty_fi133_2 : tfield Try.prog 133 2 = some (2, 3, 1) := by kernel_rfl
@[go_sem] theorem ty_fi133_3 : tfield Try.prog 133 3 = some (3, 3, 1) := by kernel_rfl
@[go_sem] theorem ty_fi137_0 : tfield Try.prog 137 0 = some (0, 3, 1) := by kernel_rfl
@[go_sem] theorem ty_fi137_1 : tfield Try.prog 137 1 = some (1, 3, 1) := by kernel_rfl
@[go_sem] theorem ty_fi137_2 : tfield Try.prog 137 2 = some (2, 3, 1) := by kernel_rfl
@[go_sem] theorem ty_fi137_3 : tfield Try.prog 137 3 = some (3, 3, 1) := by kernel_rfl
@[go_sem] theorem ty_fi137_4 : tfield Try.prog 137 4 = some (4, 3, 1) := by kernel_rfl
@[go_sem] theorem ty_fi140_1 : tfield Try.prog 140 1 = some (1, 3, 1) := by kernel_rfl
@[go_sem] theorem ty_fi147_0 : tfield Try.prog 147 0 = some (0, 4, 1) := by kernel_rfl
@[go_sem] theorem ty_fi147_1 : tfield Try.prog 147 1 = some (1, 22, 1) := by kernel_rfl
@[go_sem] theorem ty_fi147_2 : tfield Try.prog 147 2 = some (2, 145, 1) := by kernel_rfl
@[go_sem] theorem ty_fi147_3 : tfield Try.prog 147 3 = some (3, 22, 1) := by kernel_rfl
@[go_sem] theorem ty_fi147_4 : tfield Try.prog 147 4 = some (4, 3, 1) := by kernel_rfl
@[go_sem] theorem ty_fi151_0 : tfield Try.prog 151 0 = some (0, 3, 1) := by kernel_rfl
@[go_sem] theorem ty_fi151_1 : tfield Try.prog 151 1 = some (1, 3, 1) := by kernel_rfl
@[go_sem] theorem ty_fi151_2 : tfield Try.prog 151 2 = some (2, 3, 1) := by kernel_rfl
@[go_sem] theorem ty_fi151_3 : tfield Try.prog 151 3 = some (3, 3, 1) := by kernel_rfl
@[go_sem] theorem ty_fi158_0 : tfield Try.prog 158 0 = some (0, 156, 1) := by kernel_rfl
@[go_sem] theorem ty_fi167_0 : tfield Try.prog 167 0 = some (0, 3, 1) := by kernel_rfl
@[go_sem] theorem ty_fi167_1 : tfield Try.prog 167 1 = some (1, 3, 1) := by kernel_rfl
@[go_sem] theorem ty_fi167_2 : tfield Try.prog 167 2 = some (2, 9, 1) := by kernel_rfl
@[go_sem] theorem ty_fi175_0 : tfield Try.prog 175 0 = some (0, 9, 1) := by kernel_rfl
@[go_sem] theorem ty_fi175_1 : tfield Try.prog 175 1 = some (1, 3, 1) := by kernel_rfl
@[go_sem] theorem ty_fi178_1 : tfield Try.prog 178 1 = some (1, 3, 1) := by kernel_rfl
@[go_sem] theorem ty_fi178_2 : tfield Try.prog 178 2 = some (2, 3, 1) := by kernel_rfl
@[go_sem] theorem ty_fi189_0 : tfield Try.prog 189 0 = some (0, 3, 1) := by kernel_rfl
@[go_sem] theorem ty_fi189_1 : tfield Try.prog 189 1 = some (1, 3, 1) := by kernel_rfl
@[go_sem] theorem ty_fi201_0 : tfield Try.prog 201 0 = some (0, 22, 1) := by kernel_rfl
@[go_sem] theorem ty_fi201_1 : tfield Try.prog 201 1 = some (1, 4, 1) := by kernel_rfl
@[go_sem] theorem ty_fi201_2 : tfield Try.prog 201 2 = some (2, 3, 1) := by kernel_rfl
@[go_sem] theorem ty_fi201_3 : tfield Try.prog 201 3 = some (3, 38, 1) := by kernel_rfl
@[go_sem] theorem ty_fi201_4 : tfield Try.prog 201 4 = some (4, 199, 1) := by kernel_rfl
@[go_sem] theorem ty_fi209_0 : tfield Try.prog 209 0 = some (0, 56, 8) := by kernel_rfl
@[go_sem] theorem ty_fi209_1 : tfield Try.prog 209 1 = some (8, 56, 8) := by kernel_rfl
@[go_sem] theorem ty_fi209_2 : tfield Try.prog 209 2 = some (16, 206, 1) := by kernel_rfl
@[go_sem] theorem ty_fi214_0 : tfield Try.prog 214 0 = some (0, 9, 1) := by kernel_rfl
@[go_sem] theorem ty_fi214_1 : tfield Try.prog 214 1 = some (1, 59, 1) := by kernel_rfl
@[go_sem] theorem ty_fi214_2 : tfield Try.prog 214 2 = some (2, 212, 1) := by kernel_rfl
@[go_sem] theorem ty_fi216_0 : tfield Try.prog 216 0 = some (0, 9, 1) := by kernel_rfl
@[go_sem] theorem ty_fi216_1 : tfield Try.prog 216 1 = some (1, 43, 1) := by kernel_rfl
@[go_sem] theorem ty_fi218_1 : tfield Try.prog 218 1 = some (1, 53, 1) := by kernel_rfl
@[go_sem] theorem ty_fi220_2 : tfield Try.prog 220 2 = some (2, 53, 1) := by kernel_rfl
@[go_sem] theorem ty_fi229_3 : tfield Try.prog 229 3 = some (3, 3, 1) := by kernel_rfl
@[go_sem] theorem ty_fi229_4 : tfield Try.prog 229 4 = some (4, 227, 1) := by kernel_rfl
@[go_sem] theorem ty_fi231_4 : tfield Try.prog 231 4 = some (4, 22, 1) := by kernel_rfl
@[go_sem] theorem ty_fi233_0 : tfield Try.prog 233 0 = some (0, 79, 7) := by kernel_rfl
@[go_sem] theorem ty_fi233_1 : tfield Try.prog 233 1 = some (7, 84, 1) := by kernel_rfl
@[go_sem] theorem ty_fi233_2 : tfield Try.prog 233 2 = some (8, 3, 1) := by kernel_rfl
@[go_sem] theorem ty_fi233_3 : tfield Try.prog 233 3 = some (9, 3, 1) := by kernel_rfl
@[go_sem] theorem ty_fi245_0 : tfield Try.prog 245 0 = some (0, 3, 1) := by kernel_rfl
@[go_sem] theorem ty_fi245_1 : tfield Try.prog 245 1 = some (1, 242, 1) := by kernel_rfl
@[go_sem] theorem ty_fi251_0 : tfield Try.prog 251 0 = some (0, 248, 1) := by kernel_rfl
@[go_sem] theorem ty_fi251_1 : tfield Try.prog 251 1 = some (1, 249, 1) := by kernel_rfl
@[go_sem] theorem ty_fi256_0 : tfield Try.prog 256 0 = some (0, 252, 1) := by kernel_rfl
@[go_sem] theorem ty_fi256_1 : tfield Try.prog 256 1 = some (1, 253, 1) := by kernel_rfl
@[go_sem] theorem ty_fi256_2 : tfield Try.prog 256 2 = some (2, 22, 1) := by kernel_rfl
@[go_sem] theorem ty_fi256_3 : tfield Try.prog 256 3 = some (3, 254, 1) := by kernel_rfl
@[go_sem] theorem ty_fi258_0 : tfield Try.prog 258 0 = some (0, 3, 1) := by kernel_rfl
@[go_sem] theorem ty_fi258_1 : tfield Try.prog 258 1 = some (1, 3, 1) := by kernel_rfl
@[go_sem] theorem ty_fi262_0 : tfield Try.prog 262 0 = some (0, 138, 1) := by kernel_rfl
@[go_sem] theorem ty_fi262_1 : tfield Try.prog 262 1 = some (1, 22, 1) := by kernel_rfl
@[go_sem] theorem ty_fi262_2 : tfield Try.prog 262 2 = some (2, 260, 1) := by kernel_rfl
@[go_sem] theorem ty_fi273_0 : tfield Try.prog 273 0 = some (0, 3, 1) := by kernel_rfl
@[go_sem] theorem ty_fi273_1 : tfield Try.prog 273 1 = some (1, 3, 1) := by kernel_rfl
@[go_sem] theorem ty_fi275_0 : tfield Try.prog 275 0 = some (0, 3, 1) := by kernel_rfl
@[go_sem] theorem ty_fi275_1 : tfield Try.prog 275 1 = some (1, 3, 1) := by kernel_rfl
@[go_sem] theorem ty_fi275_2 : tfield Try.prog 275 2 = some (2, 3, 1) := by kernel_rfl
@[go_sem] theorem ty_fi275_3 : tfield Try.prog 275 3 = some (3, 3, 1) := by kernel_rfl
@[go_sem] theorem ty_fi275_4 : tfield Try.prog 275 4 = some (4, 3, 1) := by kernel_rfl
@[go_sem] theorem ty_fi275_5 : tfield Try.prog 275 5 = some (5, 3, 1) := by kernel_rfl
@[go_sem] theorem ty_fi275_6 : tfield Try.prog 275 6 = some (6, 3, 1) := by kernel_rfl
@[go_sem] theorem ty_fi286_0 : tfield Try.prog 286 0 = some (0, 22, 1) := by kernel_rfl
@[go_sem] theorem ty_fi286_1 : tfield Try.prog 286 1 = some (1, 283, 1) := by kernel_rfl
@[go_sem] theorem ty_fi286_2 : tfield Try.prog 286 2 = some (2, 284, 1) := by kernel_rfl
@[go_sem] theorem ty_fi292_0 : tfield Try.prog 292 0 = some (0, 22, 1) := by kernel_rfl
@[go_sem] theorem ty_fi292_1 : tfield Try.prog 292 1 = some (1, 3, 1) := by kernel_rfl
@[go_sem] theorem ty_fi292_2 : tfield Try.prog 292 2 = some (2, 3, 1) := by kernel_rfl
@[go_sem] theorem ty_fi292_3 : tfield Try.prog 292 3 = some (3, 4, 1) := by kernel_rfl
@[go_sem] theorem ty_fi292_4 : tfield Try.prog 292 4 = some (4, 3, 1) := by kernel_rfl
@[go_sem] theorem ty_fi295_0 : tfield Try.prog 295 0 = some (0, 9, 1) := by kernel_rfl
@[go_sem] theorem ty_fi295_1 : tfield Try.prog 295 1 = some (1, 3, 1) := by kernel_rfl
@[go_sem] theorem ty_fi295_2 : tfield Try.prog 295 2 = some (2, 293, 1) := by kernel_rfl
@[go_sem] theorem ty_fi295_3 : tfield Try.prog 295 3 = some (3, 22, 1) := by kernel_rfl
@[go_sem] theorem ty_fi300_0 : tfield Try.prog 300 0 = some (0, 3, 1) := by kernel_rfl
@[go_sem] theorem ty_fi300_1 : tfield Try.prog 300 1 = some (1, 108, 4) := by kernel_rfl
@[go_sem] theorem ty_fi309_0 : tfield Try.prog 309 0 = some (0, 307, 1) := by kernel_rfl
@[go_sem] theorem ty_fi309_1 : tfield Try.prog 309 1 = some (1, 32, 1) := by kernel_rfl
@[go_sem] theorem ty_fi311_0 : tfield Try.prog 311 0 = some (0, 3, 1) := by kernel_rfl
@[go_sem] theorem ty_fi311_1 : tfield Try.prog 311 1 = some (1, 4, 1) := by kernel_rfl
@[go_sem] theorem ty_fi34_0 : tfield Try.prog 34 0 = some (0, 3, 1) := by kernel_rfl
@[go_sem] theorem ty_fi34_1 : tfield Try.prog 34 1 = some (1, 3, 1) := by kernel_rfl
@[go_sem] theorem ty_fi34_2 : tfield Try.prog 34 2 = some (2, 32, 1) := by kernel_rfl
@[go_sem] theorem ty_fi347_3 : tfield Try.prog 347 3 = some (3, 43, 1) := by kernel_rfl
@[go_sem] theorem ty_fi347_4 : tfield Try.prog 347 4 = some (4, 45, 3) := by kernel_rfl
@[go_sem] theorem ty_fi347_5 : tfield Try.prog 347 5 = some (7, 63, 8) := by kernel_rfl
@[go_sem] theorem ty_fi349_0 : tfield Try.prog 349 0 = some (0, 112, 4) := by kernel_rfl
@[go_sem] theorem ty_fi349_1 : tfield Try.prog 349 1 = some (4, 63, 8) := by kernel_rfl
@[go_sem] theorem ty_fi361_0 : tfield Try.prog 361 0 = some (0, 3, 1) := by kernel_rfl
@[go_sem] theorem ty_fi361_1 : tfield Try.prog 361 1 = some (1, 3, 1) := by kernel_rfl
@[go_sem] theorem ty_fi361_2 : tfield Try.prog 361 2 = some (2, 3, 1) := by kernel_rfl
@[go_sem] theorem ty_fi361_3 : tfield Try.prog 361 3 = some (3, 3, 1) := by kernel_rfl
@[go_sem] theorem ty_fi361_4 : tfield Try.prog 361 4 = some (4, 3, 1) := by kernel_rfl
@[go_sem] theorem ty_fi361_5 : tfield Try.prog 361 5 = some (5, 3, 1) := by kernel_rfl
@[go_sem] theorem ty_fi361_6 : tfield Try.prog 361 6 = some (6, 3, 1) := by kernel_rfl
@[go_sem] theorem ty_fi361_7 : tfield Try.prog 361 7 = some (7, 259, 1) := by kernel_rfl
@[go_sem] theorem ty_fi368_0 : tfield Try.prog 368 0 = some (0, 3, 1) := by kernel_rfl
@[go_sem] theorem ty_fi368_1 : tfield Try.prog 368 1 = some (1, 4, 1) := by kernel_rfl
@[go_sem] theorem ty_fi381_0 : tfield Try.prog 381 0 = some (0, 167, 3) := by kernel_rfl
@[go_sem] theorem ty_fi381_1 : tfield Try.prog 381 1 = some (3, 322, 1) := by kernel_rfl
@[go_sem] theorem ty_fi381_2 : tfield Try.prog 381 2 = some (4, 3, 1) := by kernel_rfl
@[go_sem] theorem ty_fi400_0 : tfield Try.prog 400 0 = some (0, 59, 1) := by kernel_rfl
@[go_sem] theorem ty_fi400_1 : tfield Try.prog 400 1 = some (1, 43, 1) := by kernel_rfl
@[go_sem] theorem ty_fi400_2 : tfield Try.prog 400 2 = some (2, 396, 1) := by kernel_rfl
@[go_sem] theorem ty_fi45_0 : tfield Try.prog 45 0 = some (0, 3, 1) := by kernel_rfl
@[go_sem] theorem ty_fi45_1 : tfield Try.prog 45 1 = some (1, 9, 1) := by kernel_rfl
@[go_sem] theorem ty_fi45_2 : tfield Try.prog 45 2 = some (2, 43, 1) := by kernel_rfl
@[go_sem] theorem ty_fi56_3 : tfield Try.prog 56 3 = some (3, 50, 1) := by kernel_rfl
@[go_sem] theorem ty_fi56_4 : tfield Try.prog 56 4 = some (4, 51, 1) := by kernel_rfl
@[go_sem] theorem ty_fi56_5 : tfield Try.prog 56 5 = some (5, 52, 1) := by kernel_rfl
@[go_sem] theorem ty_fi56_6 : tfield Try.prog 56 6 = some (6, 53, 1) := by kernel_rfl
@[go_sem] theorem ty_fi56_7 : tfield Try.prog 56 7 = some (7, 54, 1) := by kernel_rfl
@[go_sem] theorem ty_fi63_0 : tfield Try.prog 63 0 = some (0, 3, 1) := by kernel_rfl
@[go_sem] theorem ty_fi63_4 : tfield Try.prog 63 4 = some (4, 43, 1) := by kernel_rfl
@[go_sem] theorem ty_fi63_5 : tfield Try.prog 63 5 = some (5, 60, 1) := by kernel_rfl
@[go_sem] theorem ty_fi63_6 : tfield Try.prog 63 6 = some (6, 61, 1) := by kernel_rfl
@[go_sem] theorem ty_fi65_0 : tfield Try.prog 65 0 = some (0, 9, 1) := by kernel_rfl
@[go_sem] theorem ty_fi65_1 : tfield Try.prog 65 1 = some (1, 59, 1) := by kernel_rfl
@[go_sem] theorem ty_fi65_2 : tfield Try.prog 65 2 = some (2, 43, 1) := by kernel_rfl
@[go_sem] theorem ty_fi65_3 : tfield Try.prog 65 3 = some (3, 45, 3) := by kernel_rfl
@[go_sem] theorem ty_fi65_4 : tfield Try.prog 65 4 = some (6, 63, 8) := by kernel_rfl
@[go_sem] theorem ty_fi79_0 : tfield Try.prog 79 0 = some (0, 59, 1) := by kernel_rfl
@[go_sem] theorem ty_fi79_1 : tfield Try.prog 79 1 = some (1, 22, 1) := by kernel_rfl
@[go_sem] theorem ty_fi79_2 : tfield Try.prog 79 2 = some (2, 73, 1) := by kernel_rfl
@[go_sem] theorem ty_fi79_3 : tfield Try.prog 79 3 = some (3, 74, 1) := by kernel_rfl
@[go_sem] theorem ty_fi79_4 : tfield Try.prog 79 4 = some (4, 75, 1) := by kernel_rfl
@[go_sem] theorem ty_fi79_5 : tfield Try.prog 79 5 = some (5, 76, 1) := by kernel_rfl
@[go_sem] theorem ty_fi79_6 : tfield Try.prog 79 6 = some (6, 77, 1) := by kernel_rfl
@[go_sem] theorem ty_fi86_0 : tfield Try.prog 86 0 = some (0, 3, 1) := by kernel_rfl
@[go_sem] theorem ty_fi86_1 : tfield Try.prog 86 1 = some (1, 3, 1) := by kernel_rfl
@[go_sem] theorem ty_fi86_3 : tfield Try.prog 86 3 = some (3, 3, 1) := by kernel_rfl
@[go_sem] theorem ty_fi86_4 : tfield Try.prog 86 4 = some (4, 4, 1) := by kernel_rfl
@[go_sem] theorem ty_fi94_0 : tfield Try.prog 94 0 = some (0, 9, 1) := by kernel_rfl
@[go_sem] theorem ty_fi94_1 : tfield Try.prog 94 1 = some (1, 3, 1) := by kernel_rfl
@[go_sem] theorem ty_fi98_0 : tfield Try.prog 98 0 = some (0, 9, 1) := by kernel_rfl
@[go_sem] theorem ty_fi98_1 : tfield Try.prog 98 1 = some (1, 9, 1) := by kernel_rfl
@[go_sem] theorem ty_fi98_2 : tfield Try.prog 98 2 = some (2, 3, 1) := by kernel_rfl
@[go_sem] theorem ty_fs140 : flatS Try.prog 140 = some [(0, 3), (1, 3)] := by kernel_rfl
@[go_sem] theorem ty_fs178 : flatS Try.prog 178 = some [(0, 9), (1, 3), (2, 3)] := by kernel_rfl
@[go_sem] theorem ty_fs87 : flatS Try.prog 87 = some [(0, 3), (1, 3)] := by kernel_rfl
@[go_sem] theorem ty_fs94 : flatS Try.prog 94 = some [(0, 9), (1, 3)] := by kernel_rfl
@[go_sem] theorem ty_in3 : intKindOf Try.prog 3 = some .i64 := by kernel_rfl
@[go_sem] theorem ty_in403 : intKindOf Try.prog 403 = some .u32 := by kernel_rfl
@[go_sem] theorem ty_in406 : intKindOf Try.prog 406 = some .u64 := by kernel_rfl
@[go_sem] theorem ty_in426 : intKindOf Try.prog 426 = some .u64 := by kernel_rfl
@[go_sem] theorem ty_in5 : intKindOf Try.prog 5 = some .u8 := by kernel_rfl
@[go_sem] theorem ty_in88 : intKindOf Try.prog 88 = some .u64 := by kernel_rfl
@[go_sem] theorem ty_ki105 : kindIs Try.prog 105 isSliceT = true := by kernel_rfl
@[go_sem] theorem ty_ki106 : kindIs Try.prog 106 isSliceT = true := by kernel_rfl
@[go_sem] theorem ty_ki125 : kindIs Try.prog 125 isSliceT = true := by kernel_rfl
@[go_sem] theorem ty_ki130 : kindIs Try.prog 130 isSliceT = true := by kernel_rfl
@[go_sem] theorem ty_ki131 : kindIs Try.prog 131 isSliceT = true := by kernel_rfl
@[go_sem] theorem ty_ki138 : kindIs Try.prog 138 isSliceT = true := by kernel_rfl
@[go_sem] theorem ty_ki144 : kindIs Try.prog 144 isSliceT = true := by kernel_rfl
@[go_sem] theorem ty_ki145 : kindIs Try.prog 145 isSliceT = true := by kernel_rfl
@[go_sem] theorem ty_ki156 : kindIs Try.prog 156 isSliceT = true := by kernel_rfl
@[go_sem] theorem ty_ki163 : kindIs Try.prog 163 isSliceT = true := by kernel_rfl
@[go_sem] theorem ty_ki170 : kindIs Try.prog 170 isSliceT = true := by kernel_rfl
@[go_sem] theorem ty_ki171 : kindIs Try.prog 171 isSliceT = true := by kernel_rfl
@[go_sem] theorem ty_ki180 : kindIs Try.prog 180 isSliceT = true := by kernel_rfl
@[go_sem] theorem ty_ki183 : kindIs Try.prog 183 isSliceT = true := by kernel_rfl
@[go_sem] theorem ty_ki199 : kindIs Try.prog 199 isSliceT = true := by kernel_rfl
@[go_sem] theorem ty_ki206 : kindIs Try.prog 206 isMapT = true := by kernel_rfl
@[go_sem] theorem ty_ki212 : kindIs Try.prog 212 isSliceT = true := by kernel_rfl
@[go_sem] theorem ty_ki22 : kindIs Try.prog 22 isSliceT = true := by kernel_rfl
@[go_sem] theorem ty_ki227 : kindIs Try.prog 227 isSliceT = true := by kernel_rfl
@[go_sem] theorem ty_ki23 : kindIs Try.prog 23 isSliceT = true := by kernel_rfl
@[go_sem] theorem ty_ki24 : kindIs Try.prog 24 isPtrT = true := by kernel_rfl
@[go_sem] theorem ty_ki241 : kindIs Try.prog 241 isSliceT = true := by kernel_rfl
@[go_sem] theorem ty_ki242 : kindIs Try.prog 242 isSliceT = true := by kernel_rfl
@[go_sem] theorem ty_ki248 : kindIs Try.prog 248 isSliceT = true := by kernel_rfl
@[go_sem] theorem ty_ki249 : kindIs Try.prog 249 isMapT = true := by kernel_rfl
@[go_sem] theorem ty_ki252 : kindIs Try.prog 252 isSliceT = true := by kernel_rfl
@[go_sem] theorem ty_ki253 : kindIs Try.prog 253 isSliceT = true := by kernel_rfl
@[go_sem] theorem ty_ki254 : kindIs Try.prog 254 isSliceT = true := by kernel_rfl
@[go_sem] theorem ty_ki259 : kindIs Try.prog 259 isPtrT = true := by kernel_rfl
@[go_sem] theorem ty_ki260 : kindIs Try.prog 260 isMapT = true := by kernel_rfl
@[go_sem] theorem ty_ki266 : kindIs Try.prog 266 isSliceT = true := by kernel_rfl
@[go_sem] theorem ty_ki267 : kindIs Try.prog 267 isSliceT = true := by kernel_rfl
@[go_sem] theorem ty_ki268 : kindIs Try.prog 268 isSliceT = true := by kernel_rfl
@[go_sem] theorem ty_ki269 : kindIs Try.prog 269 isMapT = true := by kernel_rfl
@[go_sem] theorem ty_ki270 : kindIs Try.prog 270 isMapT = true := by kernel_rfl
@[go_sem] theorem ty_ki271 : kindIs Try.prog 271 isSliceT = true := by kernel_rfl
@[go_sem] theorem ty_ki276 : kindIs Try.prog 276 isSliceT = true := by kernel_rfl
@[go_sem] theorem ty_ki283 : kindIs Try.prog 283 isMapT = true := by kernel_rfl
@[go_sem] theorem ty_ki284 : kindIs Try.prog 284 isSliceT = true := by kernel_rfl
@[go_sem] theorem ty_ki289 : kindIs Try.prog 289 isMapT = true := by kernel_rfl
@[go_sem] theorem ty_ki293 : kindIs Try.prog 293 isSliceT = true := by kernel_rfl
@[go_sem] theorem ty_ki30 : kindIs Try.prog 30 isMapT = true := by kernel_rfl
@[go_sem] theorem ty_ki307 : kindIs Try.prog 307 isPtrT = true := by kernel_rfl
@[go_sem] theorem ty_ki31 : kindIs Try.prog 31 isMapT = true := by kernel_rfl
@[go_sem] theorem ty_ki312 : kindIs Try.prog 312 isSliceT = true := by kernel_rfl
@[go_sem] theorem ty_ki32 : kindIs Try.prog 32 isSliceT = true := by kernel_rfl
@[go_sem] theorem ty_ki322 : kindIs Try.prog 322 isSliceT = true := by kernel_rfl
@[go_sem] theorem ty_ki329 : kindIs Try.prog 329 isMapT = true := by kernel_rfl
@[go_sem] theorem ty_ki366 : kindIs Try.prog 366 isSliceT = true := by kernel_rfl
@[go_sem] theorem ty_ki38 : kindIs Try.prog 38 isSliceT = true := by kernel_rfl
@[go_sem] theorem ty_ki387 : kindIs Try.prog 387 isSliceT = true := by kernel_rfl
@[go_sem] theorem ty_ki396 : kindIs Try.prog 396 isPtrT = true := by kernel_rfl
@[go_sem] theorem ty_ki4 : kindIs Try.prog 4 isBoolT = true := by kernel_rfl
@[go_sem] theorem ty_ki43 : kindIs Try.prog 43 isSliceT = true := by kernel_rfl
@[go_sem] theorem ty_ki50 : kindIs Try.prog 50 isSliceT = true := by kernel_rfl
@[go_sem] theorem ty_ki51 : kindIs Try.prog 51 isSliceT = true := by kernel_rfl
@[go_sem] theorem ty_ki52 : kindIs Try.prog 52 isSliceT = true := by kernel_rfl
@[go_sem] theorem ty_ki53 : kindIs Try.prog 53 isSliceT = true := by kernel_rfl
@[go_sem] theorem ty_ki54 : kindIs Try.prog 54 isSliceT = true := by kernel_rfl
@[go_sem] theorem ty_ki59 : kindIs Try.prog 59 isSliceT = true := by kernel_rfl
@[go_sem] theorem ty_ki60 : kindIs Try.prog 60 isSliceT = true := by kernel_rfl
@[go_sem] theorem ty_ki61 : kindIs Try.prog 61 isSliceT = true := by kernel_rfl
@[go_sem] theorem ty_ki73 : kindIs Try.prog 73 isSliceT = true := by kernel_rfl
@[go_sem] theorem ty_ki74 : kindIs Try.prog 74 isSliceT = true := by kernel_rfl
@[go_sem] theorem ty_ki75 : kindIs Try.prog 75 isSliceT = true := by kernel_rfl
@[go_sem] theorem ty_ki76 : kindIs Try.prog 76 isSliceT = true := by kernel_rfl
@[go_sem] theorem ty_ki77 : kindIs Try.prog 77 isSliceT = true := by kernel_rfl
@[go_sem] theorem ty_ki80 : kindIs Try.prog 80 isSliceT = true := by kernel_rfl
@[go_sem] theorem ty_ki84 : kindIs Try.prog 84 isMapT = true := by kernel_rfl
@[go_sem] theorem ty_ki92 : kindIs Try.prog 92 isSliceT = true := by kernel_rfl
@[go_sem] theorem ty_kn3 : kindN Try.prog 3 = some 1 := by kernel_rfl
@[go_sem] theorem ty_kn9 : kindN Try.prog 9 = some 2 := by kernel_rfl
@[go_sem] theorem ty_mp206 : tmap Try.prog 206 = some (9, (.bool false)) := by kernel_rfl
@[go_sem] theorem ty_mp249 : tmap Try.prog 249 = some (87, (.sl [] true .full)) := by kernel_rfl
@[go_sem] theorem ty_mp260 : tmap Try.prog 260 = some (87, (.int .i64 0)) := by kernel_rfl
@[go_sem] theorem ty_mp269 : tmap Try.prog 269 = some (87, (.sl [] true .full)) := by kernel_rfl
@[go_sem] theorem ty_mp270 : tmap Try.prog 270 = some (3, (.int .i64 0)) := by kernel_rfl
@[go_sem] theorem ty_mp283 : tmap Try.prog 283 = some (87, (.sl [] true .full)) := by kernel_rfl
@[go_sem] theorem ty_mp289 : tmap Try.prog 289 = some (87, .nilp) := by kernel_rfl
@[go_sem] theorem ty_mp30 : tmap Try.prog 30 = some (3, (.bool false)) := by kernel_rfl
@[go_sem] theorem ty_mp31 : tmap Try.prog 31 = some (3, (.sl [] true .full)) := by kernel_rfl
@[go_sem] theorem ty_mp329 : tmap Try.prog 329 = some (9, (.int .i64 0)) := by kernel_rfl
@[go_sem] theorem ty_mp84 : tmap Try.prog 84 = some (87, (.sl [] true .full)) := by kernel_rfl
@[go_sem] theorem ty_ni9 : kindIs Try.prog 9 (fun d => !isIfaceT d) = true := by kernel_rfl
@[go_sem] theorem ty_pl108 : tplaces Try.prog 108 = some [(0, 1), (1, 1), (2, 1), (3, 1)] := by kernel_rfl
@[go_sem] theorem ty_pl112 : tplaces Try.prog 112 = some [(0, 1), (1, 1), (2, 1), (3, 1)] := by kernel_rfl
@[go_sem] theorem ty_pl124 : tplaces Try.prog 124 = some [(0, 1), (1, 4)] := by kernel_rfl
@[go_sem] theorem ty_pl127 : tplaces Try.prog 127 = some [(0, 1), (1, 1), (2, 5), (7, 1), (8, 1)] := by kernel_rfl
@[go_sem] theorem ty_pl133 : tplaces Try.prog 133 = some [(0, 1), (1, 1), (2, 1), (3, 1)] := by kernel_rfl
@[go_sem] theorem ty_pl137 : tplaces Try.prog 137 = some [(0, 1), (1, 1), (2, 1), (3, 1), (4, 1)] := by kernel_rfl
@[go_sem] theorem ty_pl140 : tplaces Try.prog 140 = some [(0, 1), (1, 1)] := by kernel_rfl
@[go_sem] theorem ty_pl147 : tplaces Try.prog 147 = some [(0, 1), (1, 1), (2, 1), (3, 1), (4, 1)] := by kernel_rfl
@[go_sem] theorem ty_pl151 : tplaces Try.prog 151 = some [(0, 1), (1, 1), (2, 1), (3, 1)] := by kernel_rfl
@[go_sem] theorem ty_pl158 : tplaces Try.prog 158 = some [(0, 1)] := by kernel_rfl
@[go_sem] theorem ty_pl167 : tplaces Try.prog 167 = some [(0, 1), (1, 1), (2, 1)] := by kernel_rfl
@[go_sem] theorem ty_pl175 : tplaces Try.prog 175 = some [(0, 1), (1, 1)] := by kernel_rfl
@[go_sem] theorem ty_pl178 : tplaces Try.prog 178 = some [(0, 1), (1, 1), (2, 1)] := by kernel_rfl
@[go_sem] theorem ty_pl189 : tplaces Try.prog 189 = some [(0, 1), (1, 1)] := by kernel_rfl
@[go_sem] theorem ty_pl201 : tplaces Try.prog 201 = some [(0, 1), (1, 1), (2, 1), (3, 1), (4, 1)] := by kernel_rfl
@[go_sem] theorem ty_pl209 : tplaces Try.prog 209 = some [(0, 8), (8, 8), (16, 1)] := by kernel_rfl
@[go_sem] theorem ty_pl214 : tplaces Try.prog 214 = some [(0, 1), (1, 1), (2, 1)] := by kernel_rfl
@[go_sem] theorem ty_pl233 : tplaces Try.prog 233 = some [(0, 7), (7, 1), (8, 1), (9, 1)] := by kernel_rfl
@[go_sem] theorem ty_pl245 : tplaces Try.prog 245 = some [(0, 1), (1, 1)] := by kernel_rfl
@[go_sem] theorem ty_pl251 : tplaces Try.prog 251 = some [(0, 1), (1, 1)] := by kernel_rfl
@[go_sem] theorem ty_pl256 : tplaces Try.prog 256 = some [(0, 1), (1, 1), (2, 1), (3, 1)] := by kernel_rfl
@[go_sem] theorem ty_pl258 : tplaces Try.prog 258 = some [(0, 1), (1, 1)] := by kernel_rfl
@[go_sem] theorem ty_pl262 : tplaces Try.prog 262 = some [(0, 1), (1, 1), (2, 1)] := by kernel_rfl
@[go_sem] theorem ty_pl273 : tplaces Try.prog 273 = some [(0, 1), (1, 1)] := by kernel_rfl
@[go_sem] theorem ty_pl275 : tplaces Try.prog 275 = some [(0, 1), (1, 1), (2, 1), (3, 1), (4, 1), (5, 1), (6, 1)] := by kernel_rfl
@[go_sem] theorem ty_pl286 : tplaces Try.prog 286 = some [(0, 1), (1, 1), (2, 1)] := by kernel_rfl
@[go_sem] theorem ty_pl292 : tplaces Try.prog 292 = some [(0, 1), (1, 1), (2, 1), (3, 1), (4, 1)] := by kernel_rfl
@[go_sem] theorem ty_pl295 : tplaces Try.prog 295 = some [(0, 1), (1, 1), (2, 1), (3, 1)] := by kernel_rfl
@[go_sem] theorem ty_pl300 : tplaces Try.prog 300 = some [(0, 1), (1, 4)] := by kernel_rfl
@[go_sem] theorem ty_pl311 : tplaces Try.prog 311 = some [(0, 1), (1, 1)] := by kernel_rfl
@[go_sem] theorem ty_pl327 : tplaces Try.prog 327 = some [(0, 1), (1, 1)] := by kernel_rfl
@[go_sem] theorem ty_pl340 : tplaces Try.prog 340 = some [(0, 1), (1, 1)] := by kernel_rfl
@[go_sem] theorem ty_pl361 : tplaces Try.prog 361 = some [(0, 1), (1, 1), (2, 1), (3, 1), (4, 1), (5, 1), (6, 1), (7, 1)] := by kernel_rfl
@[go_sem] theorem ty_pl368 : tplaces Try.prog 368 = some [(0, 1), (1, 1)] := by kernel_rfl
@[go_sem] theorem ty_pl381 : tplaces Try.prog 381 = some [(0, 3), (3, 1), (4, 1)] := by kernel_rfl
@[go_sem] theorem ty_pl400 : tplaces Try.prog 400 = some [(0, 1), (1, 1), (2, 1)] := by kernel_rfl
@[go_sem] theorem ty_pl45 : tplaces Try.prog 45 = some [(0, 1), (1, 1), (2, 1)] := by kernel_rfl
@[go_sem] theorem ty_pl56 : tplaces Try.prog 56 = some [(0, 1), (1, 1), (2, 1), (3, 1), (4, 1), (5, 1), (6, 1), (7, 1)] := by kernel_rfl
@[go_sem] theorem ty_pl65 : tplaces Try.prog 65 = some [(0, 1), (1, 1), (2, 1), (3, 3), (6, 8)] := by kernel_rfl
@[go_sem] theorem ty_pl87 : tplaces Try.prog 87 = some [(0, 1), (1, 1)] := by kernel_rfl
@[go_sem] theorem ty_pl94 : tplaces Try.prog 94 = some [(0, 1), (1, 1)] := by kernel_rfl
@[go_sem] theorem ty_sl105 : tslice Try.prog 105 = some (112, 4) := by kernel_rfl
@[go_sem] theorem ty_sl106 : tslice Try.prog 106 = some (108, 4) := by kernel_rfl
@[go_sem] theorem ty_sl125 : tslice Try.prog 125 = some (127, 9) := by kernel_rfl
@[go_sem] theorem ty_sl130 : tslice Try.prog 130 = some (137, 5) := by kernel_rfl
@[go_sem] theorem ty_sl131 : tslice Try.prog 131 = some (138, 1) := by kernel_rfl
@[go_sem] theorem ty_sl138 : tslice Try.prog 138 = some (140, 2) := by kernel_rfl
@[go_sem] theorem ty_sl144 : tslice Try.prog 144 = some (151, 4) := by kernel_rfl
@[go_sem] theorem ty_sl145 : tslice Try.prog 145 = some (38, 1) := by kernel_rfl
@[go_sem] theorem ty_sl156 : tslice Try.prog 156 = some (295, 4) := by kernel_rfl
@[go_sem] theorem ty_sl163 : tslice Try.prog 163 = some (167, 3) := by kernel_rfl
@[go_sem] theorem ty_sl170 : tslice Try.prog 170 = some (175, 2) := by kernel_rfl
@[go_sem] theorem ty_sl171 : tslice Try.prog 171 = some (178, 3) := by kernel_rfl
@[go_sem] theorem ty_sl180 : tslice Try.prog 180 = some (189, 2) := by kernel_rfl
@[go_sem] theorem ty_sl183 : tslice Try.prog 183 = some (87, 2) := by kernel_rfl
@[go_sem] theorem ty_sl199 : tslice Try.prog 199 = some (4, 1) := by kernel_rfl
@[go_sem] theorem ty_sl212 : tslice Try.prog 212 = some (216, 2) := by kernel_rfl
@[go_sem] theorem ty_sl22 : tslice Try.prog 22 = some (3, 1) := by kernel_rfl
@[go_sem] theorem ty_sl227 : tslice Try.prog 227 = some (231, 5) := by kernel_rfl
@[go_sem] theorem ty_sl23 : tslice Try.prog 23 = some (34, 4) := by kernel_rfl
@[go_sem] theorem ty_sl241 : tslice Try.prog 241 = some (245, 2) := by kernel_rfl
@[go_sem] theorem ty_sl242 : tslice Try.prog 242 = some (124, 5) := by kernel_rfl
@[go_sem] theorem ty_sl248 : tslice Try.prog 248 = some (256, 4) := by kernel_rfl
@[go_sem] theorem ty_sl252 : tslice Try.prog 252 = some (259, 1) := by kernel_rfl
@[go_sem] theorem ty_sl253 : tslice Try.prog 253 = some (258, 2) := by kernel_rfl
@[go_sem] theorem ty_sl254 : tslice Try.prog 254 = some (361, 8) := by kernel_rfl
@[go_sem] theorem ty_sl265 : tslice Try.prog 265 = some (270, 1) := by kernel_rfl
@[go_sem] theorem ty_sl266 : tslice Try.prog 266 = some (260, 1) := by kernel_rfl
@[go_sem] theorem ty_sl267 : tslice Try.prog 267 = some (271, 1) := by kernel_rfl
@[go_sem] theorem ty_sl268 : tslice Try.prog 268 = some (276, 1) := by kernel_rfl
@[go_sem] theorem ty_sl271 : tslice Try.prog 271 = some (273, 2) := by kernel_rfl
@[go_sem] theorem ty_sl276 : tslice Try.prog 276 = some (275, 7) := by kernel_rfl
@[go_sem] theorem ty_sl284 : tslice Try.prog 284 = some (24, 1) := by kernel_rfl
@[go_sem] theorem ty_sl293 : tslice Try.prog 293 = some (300, 5) := by kernel_rfl
@[go_sem] theorem ty_sl312 : tslice Try.prog 312 = some (311, 2) := by kernel_rfl
@[go_sem] theorem ty_sl32 : tslice Try.prog 32 = some (5, 1) := by kernel_rfl
@[go_sem] theorem ty_sl322 : tslice Try.prog 322 = some (379, 1) := by kernel_rfl
@[go_sem] theorem ty_sl366 : tslice Try.prog 366 = some (368, 2) := by kernel_rfl
@[go_sem] theorem ty_sl38 : tslice Try.prog 38 = some (22, 1) := by kernel_rfl
@[go_sem] theorem ty_sl387 : tslice Try.prog 387 = some (180, 1) := by kernel_rfl
@[go_sem] theorem ty_sl43 : tslice Try.prog 43 = some (45, 3) := by kernel_rfl
@[go_sem] theorem ty_sl50 : tslice Try.prog 50 = some (214, 3) := by kernel_rfl
@[go_sem] theorem ty_sl51 : tslice Try.prog 51 = some (218, 2) := by kernel_rfl
@[go_sem] theorem ty_sl52 : tslice Try.prog 52 = some (220, 3) := by kernel_rfl
@[go_sem] theorem ty_sl53 : tslice Try.prog 53 = some (347, 15) := by kernel_rfl
@[go_sem] theorem ty_sl54 : tslice Try.prog 54 = some (65, 14) := by kernel_rfl
@[go_sem] theorem ty_sl59 : tslice Try.prog 59 = some (9, 1) := by kernel_rfl
@[go_sem] theorem ty_sl60 : tslice Try.prog 60 = some (63, 8) := by kernel_rfl
@[go_sem] theorem ty_sl61 : tslice Try.prog 61 = some (349, 12) := by kernel_rfl
@[go_sem] theorem ty_sl73 : tslice Try.prog 73 = some (229, 5) := by kernel_rfl
@[go_sem] theorem ty_sl75 : tslice Try.prog 75 = some (98, 3) := by kernel_rfl
@[go_sem] theorem ty_sl77 : tslice Try.prog 77 = some (105, 1) := by kernel_rfl
@[go_sem] theorem ty_sl80 : tslice Try.prog 80 = some (86, 5) := by kernel_rfl
@[go_sem] theorem ty_sl92 : tslice Try.prog 92 = some (94, 2) := by kernel_rfl
@[go_sem] theorem ty_st105 : isStr Try.prog 105 = false := by kernel_rfl
@[go_sem] theorem ty_st106 : isStr Try.prog 106 = false := by kernel_rfl
@[go_sem] theorem ty_st125 : isStr Try.prog 125 = false := by kernel_rfl
@[go_sem] theorem ty_st130 : isStr Try.prog 130 = false := by kernel_rfl
@[go_sem] theorem ty_st131 : isStr Try.prog 131 = false := by kernel_rfl
@[go_sem] theorem ty_st138 : isStr Try.prog 138 = false := by kernel_rfl
@[go_sem] theorem ty_st144 : isStr Try.prog 144 = false := by kernel_rfl
@[go_sem] theorem ty_st145 : isStr Try.prog 145 = false := by kernel_rfl
@[go_sem] theorem ty_st156 : isStr Try.prog 156 = false := by kernel_rfl
@[go_sem] theorem ty_st163 : isStr Try.prog 163 = false := by kernel_rfl
@[go_sem] theorem ty_st170 : isStr Try.prog 170 = false := by kernel_rfl
@[go_sem] theorem ty_st171 : isStr Try.prog 171 = false := by kernel_rfl
@[go_sem] theorem ty_st180 : isStr Try.prog 180 = false := by kernel_rfl
@[go_sem] theorem ty_st183 : isStr Try.prog 183 = false := by kernel_rfl
@[go_sem] theorem ty_st199 : isStr Try.prog 199 = false := by kernel_rfl
@[go_sem] theorem ty_st212 : isStr Try.prog 212 = false := by kernel_rfl
@[go_sem] theorem ty_st22 : isStr Try.prog 22 = false := by kernel_rfl
@[go_sem] theorem ty_st227 : isStr Try.prog 227 = false := by kernel_rfl
@[go_sem] theorem ty_st23 : isStr Try.prog 23 = false := by kernel_rfl
@[go_sem] theorem ty_st241 : isStr Try.prog 241 = false := by kernel_rfl
@[go_sem] theorem ty_st242 : isStr Try.prog 242 = false := by kernel_rfl
@[go_sem] theorem ty_st248 : isStr Try.prog 248 = false := by kernel_rfl
@[go_sem] theorem ty_st252 : isStr Try.prog 252 = false := by kernel_rfl
@[go_sem] theorem ty_st253 : isStr Try.prog 253 = false := by kernel_rfl
@[go_sem] theorem ty_st254 : isStr Try.prog 254 = false := by kernel_rfl
@[go_sem] theorem ty_st260 : isStr Try.prog 260 = false := by kernel_rfl
@[go_sem] theorem ty_st266 : isStr Try.prog 266 = false := by kernel_rfl
@[go_sem] theorem ty_st267 : isStr Try.prog 267 = false := by kernel_rfl
@[go_sem] theorem ty_st268 : isStr Try.prog 268 = false := by kernel_rfl
@[go_sem] theorem ty_st271 : isStr Try.prog 271 = false := by kernel_rfl
@[go_sem] theorem ty_st276 : isStr Try.prog 276 = false := by kernel_rfl
@[go_sem] theorem ty_st284 : isStr Try.prog 284 = false := by kernel_rfl
@[go_sem] theorem ty_st293 : isStr Try.prog 293 = false := by kernel_rfl
@[go_sem] theorem ty_st3 : isStr Try.prog 3 = false := by kernel_rfl
@[go_sem] theorem ty_st30 : isStr Try.prog 30 = false := by kernel_rfl
@[go_sem] theorem ty_st307 : isStr Try.prog 307 = false := by kernel_rfl
@[go_sem] theorem ty_st312 : isStr Try.prog 312 = false := by kernel_rfl
@[go_sem] theorem ty_st32 : isStr Try.prog 32 = false := by kernel_rfl
@[go_sem] theorem ty_st322 : isStr Try.prog 322 = false := by kernel_rfl
@[go_sem] theorem ty_st327 : isStr Try.prog 327 = false := by kernel_rfl
@[go_sem] theorem ty_st340 : isStr Try.prog 340 = false := by kernel_rfl
@[go_sem] theorem ty_st366 : isStr Try.prog 366 = false := by kernel_rfl
@[go_sem] theorem ty_st38 : isStr Try.prog 38 = false := by kernel_rfl
@[go_sem] theorem ty_st387 : isStr Try.prog 387 = false := by kernel_rfl
@[go_sem] theorem ty_st401 : isStr Try.prog 401 = false := by kernel_rfl
@[go_sem] theorem ty_st403 : isStr Try.prog 403 = false := by kernel_rfl
@[go_sem] theorem ty_st406 : isStr Try.prog 406 = false := by kernel_rfl
@[go_sem] theorem ty_st426 : isStr Try.prog 426 = false := by kernel_rfl
@[go_sem] theorem ty_st43 : isStr Try.prog 43 = false := by kernel_rfl
@[go_sem] theorem ty_st5 : isStr Try.prog 5 = false := by kernel_rfl
@[go_sem] theorem ty_st50 : isStr Try.prog 50 = false := by kernel_rfl
@[go_sem] theorem ty_st51 : isStr Try.prog 51 = false := by kernel_rfl
@[go_sem] theorem ty_st52 : isStr Try.prog 52 = false := by kernel_rfl
@[go_sem] theorem ty_st53 : isStr Try.prog 53 = false := by kernel_rfl
@[go_sem] theorem ty_st54 : isStr Try.prog 54 = false := by kernel_rfl
@[go_sem] theorem ty_st59 : isStr Try.prog 59 = false := by kernel_rfl
@[go_sem] theorem ty_st60 : isStr Try.prog 60 = false := by kernel_rfl
@[go_sem] theorem ty_st61 : isStr Try.prog 61 = false := by kernel_rfl
@[go_sem] theorem ty_st73 : isStr Try.prog 73 = false := by kernel_rfl
@[go_sem] theorem ty_st74 : isStr Try.prog 74 = false := by kernel_rfl
@[go_sem] theorem ty_st75 : isStr Try.prog 75 = false := by kernel_rfl
@[go_sem] theorem ty_st76 : isStr Try.prog 76 = false := by kernel_rfl
@[go_sem] theorem ty_st77 : isStr Try.prog 77 = false := by kernel_rfl
@[go_sem] theorem ty_st80 : isStr Try.prog 80 = false := by kernel_rfl
@[go_sem] theorem ty_st87 : isStr Try.prog 87 = false := by kernel_rfl
@[go_sem] theorem ty_st88 : isStr Try.prog 88 = false := by kernel_rfl
@[go_sem] theorem ty_st9 : isStr Try.prog 9 = true := by kernel_rfl
@[go_sem] theorem ty_st92 : isStr Try.prog 92 = false := by kernel_rfl
@[go_sem] theorem ty_sz105 : tsz Try.prog 105 = some 1 := by kernel_rfl
@[go_sem] theorem ty_sz106 : tsz Try.prog 106 = some 1 := by kernel_rfl
@[go_sem] theorem ty_sz108 : tsz Try.prog 108 = some 4 := by kernel_rfl
@[go_sem] theorem ty_sz112 : tsz Try.prog 112 = some 4 := by kernel_rfl
@[go_sem] theorem ty_sz124 : tsz Try.prog 124 = some 5 := by kernel_rfl
@[go_sem] theorem ty_sz125 : tsz Try.prog 125 = some 1 := by kernel_rfl
@[go_sem] theorem ty_sz127 : tsz Try.prog 127 = some 9 := by kernel_rfl
@[go_sem] theorem ty_sz131 : tsz Try.prog 131 = some 1 := by kernel_rfl
@[go_sem] theorem ty_sz133 : tsz Try.prog 133 = some 4 := by kernel_rfl
@[go_sem] theorem ty_sz137 : tsz Try.prog 137 = some 5 := by kernel_rfl
@[go_sem] theorem ty_sz138 : tsz Try.prog 138 = some 1 := by kernel_rfl
@[go_sem] theorem ty_sz140 : tsz Try.prog 140 = some 2 := by kernel_rfl
@[go_sem] theorem ty_sz145 : tsz Try.prog 145 = some 1 := by kernel_rfl
@[go_sem] theorem ty_sz147 : tsz Try.prog 147 = some 5 := by kernel_rfl
@[go_sem] theorem ty_sz151 : tsz Try.prog 151 = some 4 := by kernel_rfl
@[go_sem] theorem ty_sz156 : tsz Try.prog 156 = some 1 := by kernel_rfl
@[go_sem] theorem ty_sz158 : tsz Try.prog 158 = some 1 := by kernel_rfl
@[go_sem] theorem ty_sz167 : tsz Try.prog 167 = some 3 := by kernel_rfl
@[go_sem] theorem ty_sz175 : tsz Try.prog 175 = some 2 := by kernel_rfl
@[go_sem] theorem ty_sz178 : tsz Try.prog 178 = some 3 := by kernel_rfl
@[go_sem] theorem ty_sz180 : tsz Try.prog 180 = some 1 := by kernel_rfl
@[go_sem] theorem ty_sz189 : tsz Try.prog 189 = some 2 := by kernel_rfl
@[go_sem] theorem ty_sz199 : tsz Try.prog 199 = some 1 := by kernel_rfl
@[go_sem] theorem ty_sz201 : tsz Try.prog 201 = some 5 := by kernel_rfl
@[go_sem] theorem ty_sz206 : tsz Try.prog 206 = some 1 := by kernel_rfl
@[go_sem] theorem ty_sz207 : tsz Try.prog 207 = some 1 := by kernel_rfl
@[go_sem] theorem ty_sz209 : tsz Try.prog 209 = some 17 := by kernel_rfl
@[go_sem] theorem ty_sz212 : tsz Try.prog 212 = some 1 := by kernel_rfl
@[go_sem] theorem ty_sz214 : tsz Try.prog 214 = some 3 := by kernel_rfl
@[go_sem] theorem ty_sz216 : tsz Try.prog 216 = some 2 := by kernel_rfl
@[go_sem] theorem ty_sz218 : tsz Try.prog 218 = some 2 := by kernel_rfl
@[go_sem] theorem ty_sz22 : tsz Try.prog 22 = some 1 := by kernel_rfl
@[go_sem] theorem ty_sz220 : tsz Try.prog 220 = some 3 := by kernel_rfl
@[go_sem] theorem ty_sz227 : tsz Try.prog 227 = some 1 := by kernel_rfl
@[go_sem] theorem ty_sz229 : tsz Try.prog 229 = some 5 := by kernel_rfl
@[go_sem] theorem ty_sz231 : tsz Try.prog 231 = some 5 := by kernel_rfl
@[go_sem] theorem ty_sz233 : tsz Try.prog 233 = some 10 := by kernel_rfl
@[go_sem] theorem ty_sz24 : tsz Try.prog 24 = some 1 := by kernel_rfl
@[go_sem] theorem ty_sz242 : tsz Try.prog 242 = some 1 := by kernel_rfl
@[go_sem] theorem ty_sz245 : tsz Try.prog 245 = some 2 := by kernel_rfl
@[go_sem] theorem ty_sz247 : tsz Try.prog 247 = some 1 := by kernel_rfl
@[go_sem] theorem ty_sz248 : tsz Try.prog 248 = some 1 := by kernel_rfl
@[go_sem] theorem ty_sz249 : tsz Try.prog 249 = some 1 := by kernel_rfl
@[go_sem] theorem ty_sz251 : tsz Try.prog 251 = some 2 := by kernel_rfl
@[go_sem] theorem ty_sz252 : tsz Try.prog 252 = some 1 := by kernel_rfl
@[go_sem] theorem ty_sz253 : tsz Try.prog 253 = some 1 := by kernel_rfl
@[go_sem] theorem ty_sz254 : tsz Try.prog 254 = some 1 := by kernel_rfl
@[go_sem] theorem ty_sz256 : tsz Try.prog 256 = some 4 := by kernel_rfl
@[go_sem] theorem ty_sz258 : tsz Try.prog 258 = some 2 := by kernel_rfl
@[go_sem] theorem ty_sz259 : tsz Try.prog 259 = some 1 := by kernel_rfl
@[go_sem] theorem ty_sz260 : tsz Try.prog 260 = some 1 := by kernel_rfl
@[go_sem] theorem ty_sz262 : tsz Try.prog 262 = some 3 := by kernel_rfl
@[go_sem] theorem ty_sz265 : tsz Try.prog 265 = some 1 := by kernel_rfl
@[go_sem] theorem ty_sz266 : tsz Try.prog 266 = some 1 := by kernel_rfl
@[go_sem] theorem ty_sz267 : tsz Try.prog 267 = some 1 := by kernel_rfl
@[go_sem] theorem ty_sz268 : tsz Try.prog 268 = some 1 := by kernel_rfl
@[go_sem] theorem ty_sz269 : tsz Try.prog 269 = some 1 := by kernel_rfl
@[go_sem] theorem ty_sz270 : tsz Try.prog 270 = some 1 := by kernel_rfl
@[go_sem] theorem ty_sz271 : tsz Try.prog 271 = some 1 := by kernel_rfl
@[go_sem] theorem ty_sz273 : tsz Try.prog 273 = some 2 := by kernel_rfl
@[go_sem] theorem ty_sz275 : tsz Try.prog 275 = some 7 := by kernel_rfl
@[go_sem] theorem ty_sz276 : tsz Try.prog 276 = some 1 := by kernel_rfl
@[go_sem] theorem ty_sz277 : tsz Try.prog 277 = some 1 := by kernel_rfl
@[go_sem] theorem ty_sz279 : tsz Try.prog 279 = some 1 := by kernel_rfl
@[go_sem] theorem ty_sz282 : tsz Try.prog 282 = some 1 := by kernel_rfl
@[go_sem] theorem ty_sz283 : tsz Try.prog 283 = some 1 := by kernel_rfl
@[go_sem] theorem ty_sz284 : tsz Try.prog 284 = some 1 := by kernel_rfl
@[go_sem] theorem ty_sz286 : tsz Try.prog 286 = some 3 := by kernel_rfl
@[go_sem] theorem ty_sz289 : tsz Try.prog 289 = some 1 := by kernel_rfl
@[go_sem] theorem ty_sz292 : tsz Try.prog 292 = some 5 := by kernel_rfl
@[go_sem] theorem ty_sz293 : tsz Try.prog 293 = some 1 := by kernel_rfl
@[go_sem] theorem ty_sz295 : tsz Try.prog 295 = some 4 := by kernel_rfl
@[go_sem] theorem ty_sz3 : tsz Try.prog 3 = some 1 := by kernel_rfl
@[go_sem] theorem ty_sz300 : tsz Try.prog 300 = some 5 := by kernel_rfl
@[go_sem] theorem ty_sz307 : tsz Try.prog 307 = some 1 := by kernel_rfl
@[go_sem] theorem ty_sz309 : tsz Try.prog 309 = some 2 := by kernel_rfl
@[go_sem] theorem ty_sz311 : tsz Try.prog 311 = some 2 := by kernel_rfl
@[go_sem] theorem ty_sz32 : tsz Try.prog 32 = some 1 := by kernel_rfl
@[go_sem] theorem ty_sz322 : tsz Try.prog 322 = some 1 := by kernel_rfl
@[go_sem] theorem ty_sz34 : tsz Try.prog 34 = some 4 := by kernel_rfl
@[go_sem] theorem ty_sz347 : tsz Try.prog 347 = some 15 := by kernel_rfl
@[go_sem] theorem ty_sz349 : tsz Try.prog 349 = some 12 := by kernel_rfl
@[go_sem] theorem ty_sz361 : tsz Try.prog 361 = some 8 := by kernel_rfl
@[go_sem] theorem ty_sz368 : tsz Try.prog 368 = some 2 := by kernel_rfl
@[go_sem] theorem ty_sz379 : tsz Try.prog 379 = some 1 := by kernel_rfl
@[go_sem] theorem ty_sz38 : tsz Try.prog 38 = some 1 := by kernel_rfl
@[go_sem] theorem ty_sz381 : tsz Try.prog 381 = some 5 := by kernel_rfl
@[go_sem] theorem ty_sz396 : tsz Try.prog 396 = some 1 := by kernel_rfl
@[go_sem] theorem ty_sz4 : tsz Try.prog 4 = some 1 := by kernel_rfl
@[go_sem] theorem ty_sz400 : tsz Try.prog 400 = some 3 := by kernel_rfl
@[go_sem] theorem ty_sz426 : tsz Try.prog 426 = some 1 := by kernel_rfl
@[go_sem] theorem ty_sz43 : tsz Try.prog 43 = some 1 := by kernel_rfl
@[go_sem] theorem ty_sz45 : tsz Try.prog 45 = some 3 := by kernel_rfl
@[go_sem] theorem ty_sz5 : tsz Try.prog 5 = some 1 := by kernel_rfl
@[go_sem] theorem ty_sz50 : tsz Try.prog 50 = some 1 := by kernel_rfl
@[go_sem] theorem ty_sz51 : tsz Try.prog 51 = some 1 := by kernel_rfl
@[go_sem] theorem ty_sz52 : tsz Try.prog 52 = some 1 := by kernel_rfl
@[go_sem] theorem ty_sz53 : tsz Try.prog 53 = some 1 := by kernel_rfl
@[go_sem] theorem ty_sz54 : tsz Try.prog 54 = some 1 := by kernel_rfl
@[go_sem] theorem ty_sz56 : tsz Try.prog 56 = some 8 := by kernel_rfl
@[go_sem] theorem ty_sz59 : tsz Try.prog 59 = some 1 := by kernel_rfl
@[go_sem] theorem ty_sz60 : tsz Try.prog 60 = some 1 := by kernel_rfl
@[go_sem] theorem ty_sz61 : tsz Try.prog 61 = some 1 := by kernel_rfl
@[go_sem] theorem ty_sz63 : tsz Try.prog 63 = some 8 := by kernel_rfl
@[go_sem] theorem ty_sz65 : tsz Try.prog 65 = some 14 := by kernel_rfl
@[go_sem] theorem ty_sz73 : tsz Try.prog 73 = some 1 := by kernel_rfl
@[go_sem] theorem ty_sz74 : tsz Try.prog 74 = some 1 := by kernel_rfl
@[go_sem] theorem ty_sz75 : tsz Try.prog 75 = some 1 := by kernel_rfl
@[go_sem] theorem ty_sz76 : tsz Try.prog 76 = some 1 := by kernel_rfl
@[go_sem] theorem ty_sz77 : tsz Try.prog 77 = some 1 := by kernel_rfl
@[go_sem] theorem ty_sz79 : tsz Try.prog 79 = some 7 := by kernel_rfl
@[go_sem] theorem ty_sz84 : tsz Try.prog 84 = some 1 := by kernel_rfl
@[go_sem] theorem ty_sz86 : tsz Try.prog 86 = some 5 := by kernel_rfl
@[go_sem] theorem ty_sz87 : tsz Try.prog 87 = some 2 := by kernel_rfl
@[go_sem] theorem ty_sz9 : tsz Try.prog 9 = some 1 := by kernel_rfl
@[go_sem] theorem ty_sz94 : tsz Try.prog 94 = some 2 := by kernel_rfl
@[go_sem] theorem ty_sz98 : tsz Try.prog 98 = some 3 := by kernel_rfl
@[go_sem] theorem ty_u83 : isU8s Try.prog 3 = false := by kernel_rfl
@[go_sem] theorem ty_u8307 : isU8s Try.prog 307 = false := by kernel_rfl
@[go_sem] theorem ty_u832 : isU8s Try.prog 32 = true := by kernel_rfl
@[go_sem] theorem ty_u8401 : isU8s Try.prog 401 = false := by kernel_rfl
@[go_sem] theorem ty_u8403 : isU8s Try.prog 403 = false := by kernel_rfl
@[go_sem] theorem ty_u8406 : isU8s Try.prog 406 = false := by kernel_rfl
@[go_sem] theorem ty_u8426 : isU8s Try.prog 426 = false := by kernel_rfl
@[go_sem] theorem ty_u85 : isU8s Try.prog 5 = false := by kernel_rfl
@[go_sem] theorem ty_u888 : isU8s Try.prog 88 = false := by kernel_rfl
@[go_sem] theorem ty_u89 : isU8s Try.prog 9 = false := by kernel_rfl
@[go_sem] theorem ty_un3 : (Try.prog.underlying 3).isSome = true := by kernel_rfl
@[go_sem] theorem ty_un307 : (Try.prog.underlying 307).isSome = true := by kernel_rfl
@[go_sem] theorem ty_un32 : (Try.prog.underlying 32).isSome = true := by kernel_rfl
@[go_sem] theorem ty_un401 : (Try.prog.underlying 401).isSome = true := by kernel_rfl
@[go_sem] theorem ty_un403 : (Try.prog.underlying 403).isSome = true := by kernel_rfl
@[go_sem] theorem ty_un406 : (Try.prog.underlying 406).isSome = true := by kernel_rfl
@[go_sem] theorem ty_un426 : (Try.prog.underlying 426).isSome = true := by kernel_rfl
@[go_sem] theorem ty_un5 : (Try.prog.underlying 5).isSome = true := by kernel_rfl
@[go_sem] theorem ty_un88 : (Try.prog.underlying 88).isSome = true := by kernel_rfl
@[go_sem] theorem ty_un9 : (Try.prog.underlying 9).isSome = true := by kernel_rfl
@[go_sem] theorem ty_ze108 : tzero Try.prog 108 = some (.agg [(.int .i64 0), (.int .i64 0), (.str []), (.sl [] true .full)]) := by kernel_rfl
@[go_sem] theorem ty_ze112 : tzero Try.prog 112 = some (.agg [(.int .i64 0), (.int .i64 0), (.str []), (.sl [] true .full)]) := by kernel_rfl
@[go_sem] theorem ty_ze124 : tzero Try.prog 124 = some (.agg [(.sl [] true .full), (.int .i64 0), (.int .i64 0), (.str []), (.sl [] true .full)]) := by kernel_rfl
@[go_sem] theorem ty_ze127 : tzero Try.prog 127 = some (.agg [(.bool false), (.int .i64 0), (.sl [] true .full), (.int .i64 0), (.int .i64 0), (.str []), (.sl [] true .full), (.sl [] true .full), (.sl [] true .full)]) := by kernel_rfl
@[go_sem] theorem ty_ze131 : tzero Try.prog 131 = some (.sl [] true .full) := by kernel_rfl
@[go_sem] theorem ty_ze133 : tzero Try.prog 133 = some (.agg [(.sl [] true .full), (.sl [] true .full), (.int .i64 0), (.int .i64 0)]) := by kernel_rfl
@[go_sem] theorem ty_ze137 : tzero Try.prog 137 = some (.agg [(.int .i64 0), (.int .i64 0), (.int .i64 0), (.int .i64 0), (.int .i64 0)]) := by kernel_rfl
@[go_sem] theorem ty_ze138 : tzero Try.prog 138 = some (.sl [] true .full) := by kernel_rfl
@[go_sem] theorem ty_ze140 : tzero Try.prog 140 = some (.agg [(.int .i64 0), (.int .i64 0)]) := by kernel_rfl
@[go_sem] theorem ty_ze147 : tzero Try.prog 147 = some (.agg [(.bool false), (.sl [] true .full), (.sl [] true .full), (.sl [] true .full), (.int .i64 0)]) := by kernel_rfl
@[go_sem] theorem ty_ze151 : tzero Try.prog 151 = some (.agg [(.int .i64 0), (.int .i64 0), (.int .i64 0), (.int .i64 0)]) := by kernel_rfl
@[go_sem] theorem ty_ze158 : tzero Try.prog 158 = some (.agg [(.sl [] true .full)]) := by kernel_rfl
@[go_sem] theorem ty_ze167 : tzero Try.prog 167 = some (.agg [(.int .i64 0), (.int .i64 0), (.str [])]) := by kernel_rfl
@[go_sem] theorem ty_ze175 : tzero Try.prog 175 = some (.agg [(.str []), (.int .i64 0)]) := by kernel_rfl
@[go_sem] theorem ty_ze178 : tzero Try.prog 178 = some (.agg [(.str []), (.int .i64 0), (.int .i64 0)]) := by kernel_rfl
@[go_sem] theorem ty_ze180 : tzero Try.prog 180 = some (.sl [] true .full) := by kernel_rfl
@[go_sem] theorem ty_ze189 : tzero Try.prog 189 = some (.agg [(.int .i64 0), (.int .i64 0)]) := by kernel_rfl
@[go_sem] theorem ty_ze199 : tzero Try.prog 199 = some (.sl [] true .full) := by kernel_rfl
@[go_sem] theorem ty_ze201 : tzero Try.prog 201 = some (.agg [(.sl [] true .full), (.bool false), (.int .i64 0), (.sl [] true .full), (.sl [] true .full)]) := by kernel_rfl
@[go_sem] theorem ty_ze209 : tzero Try.prog 209 = some (.agg [(.str []), (.int .i64 0), (.sl [] true .full), (.sl [] true .full), (.sl [] true .full), (.sl [] true .full), (.sl [] true .full), (.sl [] true .full), (.str []), (.int .i64 0), (.sl [] true .full), (.sl [] true .full), (.sl [] true .full), (.sl [] true .full), (.sl [] true .full), (.sl [] true .full), .nilm]) := by kernel_rfl
@[go_sem] theorem ty_ze214 : tzero Try.prog 214 = some (.agg [(.str []), (.sl [] true .full), (.sl [] true .full)]) := by kernel_rfl
@[go_sem] theorem ty_ze216 : tzero Try.prog 216 = some (.agg [(.str []), (.sl [] true .full)]) := by kernel_rfl
@[go_sem] theorem ty_ze218 : tzero Try.prog 218 = some (.agg [(.str []), (.sl [] true .full)]) := by kernel_rfl
@[go_sem] theorem ty_ze22 : tzero Try.prog 22 = some (.sl [] true .full) := by kernel_rfl
@[go_sem] theorem ty_ze220 : tzero Try.prog 220 = some (.agg [(.str []), (.str []), (.sl [] true .full)]) := by kernel_rfl
@[go_sem] theorem ty_ze229 : tzero Try.prog 229 = some (.agg [(.str []), (.int .i64 0), (.int .i64 0), (.int .i64 0), (.sl [] true .full)]) := by kernel_rfl
@[go_sem] theorem ty_ze231 : tzero Try.prog 231 = some (.agg [(.int .i64 0), (.int .i64 0), (.int .i64 0), (.int .i64 0), (.sl [] true .full)]) := by kernel_rfl
@[go_sem] theorem ty_ze233 : tzero Try.prog 233 = some (.agg [(.sl [] true .full), (.sl [] true .full), (.sl [] true .full), (.sl [] true .full), (.sl [] true .full), (.sl [] true .full), (.sl [] true .full), .nilm, (.int .i64 0), (.int .i64 0)]) := by kernel_rfl
@[go_sem] theorem ty_ze24 : tzero Try.prog 24 = some .nilp := by kernel_rfl
@[go_sem] theorem ty_ze245 : tzero Try.prog 245 = some (.agg [(.int .i64 0), (.sl [] true .full)]) := by kernel_rfl
@[go_sem] theorem ty_ze251 : tzero Try.prog 251 = some (.agg [(.sl [] true .full), .nilm]) := by kernel_rfl
@[go_sem] theorem ty_ze256 : tzero Try.prog 256 = some (.agg [(.sl [] true .full), (.sl [] true .full), (.sl [] true .full), (.sl [] true .full)]) := by kernel_rfl
@[go_sem] theorem ty_ze258 : tzero Try.prog 258 = some (.agg [(.int .i64 0), (.int .i64 0)]) := by kernel_rfl
@[go_sem] theorem ty_ze259 : tzero Try.prog 259 = some .nilp := by kernel_rfl
@[go_sem] theorem ty_ze260 : tzero Try.prog 260 = some .nilm := by kernel_rfl
@[go_sem] theorem ty_ze262 : tzero Try.prog 262 = some (.agg [(.sl [] true .full), (.sl [] true .full), .nilm]) := by kernel_rfl
@[go_sem] theorem ty_ze265 : tzero Try.prog 265 = some (.sl [] true .full) := by kernel_rfl
@[go_sem] theorem ty_ze266 : tzero Try.prog 266 = some (.sl [] true .full) := by kernel_rfl
@[go_sem] theorem ty_ze267 : tzero Try.prog 267 = some (.sl [] true .full) := by kernel_rfl
@[go_sem] theorem ty_ze268 : tzero Try.prog 268 = some (.sl [] true .full) := by kernel_rfl
@[go_sem] theorem ty_ze269 : tzero Try.prog 269 = some .nilm := by kernel_rfl
@[go_sem] theorem ty_ze270 : tzero Try.prog 270 = some .nilm := by kernel_rfl
@[go_sem] theorem ty_ze271 : tzero Try.prog 271 = some (.sl [] true .full) := by kernel_rfl
@[go_sem] theorem ty_ze273 : tzero Try.prog 273 = some (.agg [(.int .i64 0), (.int .i64 0)]) := by kernel_rfl
@[go_sem] theorem ty_ze275 : tzero Try.prog 275 = some (.agg [(.int .i64 0), (.int .i64 0), (.int .i64 0), (.int .i64 0), (.int .i64 0), (.int .i64 0), (.int .i64 0)]) := by kernel_rfl
@[go_sem] theorem ty_ze276 : tzero Try.prog 276 = some (.sl [] true .full) := by kernel_rfl
@[go_sem] theorem ty_ze277 : tzero Try.prog 277 = some .nilf := by kernel_rfl
@[go_sem] theorem ty_ze279 : tzero Try.prog 279 = some .nilf := by kernel_rfl
@[go_sem] theorem ty_ze286 : tzero Try.prog 286 = some (.agg [(.sl [] true .full), .nilm, (.sl [] true .full)]) := by kernel_rfl
@[go_sem] theorem ty_ze289 : tzero Try.prog 289 = some .nilm := by kernel_rfl
@[go_sem] theorem ty_ze292 : tzero Try.prog 292 = some (.agg [(.sl [] true .full), (.int .i64 0), (.int .i64 0), (.bool false), (.int .i64 0)]) := by kernel_rfl
@[go_sem] theorem ty_ze295 : tzero Try.prog 295 = some (.agg [(.str []), (.int .i64 0), (.sl [] true .full), (.sl [] true .full)]) := by kernel_rfl
@[go_sem] theorem ty_ze3 : tzero Try.prog 3 = some (.int .i64 0) := by kernel_rfl
@[go_sem] theorem ty_ze300 : tzero Try.prog 300 = some (.agg [(.int .i64 0), (.int .i64 0), (.int .i64 0), (.str []), (.sl [] true .full)]) := by kernel_rfl
@[go_sem] theorem ty_ze309 : tzero Try.prog 309 = some (.agg [.nilp, (.sl [] true .full)]) := by kernel_rfl
@[go_sem] theorem ty_ze311 : tzero Try.prog 311 = some (.agg [(.int .i64 0), (.bool false)]) := by kernel_rfl
@[go_sem] theorem ty_ze327 : tzero Try.prog 327 = some (.agg [(.sl [] true .full), (.sl [] true .full)]) := by kernel_rfl
@[go_sem] theorem ty_ze34 : tzero Try.prog 34 = some (.agg [(.int .i64 0), (.int .i64 0), (.sl [] true .full), (.sl [] true .full)]) := by kernel_rfl
@[go_sem] theorem ty_ze340 : tzero Try.prog 340 = some (.agg [(.sl [] true .full), (.sl [] true .full)]) := by kernel_rfl
@[go_sem] theorem ty_ze347 : tzero Try.prog 347 = some (.agg [(.str []), (.sl [] true .full), (.sl [] true .full), (.sl [] true .full), (.int .i64 0), (.str []), (.sl [] true .full), (.int .i64 0), (.int .i64 0), (.str []), (.sl [] true .full), (.sl [] true .full), (.sl [] true .full), (.sl [] true .full), (.int .i64 0)]) := by kernel_rfl
@[go_sem] theorem ty_ze349 : tzero Try.prog 349 = some (.agg [(.int .i64 0), (.int .i64 0), (.str []), (.sl [] true .full), (.int .i64 0), (.int .i64 0), (.str []), (.sl [] true .full), (.sl [] true .full), (.sl [] true .full), (.sl [] true .full), (.int .i64 0)]) := by kernel_rfl
@[go_sem] theorem ty_ze361 : tzero Try.prog 361 = some (.agg [(.int .i64 0), (.int .i64 0), (.int .i64 0), (.int .i64 0), (.int .i64 0), (.int .i64 0), (.int .i64 0), .nilp]) := by kernel_rfl
@[go_sem] theorem ty_ze368 : tzero Try.prog 368 = some (.agg [(.int .i64 0), (.bool false)]) := by kernel_rfl
@[go_sem] theorem ty_ze379 : tzero Try.prog 379 = some .nilp := by kernel_rfl
@[go_sem] theorem ty_ze38 : tzero Try.prog 38 = some (.sl [] true .full) := by kernel_rfl
@[go_sem] theorem ty_ze381 : tzero Try.prog 381 = some (.agg [(.int .i64 0), (.int .i64 0), (.str []), (.sl [] true .full), (.int .i64 0)]) := by kernel_rfl
@[go_sem] theorem ty_ze4 : tzero Try.prog 4 = some (.bool false) := by kernel_rfl
@[go_sem] theorem ty_ze400 : tzero Try.prog 400 = some (.agg [(.sl [] true .full), (.sl [] true .full), .nilp]) := by kernel_rfl
@[go_sem] theorem ty_ze426 : tzero Try.prog 426 = some (.int .u64 0) := by kernel_rfl
@[go_sem] theorem ty_ze45 : tzero Try.prog 45 = some (.agg [(.int .i64 0), (.str []), (.sl [] true .full)]) := by kernel_rfl
@[go_sem] theorem ty_ze5 : tzero Try.prog 5 = some (.int .u8 0) := by kernel_rfl
@[go_sem] theorem ty_ze56 : tzero Try.prog 56 = some (.agg [(.str []), (.int .i64 0), (.sl [] true .full), (.sl [] true .full), (.sl [] true .full), (.sl [] true .full), (.sl [] true .full), (.sl [] true .full)]) := by kernel_rfl
@[go_sem] theorem ty_ze63 : tzero Try.prog 63 = some (.agg [(.int .i64 0), (.int .i64 0), (.str []), (.sl [] true .full), (.sl [] true .full), (.sl [] true .full), (.sl [] true .full), (.int .i64 0)]) := by kernel_rfl
@[go_sem] theorem ty_ze65 : tzero Try.prog 65 = some (.agg [(.str []), (.sl [] true .full), (.sl [] true .full), (.int .i64 0), (.str []), (.sl [] true .full), (.int .i64 0), (.int .i64 0), (.str []), (.sl [] true .full), (.sl [] true .full), (.sl [] true .full), (.sl [] true .full), (.int .i64 0)]) := by kernel_rfl
@[go_sem] theorem ty_ze86 : tzero Try.prog 86 = some (.agg [(.int .i64 0), (.int .i64 0), (.int .i64 0), (.int .i64 0), (.bool false)]) := by kernel_rfl
@[go_sem] theorem ty_ze87 : tzero Try.prog 87 = some (.agg [(.int .i64 0), (.int .i64 0)]) := by kernel_rfl
@[go_sem] theorem ty_ze9 : tzero Try.prog 9 = some (.str []) := by kernel_rfl
@[go_sem] theorem ty_ze94 : tzero Try.prog 94 = some (.agg [(.str []), (.int .i64 0)]) := by kernel_rfl
@[go_sem] theorem ty_ze98 : tzero Try.prog 98 = some (.agg [(.str []), (.str []), (.int .i64 0)]) := by kernel_rfl
end Go.Proofs.Ytacecjfpkdijpaa

/- api.Value as data; what is known of any value of that type and of no more bulk than a statement allows. No conditions. -/
set_option linter.unusedSimpArgs false
set_option linter.unusedVariables false
namespace Go.Proofs.Ytacecjfpkdijpaa
open Go.Proofs.YtacecjfpkdijpaaV
set_option maxRecDepth 100000
inductive Val where
  | mk (kind num : Int) (text : List UInt8) (args : List Val) (nl : Bool)
namespace Val
def kind : Val → Int | mk k _ _ _ _ => k
def num : Val → Int | mk _ n _ _ _ => n
def text : Val → List UInt8 | mk _ _ t _ _ => t
def args : Val → List Val | mk _ _ _ a _ => a
def nl : Val → Bool | mk _ _ _ _ b => b
end Val
instance : Inhabited Val := ⟨.mk 0 0 [] [] true⟩
mutual
def eVal : Val → List V | .mk k n t ar nl => [.int .i64 k, .int .i64 n, .str t, .sl (eVals ar) nl .no]
def eVals : List Val → List (List V) | [] => [] | v :: vs => eVal v :: eVals vs
end
mutual
/-- How many values. -/
def Val.sz : Val → Nat | .mk _ _ _ ar _ => 1 + szs ar
def szs : List Val → Nat | [] => 0 | v :: vs => v.sz + szs vs
end
theorem eVals_map : ∀ vs, eVals vs = vs.map eVal
  | [] => rfl
  | v :: vs => by rw [eVals, eVals_map vs]; rfl
theorem eVal_eq (v : Val) : eVal v = [.int .i64 v.kind, .int .i64 v.num, .str v.text, .sl (v.args.map eVal) v.nl .no] := by
  cases v; rw [eVal, eVals_map]; rfl
theorem szs_mem {v : Val} : ∀ {vs : List Val}, v ∈ vs → v.sz ≤ szs vs
  | u :: vs, h => by
    simp only [szs]
    rcases List.mem_cons.1 h with rfl | h
    · omega
    · have := szs_mem h; omega
theorem Val.sz_eq (v : Val) : v.sz = 1 + szs v.args := by cases v; rw [Val.sz]; rfl
theorem szs_append : ∀ a b : List Val, szs (a ++ b) = szs a + szs b
  | [], b => by simp [szs]
  | v :: a, b => by simp only [List.cons_append, szs, szs_append a b]; omega
theorem szs_len : ∀ vs : List Val, vs.length ≤ szs vs
  | [] => by simp [szs]
  | v :: vs => by have := szs_len vs; have := v.sz_eq; simp only [szs, List.length_cons]; omega
theorem Val.sz_args {v a : Val} (h : a ∈ v.args) : a.sz < v.sz := by have := szs_mem h; have := v.sz_eq; omega
/-- What any value keeps to. -/
inductive OkVal : Val → Prop
  | mk {k n : Int} {t : List UInt8} {ar : List Val} {nl : Bool} (hk : IntKind.i64.min ≤ k ∧ k ≤ IntKind.i64.max) (hn : IntKind.i64.min ≤ n ∧ n ≤ IntKind.i64.max) (ht : t.length ≤ bulk) (hnl : nl = true → ar = []) (hl : ar.length ≤ bulk) (ha : ∀ a ∈ ar, OkVal a) : OkVal (.mk k n t ar nl)
theorem OkVal.text {v : Val} (h : OkVal v) : v.text.length ≤ bulk := by cases h; assumption
theorem OkVal.len {v : Val} (h : OkVal v) : v.args.length ≤ bulk := by cases h; assumption
theorem OkVal.nil {v : Val} (h : OkVal v) : v.nl = true → v.args = [] := by cases h; assumption
theorem OkVal.arg {v a : Val} (h : OkVal v) (ha : a ∈ v.args) : OkVal a := by cases h; rename_i ha'; exact ha' a ha
theorem OkVal.kind {v : Val} (h : OkVal v) : IntKind.i64.min ≤ v.kind ∧ v.kind ≤ IntKind.i64.max := by cases h; assumption
theorem OkVal.num {v : Val} (h : OkVal v) : IntKind.i64.min ≤ v.num ∧ v.num ≤ IntKind.i64.max := by cases h; assumption
def oVal (v : Val) : Prop := OkVal v ∧ v.sz ≤ bulk
theorem oVal.arg {v a : Val} (h : oVal v) (ha : a ∈ v.args) : oVal a := ⟨h.1.arg ha, Nat.le_trans (Nat.le_of_lt (Val.sz_args ha)) h.2⟩
mutual
theorem sz_le : ∀ v : Val, v.sz ≤ vszL (eVal v)
  | .mk k n t ar nl => by have := szs_le ar; simp only [Val.sz, eVal, vszL, vsz]; omega
theorem szs_le : ∀ vs : List Val, szs vs ≤ vszLL (eVals vs)
  | [] => by simp [szs]
  | v :: vs => by have := sz_le v; have := szs_le vs; simp only [szs, eVals, vszLL]; omega
end
theorem pVal (v : Val) : 1 ≤ vszL (eVal v) := by have := sz_le v; have := v.sz_eq; omega
theorem dVal0 : ∀ n, Dec Try.prog 108 eVal OkVal n := by
  intro n
  induction n using Nat.strongRecOn with
  | _ n ih =>
    intro cs hv hb
    obtain ⟨m, rfl, h⟩ := dec_struct (ts := [3, 3, 9, 106]) (by kernel_rfl) hv
    obtain ⟨a0, r0, rfl, _, h0, a1, r1, rfl, _, h1, a2, r2, rfl, _, h2, a3, r3, rfl, _, h3, rfl⟩ := h
    simp only [vszL_append] at hb
    obtain ⟨x0, rfl, q0⟩ := dec_int (n := m) (k := .i64) (by kernel_rfl) _ h0 (by omega)
    obtain ⟨x1, rfl, q1⟩ := dec_int (n := m) (k := .i64) (by kernel_rfl) _ h1 (by omega)
    obtain ⟨x2, rfl, q2⟩ := dec_str (n := m) (by kernel_rfl) _ h2 (by omega)
    obtain ⟨x3, rfl, q3, q4, q5⟩ := dec_slice (n := m) (el := 108) (by kernel_rfl) pVal (fun k hk => ih k (by omega)) _ h3 (by omega)
    exact ⟨.mk x0 x1 x2 x3.1 x3.2, by rw [eVal_eq]; rfl, .mk q0 q1 q2 q3 q4 q5⟩
theorem dVal (n : Nat) : Dec Try.prog 108 eVal oVal n := fun cs hv hb => by
  obtain ⟨x, rfl, h⟩ := dVal0 n cs hv hb
  exact ⟨x, rfl, h, Nat.le_trans (sz_le x) hb⟩
mutual
/-- The same but for nil where there is nothing. -/
def sameV : Val → Val → Bool | .mk k n t ar _, .mk k' n' t' ar' _ => decide (k = k') && decide (n = n') && decide (t = t') && sameVs ar ar'
def sameVs : List Val → List Val → Bool
  | [], [] => true
  | v :: vs, u :: us => sameV v u && sameVs vs us
  | _, _ => false
end
/-- slices.EqualFunc -/
def eqF {A B : Type} (f : A → B → Bool) (xs : List A) (ys : List B) : Bool := decide (xs.length = ys.length) && (xs.zip ys).all fun p => f p.1 p.2
theorem eqF_cons {A B : Type} (f : A → B → Bool) (x : A) (y : B) (xs : List A) (ys : List B) : eqF f (x :: xs) (y :: ys) = (f x y && eqF f xs ys) := by
  simp [eqF, Bool.and_left_comm]
theorem sameVs_eq : ∀ vs us, sameVs vs us = eqF sameV vs us
  | [], [] => rfl
  | [], _ :: _ => by simp [sameVs, eqF]
  | _ :: _, [] => by simp [sameVs, eqF]
  | v :: vs, u :: us => by rw [sameVs, sameVs_eq vs us, eqF_cons]
theorem sameV_eq (v u : Val) : sameV v u = (decide (v.kind = u.kind) && decide (v.num = u.num) && decide (v.text = u.text) && eqF sameV v.args u.args) := by
  cases v; cases u; rw [sameV, sameVs_eq]; rfl
mutual
theorem sameV_refl : ∀ v, sameV v v = true
  | .mk k n t ar nl => by simp [sameV, sameVs_refl ar]
theorem sameVs_refl : ∀ vs, sameVs vs vs = true
  | [] => rfl
  | v :: vs => by simp [sameVs, sameV_refl v, sameVs_refl vs]
end
mutual
/-- A value's copy. -/
def cpV : Val → Val | .mk k n t ar _ => .mk k n t (cpVs ar) ar.isEmpty
def cpVs : List Val → List Val | [] => [] | v :: vs => cpV v :: cpVs vs
end
theorem cpVs_map : ∀ vs, cpVs vs = vs.map cpV
  | [] => rfl
  | v :: vs => by rw [cpVs, cpVs_map vs]; rfl
theorem cpV_eq (v : Val) : cpV v = .mk v.kind v.num v.text (v.args.map cpV) v.args.isEmpty := by cases v; rw [cpV, cpVs_map]; rfl
mutual
theorem same_cp : ∀ v, sameV (cpV v) v = true
  | .mk k n t ar nl => by simp [cpV, sameV, sames_cp ar]
theorem sames_cp : ∀ vs, sameVs (cpVs vs) vs = true
  | [] => rfl
  | v :: vs => by simp [cpVs, sameVs, same_cp v, sames_cp vs]
end
end Go.Proofs.Ytacecjfpkdijpaa

/- api.Type, api.Pat, api.Expr as data; what is known of any of them of no more bulk than a statement allows. No conditions. -/
set_option linter.unusedSimpArgs false
set_option linter.unusedVariables false
namespace Go.Proofs.Ytacecjfpkdijpaa
open Go.Proofs.YtacecjfpkdijpaaV
set_option maxRecDepth 100000
/-! ### types -/
inductive Typ where
  | mk (kind : Int) (name : List UInt8) (args : List Typ) (nl : Bool)
namespace Typ
def kind : Typ → Int | mk k _ _ _ => k
def name : Typ → List UInt8 | mk _ n _ _ => n
def args : Typ → List Typ | mk _ _ a _ => a
def nl : Typ → Bool | mk _ _ _ b => b
end Typ
instance : Inhabited Typ := ⟨.mk 0 [] [] true⟩
mutual
def eTyp : Typ → List V | .mk k n ar nl => [.int .i64 k, .str n, .sl (eTyps ar) nl .no]
def eTyps : List Typ → List (List V) | [] => [] | v :: vs => eTyp v :: eTyps vs
end
mutual
def Typ.sz : Typ → Nat | .mk _ _ ar _ => 1 + tszs ar
def tszs : List Typ → Nat | [] => 0 | v :: vs => v.sz + tszs vs
end
theorem eTyps_map : ∀ vs, eTyps vs = vs.map eTyp
  | [] => rfl
  | v :: vs => by rw [eTyps, eTyps_map vs]; rfl
abbrev cTyp (v : Typ) : List V := [.int .i64 v.kind, .str v.name, .sl (v.args.map eTyp) v.nl .no]
theorem eTyp_eq (v : Typ) : eTyp v = cTyp v := by
  cases v; rw [eTyp, eTyps_map]; rfl
theorem tszs_mem {v : Typ} : ∀ {vs : List Typ}, v ∈ vs → v.sz ≤ tszs vs
  | u :: vs, h => by
    simp only [tszs]
    rcases List.mem_cons.1 h with rfl | h
    · omega
    · have := tszs_mem h; omega
theorem Typ.sz_eq (v : Typ) : v.sz = 1 + tszs v.args := by cases v; rw [Typ.sz]; rfl
theorem tszs_append : ∀ a b : List Typ, tszs (a ++ b) = tszs a + tszs b
  | [], b => by simp [tszs]
  | v :: a, b => by simp only [List.cons_append, tszs, tszs_append a b]; omega
theorem tszs_len : ∀ vs : List Typ, vs.length ≤ tszs vs
  | [] => by simp [tszs]
  | v :: vs => by have := tszs_len vs; have := v.sz_eq; simp only [tszs, List.length_cons]; omega
theorem Typ.sz_args {v a : Typ} (h : a ∈ v.args) : a.sz < v.sz := by have := tszs_mem h; have := v.sz_eq; omega
inductive OkTyp : Typ → Prop
  | mk {k : Int} {t : List UInt8} {ar : List Typ} {nl : Bool} (hk : IntKind.i64.min ≤ k ∧ k ≤ IntKind.i64.max) (ht : t.length ≤ bulk) (hnl : nl = true → ar = []) (hl : ar.length ≤ bulk) (ha : ∀ a ∈ ar, OkTyp a) : OkTyp (.mk k t ar nl)
theorem OkTyp.name {v : Typ} (h : OkTyp v) : v.name.length ≤ bulk := by cases h; assumption
theorem OkTyp.len {v : Typ} (h : OkTyp v) : v.args.length ≤ bulk := by cases h; assumption
theorem OkTyp.nil {v : Typ} (h : OkTyp v) : v.nl = true → v.args = [] := by cases h; assumption
theorem OkTyp.arg {v a : Typ} (h : OkTyp v) (ha : a ∈ v.args) : OkTyp a := by cases h; rename_i ha'; exact ha' a ha
theorem OkTyp.kind {v : Typ} (h : OkTyp v) : IntKind.i64.min ≤ v.kind ∧ v.kind ≤ IntKind.i64.max := by cases h; assumption
def oTyp (v : Typ) : Prop := OkTyp v ∧ v.sz ≤ bulk
theorem oTyp.arg {v a : Typ} (h : oTyp v) (ha : a ∈ v.args) : oTyp a := ⟨h.1.arg ha, Nat.le_trans (Nat.le_of_lt (Typ.sz_args ha)) h.2⟩
mutual
theorem tsz_le : ∀ v : Typ, v.sz ≤ vszL (eTyp v)
  | .mk k n ar nl => by have := tszs_le ar; simp only [Typ.sz, eTyp, vszL, vsz]; omega
theorem tszs_le : ∀ vs : List Typ, tszs vs ≤ vszLL (eTyps vs)
  | [] => by simp [tszs]
  | v :: vs => by have := tsz_le v; have := tszs_le vs; simp only [tszs, eTyps, vszLL]; omega
end
theorem pTyp (v : Typ) : 1 ≤ vszL (eTyp v) := by have := tsz_le v; have := v.sz_eq; omega
theorem dTyp0 : ∀ n, Dec Try.prog 45 eTyp OkTyp n := by
  intro n
  induction n using Nat.strongRecOn with
  | _ n ih =>
    intro cs hv hb
    obtain ⟨m, rfl, h⟩ := dec_struct (ts := [3, 9, 43]) (by kernel_rfl) hv
    obtain ⟨a0, r0, rfl, _, h0, a2, r2, rfl, _, h2, a3, r3, rfl, _, h3, rfl⟩ := h
    simp only [vszL_append] at hb
    obtain ⟨x0, rfl, q0⟩ := dec_int (n := m) (k := .i64) (by kernel_rfl) _ h0 (by omega)
    obtain ⟨x2, rfl, q2⟩ := dec_str (n := m) (by kernel_rfl) _ h2 (by omega)
    obtain ⟨x3, rfl, q3, q4, q5⟩ := dec_slice (n := m) (el := 45) (by kernel_rfl) pTyp (fun k hk => ih k (by omega)) _ h3 (by omega)
    exact ⟨.mk x0 x2 x3.1 x3.2, by rw [eTyp_eq]; rfl, .mk q0 q2 q3 q4 q5⟩
theorem dTyp (n : Nat) : Dec Try.prog 45 eTyp oTyp n := fun cs hv hb => by
  obtain ⟨x, rfl, h⟩ := dTyp0 n cs hv hb
  exact ⟨x, rfl, h, Nat.le_trans (tsz_le x) hb⟩
/-- Lists of types. -/
abbrev Typs := List Typ × Bool
def eTypL (x : Typs) : List V := [.sl (x.1.map eTyp) x.2 .no]
def oTypL (x : Typs) : Prop := (x.2 = true → x.1 = []) ∧ tszs x.1 ≤ bulk ∧ ∀ t ∈ x.1, OkTyp t
theorem pTypL (x : Typs) : 1 ≤ vszL (eTypL x) := by simp only [eTypL, vszL, vsz]; omega
theorem dTypL (n : Nat) : Dec Try.prog 43 eTypL oTypL n := fun cs hv hb => by
  obtain ⟨x, rfl, h1, h2, h3⟩ := dec_slice (el := 45) (by kernel_rfl) pTyp (fun k _ => dTyp0 k) cs hv hb
  refine ⟨x, rfl, h1, ?_, h3⟩
  have := tszs_le x.1
  rw [eTyps_map] at this
  simp only [vszL, vsz] at hb
  omega
theorem oTypL.mem {x : Typs} (h : oTypL x) {t : Typ} (ht : t ∈ x.1) : oTyp t := ⟨h.2.2 t ht, Nat.le_trans (tszs_mem ht) h.2.1⟩
theorem oTypL.len {x : Typs} (h : oTypL x) : x.1.length ≤ bulk := Nat.le_trans (tszs_len _) h.2.1
/-! ### patterns -/
inductive Pat where
  | mk (kind num : Int) (text : List UInt8) (args : List Pat) (nl : Bool)
namespace Pat
def kind : Pat → Int | mk k _ _ _ _ => k
def num : Pat → Int | mk _ n _ _ _ => n
def text : Pat → List UInt8 | mk _ _ t _ _ => t
def args : Pat → List Pat | mk _ _ _ a _ => a
def nl : Pat → Bool | mk _ _ _ _ b => b
end Pat
instance : Inhabited Pat := ⟨.mk 0 0 [] [] true⟩
mutual
def ePat : Pat → List V | .mk k n t ar nl => [.int .i64 k, .int .i64 n, .str t, .sl (ePats ar) nl .no]
def ePats : List Pat → List (List V) | [] => [] | v :: vs => ePat v :: ePats vs
end
mutual
def Pat.sz : Pat → Nat | .mk _ _ _ ar _ => 1 + pszs ar
def pszs : List Pat → Nat | [] => 0 | v :: vs => v.sz + pszs vs
end
theorem ePats_map : ∀ vs, ePats vs = vs.map ePat
  | [] => rfl
  | v :: vs => by rw [ePats, ePats_map vs]; rfl
abbrev cPat (v : Pat) : List V := [.int .i64 v.kind, .int .i64 v.num, .str v.text, .sl (v.args.map ePat) v.nl .no]
theorem ePat_eq (v : Pat) : ePat v = cPat v := by
  cases v; rw [ePat, ePats_map]; rfl
theorem pszs_mem {v : Pat} : ∀ {vs : List Pat}, v ∈ vs → v.sz ≤ pszs vs
  | u :: vs, h => by
    simp only [pszs]
    rcases List.mem_cons.1 h with rfl | h
    · omega
    · have := pszs_mem h; omega
theorem Pat.sz_eq (v : Pat) : v.sz = 1 + pszs v.args := by cases v; rw [Pat.sz]; rfl
theorem pszs_append : ∀ a b : List Pat, pszs (a ++ b) = pszs a + pszs b
  | [], b => by simp [pszs]
  | v :: a, b => by simp only [List.cons_append, pszs, pszs_append a b]; omega
theorem pszs_len : ∀ vs : List Pat, vs.length ≤ pszs vs
  | [] => by simp [pszs]
  | v :: vs => by have := pszs_len vs; have := v.sz_eq; simp only [pszs, List.length_cons]; omega
theorem Pat.sz_args {v a : Pat} (h : a ∈ v.args) : a.sz < v.sz := by have := pszs_mem h; have := v.sz_eq; omega
inductive OkPat : Pat → Prop
  | mk {k n : Int} {t : List UInt8} {ar : List Pat} {nl : Bool} (hk : IntKind.i64.min ≤ k ∧ k ≤ IntKind.i64.max) (hn : IntKind.i64.min ≤ n ∧ n ≤ IntKind.i64.max) (ht : t.length ≤ bulk) (hnl : nl = true → ar = []) (hl : ar.length ≤ bulk) (ha : ∀ a ∈ ar, OkPat a) : OkPat (.mk k n t ar nl)
theorem OkPat.text {v : Pat} (h : OkPat v) : v.text.length ≤ bulk := by cases h; assumption
theorem OkPat.len {v : Pat} (h : OkPat v) : v.args.length ≤ bulk := by cases h; assumption
theorem OkPat.arg {v a : Pat} (h : OkPat v) (ha : a ∈ v.args) : OkPat a := by cases h; rename_i ha'; exact ha' a ha
mutual
theorem psz_le : ∀ v : Pat, v.sz ≤ vszL (ePat v)
  | .mk k n t ar nl => by have := pszs_le ar; simp only [Pat.sz, ePat, vszL, vsz]; omega
theorem pszs_le : ∀ vs : List Pat, pszs vs ≤ vszLL (ePats vs)
  | [] => by simp [pszs]
  | v :: vs => by have := psz_le v; have := pszs_le vs; simp only [pszs, ePats, vszLL]; omega
end
theorem pPat (v : Pat) : 1 ≤ vszL (ePat v) := by have := psz_le v; have := v.sz_eq; omega
theorem dPat0 : ∀ n, Dec Try.prog 112 ePat OkPat n := by
  intro n
  induction n using Nat.strongRecOn with
  | _ n ih =>
    intro cs hv hb
    obtain ⟨m, rfl, h⟩ := dec_struct (ts := [3, 3, 9, 105]) (by kernel_rfl) hv
    obtain ⟨a0, r0, rfl, _, h0, a1, r1, rfl, _, h1, a2, r2, rfl, _, h2, a3, r3, rfl, _, h3, rfl⟩ := h
    simp only [vszL_append] at hb
    obtain ⟨x0, rfl, q0⟩ := dec_int (n := m) (k := .i64) (by kernel_rfl) _ h0 (by omega)
    obtain ⟨x1, rfl, q1⟩ := dec_int (n := m) (k := .i64) (by kernel_rfl) _ h1 (by omega)
    obtain ⟨x2, rfl, q2⟩ := dec_str (n := m) (by kernel_rfl) _ h2 (by omega)
    obtain ⟨x3, rfl, q3, q4, q5⟩ := dec_slice (n := m) (el := 112) (by kernel_rfl) pPat (fun k hk => ih k (by omega)) _ h3 (by omega)
    exact ⟨.mk x0 x1 x2 x3.1 x3.2, by rw [ePat_eq]; rfl, .mk q0 q1 q2 q3 q4 q5⟩
/-! ### expressions -/
def eNm (s : List UInt8) : List V := [.str s]
theorem pNm (s : List UInt8) : 1 ≤ vszL (eNm s) := by simp only [eNm, vszL, vsz]; omega
abbrev Nms := List (List UInt8) × Bool
def eNmL (x : Nms) : List V := [.sl (x.1.map eNm) x.2 .no]
def oNmL (x : Nms) : Prop := (x.2 = true → x.1 = []) ∧ x.1.length ≤ bulk ∧ ∀ s ∈ x.1, s.length ≤ bulk
theorem pNmL (x : Nms) : 1 ≤ vszL (eNmL x) := by simp only [eNmL, vszL, vsz]; omega
theorem dNmL (n : Nat) : Dec Try.prog 59 eNmL oNmL n := dec_slice (el := 9) (by kernel_rfl) pNm (fun k _ => dec_str (by kernel_rfl))
mutual
inductive Ex where
  | mk (kind num : Int) (text : List UInt8) (names : Nms) (types : Typs) (args : List Ex) (anl : Bool) (arms : List Arm) (mnl : Bool) (at_ : Int)
inductive Arm where
  | mk (pat : Pat) (body : Ex)
end
namespace Ex
def kind : Ex → Int | mk k _ _ _ _ _ _ _ _ _ => k
def num : Ex → Int | mk _ n _ _ _ _ _ _ _ _ => n
def text : Ex → List UInt8 | mk _ _ t _ _ _ _ _ _ _ => t
def names : Ex → Nms | mk _ _ _ n _ _ _ _ _ _ => n
def types : Ex → Typs | mk _ _ _ _ t _ _ _ _ _ => t
def args : Ex → List Ex | mk _ _ _ _ _ a _ _ _ _ => a
def anl : Ex → Bool | mk _ _ _ _ _ _ b _ _ _ => b
def arms : Ex → List Arm | mk _ _ _ _ _ _ _ m _ _ => m
def mnl : Ex → Bool | mk _ _ _ _ _ _ _ _ b _ => b
def pos : Ex → Int | mk _ _ _ _ _ _ _ _ _ a => a
end Ex
namespace Arm
def pat : Arm → Pat | mk p _ => p
def body : Arm → Ex | mk _ b => b
end Arm
instance : Inhabited Ex := ⟨.mk 0 0 [] ([], true) ([], true) [] true [] true 0⟩
mutual
def eEx : Ex → List V | .mk k n t nm ty ar anl ms mnl p => [.int .i64 k, .int .i64 n, .str t, .sl (nm.1.map eNm) nm.2 .no, .sl (ty.1.map eTyp) ty.2 .no, .sl (eExs ar) anl .no, .sl (eArms ms) mnl .no, .int .i64 p]
def eExs : List Ex → List (List V) | [] => [] | v :: vs => eEx v :: eExs vs
def eArm : Arm → List V | .mk p b => ePat p ++ eEx b
def eArms : List Arm → List (List V) | [] => [] | v :: vs => eArm v :: eArms vs
end
theorem eExs_map : ∀ vs, eExs vs = vs.map eEx
  | [] => rfl
  | v :: vs => by rw [eExs, eExs_map vs]; rfl
theorem eArms_map : ∀ vs, eArms vs = vs.map eArm
  | [] => rfl
  | v :: vs => by rw [eArms, eArms_map vs]; rfl
abbrev cEx (v : Ex) : List V := [.int .i64 v.kind, .int .i64 v.num, .str v.text, .sl (v.names.1.map eNm) v.names.2 .no, .sl (v.types.1.map eTyp) v.types.2 .no, .sl (v.args.map eEx) v.anl .no, .sl (v.arms.map eArm) v.mnl .no, .int .i64 v.pos]
theorem eEx_eq (v : Ex) : eEx v = cEx v := by
  cases v; rw [eEx, eExs_map, eArms_map]; rfl
theorem eArm_eq (m : Arm) : eArm m = cPat m.pat ++ cEx m.body := by
  cases m; rw [eArm, ePat_eq, eEx_eq]; rfl
mutual
def Ex.sz : Ex → Nat | .mk _ _ _ _ _ ar _ ms _ _ => 1 + exszs ar + amszs ms
def exszs : List Ex → Nat | [] => 0 | v :: vs => v.sz + exszs vs
def Arm.sz : Arm → Nat | .mk p b => p.sz + b.sz
def amszs : List Arm → Nat | [] => 0 | v :: vs => v.sz + amszs vs
end
theorem Ex.sz_eq (v : Ex) : v.sz = 1 + exszs v.args + amszs v.arms := by cases v; rw [Ex.sz]; rfl
theorem Arm.sz_eq (v : Arm) : v.sz = v.pat.sz + v.body.sz := by cases v; rw [Arm.sz]; rfl
theorem exszs_append : ∀ a b : List Ex, exszs (a ++ b) = exszs a + exszs b
  | [], b => by simp [exszs]
  | v :: a, b => by simp only [List.cons_append, exszs, exszs_append a b]; omega
theorem exszs_len : ∀ vs : List Ex, vs.length ≤ exszs vs
  | [] => by simp [exszs]
  | v :: vs => by have := exszs_len vs; have := v.sz_eq; simp only [exszs, List.length_cons]; omega
theorem amszs_len : ∀ vs : List Arm, vs.length ≤ amszs vs
  | [] => by simp [amszs]
  | v :: vs => by have := amszs_len vs; have := v.sz_eq; have := v.pat.sz_eq; simp only [amszs, List.length_cons]; omega
inductive OkEx : Ex → Prop
  | mk {k n : Int} {t : List UInt8} {nm : Nms} {ty : Typs} {ar : List Ex} {anl : Bool} {ms : List Arm} {mnl : Bool} {p : Int} (hk : IntKind.i64.min ≤ k ∧ k ≤ IntKind.i64.max) (hn : IntKind.i64.min ≤ n ∧ n ≤ IntKind.i64.max) (ht : t.length ≤ bulk) (hnm : oNmL nm) (hty : oTypL ty) (hnl : anl = true → ar = []) (hl : ar.length ≤ bulk) (ha : ∀ a ∈ ar, OkEx a) (hml : mnl = true → ms = []) (hmn : ms.length ≤ bulk) (hp : ∀ m ∈ ms, OkPat m.pat) (hm : ∀ m ∈ ms, OkEx m.body) (hat : IntKind.i64.min ≤ p ∧ p ≤ IntKind.i64.max) : OkEx (.mk k n t nm ty ar anl ms mnl p)
theorem OkEx.types {v : Ex} (h : OkEx v) : oTypL v.types := by cases h; assumption
theorem OkEx.names {v : Ex} (h : OkEx v) : oNmL v.names := by cases h; assumption
theorem OkEx.text {v : Ex} (h : OkEx v) : v.text.length ≤ bulk := by cases h; assumption
theorem OkEx.kind {v : Ex} (h : OkEx v) : IntKind.i64.min ≤ v.kind ∧ v.kind ≤ IntKind.i64.max := by cases h; assumption
theorem OkEx.num {v : Ex} (h : OkEx v) : IntKind.i64.min ≤ v.num ∧ v.num ≤ IntKind.i64.max := by cases h; assumption
theorem OkEx.pos {v : Ex} (h : OkEx v) : IntKind.i64.min ≤ v.pos ∧ v.pos ≤ IntKind.i64.max := by cases h; assumption
theorem OkEx.len {v : Ex} (h : OkEx v) : v.args.length ≤ bulk := by cases h; assumption
theorem OkEx.mlen {v : Ex} (h : OkEx v) : v.arms.length ≤ bulk := by cases h; assumption
theorem OkEx.nil {v : Ex} (h : OkEx v) : v.anl = true → v.args = [] := by cases h; assumption
theorem OkEx.arg {v a : Ex} (h : OkEx v) (ha : a ∈ v.args) : OkEx a := by cases h; rename_i ha' _ _ _ _ _; exact ha' a ha
theorem OkEx.pat {v : Ex} {m : Arm} (h : OkEx v) (hm : m ∈ v.arms) : OkPat m.pat := by cases h; rename_i h1 h2 h3; exact h1 m hm
theorem OkEx.body {v : Ex} {m : Arm} (h : OkEx v) (hm : m ∈ v.arms) : OkEx m.body := by cases h; rename_i h1 h2 h3; exact h2 m hm
def oEx (v : Ex) : Prop := OkEx v ∧ v.sz ≤ bulk
mutual
theorem exsz_le : ∀ v : Ex, v.sz ≤ vszL (eEx v)
  | .mk k n t nm ty ar anl ms mnl p => by have := exszs_le ar; have := amszs_le ms; simp only [Ex.sz, eEx, vszL, vsz]; omega
theorem exszs_le : ∀ vs : List Ex, exszs vs ≤ vszLL (eExs vs)
  | [] => by simp [exszs]
  | v :: vs => by have := exsz_le v; have := exszs_le vs; simp only [exszs, eExs, vszLL]; omega
theorem amsz_le : ∀ v : Arm, v.sz ≤ vszL (eArm v)
  | .mk p b => by have := psz_le p; have := exsz_le b; simp only [Arm.sz, eArm, vszL_append]; omega
theorem amszs_le : ∀ vs : List Arm, amszs vs ≤ vszLL (eArms vs)
  | [] => by simp [amszs]
  | v :: vs => by have := amsz_le v; have := amszs_le vs; simp only [amszs, eArms, vszLL]; omega
end
theorem pEx (v : Ex) : 1 ≤ vszL (eEx v) := by have := exsz_le v; have := v.sz_eq; omega
theorem pArm (v : Arm) : 1 ≤ vszL (eArm v) := by have := amsz_le v; have := v.sz_eq; have := v.pat.sz_eq; omega
theorem dEx0 : ∀ n, Dec Try.prog 63 eEx OkEx n := by
  intro n
  induction n using Nat.strongRecOn with
  | _ n ih =>
    intro cs hv hb
    obtain ⟨m, rfl, h⟩ := dec_struct (ts := [3, 3, 9, 59, 43, 60, 61, 3]) (by kernel_rfl) hv
    obtain ⟨a0, r0, rfl, _, h0, a1, r1, rfl, _, h1, a2, r2, rfl, _, h2, a3, r3, rfl, _, h3, a4, r4, rfl, _, h4, a5, r5, rfl, _, h5, a6, r6, rfl, _, h6, a7, r7, rfl, _, h7, rfl⟩ := h
    simp only [vszL_append] at hb
    obtain ⟨x0, rfl, q0⟩ := dec_int (n := m) (k := .i64) (by kernel_rfl) _ h0 (by omega)
    obtain ⟨x1, rfl, q1⟩ := dec_int (n := m) (k := .i64) (by kernel_rfl) _ h1 (by omega)
    obtain ⟨x2, rfl, q2⟩ := dec_str (n := m) (by kernel_rfl) _ h2 (by omega)
    obtain ⟨x3, rfl, q3⟩ := dNmL m _ h3 (by omega)
    obtain ⟨x4, rfl, q4⟩ := dTypL m _ h4 (by omega)
    obtain ⟨x5, rfl, q5, q6, q7⟩ := dec_slice (n := m) (el := 63) (by kernel_rfl) pEx (fun k hk => ih k (by omega)) _ h5 (by omega)
    obtain ⟨x6, rfl, q8, q9, q10⟩ := dec_slice (n := m) (el := 349) (e := eArm) (o := fun m => OkPat m.pat ∧ OkEx m.body) (by kernel_rfl) pArm (fun k hk => by
      intro cs hv hb
      obtain ⟨m2, rfl, h⟩ := dec_struct (ts := [112, 63]) (by kernel_rfl) hv
      obtain ⟨a0, r0, rfl, _, h0, a1, r1, rfl, _, h1, rfl⟩ := h
      simp only [vszL_append] at hb
      obtain ⟨x0, rfl, q0⟩ := dPat0 m2 _ h0 (by omega)
      obtain ⟨x1, rfl, q1⟩ := ih m2 (by omega) _ h1 (by omega)
      exact ⟨.mk x0 x1, by rw [eArm, List.append_nil], q0, q1⟩) _ h6 (by omega)
    obtain ⟨x7, rfl, q11⟩ := dec_int (n := m) (k := .i64) (by kernel_rfl) _ h7 (by omega)
    exact ⟨.mk x0 x1 x2 x3 x4 x5.1 x5.2 x6.1 x6.2 x7, by rw [eEx_eq]; rfl, .mk q0 q1 q2 q3 q4 q5 q6 q7 q8 q9 (fun m hm => (q10 m hm).1) (fun m hm => (q10 m hm).2) q11⟩
theorem dEx (n : Nat) : Dec Try.prog 63 eEx oEx n := fun cs hv hb => by
  obtain ⟨x, rfl, h⟩ := dEx0 n cs hv hb
  exact ⟨x, rfl, h, Nat.le_trans (exsz_le x) hb⟩
end Go.Proofs.Ytacecjfpkdijpaa

/- Types as data; no conditions. -/
set_option linter.unusedVariables false
set_option linter.unusedSimpArgs false
set_option maxRecDepth 100000
namespace Go.Proofs.Ytacecjfpkdijpaa
open Go.RowKit Go.Proofs.YtacecjfpkdijpaaV
def e9 (x : (List UInt8)) : List V := [.str x]
def o9 (x : (List UInt8)) : Prop := x.length ≤ bulk
theorem d9 (n : Nat) : Dec Try.prog 9 e9 o9 n := dec_str (by kernel_rfl)
theorem p9 (x : (List UInt8)) : 1 ≤ vszL (e9 x) := by simp only [e9, vszL, vsz]; omega
def e3 (x : Int) : List V := [.int .i64 x]
def o3 (x : Int) : Prop := IntKind.i64.min ≤ x ∧ x ≤ IntKind.i64.max
theorem d3 (n : Nat) : Dec Try.prog 3 e3 o3 n := dec_int (by kernel_rfl)
theorem p3 (x : Int) : 1 ≤ vszL (e3 x) := by simp only [e3, vszL, vsz]; omega
abbrev D462 := (List UInt8) × Int × Int
def e462 (x : D462) : List V := [.str x.1, .int .i64 x.2.1, .int .i64 x.2.2]
def o462 (x : D462) : Prop := o9 x.1 ∧ o3 x.2.1 ∧ o3 x.2.2
theorem d462 (n : Nat) : Dec Try.prog 462 e462 o462 n := by
  intro cs hv hb
  obtain ⟨m, rfl, h⟩ := dec_struct (ts := [9, 3, 3]) (by kernel_rfl) hv
  obtain ⟨a0, r0, rfl, _, h0, a1, r1, rfl, _, h1, a2, r2, rfl, _, h2, rfl⟩ := h
  simp only [vszL_append] at hb
  obtain ⟨x0, rfl, q0⟩ := d9 m _ h0 (by omega)
  obtain ⟨x1, rfl, q1⟩ := d3 m _ h1 (by omega)
  obtain ⟨x2, rfl, q2⟩ := d3 m _ h2 (by omega)
  exact ⟨(x0, x1, x2), rfl, q0, q1, q2⟩
theorem p462 (x : D462) : 1 ≤ vszL (e462 x) := by simp only [e462, vszL, vsz]; omega
abbrev D49 := List D462 × Bool
def e49 (x : D49) : List V := [.sl (x.1.map e462) x.2 .no]
def o49 (x : D49) : Prop := OkS o462 x
theorem d49 (n : Nat) : Dec Try.prog 49 e49 o49 n := dec_slice (el := 462) (by kernel_rfl) p462 (fun m _ => d462 m)
theorem p49 (x : D49) : 1 ≤ vszL (e49 x) := by simp only [e49, vszL, vsz]; omega
abbrev e59 := eNmL
abbrev o59 := oNmL
theorem d59 (n : Nat) : Dec Try.prog 59 e59 o59 n := dNmL n
theorem p59 (x : Nms) : 1 ≤ vszL (e59 x) := pNmL x
abbrev e43 := eTypL
abbrev o43 := oTypL
theorem d43 (n : Nat) : Dec Try.prog 43 e43 o43 n := dTypL n
theorem p43 (x : Typs) : 1 ≤ vszL (e43 x) := pTypL x
abbrev D216 := (List UInt8) × Typs
def e216 (x : D216) : List V := [.str x.1, .sl (x.2.1.map eTyp) x.2.2 .no]
def o216 (x : D216) : Prop := o9 x.1 ∧ o43 x.2
theorem d216 (n : Nat) : Dec Try.prog 216 e216 o216 n := by
  intro cs hv hb
  obtain ⟨m, rfl, h⟩ := dec_struct (ts := [9, 43]) (by kernel_rfl) hv
  obtain ⟨a0, r0, rfl, _, h0, a1, r1, rfl, _, h1, rfl⟩ := h
  simp only [vszL_append] at hb
  obtain ⟨x0, rfl, q0⟩ := d9 m _ h0 (by omega)
  obtain ⟨x1, rfl, q1⟩ := d43 m _ h1 (by omega)
  exact ⟨(x0, x1), by simp only [e216, e9, e43, eVal_eq, eTyp_eq, eEx_eq, ePat_eq, cTyp, cEx, cPat, eTypL, eNmL, List.cons_append, List.nil_append, List.append_nil], q0, q1⟩
theorem p216 (x : D216) : 1 ≤ vszL (e216 x) := by simp only [e216, vszL, vsz]; omega
abbrev D212 := List D216 × Bool
def e212 (x : D212) : List V := [.sl (x.1.map e216) x.2 .no]
def o212 (x : D212) : Prop := OkS o216 x
theorem d212 (n : Nat) : Dec Try.prog 212 e212 o212 n := dec_slice (el := 216) (by kernel_rfl) p216 (fun m _ => d216 m)
theorem p212 (x : D212) : 1 ≤ vszL (e212 x) := by simp only [e212, vszL, vsz]; omega
abbrev D214 := (List UInt8) × Nms × D212
def e214 (x : D214) : List V := [.str x.1, .sl (x.2.1.1.map eNm) x.2.1.2 .no, .sl (x.2.2.1.map e216) x.2.2.2 .no]
def o214 (x : D214) : Prop := o9 x.1 ∧ o59 x.2.1 ∧ o212 x.2.2
theorem d214 (n : Nat) : Dec Try.prog 214 e214 o214 n := by
  intro cs hv hb
  obtain ⟨m, rfl, h⟩ := dec_struct (ts := [9, 59, 212]) (by kernel_rfl) hv
  obtain ⟨a0, r0, rfl, _, h0, a1, r1, rfl, _, h1, a2, r2, rfl, _, h2, rfl⟩ := h
  simp only [vszL_append] at hb
  obtain ⟨x0, rfl, q0⟩ := d9 m _ h0 (by omega)
  obtain ⟨x1, rfl, q1⟩ := d59 m _ h1 (by omega)
  obtain ⟨x2, rfl, q2⟩ := d212 m _ h2 (by omega)
  exact ⟨(x0, x1, x2), by simp only [e214, e9, e59, e212, eVal_eq, eTyp_eq, eEx_eq, ePat_eq, cTyp, cEx, cPat, eTypL, eNmL, List.cons_append, List.nil_append, List.append_nil], q0, q1, q2⟩
theorem p214 (x : D214) : 1 ≤ vszL (e214 x) := by simp only [e214, vszL, vsz]; omega
abbrev D50 := List D214 × Bool
def e50 (x : D50) : List V := [.sl (x.1.map e214) x.2 .no]
def o50 (x : D50) : Prop := OkS o214 x
theorem d50 (n : Nat) : Dec Try.prog 50 e50 o50 n := dec_slice (el := 214) (by kernel_rfl) p214 (fun m _ => d214 m)
theorem p50 (x : D50) : 1 ≤ vszL (e50 x) := by simp only [e50, vszL, vsz]; omega
abbrev e45 := eTyp
abbrev o45 := oTyp
theorem d45 (n : Nat) : Dec Try.prog 45 e45 o45 n := dTyp n
theorem p45 (x : Typ) : 1 ≤ vszL (e45 x) := pTyp x
abbrev e63 := eEx
abbrev o63 := oEx
theorem d63 (n : Nat) : Dec Try.prog 63 e63 o63 n := dEx n
theorem p63 (x : Ex) : 1 ≤ vszL (e63 x) := pEx x
abbrev D347 := (List UInt8) × Nms × Nms × Typs × Typ × Ex
def e347 (x : D347) : List V := [.str x.1, .sl (x.2.1.1.map eNm) x.2.1.2 .no, .sl (x.2.2.1.1.map eNm) x.2.2.1.2 .no, .sl (x.2.2.2.1.1.map eTyp) x.2.2.2.1.2 .no, .int .i64 x.2.2.2.2.1.kind, .str x.2.2.2.2.1.name, .sl (x.2.2.2.2.1.args.map eTyp) x.2.2.2.2.1.nl .no, .int .i64 x.2.2.2.2.2.kind, .int .i64 x.2.2.2.2.2.num, .str x.2.2.2.2.2.text, .sl (x.2.2.2.2.2.names.1.map eNm) x.2.2.2.2.2.names.2 .no, .sl (x.2.2.2.2.2.types.1.map eTyp) x.2.2.2.2.2.types.2 .no, .sl (x.2.2.2.2.2.args.map eEx) x.2.2.2.2.2.anl .no, .sl (x.2.2.2.2.2.arms.map eArm) x.2.2.2.2.2.mnl .no, .int .i64 x.2.2.2.2.2.pos]
def o347 (x : D347) : Prop := o9 x.1 ∧ o59 x.2.1 ∧ o59 x.2.2.1 ∧ o43 x.2.2.2.1 ∧ o45 x.2.2.2.2.1 ∧ o63 x.2.2.2.2.2
theorem d347 (n : Nat) : Dec Try.prog 347 e347 o347 n := by
  intro cs hv hb
  obtain ⟨m, rfl, h⟩ := dec_struct (ts := [9, 59, 59, 43, 45, 63]) (by kernel_rfl) hv
  obtain ⟨a0, r0, rfl, _, h0, a1, r1, rfl, _, h1, a2, r2, rfl, _, h2, a3, r3, rfl, _, h3, a4, r4, rfl, _, h4, a5, r5, rfl, _, h5, rfl⟩ := h
  simp only [vszL_append] at hb
  obtain ⟨x0, rfl, q0⟩ := d9 m _ h0 (by omega)
  obtain ⟨x1, rfl, q1⟩ := d59 m _ h1 (by omega)
  obtain ⟨x2, rfl, q2⟩ := d59 m _ h2 (by omega)
  obtain ⟨x3, rfl, q3⟩ := d43 m _ h3 (by omega)
  obtain ⟨x4, rfl, q4⟩ := d45 m _ h4 (by omega)
  obtain ⟨x5, rfl, q5⟩ := d63 m _ h5 (by omega)
  exact ⟨(x0, x1, x2, x3, x4, x5), by simp only [e347, e9, e59, e59, e43, e45, e63, eVal_eq, eTyp_eq, eEx_eq, ePat_eq, cTyp, cEx, cPat, eTypL, eNmL, List.cons_append, List.nil_append, List.append_nil], q0, q1, q2, q3, q4, q5⟩
theorem p347 (x : D347) : 1 ≤ vszL (e347 x) := by simp only [e347, vszL, vsz]; omega
abbrev D53 := List D347 × Bool
def e53 (x : D53) : List V := [.sl (x.1.map e347) x.2 .no]
def o53 (x : D53) : Prop := OkS o347 x
theorem d53 (n : Nat) : Dec Try.prog 53 e53 o53 n := dec_slice (el := 347) (by kernel_rfl) p347 (fun m _ => d347 m)
theorem p53 (x : D53) : 1 ≤ vszL (e53 x) := by simp only [e53, vszL, vsz]; omega
abbrev D218 := (List UInt8) × D53
def e218 (x : D218) : List V := [.str x.1, .sl (x.2.1.map e347) x.2.2 .no]
def o218 (x : D218) : Prop := o9 x.1 ∧ o53 x.2
theorem d218 (n : Nat) : Dec Try.prog 218 e218 o218 n := by
  intro cs hv hb
  obtain ⟨m, rfl, h⟩ := dec_struct (ts := [9, 53]) (by kernel_rfl) hv
  obtain ⟨a0, r0, rfl, _, h0, a1, r1, rfl, _, h1, rfl⟩ := h
  simp only [vszL_append] at hb
  obtain ⟨x0, rfl, q0⟩ := d9 m _ h0 (by omega)
  obtain ⟨x1, rfl, q1⟩ := d53 m _ h1 (by omega)
  exact ⟨(x0, x1), rfl, q0, q1⟩
theorem p218 (x : D218) : 1 ≤ vszL (e218 x) := by simp only [e218, vszL, vsz]; omega
abbrev D51 := List D218 × Bool
def e51 (x : D51) : List V := [.sl (x.1.map e218) x.2 .no]
def o51 (x : D51) : Prop := OkS o218 x
theorem d51 (n : Nat) : Dec Try.prog 51 e51 o51 n := dec_slice (el := 218) (by kernel_rfl) p218 (fun m _ => d218 m)
theorem p51 (x : D51) : 1 ≤ vszL (e51 x) := by simp only [e51, vszL, vsz]; omega
abbrev D220 := (List UInt8) × (List UInt8) × D53
def e220 (x : D220) : List V := [.str x.1, .str x.2.1, .sl (x.2.2.1.map e347) x.2.2.2 .no]
def o220 (x : D220) : Prop := o9 x.1 ∧ o9 x.2.1 ∧ o53 x.2.2
theorem d220 (n : Nat) : Dec Try.prog 220 e220 o220 n := by
  intro cs hv hb
  obtain ⟨m, rfl, h⟩ := dec_struct (ts := [9, 9, 53]) (by kernel_rfl) hv
  obtain ⟨a0, r0, rfl, _, h0, a1, r1, rfl, _, h1, a2, r2, rfl, _, h2, rfl⟩ := h
  simp only [vszL_append] at hb
  obtain ⟨x0, rfl, q0⟩ := d9 m _ h0 (by omega)
  obtain ⟨x1, rfl, q1⟩ := d9 m _ h1 (by omega)
  obtain ⟨x2, rfl, q2⟩ := d53 m _ h2 (by omega)
  exact ⟨(x0, x1, x2), rfl, q0, q1, q2⟩
theorem p220 (x : D220) : 1 ≤ vszL (e220 x) := by simp only [e220, vszL, vsz]; omega
abbrev D52 := List D220 × Bool
def e52 (x : D52) : List V := [.sl (x.1.map e220) x.2 .no]
def o52 (x : D52) : Prop := OkS o220 x
theorem d52 (n : Nat) : Dec Try.prog 52 e52 o52 n := dec_slice (el := 220) (by kernel_rfl) p220 (fun m _ => d220 m)
theorem p52 (x : D52) : 1 ≤ vszL (e52 x) := by simp only [e52, vszL, vsz]; omega
abbrev D65 := (List UInt8) × Nms × Typs × Typ × Ex
def e65 (x : D65) : List V := [.str x.1, .sl (x.2.1.1.map eNm) x.2.1.2 .no, .sl (x.2.2.1.1.map eTyp) x.2.2.1.2 .no, .int .i64 x.2.2.2.1.kind, .str x.2.2.2.1.name, .sl (x.2.2.2.1.args.map eTyp) x.2.2.2.1.nl .no, .int .i64 x.2.2.2.2.kind, .int .i64 x.2.2.2.2.num, .str x.2.2.2.2.text, .sl (x.2.2.2.2.names.1.map eNm) x.2.2.2.2.names.2 .no, .sl (x.2.2.2.2.types.1.map eTyp) x.2.2.2.2.types.2 .no, .sl (x.2.2.2.2.args.map eEx) x.2.2.2.2.anl .no, .sl (x.2.2.2.2.arms.map eArm) x.2.2.2.2.mnl .no, .int .i64 x.2.2.2.2.pos]
def o65 (x : D65) : Prop := o9 x.1 ∧ o59 x.2.1 ∧ o43 x.2.2.1 ∧ o45 x.2.2.2.1 ∧ o63 x.2.2.2.2
theorem d65 (n : Nat) : Dec Try.prog 65 e65 o65 n := by
  intro cs hv hb
  obtain ⟨m, rfl, h⟩ := dec_struct (ts := [9, 59, 43, 45, 63]) (by kernel_rfl) hv
  obtain ⟨a0, r0, rfl, _, h0, a1, r1, rfl, _, h1, a2, r2, rfl, _, h2, a3, r3, rfl, _, h3, a4, r4, rfl, _, h4, rfl⟩ := h
  simp only [vszL_append] at hb
  obtain ⟨x0, rfl, q0⟩ := d9 m _ h0 (by omega)
  obtain ⟨x1, rfl, q1⟩ := d59 m _ h1 (by omega)
  obtain ⟨x2, rfl, q2⟩ := d43 m _ h2 (by omega)
  obtain ⟨x3, rfl, q3⟩ := d45 m _ h3 (by omega)
  obtain ⟨x4, rfl, q4⟩ := d63 m _ h4 (by omega)
  exact ⟨(x0, x1, x2, x3, x4), by simp only [e65, e9, e59, e43, e45, e63, eVal_eq, eTyp_eq, eEx_eq, ePat_eq, cTyp, cEx, cPat, eTypL, eNmL, List.cons_append, List.nil_append, List.append_nil], q0, q1, q2, q3, q4⟩
theorem p65 (x : D65) : 1 ≤ vszL (e65 x) := by simp only [e65, vszL, vsz]; omega
abbrev D54 := List D65 × Bool
def e54 (x : D54) : List V := [.sl (x.1.map e65) x.2 .no]
def o54 (x : D54) : Prop := OkS o65 x
theorem d54 (n : Nat) : Dec Try.prog 54 e54 o54 n := dec_slice (el := 65) (by kernel_rfl) p65 (fun m _ => d65 m)
theorem p54 (x : D54) : 1 ≤ vszL (e54 x) := by simp only [e54, vszL, vsz]; omega
abbrev D56 := (List UInt8) × Int × D49 × D50 × D51 × D52 × D53 × D54
def e56 (x : D56) : List V := [.str x.1, .int .i64 x.2.1, .sl (x.2.2.1.1.map e462) x.2.2.1.2 .no, .sl (x.2.2.2.1.1.map e214) x.2.2.2.1.2 .no, .sl (x.2.2.2.2.1.1.map e218) x.2.2.2.2.1.2 .no, .sl (x.2.2.2.2.2.1.1.map e220) x.2.2.2.2.2.1.2 .no, .sl (x.2.2.2.2.2.2.1.1.map e347) x.2.2.2.2.2.2.1.2 .no, .sl (x.2.2.2.2.2.2.2.1.map e65) x.2.2.2.2.2.2.2.2 .no]
def o56 (x : D56) : Prop := o9 x.1 ∧ o3 x.2.1 ∧ o49 x.2.2.1 ∧ o50 x.2.2.2.1 ∧ o51 x.2.2.2.2.1 ∧ o52 x.2.2.2.2.2.1 ∧ o53 x.2.2.2.2.2.2.1 ∧ o54 x.2.2.2.2.2.2.2
theorem d56 (n : Nat) : Dec Try.prog 56 e56 o56 n := by
  intro cs hv hb
  obtain ⟨m, rfl, h⟩ := dec_struct (ts := [9, 3, 49, 50, 51, 52, 53, 54]) (by kernel_rfl) hv
  obtain ⟨a0, r0, rfl, _, h0, a1, r1, rfl, _, h1, a2, r2, rfl, _, h2, a3, r3, rfl, _, h3, a4, r4, rfl, _, h4, a5, r5, rfl, _, h5, a6, r6, rfl, _, h6, a7, r7, rfl, _, h7, rfl⟩ := h
  simp only [vszL_append] at hb
  obtain ⟨x0, rfl, q0⟩ := d9 m _ h0 (by omega)
  obtain ⟨x1, rfl, q1⟩ := d3 m _ h1 (by omega)
  obtain ⟨x2, rfl, q2⟩ := d49 m _ h2 (by omega)
  obtain ⟨x3, rfl, q3⟩ := d50 m _ h3 (by omega)
  obtain ⟨x4, rfl, q4⟩ := d51 m _ h4 (by omega)
  obtain ⟨x5, rfl, q5⟩ := d52 m _ h5 (by omega)
  obtain ⟨x6, rfl, q6⟩ := d53 m _ h6 (by omega)
  obtain ⟨x7, rfl, q7⟩ := d54 m _ h7 (by omega)
  exact ⟨(x0, x1, x2, x3, x4, x5, x6, x7), rfl, q0, q1, q2, q3, q4, q5, q6, q7⟩
theorem p56 (x : D56) : 1 ≤ vszL (e56 x) := by simp only [e56, vszL, vsz]; omega
end Go.Proofs.Ytacecjfpkdijpaa

/- The arguments of 'roadlaw5.PageTypes' as data; no conditions. -/
set_option linter.unusedVariables false
set_option linter.unusedSimpArgs false
set_option maxRecDepth 100000
namespace Go.Proofs.Ytacecjfpkdijpaa.pageTypes
open Go.RowKit Go.Proofs.YtacecjfpkdijpaaV

theorem args {xs : List V} (h : TyAll Try.prog [45] xs) (hs : vszL xs ≤ 1048576) : ∃ (x0 : Typ), xs = [.agg (e45 x0)] ∧ o45 x0 := by
  obtain ⟨y0, r0, rfl, h0, rfl⟩ := h
  simp only [vszL] at hs
  obtain ⟨x0, rfl, q0⟩ := dec_agg (by kernel_rfl) d45 h0 (by show vsz _ ≤ 1048576; omega)
  exact ⟨x0, rfl, q0⟩
end Go.Proofs.Ytacecjfpkdijpaa.pageTypes

set_option linter.unusedSimpArgs false
set_option linter.unusedVariables false
namespace Go.Proofs.Ytacecjfpkdijpaa
open Go.Proofs.YtacecjfpkdijpaaV
set_option maxHeartbeats 400000
set_option maxRecDepth 100000
def nextT (vs : List Typ) : List Typ := vs.flatMap Typ.args
theorem tszs_next : ∀ vs, tszs (nextT vs) + vs.length = tszs vs
  | [] => rfl
  | v :: vs => by
    have := tszs_next vs
    have := v.sz_eq
    simp only [nextT, List.flatMap_cons, tszs_append, tszs, List.length_cons] at *
    omega
theorem tszs_take (vs : List Typ) (i : Nat) : tszs (vs.take i) ≤ tszs vs := by
  have := tszs_append (vs.take i) (vs.drop i)
  rw [List.take_append_drop] at this
  omega
theorem nextT_take {vs : List Typ} {i : Nat} (h : i < vs.length) : nextT (vs.take (i + 1)) = nextT (vs.take i) ++ vs[i].args := by
  rw [List.take_succ_eq_append_getElem h, nextT, List.flatMap_append]; simp [nextT]
theorem nextT_len (vs : List Typ) (i : Nat) : (nextT (vs.take i)).length ≤ tszs vs := by
  have := tszs_len (nextT (vs.take i))
  have := tszs_next (vs.take i)
  have := tszs_take vs i
  omega
theorem wid_eTyp (vs : List Typ) : wid 3 (vs.map eTyp) := wid_map (g := eTyp) (fun _ => by rw [eTyp_eq]; rfl) _
theorem sca_eTyp (vs : List Typ) : sca (vs.map eTyp) := by
  intro e he x hx
  obtain ⟨u, _, rfl⟩ := List.mem_map.1 he
  rw [eTyp_eq] at hx
  simp only [cTyp, List.mem_cons, List.not_mem_nil, or_false] at hx
  rcases hx with rfl | rfl | rfl <;> rfl
structure SmT where
  now : List Typ
  n : Nat
  deep : Nat
  nl : Bool
  t : Tag
  H : Heap
theorem q_TypesSmall (l : List Typ) (ln : Bool) (tg0 : Tag) (hv : tszs l ≤ bulk) : QB Try.prog 23 [.sl (l.map eTyp) ln tg0] := by
  refine QB.weak fun G => ?_
  have hv' : tszs l ≤ 1048576 := hv
  have hll := tszs_len l
  refine acall_body (rs := [.tmp 2]) Try.func23 rfl rfl Try.ntmps23 (by kernel_rfl) (Nat.le_of_ble_eq_true rfl) ?_
  refine aw_sr rfl ?_
  simp only [go_sem, reduceIte, Nat.reduceEqDiff, Nat.reduceAdd, Nat.reduceMul, Nat.reduceSub, Nat.reduceLeDiff, Nat.reduceLT, reduceCtorEq]
  refine aw_sr rfl ?_
  simp only [go_sem, reduceIte, Nat.reduceEqDiff, Nat.reduceAdd, Nat.reduceMul, Nat.reduceSub, Nat.reduceLeDiff, Nat.reduceLT, reduceCtorEq]
  refine goP_room (Room.start _ 3) ⟨rfl, rfl, by decide, by simp, wid_eTyp _, sca_eTyp _, by simp; omega, by simp; omega⟩ fun t1 H1 hr1 => ?_
  simp only [go_sem, reduceIte, Nat.reduceEqDiff, Nat.reduceAdd, Nat.reduceMul, Nat.reduceSub, Nat.reduceLeDiff, Nat.reduceLT, reduceCtorEq]
  refine aw_sr rfl ?_
  simp only [go_sem, reduceIte, Nat.reduceEqDiff, Nat.reduceAdd, Nat.reduceMul, Nat.reduceSub, Nat.reduceLeDiff, Nat.reduceLT, reduceCtorEq]
  refine aw_seq fun K1 hK1 => ?_
  refine aw_sr rfl ?_
  simp only [go_sem, reduceIte, Nat.reduceEqDiff, Nat.reduceAdd, Nat.reduceMul, Nat.reduceSub, Nat.reduceLeDiff, Nat.reduceLT, reduceCtorEq]
  refine aw_block ?_
  refine aw_lph (S := {s : SmT // tszs s.now ≤ bulk ∧ s.n ≤ 1000 ∧ s.deep ≤ 101 ∧ Sub G s.H}) (fun s => [(3, .sl (s.1.now.map eTyp) s.1.nl s.1.t), (4, .int .i64 s.1.n), (5, .int .i64 s.1.deep)]) (fun s => s.1.H) (fun s => 102 - s.1.deep) ⟨⟨l, 0, 0, false && (l.map eTyp).isEmpty, t1, H1⟩, hv, by simp, by simp, hr1.sub⟩ ?_ (fun _ _ h => h) ?_
  · simp only [go_sem, reduceIte, Nat.reduceEqDiff, Nat.reduceAdd, Nat.reduceMul, Nat.reduceSub, Nat.reduceLeDiff, Nat.reduceLT, reduceCtorEq, Int.natCast_zero, List.nil_append]
  · intro ⟨⟨now, n, deep, nl, tg, H⟩, i1, i2, i3, i5⟩
    simp only at i1 i2 i3 i5 ⊢
    have hlen := tszs_len now
    have hb1 : tszs now ≤ 1048576 := i1
    refine aw_seq fun K2 hK2 => ?_
    refine aw_sr rfl ?_
    simp only [go_sem, reduceIte, Nat.reduceEqDiff, Nat.reduceAdd, Nat.reduceMul, Nat.reduceSub, Nat.reduceLeDiff, Nat.reduceLT, reduceCtorEq]
    refine aw_if rfl (fun h => ?_) (fun h => ?_)
    · refine aw_skip (hK2 _ _ ?_)
      refine aw_seq fun K3 hK3 => ?_
      refine aw_block ?_
      refine aw_seq fun K4 hK4 => ?_
      refine aw_sr rfl ?_
      simp only [go_sem, reduceIte, Nat.reduceEqDiff, Nat.reduceAdd, Nat.reduceMul, Nat.reduceSub, Nat.reduceLeDiff, Nat.reduceLT, reduceCtorEq]
      have hw : IntKind.i64.wrap ((n : Int) + (now.length : Int)) = ((n + now.length : Nat) : Int) := by rw [wrap64 (by omega) (by omega)]; simp
      refine aw_sr rfl ?_
      simp only [go_sem, reduceIte, Nat.reduceEqDiff, Nat.reduceAdd, Nat.reduceMul, Nat.reduceSub, Nat.reduceLeDiff, Nat.reduceLT, reduceCtorEq, hw]
      refine aw_if rfl (fun h => ?_) (fun h => ?_)
      · refine aw_sr rfl ?_
        simp only [go_sem, reduceIte, Nat.reduceEqDiff, Nat.reduceAdd, Nat.reduceMul, Nat.reduceSub, Nat.reduceLeDiff, Nat.reduceLT, reduceCtorEq]
        exact aw_ret ⟨trivial, _, rfl, ⟨_, Vle.refl _⟩, i5⟩
      · have hc : ¬ (100 < deep ∨ 1000 < n + now.length) := by
          simp only [Bool.or_eq_false_iff, decide_eq_false_iff_not] at h
          omega
        refine aw_skip (hK4 _ _ ?_)
        refine aw_sr rfl ?_
        simp only [go_sem, reduceIte, Nat.reduceEqDiff, Nat.reduceAdd, Nat.reduceMul, Nat.reduceSub, Nat.reduceLeDiff, Nat.reduceLT, reduceCtorEq]
        refine aw_seq fun K5 hK5 => ?_
        refine aw_sr rfl ?_
        simp only [go_sem, reduceIte, Nat.reduceEqDiff, Nat.reduceAdd, Nat.reduceMul, Nat.reduceSub, Nat.reduceLeDiff, Nat.reduceLT, reduceCtorEq]
        refine aw_range now.length (S := Bool × Tag × Heap) (fun i s => [(27, .sl (now.map eTyp) nl tg), (6, .sl ((nextT (now.take i)).map eTyp) s.1 s.2.1), (4, .int .i64 ((n + now.length : Nat) : Int)), (5, .int .i64 deep)]) (fun _ s => s.2.2) (fun i s => Room H 3 s.2.1 s.2.2) (true, .full, H) (by omega) ?_ (fun _ _ h => h) (Room.start H 3) rfl (fun _ _ => rfl) ?_ ?_ (by decide)
        · simp only [go_sem, reduceIte, Nat.reduceEqDiff, Nat.reduceAdd, Nat.reduceMul, Nat.reduceSub, Nat.reduceLeDiff, Nat.reduceLT, reduceCtorEq, Int.natCast_zero, List.take_zero, nextT, List.flatMap_nil, List.map_nil]
        · intro i ⟨nl2, t2, H2⟩ hi he
          simp only at he ⊢
          refine aw_sr rfl ?_
          simp only [go_sem, reduceIte, Nat.reduceEqDiff, Nat.reduceAdd, Nat.reduceMul, Nat.reduceSub, Nat.reduceLeDiff, Nat.reduceLT, reduceCtorEq, getD_map hi, eTyp_eq, cTyp]
          refine ⟨⟨by omega, by omega, wid_eTyp _⟩, fun b2 hb2 => ?_⟩
          obtain ⟨H3, hr2, hs2⟩ := he.push (o := .vars (cTyp now[i])) hb2
          refine AW.of_hsub hs2 ?_
          have hb3 : hget H3 b2 = some (.vars (cTyp now[i])) := hr2.sub _ _ (hget_self _ _ _)
          refine aw_rg rfl ?_
          simp only [go_sem, reduceIte, Nat.reduceEqDiff, Nat.reduceAdd, Nat.reduceMul, Nat.reduceSub, Nat.reduceLeDiff, Nat.reduceLT, reduceCtorEq, hb3, cTyp]
          refine goP_room hr2 ?_ fun t' H' hr => ?_
          · have := nextT_len now (i + 1)
            rw [nextT_take hi, List.length_append] at this
            exact ⟨rfl, rfl, by decide, wid_eTyp _, wid_eTyp _, sca_eTyp _, by simp; omega, by simp; omega⟩
          simp only [go_sem, reduceIte, Nat.reduceEqDiff, Nat.reduceAdd, Nat.reduceMul, Nat.reduceSub, Nat.reduceLeDiff, Nat.reduceLT, reduceCtorEq, ← List.map_append, ← nextT_take hi]
          obtain ⟨H4, hr3, hs3⟩ := hr.pop (he.sub_none hb2)
          refine ⟨(nl2 && (now[i].args.map eTyp).isEmpty, t', H4), hr3, ?_, hs3⟩
          simp only [go_sem, reduceIte, Nat.reduceEqDiff, Nat.reduceAdd, Nat.reduceMul, Nat.reduceSub, Nat.reduceLeDiff, Nat.reduceLT, reduceCtorEq]
        · intro ⟨nl2, t2, H2⟩ he
          simp only at he ⊢
          refine hK5 _ _ ?_
          refine aw_rg rfl ?_
          simp only [go_sem, reduceIte, Nat.reduceEqDiff, Nat.reduceAdd, Nat.reduceMul, Nat.reduceSub, Nat.reduceLeDiff, Nat.reduceLT, reduceCtorEq, List.take_length]
          refine hK3 _ _ ?_
          refine aw_rg rfl ?_
          have hw2 : IntKind.i64.wrap ((deep : Int) + 1) = ((deep + 1 : Nat) : Int) := by rw [wrap64 (by omega) (by omega)]; simp
          simp only [go_sem, reduceIte, Nat.reduceEqDiff, Nat.reduceAdd, Nat.reduceMul, Nat.reduceSub, Nat.reduceLeDiff, Nat.reduceLT, reduceCtorEq, hw2]
          refine ⟨⟨⟨nextT now, n + now.length, deep + 1, nl2, t2, H2⟩, ?_, ?_, ?_, sub_trans i5 he.sub⟩, ?_, ?_, fun _ _ h => h⟩
          · have := tszs_next now; show tszs (nextT now) ≤ 1048576; omega
          · show n + now.length ≤ 1000; omega
          · show deep + 1 ≤ 101; omega
          · show 102 - (deep + 1) < 102 - deep; omega
          · simp only [go_sem, reduceIte, Nat.reduceEqDiff, Nat.reduceAdd, Nat.reduceMul, Nat.reduceSub, Nat.reduceLeDiff, Nat.reduceLT, reduceCtorEq]
    · refine aw_exit ?_
      refine hK1 _ _ ?_
      refine aw_sr rfl ?_
      simp only [go_sem, reduceIte, Nat.reduceEqDiff, Nat.reduceAdd, Nat.reduceMul, Nat.reduceSub, Nat.reduceLeDiff, Nat.reduceLT, reduceCtorEq]
      exact aw_ret ⟨trivial, _, rfl, ⟨_, Vle.refl _⟩, i5⟩
end Go.Proofs.Ytacecjfpkdijpaa

/- The kit's contract of strings.Join, laid at this program. -/
namespace Go.Proofs
open Go.Shelf
def Try.joinS_ren : Go.Shelf.Ren := ⟨fun | 156 => 93 | 165 => 161 | 166 => 131 | 169 => 136 | 240 => 188 | 241 => 203 | 276 => 214 | 277 => 230 | n => n, fun | 31 => 59 | 9 => 9 | 3 => 3 | 4 => 4 | 0 => 0 | 20 => 20 | 72 => 309 | 76 => 315 | 70 => 307 | 37 => 32 | 75 => 314 | 127 => 377 | 164 => 401 | 5 => 5 | 80 => 320 | n => n, fun | n => n⟩
theorem Try.joinS : Go.Proofs.Lays.n156 Try.prog Try.joinS_ren := {
  mixed := by kernel_rfl
  f156 := Try.func93.trans (congrArg some (by kernel_rfl))
  f165 := Try.func161.trans (congrArg some (by kernel_rfl))
  f166 := Try.func131.trans (congrArg some (by kernel_rfl))
  f169 := Try.func136.trans (congrArg some (by kernel_rfl))
  f240 := Try.func188.trans (congrArg some (by kernel_rfl))
  f241 := Try.func203.trans (congrArg some (by kernel_rfl))
  f276 := Try.func214.trans (congrArg some (by kernel_rfl))
  f277 := Try.func230.trans (congrArg some (by kernel_rfl))
  t0 := Try.underlying0
  a0 := Try.isAgg0
  z0 := Try.sizeOf0
  v0 := Try.zeroValue0
  t3 := Try.underlying3
  a3 := Try.isAgg3
  z3 := Try.sizeOf3
  v3 := Try.zeroValue3
  t4 := Try.underlying4
  a4 := Try.isAgg4
  z4 := Try.sizeOf4
  v4 := Try.zeroValue4
  t9 := Try.underlying9
  a9 := Try.isAgg9
  z9 := Try.sizeOf9
  v9 := Try.zeroValue9
  t20 := Try.underlying20
  a20 := Try.isAgg20
  z20 := Try.sizeOf20
  v20 := Try.zeroValue20
  t31 := Try.underlying59
  a31 := Try.isAgg59
  z31 := Try.sizeOf59
  v31 := Try.zeroValue59
  t37 := Try.underlying32
  a37 := Try.isAgg32
  z37 := Try.sizeOf32
  v37 := Try.zeroValue32
  t70 := Try.underlying307
  a70 := Try.isAgg307
  z70 := Try.sizeOf307
  v70 := Try.zeroValue307
  t72 := Try.underlying309
  a72 := Try.isAgg309
  z72 := Try.sizeOf309
  v72 := Try.zeroValue309
  t75 := Try.underlying314
  a75 := Try.isAgg314
  z75 := Try.sizeOf314
  v75 := Try.zeroValue314
  t76 := Try.underlying315
  a76 := Try.isAgg315
  z76 := Try.sizeOf315
  v76 := Try.zeroValue315
  t127 := Try.underlying377
  a127 := Try.isAgg377
  z127 := Try.sizeOf377
  v127 := Try.zeroValue377
  t164 := Try.underlying401
  a164 := Try.isAgg401
  z164 := Try.sizeOf401
  v164 := Try.zeroValue401 }
end Go.Proofs

/- strings.Join as a call of this logic. No conditions but sizes. -/
namespace Go.Proofs
open Go.Shelf Go.RowKit Go.Lib
theorem Try.joinX : Builder.Extra Try.prog Try.joinS_ren where
  sizeBuilder := by kernel_rfl
  liesBuilder := by kernel_rfl
  t5 := by kernel_rfl
  a5 := fun w => Go.Proofs.YtacecjfpkdijpaaV.run_isAgg (by kernel_rfl)
  z5 := fun w => Go.Proofs.YtacecjfpkdijpaaV.run_sizeOf (by kernel_rfl)
  v5 := Try.zeroValue5
  infoByte := by kernel_rfl
  cellsByte := by kernel_rfl
  sizeByte := by kernel_rfl
  neB5 := by decide
end Go.Proofs
namespace Go.Proofs.Ytacecjfpkdijpaa
open Go.Proofs.YtacecjfpkdijpaaV
set_option maxRecDepth 100000 in
theorem q_Join (xs : List (List UInt8)) (nl : Bool) (t : Tag) (sep : List UInt8) (hN : xs.length ≤ 140737488355328) (hlen : (joinL xs sep).length ≤ 140737488355328) : Quiet Try.prog 93 [.sl (xs.map eSt) nl t, .str sep] (.str (joinL xs sep)) :=
  q_join Go.Proofs.Try.joinS Go.Proofs.Try.joinX Try.func93 rfl rfl xs nl t sep hN hlen
end Go.Proofs.Ytacecjfpkdijpaa

/- Types as text. No conditions but sizes. -/
set_option linter.unusedSimpArgs false
set_option linter.unusedVariables false
namespace Go.Proofs.Ytacecjfpkdijpaa
open Go.Proofs.YtacecjfpkdijpaaV
set_option maxHeartbeats 1000000
set_option maxRecDepth 100000
mutual
def textF : Typ → List UInt8
  | .mk k n ar nl => if k = 1 then [105, 110, 116] else if k = 2 then [98, 111, 111, 108] else if k = 3 then [116, 101, 120, 116] else if k = 4 then [117, 110, 105, 116] else if k = 5 then n
    else if k = 8 then [82, 101, 102, 40] ++ joinL (textsF ar) [44, 32] ++ [41] else if k = 9 then [67, 101, 108, 108, 40] ++ joinL (textsF ar) [44, 32] ++ [41]
    else if k = 6 then (if ar = [] then n else n ++ [40] ++ joinL (textsF ar) [44, 32] ++ [41])
    else if k = 7 then (match (textsF ar).getLast? with | some s => [102, 110, 40] ++ joinL (textsF ar).dropLast [44, 32] ++ [41, 58, 32] ++ s | none => [63])
    else [63]
def textsF : List Typ → List (List UInt8)
  | [] => []
  | a :: l => textF a :: textsF l
end
theorem textsF_map : ∀ l, textsF l = l.map textF
  | [] => by rw [textsF]; rfl
  | a :: l => by rw [textsF, textsF_map l]; rfl
theorem textF_eq (t : Typ) : textF t = if t.kind = 1 then [105, 110, 116] else if t.kind = 2 then [98, 111, 111, 108] else if t.kind = 3 then [116, 101, 120, 116] else if t.kind = 4 then [117, 110, 105, 116] else if t.kind = 5 then t.name
    else if t.kind = 8 then [82, 101, 102, 40] ++ joinL (t.args.map textF) [44, 32] ++ [41] else if t.kind = 9 then [67, 101, 108, 108, 40] ++ joinL (t.args.map textF) [44, 32] ++ [41]
    else if t.kind = 6 then (if t.args = [] then t.name else t.name ++ [40] ++ joinL (t.args.map textF) [44, 32] ++ [41])
    else if t.kind = 7 then (match (t.args.map textF).getLast? with | some s => [102, 110, 40] ++ joinL (t.args.map textF).dropLast [44, 32] ++ [41, 58, 32] ++ s | none => [63])
    else [63] := by
  cases t; rw [textF, textsF_map]; rfl
theorem isE_cat {A : Type} (l : List A) (a : A) : (l ++ [a]).isEmpty = false := by cases l <;> rfl
def sumL : List (List UInt8) → Nat
  | [] => 0
  | x :: l => x.length + 2 + sumL l
theorem sumL_append : ∀ a b, sumL (a ++ b) = sumL a + sumL b
  | [], b => by simp [sumL]
  | x :: a, b => by rw [List.cons_append, sumL, sumL, sumL_append a b]; omega
theorem join_len : ∀ (l : List (List UInt8)), (joinL l [44, 32]).length ≤ sumL l
  | [] => by simp [joinL_nil, sumL]
  | x :: l => by
    have h : ∀ l : List (List UInt8), ((l.map (([44, 32] : List UInt8) ++ ·)).flatten).length ≤ sumL l := by
      intro l
      induction l with
      | nil => simp [sumL]
      | cons y l ih => rw [List.map_cons, List.flatten_cons, List.length_append, sumL]; simp only [List.length_append, List.length_cons, List.length_nil]; omega
    have := h l
    rw [joinL_cons, List.length_append, sumL]; omega
mutual
theorem text_len : ∀ t : Typ, OkTyp t → (textF t).length + 2 ≤ 1048600 * t.sz
  | .mk k n ar nl, h => by
    have hn : n.length ≤ bulk := h.name
    have g3 : bulk = 1048576 := rfl
    have hs := texts_len ar fun a ha => h.arg (v := .mk k n ar nl) ha
    have hj := join_len (textsF ar)
    have hd : ∀ s, (textsF ar).getLast? = some s → (joinL (textsF ar).dropLast [44, 32]).length + s.length + 2 ≤ sumL (textsF ar) := fun s hs => by
      obtain ⟨o, ho⟩ := List.getLast?_eq_some_iff.1 hs
      rw [ho, List.dropLast_concat, sumL_append]
      have := join_len o
      simp only [sumL]; omega
    rw [textF, Typ.sz]
    split
    · simp; omega
    split
    · simp; omega
    split
    · simp; omega
    split
    · simp; omega
    split
    · omega
    split
    · simp only [List.length_append, List.length_cons, List.length_nil]; omega
    split
    · simp only [List.length_append, List.length_cons, List.length_nil]; omega
    split
    · split
      · omega
      · simp only [List.length_append, List.length_cons, List.length_nil]; omega
    split
    · split
      · rename_i s hs'
        have := hd s hs'
        simp only [List.length_append, List.length_cons, List.length_nil]; omega
      · simp; omega
    · simp; omega
theorem texts_len : ∀ l : List Typ, (∀ a ∈ l, OkTyp a) → sumL (textsF l) ≤ 1048600 * tszs l
  | [], _ => by simp [textsF, sumL]
  | a :: l, h => by
    have h1 := text_len a (h a (by simp))
    have h2 := texts_len l fun x hx => h x (by simp [hx])
    rw [textsF, sumL, tszs]; omega
end
theorem q_TypeArgs (l : List Typ) (nl : Bool) (t : Tag) (hl : tszs l ≤ bulk) (hok : ∀ a ∈ l, OkTyp a) (hq : ∀ a ∈ l, Quiet Try.prog 22 [.agg (cTyp a)] (.str (textF a))) :
    Quiet Try.prog 92 [.sl (l.map eTyp) nl t] (.str (joinL (l.map textF) [44, 32])) := by
  have g3 : bulk = 1048576 := rfl
  have hlen := tszs_len l
  have hsum := texts_len l hok
  have hj := join_len (textsF l)
  rw [textsF_map] at hsum hj
  refine Quiet.weak fun G => ?_
  refine acall_body (rs := [.tmp 2]) Try.func92 rfl rfl Try.ntmps92 (by kernel_rfl) (Nat.le_of_ble_eq_true rfl) ?_
  refine aw_sr rfl ?_  -- r0 @page.go:32
  simp only [go_sem, reduceIte, Nat.reduceEqDiff, Nat.reduceAdd, Nat.reduceMul, Nat.reduceSub, Nat.reduceLeDiff, Nat.reduceLT, reduceCtorEq]
  refine aw_sr rfl ?_  -- r1 @page.go:33
  simp only [go_sem, reduceIte, Nat.reduceEqDiff, Nat.reduceAdd, Nat.reduceMul, Nat.reduceSub, Nat.reduceLeDiff, Nat.reduceLT, reduceCtorEq]
  refine aw_seq fun K2 hK2 => ?_
  refine aw_sr rfl ?_  -- r2 @page.go:34
  simp only [go_sem, reduceIte, Nat.reduceEqDiff, Nat.reduceAdd, Nat.reduceMul, Nat.reduceSub, Nat.reduceLeDiff, Nat.reduceLT, reduceCtorEq]
  refine aw_range l.length (S := Tag × Heap) (fun i s => [(3, .sl (((l.take i).map textF).map eSt) (l.take i).isEmpty s.1), (6, .sl (l.map eTyp) nl t)]) (fun _ s => s.2) (fun i s => Rm G s.2 1 s.1 ∧ Sub G s.2) (.full, G) (by omega) ?_ (fun _ _ h => h) ⟨Rm.start _ _ _, sub_rfl⟩ rfl (fun _ _ => rfl) ?_ ?_ (by decide)
  · simp only [go_sem, reduceIte, Nat.reduceEqDiff, Nat.reduceAdd, Nat.reduceMul, Nat.reduceSub, Nat.reduceLeDiff, Nat.reduceLT, reduceCtorEq, Int.natCast_zero, List.take_zero, List.map_nil, List.isEmpty_nil]
  · intro i ⟨t4, H⟩ hi ⟨hr, hs⟩
    simp only at hr hs ⊢
    have htk : l.take (i + 1) = l.take i ++ [l[i]] := List.take_succ_eq_append_getElem hi
    have hqi := hq l[i] (List.getElem_mem hi)
    refine aw_sr rfl ?_  -- r4 @page.go:34
    simp only [go_sem, reduceIte, Nat.reduceEqDiff, Nat.reduceAdd, Nat.reduceMul, Nat.reduceSub, Nat.reduceLeDiff, Nat.reduceLT, reduceCtorEq, getD_map hi, eTyp_eq, cTyp]
    refine ⟨⟨by omega, by omega, wid_eTyp _⟩, ?_⟩
    generalize l[i] = a at htk hqi
    intro b5 hb5
    refine aw_box1 hb5 fun B1 hs1 h5 => ?_
    refine aw_rg rfl ?_  -- r5 @page.go:35
    simp only [go_sem, reduceIte, Nat.reduceEqDiff, Nat.reduceAdd, Nat.reduceMul, Nat.reduceSub, Nat.reduceLeDiff, Nat.reduceLT, reduceCtorEq, h5]
    refine goA_q hqi ?_
    simp only [go_sem, reduceIte, Nat.reduceEqDiff, Nat.reduceAdd, Nat.reduceMul, Nat.reduceSub, Nat.reduceLeDiff, Nat.reduceLT, reduceCtorEq]
    refine goP_rm (G := G) (hr.sub hs1) (sub_trans hs hs1) ?_ fun t6 H6 hr6 hs6 hg6 => ?_
    · exact ⟨rfl, rfl, by decide, wid_map (g := eSt) (fun _ => rfl) _, wid_one rfl, by simp [sca, scalarV], by simp; omega, by simp; omega⟩
    simp only [go_sem, reduceIte, Nat.reduceEqDiff, Nat.reduceAdd, Nat.reduceMul, Nat.reduceSub, Nat.reduceLeDiff, Nat.reduceLT, reduceCtorEq]
    refine ⟨(t6, H6), ⟨hr6, hs6⟩, ?_, sub_rfl⟩
    rw [htk, isE_cat, List.map_append, List.map_append, List.map_cons, List.map_nil, List.map_cons, List.map_nil, eSt]
    exact ⟨rfl, rfl, rfl, rfl⟩
  intro ⟨t4, H⟩ ⟨hr, hs⟩
  simp only at hr hs ⊢
  rw [List.take_length]
  refine hK2 _ _ ?_
  refine aw_sr rfl ?_  -- r7 @page.go:37
  simp only [go_sem, reduceIte, Nat.reduceEqDiff, Nat.reduceAdd, Nat.reduceMul, Nat.reduceSub, Nat.reduceLeDiff, Nat.reduceLT, reduceCtorEq]
  refine goA_q (q_Join (l.map textF) _ _ [44, 32] (by simp; omega) (by omega)) ?_
  simp only [go_sem, reduceIte, Nat.reduceEqDiff, Nat.reduceAdd, Nat.reduceMul, Nat.reduceSub, Nat.reduceLeDiff, Nat.reduceLT, reduceCtorEq]
  exact aw_ret ⟨trivial, _, rfl, Vle.refl _, hs⟩
end Go.Proofs.Ytacecjfpkdijpaa

/- The program's text of a type. No conditions but sizes. -/
set_option linter.unusedSimpArgs false
set_option linter.unusedVariables false
namespace Go.Proofs.Ytacecjfpkdijpaa
open Go.Proofs.YtacecjfpkdijpaaV
set_option maxHeartbeats 4000000
set_option maxRecDepth 100000
theorem text_facts {t : Typ} (h : oTyp t) : t.name.length ≤ 1048576 ∧ t.args.length ≤ 1048576 ∧ tszs t.args ≤ bulk ∧ (∀ a ∈ t.args, OkTyp a) ∧ sumL (t.args.map textF) ≤ 1099536793600 ∧ ∀ l, l <+: t.args → (joinL (l.map textF) [44, 32]).length ≤ 1099536793600 := by
  have g3 : bulk = 1048576 := rfl
  have h2 := h.2
  have h3 := t.sz_eq
  have h4 : ∀ l, (∀ a ∈ l, OkTyp a) → tszs l ≤ bulk → sumL (l.map textF) ≤ 1099536793600 := fun l hok hl => by
    have := texts_len l hok
    rw [textsF_map] at this
    omega
  refine ⟨h.1.name, h.1.len, by omega, fun a ha => h.1.arg ha, h4 _ (fun a ha => h.1.arg ha) (by omega), fun l hl => ?_⟩
  obtain ⟨m, hm⟩ := hl
  have h5 : tszs t.args = tszs l + tszs m := by rw [← hm, tszs_append]
  exact Nat.le_trans (join_len _) (h4 l (fun a ha => h.1.arg (by rw [← hm]; simp [ha])) (by omega))
theorem q_Type : ∀ (n : Nat) (t : Typ), t.sz ≤ n → oTyp t → Quiet Try.prog 22 [.agg (cTyp t)] (.str (textF t)) := by
  intro n
  induction n with
  | zero => intro t h; have := t.sz_eq; omega
  | succ n ih =>
  intro t hn ht
  have hih : ∀ a ∈ t.args, Quiet Try.prog 22 [.agg (cTyp a)] (.str (textF a)) := fun a ha => ih a (by have := Typ.sz_args ha; omega) (ht.arg ha)
  obtain ⟨f1, f2, f3, f4, f5, f6⟩ := text_facts ht
  have hj := f6 t.args (List.prefix_refl _)
  have hE := textF_eq t
  have qA := q_TypeArgs t.args t.nl .no f3 f4 hih
  refine Quiet.weak fun G => ?_
  refine acall_body (rs := [.tmp 2]) Try.func22 rfl rfl Try.ntmps22 (by kernel_rfl) (Nat.le_of_ble_eq_true rfl) ?_
  refine aw_sr rfl ?_  -- r0 @page.go:31
  simp only [go_sem, reduceIte, Nat.reduceEqDiff, Nat.reduceAdd, Nat.reduceMul, Nat.reduceSub, Nat.reduceLeDiff, Nat.reduceLT, reduceCtorEq]
  intro b1 hb1
  refine aw_box1 hb1 fun B1 hs1 h1 => ?_
  have hsB := hs1
  refine aw_sr rfl ?_  -- r1 @page.go:32
  simp only [go_sem, reduceIte, Nat.reduceEqDiff, Nat.reduceAdd, Nat.reduceMul, Nat.reduceSub, Nat.reduceLeDiff, Nat.reduceLT, reduceCtorEq]
  refine aw_mid (fun f' G' => FSub [(2, .str [])] f' ∧ G' = B1 ∧ textF t = [63]) ?_ ?_
  · refine aw_sr rfl ?_  -- r2 @page.go:39
    simp only [go_sem, reduceIte, Nat.reduceEqDiff, Nat.reduceAdd, Nat.reduceMul, Nat.reduceSub, Nat.reduceLeDiff, Nat.reduceLT, reduceCtorEq, h1]
    refine aw_block ?_  -- 0
    refine aw_chain rfl rfl rfl rfl rfl ?_  -- t6 is one of [1]
    refine aw_if rfl (fun h => ?_) (fun h => ?_)
    · have hk : t.kind = 1 := by simpa using h
      rw [if_pos hk] at hE
      refine aw_sr rfl ?_  -- r4 @page.go:41
      simp only [go_sem, reduceIte, Nat.reduceEqDiff, Nat.reduceAdd, Nat.reduceMul, Nat.reduceSub, Nat.reduceLeDiff, Nat.reduceLT, reduceCtorEq]
      refine aw_ret ⟨trivial, _, rfl, ?_, hsB⟩
      rw [hE]; exact Vle.refl _
    have k1 : ¬ t.kind = 1 := by simpa using h
    rw [if_neg k1] at hE
    refine aw_chain rfl rfl rfl rfl rfl ?_  -- t6 is one of [2]
    refine aw_if rfl (fun h => ?_) (fun h => ?_)
    · have hk : t.kind = 2 := by simpa using h
      rw [if_pos hk] at hE
      refine aw_sr rfl ?_  -- r6 @page.go:43
      simp only [go_sem, reduceIte, Nat.reduceEqDiff, Nat.reduceAdd, Nat.reduceMul, Nat.reduceSub, Nat.reduceLeDiff, Nat.reduceLT, reduceCtorEq]
      refine aw_ret ⟨trivial, _, rfl, ?_, hsB⟩
      rw [hE]; exact Vle.refl _
    have k2 : ¬ t.kind = 2 := by simpa using h
    rw [if_neg k2] at hE
    refine aw_chain rfl rfl rfl rfl rfl ?_  -- t6 is one of [3]
    refine aw_if rfl (fun h => ?_) (fun h => ?_)
    · have hk : t.kind = 3 := by simpa using h
      rw [if_pos hk] at hE
      refine aw_sr rfl ?_  -- r8 @page.go:45
      simp only [go_sem, reduceIte, Nat.reduceEqDiff, Nat.reduceAdd, Nat.reduceMul, Nat.reduceSub, Nat.reduceLeDiff, Nat.reduceLT, reduceCtorEq]
      refine aw_ret ⟨trivial, _, rfl, ?_, hsB⟩
      rw [hE]; exact Vle.refl _
    have k3 : ¬ t.kind = 3 := by simpa using h
    rw [if_neg k3] at hE
    refine aw_chain rfl rfl rfl rfl rfl ?_  -- t6 is one of [4]
    refine aw_if rfl (fun h => ?_) (fun h => ?_)
    · have hk : t.kind = 4 := by simpa using h
      rw [if_pos hk] at hE
      refine aw_sr rfl ?_  -- r10 @page.go:47
      simp only [go_sem, reduceIte, Nat.reduceEqDiff, Nat.reduceAdd, Nat.reduceMul, Nat.reduceSub, Nat.reduceLeDiff, Nat.reduceLT, reduceCtorEq]
      refine aw_ret ⟨trivial, _, rfl, ?_, hsB⟩
      rw [hE]; exact Vle.refl _
    have k4 : ¬ t.kind = 4 := by simpa using h
    rw [if_neg k4] at hE
    refine aw_chain rfl rfl rfl rfl rfl ?_  -- t6 is one of [5]
    refine aw_if rfl (fun h => ?_) (fun h => ?_)
    · have hk : t.kind = 5 := by simpa using h
      rw [if_pos hk] at hE
      refine aw_sr rfl ?_  -- r12 @page.go:49
      simp only [go_sem, reduceIte, Nat.reduceEqDiff, Nat.reduceAdd, Nat.reduceMul, Nat.reduceSub, Nat.reduceLeDiff, Nat.reduceLT, reduceCtorEq, h1]
      refine aw_ret ⟨trivial, _, rfl, ?_, hsB⟩
      rw [hE]; exact Vle.refl _
    have k5 : ¬ t.kind = 5 := by simpa using h
    rw [if_neg k5] at hE
    refine aw_chain rfl rfl rfl rfl rfl ?_  -- t6 is one of [8]
    refine aw_if rfl (fun h => ?_) (fun h => ?_)
    · have hk : t.kind = 8 := by simpa using h
      rw [if_pos hk] at hE
      refine aw_sr rfl ?_  -- r14 @page.go:51
      simp only [go_sem, reduceIte, Nat.reduceEqDiff, Nat.reduceAdd, Nat.reduceMul, Nat.reduceSub, Nat.reduceLeDiff, Nat.reduceLT, reduceCtorEq, h1]
      refine goA_q qA ?_
      simp only [go_sem, reduceIte, Nat.reduceEqDiff, Nat.reduceAdd, Nat.reduceMul, Nat.reduceSub, Nat.reduceLeDiff, Nat.reduceLT, reduceCtorEq, h1]
      refine ⟨by simp; omega, ?_⟩
      refine ⟨by simp; omega, ?_⟩
      refine aw_ret ⟨trivial, _, rfl, ?_, hsB⟩
      rw [hE]; exact Vle.refl _
    have k8 : ¬ t.kind = 8 := by simpa using h
    rw [if_neg k8] at hE
    refine aw_chain rfl rfl rfl rfl rfl ?_  -- t6 is one of [9]
    refine aw_if rfl (fun h => ?_) (fun h => ?_)
    · have hk : t.kind = 9 := by simpa using h
      rw [if_pos hk] at hE
      refine aw_sr rfl ?_  -- r16 @page.go:53
      simp only [go_sem, reduceIte, Nat.reduceEqDiff, Nat.reduceAdd, Nat.reduceMul, Nat.reduceSub, Nat.reduceLeDiff, Nat.reduceLT, reduceCtorEq, h1]
      refine goA_q qA ?_
      simp only [go_sem, reduceIte, Nat.reduceEqDiff, Nat.reduceAdd, Nat.reduceMul, Nat.reduceSub, Nat.reduceLeDiff, Nat.reduceLT, reduceCtorEq, h1]
      refine ⟨by simp; omega, ?_⟩
      refine ⟨by simp; omega, ?_⟩
      refine aw_ret ⟨trivial, _, rfl, ?_, hsB⟩
      rw [hE]; exact Vle.refl _
    have k9 : ¬ t.kind = 9 := by simpa using h
    rw [if_neg k9] at hE
    refine aw_chain rfl rfl rfl rfl rfl ?_  -- t6 is one of [6]
    refine aw_if rfl (fun h => ?_) (fun h => ?_)
    · have hk : t.kind = 6 := by simpa using h
      rw [if_pos hk] at hE
      refine aw_seq fun K1 hK1 => ?_
      refine aw_sr rfl ?_  -- r18 @page.go:55
      simp only [go_sem, reduceIte, Nat.reduceEqDiff, Nat.reduceAdd, Nat.reduceMul, Nat.reduceSub, Nat.reduceLeDiff, Nat.reduceLT, reduceCtorEq, h1]
      refine aw_if rfl (fun h => ?_) (fun h => ?_)
      · have h0 : t.args = [] := List.eq_nil_of_length_eq_zero (by rw [decide_eq_true_eq] at h; omega)
        rw [if_pos h0] at hE
        refine aw_sr rfl ?_  -- r19 @page.go:56
        simp only [go_sem, reduceIte, Nat.reduceEqDiff, Nat.reduceAdd, Nat.reduceMul, Nat.reduceSub, Nat.reduceLeDiff, Nat.reduceLT, reduceCtorEq, h1]
        refine aw_ret ⟨trivial, _, rfl, ?_, hsB⟩
        rw [hE]; exact Vle.refl _
      have h0 : ¬ t.args = [] := fun e => by rw [e] at h; simp at h
      rw [if_neg h0] at hE
      refine aw_skip (hK1 _ _ ?_)
      refine aw_srd [(0,true),(1,true),(2,true),(3,true),(4,true),(5,true),(6,true),(7,true),(8,true),(9,true)] mixed rfl (by kernel_rfl) ?_  -- r20 @page.go:58
      simp only [go_sem, reduceIte, Nat.reduceEqDiff, Nat.reduceAdd, Nat.reduceMul, Nat.reduceSub, Nat.reduceLeDiff, Nat.reduceLT, reduceCtorEq, h1]
      refine ⟨by simp; omega, ?_⟩
      refine goQ_by qA ?_
      simp only [go_sem, reduceIte, Nat.reduceEqDiff, Nat.reduceAdd, Nat.reduceMul, Nat.reduceSub, Nat.reduceLeDiff, Nat.reduceLT, reduceCtorEq, h1]
      refine ⟨by simp; omega, ?_⟩
      refine ⟨by simp; omega, ?_⟩
      refine aw_ret ⟨trivial, _, rfl, ?_, hsB⟩
      rw [hE]; exact Vle.refl _
    have k6 : ¬ t.kind = 6 := by simpa using h
    rw [if_neg k6] at hE
    refine aw_chain rfl rfl rfl rfl rfl ?_  -- t6 is one of [7]
    refine aw_if rfl (fun h => ?_) (fun h => ?_)
    · have hk : t.kind = 7 := by simpa using h
      rw [if_pos hk] at hE
      refine aw_sr rfl ?_  -- r22 @page.go:60
      simp only [go_sem, reduceIte, Nat.reduceEqDiff, Nat.reduceAdd, Nat.reduceMul, Nat.reduceSub, Nat.reduceLeDiff, Nat.reduceLT, reduceCtorEq, h1]
      refine aw_sr rfl ?_  -- r23 @page.go:60
      simp only [go_sem, reduceIte, Nat.reduceEqDiff, Nat.reduceAdd, Nat.reduceMul, Nat.reduceSub, Nat.reduceLeDiff, Nat.reduceLT, reduceCtorEq]
      refine aw_if rfl (fun h => ?_) (fun h => ?_)
      · have hpos : 0 < t.args.length := by rw [decide_eq_true_eq] at h; omega
        have hwl : IntKind.i64.wrap (((t.args.length : Nat) : Int) - 1) = ((t.args.length - 1 : Nat) : Int) := by rw [wrap64 (by omega) (by omega)]; omega
        have hlast : (t.args.map textF).getLast? = some (textF (t.args[t.args.length - 1]'(by omega))) := by
          rw [List.getLast?_eq_getElem?, List.getElem?_map, List.length_map, List.getElem?_eq_getElem (by omega)]; rfl
        have hdl : (t.args.map textF).dropLast = (t.args.take (t.args.length - 1)).map textF := by
          rw [List.dropLast_eq_take, List.length_map, List.map_take]
        rw [hlast, hdl] at hE
        simp only at hE
        have hmem : t.args[t.args.length - 1]'(by omega) ∈ t.args := List.getElem_mem _
        have hqe := hih _ hmem
        have hj2 := f6 (t.args.take (t.args.length - 1)) (List.take_prefix _ _)
        have hel := text_len _ (f4 _ hmem)
        have hes := Nat.le_trans (tszs_mem hmem) f3
        have g3 : bulk = 1048576 := rfl
        have qB : ∀ tg, Quiet Try.prog 92 [.sl ((t.args.take (t.args.length - 1)).map eTyp) t.nl tg] (.str (joinL ((t.args.take (t.args.length - 1)).map textF) [44, 32])) := fun tg => by
          have hp := List.take_append_drop (t.args.length - 1) t.args
          have hsz : tszs (t.args.take (t.args.length - 1)) ≤ bulk := by
            have := tszs_append (t.args.take (t.args.length - 1)) (t.args.drop (t.args.length - 1))
            rw [hp] at this; omega
          exact q_TypeArgs _ t.nl tg hsz (fun a ha => f4 a (List.mem_of_mem_take ha)) (fun a ha => hih a (List.mem_of_mem_take ha))
        refine aw_srd [(0,true),(1,true),(2,true),(3,true),(4,true),(5,true),(6,true),(7,true),(8,true),(9,true),(10,true),(11,true),(12,true),(13,true),(14,true),(15,true),(16,true),(17,true)] mixed rfl (by kernel_rfl) ?_  -- r24 @page.go:61
        simp only [go_sem, reduceIte, Nat.reduceEqDiff, Nat.reduceAdd, Nat.reduceMul, Nat.reduceSub, Nat.reduceLeDiff, Nat.reduceLT, reduceCtorEq, h1, hwl, Int.toNat_natCast, Int.toNat_zero, List.drop_zero, Nat.sub_zero, ← List.map_take, getD_map (show t.args.length - 1 < t.args.length by omega), eTyp_eq, cTyp]
        refine ⟨⟨⟨by omega, by omega⟩, wid_eTyp _⟩, ?_⟩
        refine goQ_by (qB _) ?_
        simp only [go_sem, reduceIte, Nat.reduceEqDiff, Nat.reduceAdd, Nat.reduceMul, Nat.reduceSub, Nat.reduceLeDiff, Nat.reduceLT, reduceCtorEq, h1, hwl, Int.toNat_natCast, getD_map (show t.args.length - 1 < t.args.length by omega), eTyp_eq, cTyp]
        refine ⟨by first | omega | (simp only [List.length_append, List.length_cons, List.length_nil]; omega), ?_⟩
        refine ⟨by first | omega | (simp only [List.length_append, List.length_cons, List.length_nil]; omega), ?_⟩
        refine ⟨⟨by omega, by omega, wid_eTyp _⟩, ?_⟩
        refine goQ_by hqe ?_
        simp only [go_sem, reduceIte, Nat.reduceEqDiff, Nat.reduceAdd, Nat.reduceMul, Nat.reduceSub, Nat.reduceLeDiff, Nat.reduceLT, reduceCtorEq]
        refine ⟨by first | omega | (simp only [List.length_append, List.length_cons, List.length_nil]; omega), ?_⟩
        refine aw_ret ⟨trivial, _, rfl, ?_, hsB⟩
        rw [hE]; exact Vle.refl _
      · have h0 : t.args = [] := List.eq_nil_of_length_eq_zero (by rw [decide_eq_false_iff_not] at h; omega)
        refine aw_skip ⟨rfl, rfl, ?_⟩
        rw [hE, h0]; rfl
    · have k7 : ¬ t.kind = 7 := by simpa using h
      rw [if_neg k7] at hE
      exact aw_skip ⟨rfl, rfl, hE⟩
  intro f' G' ⟨hf, hg, hE⟩
  rw [hg]
  refine AW.of_fsub hf ?_
  refine aw_sr rfl ?_  -- r25 @page.go:64
  simp only [go_sem, reduceIte, Nat.reduceEqDiff, Nat.reduceAdd, Nat.reduceMul, Nat.reduceSub, Nat.reduceLeDiff, Nat.reduceLT, reduceCtorEq]
  refine aw_ret ⟨trivial, _, rfl, ?_, hsB⟩
  rw [hE]; exact Vle.refl _
end Go.Proofs.Ytacecjfpkdijpaa

/- The reference's text of a type. No conditions but sizes. -/
set_option linter.unusedSimpArgs false
set_option linter.unusedVariables false
namespace Go.Proofs.Ytacecjfpkdijpaa
open Go.Proofs.YtacecjfpkdijpaaV
set_option maxHeartbeats 4000000
set_option maxRecDepth 100000
theorem wid_eSt (l : List (List UInt8)) : wid 1 (l.map eSt) := wid_map (g := eSt) (fun _ => rfl) _
theorem q_TypeText : ∀ (n : Nat) (t : Typ), t.sz ≤ n → oTyp t → Quiet Try.prog 24 [.agg (cTyp t)] (.str (textF t)) := by
  intro n
  induction n with
  | zero => intro t h; have := t.sz_eq; omega
  | succ n ih =>
  intro t hn ht
  have hih : ∀ a ∈ t.args, Quiet Try.prog 24 [.agg (cTyp a)] (.str (textF a)) := fun a ha => ih a (by have := Typ.sz_args ha; omega) (ht.arg ha)
  obtain ⟨f1, f2, f3, f4, f5, f6⟩ := text_facts ht
  have hj := f6 t.args (List.prefix_refl _)
  have hE := textF_eq t
  refine Quiet.weak fun G => ?_
  refine acall_body (rs := [.tmp 2]) Try.func24 rfl rfl Try.ntmps24 (by kernel_rfl) (Nat.le_of_ble_eq_true rfl) ?_
  refine aw_sr rfl ?_  -- r0 @run.go:331
  simp only [go_sem, reduceIte, Nat.reduceEqDiff, Nat.reduceAdd, Nat.reduceMul, Nat.reduceSub, Nat.reduceLeDiff, Nat.reduceLT, reduceCtorEq]
  intro b1 hb1
  refine aw_box1 hb1 fun B1 hs1 h1 => ?_
  refine aw_sr rfl ?_  -- r1 @run.go:332
  simp only [go_sem, reduceIte, Nat.reduceEqDiff, Nat.reduceAdd, Nat.reduceMul, Nat.reduceSub, Nat.reduceLeDiff, Nat.reduceLT, reduceCtorEq]
  refine aw_seq fun K3 hK3 => ?_
  refine aw_sr rfl ?_  -- r2 @run.go:333
  simp only [go_sem, reduceIte, Nat.reduceEqDiff, Nat.reduceAdd, Nat.reduceMul, Nat.reduceSub, Nat.reduceLeDiff, Nat.reduceLT, reduceCtorEq, h1]
  refine aw_range t.args.length (S := Tag × Heap) (fun i s => [(1, .ptr b1 0), (3, .sl (((t.args.take i).map textF).map eSt) (t.args.take i).isEmpty s.1), (8, .sl (t.args.map eTyp) t.nl .no)]) (fun _ s => s.2) (fun i s => Rm B1 s.2 1 s.1 ∧ Sub B1 s.2) (.full, B1) (by omega) ?_ (fun _ _ h => h) ⟨Rm.start _ _ _, sub_rfl⟩ rfl (fun _ _ => rfl) ?_ ?_ (by decide)
  · simp only [go_sem, reduceIte, Nat.reduceEqDiff, Nat.reduceAdd, Nat.reduceMul, Nat.reduceSub, Nat.reduceLeDiff, Nat.reduceLT, reduceCtorEq, Int.natCast_zero, List.take_zero, List.map_nil, List.isEmpty_nil]
  · intro i ⟨t4, H⟩ hi ⟨hr, hs⟩
    simp only at hr hs ⊢
    have htk : t.args.take (i + 1) = t.args.take i ++ [t.args[i]] := List.take_succ_eq_append_getElem hi
    have hqi := hih t.args[i] (List.getElem_mem hi)
    refine aw_sr rfl ?_  -- r4 @run.go:333
    simp only [go_sem, reduceIte, Nat.reduceEqDiff, Nat.reduceAdd, Nat.reduceMul, Nat.reduceSub, Nat.reduceLeDiff, Nat.reduceLT, reduceCtorEq, getD_map hi, eTyp_eq, cTyp]
    refine ⟨⟨by omega, by omega, wid_eTyp _⟩, ?_⟩
    generalize t.args[i] = a at htk hqi
    intro b5 hb5
    refine aw_box1 hb5 fun B2 hs2 h5 => ?_
    refine aw_rg rfl ?_  -- r5 @run.go:334
    simp only [go_sem, reduceIte, Nat.reduceEqDiff, Nat.reduceAdd, Nat.reduceMul, Nat.reduceSub, Nat.reduceLeDiff, Nat.reduceLT, reduceCtorEq, h5]
    refine goA_q hqi ?_
    simp only [go_sem, reduceIte, Nat.reduceEqDiff, Nat.reduceAdd, Nat.reduceMul, Nat.reduceSub, Nat.reduceLeDiff, Nat.reduceLT, reduceCtorEq]
    refine goP_rm (G := B1) (hr.sub hs2) (sub_trans hs hs2) ?_ fun t6 H6 hr6 hs6 hg6 => ?_
    · exact ⟨rfl, rfl, by decide, wid_eSt _, wid_one rfl, by simp [sca, scalarV], by simp; omega, by simp; omega⟩
    simp only [go_sem, reduceIte, Nat.reduceEqDiff, Nat.reduceAdd, Nat.reduceMul, Nat.reduceSub, Nat.reduceLeDiff, Nat.reduceLT, reduceCtorEq]
    refine ⟨(t6, H6), ⟨hr6, hs6⟩, ?_, sub_rfl⟩
    rw [htk, isE_cat, List.map_append, List.map_append, List.map_cons, List.map_nil, List.map_cons, List.map_nil, eSt]
    exact ⟨rfl, rfl, rfl, rfl, rfl⟩
  intro ⟨t4, H⟩ ⟨hr, hs⟩
  simp only at hr hs ⊢
  rw [List.take_length]
  replace h1 := hs _ _ h1
  have hsB := sub_trans hs1 hs
  clear hr hs hs1
  refine hK3 _ _ ?_
  refine aw_sr rfl ?_  -- r7 @run.go:336
  simp only [go_sem, reduceIte, Nat.reduceEqDiff, Nat.reduceAdd, Nat.reduceMul, Nat.reduceSub, Nat.reduceLeDiff, Nat.reduceLT, reduceCtorEq]
  refine goA_q (q_Join (t.args.map textF) _ _ [44, 32] (by simp; omega) (by omega)) ?_
  simp only [go_sem, reduceIte, Nat.reduceEqDiff, Nat.reduceAdd, Nat.reduceMul, Nat.reduceSub, Nat.reduceLeDiff, Nat.reduceLT, reduceCtorEq]
  have hTl : (t.args.map textF).length = t.args.length := List.length_map _
  refine aw_seq fun K4 hK4 => ?_
  refine aw_block ?_  -- 2
  refine aw_sr rfl ?_  -- r8 @run.go:338
  simp only [go_sem, reduceIte, Nat.reduceEqDiff, Nat.reduceAdd, Nat.reduceMul, Nat.reduceSub, Nat.reduceLeDiff, Nat.reduceLT, reduceCtorEq, h1]
  refine aw_if rfl (fun h => ?_) (fun h => ?_)
  · have hk : t.kind = 1 ∨ t.kind = 2 ∨ t.kind = 3 ∨ t.kind = 4 := by
      simp only [Bool.and_eq_true, decide_eq_true_eq] at h; omega
    refine aw_sr rfl ?_  -- r9 @run.go:339
    rcases hk with hk | hk | hk | hk
    all_goals
      simp only [go_sem, reduceIte, Nat.reduceEqDiff, Nat.reduceAdd, Nat.reduceMul, Nat.reduceSub, Nat.reduceLeDiff, Nat.reduceLT, reduceCtorEq, h1, hk, show Int.toNat 1 = 1 from rfl, show Int.toNat 2 = 2 from rfl, show Int.toNat 3 = 3 from rfl, show Int.toNat 4 = 4 from rfl, List.getD_cons_succ, List.getD_cons_zero]
      refine ⟨⟨by decide, by decide, by simp [wid]⟩, ?_⟩
      refine aw_ret ⟨trivial, _, rfl, ?_, hsB⟩
      rw [hk] at hE
      rw [hE]; exact Vle.refl _
  have hk4 : ¬ (t.kind = 1 ∨ t.kind = 2 ∨ t.kind = 3 ∨ t.kind = 4) := by
    intro e
    have : (decide (1 ≤ t.kind) && decide (t.kind ≤ 4)) = true := by rw [Bool.and_eq_true, decide_eq_true_eq, decide_eq_true_eq]; omega
    rw [show (decide (t.kind ≥ 1) && decide (t.kind ≤ 4)) = (decide (1 ≤ t.kind) && decide (t.kind ≤ 4)) from rfl, this] at h
    cases h
  rw [if_neg (fun e => hk4 (by omega)), if_neg (fun e => hk4 (by omega)), if_neg (fun e => hk4 (by omega)), if_neg (fun e => hk4 (by omega))] at hE
  refine aw_mid (fun f' G' => FSub [(36, .bool (decide (t.kind = 5) || decide (t.kind = 6) && decide (t.args = []))), (1, .ptr b1 0), (3, .sl ((t.args.map textF).map eSt) t.args.isEmpty t4), (6, .str (joinL (t.args.map textF) [44, 32]))] f' ∧ G' = H) ?_ ?_
  · refine aw_sr rfl ?_  -- r10 @run.go:340
    simp only [go_sem, reduceIte, Nat.reduceEqDiff, Nat.reduceAdd, Nat.reduceMul, Nat.reduceSub, Nat.reduceLeDiff, Nat.reduceLT, reduceCtorEq, h1]
    refine aw_if rfl (fun h => ?_) (fun h => ?_)
    · have hk : t.kind = 5 := by simpa using h
      refine aw_skip ?_
      rw [decide_eq_true hk]
      exact ⟨⟨rfl, rfl, rfl, rfl⟩, rfl⟩
    · have hk : ¬ t.kind = 5 := by simpa using h
      have hd : decide (((t.args.length : Nat) : Int) = 0) = decide (t.args = []) := by
        rw [Bool.eq_iff_iff, decide_eq_true_eq, decide_eq_true_eq, ← List.length_eq_zero_iff]; omega
      refine aw_rg rfl ?_  -- r11 @run.go:340
      simp only [go_sem, reduceIte, Nat.reduceEqDiff, Nat.reduceAdd, Nat.reduceMul, Nat.reduceSub, Nat.reduceLeDiff, Nat.reduceLT, reduceCtorEq, h1, hTl, hd]
      rw [decide_eq_false hk]
      exact ⟨⟨rfl, rfl, rfl, rfl⟩, rfl⟩
  intro f' G' ⟨hf, hg⟩
  rw [hg]
  refine AW.of_fsub hf ?_
  refine aw_if rfl (fun h => ?_) (fun h => ?_)
  · refine aw_sr rfl ?_  -- r12 @run.go:341
    simp only [go_sem, reduceIte, Nat.reduceEqDiff, Nat.reduceAdd, Nat.reduceMul, Nat.reduceSub, Nat.reduceLeDiff, Nat.reduceLT, reduceCtorEq, h1]
    refine aw_ret ⟨trivial, _, rfl, ?_, hsB⟩
    have e : textF t = t.name := by
      rw [hE]
      simp only [Bool.or_eq_true, Bool.and_eq_true, decide_eq_true_eq] at h
      rcases h with h | ⟨h, h0⟩
      · rw [if_pos h]
      · rw [if_neg (by omega), if_neg (by omega), if_neg (by omega), if_pos h, if_pos h0]
    rw [e]; exact Vle.refl _
  have hk5 : ¬ t.kind = 5 := fun e => by rw [e] at h; simp at h
  have hk6 : t.kind = 6 → ¬ t.args = [] := fun e e0 => by rw [e, e0] at h; simp at h
  rw [if_neg hk5] at hE
  refine aw_sr rfl ?_  -- r13 @run.go:342
  simp only [go_sem, reduceIte, Nat.reduceEqDiff, Nat.reduceAdd, Nat.reduceMul, Nat.reduceSub, Nat.reduceLeDiff, Nat.reduceLT, reduceCtorEq, h1]
  refine aw_if rfl (fun h => ?_) (fun h => ?_)
  · have hk : t.kind = 6 := by simpa using h
    rw [if_neg (by omega), if_neg (by omega), if_pos hk, if_neg (hk6 hk)] at hE
    refine aw_sr rfl ?_  -- r14 @run.go:343
    simp only [go_sem, reduceIte, Nat.reduceEqDiff, Nat.reduceAdd, Nat.reduceMul, Nat.reduceSub, Nat.reduceLeDiff, Nat.reduceLT, reduceCtorEq, h1]
    refine ⟨by first | omega | (simp only [List.length_append, List.length_cons, List.length_nil]; omega), ?_⟩
    refine ⟨by first | omega | (simp only [List.length_append, List.length_cons, List.length_nil]; omega), ?_⟩
    refine ⟨by first | omega | (simp only [List.length_append, List.length_cons, List.length_nil]; omega), ?_⟩
    refine aw_ret ⟨trivial, _, rfl, ?_, hsB⟩
    rw [hE]; exact Vle.refl _
  have hk6 : ¬ t.kind = 6 := by simpa using h
  refine aw_sr rfl ?_  -- r15 @run.go:344
  simp only [go_sem, reduceIte, Nat.reduceEqDiff, Nat.reduceAdd, Nat.reduceMul, Nat.reduceSub, Nat.reduceLeDiff, Nat.reduceLT, reduceCtorEq, h1, hTl]
  refine aw_if rfl (fun h => ?_) (fun h => ?_)
  · simp only [Bool.and_eq_true, decide_eq_true_eq] at h
    obtain ⟨hk, hpos⟩ := h
    have hpos : 0 < t.args.length := by omega
    rw [if_neg (by omega), if_neg (by omega), if_neg (by omega), if_pos hk] at hE
    have hwl : IntKind.i64.wrap (((t.args.length : Nat) : Int) - 1) = ((t.args.length - 1 : Nat) : Int) := by rw [wrap64 (by omega) (by omega)]; omega
    have hlast : (t.args.map textF).getLast? = some (textF (t.args[t.args.length - 1]'(by omega))) := by
      rw [List.getLast?_eq_getElem?, List.getElem?_map, List.length_map, List.getElem?_eq_getElem (by omega)]; rfl
    have hdl : (t.args.map textF).dropLast = (t.args.take (t.args.length - 1)).map textF := by
      rw [List.dropLast_eq_take, List.length_map, List.map_take]
    rw [hlast, hdl] at hE
    simp only at hE
    have hmem : t.args[t.args.length - 1]'(by omega) ∈ t.args := List.getElem_mem _
    have hj2 := f6 (t.args.take (t.args.length - 1)) (List.take_prefix _ _)
    have hel := text_len _ (f4 _ hmem)
    have hes := Nat.le_trans (tszs_mem hmem) f3
    have g3 : bulk = 1048576 := rfl
    have hget : ((t.args.map textF).map eSt).getD (t.args.length - 1) [] = [.str (textF (t.args[t.args.length - 1]'(by omega)))] := by
      rw [getD_map (show t.args.length - 1 < (t.args.map textF).length by rw [hTl]; omega), List.getElem_map]; rfl
    refine aw_srd [(0,true),(1,true),(2,true),(3,true),(4,true),(5,true),(6,true),(7,true),(8,true),(9,true),(10,true),(11,true),(12,true),(13,true),(14,true),(15,true)] mixed rfl (by kernel_rfl) ?_  -- r16 @run.go:345
    simp only [go_sem, reduceIte, Nat.reduceEqDiff, Nat.reduceAdd, Nat.reduceMul, Nat.reduceSub, Nat.reduceLeDiff, Nat.reduceLT, reduceCtorEq, hTl, hwl, Int.toNat_natCast, Int.toNat_zero, List.drop_zero, Nat.sub_zero, ← List.map_take, hget]
    refine ⟨⟨⟨by omega, by omega⟩, wid_eSt _⟩, ?_⟩
    refine goQ_by (q_Join ((t.args.take (t.args.length - 1)).map textF) _ _ [44, 32] (by simp; omega) (by omega)) ?_
    simp only [go_sem, reduceIte, Nat.reduceEqDiff, Nat.reduceAdd, Nat.reduceMul, Nat.reduceSub, Nat.reduceLeDiff, Nat.reduceLT, reduceCtorEq, hTl, hwl, Int.toNat_natCast, hget]
    refine ⟨by first | omega | (simp only [List.length_append, List.length_cons, List.length_nil]; omega), ?_⟩
    refine ⟨by first | omega | (simp only [List.length_append, List.length_cons, List.length_nil]; omega), ?_⟩
    refine ⟨⟨by omega, by omega, wid_eSt _⟩, ?_⟩
    refine ⟨by first | omega | (simp only [List.length_append, List.length_cons, List.length_nil]; omega), ?_⟩
    refine aw_ret ⟨trivial, _, rfl, ?_, hsB⟩
    rw [hE]; exact Vle.refl _
  have hk7 : t.kind = 7 → t.args = [] := fun e => by
    rw [e] at h
    simp at h
    exact h
  refine aw_sr rfl ?_  -- r17 @run.go:346
  simp only [go_sem, reduceIte, Nat.reduceEqDiff, Nat.reduceAdd, Nat.reduceMul, Nat.reduceSub, Nat.reduceLeDiff, Nat.reduceLT, reduceCtorEq, h1]
  refine aw_if rfl (fun h => ?_) (fun h => ?_)
  · have hk : t.kind = 8 := by simpa using h
    rw [if_pos hk] at hE
    refine aw_sr rfl ?_  -- r18 @run.go:347
    simp only [go_sem, reduceIte, Nat.reduceEqDiff, Nat.reduceAdd, Nat.reduceMul, Nat.reduceSub, Nat.reduceLeDiff, Nat.reduceLT, reduceCtorEq]
    refine ⟨by first | omega | (simp only [List.length_append, List.length_cons, List.length_nil]; omega), ?_⟩
    refine ⟨by first | omega | (simp only [List.length_append, List.length_cons, List.length_nil]; omega), ?_⟩
    refine aw_ret ⟨trivial, _, rfl, ?_, hsB⟩
    rw [hE]; exact Vle.refl _
  have hk8 : ¬ t.kind = 8 := by simpa using h
  rw [if_neg hk8] at hE
  refine aw_sr rfl ?_  -- r19 @run.go:348
  simp only [go_sem, reduceIte, Nat.reduceEqDiff, Nat.reduceAdd, Nat.reduceMul, Nat.reduceSub, Nat.reduceLeDiff, Nat.reduceLT, reduceCtorEq, h1]
  refine aw_if rfl (fun h => ?_) (fun h => ?_)
  · have hk : t.kind = 9 := by simpa using h
    rw [if_pos hk] at hE
    refine aw_sr rfl ?_  -- r20 @run.go:349
    simp only [go_sem, reduceIte, Nat.reduceEqDiff, Nat.reduceAdd, Nat.reduceMul, Nat.reduceSub, Nat.reduceLeDiff, Nat.reduceLT, reduceCtorEq]
    refine ⟨by first | omega | (simp only [List.length_append, List.length_cons, List.length_nil]; omega), ?_⟩
    refine ⟨by first | omega | (simp only [List.length_append, List.length_cons, List.length_nil]; omega), ?_⟩
    refine aw_ret ⟨trivial, _, rfl, ?_, hsB⟩
    rw [hE]; exact Vle.refl _
  have hk9 : ¬ t.kind = 9 := by simpa using h
  rw [if_neg hk9, if_neg hk6] at hE
  have hE : textF t = [63] := by
    rw [hE]
    split
    · rename_i e; rw [hk7 e]; rfl
    · rfl
  refine aw_skip (hK4 _ _ ?_)
  refine aw_sr rfl ?_  -- r21 @run.go:351
  simp only [go_sem, reduceIte, Nat.reduceEqDiff, Nat.reduceAdd, Nat.reduceMul, Nat.reduceSub, Nat.reduceLeDiff, Nat.reduceLT, reduceCtorEq]
  refine aw_ret ⟨trivial, _, rfl, ?_, hsB⟩
  rw [hE]; exact Vle.refl _
end Go.Proofs.Ytacecjfpkdijpaa

/- PageTypes: the law, over data. No conditions but sizes. -/
set_option linter.unusedSimpArgs false
set_option linter.unusedVariables false
namespace Go.Proofs.Ytacecjfpkdijpaa
open Go.Proofs.YtacecjfpkdijpaaV
set_option maxHeartbeats 2000000
set_option maxRecDepth 100000
theorem law0_PageTypes (t : Typ) (ht : oTyp t) : Quiet Try.prog 4 [.agg (cTyp t)] (.bool true) := by
  have q1 := q_Type t.sz t (Nat.le_refl _) ht
  have q2 := q_TypeText t.sz t (Nat.le_refl _) ht
  have hsm : QB Try.prog 23 [.sl [cTyp t] false .full] := by
    have := q_TypesSmall [t] false .full (by simpa [tszs] using ht.2)
    rw [List.map_cons, eTyp_eq] at this
    exact this
  have h0 : Quiet Try.prog 22 [.agg [.int .i64 1, .str [], .sl [] true .full]] (.str [105, 110, 116]) := by
    have h := q_Type 1 (.mk 1 [] [] true) (by simp [Typ.sz, tszs]) ⟨.mk (by decide) (by simp) (by simp) (by simp) (by simp), by simp [Typ.sz, tszs, bulk]⟩
    exact Quiet.args h (.cons (.aggL (.cons (Vle.refl _) (.cons (Vle.refl _) (.cons Vle.untag .nil)))) .nil)
  refine Quiet.weak fun G => ?_
  refine acall_body (rs := [.tmp 2]) Try.func4 rfl rfl Try.ntmps4 (by kernel_rfl) (Nat.le_of_ble_eq_true rfl) ?_
  refine aw_sr rfl ?_  -- r0 @high.go:263
  simp only [go_sem, reduceIte, Nat.reduceEqDiff, Nat.reduceAdd, Nat.reduceMul, Nat.reduceSub, Nat.reduceLeDiff, Nat.reduceLT, reduceCtorEq]
  intro b1 hb1
  refine aw_box1 hb1 fun B1 hs1 h1 => ?_
  have hsB := hs1
  refine aw_seq fun K5 hK5 => ?_
  refine aw_sr rfl ?_  -- r1 @high.go:264
  simp only [go_sem, reduceIte, Nat.reduceEqDiff, Nat.reduceAdd, Nat.reduceMul, Nat.reduceSub, Nat.reduceLeDiff, Nat.reduceLT, reduceCtorEq]
  refine goA_q h0 ?_
  simp only [go_sem, reduceIte, Nat.reduceEqDiff, Nat.reduceAdd, Nat.reduceMul, Nat.reduceSub, Nat.reduceLeDiff, Nat.reduceLT, reduceCtorEq]
  refine aw_if rfl (fun h => by simp at h) (fun h => ?_)
  refine aw_skip (hK5 _ _ ?_)
  refine aw_srd [(0,false),(1,true),(2,false),(3,true),(4,true),(5,true),(6,true),(7,true),(8,true),(9,true),(10,true),(11,true)] mixed rfl (by kernel_rfl) ?_  -- r3 @high.go:267
  simp only [go_sem, reduceIte, Nat.reduceEqDiff, Nat.reduceAdd, Nat.reduceMul, Nat.reduceSub, Nat.reduceLeDiff, Nat.reduceLT, reduceCtorEq, h1]
  refine goA_qb hsm fun b => ?_
  simp only [go_sem, reduceIte, Nat.reduceEqDiff, Nat.reduceAdd, Nat.reduceMul, Nat.reduceSub, Nat.reduceLeDiff, Nat.reduceLT, reduceCtorEq, h1]
  refine goQg_by (fun hg => q1) ?_
  simp only [go_sem, reduceIte, Nat.reduceEqDiff, Nat.reduceAdd, Nat.reduceMul, Nat.reduceSub, Nat.reduceLeDiff, Nat.reduceLT, reduceCtorEq, h1]
  refine goQg_by (fun hg => q2) ?_
  simp only [go_sem, reduceIte, Nat.reduceEqDiff, Nat.reduceAdd, Nat.reduceMul, Nat.reduceSub, Nat.reduceLeDiff, Nat.reduceLT, reduceCtorEq, h1]
  refine aw_ret ⟨trivial, _, rfl, ?_, hsB⟩
  cases b <;> exact Vle.refl _
end Go.Proofs.Ytacecjfpkdijpaa

/- PageTypes: the law, over its argument as data. -/
namespace Go.Proofs.Ytacecjfpkdijpaa.pageTypes
open Go.Proofs.YtacecjfpkdijpaaV
set_option linter.unusedVariables false
set_option maxRecDepth 100000
theorem law (x0 : Typ) (q0 : o45 x0) : Quiet Try.prog 4 [.agg (e45 x0)] (.bool true) := by
  have h := law0_PageTypes x0 q0
  rw [← eTyp_eq] at h
  exact h
end Go.Proofs.Ytacecjfpkdijpaa.pageTypes

/- 'roadlaw5.PageTypes' returns true for every input whose bulk is at most 1048576 values and letters (the statement's own bound): . No other condition. -/
set_option linter.unusedSimpArgs false
set_option linter.unusedVariables false
set_option maxRecDepth 100000
namespace Go.Proofs.Ytacecjfpkdijpaa.pageTypes
open Go.ChangeShapes Go.WideShapes Go.ChangeAt Go.RowKit
open Go.Proofs.YtacecjfpkdijpaaV
theorem own : ownKnob Try.prog.godebug = none := by kernel_rfl
theorem laidOut : laidOutB Try.prog = true := by kernel_rfl
theorem uBool : Try.prog.underlying 4 = some .bool := by kernel_rfl
theorem typed {xs : List V} (h : TyAll Try.prog [45] xs) (hs : vszL xs ≤ 1048576) : Quiet Try.prog 4 xs (.bool true) := by
  obtain ⟨x0, rfl, q0⟩ := args h hs
  exact law x0 q0
theorem contract (H : Type) (enc : TypeId × Value → H) (W : World) (base : Nat) (args : Array Value) (ds gs : List (DataW H)) (before : List MemPlace)
    (hval : ∀ (j : Nat) t v, Try.f4.params[j]? = some t → args[j]? = some v → Value.okWide Try.prog W .any base t v)
    (hW : DataW.Whole enc Try.prog Try.f4.params.toList Rows.pageTypesSpec.vars false W args.toList ds gs before) (hk : Rows.uptoSmall H (ds ++ gs) = true) :
    Calls Try.prog 4 args W fun e W' => ∃ v, e = .returned v ∧ Rows.pageTypesSpec.post enc Try.prog Try.f4 false true false false W args v W' := by
  have hW' := hW
  obtain ⟨p, q, hA0, hV, rfl, hfz, hnd⟩ := hW
  have hA : DataW.TrodAll enc Try.prog W 0 (fun _ => true) true Try.f4.params.toList args.toList ds p := hA0
  obtain ⟨rfl, rfl⟩ := trodVars_none hV
  rw [Try.params4] at hA hval
  obtain ⟨xs, hr, ht, hs⟩ := trod_all (fun j t v hj hv => hval j t v (by simpa using hj) (by simpa using hv)) hA
  have hk' : Rows.uptoBulkAll (ds ++ []) ≤ 1048576 := of_decide_eq_true hk
  rw [List.append_nil] at hk'
  have hq := typed ht (Nat.le_trans hs hk')
  refine (ACall.calls (hq []) Try.func4 rfl rfl hr).mono fun e W' ⟨v, he, bel, M', x, G', hx, hxe, _⟩ => ?_
  subst hxe
  have hv := hx.bool_inv
  subst he hv
  have hst := trod_stays laidOut bel (by kernel_rfl) hA
  obtain ⟨v0, vs0, d0, ds0, p0, q0, hargs, rfl, rfl, h0, r0⟩ := trodAll_cons hA
  obtain ⟨rfl, rfl, rfl⟩ := trodAll_nil r0
  exact ⟨_, rfl, _, _, _, [], _, [], hW', trodAll_mk1 (shut_bool uBool _), hst, rfl, bel.frame _, fun h => by cases h⟩
set_option maxRecDepth 100000 in
theorem lifted (os : Os) (started : os.Started) (H : Type) (enc : TypeId × Value → H) (F : Stop.Interp) :
    ReturnsInHanded {} Try.checked os 4 .any ((Rows.OpenSpec.upto Rows.pageTypesSpec).pre6 enc Try.prog Try.f4 Rows.pageTypesUptoRow.domain false) (((Rows.OpenSpec.upto Rows.pageTypesSpec).at F).post enc Try.prog Try.f4 false true false false) := by
  refine returnsInHanded_of_cond (C := Try.checked) (s := Rows.OpenSpec.upto Rows.pageTypesSpec) (k := Rows.uptoSmall) rfl own started (by kernel_rfl) Try.func4
    (OpenSpec.witness (enc := enc) (C := Try.checked) (s := Rows.OpenSpec.upto Rows.pageTypesSpec) (k := Rows.uptoSmall) rfl false ⟨#[], #[(.agg #[(.int .i64 0), (.string ⟨#[]⟩), (.slice none 0 0)])], []⟩ 8 (by kernel_rfl) (by kernel_rfl) (by kernel_rfl)
      (x := ([(.agg [(.lit (.int .i64 0)), (.lit (.string [])), .nil])], [], [])) (by kernel_rfl) rfl (by kernel_rfl)) ?_
  intro W base args ds gs before hval hW _ hk _
  exact contract H enc W base args ds gs before hval hW hk
set_option maxHeartbeats 4000000 in
theorem joined : joinedFacts Try.pinned.checked.prog 4 Try.f4 (Rows.OpenSpec.upto Rows.pageTypesSpec).bare Rows.pageTypesUptoRow = true := by
  unfold joinedFacts
  simp only [Bool.and_eq_true]
  repeat' apply And.intro
  all_goals (as_aux_lemma => kernel_rfl)
theorem over : Rows.pageTypesUptoRow.holds Try.pinned (Rows.OpenSpec.upto Rows.pageTypesSpec) :=
  OpenClaim.holds_of_cond 4 Try.f4 rfl rfl rfl rfl rfl rfl rfl ⟨rfl, rfl, rfl, rfl, rfl⟩ rfl rfl rfl rfl rfl (by kernel_rfl) Try.func4 joined
    (of_decide_eq_true (by kernel_rfl)) (by unfold Func.isWrapper; first | (rw [if_pos (by decide +kernel)]; kernel_rfl) | (rw [if_neg (by decide +kernel)]; exact ⟨rfl, rfl⟩))
    (fun os started H enc _ F => lifted os started H enc F)
theorem proved : Rows.PageTypesUptoSaid := over
#print axioms proved
end Go.Proofs.Ytacecjfpkdijpaa.pageTypes
