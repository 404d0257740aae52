/- Part 4 of a proof laid in parts; each part's own comment says what it proves and under which conditions. -/
import Derived.Test.YtacecjfpkdijpaaKq3
import Derived.Test.YtacecjfpkdijpaaProg
import Derived.Shelf.Sort.Plain
import Derived.Shelf.Slices.In.SortNone2
import Derived.Ground.NamesProg
import Derived.Shelf.SlGeneric
import Derived.Test.YtacecjfpkdijpaaChecked
import Derived.Test.YtacecjfpkdijpaaRows
import Derived.WalkKit
import Derived.ProofKit
import Derived.OpenShut
import Derived.JoinedCond
/- Closed facts about the program's types, each evaluated by the kernel; no conditions. -/
namespace Go.Proofs.Ytacecjfpkdijpaa
open Go.Proofs.YtacecjfpkdijpaaV
theorem mixed : Try.prog.follows .mixedOrders = true := by kernel_rfl
@[go_sem] theorem ty_ag105 : tagg Try.prog 105 = some false := by kernel_rfl
@[go_sem] theorem ty_ag106 : tagg Try.prog 106 = some false := by kernel_rfl
@[go_sem] theorem ty_ag108 : tagg Try.prog 108 = some true := by kernel_rfl
@[go_sem] theorem ty_ag112 : tagg Try.prog 112 = some true := by kernel_rfl
@[go_sem] theorem ty_ag124 : tagg Try.prog 124 = some true := by kernel_rfl
@[go_sem] theorem ty_ag125 : tagg Try.prog 125 = some false := by kernel_rfl
@[go_sem] theorem ty_ag127 : tagg Try.prog 127 = some true := by kernel_rfl
@[go_sem] theorem ty_ag131 : tagg Try.prog 131 = some false := by kernel_rfl
@[go_sem] theorem ty_ag133 : tagg Try.prog 133 = some true := by kernel_rfl
@[go_sem] theorem ty_ag137 : tagg Try.prog 137 = some true := by kernel_rfl
@[go_sem] theorem ty_ag138 : tagg Try.prog 138 = some false := by kernel_rfl
@[go_sem] theorem ty_ag140 : tagg Try.prog 140 = some true := by kernel_rfl
@[go_sem] theorem ty_ag145 : tagg Try.prog 145 = some false := by kernel_rfl
@[go_sem] theorem ty_ag147 : tagg Try.prog 147 = some true := by kernel_rfl
@[go_sem] theorem ty_ag151 : tagg Try.prog 151 = some true := by kernel_rfl
@[go_sem] theorem ty_ag156 : tagg Try.prog 156 = some false := by kernel_rfl
@[go_sem] theorem ty_ag158 : tagg Try.prog 158 = some true := by kernel_rfl
@[go_sem] theorem ty_ag167 : tagg Try.prog 167 = some true := by kernel_rfl
@[go_sem] theorem ty_ag170 : tagg Try.prog 170 = some false := by kernel_rfl
@[go_sem] theorem ty_ag175 : tagg Try.prog 175 = some true := by kernel_rfl
@[go_sem] theorem ty_ag178 : tagg Try.prog 178 = some true := by kernel_rfl
@[go_sem] theorem ty_ag180 : tagg Try.prog 180 = some false := by kernel_rfl
@[go_sem] theorem ty_ag189 : tagg Try.prog 189 = some true := by kernel_rfl
@[go_sem] theorem ty_ag199 : tagg Try.prog 199 = some false := by kernel_rfl
@[go_sem] theorem ty_ag206 : tagg Try.prog 206 = some false := by kernel_rfl
@[go_sem] theorem ty_ag207 : tagg Try.prog 207 = some false := by kernel_rfl
@[go_sem] theorem ty_ag212 : tagg Try.prog 212 = some false := by kernel_rfl
@[go_sem] theorem ty_ag214 : tagg Try.prog 214 = some true := by kernel_rfl
@[go_sem] theorem ty_ag216 : tagg Try.prog 216 = some true := by kernel_rfl
@[go_sem] theorem ty_ag218 : tagg Try.prog 218 = some true := by kernel_rfl
@[go_sem] theorem ty_ag22 : tagg Try.prog 22 = some false := by kernel_rfl
@[go_sem] theorem ty_ag220 : tagg Try.prog 220 = some true := by kernel_rfl
@[go_sem] theorem ty_ag227 : tagg Try.prog 227 = some false := by kernel_rfl
@[go_sem] theorem ty_ag229 : tagg Try.prog 229 = some true := by kernel_rfl
@[go_sem] theorem ty_ag231 : tagg Try.prog 231 = some true := by kernel_rfl
@[go_sem] theorem ty_ag24 : tagg Try.prog 24 = some false := by kernel_rfl
@[go_sem] theorem ty_ag242 : tagg Try.prog 242 = some false := by kernel_rfl
@[go_sem] theorem ty_ag245 : tagg Try.prog 245 = some true := by kernel_rfl
@[go_sem] theorem ty_ag247 : tagg Try.prog 247 = some false := by kernel_rfl
@[go_sem] theorem ty_ag248 : tagg Try.prog 248 = some false := by kernel_rfl
@[go_sem] theorem ty_ag249 : tagg Try.prog 249 = some false := by kernel_rfl
@[go_sem] theorem ty_ag252 : tagg Try.prog 252 = some false := by kernel_rfl
@[go_sem] theorem ty_ag253 : tagg Try.prog 253 = some false := by kernel_rfl
@[go_sem] theorem ty_ag254 : tagg Try.prog 254 = some false := by kernel_rfl
@[go_sem] theorem ty_ag256 : tagg Try.prog 256 = some true := by kernel_rfl
@[go_sem] theorem ty_ag259 : tagg Try.prog 259 = some false := by kernel_rfl
@[go_sem] theorem ty_ag260 : tagg Try.prog 260 = some false := by kernel_rfl
@[go_sem] theorem ty_ag265 : tagg Try.prog 265 = some false := by kernel_rfl
@[go_sem] theorem ty_ag266 : tagg Try.prog 266 = some false := by kernel_rfl
@[go_sem] theorem ty_ag267 : tagg Try.prog 267 = some false := by kernel_rfl
@[go_sem] theorem ty_ag268 : tagg Try.prog 268 = some false := by kernel_rfl
@[go_sem] theorem ty_ag269 : tagg Try.prog 269 = some false := by kernel_rfl
@[go_sem] theorem ty_ag270 : tagg Try.prog 270 = some false := by kernel_rfl
@[go_sem] theorem ty_ag271 : tagg Try.prog 271 = some false := by kernel_rfl
@[go_sem] theorem ty_ag273 : tagg Try.prog 273 = some true := by kernel_rfl
@[go_sem] theorem ty_ag275 : tagg Try.prog 275 = some true := by kernel_rfl
@[go_sem] theorem ty_ag276 : tagg Try.prog 276 = some false := by kernel_rfl
@[go_sem] theorem ty_ag277 : tagg Try.prog 277 = some false := by kernel_rfl
@[go_sem] theorem ty_ag279 : tagg Try.prog 279 = some false := by kernel_rfl
@[go_sem] theorem ty_ag282 : tagg Try.prog 282 = some false := by kernel_rfl
@[go_sem] theorem ty_ag283 : tagg Try.prog 283 = some false := by kernel_rfl
@[go_sem] theorem ty_ag284 : tagg Try.prog 284 = some false := by kernel_rfl
@[go_sem] theorem ty_ag289 : tagg Try.prog 289 = some false := by kernel_rfl
@[go_sem] theorem ty_ag293 : tagg Try.prog 293 = some false := by kernel_rfl
@[go_sem] theorem ty_ag295 : tagg Try.prog 295 = some true := by kernel_rfl
@[go_sem] theorem ty_ag3 : tagg Try.prog 3 = some false := by kernel_rfl
@[go_sem] theorem ty_ag300 : tagg Try.prog 300 = some true := by kernel_rfl
@[go_sem] theorem ty_ag307 : tagg Try.prog 307 = some false := by kernel_rfl
@[go_sem] theorem ty_ag311 : tagg Try.prog 311 = some true := by kernel_rfl
@[go_sem] theorem ty_ag32 : tagg Try.prog 32 = some false := by kernel_rfl
@[go_sem] theorem ty_ag322 : tagg Try.prog 322 = some false := by kernel_rfl
@[go_sem] theorem ty_ag34 : tagg Try.prog 34 = some true := by kernel_rfl
@[go_sem] theorem ty_ag347 : tagg Try.prog 347 = some true := by kernel_rfl
@[go_sem] theorem ty_ag349 : tagg Try.prog 349 = some true := by kernel_rfl
@[go_sem] theorem ty_ag361 : tagg Try.prog 361 = some true := by kernel_rfl
@[go_sem] theorem ty_ag368 : tagg Try.prog 368 = some true := by kernel_rfl
@[go_sem] theorem ty_ag379 : tagg Try.prog 379 = some false := by kernel_rfl
@[go_sem] theorem ty_ag38 : tagg Try.prog 38 = some false := by kernel_rfl
@[go_sem] theorem ty_ag396 : tagg Try.prog 396 = some false := by kernel_rfl
@[go_sem] theorem ty_ag4 : tagg Try.prog 4 = some false := by kernel_rfl
@[go_sem] theorem ty_ag426 : tagg Try.prog 426 = some false := by kernel_rfl
@[go_sem] theorem ty_ag43 : tagg Try.prog 43 = some false := by kernel_rfl
@[go_sem] theorem ty_ag45 : tagg Try.prog 45 = some true := by kernel_rfl
@[go_sem] theorem ty_ag5 : tagg Try.prog 5 = some false := by kernel_rfl
@[go_sem] theorem ty_ag50 : tagg Try.prog 50 = some false := by kernel_rfl
@[go_sem] theorem ty_ag51 : tagg Try.prog 51 = some false := by kernel_rfl
@[go_sem] theorem ty_ag52 : tagg Try.prog 52 = some false := by kernel_rfl
@[go_sem] theorem ty_ag53 : tagg Try.prog 53 = some false := by kernel_rfl
@[go_sem] theorem ty_ag54 : tagg Try.prog 54 = some false := by kernel_rfl
@[go_sem] theorem ty_ag56 : tagg Try.prog 56 = some true := by kernel_rfl
@[go_sem] theorem ty_ag59 : tagg Try.prog 59 = some false := by kernel_rfl
@[go_sem] theorem ty_ag60 : tagg Try.prog 60 = some false := by kernel_rfl
@[go_sem] theorem ty_ag61 : tagg Try.prog 61 = some false := by kernel_rfl
@[go_sem] theorem ty_ag63 : tagg Try.prog 63 = some true := by kernel_rfl
@[go_sem] theorem ty_ag65 : tagg Try.prog 65 = some true := by kernel_rfl
@[go_sem] theorem ty_ag73 : tagg Try.prog 73 = some false := by kernel_rfl
@[go_sem] theorem ty_ag74 : tagg Try.prog 74 = some false := by kernel_rfl
@[go_sem] theorem ty_ag75 : tagg Try.prog 75 = some false := by kernel_rfl
@[go_sem] theorem ty_ag76 : tagg Try.prog 76 = some false := by kernel_rfl
@[go_sem] theorem ty_ag77 : tagg Try.prog 77 = some false := by kernel_rfl
@[go_sem] theorem ty_ag79 : tagg Try.prog 79 = some true := by kernel_rfl
@[go_sem] theorem ty_ag84 : tagg Try.prog 84 = some false := by kernel_rfl
@[go_sem] theorem ty_ag86 : tagg Try.prog 86 = some true := by kernel_rfl
@[go_sem] theorem ty_ag87 : tagg Try.prog 87 = some true := by kernel_rfl
@[go_sem] theorem ty_ag9 : tagg Try.prog 9 = some false := by kernel_rfl
@[go_sem] theorem ty_ag94 : tagg Try.prog 94 = some true := by kernel_rfl
@[go_sem] theorem ty_ag98 : tagg Try.prog 98 = some true := by kernel_rfl
@[go_sem] theorem ty_ar327 : tarray Try.prog 327 = some (2, 170, 1) := by kernel_rfl
@[go_sem] theorem ty_ar340 : tarray Try.prog 340 = some (2, 180, 1) := by kernel_rfl
@[go_sem] theorem ty_ar87 : tarray Try.prog 87 = some (2, 3, 1) := by kernel_rfl
@[go_sem] theorem ty_by108 : tbytes Try.prog 108 = some 56 := by kernel_rfl
@[go_sem] theorem ty_by112 : tbytes Try.prog 112 = some 56 := by kernel_rfl
@[go_sem] theorem ty_by124 : tbytes Try.prog 124 = some 80 := by kernel_rfl
@[go_sem] theorem ty_by138 : tbytes Try.prog 138 = some 24 := by kernel_rfl
@[go_sem] theorem ty_by140 : tbytes Try.prog 140 = some 16 := by kernel_rfl
@[go_sem] theorem ty_by178 : tbytes Try.prog 178 = some 32 := by kernel_rfl
@[go_sem] theorem ty_by189 : tbytes Try.prog 189 = some 16 := by kernel_rfl
@[go_sem] theorem ty_by22 : tbytes Try.prog 22 = some 24 := by kernel_rfl
@[go_sem] theorem ty_by24 : tbytes Try.prog 24 = some 8 := by kernel_rfl
@[go_sem] theorem ty_by245 : tbytes Try.prog 245 = some 32 := by kernel_rfl
@[go_sem] theorem ty_by256 : tbytes Try.prog 256 = some 96 := by kernel_rfl
@[go_sem] theorem ty_by258 : tbytes Try.prog 258 = some 16 := by kernel_rfl
@[go_sem] theorem ty_by259 : tbytes Try.prog 259 = some 8 := by kernel_rfl
@[go_sem] theorem ty_by260 : tbytes Try.prog 260 = some 8 := by kernel_rfl
@[go_sem] theorem ty_by270 : tbytes Try.prog 270 = some 8 := by kernel_rfl
@[go_sem] theorem ty_by271 : tbytes Try.prog 271 = some 24 := by kernel_rfl
@[go_sem] theorem ty_by273 : tbytes Try.prog 273 = some 16 := by kernel_rfl
@[go_sem] theorem ty_by275 : tbytes Try.prog 275 = some 56 := by kernel_rfl
@[go_sem] theorem ty_by276 : tbytes Try.prog 276 = some 24 := by kernel_rfl
@[go_sem] theorem ty_by295 : tbytes Try.prog 295 = some 72 := by kernel_rfl
@[go_sem] theorem ty_by3 : tbytes Try.prog 3 = some 8 := by kernel_rfl
@[go_sem] theorem ty_by300 : tbytes Try.prog 300 = some 64 := by kernel_rfl
@[go_sem] theorem ty_by311 : tbytes Try.prog 311 = some 16 := by kernel_rfl
@[go_sem] theorem ty_by361 : tbytes Try.prog 361 = some 64 := by kernel_rfl
@[go_sem] theorem ty_by368 : tbytes Try.prog 368 = some 16 := by kernel_rfl
@[go_sem] theorem ty_by379 : tbytes Try.prog 379 = some 8 := by kernel_rfl
@[go_sem] theorem ty_by38 : tbytes Try.prog 38 = some 24 := by kernel_rfl
@[go_sem] theorem ty_by4 : tbytes Try.prog 4 = some 1 := by kernel_rfl
@[go_sem] theorem ty_by45 : tbytes Try.prog 45 = some 48 := by kernel_rfl
@[go_sem] theorem ty_by5 : tbytes Try.prog 5 = some 1 := by kernel_rfl
@[go_sem] theorem ty_by63 : tbytes Try.prog 63 = some 136 := by kernel_rfl
@[go_sem] theorem ty_by87 : tbytes Try.prog 87 = some 16 := by kernel_rfl
@[go_sem] theorem ty_by9 : tbytes Try.prog 9 = some 16 := by kernel_rfl
@[go_sem] theorem ty_by94 : tbytes Try.prog 94 = some 24 := by kernel_rfl
@[go_sem] theorem ty_fi108_0 : tfield Try.prog 108 0 = some (0, 3, 1) := by kernel_rfl
@[go_sem] theorem ty_fi108_1 : tfield Try.prog 108 1 = some (1, 3, 1) := by kernel_rfl
@[go_sem] theorem ty_fi108_2 : tfield Try.prog 108 2 = some (2, 9, 1) := by kernel_rfl
@[go_sem] theorem ty_fi108_3 : tfield Try.prog 108 3 = some (3, 106, 1) := by kernel_rfl
@[go_sem] theorem ty_fi112_0 : tfield Try.prog 112 0 = some (0, 3, 1) := by kernel_rfl
@[go_sem] theorem ty_fi112_1 : tfield Try.prog 112 1 = some (1, 3, 1) := by kernel_rfl
@[go_sem] theorem ty_fi112_2 : tfield Try.prog 112 2 = some (2, 9, 1) := by kernel_rfl
@[go_sem] theorem ty_fi112_3 : tfield Try.prog 112 3 = some (3, 105, 1) := by kernel_rfl
@[go_sem] theorem ty_fi124_0 : tfield Try.prog 124 0 = some (0, 22, 1) := by kernel_rfl
@[go_sem] theorem ty_fi124_1 : tfield Try.prog 124 1 = some (1, 112, 4) := by kernel_rfl
@[go_sem] theorem ty_fi127_0 : tfield Try.prog 127 0 = some (0, 4, 1) := by kernel_rfl
@[go_sem] theorem ty_fi127_1 : tfield Try.prog 127 1 = some (1, 3, 1) := by kernel_rfl
@[go_sem] theorem ty_fi127_2 : tfield Try.prog 127 2 = some (2, 124, 5) := by kernel_rfl
@[go_sem] theorem ty_fi127_3 : tfield Try.prog 127 3 = some (7, 125, 1) := by kernel_rfl
@[go_sem] theorem ty_fi127_4 : tfield Try.prog 127 4 = some (8, 125, 1) := by kernel_rfl
@[go_sem] theorem ty_fi133_0 : tfield Try.prog 133 0 = some (0, 131, 1) := by kernel_rfl
@[go_sem] theorem ty_fi133_1 : tfield Try.prog 133 1 = some (1, 22, 1) := by kernel_rfl
@[go_sem] theorem ty_fi133_2 : tfield Try.prog 133 2 = some (2, 3, 1) := by kernel_rfl
@[go_sem] theorem ty_fi133_3 : tfield Try.prog 133 3 = some (3, 3, 1) := by kernel_rfl
@[go_sem] theorem ty_fi137_0 : tfield Try.prog 137 0 = some (0, 3, 1) := by kernel_rfl
@[go_sem] theorem ty_fi137_1 : tfield Try.prog 137 1 = some (1, 3, 1) := by kernel_rfl
@[go_sem] theorem ty_fi137_2 : tfield Try.prog 137 2 = some (2, 3, 1) := by kernel_rfl
@[go_sem] theorem ty_fi137_3 : tfield Try.prog 137 3 = some (3, 3, 1) := by kernel_rfl
@[go_sem] theorem ty_fi137_4 : tfield Try.prog 137 4 = some (4, 3, 1) := by kernel_rfl
@[go_sem] theorem ty_fi140_1 : tfield Try.prog 140 1 = some (1, 3, 1) := by kernel_rfl
@[go_sem] theorem ty_fi147_0 : tfield Try.prog 147 0 = some (0, 4, 1) := by kernel_rfl
@[go_sem] theorem ty_fi147_1 : tfield Try.prog 147 1 = some (1, 22, 1) := by kernel_rfl
@[go_sem] theorem ty_fi147_2 : tfield Try.prog 147 2 = some (2, 145, 1) := by kernel_rfl
@[go_sem] theorem ty_fi147_3 : tfield Try.prog 147 3 = some (3, 22, 1) := by kernel_rfl
@[go_sem] theorem ty_fi147_4 : tfield Try.prog 147 4 = some (4, 3, 1) := by kernel_rfl
@[go_sem] theorem ty_fi151_0 : tfield Try.prog 151 0 = some (0, 3, 1) := by kernel_rfl
@[go_sem] theorem ty_fi151_1 : tfield Try.prog 151 1 = some (1, 3, 1) := by kernel_rfl
@[go_sem] theorem ty_fi151_2 : tfield Try.prog 151 2 = some (2, 3, 1) := by kernel_rfl
@[go_sem] theorem ty_fi151_3 : tfield Try.prog 151 3 = some (3, 3, 1) := by kernel_rfl
@[go_sem] theorem ty_fi158_0 : tfield Try.prog 158 0 = some (0, 156, 1) := by kernel_rfl
@[go_sem] theorem ty_fi167_0 : tfield Try.prog 167 0 = some (0, 3, 1) := by kernel_rfl
@[go_sem] theorem ty_fi167_1 : tfield Try.prog 167 1 = some (1, 3, 1) := by kernel_rfl
@[go_sem] theorem ty_fi167_2 : tfield Try.prog 167 2 = some (2, 9, 1) := by kernel_rfl
@[go_sem] theorem ty_fi175_0 : tfield Try.prog 175 0 = some (0, 9, 1) := by kernel_rfl
@[go_sem] theorem ty_fi175_1 : tfield Try.prog 175 1 = some (1, 3, 1) := by kernel_rfl
@[go_sem] theorem ty_fi178_1 : tfield Try.prog 178 1 = some (1, 3, 1) := by kernel_rfl
@[go_sem] theorem ty_fi178_2 : tfield Try.prog 178 2 = some (2, 3, 1) := by kernel_rfl
@[go_sem] theorem ty_fi189_0 : tfield Try.prog 189 0 = some (0, 3, 1) := by kernel_rfl
@[go_sem] theorem ty_fi189_1 : tfield Try.prog 189 1 = some (1, 3, 1) := by kernel_rfl
@[go_sem] theorem ty_fi201_0 : tfield Try.prog 201 0 = some (0, 22, 1) := by kernel_rfl
@[go_sem] theorem ty_fi201_1 : tfield Try.prog 201 1 = some (1, 4, 1) := by kernel_rfl
@[go_sem] theorem ty_fi201_2 : tfield Try.prog 201 2 = some (2, 3, 1) := by kernel_rfl
@[go_sem] theorem ty_fi201_3 : tfield Try.prog 201 3 = some (3, 38, 1) := by kernel_rfl
@[go_sem] theorem ty_fi201_4 : tfield Try.prog 201 4 = some (4, 199, 1) := by kernel_rfl
@[go_sem] theorem ty_fi209_0 : tfield Try.prog 209 0 = some (0, 56, 8) := by kernel_rfl
@[go_sem] theorem ty_fi209_1 : tfield Try.prog 209 1 = some (8, 56, 8) := by kernel_rfl
@[go_sem] theorem ty_fi209_2 : tfield Try.prog 209 2 = some (16, 206, 1) := by kernel_rfl
@[go_sem] theorem ty_fi214_0 : tfield Try.prog 214 0 = some (0, 9, 1) := by kernel_rfl
@[go_sem] theorem ty_fi214_1 : tfield Try.prog 214 1 = some (1, 59, 1) := by kernel_rfl
@[go_sem] theorem ty_fi214_2 : tfield Try.prog 214 2 = some (2, 212, 1) := by kernel_rfl
@[go_sem] theorem ty_fi216_0 : tfield Try.prog 216 0 = some (0, 9, 1) := by kernel_rfl
@[go_sem] theorem ty_fi216_1 : tfield Try.prog 216 1 = some (1, 43, 1) := by kernel_rfl
@[go_sem] theorem ty_fi218_1 : tfield Try.prog 218 1 = some (1, 53, 1) := by kernel_rfl
@[go_sem] theorem ty_fi220_2 : tfield Try.prog 220 2 = some (2, 53, 1) := by kernel_rfl
@[go_sem] theorem ty_fi229_3 : tfield Try.prog 229 3 = some (3, 3, 1) := by kernel_rfl
@[go_sem] theorem ty_fi229_4 : tfield Try.prog 229 4 = some (4, 227, 1) := by kernel_rfl
@[go_sem] theorem ty_fi231_4 : tfield Try.prog 231 4 = some (4, 22, 1) := by kernel_rfl
@[go_sem] theorem ty_fi233_0 : tfield Try.prog 233 0 = some (0, 79, 7) := by kernel_rfl
@[go_sem] theorem ty_fi233_1 : tfield Try.prog 233 1 = some (7, 84, 1) := by kernel_rfl
@[go_sem] theorem ty_fi233_2 : tfield Try.prog 233 2 = some (8, 3, 1) := by kernel_rfl
@[go_sem] theorem ty_fi233_3 : tfield Try.prog 233 3 = some (9, 3, 1) := by kernel_rfl
@[go_sem] theorem ty_fi245_0 : tfield Try.prog 245 0 = some (0, 3, 1) := by kernel_rfl
@[go_sem] theorem ty_fi245_1 : tfield Try.prog 245 1 = some (1, 242, 1) := by kernel_rfl
@[go_sem] theorem ty_fi251_0 : tfield Try.prog 251 0 = some (0, 248, 1) := by kernel_rfl
@[go_sem] theorem ty_fi251_1 : tfield Try.prog 251 1 = some (1, 249, 1) := by kernel_rfl
@[go_sem] theorem ty_fi256_0 : tfield Try.prog 256 0 = some (0, 252, 1) := by kernel_rfl
@[go_sem] theorem ty_fi256_1 : tfield Try.prog 256 1 = some (1, 253, 1) := by kernel_rfl
@[go_sem] theorem ty_fi256_2 : tfield Try.prog 256 2 = some (2, 22, 1) := by kernel_rfl
@[go_sem] theorem ty_fi256_3 : tfield Try.prog 256 3 = some (3, 254, 1) := by kernel_rfl
@[go_sem] theorem ty_fi258_0 : tfield Try.prog 258 0 = some (0, 3, 1) := by kernel_rfl
@[go_sem] theorem ty_fi258_1 : tfield Try.prog 258 1 = some (1, 3, 1) := by kernel_rfl
@[go_sem] theorem ty_fi262_0 : tfield Try.prog 262 0 = some (0, 138, 1) := by kernel_rfl
@[go_sem] theorem ty_fi262_1 : tfield Try.prog 262 1 = some (1, 22, 1) := by kernel_rfl
@[go_sem] theorem ty_fi262_2 : tfield Try.prog 262 2 = some (2, 260, 1) := by kernel_rfl
@[go_sem] theorem ty_fi273_0 : tfield Try.prog 273 0 = some (0, 3, 1) := by kernel_rfl
@[go_sem] theorem ty_fi273_1 : tfield Try.prog 273 1 = some (1, 3, 1) := by kernel_rfl
@[go_sem] theorem ty_fi275_0 : tfield Try.prog 275 0 = some (0, 3, 1) := by kernel_rfl
@[go_sem] theorem ty_fi275_1 : tfield Try.prog 275 1 = some (1, 3, 1) := by kernel_rfl
@[go_sem] theorem ty_fi275_2 : tfield Try.prog 275 2 = some (2, 3, 1) := by kernel_rfl
@[go_sem] theorem ty_fi275_3 : tfield Try.prog 275 3 = some (3, 3, 1) := by kernel_rfl
@[go_sem] theorem ty_fi275_4 : tfield Try.prog 275 4 = some (4, 3, 1) := by kernel_rfl
@[go_sem] theorem ty_fi275_5 : tfield Try.prog 275 5 = some (5, 3, 1) := by kernel_rfl
@[go_sem] theorem ty_fi275_6 : tfield Try.prog 275 6 = some (6, 3, 1) := by kernel_rfl
@[go_sem] theorem ty_fi286_0 : tfield Try.prog 286 0 = some (0, 22, 1) := by kernel_rfl
@[go_sem] theorem ty_fi286_1 : tfield Try.prog 286 1 = some (1, 283, 1) := by kernel_rfl
@[go_sem] theorem ty_fi286_2 : tfield Try.prog 286 2 = some (2, 284, 1) := by kernel_rfl
@[go_sem] theorem ty_fi292_0 : tfield Try.prog 292 0 = some (0, 22, 1) := by kernel_rfl
@[go_sem] theorem ty_fi292_1 : tfield Try.prog 292 1 = some (1, 3, 1) := by kernel_rfl
@[go_sem] theorem ty_fi292_2 : tfield Try.prog 292 2 = some (2, 3, 1) := by kernel_rfl
@[go_sem] theorem ty_fi292_3 : tfield Try.prog 292 3 = some (3, 4, 1) := by kernel_rfl
@[go_sem] theorem ty_fi292_4 : tfield Try.prog 292 4 = some (4, 3, 1) := by kernel_rfl
@[go_sem] theorem ty_fi295_0 : tfield Try.prog 295 0 = some (0, 9, 1) := by kernel_rfl
@[go_sem] theorem ty_fi295_1 : tfield Try.prog 295 1 = some (1, 3, 1) := by kernel_rfl
@[go_sem] theorem ty_fi295_2 : tfield Try.prog 295 2 = some (2, 293, 1) := by kernel_rfl
@[go_sem] theorem ty_fi295_3 : tfield Try.prog 295 3 = some (3, 22, 1) := by kernel_rfl
@[go_sem] theorem ty_fi300_0 : tfield Try.prog 300 0 = some (0, 3, 1) := by kernel_rfl
@[go_sem] theorem ty_fi300_1 : tfield Try.prog 300 1 = some (1, 108, 4) := by kernel_rfl
@[go_sem] theorem ty_fi309_0 : tfield Try.prog 309 0 = some (0, 307, 1) := by kernel_rfl
@[go_sem] theorem ty_fi309_1 : tfield Try.prog 309 1 = some (1, 32, 1) := by kernel_rfl
@[go_sem] theorem ty_fi311_0 : tfield Try.prog 311 0 = some (0, 3, 1) := by kernel_rfl
@[go_sem] theorem ty_fi311_1 : tfield Try.prog 311 1 = some (1, 4, 1) := by kernel_rfl
@[go_sem] theorem ty_fi34_0 : tfield Try.prog 34 0 = some (0, 3, 1) := by kernel_rfl
@[go_sem] theorem ty_fi34_1 : tfield Try.prog 34 1 = some (1, 3, 1) := by kernel_rfl
@[go_sem] theorem ty_fi34_2 : tfield Try.prog 34 2 = some (2, 32, 1) := by kernel_rfl
@[go_sem] theorem ty_fi347_3 : tfield Try.prog 347 3 = some (3, 43, 1) := by kernel_rfl
@[go_sem] theorem ty_fi347_4 : tfield Try.prog 347 4 = some (4, 45, 3) := by kernel_rfl
@[go_sem] theorem ty_fi347_5 : tfield Try.prog 347 5 = some (7, 63, 8) := by kernel_rfl
@[go_sem] theorem ty_fi349_0 : tfield Try.prog 349 0 = some (0, 112, 4) := by kernel_rfl
@[go_sem] theorem ty_fi349_1 : tfield Try.prog 349 1 = some (4, 63, 8) := by kernel_rfl
@[go_sem] theorem ty_fi361_0 : tfield Try.prog 361 0 = some (0, 3, 1) := by kernel_rfl
@[go_sem] theorem ty_fi361_1 : tfield Try.prog 361 1 = some (1, 3, 1) := by kernel_rfl
@[go_sem] theorem ty_fi361_2 : tfield Try.prog 361 2 = some (2, 3, 1) := by kernel_rfl
@[go_sem] theorem ty_fi361_3 : tfield Try.prog 361 3 = some (3, 3, 1) := by kernel_rfl
@[go_sem] theorem ty_fi361_4 : tfield Try.prog 361 4 = some (4, 3, 1) := by kernel_rfl
@[go_sem] theorem ty_fi361_5 : tfield Try.prog 361 5 = some (5, 3, 1) := by kernel_rfl
@[go_sem] theorem ty_fi361_6 : tfield Try.prog 361 6 = some (6, 3, 1) := by kernel_rfl
@[go_sem] theorem ty_fi361_7 : tfield Try.prog 361 7 = some (7, 259, 1) := by kernel_rfl
@[go_sem] theorem ty_fi368_0 : tfield Try.prog 368 0 = some (0, 3, 1) := by kernel_rfl
@[go_sem] theorem ty_fi368_1 : tfield Try.prog 368 1 = some (1, 4, 1) := by kernel_rfl
@[go_sem] theorem ty_fi381_0 : tfield Try.prog 381 0 = some (0, 167, 3) := by kernel_rfl
@[go_sem] theorem ty_fi381_1 : tfield Try.prog 381 1 = some (3, 322, 1) := by kernel_rfl
@[go_sem] theorem ty_fi381_2 : tfield Try.prog 381 2 = some (4, 3, 1) := by kernel_rfl
@[go_sem] theorem ty_fi400_0 : tfield Try.prog 400 0 = some (0, 59, 1) := by kernel_rfl
@[go_sem] theorem ty_fi400_1 : tfield Try.prog 400 1 = some (1, 43, 1) := by kernel_rfl
@[go_sem] theorem ty_fi400_2 : tfield Try.prog 400 2 = some (2, 396, 1) := by kernel_rfl
@[go_sem] theorem ty_fi45_0 : tfield Try.prog 45 0 = some (0, 3, 1) := by kernel_rfl
@[go_sem] theorem ty_fi45_1 : tfield Try.prog 45 1 = some (1, 9, 1) := by kernel_rfl
@[go_sem] theorem ty_fi45_2 : tfield Try.prog 45 2 = some (2, 43, 1) := by kernel_rfl
@[go_sem] theorem ty_fi56_3 : tfield Try.prog 56 3 = some (3, 50, 1) := by kernel_rfl
@[go_sem] theorem ty_fi56_4 : tfield Try.prog 56 4 = some (4, 51, 1) := by kernel_rfl
@[go_sem] theorem ty_fi56_5 : tfield Try.prog 56 5 = some (5, 52, 1) := by kernel_rfl
@[go_sem] theorem ty_fi56_6 : tfield Try.prog 56 6 = some (6, 53, 1) := by kernel_rfl
@[go_sem] theorem ty_fi56_7 : tfield Try.prog 56 7 = some (7, 54, 1) := by kernel_rfl
@[go_sem] theorem ty_fi63_0 : tfield Try.prog 63 0 = some (0, 3, 1) := by kernel_rfl
@[go_sem] theorem ty_fi63_4 : tfield Try.prog 63 4 = some (4, 43, 1) := by kernel_rfl
@[go_sem] theorem ty_fi63_5 : tfield Try.prog 63 5 = some (5, 60, 1) := by kernel_rfl
@[go_sem] theorem ty_fi63_6 : tfield Try.prog 63 6 = some (6, 61, 1) := by kernel_rfl
@[go_sem] theorem ty_fi65_0 : tfield Try.prog 65 0 = some (0, 9, 1) := by kernel_rfl
@[go_sem] theorem ty_fi65_1 : tfield Try.prog 65 1 = some (1, 59, 1) := by kernel_rfl
@[go_sem] theorem ty_fi65_2 : tfield Try.prog 65 2 = some (2, 43, 1) := by kernel_rfl
@[go_sem] theorem ty_fi65_3 : tfield Try.prog 65 3 = some (3, 45, 3) := by kernel_rfl
@[go_sem] theorem ty_fi65_4 : tfield Try.prog 65 4 = some (6, 63, 8) := by kernel_rfl
@[go_sem] theorem ty_fi79_0 : tfield Try.prog 79 0 = some (0, 59, 1) := by kernel_rfl
@[go_sem] theorem ty_fi79_1 : tfield Try.prog 79 1 = some (1, 22, 1) := by kernel_rfl
@[go_sem] theorem ty_fi79_2 : tfield Try.prog 79 2 = some (2, 73, 1) := by kernel_rfl
@[go_sem] theorem ty_fi79_3 : tfield Try.prog 79 3 = some (3, 74, 1) := by kernel_rfl
@[go_sem] theorem ty_fi79_4 : tfield Try.prog 79 4 = some (4, 75, 1) := by kernel_rfl
@[go_sem] theorem ty_fi79_5 : tfield Try.prog 79 5 = some (5, 76, 1) := by kernel_rfl
@[go_sem] theorem ty_fi79_6 : tfield Try.prog 79 6 = some (6, 77, 1) := by kernel_rfl
@[go_sem] theorem ty_fi86_0 : tfield Try.prog 86 0 = some (0, 3, 1) := by kernel_rfl
@[go_sem] theorem ty_fi86_1 : tfield Try.prog 86 1 = some (1, 3, 1) := by kernel_rfl
@[go_sem] theorem ty_fi86_3 : tfield Try.prog 86 3 = some (3, 3, 1) := by kernel_rfl
@[go_sem] theorem ty_fi86_4 : tfield Try.prog 86 4 = some (4, 4, 1) := by kernel_rfl
@[go_sem] theorem ty_fi94_0 : tfield Try.prog 94 0 = some (0, 9, 1) := by kernel_rfl
@[go_sem] theorem ty_fi94_1 : tfield Try.prog 94 1 = some (1, 3, 1) := by kernel_rfl
@[go_sem] theorem ty_fi98_0 : tfield Try.prog 98 0 = some (0, 9, 1) := by kernel_rfl
@[go_sem] theorem ty_fi98_1 : tfield Try.prog 98 1 = some (1, 9, 1) := by kernel_rfl
@[go_sem] theorem ty_fi98_2 : tfield Try.prog 98 2 = some (2, 3, 1) := by kernel_rfl
@[go_sem] theorem ty_fs140 : flatS Try.prog 140 = some [(0, 3), (1, 3)] := by kernel_rfl
@[go_sem] theorem ty_fs178 : flatS Try.prog 178 = some [(0, 9), (1, 3), (2, 3)] := by kernel_rfl
@[go_sem] theorem ty_fs87 : flatS Try.prog 87 = some [(0, 3), (1, 3)] := by kernel_rfl
@[go_sem] theorem ty_fs94 : flatS Try.prog 94 = some [(0, 9), (1, 3)] := by kernel_rfl
@[go_sem] theorem ty_in3 : intKindOf Try.prog 3 = some .i64 := by kernel_rfl
@[go_sem] theorem ty_in403 : intKindOf Try.prog 403 = some .u32 := by kernel_rfl
@[go_sem] theorem ty_in406 : intKindOf Try.prog 406 = some .u64 := by kernel_rfl
@[go_sem] theorem ty_in426 : intKindOf Try.prog 426 = some .u64 := by kernel_rfl
@[go_sem] theorem ty_in5 : intKindOf Try.prog 5 = some .u8 := by kernel_rfl
@[go_sem] theorem ty_in88 : intKindOf Try.prog 88 = some .u64 := by kernel_rfl
@[go_sem] theorem ty_ki105 : kindIs Try.prog 105 isSliceT = true := by kernel_rfl
@[go_sem] theorem ty_ki106 : kindIs Try.prog 106 isSliceT = true := by kernel_rfl
@[go_sem] theorem ty_ki125 : kindIs Try.prog 125 isSliceT = true := by kernel_rfl
@[go_sem] theorem ty_ki130 : kindIs Try.prog 130 isSliceT = true := by kernel_rfl
@[go_sem] theorem ty_ki131 : kindIs Try.prog 131 isSliceT = true := by kernel_rfl
@[go_sem] theorem ty_ki138 : kindIs Try.prog 138 isSliceT = true := by kernel_rfl
@[go_sem] theorem ty_ki144 : kindIs Try.prog 144 isSliceT = true := by kernel_rfl
@[go_sem] theorem ty_ki145 : kindIs Try.prog 145 isSliceT = true := by kernel_rfl
@[go_sem] theorem ty_ki156 : kindIs Try.prog 156 isSliceT = true := by kernel_rfl
@[go_sem] theorem ty_ki163 : kindIs Try.prog 163 isSliceT = true := by kernel_rfl
@[go_sem] theorem ty_ki170 : kindIs Try.prog 170 isSliceT = true := by kernel_rfl
@[go_sem] theorem ty_ki171 : kindIs Try.prog 171 isSliceT = true := by kernel_rfl
@[go_sem] theorem ty_ki180 : kindIs Try.prog 180 isSliceT = true := by kernel_rfl
@[go_sem] theorem ty_ki183 : kindIs Try.prog 183 isSliceT = true := by kernel_rfl
@[go_sem] theorem ty_ki199 : kindIs Try.prog 199 isSliceT = true := by kernel_rfl
@[go_sem] theorem ty_ki206 : kindIs Try.prog 206 isMapT = true := by kernel_rfl
@[go_sem] theorem ty_ki212 : kindIs Try.prog 212 isSliceT = true := by kernel_rfl
@[go_sem] theorem ty_ki22 : kindIs Try.prog 22 isSliceT = true := by kernel_rfl
@[go_sem] theorem ty_ki227 : kindIs Try.prog 227 isSliceT = true := by kernel_rfl
@[go_sem] theorem ty_ki23 : kindIs Try.prog 23 isSliceT = true := by kernel_rfl
@[go_sem] theorem ty_ki24 : kindIs Try.prog 24 isPtrT = true := by kernel_rfl
@[go_sem] theorem ty_ki241 : kindIs Try.prog 241 isSliceT = true := by kernel_rfl
@[go_sem] theorem ty_ki242 : kindIs Try.prog 242 isSliceT = true := by kernel_rfl
@[go_sem] theorem ty_ki248 : kindIs Try.prog 248 isSliceT = true := by kernel_rfl
@[go_sem] theorem ty_ki249 : kindIs Try.prog 249 isMapT = true := by kernel_rfl
@[go_sem] theorem ty_ki252 : kindIs Try.prog 252 isSliceT = true := by kernel_rfl
@[go_sem] theorem ty_ki253 : kindIs Try.prog 253 isSliceT = true := by kernel_rfl
@[go_sem] theorem ty_ki254 : kindIs Try.prog 254 isSliceT = true := by kernel_rfl
@[go_sem] theorem ty_ki259 : kindIs Try.prog 259 isPtrT = true := by kernel_rfl
@[go_sem] theorem ty_ki260 : kindIs Try.prog 260 isMapT = true := by kernel_rfl
@[go_sem] theorem ty_ki266 : kindIs Try.prog 266 isSliceT = true := by kernel_rfl
@[go_sem] theorem ty_ki267 : kindIs Try.prog 267 isSliceT = true := by kernel_rfl
@[go_sem] theorem ty_ki268 : kindIs Try.prog 268 isSliceT = true := by kernel_rfl
@[go_sem] theorem ty_ki269 : kindIs Try.prog 269 isMapT = true := by kernel_rfl
@[go_sem] theorem ty_ki270 : kindIs Try.prog 270 isMapT = true := by kernel_rfl
@[go_sem] theorem ty_ki271 : kindIs Try.prog 271 isSliceT = true := by kernel_rfl
@[go_sem] theorem ty_ki276 : kindIs Try.prog 276 isSliceT = true := by kernel_rfl
@[go_sem] theorem ty_ki283 : kindIs Try.prog 283 isMapT = true := by kernel_rfl
@[go_sem] theorem ty_ki284 : kindIs Try.prog 284 isSliceT = true := by kernel_rfl
@[go_sem] theorem ty_ki289 : kindIs Try.prog 289 isMapT = true := by kernel_rfl
@[go_sem] theorem ty_ki293 : kindIs Try.prog 293 isSliceT = true := by kernel_rfl
@[go_sem] theorem ty_ki30 : kindIs Try.prog 30 isMapT = true := by kernel_rfl
@[go_sem] theorem ty_ki307 : kindIs Try.prog 307 isPtrT = true := by kernel_rfl
@[go_sem] theorem ty_ki31 : kindIs Try.prog 31 isMapT = true := by kernel_rfl
@[go_sem] theorem ty_ki312 : kindIs Try.prog 312 isSliceT = true := by kernel_rfl
@[go_sem] theorem ty_ki32 : kindIs Try.prog 32 isSliceT = true := by kernel_rfl
@[go_sem] theorem ty_ki322 : kindIs Try.prog 322 isSliceT = true := by kernel_rfl
@[go_sem] theorem ty_ki329 : kindIs Try.prog 329 isMapT = true := by kernel_rfl
@[go_sem] theorem ty_ki366 : kindIs Try.prog 366 isSliceT = true := by kernel_rfl
@[go_sem] theorem ty_ki38 : kindIs Try.prog 38 isSliceT = true := by kernel_rfl
@[go_sem] theorem ty_ki387 : kindIs Try.prog 387 isSliceT = true := by kernel_rfl
@[go_sem] theorem ty_ki396 : kindIs Try.prog 396 isPtrT = true := by kernel_rfl
@[go_sem] theorem ty_ki4 : kindIs Try.prog 4 isBoolT = true := by kernel_rfl
@[go_sem] theorem ty_ki43 : kindIs Try.prog 43 isSliceT = true := by kernel_rfl
@[go_sem] theorem ty_ki50 : kindIs Try.prog 50 isSliceT = true := by kernel_rfl
@[go_sem] theorem ty_ki51 : kindIs Try.prog 51 isSliceT = true := by kernel_rfl
@[go_sem] theorem ty_ki52 : kindIs Try.prog 52 isSliceT = true := by kernel_rfl
@[go_sem] theorem ty_ki53 : kindIs Try.prog 53 isSliceT = true := by kernel_rfl
@[go_sem] theorem ty_ki54 : kindIs Try.prog 54 isSliceT = true := by kernel_rfl
@[go_sem] theorem ty_ki59 : kindIs Try.prog 59 isSliceT = true := by kernel_rfl
@[go_sem] theorem ty_ki60 : kindIs Try.prog 60 isSliceT = true := by kernel_rfl
@[go_sem] theorem ty_ki61 : kindIs Try.prog 61 isSliceT = true := by kernel_rfl
@[go_sem] theorem ty_ki73 : kindIs Try.prog 73 isSliceT = true := by kernel_rfl
@[go_sem] theorem ty_ki74 : kindIs Try.prog 74 isSliceT = true := by kernel_rfl
@[go_sem] theorem ty_ki75 : kindIs Try.prog 75 isSliceT = true := by kernel_rfl
@[go_sem] theorem ty_ki76 : kindIs Try.prog 76 isSliceT = true := by kernel_rfl
@[go_sem] theorem ty_ki77 : kindIs Try.prog 77 isSliceT = true := by kernel_rfl
@[go_sem] theorem ty_ki80 : kindIs Try.prog 80 isSliceT = true := by kernel_rfl
@[go_sem] theorem ty_ki84 : kindIs Try.prog 84 isMapT = true := by kernel_rfl
@[go_sem] theorem ty_ki92 : kindIs Try.prog 92 isSliceT = true := by kernel_rfl
@[go_sem] theorem ty_kn3 : kindN Try.prog 3 = some 1 := by kernel_rfl
@[go_sem] theorem ty_kn9 : kindN Try.prog 9 = some 2 := by kernel_rfl
@[go_sem] theorem ty_mp206 : tmap Try.prog 206 = some (9, (.bool false)) := by kernel_rfl
@[go_sem] theorem ty_mp249 : tmap Try.prog 249 = some (87, (.sl [] true .full)) := by kernel_rfl
@[go_sem] theorem ty_mp260 : tmap Try.prog 260 = some (87, (.int .i64 0)) := by kernel_rfl
@[go_sem] theorem ty_mp269 : tmap Try.prog 269 = some (87, (.sl [] true .full)) := by kernel_rfl
@[go_sem] theorem ty_mp270 : tmap Try.prog 270 = some (3, (.int .i64 0)) := by kernel_rfl
@[go_sem] theorem ty_mp283 : tmap Try.prog 283 = some (87, (.sl [] true .full)) := by kernel_rfl
@[go_sem] theorem ty_mp289 : tmap Try.prog 289 = some (87, .nilp) := by kernel_rfl
@[go_sem] theorem ty_mp30 : tmap Try.prog 30 = some (3, (.bool false)) := by kernel_rfl
@[go_sem] theorem ty_mp31 : tmap Try.prog 31 = some (3, (.sl [] true .full)) := by kernel_rfl
@[go_sem] theorem ty_mp329 : tmap Try.prog 329 = some (9, (.int .i64 0)) := by kernel_rfl
@[go_sem] theorem ty_mp84 : tmap Try.prog 84 = some (87, (.sl [] true .full)) := by kernel_rfl
@[go_sem] theorem ty_ni9 : kindIs Try.prog 9 (fun d => !isIfaceT d) = true := by kernel_rfl
@[go_sem] theorem ty_pl108 : tplaces Try.prog 108 = some [(0, 1), (1, 1), (2, 1), (3, 1)] := by kernel_rfl
@[go_sem] theorem ty_pl112 : tplaces Try.prog 112 = some [(0, 1), (1, 1), (2, 1), (3, 1)] := by kernel_rfl
@[go_sem] theorem ty_pl124 : tplaces Try.prog 124 = some [(0, 1), (1, 4)] := by kernel_rfl
@[go_sem] theorem ty_pl127 : tplaces Try.prog 127 = some [(0, 1), (1, 1), (2, 5), (7, 1), (8, 1)] := by kernel_rfl
@[go_sem] theorem ty_pl133 : tplaces Try.prog 133 = some [(0, 1), (1, 1), (2, 1), (3, 1)] := by kernel_rfl
@[go_sem] theorem ty_pl137 : tplaces Try.prog 137 = some [(0, 1), (1, 1), (2, 1), (3, 1), (4, 1)] := by kernel_rfl
@[go_sem] theorem ty_pl140 : tplaces Try.prog 140 = some [(0, 1), (1, 1)] := by kernel_rfl
@[go_sem] theorem ty_pl147 : tplaces Try.prog 147 = some [(0, 1), (1, 1), (2, 1), (3, 1), (4, 1)] := by kernel_rfl
@[go_sem] theorem ty_pl151 : tplaces Try.prog 151 = some [(0, 1), (1, 1), (2, 1), (3, 1)] := by kernel_rfl
@[go_sem] theorem ty_pl158 : tplaces Try.prog 158 = some [(0, 1)] := by kernel_rfl
@[go_sem] theorem ty_pl167 : tplaces Try.prog 167 = some [(0, 1), (1, 1), (2, 1)] := by kernel_rfl
@[go_sem] theorem ty_pl175 : tplaces Try.prog 175 = some [(0, 1), (1, 1)] := by kernel_rfl
@[go_sem] theorem ty_pl178 : tplaces Try.prog 178 = some [(0, 1), (1, 1), (2, 1)] := by kernel_rfl
@[go_sem] theorem ty_pl189 : tplaces Try.prog 189 = some [(0, 1), (1, 1)] := by kernel_rfl
@[go_sem] theorem ty_pl201 : tplaces Try.prog 201 = some [(0, 1), (1, 1), (2, 1), (3, 1), (4, 1)] := by kernel_rfl
@[go_sem] theorem ty_pl209 : tplaces Try.prog 209 = some [(0, 8), (8, 8), (16, 1)] := by kernel_rfl
@[go_sem] theorem ty_pl214 : tplaces Try.prog 214 = some [(0, 1), (1, 1), (2, 1)] := by kernel_rfl
@[go_sem] theorem ty_pl233 : tplaces Try.prog 233 = some [(0, 7), (7, 1), (8, 1), (9, 1)] := by kernel_rfl
@[go_sem] theorem ty_pl245 : tplaces Try.prog 245 = some [(0, 1), (1, 1)] := by kernel_rfl
@[go_sem] theorem ty_pl251 : tplaces Try.prog 251 = some [(0, 1), (1, 1)] := by kernel_rfl
@[go_sem] theorem ty_pl256 : tplaces Try.prog 256 = some [(0, 1), (1, 1), (2, 1), (3, 1)] := by kernel_rfl
@[go_sem] theorem ty_pl258 : tplaces Try.prog 258 = some [(0, 1), (1, 1)] := by kernel_rfl
@[go_sem] theorem ty_pl262 : tplaces Try.prog 262 = some [(0, 1), (1, 1), (2, 1)] := by kernel_rfl
@[go_sem] theorem ty_pl273 : tplaces Try.prog 273 = some [(0, 1), (1, 1)] := by kernel_rfl
@[go_sem] theorem ty_pl275 : tplaces Try.prog 275 = some [(0, 1), (1, 1), (2, 1), (3, 1), (4, 1), (5, 1), (6, 1)] := by kernel_rfl
@[go_sem] theorem ty_pl286 : tplaces Try.prog 286 = some [(0, 1), (1, 1), (2, 1)] := by kernel_rfl
@[go_sem] theorem ty_pl292 : tplaces Try.prog 292 = some [(0, 1), (1, 1), (2, 1), (3, 1), (4, 1)] := by kernel_rfl
@[go_sem] theorem ty_pl295 : tplaces Try.prog 295 = some [(0, 1), (1, 1), (2, 1), (3, 1)] := by kernel_rfl
@[go_sem] theorem ty_pl300 : tplaces Try.prog 300 = some [(0, 1), (1, 4)] := by kernel_rfl
@[go_sem] theorem ty_pl311 : tplaces Try.prog 311 = some [(0, 1), (1, 1)] := by kernel_rfl
@[go_sem] theorem ty_pl327 : tplaces Try.prog 327 = some [(0, 1), (1, 1)] := by kernel_rfl
@[go_sem] theorem ty_pl340 : tplaces Try.prog 340 = some [(0, 1), (1, 1)] := by kernel_rfl
@[go_sem] theorem ty_pl361 : tplaces Try.prog 361 = some [(0, 1), (1, 1), (2, 1), (3, 1), (4, 1), (5, 1), (6, 1), (7, 1)] := by kernel_rfl
@[go_sem] theorem ty_pl368 : tplaces Try.prog 368 = some [(0, 1), (1, 1)] := by kernel_rfl
@[go_sem] theorem ty_pl381 : tplaces Try.prog 381 = some [(0, 3), (3, 1), (4, 1)] := by kernel_rfl
@[go_sem] theorem ty_pl400 : tplaces Try.prog 400 = some [(0, 1), (1, 1), (2, 1)] := by kernel_rfl
@[go_sem] theorem ty_pl45 : tplaces Try.prog 45 = some [(0, 1), (1, 1), (2, 1)] := by kernel_rfl
@[go_sem] theorem ty_pl56 : tplaces Try.prog 56 = some [(0, 1), (1, 1), (2, 1), (3, 1), (4, 1), (5, 1), (6, 1), (7, 1)] := by kernel_rfl
@[go_sem] theorem ty_pl65 : tplaces Try.prog 65 = some [(0, 1), (1, 1), (2, 1), (3, 3), (6, 8)] := by kernel_rfl
@[go_sem] theorem ty_pl87 : tplaces Try.prog 87 = some [(0, 1), (1, 1)] := by kernel_rfl
@[go_sem] theorem ty_pl94 : tplaces Try.prog 94 = some [(0, 1), (1, 1)] := by kernel_rfl
@[go_sem] theorem ty_sl105 : tslice Try.prog 105 = some (112, 4) := by kernel_rfl
@[go_sem] theorem ty_sl106 : tslice Try.prog 106 = some (108, 4) := by kernel_rfl
@[go_sem] theorem ty_sl125 : tslice Try.prog 125 = some (127, 9) := by kernel_rfl
@[go_sem] theorem ty_sl130 : tslice Try.prog 130 = some (137, 5) := by kernel_rfl
@[go_sem] theorem ty_sl131 : tslice Try.prog 131 = some (138, 1) := by kernel_rfl
@[go_sem] theorem ty_sl138 : tslice Try.prog 138 = some (140, 2) := by kernel_rfl
@[go_sem] theorem ty_sl144 : tslice Try.prog 144 = some (151, 4) := by kernel_rfl
@[go_sem] theorem ty_sl145 : tslice Try.prog 145 = some (38, 1) := by kernel_rfl
@[go_sem] theorem ty_sl156 : tslice Try.prog 156 = some (295, 4) := by kernel_rfl
@[go_sem] theorem ty_sl163 : tslice Try.prog 163 = some (167, 3) := by kernel_rfl
@[go_sem] theorem ty_sl170 : tslice Try.prog 170 = some (175, 2) := by kernel_rfl
@[go_sem] theorem ty_sl171 : tslice Try.prog 171 = some (178, 3) := by kernel_rfl
@[go_sem] theorem ty_sl180 : tslice Try.prog 180 = some (189, 2) := by kernel_rfl
@[go_sem] theorem ty_sl183 : tslice Try.prog 183 = some (87, 2) := by kernel_rfl
@[go_sem] theorem ty_sl199 : tslice Try.prog 199 = some (4, 1) := by kernel_rfl
@[go_sem] theorem ty_sl212 : tslice Try.prog 212 = some (216, 2) := by kernel_rfl
@[go_sem] theorem ty_sl22 : tslice Try.prog 22 = some (3, 1) := by kernel_rfl
@[go_sem] theorem ty_sl227 : tslice Try.prog 227 = some (231, 5) := by kernel_rfl
@[go_sem] theorem ty_sl23 : tslice Try.prog 23 = some (34, 4) := by kernel_rfl
@[go_sem] theorem ty_sl241 : tslice Try.prog 241 = some (245, 2) := by kernel_rfl
@[go_sem] theorem ty_sl242 : tslice Try.prog 242 = some (124, 5) := by kernel_rfl
@[go_sem] theorem ty_sl248 : tslice Try.prog 248 = some (256, 4) := by kernel_rfl
@[go_sem] theorem ty_sl252 : tslice Try.prog 252 = some (259, 1) := by kernel_rfl
@[go_sem] theorem ty_sl253 : tslice Try.prog 253 = some (258, 2) := by kernel_rfl
@[go_sem] theorem ty_sl254 : tslice Try.prog 254 = some (361, 8) := by kernel_rfl
@[go_sem] theorem ty_sl265 : tslice Try.prog 265 = some (270, 1) := by kernel_rfl
@[go_sem] theorem ty_sl266 : tslice Try.prog 266 = some (260, 1) := by kernel_rfl
@[go_sem] theorem ty_sl267 : tslice Try.prog 267 = some (271, 1) := by kernel_rfl
@[go_sem] theorem ty_sl268 : tslice Try.prog 268 = some (276, 1) := by kernel_rfl
@[go_sem] theorem ty_sl271 : tslice Try.prog 271 = some (273, 2) := by kernel_rfl
@[go_sem] theorem ty_sl276 : tslice Try.prog 276 = some (275, 7) := by kernel_rfl
@[go_sem] theorem ty_sl284 : tslice Try.prog 284 = some (24, 1) := by kernel_rfl
@[go_sem] theorem ty_sl293 : tslice Try.prog 293 = some (300, 5) := by kernel_rfl
@[go_sem] theorem ty_sl312 : tslice Try.prog 312 = some (311, 2) := by kernel_rfl
@[go_sem] theorem ty_sl32 : tslice Try.prog 32 = some (5, 1) := by kernel_rfl
@[go_sem] theorem ty_sl322 : tslice Try.prog 322 = some (379, 1) := by kernel_rfl
@[go_sem] theorem ty_sl366 : tslice Try.prog 366 = some (368, 2) := by kernel_rfl
@[go_sem] theorem ty_sl38 : tslice Try.prog 38 = some (22, 1) := by kernel_rfl
@[go_sem] theorem ty_sl387 : tslice Try.prog 387 = some (180, 1) := by kernel_rfl
@[go_sem] theorem ty_sl43 : tslice Try.prog 43 = some (45, 3) := by kernel_rfl
@[go_sem] theorem ty_sl50 : tslice Try.prog 50 = some (214, 3) := by kernel_rfl
@[go_sem] theorem ty_sl51 : tslice Try.prog 51 = some (218, 2) := by kernel_rfl
@[go_sem] theorem ty_sl52 : tslice Try.prog 52 = some (220, 3) := by kernel_rfl
@[go_sem] theorem ty_sl53 : tslice Try.prog 53 = some (347, 15) := by kernel_rfl
@[go_sem] theorem ty_sl54 : tslice Try.prog 54 = some (65, 14) := by kernel_rfl
@[go_sem] theorem ty_sl59 : tslice Try.prog 59 = some (9, 1) := by kernel_rfl
@[go_sem] theorem ty_sl60 : tslice Try.prog 60 = some (63, 8) := by kernel_rfl
@[go_sem] theorem ty_sl61 : tslice Try.prog 61 = some (349, 12) := by kernel_rfl
@[go_sem] theorem ty_sl73 : tslice Try.prog 73 = some (229, 5) := by kernel_rfl
@[go_sem] theorem ty_sl75 : tslice Try.prog 75 = some (98, 3) := by kernel_rfl
@[go_sem] theorem ty_sl77 : tslice Try.prog 77 = some (105, 1) := by kernel_rfl
@[go_sem] theorem ty_sl80 : tslice Try.prog 80 = some (86, 5) := by kernel_rfl
@[go_sem] theorem ty_sl92 : tslice Try.prog 92 = some (94, 2) := by kernel_rfl
@[go_sem] theorem ty_st105 : isStr Try.prog 105 = false := by kernel_rfl
@[go_sem] theorem ty_st106 : isStr Try.prog 106 = false := by kernel_rfl
@[go_sem] theorem ty_st125 : isStr Try.prog 125 = false := by kernel_rfl
@[go_sem] theorem ty_st130 : isStr Try.prog 130 = false := by kernel_rfl
@[go_sem] theorem ty_st131 : isStr Try.prog 131 = false := by kernel_rfl
@[go_sem] theorem ty_st138 : isStr Try.prog 138 = false := by kernel_rfl
@[go_sem] theorem ty_st144 : isStr Try.prog 144 = false := by kernel_rfl
@[go_sem] theorem ty_st145 : isStr Try.prog 145 = false := by kernel_rfl
@[go_sem] theorem ty_st156 : isStr Try.prog 156 = false := by kernel_rfl
@[go_sem] theorem ty_st163 : isStr Try.prog 163 = false := by kernel_rfl
@[go_sem] theorem ty_st170 : isStr Try.prog 170 = false := by kernel_rfl
@[go_sem] theorem ty_st171 : isStr Try.prog 171 = false := by kernel_rfl
@[go_sem] theorem ty_st180 : isStr Try.prog 180 = false := by kernel_rfl
@[go_sem] theorem ty_st183 : isStr Try.prog 183 = false := by kernel_rfl
@[go_sem] theorem ty_st199 : isStr Try.prog 199 = false := by kernel_rfl
@[go_sem] theorem ty_st212 : isStr Try.prog 212 = false := by kernel_rfl
@[go_sem] theorem ty_st22 : isStr Try.prog 22 = false := by kernel_rfl
@[go_sem] theorem ty_st227 : isStr Try.prog 227 = false := by kernel_rfl
@[go_sem] theorem ty_st23 : isStr Try.prog 23 = false := by kernel_rfl
@[go_sem] theorem ty_st241 : isStr Try.prog 241 = false := by kernel_rfl
@[go_sem] theorem ty_st242 : isStr Try.prog 242 = false := by kernel_rfl
@[go_sem] theorem ty_st248 : isStr Try.prog 248 = false := by kernel_rfl
@[go_sem] theorem ty_st252 : isStr Try.prog 252 = false := by kernel_rfl
@[go_sem] theorem ty_st253 : isStr Try.prog 253 = false := by kernel_rfl
@[go_sem] theorem ty_st254 : isStr Try.prog 254 = false := by kernel_rfl
@[go_sem] theorem ty_st260 : isStr Try.prog 260 = false := by kernel_rfl
@[go_sem] theorem ty_st266 : isStr Try.prog 266 = false := by kernel_rfl
@[go_sem] theorem ty_st267 : isStr Try.prog 267 = false := by kernel_rfl
@[go_sem] theorem ty_st268 : isStr Try.prog 268 = false := by kernel_rfl
@[go_sem] theorem ty_st271 : isStr Try.prog 271 = false := by kernel_rfl
@[go_sem] theorem ty_st276 : isStr Try.prog 276 = false := by kernel_rfl
@[go_sem] theorem ty_st284 : isStr Try.prog 284 = false := by kernel_rfl
@[go_sem] theorem ty_st293 : isStr Try.prog 293 = false := by kernel_rfl
@[go_sem] theorem ty_st3 : isStr Try.prog 3 = false := by kernel_rfl
@[go_sem] theorem ty_st30 : isStr Try.prog 30 = false := by kernel_rfl
@[go_sem] theorem ty_st307 : isStr Try.prog 307 = false := by kernel_rfl
@[go_sem] theorem ty_st312 : isStr Try.prog 312 = false := by kernel_rfl
@[go_sem] theorem ty_st32 : isStr Try.prog 32 = false := by kernel_rfl
@[go_sem] theorem ty_st322 : isStr Try.prog 322 = false := by kernel_rfl
@[go_sem] theorem ty_st327 : isStr Try.prog 327 = false := by kernel_rfl
@[go_sem] theorem ty_st340 : isStr Try.prog 340 = false := by kernel_rfl
@[go_sem] theorem ty_st366 : isStr Try.prog 366 = false := by kernel_rfl
@[go_sem] theorem ty_st38 : isStr Try.prog 38 = false := by kernel_rfl
@[go_sem] theorem ty_st387 : isStr Try.prog 387 = false := by kernel_rfl
@[go_sem] theorem ty_st401 : isStr Try.prog 401 = false := by kernel_rfl
@[go_sem] theorem ty_st403 : isStr Try.prog 403 = false := by kernel_rfl
@[go_sem] theorem ty_st406 : isStr Try.prog 406 = false := by kernel_rfl
@[go_sem] theorem ty_st426 : isStr Try.prog 426 = false := by kernel_rfl
@[go_sem] theorem ty_st43 : isStr Try.prog 43 = false := by kernel_rfl
@[go_sem] theorem ty_st5 : isStr Try.prog 5 = false := by kernel_rfl
@[go_sem] theorem ty_st50 : isStr Try.prog 50 = false := by kernel_rfl
@[go_sem] theorem ty_st51 : isStr Try.prog 51 = false := by kernel_rfl
@[go_sem] theorem ty_st52 : isStr Try.prog 52 = false := by kernel_rfl
@[go_sem] theorem ty_st53 : isStr Try.prog 53 = false := by kernel_rfl
@[go_sem] theorem ty_st54 : isStr Try.prog 54 = false := by kernel_rfl
@[go_sem] theorem ty_st59 : isStr Try.prog 59 = false := by kernel_rfl
@[go_sem] theorem ty_st60 : isStr Try.prog 60 = false := by kernel_rfl
@[go_sem] theorem ty_st61 : isStr Try.prog 61 = false := by kernel_rfl
@[go_sem] theorem ty_st73 : isStr Try.prog 73 = false := by kernel_rfl
@[go_sem] theorem ty_st74 : isStr Try.prog 74 = false := by kernel_rfl
@[go_sem] theorem ty_st75 : isStr Try.prog 75 = false := by kernel_rfl
@[go_sem] theorem ty_st76 : isStr Try.prog 76 = false := by kernel_rfl
@[go_sem] theorem ty_st77 : isStr Try.prog 77 = false := by kernel_rfl
@[go_sem] theorem ty_st80 : isStr Try.prog 80 = false := by kernel_rfl
@[go_sem] theorem ty_st87 : isStr Try.prog 87 = false := by kernel_rfl
@[go_sem] theorem ty_st88 : isStr Try.prog 88 = false := by kernel_rfl
@[go_sem] theorem ty_st9 : isStr Try.prog 9 = true := by kernel_rfl
@[go_sem] theorem ty_st92 : isStr Try.prog 92 = false := by kernel_rfl
@[go_sem] theorem ty_sz105 : tsz Try.prog 105 = some 1 := by kernel_rfl
@[go_sem] theorem ty_sz106 : tsz Try.prog 106 = some 1 := by kernel_rfl
@[go_sem] theorem ty_sz108 : tsz Try.prog 108 = some 4 := by kernel_rfl
@[go_sem] theorem ty_sz112 : tsz Try.prog 112 = some 4 := by kernel_rfl
@[go_sem] theorem ty_sz124 : tsz Try.prog 124 = some 5 := by kernel_rfl
@[go_sem] theorem ty_sz125 : tsz Try.prog 125 = some 1 := by kernel_rfl
@[go_sem] theorem ty_sz127 : tsz Try.prog 127 = some 9 := by kernel_rfl
@[go_sem] theorem ty_sz131 : tsz Try.prog 131 = some 1 := by kernel_rfl
@[go_sem] theorem ty_sz133 : tsz Try.prog 133 = some 4 := by kernel_rfl
@[go_sem] theorem ty_sz137 : tsz Try.prog 137 = some 5 := by kernel_rfl
@[go_sem] theorem ty_sz138 : tsz Try.prog 138 = some 1 := by kernel_rfl
@[go_sem] theorem ty_sz140 : tsz Try.prog 140 = some 2 := by kernel_rfl
@[go_sem] theorem ty_sz145 : tsz Try.prog 145 = some 1 := by kernel_rfl
@[go_sem] theorem ty_sz147 : tsz Try.prog 147 = some 5 := by kernel_rfl
@[go_sem] theorem ty_sz151 : tsz Try.prog 151 = some 4 := by kernel_rfl
@[go_sem] theorem ty_sz156 : tsz Try.prog 156 = some 1 := by kernel_rfl
@[go_sem] theorem ty_sz158 : tsz Try.prog 158 = some 1 := by kernel_rfl
@[go_sem] theorem ty_sz167 : tsz Try.prog 167 = some 3 := by kernel_rfl
@[go_sem] theorem ty_sz175 : tsz Try.prog 175 = some 2 := by kernel_rfl
@[go_sem] theorem ty_sz178 : tsz Try.prog 178 = some 3 := by kernel_rfl
@[go_sem] theorem ty_sz180 : tsz Try.prog 180 = some 1 := by kernel_rfl
@[go_sem] theorem ty_sz189 : tsz Try.prog 189 = some 2 := by kernel_rfl
@[go_sem] theorem ty_sz199 : tsz Try.prog 199 = some 1 := by kernel_rfl
@[go_sem] theorem ty_sz201 : tsz Try.prog 201 = some 5 := by kernel_rfl
@[go_sem] theorem ty_sz206 : tsz Try.prog 206 = some 1 := by kernel_rfl
@[go_sem] theorem ty_sz207 : tsz Try.prog 207 = some 1 := by kernel_rfl
@[go_sem] theorem ty_sz209 : tsz Try.prog 209 = some 17 := by kernel_rfl
@[go_sem] theorem ty_sz212 : tsz Try.prog 212 = some 1 := by kernel_rfl
@[go_sem] theorem ty_sz214 : tsz Try.prog 214 = some 3 := by kernel_rfl
@[go_sem] theorem ty_sz216 : tsz Try.prog 216 = some 2 := by kernel_rfl
@[go_sem] theorem ty_sz218 : tsz Try.prog 218 = some 2 := by kernel_rfl
@[go_sem] theorem ty_sz22 : tsz Try.prog 22 = some 1 := by kernel_rfl
@[go_sem] theorem ty_sz220 : tsz Try.prog 220 = some 3 := by kernel_rfl
@[go_sem] theorem ty_sz227 : tsz Try.prog 227 = some 1 := by kernel_rfl
@[go_sem] theorem ty_sz229 : tsz Try.prog 229 = some 5 := by kernel_rfl
@[go_sem] theorem ty_sz231 : tsz Try.prog 231 = some 5 := by kernel_rfl
@[go_sem] theorem ty_sz233 : tsz Try.prog 233 = some 10 := by kernel_rfl
@[go_sem] theorem ty_sz24 : tsz Try.prog 24 = some 1 := by kernel_rfl
@[go_sem] theorem ty_sz242 : tsz Try.prog 242 = some 1 := by kernel_rfl
@[go_sem] theorem ty_sz245 : tsz Try.prog 245 = some 2 := by kernel_rfl
@[go_sem] theorem ty_sz247 : tsz Try.prog 247 = some 1 := by kernel_rfl
@[go_sem] theorem ty_sz248 : tsz Try.prog 248 = some 1 := by kernel_rfl
@[go_sem] theorem ty_sz249 : tsz Try.prog 249 = some 1 := by kernel_rfl
@[go_sem] theorem ty_sz251 : tsz Try.prog 251 = some 2 := by kernel_rfl
@[go_sem] theorem ty_sz252 : tsz Try.prog 252 = some 1 := by kernel_rfl
@[go_sem] theorem ty_sz253 : tsz Try.prog 253 = some 1 := by kernel_rfl
@[go_sem] theorem ty_sz254 : tsz Try.prog 254 = some 1 := by kernel_rfl
@[go_sem] theorem ty_sz256 : tsz Try.prog 256 = some 4 := by kernel_rfl
@[go_sem] theorem ty_sz258 : tsz Try.prog 258 = some 2 := by kernel_rfl
@[go_sem] theorem ty_sz259 : tsz Try.prog 259 = some 1 := by kernel_rfl
@[go_sem] theorem ty_sz260 : tsz Try.prog 260 = some 1 := by kernel_rfl
@[go_sem] theorem ty_sz262 : tsz Try.prog 262 = some 3 := by kernel_rfl
@[go_sem] theorem ty_sz265 : tsz Try.prog 265 = some 1 := by kernel_rfl
@[go_sem] theorem ty_sz266 : tsz Try.prog 266 = some 1 := by kernel_rfl
@[go_sem] theorem ty_sz267 : tsz Try.prog 267 = some 1 := by kernel_rfl
@[go_sem] theorem ty_sz268 : tsz Try.prog 268 = some 1 := by kernel_rfl
@[go_sem] theorem ty_sz269 : tsz Try.prog 269 = some 1 := by kernel_rfl
@[go_sem] theorem ty_sz270 : tsz Try.prog 270 = some 1 := by kernel_rfl
@[go_sem] theorem ty_sz271 : tsz Try.prog 271 = some 1 := by kernel_rfl
@[go_sem] theorem ty_sz273 : tsz Try.prog 273 = some 2 := by kernel_rfl
@[go_sem] theorem ty_sz275 : tsz Try.prog 275 = some 7 := by kernel_rfl
@[go_sem] theorem ty_sz276 : tsz Try.prog 276 = some 1 := by kernel_rfl
@[go_sem] theorem ty_sz277 : tsz Try.prog 277 = some 1 := by kernel_rfl
@[go_sem] theorem ty_sz279 : tsz Try.prog 279 = some 1 := by kernel_rfl
@[go_sem] theorem ty_sz282 : tsz Try.prog 282 = some 1 := by kernel_rfl
@[go_sem] theorem ty_sz283 : tsz Try.prog 283 = some 1 := by kernel_rfl
@[go_sem] theorem ty_sz284 : tsz Try.prog 284 = some 1 := by kernel_rfl
@[go_sem] theorem ty_sz286 : tsz Try.prog 286 = some 3 := by kernel_rfl
@[go_sem] theorem ty_sz289 : tsz Try.prog 289 = some 1 := by kernel_rfl
@[go_sem] theorem ty_sz292 : tsz Try.prog 292 = some 5 := by kernel_rfl
@[go_sem] theorem ty_sz293 : tsz Try.prog 293 = some 1 := by kernel_rfl
@[go_sem] theorem ty_sz295 : tsz Try.prog 295 = some 4 := by kernel_rfl
@[go_sem] theorem ty_sz3 : tsz Try.prog 3 = some 1 := by kernel_rfl
@[go_sem] theorem ty_sz300 : tsz Try.prog 300 = some 5 := by kernel_rfl
@[go_sem] theorem ty_sz307 : tsz Try.prog 307 = some 1 := by kernel_rfl
@[go_sem] theorem ty_sz309 : tsz Try.prog 309 = some 2 := by kernel_rfl
@[go_sem] theorem ty_sz311 : tsz Try.prog 311 = some 2 := by kernel_rfl
@[go_sem] theorem ty_sz32 : tsz Try.prog 32 = some 1 := by kernel_rfl
@[go_sem] theorem ty_sz322 : tsz Try.prog 322 = some 1 := by kernel_rfl
@[go_sem] theorem ty_sz34 : tsz Try.prog 34 = some 4 := by kernel_rfl
@[go_sem] theorem ty_sz347 : tsz Try.prog 347 = some 15 := by kernel_rfl
@[go_sem] theorem ty_sz349 : tsz Try.prog 349 = some 12 := by kernel_rfl
@[go_sem] theorem ty_sz361 : tsz Try.prog 361 = some 8 := by kernel_rfl
@[go_sem] theorem ty_sz368 : tsz Try.prog 368 = some 2 := by kernel_rfl
@[go_sem] theorem ty_sz379 : tsz Try.prog 379 = some 1 := by kernel_rfl
@[go_sem] theorem ty_sz38 : tsz Try.prog 38 = some 1 := by kernel_rfl
@[go_sem] theorem ty_sz381 : tsz Try.prog 381 = some 5 := by kernel_rfl
@[go_sem] theorem ty_sz396 : tsz Try.prog 396 = some 1 := by kernel_rfl
@[go_sem] theorem ty_sz4 : tsz Try.prog 4 = some 1 := by kernel_rfl
@[go_sem] theorem ty_sz400 : tsz Try.prog 400 = some 3 := by kernel_rfl
@[go_sem] theorem ty_sz426 : tsz Try.prog 426 = some 1 := by kernel_rfl
@[go_sem] theorem ty_sz43 : tsz Try.prog 43 = some 1 := by kernel_rfl
@[go_sem] theorem ty_sz45 : tsz Try.prog 45 = some 3 := by kernel_rfl
@[go_sem] theorem ty_sz5 : tsz Try.prog 5 = some 1 := by kernel_rfl
@[go_sem] theorem ty_sz50 : tsz Try.prog 50 = some 1 := by kernel_rfl
@[go_sem] theorem ty_sz51 : tsz Try.prog 51 = some 1 := by kernel_rfl
@[go_sem] theorem ty_sz52 : tsz Try.prog 52 = some 1 := by kernel_rfl
@[go_sem] theorem ty_sz53 : tsz Try.prog 53 = some 1 := by kernel_rfl
@[go_sem] theorem ty_sz54 : tsz Try.prog 54 = some 1 := by kernel_rfl
@[go_sem] theorem ty_sz56 : tsz Try.prog 56 = some 8 := by kernel_rfl
@[go_sem] theorem ty_sz59 : tsz Try.prog 59 = some 1 := by kernel_rfl
@[go_sem] theorem ty_sz60 : tsz Try.prog 60 = some 1 := by kernel_rfl
@[go_sem] theorem ty_sz61 : tsz Try.prog 61 = some 1 := by kernel_rfl
@[go_sem] theorem ty_sz63 : tsz Try.prog 63 = some 8 := by kernel_rfl
@[go_sem] theorem ty_sz65 : tsz Try.prog 65 = some 14 := by kernel_rfl
@[go_sem] theorem ty_sz73 : tsz Try.prog 73 = some 1 := by kernel_rfl
@[go_sem] theorem ty_sz74 : tsz Try.prog 74 = some 1 := by kernel_rfl
@[go_sem] theorem ty_sz75 : tsz Try.prog 75 = some 1 := by kernel_rfl
@[go_sem] theorem ty_sz76 : tsz Try.prog 76 = some 1 := by kernel_rfl
@[go_sem] theorem ty_sz77 : tsz Try.prog 77 = some 1 := by kernel_rfl
@[go_sem] theorem ty_sz79 : tsz Try.prog 79 = some 7 := by kernel_rfl
@[go_sem] theorem ty_sz84 : tsz Try.prog 84 = some 1 := by kernel_rfl
@[go_sem] theorem ty_sz86 : tsz Try.prog 86 = some 5 := by kernel_rfl
@[go_sem] theorem ty_sz87 : tsz Try.prog 87 = some 2 := by kernel_rfl
@[go_sem] theorem ty_sz9 : tsz Try.prog 9 = some 1 := by kernel_rfl
@[go_sem] theorem ty_sz94 : tsz Try.prog 94 = some 2 := by kernel_rfl
@[go_sem] theorem ty_sz98 : tsz Try.prog 98 = some 3 := by kernel_rfl
@[go_sem] theorem ty_u83 : isU8s Try.prog 3 = false := by kernel_rfl
@[go_sem] theorem ty_u8307 : isU8s Try.prog 307 = false := by kernel_rfl
@[go_sem] theorem ty_u832 : isU8s Try.prog 32 = true := by kernel_rfl
@[go_sem] theorem ty_u8401 : isU8s Try.prog 401 = false := by kernel_rfl
@[go_sem] theorem ty_u8403 : isU8s Try.prog 403 = false := by kernel_rfl
@[go_sem] theorem ty_u8406 : isU8s Try.prog 406 = false := by kernel_rfl
@[go_sem] theorem ty_u8426 : isU8s Try.prog 426 = false := by kernel_rfl
@[go_sem] theorem ty_u85 : isU8s Try.prog 5 = false := by kernel_rfl
@[go_sem] theorem ty_u888 : isU8s Try.prog 88 = false := by kernel_rfl
@[go_sem] theorem ty_u89 : isU8s Try.prog 9 = false := by kernel_rfl
@[go_sem] theorem ty_un3 : (Try.prog.underlying 3).isSome = true := by kernel_rfl
@[go_sem] theorem ty_un307 : (Try.prog.underlying 307).isSome = true := by kernel_rfl
@[go_sem] theorem ty_un32 : (Try.prog.underlying 32).isSome = true := by kernel_rfl
@[go_sem] theorem ty_un401 : (Try.prog.underlying 401).isSome = true := by kernel_rfl
@[go_sem] theorem ty_un403 : (Try.prog.underlying 403).isSome = true := by kernel_rfl
@[go_sem] theorem ty_un406 : (Try.prog.underlying 406).isSome = true := by kernel_rfl
@[go_sem] theorem ty_un426 : (Try.prog.underlying 426).isSome = true := by kernel_rfl
@[go_sem] theorem ty_un5 : (Try.prog.underlying 5).isSome = true := by kernel_rfl
@[go_sem] theorem ty_un88 : (Try.prog.underlying 88).isSome = true := by kernel_rfl
@[go_sem] theorem ty_un9 : (Try.prog.underlying 9).isSome = true := by kernel_rfl
@[go_sem] theorem ty_ze108 : tzero Try.prog 108 = some (.agg [(.int .i64 0), (.int .i64 0), (.str []), (.sl [] true .full)]) := by kernel_rfl
@[go_sem] theorem ty_ze112 : tzero Try.prog 112 = some (.agg [(.int .i64 0), (.int .i64 0), (.str []), (.sl [] true .full)]) := by kernel_rfl
@[go_sem] theorem ty_ze124 : tzero Try.prog 124 = some (.agg [(.sl [] true .full), (.int .i64 0), (.int .i64 0), (.str []), (.sl [] true .full)]) := by kernel_rfl
@[go_sem] theorem ty_ze127 : tzero Try.prog 127 = some (.agg [(.bool false), (.int .i64 0), (.sl [] true .full), (.int .i64 0), (.int .i64 0), (.str []), (.sl [] true .full), (.sl [] true .full), (.sl [] true .full)]) := by kernel_rfl
@[go_sem] theorem ty_ze131 : tzero Try.prog 131 = some (.sl [] true .full) := by kernel_rfl
@[go_sem] theorem ty_ze133 : tzero Try.prog 133 = some (.agg [(.sl [] true .full), (.sl [] true .full), (.int .i64 0), (.int .i64 0)]) := by kernel_rfl
@[go_sem] theorem ty_ze137 : tzero Try.prog 137 = some (.agg [(.int .i64 0), (.int .i64 0), (.int .i64 0), (.int .i64 0), (.int .i64 0)]) := by kernel_rfl
@[go_sem] theorem ty_ze138 : tzero Try.prog 138 = some (.sl [] true .full) := by kernel_rfl
@[go_sem] theorem ty_ze140 : tzero Try.prog 140 = some (.agg [(.int .i64 0), (.int .i64 0)]) := by kernel_rfl
@[go_sem] theorem ty_ze147 : tzero Try.prog 147 = some (.agg [(.bool false), (.sl [] true .full), (.sl [] true .full), (.sl [] true .full), (.int .i64 0)]) := by kernel_rfl
@[go_sem] theorem ty_ze151 : tzero Try.prog 151 = some (.agg [(.int .i64 0), (.int .i64 0), (.int .i64 0), (.int .i64 0)]) := by kernel_rfl
@[go_sem] theorem ty_ze158 : tzero Try.prog 158 = some (.agg [(.sl [] true .full)]) := by kernel_rfl
@[go_sem] theorem ty_ze167 : tzero Try.prog 167 = some (.agg [(.int .i64 0), (.int .i64 0), (.str [])]) := by kernel_rfl
@[go_sem] theorem ty_ze175 : tzero Try.prog 175 = some (.agg [(.str []), (.int .i64 0)]) := by kernel_rfl
@[go_sem] theorem ty_ze178 : tzero Try.prog 178 = some (.agg [(.str []), (.int .i64 0), (.int .i64 0)]) := by kernel_rfl
@[go_sem] theorem ty_ze180 : tzero Try.prog 180 = some (.sl [] true .full) := by kernel_rfl
@[go_sem] theorem ty_ze189 : tzero Try.prog 189 = some (.agg [(.int .i64 0), (.int .i64 0)]) := by kernel_rfl
@[go_sem] theorem ty_ze199 : tzero Try.prog 199 = some (.sl [] true .full) := by kernel_rfl
@[go_sem] theorem ty_ze201 : tzero Try.prog 201 = some (.agg [(.sl [] true .full), (.bool false), (.int .i64 0), (.sl [] true .full), (.sl [] true .full)]) := by kernel_rfl
@[go_sem] theorem ty_ze209 : tzero Try.prog 209 = some (.agg [(.str []), (.int .i64 0), (.sl [] true .full), (.sl [] true .full), (.sl [] true .full), (.sl [] true .full), (.sl [] true .full), (.sl [] true .full), (.str []), (.int .i64 0), (.sl [] true .full), (.sl [] true .full), (.sl [] true .full), (.sl [] true .full), (.sl [] true .full), (.sl [] true .full), .nilm]) := by kernel_rfl
@[go_sem] theorem ty_ze214 : tzero Try.prog 214 = some (.agg [(.str []), (.sl [] true .full), (.sl [] true .full)]) := by kernel_rfl
@[go_sem] theorem ty_ze216 : tzero Try.prog 216 = some (.agg [(.str []), (.sl [] true .full)]) := by kernel_rfl
@[go_sem] theorem ty_ze218 : tzero Try.prog 218 = some (.agg [(.str []), (.sl [] true .full)]) := by kernel_rfl
@[go_sem] theorem ty_ze22 : tzero Try.prog 22 = some (.sl [] true .full) := by kernel_rfl
@[go_sem] theorem ty_ze220 : tzero Try.prog 220 = some (.agg [(.str []), (.str []), (.sl [] true .full)]) := by kernel_rfl
@[go_sem] theorem ty_ze229 : tzero Try.prog 229 = some (.agg [(.str []), (.int .i64 0), (.int .i64 0), (.int .i64 0), (.sl [] true .full)]) := by kernel_rfl
@[go_sem] theorem ty_ze231 : tzero Try.prog 231 = some (.agg [(.int .i64 0), (.int .i64 0), (.int .i64 0), (.int .i64 0), (.sl [] true .full)]) := by kernel_rfl
@[go_sem] theorem ty_ze233 : tzero Try.prog 233 = some (.agg [(.sl [] true .full), (.sl [] true .full), (.sl [] true .full), (.sl [] true .full), (.sl [] true .full), (.sl [] true .full), (.sl [] true .full), .nilm, (.int .i64 0), (.int .i64 0)]) := by kernel_rfl
@[go_sem] theorem ty_ze24 : tzero Try.prog 24 = some .nilp := by kernel_rfl
@[go_sem] theorem ty_ze245 : tzero Try.prog 245 = some (.agg [(.int .i64 0), (.sl [] true .full)]) := by kernel_rfl
@[go_sem] theorem ty_ze251 : tzero Try.prog 251 = some (.agg [(.sl [] true .full), .nilm]) := by kernel_rfl
@[go_sem] theorem ty_ze256 : tzero Try.prog 256 = some (.agg [(.sl [] true .full), (.sl [] true .full), (.sl [] true .full), (.sl [] true .full)]) := by kernel_rfl
@[go_sem] theorem ty_ze258 : tzero Try.prog 258 = some (.agg [(.int .i64 0), (.int .i64 0)]) := by kernel_rfl
@[go_sem] theorem ty_ze259 : tzero Try.prog 259 = some .nilp := by kernel_rfl
@[go_sem] theorem ty_ze260 : tzero Try.prog 260 = some .nilm := by kernel_rfl
@[go_sem] theorem ty_ze262 : tzero Try.prog 262 = some (.agg [(.sl [] true .full), (.sl [] true .full), .nilm]) := by kernel_rfl
@[go_sem] theorem ty_ze265 : tzero Try.prog 265 = some (.sl [] true .full) := by kernel_rfl
@[go_sem] theorem ty_ze266 : tzero Try.prog 266 = some (.sl [] true .full) := by kernel_rfl
@[go_sem] theorem ty_ze267 : tzero Try.prog 267 = some (.sl [] true .full) := by kernel_rfl
@[go_sem] theorem ty_ze268 : tzero Try.prog 268 = some (.sl [] true .full) := by kernel_rfl
@[go_sem] theorem ty_ze269 : tzero Try.prog 269 = some .nilm := by kernel_rfl
@[go_sem] theorem ty_ze270 : tzero Try.prog 270 = some .nilm := by kernel_rfl
@[go_sem] theorem ty_ze271 : tzero Try.prog 271 = some (.sl [] true .full) := by kernel_rfl
@[go_sem] theorem ty_ze273 : tzero Try.prog 273 = some (.agg [(.int .i64 0), (.int .i64 0)]) := by kernel_rfl
@[go_sem] theorem ty_ze275 : tzero Try.prog 275 = some (.agg [(.int .i64 0), (.int .i64 0), (.int .i64 0), (.int .i64 0), (.int .i64 0), (.int .i64 0), (.int .i64 0)]) := by kernel_rfl
@[go_sem] theorem ty_ze276 : tzero Try.prog 276 = some (.sl [] true .full) := by kernel_rfl
@[go_sem] theorem ty_ze277 : tzero Try.prog 277 = some .nilf := by kernel_rfl
@[go_sem] theorem ty_ze279 : tzero Try.prog 279 = some .nilf := by kernel_rfl
@[go_sem] theorem ty_ze286 : tzero Try.prog 286 = some (.agg [(.sl [] true .full), .nilm, (.sl [] true .full)]) := by kernel_rfl
@[go_sem] theorem ty_ze289 : tzero Try.prog 289 = some .nilm := by kernel_rfl
@[go_sem] theorem ty_ze292 : tzero Try.prog 292 = some (.agg [(.sl [] true .full), (.int .i64 0), (.int .i64 0), (.bool false), (.int .i64 0)]) := by kernel_rfl
@[go_sem] theorem ty_ze295 : tzero Try.prog 295 = some (.agg [(.str []), (.int .i64 0), (.sl [] true .full), (.sl [] true .full)]) := by kernel_rfl
@[go_sem] theorem ty_ze3 : tzero Try.prog 3 = some (.int .i64 0) := by kernel_rfl
@[go_sem] theorem ty_ze300 : tzero Try.prog 300 = some (.agg [(.int .i64 0), (.int .i64 0), (.int .i64 0), (.str []), (.sl [] true .full)]) := by kernel_rfl
@[go_sem] theorem ty_ze309 : tzero Try.prog 309 = some (.agg [.nilp, (.sl [] true .full)]) := by kernel_rfl
@[go_sem] theorem ty_ze311 : tzero Try.prog 311 = some (.agg [(.int .i64 0), (.bool false)]) := by kernel_rfl
@[go_sem] theorem ty_ze327 : tzero Try.prog 327 = some (.agg [(.sl [] true .full), (.sl [] true .full)]) := by kernel_rfl
@[go_sem] theorem ty_ze34 : tzero Try.prog 34 = some (.agg [(.int .i64 0), (.int .i64 0), (.sl [] true .full), (.sl [] true .full)]) := by kernel_rfl
@[go_sem] theorem ty_ze340 : tzero Try.prog 340 = some (.agg [(.sl [] true .full), (.sl [] true .full)]) := by kernel_rfl
@[go_sem] theorem ty_ze347 : tzero Try.prog 347 = some (.agg [(.str []), (.sl [] true .full), (.sl [] true .full), (.sl [] true .full), (.int .i64 0), (.str []), (.sl [] true .full), (.int .i64 0), (.int .i64 0), (.str []), (.sl [] true .full), (.sl [] true .full), (.sl [] true .full), (.sl [] true .full), (.int .i64 0)]) := by kernel_rfl
@[go_sem] theorem ty_ze349 : tzero Try.prog 349 = some (.agg [(.int .i64 0), (.int .i64 0), (.str []), (.sl [] true .full), (.int .i64 0), (.int .i64 0), (.str []), (.sl [] true .full), (.sl [] true .full), (.sl [] true .full), (.sl [] true .full), (.int .i64 0)]) := by kernel_rfl
@[go_sem] theorem ty_ze361 : tzero Try.prog 361 = some (.agg [(.int .i64 0), (.int .i64 0), (.int .i64 0), (.int .i64 0), (.int .i64 0), (.int .i64 0), (.int .i64 0), .nilp]) := by kernel_rfl
@[go_sem] theorem ty_ze368 : tzero Try.prog 368 = some (.agg [(.int .i64 0), (.bool false)]) := by kernel_rfl
@[go_sem] theorem ty_ze379 : tzero Try.prog 379 = some .nilp := by kernel_rfl
@[go_sem] theorem ty_ze38 : tzero Try.prog 38 = some (.sl [] true .full) := by kernel_rfl
@[go_sem] theorem ty_ze381 : tzero Try.prog 381 = some (.agg [(.int .i64 0), (.int .i64 0), (.str []), (.sl [] true .full), (.int .i64 0)]) := by kernel_rfl
@[go_sem] theorem ty_ze4 : tzero Try.prog 4 = some (.bool false) := by kernel_rfl
@[go_sem] theorem ty_ze400 : tzero Try.prog 400 = some (.agg [(.sl [] true .full), (.sl [] true .full), .nilp]) := by kernel_rfl
@[go_sem] theorem ty_ze426 : tzero Try.prog 426 = some (.int .u64 0) := by kernel_rfl
@[go_sem] theorem ty_ze45 : tzero Try.prog 45 = some (.agg [(.int .i64 0), (.str []), (.sl [] true .full)]) := by kernel_rfl
@[go_sem] theorem ty_ze5 : tzero Try.prog 5 = some (.int .u8 0) := by kernel_rfl
@[go_sem] theorem ty_ze56 : tzero Try.prog 56 = some (.agg [(.str []), (.int .i64 0), (.sl [] true .full), (.sl [] true .full), (.sl [] true .full), (.sl [] true .full), (.sl [] true .full), (.sl [] true .full)]) := by kernel_rfl
@[go_sem] theorem ty_ze63 : tzero Try.prog 63 = some (.agg [(.int .i64 0), (.int .i64 0), (.str []), (.sl [] true .full), (.sl [] true .full), (.sl [] true .full), (.sl [] true .full), (.int .i64 0)]) := by kernel_rfl
@[go_sem] theorem ty_ze65 : tzero Try.prog 65 = some (.agg [(.str []), (.sl [] true .full), (.sl [] true .full), (.int .i64 0), (.str []), (.sl [] true .full), (.int .i64 0), (.int .i64 0), (.str []), (.sl [] true .full), (.sl [] true .full), (.sl [] true .full), (.sl [] true .full), (.int .i64 0)]) := by kernel_rfl
@[go_sem] theorem ty_ze86 : tzero Try.prog 86 = some (.agg [(.int .i64 0), (.int .i64 0), (.int .i64 0), (.int .i64 0), (.bool false)]) := by kernel_rfl
@[go_sem] theorem ty_ze87 : tzero Try.prog 87 = some (.agg [(.int .i64 0), (.int .i64 0)]) := by kernel_rfl
@[go_sem] theorem ty_ze9 : tzero Try.prog 9 = some (.str []) := by kernel_rfl
@[go_sem] theorem ty_ze94 : tzero Try.prog 94 = some (.agg [(.str []), (.int .i64 0)]) := by kernel_rfl
@[go_sem] theorem ty_ze98 : tzero Try.prog 98 = some (.agg [(.str []), (.str []), (.int .i64 0)]) := by kernel_rfl
end Go.Proofs.Ytacecjfpkdijpaa

/- The arguments of 'roadlaw5.LockTurns' as data; no conditions. -/
set_option linter.unusedVariables false
set_option linter.unusedSimpArgs false
set_option maxRecDepth 100000
namespace Go.Proofs.Ytacecjfpkdijpaa.lockTurns
open Go.RowKit Go.Proofs.YtacecjfpkdijpaaV
def e9 (x : (List UInt8)) : List V := [.str x]
def o9 (x : (List UInt8)) : Prop := x.length ≤ bulk
theorem d9 (n : Nat) : Dec Try.prog 9 e9 o9 n := dec_str (by kernel_rfl)
theorem p9 (x : (List UInt8)) : 1 ≤ vszL (e9 x) := by simp only [e9, vszL, vsz]; omega
def e3 (x : Int) : List V := [.int .i64 x]
def o3 (x : Int) : Prop := IntKind.i64.min ≤ x ∧ x ≤ IntKind.i64.max
theorem d3 (n : Nat) : Dec Try.prog 3 e3 o3 n := dec_int (by kernel_rfl)
theorem p3 (x : Int) : 1 ≤ vszL (e3 x) := by simp only [e3, vszL, vsz]; omega
abbrev D175 := (List UInt8) × Int
def e175 (x : D175) : List V := [.str x.1, .int .i64 x.2]
def o175 (x : D175) : Prop := o9 x.1 ∧ o3 x.2
theorem d175 (n : Nat) : Dec Try.prog 175 e175 o175 n := by
  intro cs hv hb
  obtain ⟨m, rfl, h⟩ := dec_struct (ts := [9, 3]) (by kernel_rfl) hv
  obtain ⟨a0, r0, rfl, _, h0, a1, r1, rfl, _, h1, rfl⟩ := h
  simp only [vszL_append] at hb
  obtain ⟨x0, rfl, q0⟩ := d9 m _ h0 (by omega)
  obtain ⟨x1, rfl, q1⟩ := d3 m _ h1 (by omega)
  exact ⟨(x0, x1), rfl, q0, q1⟩
theorem p175 (x : D175) : 1 ≤ vszL (e175 x) := by simp only [e175, vszL, vsz]; omega
abbrev D170 := List D175 × Bool
def e170 (x : D170) : List V := [.sl (x.1.map e175) x.2 .no]
def o170 (x : D170) : Prop := OkS o175 x
theorem d170 (n : Nat) : Dec Try.prog 170 e170 o170 n := dec_slice (el := 175) (by kernel_rfl) p175 (fun m _ => d175 m)
theorem p170 (x : D170) : 1 ≤ vszL (e170 x) := by simp only [e170, vszL, vsz]; omega
theorem args {xs : List V} (h : TyAll Try.prog [170, 170] xs) (hs : vszL xs ≤ 1048576) : ∃ (x0 : D170) (x1 : D170), xs = [.sl (x0.1.map e175) x0.2 .no, .sl (x1.1.map e175) x1.2 .no] ∧ o170 x0 ∧ o170 x1 := by
  obtain ⟨y0, r0, rfl, h0, y1, r1, rfl, h1, rfl⟩ := h
  simp only [vszL] at hs
  obtain ⟨x0, g0, q0⟩ := dec_one (by kernel_rfl) d170 h0 (by show vsz _ ≤ 1048576; omega)
  obtain ⟨x1, g1, q1⟩ := dec_one (by kernel_rfl) d170 h1 (by show vsz _ ≤ 1048576; omega)
  cases g0
  cases g1
  exact ⟨x0, x1, rfl, q0, q1⟩
end Go.Proofs.Ytacecjfpkdijpaa.lockTurns

/- Picks by names, and what turned between two lists of them, as lists. No conditions. -/
set_option linter.unusedSimpArgs false
set_option linter.unusedVariables false
namespace Go.Proofs.Ytacecjfpkdijpaa
open Go.Proofs.YtacecjfpkdijpaaV
theorem less_iff : ∀ a b : List UInt8, Op.bytesLess a b = decide (a < b)
  | a, [] => by cases a <;> simp [Op.bytesLess]
  | [], b :: y => by simp [Op.bytesLess]
  | a :: x, b :: y => by
    rw [Op.bytesLess, less_iff x y, Bool.eq_iff_iff]
    simp [List.cons_lt_cons_iff]
namespace lk
abbrev Pk := List UInt8 × Int
abbrev Tn := List UInt8 × Int × Int
theorem lt_or (a b : List UInt8) : a < b ∨ a = b ∨ b < a := by
  by_cases h : a < b
  · exact .inl h
  · by_cases k : b < a
    · exact .inr (.inr k)
    · exact .inr (.inl (List.le_antisymm (List.not_lt.1 k) (List.not_lt.1 h)))
theorem lt_ne {a b : List UInt8} (h : a < b) : ¬ a = b := fun e => by subst e; exact List.lt_irrefl _ h
/-- Rising by names. -/
def Strict (l : List Pk) : Prop := l.Pairwise fun p q => p.1 < q.1
def ver (l : List Pk) (n : List UInt8) : Int := match l.find? (fun p => decide (p.1 = n)) with | some p => p.2 | none => 0
theorem ver_cons (p : Pk) (l : List Pk) (n : List UInt8) : ver (p :: l) n = if p.1 = n then p.2 else ver l n := by
  unfold ver
  rw [List.find?_cons]
  by_cases h : p.1 = n
  · rw [decide_eq_true h, if_pos h]
  · rw [decide_eq_false h, if_neg h]
theorem ver_nil (n : List UInt8) : ver [] n = 0 := rfl
theorem ver_not : ∀ {l : List Pk} {n : List UInt8}, (∀ p ∈ l, ¬ p.1 = n) → ver l n = 0
  | [], _, _ => rfl
  | p :: l, n, h => by rw [ver_cons, if_neg (h p (by simp)), ver_not fun q hq => h q (by simp [hq])]
theorem ver_in : ∀ {l : List Pk} {n : List UInt8}, (∀ p ∈ l, 1 ≤ p.2) → (∃ p ∈ l, p.1 = n) → 1 ≤ ver l n
  | p :: l, n, h, hn => by
    rw [ver_cons]
    split
    · exact h p (by simp)
    · rename_i e
      obtain ⟨q, hq, rfl⟩ := hn
      rcases List.mem_cons.1 hq with rfl | hq
      · exact absurd rfl e
      · exact ver_in (fun x hx => h x (by simp [hx])) ⟨q, hq, rfl⟩
def mergeT : List Pk → List Pk → List Tn
  | [], [] => []
  | o :: os, [] => (o.1, o.2, 0) :: mergeT os []
  | [], n :: ns => (n.1, 0, n.2) :: mergeT [] ns
  | o :: os, n :: ns => if o.1 < n.1 then (o.1, o.2, 0) :: mergeT os (n :: ns) else if n.1 < o.1 then (n.1, 0, n.2) :: mergeT (o :: os) ns else (o.1, o.2, n.2) :: mergeT os ns
termination_by os ns => os.length + ns.length
theorem mergeT_nn : mergeT [] [] = [] := by rw [mergeT]
theorem mergeT_on (o : Pk) (os : List Pk) : mergeT (o :: os) [] = (o.1, o.2, 0) :: mergeT os [] := by rw [mergeT]
theorem mergeT_no (n : Pk) (ns : List Pk) : mergeT [] (n :: ns) = (n.1, 0, n.2) :: mergeT [] ns := by rw [mergeT]
theorem mergeT_oo (o n : Pk) (os ns : List Pk) : mergeT (o :: os) (n :: ns) = if o.1 < n.1 then (o.1, o.2, 0) :: mergeT os (n :: ns) else if n.1 < o.1 then (n.1, 0, n.2) :: mergeT (o :: os) ns else (o.1, o.2, n.2) :: mergeT os ns := by rw [mergeT]
/-- What a merged list is. -/
def Told (os ns : List Pk) (m : List Tn) : Prop := (∀ t ∈ m, t.2.1 = ver os t.1 ∧ t.2.2 = ver ns t.1) ∧ m.Pairwise (fun a b => a.1 < b.1) ∧ ∀ x, (∃ t ∈ m, t.1 = x) ↔ (∃ p ∈ os, p.1 = x) ∨ ∃ p ∈ ns, p.1 = x
theorem told_cons {os ns os' ns' : List Pk} {m : List Tn} {t : Tn} (h : Told os' ns' m) (ho : ∀ x, t.1 < x → ver os x = ver os' x) (hn : ∀ x, t.1 < x → ver ns x = ver ns' x) (h1 : t.2.1 = ver os t.1 ∧ t.2.2 = ver ns t.1)
    (hlt : ∀ x, ((∃ p ∈ os', p.1 = x) ∨ ∃ p ∈ ns', p.1 = x) → t.1 < x) (hm : ∀ x, ((∃ p ∈ os, p.1 = x) ∨ ∃ p ∈ ns, p.1 = x) ↔ t.1 = x ∨ (∃ p ∈ os', p.1 = x) ∨ ∃ p ∈ ns', p.1 = x) : Told os ns (t :: m) := by
  obtain ⟨k1, k2, k3⟩ := h
  have hl : ∀ s ∈ m, t.1 < s.1 := fun s hs => hlt _ ((k3 s.1).1 ⟨s, hs, rfl⟩)
  refine ⟨fun s hs => ?_, List.pairwise_cons.2 ⟨hl, k2⟩, fun x => ?_⟩
  · rcases List.mem_cons.1 hs with rfl | hs
    · exact h1
    · rw [ho _ (hl s hs), hn _ (hl s hs)]; exact k1 s hs
  · rw [hm x, ← k3 x]
    constructor
    · rintro ⟨s, hs, rfl⟩
      rcases List.mem_cons.1 hs with rfl | hs
      · exact .inl rfl
      · exact .inr ⟨s, hs, rfl⟩
    · rintro (rfl | ⟨s, hs, rfl⟩)
      · exact ⟨t, by simp, rfl⟩
      · exact ⟨s, by simp [hs], rfl⟩
theorem strict_cons {p : Pk} {l : List Pk} (h : Strict (p :: l)) : (∀ q ∈ l, p.1 < q.1) ∧ Strict l := List.pairwise_cons.1 h
theorem ver_skip {p : Pk} {l : List Pk} {x : List UInt8} (h : p.1 < x) : ver (p :: l) x = ver l x := by rw [ver_cons, if_neg (lt_ne h)]
theorem ver_zero {l : List Pk} {x : List UInt8} (h : ∀ q ∈ l, x < q.1) : ver l x = 0 := ver_not fun q hq e => by have := h q hq; rw [e] at this; exact List.lt_irrefl _ this
theorem merge_told : ∀ (k : Nat) (os ns : List Pk), os.length + ns.length ≤ k → Strict os → Strict ns → Told os ns (mergeT os ns)
  | k, [], [], _, _, _ => by rw [mergeT_nn]; exact ⟨by simp, .nil, by simp⟩
  | 0, o :: os, ns, hk, _, _ => by simp at hk
  | 0, [], n :: ns, hk, _, _ => by simp at hk
  | k + 1, o :: os, [], hk, ho, hn => by
    obtain ⟨o1, o2⟩ := strict_cons ho
    rw [mergeT_on]
    refine told_cons (merge_told k os [] (by simp at hk ⊢; omega) o2 hn) (fun x hx => ver_skip hx) (fun _ _ => rfl) ⟨by simp [ver_cons], rfl⟩ ?_ ?_
    · rintro x (⟨p, hp, rfl⟩ | ⟨p, hp, _⟩)
      · exact o1 p hp
      · cases hp
    · intro x; simp
  | k + 1, [], n :: ns, hk, ho, hn => by
    obtain ⟨n1, n2⟩ := strict_cons hn
    rw [mergeT_no]
    refine told_cons (merge_told k [] ns (by simp at hk ⊢; omega) ho n2) (fun _ _ => rfl) (fun x hx => ver_skip hx) ⟨rfl, by simp [ver_cons]⟩ ?_ ?_
    · rintro x (⟨p, hp, _⟩ | ⟨p, hp, rfl⟩)
      · cases hp
      · exact n1 p hp
    · intro x; simp
  | k + 1, o :: os, n :: ns, hk, ho, hn => by
    obtain ⟨o1, o2⟩ := strict_cons ho
    obtain ⟨n1, n2⟩ := strict_cons hn
    simp only [List.length_cons] at hk
    rw [mergeT_oo]
    split
    · rename_i h
      refine told_cons (merge_told k os (n :: ns) (by simp; omega) o2 hn) (fun x hx => ver_skip hx) (fun _ _ => rfl) ⟨by simp [ver_cons], ?_⟩ ?_ ?_
      · refine (ver_zero fun q hq => ?_).symm
        rcases List.mem_cons.1 hq with rfl | hq
        · exact h
        · exact List.lt_trans h (n1 q hq)
      · rintro x (⟨p, hp, rfl⟩ | ⟨p, hp, rfl⟩)
        · exact o1 p hp
        · rcases List.mem_cons.1 hp with rfl | hp
          · exact h
          · exact List.lt_trans h (n1 p hp)
      · intro x; simp [or_assoc]
    · rename_i h
      split
      · rename_i h2
        refine told_cons (merge_told k (o :: os) ns (by simp; omega) ho n2) (fun _ _ => rfl) (fun x hx => ver_skip hx) ⟨?_, by simp [ver_cons]⟩ ?_ ?_
        · refine (ver_zero fun q hq => ?_).symm
          rcases List.mem_cons.1 hq with rfl | hq
          · exact h2
          · exact List.lt_trans h2 (o1 q hq)
        · rintro x (⟨p, hp, rfl⟩ | ⟨p, hp, rfl⟩)
          · rcases List.mem_cons.1 hp with rfl | hp
            · exact h2
            · exact List.lt_trans h2 (o1 p hp)
          · exact n1 p hp
        · intro x
          simp only [List.mem_cons, exists_eq_or_imp]
          constructor
          · rintro ((h | h) | (h | h))
            · exact .inr (.inl (.inl h))
            · exact .inr (.inl (.inr h))
            · exact .inl h
            · exact .inr (.inr h)
          · rintro (h | (h | h) | h)
            · exact .inr (.inl h)
            · exact .inl (.inl h)
            · exact .inl (.inr h)
            · exact .inr (.inr h)
      · rename_i h2
        have he : o.1 = n.1 := (lt_or o.1 n.1).resolve_left h |>.resolve_right h2
        refine told_cons (merge_told k os ns (by omega) o2 n2) (fun x hx => ver_skip hx) (fun x hx => ver_skip (by rw [← he]; exact hx)) ⟨by simp [ver_cons], by simp [ver_cons, he]⟩ ?_ ?_
        · rintro x (⟨p, hp, rfl⟩ | ⟨p, hp, rfl⟩)
          · exact o1 p hp
          · show o.1 < p.1
            rw [he]; exact n1 p hp
        · intro x
          simp only [List.mem_cons, exists_eq_or_imp]
          rw [← he]
          constructor
          · rintro ((h | h) | (h | h))
            · exact .inl h
            · exact .inr (.inl h)
            · exact .inl h
            · exact .inr (.inr h)
          · rintro (h | h | h)
            · exact .inl (.inl h)
            · exact .inl (.inr h)
            · exact .inr (.inr h)
/-- Names: one list, rising, a set. -/
theorem strict_ext : ∀ {a b : List (List UInt8)}, a.Pairwise (· < ·) → b.Pairwise (· < ·) → (∀ x, x ∈ a ↔ x ∈ b) → a = b
  | [], [], _, _, _ => rfl
  | [], y :: b, _, _, h => by have := (h y).2 (by simp); cases this
  | x :: a, [], _, _, h => by have := (h x).1 (by simp); cases this
  | x :: a, y :: b, ha, hb, h => by
    obtain ⟨a1, a2⟩ := List.pairwise_cons.1 ha
    obtain ⟨b1, b2⟩ := List.pairwise_cons.1 hb
    have e : x = y := by
      rcases List.mem_cons.1 ((h x).1 (by simp)) with e | e
      · exact e
      · rcases List.mem_cons.1 ((h y).2 (by simp)) with e2 | e2
        · exact e2.symm
        · exact absurd (List.lt_trans (b1 x e) (a1 y e2)) (List.lt_irrefl _)
    subst e
    rw [strict_ext a2 b2 fun z => ?_]
    have hz := h z
    simp only [List.mem_cons] at hz
    constructor
    · intro q
      rcases hz.1 (.inr q) with e | e
      · subst e; exact absurd (a1 z q) (List.lt_irrefl _)
      · exact e
    · intro q
      rcases hz.2 (.inr q) with e | e
      · subst e; exact absurd (b1 z q) (List.lt_irrefl _)
      · exact e
def sortN (l : List (List UInt8)) : List (List UInt8) := l.mergeSort fun x y => decide (x ≤ y)
theorem sortN_strict {l : List (List UInt8)} (h : l.Nodup) : (sortN l).Pairwise (· < ·) ∧ ∀ x, x ∈ sortN l ↔ x ∈ l := by
  have hp := List.mergeSort_perm l fun x y => decide (x ≤ y)
  have hs := List.pairwise_mergeSort (le := fun x y : List UInt8 => decide (x ≤ y)) (fun a b c h k => by simp only [decide_eq_true_eq] at *; exact List.le_trans h k) (fun a b => by simp only [Bool.or_eq_true, decide_eq_true_eq]; exact List.le_total a b) l
  refine ⟨?_, fun x => hp.mem_iff⟩
  have hn : (sortN l).Nodup := hp.nodup_iff.2 h
  have hs : (sortN l).Pairwise fun x y => x ≤ y := hs.imp fun h => by simpa using h
  exact (List.pairwise_and_iff.2 ⟨hs, hn⟩).imp fun ⟨h1, h2⟩ => by
    rcases lt_or _ _ with h | h | h
    · exact h
    · exact absurd h h2
    · exact absurd (List.le_antisymm h1 (List.le_of_lt h)) h2
def namesL (os ns : List Pk) : List (List UInt8) := os.map (·.1) ++ (ns.filter fun p => decide (ver os p.1 = 0)).map (·.1)
theorem strict_nodup {l : List Pk} (h : Strict l) : (l.map (·.1)).Nodup := by
  rw [List.Nodup, List.pairwise_map]
  exact List.Pairwise.imp (fun h => lt_ne h) h
theorem names_sorted {os ns : List Pk} (ho : Strict os) (hn : Strict ns) (hv : ∀ p ∈ os, 1 ≤ p.2) : sortN (namesL os ns) = (mergeT os ns).map (·.1) := by
  obtain ⟨_, m2, m3⟩ := merge_told _ os ns (Nat.le_refl _) ho hn
  have hnd : (namesL os ns).Nodup := by
    refine List.nodup_append.2 ⟨strict_nodup ho, strict_nodup (List.Pairwise.filter _ hn), fun x hx y hy e => ?_⟩
    subst e
    obtain ⟨p, hp, rfl⟩ := List.mem_map.1 hx
    obtain ⟨q, hq, e⟩ := List.mem_map.1 hy
    have h0 := (List.mem_filter.1 hq).2
    have h1 := ver_in hv ⟨p, hp, e.symm⟩
    simp only [decide_eq_true_eq] at h0
    omega
  obtain ⟨s1, s2⟩ := sortN_strict hnd
  refine strict_ext s1 (List.pairwise_map.2 m2) fun x => ?_
  rw [s2, List.mem_map]
  show _ ↔ ∃ t ∈ mergeT os ns, t.1 = x
  rw [m3, namesL, List.mem_append, List.mem_map, List.mem_map]
  constructor
  · rintro (⟨p, hp, rfl⟩ | ⟨p, hp, rfl⟩)
    · exact .inl ⟨p, hp, rfl⟩
    · exact .inr ⟨p, (List.mem_filter.1 hp).1, rfl⟩
  · rintro (⟨p, hp, rfl⟩ | ⟨p, hp, rfl⟩)
    · exact .inl ⟨p, hp, rfl⟩
    · by_cases h : ver os p.1 = 0
      · exact .inr ⟨p, List.mem_filter.2 ⟨hp, by simpa using h⟩, rfl⟩
      · left
        by_cases q : ∃ r ∈ os, r.1 = p.1
        · exact q
        · exact absurd (ver_not fun r hr e => q ⟨r, hr, e⟩) h
def turnsF (os ns : List Pk) : List Tn := (mergeT os ns).filter fun t => decide (t.2.1 ≠ t.2.2)
def turnsN (os ns : List Pk) (l : List (List UInt8)) : List Tn := (l.map fun n => (n, ver os n, ver ns n)).filter fun t => decide (t.2.1 ≠ t.2.2)
theorem turns_same {os ns : List Pk} (ho : Strict os) (hn : Strict ns) (hv : ∀ p ∈ os, 1 ≤ p.2) : turnsN os ns (sortN (namesL os ns)) = turnsF os ns := by
  obtain ⟨m1, _, _⟩ := merge_told _ os ns (Nat.le_refl _) ho hn
  rw [names_sorted ho hn hv, turnsN, turnsF, List.map_map]
  congr 1
  have h : ∀ l : List Tn, (∀ t ∈ l, t.2.1 = ver os t.1 ∧ t.2.2 = ver ns t.1) → l.map ((fun n => (n, ver os n, ver ns n)) ∘ fun t : Tn => t.1) = l := by
    intro l
    induction l with
    | nil => intro _; rfl
    | cons t l ih =>
      intro h
      obtain ⟨h1, h2⟩ := h t (by simp)
      rw [List.map_cons, ih fun x hx => h x (by simp [hx]), Function.comp, ← h1, ← h2]
  exact h _ m1
end lk
end Go.Proofs.Ytacecjfpkdijpaa

set_option linter.unusedSimpArgs false
set_option linter.unusedVariables false
namespace Go.Proofs.Ytacecjfpkdijpaa
open Go.Proofs.YtacecjfpkdijpaaV
set_option maxHeartbeats 400000
set_option maxRecDepth 100000
/-- A letter that no name has at place i. -/
def badAt (i : Nat) (c : UInt8) : Bool := (decide ((c.toNat : Int) < 97) || decide ((c.toNat : Int) > 122)) && (decide ((i : Int) = 0) || (decide ((c.toNat : Int) ≠ 95) && (decide ((c.toNat : Int) < 48) || decide ((c.toNat : Int) > 57))))
def isName (s : List UInt8) : Bool := (List.range s.length).all (fun i => !badAt i (s.getD i 0)) && (decide ((s.length : Int) ≥ 1) && decide ((s.length : Int) ≤ 16))
theorem q_Name (s : List UInt8) (hs : (s.length : Int) ≤ 9223372036854775807) : Quiet Try.prog 195 [.str s] (.bool (isName s)) := by
  intro G
  refine acall_body (rs := [.tmp 2]) Try.func195 rfl rfl Try.ntmps195 (by kernel_rfl) (Nat.le_of_ble_eq_true rfl) ?_
  refine aw_sr rfl ?_
  simp only [go_sem, reduceIte, Nat.reduceEqDiff, Nat.reduceAdd, Nat.reduceMul, Nat.reduceSub, Nat.reduceLeDiff, Nat.reduceLT, reduceCtorEq]
  refine aw_seq fun K hK => ?_
  refine aw_sr rfl ?_
  simp only [go_sem, reduceIte, Nat.reduceEqDiff, Nat.reduceAdd, Nat.reduceMul, Nat.reduceSub, Nat.reduceLeDiff, Nat.reduceLT, reduceCtorEq]
  refine aw_range s.length (S := Unit) (fun _ _ => [(0, .str s)]) (fun _ _ => G) (fun i _ => (List.range i).all (fun i => !badAt i (s.getD i 0)) = true) () hs ?_ (fun _ _ h => h) rfl rfl (fun _ _ => rfl) ?_ ?_ (by decide)
  · simp only [go_sem, reduceIte, Nat.reduceEqDiff, Nat.reduceAdd, Nat.reduceMul, Nat.reduceSub, Nat.reduceLeDiff, Nat.reduceLT, reduceCtorEq, Int.natCast_zero]
  · intro i _ hi he
    refine aw_sr rfl ?_
    simp only [go_sem, reduceIte, Nat.reduceEqDiff, Nat.reduceAdd, Nat.reduceMul, Nat.reduceSub, Nat.reduceLeDiff, Nat.reduceLT, reduceCtorEq]
    refine aw_sr rfl ?_
    simp only [go_sem, reduceIte, Nat.reduceEqDiff, Nat.reduceAdd, Nat.reduceMul, Nat.reduceSub, Nat.reduceLeDiff, Nat.reduceLT, reduceCtorEq]
    refine ⟨⟨by omega, by omega⟩, ?_⟩
    refine aw_sr rfl ?_
    simp only [go_sem, reduceIte, Nat.reduceEqDiff, Nat.reduceAdd, Nat.reduceMul, Nat.reduceSub, Nat.reduceLeDiff, Nat.reduceLT, reduceCtorEq]
    refine aw_if rfl (fun h => ?_) (fun h => ?_)
    · have hb : badAt i (s.getD i 0) = true := h
      refine aw_sr rfl ?_
      simp only [go_sem, reduceIte, Nat.reduceEqDiff, Nat.reduceAdd, Nat.reduceMul, Nat.reduceSub, Nat.reduceLeDiff, Nat.reduceLT, reduceCtorEq]
      refine aw_ret ⟨trivial, _, rfl, ?_, rfl⟩
      have : (List.range s.length).all (fun i => !badAt i (s.getD i 0)) = false := by
        rw [List.all_eq_false]
        exact ⟨i, by simpa using hi, by simp only [hb]; decide⟩
      simp only [isName, this, Bool.false_and]
      rfl
    · have hb : badAt i (s.getD i 0) = false := h
      refine aw_skip ⟨(), ?_, ?_, fun _ _ h => h⟩
      · rw [List.all_append, he]; simp only [List.all_cons, List.all_nil, hb]; rfl
      · simp only [go_sem, reduceIte, Nat.reduceEqDiff, Nat.reduceAdd, Nat.reduceMul, Nat.reduceSub, Nat.reduceLeDiff, Nat.reduceLT, reduceCtorEq]
  · intro _ he
    refine hK _ _ ?_
    refine aw_sr rfl ?_
    simp only [go_sem, reduceIte, Nat.reduceEqDiff, Nat.reduceAdd, Nat.reduceMul, Nat.reduceSub, Nat.reduceLeDiff, Nat.reduceLT, reduceCtorEq]
    refine aw_ret ⟨trivial, _, rfl, ?_, rfl⟩
    simp only [isName, he, Bool.true_and]
    rfl
end Go.Proofs.Ytacecjfpkdijpaa

set_option linter.unusedSimpArgs false
set_option linter.unusedVariables false
namespace Go.Proofs.Ytacecjfpkdijpaa
open Go.Proofs.YtacecjfpkdijpaaV
set_option maxHeartbeats 400000
set_option maxRecDepth 100000
/-- api.Use: a name, a low version, a high one. -/
def eUse (u : List UInt8 × Int × Int) : List V := [.str u.1, .int .i64 u.2.1, .int .i64 u.2.2]
theorem sca_use (us : List (List UInt8 × Int × Int)) : sca (us.map eUse) := by
  intro e he x hx
  obtain ⟨u, _, rfl⟩ := List.mem_map.1 he
  simp only [eUse, List.mem_cons, List.not_mem_nil, or_false] at hx
  rcases hx with rfl | rfl | rfl <;> rfl
end Go.Proofs.Ytacecjfpkdijpaa

set_option linter.unusedSimpArgs false
set_option linter.unusedVariables false
namespace Go.Proofs.Ytacecjfpkdijpaa
open Go.Proofs.YtacecjfpkdijpaaV
set_option maxHeartbeats 400000
set_option maxRecDepth 100000
def useBad (u : List UInt8 × Int × Int) : Bool := decide (u.2.1 < 1) || decide (9999 < u.2.2) || decide (u.2.2 < u.2.1)
/-- What is wrong with uses: the first that is wrong says it. -/
def usesF : List (List UInt8 × Int × Int) → Int
  | [] => 0
  | u :: us => if isName u.1 = false then 11 else if useBad u = true then 1 else usesF us
theorem hsub_cons {G : Heap} {b : Nat} {o : AObj} (h : hget G b = none) : ∀ b' o', hget G b' = some o' → hget ((b, o) :: G) b' = some o' := by
  intro b' o' h'
  rw [hget_cons, if_neg]
  · exact h'
  · intro e; subst e; rw [h] at h'; cases h'
theorem hset_self {G : Heap} {b : Nat} {o x : AObj} : hset ((b, o) :: G) b x = (b, x) :: G := by simp [hset]
attribute [go_sem] hget_self hset_self List.all_cons List.all_nil scalarV Nat.zero_add
end Go.Proofs.Ytacecjfpkdijpaa

set_option linter.unusedSimpArgs false
set_option linter.unusedVariables false
namespace Go.Proofs.Ytacecjfpkdijpaa
open Go.Proofs.YtacecjfpkdijpaaV
set_option maxHeartbeats 400000
set_option maxRecDepth 100000
theorem q_ModuleName (s : List UInt8) (hs : (s.length : Int) ≤ 9223372036854775807) : Quiet Try.prog 196 [.str s] (.bool (isName s)) := by
  intro G
  refine acall_body (rs := [.tmp 2]) Try.func196 rfl rfl Try.ntmps196 (by kernel_rfl) (Nat.le_of_ble_eq_true rfl) ?_
  refine aw_sr rfl ?_
  simp only [go_sem, reduceIte, Nat.reduceEqDiff, Nat.reduceAdd, Nat.reduceMul, Nat.reduceSub, Nat.reduceLeDiff, Nat.reduceLT, reduceCtorEq]
  refine aw_seq fun K hK => ?_
  refine aw_sr rfl ?_
  simp only [go_sem, reduceIte, Nat.reduceEqDiff, Nat.reduceAdd, Nat.reduceMul, Nat.reduceSub, Nat.reduceLeDiff, Nat.reduceLT, reduceCtorEq]
  refine aw_if rfl (fun h => ?_) (fun h => ?_)
  · refine aw_sr rfl ?_
    simp only [go_sem, reduceIte, Nat.reduceEqDiff, Nat.reduceAdd, Nat.reduceMul, Nat.reduceSub, Nat.reduceLeDiff, Nat.reduceLT, reduceCtorEq]
    refine aw_ret ⟨trivial, _, rfl, ?_, rfl⟩
    have : (decide ((s.length : Int) ≥ 1) && decide ((s.length : Int) ≤ 16)) = false := by
      simp only [Bool.or_eq_true, decide_eq_true_eq, Bool.and_eq_false_iff, decide_eq_false_iff_not] at h ⊢
      rcases h with h | h
      · left; subst h; simp
      · right; omega
    simp only [isName, this, Bool.and_false]
    rfl
  · have hlen : (decide ((s.length : Int) ≥ 1) && decide ((s.length : Int) ≤ 16)) = true := by
      simp only [Bool.or_eq_false_iff, decide_eq_false_iff_not, Bool.and_eq_true, decide_eq_true_eq] at h ⊢
      have : s.length ≠ 0 := fun e => h.1 (List.eq_nil_of_length_eq_zero e)
      omega
    refine aw_skip (hK _ _ ?_)
    refine aw_seq fun K2 hK2 => ?_
    refine aw_sr rfl ?_
    simp only [go_sem, reduceIte, Nat.reduceEqDiff, Nat.reduceAdd, Nat.reduceMul, Nat.reduceSub, Nat.reduceLeDiff, Nat.reduceLT, reduceCtorEq]
    refine aw_range s.length (S := Unit) (fun _ _ => [(14, .sl (bytesV s) false .no)]) (fun _ _ => G) (fun i _ => (List.range i).all (fun i => !badAt i (s.getD i 0)) = true) () hs ?_ (fun _ _ h => h) rfl rfl (fun _ _ => rfl) ?_ ?_ (by decide)
    · simp only [go_sem, reduceIte, Nat.reduceEqDiff, Nat.reduceAdd, Nat.reduceMul, Nat.reduceSub, Nat.reduceLeDiff, Nat.reduceLT, reduceCtorEq, Int.natCast_zero]
    · intro i _ hi he
      refine aw_sr rfl ?_
      simp only [go_sem, reduceIte, Nat.reduceEqDiff, Nat.reduceAdd, Nat.reduceMul, Nat.reduceSub, Nat.reduceLeDiff, Nat.reduceLT, reduceCtorEq, getD_bytesV s i hi]
      refine ⟨⟨by omega, by omega, wid_bytes _⟩, ?_⟩
      refine aw_sr rfl ?_
      simp only [go_sem, reduceIte, Nat.reduceEqDiff, Nat.reduceAdd, Nat.reduceMul, Nat.reduceSub, Nat.reduceLeDiff, Nat.reduceLT, reduceCtorEq]
      refine aw_sr rfl ?_
      simp only [go_sem, reduceIte, Nat.reduceEqDiff, Nat.reduceAdd, Nat.reduceMul, Nat.reduceSub, Nat.reduceLeDiff, Nat.reduceLT, reduceCtorEq]
      refine aw_if rfl (fun h => ?_) (fun h => ?_)
      · have hb : badAt i (s.getD i 0) = true := by
          simp only [badAt, Bool.and_eq_true, Bool.or_eq_true, Bool.not_eq_true', Bool.and_eq_false_iff, decide_eq_true_eq, decide_eq_false_iff_not] at h ⊢
          omega
        refine aw_sr rfl ?_
        simp only [go_sem, reduceIte, Nat.reduceEqDiff, Nat.reduceAdd, Nat.reduceMul, Nat.reduceSub, Nat.reduceLeDiff, Nat.reduceLT, reduceCtorEq]
        refine aw_ret ⟨trivial, _, rfl, ?_, rfl⟩
        have : (List.range s.length).all (fun i => !badAt i (s.getD i 0)) = false := by
          rw [List.all_eq_false]
          exact ⟨i, by simpa using hi, by simp only [hb]; decide⟩
        simp only [isName, this, Bool.false_and]
        rfl
      · have hb : badAt i (s.getD i 0) = false := by
          simp only [badAt, Bool.and_eq_false_iff, Bool.or_eq_false_iff, Bool.not_eq_false', Bool.and_eq_true, decide_eq_true_eq, decide_eq_false_iff_not] at h ⊢
          omega
        refine aw_skip ⟨(), ?_, ?_, fun _ _ h => h⟩
        · rw [List.all_append, he]; simp only [List.all_cons, List.all_nil, hb]; rfl
        · simp only [go_sem, reduceIte, Nat.reduceEqDiff, Nat.reduceAdd, Nat.reduceMul, Nat.reduceSub, Nat.reduceLeDiff, Nat.reduceLT, reduceCtorEq]
    · intro _ he
      refine hK2 _ _ ?_
      refine aw_sr rfl ?_
      simp only [go_sem, reduceIte, Nat.reduceEqDiff, Nat.reduceAdd, Nat.reduceMul, Nat.reduceSub, Nat.reduceLeDiff, Nat.reduceLT, reduceCtorEq]
      refine aw_ret ⟨trivial, _, rfl, ?_, rfl⟩
      simp only [isName, he, hlen, Bool.true_and]
      rfl
end Go.Proofs.Ytacecjfpkdijpaa

/- What is wrong with picks. No conditions but sizes. -/
set_option linter.unusedSimpArgs false
set_option linter.unusedVariables false
namespace Go.Proofs.Ytacecjfpkdijpaa
open Go.Proofs.YtacecjfpkdijpaaV
set_option maxHeartbeats 1000000
set_option maxRecDepth 100000
namespace lk
theorem goG_off {P : Go.Program} {ops : List Oper} {x : R} {q : Bool} {d : Option Tmp} {op : Op} {r : Go.Proofs.YtacecjfpkdijpaaV.Rest} {f : Go.Proofs.YtacecjfpkdijpaaV.Frame} {G : Heap} {K : Kf} (h : ∀ v, go P ops r (fput f d (.opt false v)) G K) : goG P ops x false q d op r f G K := by
  unfold goG
  split
  · exact ⟨fun e => (by cases e), h _⟩
  · split
    · exact ⟨fun e => (by cases e), fun _ => ⟨.any, h _⟩⟩
    · split
      · split
        · exact ⟨.any, fun e => (by cases e), h _⟩
        · exact ⟨rfl, h _⟩
      · exact ⟨rfl, h _⟩
def cPk (p : Pk) : List V := [.str p.1, .int .i64 p.2]
def ePk (p : Pk) : List V := cPk p
theorem wid_ePk (xs : List Pk) : wid 2 (xs.map ePk) := wid_map (g := ePk) (fun _ => rfl) _
def faultP : List UInt8 → List Pk → Int
  | _, [] => 0
  | last, p :: l => if isName p.1 = false then 11 else if (decide (p.2 < 1) || decide (9999 < p.2)) = true then 1 else if p.1 ≤ last then 21 else faultP p.1 l
theorem faultP_cons (last : List UInt8) (p : Pk) (l : List Pk) : faultP last (p :: l) = if isName p.1 = false then 11 else if (decide (p.2 < 1) || decide (9999 < p.2)) = true then 1 else if p.1 ≤ last then 21 else faultP p.1 l := rfl
def faultK (l : List Pk) : Int := if 30 < l.length then 2 else faultP [] l
theorem isName_ne {s : List UInt8} (h : isName s = true) : ¬ s ≤ [] := by
  unfold isName at h
  simp only [Bool.and_eq_true, decide_eq_true_eq] at h
  cases s with
  | nil => simp at h
  | cons a l => intro h2; exact h2 (List.nil_lt_cons a l)
theorem faultP_ok : ∀ {l : List Pk} {last : List UInt8}, faultP last l = 0 → Strict l ∧ (∀ p ∈ l, last < p.1) ∧ (∀ p ∈ l, 1 ≤ p.2 ∧ p.2 ≤ 9999)
  | [], _, _ => ⟨.nil, by simp, by simp⟩
  | p :: l, last, h => by
    rw [faultP_cons] at h
    by_cases h1 : isName p.1 = false
    · rw [if_pos h1] at h; omega
    rw [if_neg h1] at h
    by_cases h2 : (decide (p.2 < 1) || decide (9999 < p.2)) = true
    · rw [if_pos h2] at h; omega
    rw [if_neg h2] at h
    by_cases h3 : p.1 ≤ last
    · rw [if_pos h3] at h; omega
    rw [if_neg h3] at h
    obtain ⟨i1, i2, i3⟩ := faultP_ok h
    have h3 : last < p.1 := List.not_le.1 h3
    have h2 : 1 ≤ p.2 ∧ p.2 ≤ 9999 := by
      simp only [Bool.or_eq_true, decide_eq_true_eq, not_or] at h2; omega
    refine ⟨List.pairwise_cons.2 ⟨i2, i1⟩, fun q hq => ?_, fun q hq => ?_⟩
    · rcases List.mem_cons.1 hq with rfl | hq
      · exact h3
      · exact List.lt_trans h3 (i2 q hq)
    · rcases List.mem_cons.1 hq with rfl | hq
      · exact h2
      · exact i3 q hq
theorem faultK_ok {l : List Pk} (h : faultK l = 0) : l.length ≤ 30 ∧ Strict l ∧ (∀ p ∈ l, 1 ≤ p.2 ∧ p.2 ≤ 9999) := by
  unfold faultK at h
  split at h
  · omega
  · obtain ⟨h1, _, h3⟩ := faultP_ok h
    exact ⟨by omega, h1, h3⟩
def lastP (l : List Pk) (i : Nat) : List UInt8 := if h : 0 < i ∧ i - 1 < l.length then (l[i - 1]'h.2).1 else []
theorem lastP_succ {l : List Pk} {i : Nat} (h : i < l.length) : lastP l (i + 1) = l[i].1 := by
  rw [lastP, dif_pos ⟨by omega, by omega⟩]; rfl
end lk
open lk in
theorem q_PCheck (l : List Pk) (nl : Bool) (t : Tag) (hl : l.length ≤ 1048576) (hs : ∀ p ∈ l, p.1.length ≤ 1048576) : Quiet Try.prog 141 [.sl (l.map ePk) nl t] (.int .i64 (faultK l)) := by
  refine Quiet.weak fun G => ?_
  refine acall_body (rs := [.tmp 2]) Try.func141 rfl rfl Try.ntmps141 (by kernel_rfl) (Nat.le_of_ble_eq_true rfl) ?_
  refine aw_sr rfl ?_  -- r0 @lock.go:15
  simp only [go_sem, reduceIte, Nat.reduceEqDiff, Nat.reduceAdd, Nat.reduceMul, Nat.reduceSub, Nat.reduceLeDiff, Nat.reduceLT, reduceCtorEq]
  refine aw_seq fun K1 hK1 => ?_
  refine aw_sr rfl ?_  -- r1 @lock.go:16
  simp only [go_sem, reduceIte, Nat.reduceEqDiff, Nat.reduceAdd, Nat.reduceMul, Nat.reduceSub, Nat.reduceLeDiff, Nat.reduceLT, reduceCtorEq]
  refine aw_if rfl (fun h => ?_) (fun h => ?_)
  · refine aw_sr rfl ?_  -- r2 @lock.go:17
    simp only [go_sem, reduceIte, Nat.reduceEqDiff, Nat.reduceAdd, Nat.reduceMul, Nat.reduceSub, Nat.reduceLeDiff, Nat.reduceLT, reduceCtorEq]
    refine aw_ret ⟨trivial, _, rfl, ?_, sub_rfl⟩
    rw [faultK, if_pos (by rw [decide_eq_true_eq] at h; omega)]
    exact Vle.refl _
  have h30 : ¬ 30 < l.length := by rw [decide_eq_false_iff_not] at h; omega
  have hV : faultK l = faultP [] l := by rw [faultK, if_neg h30]
  refine aw_skip (hK1 _ _ ?_)
  refine aw_seq fun K2 hK2 => ?_
  refine aw_sr rfl ?_  -- r3 @lock.go:19
  simp only [go_sem, reduceIte, Nat.reduceEqDiff, Nat.reduceAdd, Nat.reduceMul, Nat.reduceSub, Nat.reduceLeDiff, Nat.reduceLT, reduceCtorEq]
  refine aw_range l.length (S := Unit) (fun i _ => [(0, .sl (l.map ePk) nl t), (8, .sl (l.map ePk) nl t)]) (fun _ _ => G) (fun i _ => faultP [] l = faultP (lastP l i) (l.drop i)) () (by omega) ?_ (fun _ _ h => h) (by simp [lastP]) rfl (fun _ _ => rfl) ?_ ?_ (by decide)
  · simp only [go_sem, reduceIte, Nat.reduceEqDiff, Nat.reduceAdd, Nat.reduceMul, Nat.reduceSub, Nat.reduceLeDiff, Nat.reduceLT, reduceCtorEq, Int.natCast_zero]
  · intro i _ hi he
    rw [List.drop_eq_getElem_cons hi, faultP_cons] at he
    have hsi := hs l[i] (List.getElem_mem hi)
    have hlast := lastP_succ hi
    refine aw_sr rfl ?_  -- r5 @lock.go:19
    simp only [go_sem, reduceIte, Nat.reduceEqDiff, Nat.reduceAdd, Nat.reduceMul, Nat.reduceSub, Nat.reduceLeDiff, Nat.reduceLT, reduceCtorEq, getD_map hi, ePk, cPk]
    refine ⟨⟨by omega, by omega, wid_ePk _⟩, ?_⟩
    generalize hr : l[i] = r at he hsi hlast
    intro b4 hb4
    refine aw_box1 hb4 fun B1 hs1 h4 => ?_
    have hsB := hs1
    refine aw_seq fun K3 hK3 => ?_
    refine aw_sr rfl ?_  -- r6 @lock.go:20
    simp only [go_sem, reduceIte, Nat.reduceEqDiff, Nat.reduceAdd, Nat.reduceMul, Nat.reduceSub, Nat.reduceLeDiff, Nat.reduceLT, reduceCtorEq, h4]
    refine goA_q (q_Name r.1 (by omega)) ?_
    simp only [go_sem, reduceIte, Nat.reduceEqDiff, Nat.reduceAdd, Nat.reduceMul, Nat.reduceSub, Nat.reduceLeDiff, Nat.reduceLT, reduceCtorEq, h4]
    refine aw_if rfl (fun h => ?_) (fun h => ?_)
    · have h1 : isName r.1 = false := by simpa using h
      rw [if_pos h1] at he
      refine aw_sr rfl ?_  -- r7 @lock.go:21
      simp only [go_sem, reduceIte, Nat.reduceEqDiff, Nat.reduceAdd, Nat.reduceMul, Nat.reduceSub, Nat.reduceLeDiff, Nat.reduceLT, reduceCtorEq]
      refine aw_ret ⟨trivial, _, rfl, ?_, hsB⟩
      rw [hV, he]; exact Vle.refl _
    have h1 : isName r.1 = true := by simpa using h
    rw [if_neg (by rw [h1]; simp)] at he
    refine aw_skip (hK3 _ _ ?_)
    refine aw_seq fun K4 hK4 => ?_
    refine aw_sr rfl ?_  -- r8 @lock.go:23
    simp only [go_sem, reduceIte, Nat.reduceEqDiff, Nat.reduceAdd, Nat.reduceMul, Nat.reduceSub, Nat.reduceLeDiff, Nat.reduceLT, reduceCtorEq, h4]
    refine aw_if rfl (fun h => ?_) (fun h => ?_)
    · have h2 : (decide (r.2 < 1) || decide (9999 < r.2)) = true := h
      rw [if_pos h2] at he
      refine aw_sr rfl ?_  -- r9 @lock.go:24
      simp only [go_sem, reduceIte, Nat.reduceEqDiff, Nat.reduceAdd, Nat.reduceMul, Nat.reduceSub, Nat.reduceLeDiff, Nat.reduceLT, reduceCtorEq]
      refine aw_ret ⟨trivial, _, rfl, ?_, hsB⟩
      rw [hV, he]; exact Vle.refl _
    have h2 : (decide (r.2 < 1) || decide (9999 < r.2)) = false := h
    rw [if_neg (by rw [h2]; simp)] at he
    refine aw_skip (hK4 _ _ ?_)
    by_cases h0 : i = 0
    · subst h0
      have d0 : decide ((0 : Int) < 0) = false := rfl
      have hl0 : lastP l 0 = [] := by simp [lastP]
      rw [hl0, if_neg (isName_ne h1)] at he
      refine aw_srd [(0,true),(1,true),(2,true),(3,true),(4,true),(5,true),(6,true),(7,true),(8,true),(9,true),(10,true),(11,true),(12,true)] mixed rfl (by kernel_rfl) ?_  -- r10 @lock.go:26
      simp only [go_sem, reduceIte, Nat.reduceEqDiff, Nat.reduceAdd, Nat.reduceMul, Nat.reduceSub, Nat.reduceLeDiff, Nat.reduceLT, reduceCtorEq, h4, d0, Int.natCast_zero, true_imp_iff, false_imp_iff, Bool.false_eq_true]
      repeat' first
        | (refine lk.goG_off fun v => ?_
           simp only [go_sem, reduceIte, Nat.reduceEqDiff, Nat.reduceAdd, Nat.reduceMul, Nat.reduceSub, Nat.reduceLeDiff, Nat.reduceLT, reduceCtorEq, h4, d0, Int.natCast_zero, true_imp_iff, false_imp_iff, Bool.false_eq_true])
      refine aw_if rfl (fun h => by simp at h) (fun h => ?_)
      refine aw_skip ⟨(), ?_, ?_, hsB⟩
      · rw [hlast]; exact he
      · simp only [go_sem, reduceIte, Nat.reduceEqDiff, Nat.reduceAdd, Nat.reduceMul, Nat.reduceSub, Nat.reduceLeDiff, Nat.reduceLT, reduceCtorEq]
    · have d0 : decide ((0 : Int) < ((i : Nat) : Int)) = true := by rw [decide_eq_true_eq]; omega
      have hw : IntKind.i64.wrap (((i : Nat) : Int) - 1) = ((i - 1 : Nat) : Int) := by rw [wrap64 (by omega) (by omega)]; omega
      have hlp : (l[i - 1]'(by omega)).1 = lastP l i := by rw [lastP, dif_pos ⟨by omega, by omega⟩]
      refine aw_srd [(0,true),(1,true),(2,true),(3,true),(4,true),(5,true),(6,true),(7,true),(8,true),(9,true),(10,true),(11,true),(12,true)] mixed rfl (by kernel_rfl) ?_  -- r10 @lock.go:26
      simp only [go_sem, reduceIte, Nat.reduceEqDiff, Nat.reduceAdd, Nat.reduceMul, Nat.reduceSub, Nat.reduceLeDiff, Nat.reduceLT, reduceCtorEq, h4, d0, hw, Int.toNat_natCast, getD_map (show i - 1 < l.length by omega), ePk, cPk, hlp, less_iff, true_imp_iff]
      refine ⟨⟨by omega, by omega, wid_ePk _⟩, ?_⟩
      refine aw_if rfl (fun h => ?_) (fun h => ?_)
      · have h3 : r.1 ≤ lastP l i := by
          simp at h
          exact h
        rw [if_pos h3] at he
        refine aw_sr rfl ?_  -- r11 @lock.go:27
        simp only [go_sem, reduceIte, Nat.reduceEqDiff, Nat.reduceAdd, Nat.reduceMul, Nat.reduceSub, Nat.reduceLeDiff, Nat.reduceLT, reduceCtorEq]
        refine aw_ret ⟨trivial, _, rfl, ?_, hsB⟩
        rw [hV, he]; exact Vle.refl _
      have h3 : ¬ r.1 ≤ lastP l i := by
        simp at h
        exact List.not_le.2 h
      rw [if_neg h3] at he
      refine aw_skip ⟨(), ?_, ?_, hsB⟩
      · rw [hlast]; exact he
      · simp only [go_sem, reduceIte, Nat.reduceEqDiff, Nat.reduceAdd, Nat.reduceMul, Nat.reduceSub, Nat.reduceLeDiff, Nat.reduceLT, reduceCtorEq]
  intro _ he
  refine hK2 _ _ ?_
  refine aw_sr rfl ?_  -- r13 @lock.go:30
  simp only [go_sem, reduceIte, Nat.reduceEqDiff, Nat.reduceAdd, Nat.reduceMul, Nat.reduceSub, Nat.reduceLeDiff, Nat.reduceLT, reduceCtorEq]
  refine aw_ret ⟨trivial, _, rfl, ?_, sub_rfl⟩
  rw [List.drop_length] at he
  rw [hV, he]; exact Vle.refl _
open lk in
theorem q_LockFault (l : List Pk) (nl : Bool) (t : Tag) (hl : l.length ≤ 1048576) (hs : ∀ p ∈ l, p.1.length ≤ 1048576) : Quiet Try.prog 142 [.sl (l.map ePk) nl t] (.int .i64 (faultK l)) := by
  refine Quiet.weak fun G => ?_
  refine acall_body (rs := [.tmp 2]) Try.func142 rfl rfl Try.ntmps142 (by kernel_rfl) (Nat.le_of_ble_eq_true rfl) ?_
  refine aw_sr rfl ?_  -- r0 @picks.go:181
  simp only [go_sem, reduceIte, Nat.reduceEqDiff, Nat.reduceAdd, Nat.reduceMul, Nat.reduceSub, Nat.reduceLeDiff, Nat.reduceLT, reduceCtorEq]
  refine aw_seq fun K5 hK5 => ?_
  refine aw_sr rfl ?_  -- r1 @picks.go:182
  simp only [go_sem, reduceIte, Nat.reduceEqDiff, Nat.reduceAdd, Nat.reduceMul, Nat.reduceSub, Nat.reduceLeDiff, Nat.reduceLT, reduceCtorEq]
  refine aw_if rfl (fun h => ?_) (fun h => ?_)
  · refine aw_sr rfl ?_  -- r2 @picks.go:183
    simp only [go_sem, reduceIte, Nat.reduceEqDiff, Nat.reduceAdd, Nat.reduceMul, Nat.reduceSub, Nat.reduceLeDiff, Nat.reduceLT, reduceCtorEq]
    refine aw_ret ⟨trivial, _, rfl, ?_, sub_rfl⟩
    rw [faultK, if_pos (by rw [decide_eq_true_eq] at h; omega)]
    exact Vle.refl _
  have h30 : ¬ 30 < l.length := by rw [decide_eq_false_iff_not] at h; omega
  have hV : faultK l = faultP [] l := by rw [faultK, if_neg h30]
  refine aw_skip (hK5 _ _ ?_)
  refine aw_sr rfl ?_  -- r3 @picks.go:185
  simp only [go_sem, reduceIte, Nat.reduceEqDiff, Nat.reduceAdd, Nat.reduceMul, Nat.reduceSub, Nat.reduceLeDiff, Nat.reduceLT, reduceCtorEq]
  refine aw_seq fun K6 hK6 => ?_
  refine aw_sr rfl ?_  -- r4 @picks.go:186
  simp only [go_sem, reduceIte, Nat.reduceEqDiff, Nat.reduceAdd, Nat.reduceMul, Nat.reduceSub, Nat.reduceLeDiff, Nat.reduceLT, reduceCtorEq]
  refine aw_range l.length (S := Unit) (fun i _ => [(3, .str (lastP l i)), (9, .sl (l.map ePk) nl t)]) (fun _ _ => G) (fun i _ => faultP [] l = faultP (lastP l i) (l.drop i)) () (by omega) ?_ (fun _ _ h => h) (by simp [lastP]) rfl (fun _ _ => rfl) ?_ ?_ (by decide)
  · simp only [go_sem, reduceIte, Nat.reduceEqDiff, Nat.reduceAdd, Nat.reduceMul, Nat.reduceSub, Nat.reduceLeDiff, Nat.reduceLT, reduceCtorEq, Int.natCast_zero, show lastP l 0 = [] by simp [lastP]]
  · intro i _ hi he
    rw [List.drop_eq_getElem_cons hi, faultP_cons] at he
    have hsi := hs l[i] (List.getElem_mem hi)
    have hlast := lastP_succ hi
    refine aw_sr rfl ?_  -- r6 @picks.go:186
    simp only [go_sem, reduceIte, Nat.reduceEqDiff, Nat.reduceAdd, Nat.reduceMul, Nat.reduceSub, Nat.reduceLeDiff, Nat.reduceLT, reduceCtorEq, getD_map hi, ePk, cPk]
    refine ⟨⟨by omega, by omega, wid_ePk _⟩, ?_⟩
    generalize l[i] = r at he hsi hlast
    intro b5 hb5
    refine aw_box1 hb5 fun B1 hs1 h5 => ?_
    have hsB := hs1
    refine aw_seq fun K7 hK7 => ?_
    refine aw_block ?_  -- 2
    refine aw_sr rfl ?_  -- r7 @picks.go:188
    simp only [go_sem, reduceIte, Nat.reduceEqDiff, Nat.reduceAdd, Nat.reduceMul, Nat.reduceSub, Nat.reduceLeDiff, Nat.reduceLT, reduceCtorEq, h5]
    refine goA_q (q_ModuleName r.1 (by omega)) ?_
    simp only [go_sem, reduceIte, Nat.reduceEqDiff, Nat.reduceAdd, Nat.reduceMul, Nat.reduceSub, Nat.reduceLeDiff, Nat.reduceLT, reduceCtorEq, h5]
    refine aw_if rfl (fun h => ?_) (fun h => ?_)
    · have h1 : isName r.1 = false := by simpa using h
      rw [if_pos h1] at he
      refine aw_sr rfl ?_  -- r8 @picks.go:189
      simp only [go_sem, reduceIte, Nat.reduceEqDiff, Nat.reduceAdd, Nat.reduceMul, Nat.reduceSub, Nat.reduceLeDiff, Nat.reduceLT, reduceCtorEq]
      refine aw_ret ⟨trivial, _, rfl, ?_, hsB⟩
      rw [hV, he]; exact Vle.refl _
    have h1 : isName r.1 = true := by simpa using h
    rw [if_neg (by rw [h1]; simp)] at he
    refine aw_sr rfl ?_  -- r9 @picks.go:190
    simp only [go_sem, reduceIte, Nat.reduceEqDiff, Nat.reduceAdd, Nat.reduceMul, Nat.reduceSub, Nat.reduceLeDiff, Nat.reduceLT, reduceCtorEq, h5]
    refine aw_if rfl (fun h => ?_) (fun h => ?_)
    · have h2 : (decide (r.2 < 1) || decide (9999 < r.2)) = true := h
      rw [if_pos h2] at he
      refine aw_sr rfl ?_  -- r10 @picks.go:191
      simp only [go_sem, reduceIte, Nat.reduceEqDiff, Nat.reduceAdd, Nat.reduceMul, Nat.reduceSub, Nat.reduceLeDiff, Nat.reduceLT, reduceCtorEq]
      refine aw_ret ⟨trivial, _, rfl, ?_, hsB⟩
      rw [hV, he]; exact Vle.refl _
    have h2 : (decide (r.2 < 1) || decide (9999 < r.2)) = false := h
    rw [if_neg (by rw [h2]; simp)] at he
    have hle : (decide (r.1 < lastP l i) || decide (r.1 = lastP l i)) = decide (r.1 ≤ lastP l i) := by
      rw [Bool.eq_iff_iff]
      simp only [Bool.or_eq_true, decide_eq_true_eq]
      constructor
      · rintro (h | h)
        · exact List.le_of_lt h
        · rw [h]; exact List.le_refl _
      · intro h
        rcases lt_or r.1 (lastP l i) with k | k | k
        · exact .inl k
        · exact .inr k
        · exact absurd k (List.not_lt.2 h)
    refine aw_sr rfl ?_  -- r11 @picks.go:192
    simp only [go_sem, reduceIte, Nat.reduceEqDiff, Nat.reduceAdd, Nat.reduceMul, Nat.reduceSub, Nat.reduceLeDiff, Nat.reduceLT, reduceCtorEq, h5, less_iff, hle]
    refine aw_if rfl (fun h => ?_) (fun h => ?_)
    · have h3 : r.1 ≤ lastP l i := by simpa using h
      rw [if_pos h3] at he
      refine aw_sr rfl ?_  -- r12 @picks.go:193
      simp only [go_sem, reduceIte, Nat.reduceEqDiff, Nat.reduceAdd, Nat.reduceMul, Nat.reduceSub, Nat.reduceLeDiff, Nat.reduceLT, reduceCtorEq]
      refine aw_ret ⟨trivial, _, rfl, ?_, hsB⟩
      rw [hV, he]; exact Vle.refl _
    have h3 : ¬ r.1 ≤ lastP l i := by rw [decide_eq_false_iff_not] at h; exact h
    rw [if_neg h3] at he
    refine aw_skip (hK7 _ _ ?_)
    refine aw_rg rfl ?_  -- r13 @picks.go:195
    simp only [go_sem, reduceIte, Nat.reduceEqDiff, Nat.reduceAdd, Nat.reduceMul, Nat.reduceSub, Nat.reduceLeDiff, Nat.reduceLT, reduceCtorEq, h5]
    refine ⟨(), ?_, ?_, hsB⟩
    · rw [hlast]; exact he
    · simp only [go_sem, reduceIte, Nat.reduceEqDiff, Nat.reduceAdd, Nat.reduceMul, Nat.reduceSub, Nat.reduceLeDiff, Nat.reduceLT, reduceCtorEq, hlast]
  intro _ he
  refine hK6 _ _ ?_
  refine aw_sr rfl ?_  -- r15 @picks.go:197
  simp only [go_sem, reduceIte, Nat.reduceEqDiff, Nat.reduceAdd, Nat.reduceMul, Nat.reduceSub, Nat.reduceLeDiff, Nat.reduceLT, reduceCtorEq]
  refine aw_ret ⟨trivial, _, rfl, ?_, sub_rfl⟩
  rw [List.drop_length] at he
  rw [hV, he]; exact Vle.refl _
end Go.Proofs.Ytacecjfpkdijpaa

/- What turned between two lists of picks: the program. No conditions but sizes. -/
set_option linter.unusedSimpArgs false
set_option linter.unusedVariables false
namespace Go.Proofs.Ytacecjfpkdijpaa
open Go.Proofs.YtacecjfpkdijpaaV
set_option maxHeartbeats 4000000
set_option maxRecDepth 100000
namespace lk
def eTn (t : Tn) : List V := [.str t.1, .int .i64 t.2.1, .int .i64 t.2.2]
theorem wid_eTn (xs : List Tn) : wid 3 (xs.map eTn) := wid_map (g := eTn) (fun _ => rfl) _
theorem isE_one {A : Type} (l : List A) (a : A) : (l ++ [a]).isEmpty = false := by cases l <;> rfl
def turnsR (os ns : List Pk) : List Tn × Int := if faultK os ≠ 0 then ([], faultK os) else if faultK ns ≠ 0 then ([], faultK ns) else (turnsF os ns, 0)
abbrev tTn (x : List Tn × Int) : V := .tup [.sl (x.1.map eTn) x.1.isEmpty .no, .int .i64 x.2]
def oneT (t : Tn) : List Tn := if t.2.1 = t.2.2 then [] else [t]
theorem turns_nn : turnsF [] [] = [] := by rw [turnsF, mergeT_nn]; rfl
theorem filt_cons (t : Tn) (l : List Tn) : (t :: l).filter (fun t => decide (t.2.1 ≠ t.2.2)) = oneT t ++ l.filter (fun t => decide (t.2.1 ≠ t.2.2)) := by
  rw [List.filter_cons, oneT]
  by_cases h : t.2.1 = t.2.2
  · rw [if_pos h, if_neg (by simp [h])]; rfl
  · rw [if_neg h, if_pos (by simp [h])]; rfl
theorem turns_on (o : Pk) (os : List Pk) : turnsF (o :: os) [] = oneT (o.1, o.2, 0) ++ turnsF os [] := by rw [turnsF, mergeT_on, filt_cons]; rfl
theorem turns_no (n : Pk) (ns : List Pk) : turnsF [] (n :: ns) = oneT (n.1, 0, n.2) ++ turnsF [] ns := by rw [turnsF, mergeT_no, filt_cons]; rfl
theorem turns_lt {o n : Pk} (os ns : List Pk) (h : o.1 < n.1) : turnsF (o :: os) (n :: ns) = oneT (o.1, o.2, 0) ++ turnsF os (n :: ns) := by rw [turnsF, mergeT_oo, if_pos h, filt_cons]; rfl
theorem turns_gt {o n : Pk} (os ns : List Pk) (h : ¬ o.1 < n.1) (h2 : n.1 < o.1) : turnsF (o :: os) (n :: ns) = oneT (n.1, 0, n.2) ++ turnsF (o :: os) ns := by rw [turnsF, mergeT_oo, if_neg h, if_pos h2, filt_cons]; rfl
theorem turns_eq {o n : Pk} (os ns : List Pk) (h : ¬ o.1 < n.1) (h2 : ¬ n.1 < o.1) : turnsF (o :: os) (n :: ns) = oneT (o.1, o.2, n.2) ++ turnsF os ns := by rw [turnsF, mergeT_oo, if_neg h, if_neg h2, filt_cons]; rfl
structure TS where
  os : List Pk
  ns : List Pk
  n1 : Bool
  n2 : Bool
  t1 : Tag
  t2 : Tag
  out : List Tn
  t : Tag
  H : Heap
end lk
open lk in
theorem q_Turns (a b : List Pk) (n1 n2 : Bool) (t1 t2 : Tag) (ha : a.length ≤ 1048576) (hb : b.length ≤ 1048576) (hsa : ∀ p ∈ a, p.1.length ≤ 1048576) (hsb : ∀ p ∈ b, p.1.length ≤ 1048576) :
    Quiet Try.prog 73 [.sl (a.map ePk) n1 t1, .sl (b.map ePk) n2 t2] (tTn (turnsR a b)) := by
  refine Quiet.weak fun G => ?_
  refine acall_body (rs := [.tmp 4, .tmp 5]) Try.func73 rfl rfl Try.ntmps73 (by kernel_rfl) (Nat.le_of_ble_eq_true rfl) ?_
  refine aw_sr rfl ?_  -- r0 @lock.go:83
  simp only [go_sem, reduceIte, Nat.reduceEqDiff, Nat.reduceAdd, Nat.reduceMul, Nat.reduceSub, Nat.reduceLeDiff, Nat.reduceLT, reduceCtorEq]
  refine aw_seq fun K8 hK8 => ?_
  refine aw_sr rfl ?_  -- r1 @lock.go:84
  simp only [go_sem, reduceIte, Nat.reduceEqDiff, Nat.reduceAdd, Nat.reduceMul, Nat.reduceSub, Nat.reduceLeDiff, Nat.reduceLT, reduceCtorEq]
  refine aw_block ?_
  refine aw_lph (S := {k : Nat // k ≤ 2 ∧ (1 ≤ k → faultK a = 0) ∧ (2 ≤ k → faultK b = 0)}) (fun s => [(0, .sl (a.map ePk) n1 t1), (1, .sl (b.map ePk) n2 t2), (13, .agg [.sl (a.map ePk) n1 t1, .sl (b.map ePk) n2 t2]), (14, .int .i64 ((s.1 : Nat) : Int))]) (fun _ => G) (fun s => 2 - s.1) ⟨0, by omega, by omega, by omega⟩ ?_ (fun _ _ h => h) ?_
  · simp only [go_sem, reduceIte, Nat.reduceEqDiff, Nat.reduceAdd, Nat.reduceMul, Nat.reduceSub, Nat.reduceLeDiff, Nat.reduceLT, reduceCtorEq, Int.natCast_zero]
  intro ⟨k, hk, hw1, hw2⟩
  simp only at hk hw1 hw2 ⊢
  refine aw_sr rfl ?_  -- r2
  simp only [go_sem, reduceIte, Nat.reduceEqDiff, Nat.reduceAdd, Nat.reduceMul, Nat.reduceSub, Nat.reduceLeDiff, Nat.reduceLT, reduceCtorEq]
  refine aw_seq fun K6 hK6 => ?_
  refine aw_if rfl (fun h => ?_) (fun h => ?_)
  · have hk2 : k < 2 := by rw [decide_eq_true_eq] at h; omega
    refine aw_skip (hK6 _ _ ?_)
    refine aw_seq fun K7 hK7 => ?_
    refine aw_block ?_
    obtain ⟨ws, nw, tw, hlw, hsw, hget, hbad, hgo⟩ : ∃ (ws : List Pk) (nw : Bool) (tw : Tag), ws.length ≤ 1048576 ∧ (∀ p ∈ ws, p.1.length ≤ 1048576) ∧ ([V.sl (a.map ePk) n1 t1, .sl (b.map ePk) n2 t2].getD k .any = V.sl (ws.map ePk) nw tw) ∧ (faultK ws ≠ 0 → turnsR a b = ([], faultK ws)) ∧ (faultK ws = 0 → (1 ≤ k + 1 → faultK a = 0) ∧ (2 ≤ k + 1 → faultK b = 0)) := by
      rcases (show k = 0 ∨ k = 1 by omega) with rfl | rfl
      · exact ⟨a, n1, t1, ha, hsa, rfl, fun e => by rw [turnsR, if_pos e], fun e => ⟨fun _ => e, fun e => by omega⟩⟩
      · exact ⟨b, n2, t2, hb, hsb, rfl, fun e => by rw [turnsR, if_neg (by simp [hw1 (by omega)]), if_pos e], fun e => ⟨fun _ => hw1 (by omega), fun _ => e⟩⟩
    refine aw_sr rfl ?_  -- r3
    simp only [go_sem, reduceIte, Nat.reduceEqDiff, Nat.reduceAdd, Nat.reduceMul, Nat.reduceSub, Nat.reduceLeDiff, Nat.reduceLT, reduceCtorEq, hget]
    refine ⟨⟨by omega, by omega⟩, ?_⟩
    refine aw_sr rfl ?_  -- r4
    simp only [go_sem, reduceIte, Nat.reduceEqDiff, Nat.reduceAdd, Nat.reduceMul, Nat.reduceSub, Nat.reduceLeDiff, Nat.reduceLT, reduceCtorEq]
    refine goA_q (q_PCheck ws nw tw hlw hsw) ?_
    simp only [go_sem, reduceIte, Nat.reduceEqDiff, Nat.reduceAdd, Nat.reduceMul, Nat.reduceSub, Nat.reduceLeDiff, Nat.reduceLT, reduceCtorEq]
    refine aw_sr rfl ?_  -- r5
    simp only [go_sem, reduceIte, Nat.reduceEqDiff, Nat.reduceAdd, Nat.reduceMul, Nat.reduceSub, Nat.reduceLeDiff, Nat.reduceLT, reduceCtorEq]
    refine aw_if rfl (fun h => ?_) (fun h => ?_)
    · have hf : faultK ws ≠ 0 := by simpa using h
      refine aw_sr rfl ?_  -- r6
      simp only [go_sem, reduceIte, Nat.reduceEqDiff, Nat.reduceAdd, Nat.reduceMul, Nat.reduceSub, Nat.reduceLeDiff, Nat.reduceLT, reduceCtorEq]
      refine aw_ret ⟨trivial, _, rfl, ?_, sub_rfl⟩
      rw [hbad hf]
      exact .tupL (.cons .untag (.cons (Vle.refl _) .nil))
    have hf : faultK ws = 0 := by simpa using h
    refine aw_skip ?_
    refine hK7 _ _ ?_
    have hw : IntKind.i64.wrap ((k : Int) + 1) = ((k + 1 : Nat) : Int) := by rw [wrap64 (by omega) (by omega)]; omega
    refine aw_rg rfl ?_  -- r7
    simp only [go_sem, reduceIte, Nat.reduceEqDiff, Nat.reduceAdd, Nat.reduceMul, Nat.reduceSub, Nat.reduceLeDiff, Nat.reduceLT, reduceCtorEq, hw]
    exact ⟨⟨k + 1, by omega, (hgo hf).1, (hgo hf).2⟩, by simp only; omega, by trivial, sub_rfl⟩
  have hk2 : k = 2 := by rw [decide_eq_false_iff_not] at h; omega
  subst hk2
  have hfa := hw1 (by omega)
  have hfb := hw2 (by omega)
  obtain ⟨a30, astr, aver⟩ := faultK_ok hfa
  obtain ⟨b30, bstr, bver⟩ := faultK_ok hfb
  have hset : turnsR a b = (turnsF a b, 0) := by rw [turnsR, if_neg (by simp [hfa]), if_neg (by simp [hfb])]
  refine aw_exit ?_
  refine hK8 _ _ ?_
  refine aw_sr rfl ?_  -- r8 @lock.go:89
  simp only [go_sem, reduceIte, Nat.reduceEqDiff, Nat.reduceAdd, Nat.reduceMul, Nat.reduceSub, Nat.reduceLeDiff, Nat.reduceLT, reduceCtorEq]
  refine aw_seq fun K9 hK9 => ?_
  refine aw_block ?_  -- 2
  refine aw_lph (S := {s : TS // s.out ++ turnsF s.os s.ns = turnsF a b ∧ s.os.length + s.ns.length + s.out.length ≤ 60 ∧ Rm G s.H 3 s.t ∧ Sub G s.H}) (fun s => [(0, .sl (s.1.os.map ePk) s.1.n1 s.1.t1), (1, .sl (s.1.ns.map ePk) s.1.n2 s.1.t2), (9, .sl (s.1.out.map eTn) s.1.out.isEmpty s.1.t)]) (fun s => s.1.H) (fun s => s.1.os.length + s.1.ns.length) ⟨⟨a, b, n1, n2, t1, t2, [], .full, G⟩, rfl, by simp; omega, Rm.start _ _ _, sub_rfl⟩ ?_ (fun _ _ h => h) ?_
  · simp only [go_sem, reduceIte, Nat.reduceEqDiff, Nat.reduceAdd, Nat.reduceMul, Nat.reduceSub, Nat.reduceLeDiff, Nat.reduceLT, reduceCtorEq, List.map_nil, List.isEmpty_nil]
  intro ⟨⟨os, ns, n1, n2, t1, t2, out, t, H⟩, he, hlen, hr, hs⟩
  simp only at he hlen hr hs ⊢
  refine aw_seq fun K10 hK10 => ?_
  refine aw_sr rfl ?_  -- r9
  simp only [go_sem, reduceIte, Nat.reduceEqDiff, Nat.reduceAdd, Nat.reduceMul, Nat.reduceSub, Nat.reduceLeDiff, Nat.reduceLT, reduceCtorEq]
  refine aw_if rfl (fun h => ?_) (fun h => ?_)
  · have hz : 0 < os.length + ns.length := by
      simp only [Bool.or_eq_true, decide_eq_true_eq] at h; omega
    refine aw_skip (hK10 _ _ ?_)
    refine aw_block ?_  -- 3
    refine aw_sr rfl ?_  -- r10 @lock.go:91
    simp only [go_sem, reduceIte, Nat.reduceEqDiff, Nat.reduceAdd, Nat.reduceMul, Nat.reduceSub, Nat.reduceLeDiff, Nat.reduceLT, reduceCtorEq]
    intro b10 hb10
    have hbG : hget G b10 = none := sub_none hs hb10
    refine aw_box1 hb10 fun B1 hs1 h10 => ?_
    replace hr := hr.sub hs1
    replace hs := sub_trans hs hs1
    refine aw_mid (fun f' G' => ∃ (os' ns' : List Pk) (n1' n2' : Bool) (t1' t2' : Tag) (tn : Tn), (out ++ (oneT tn ++ turnsF os' ns') = turnsF a b ∧ os'.length + ns'.length < os.length + ns.length) ∧ FSub [(0, .sl (os'.map ePk) n1' t1'), (1, .sl (ns'.map ePk) n2' t2'), (9, .sl (out.map eTn) out.isEmpty t), (10, .ptr b10 0)] f' ∧ hget G' b10 = some (.vars (eTn tn)) ∧ Rm G G' 3 t ∧ Sub G G') ?_ ?_
    · refine aw_block ?_  -- 4
      have d00 : decide ((0 : Int) < 0) = false := rfl
      have e00 : decide ((0 : Int) = 0) = true := rfl
      have d1 : ∀ k : Nat, decide ((0 : Int) < ((k + 1 : Nat) : Int)) = true := fun k => by rw [decide_eq_true_eq]; omega
      have e1 : ∀ k : Nat, decide (((k + 1 : Nat) : Int) = 0) = false := fun k => by rw [decide_eq_false_iff_not]; omega
      have wn : ∀ (p : Pk) (l : List Pk), wid 2 (ePk p :: l.map ePk) := fun p l => wid_ePk (p :: l)
      have tk : ∀ l : List Pk, List.take l.length (l.map ePk) = l.map ePk := fun l => List.take_of_length_le (by simp)
      have b0 : ∀ (p : Pk) (l : List Pk), ((0 : Int) ≤ 0 ∧ (0 : Int) < ((l.length + 1 : Nat) : Int) ∧ wid 2 (ePk p :: l.map ePk)) = True := fun p l => eq_true ⟨by omega, by omega, wn p l⟩
      cases os with
      | nil =>
        cases ns with
        | nil => simp at hz
        | cons n ns =>
          refine aw_srd [(0,true),(1,true),(2,true),(3,true),(4,true),(5,true),(6,true),(7,true),(8,true),(9,true),(10,true),(11,true),(12,true),(13,true),(14,true),(15,true),(16,true),(17,true),(18,true),(19,true)] mixed rfl (by kernel_rfl) ?_  -- r13
          simp only [go_sem, reduceIte, Nat.reduceEqDiff, Nat.reduceAdd, Nat.reduceMul, Nat.reduceSub, Nat.reduceLeDiff, Nat.reduceLT, reduceCtorEq, List.map_nil, List.map_cons, List.length_nil, List.length_cons, Int.natCast_zero, d00, d1, e1, e00, true_imp_iff, false_imp_iff, Bool.false_eq_true]
          repeat' first
            | (refine lk.goG_off fun v => ?_
               simp only [go_sem, reduceIte, Nat.reduceEqDiff, Nat.reduceAdd, Nat.reduceMul, Nat.reduceSub, Nat.reduceLeDiff, Nat.reduceLT, reduceCtorEq, List.map_nil, List.map_cons, List.length_nil, List.length_cons, Int.natCast_zero, d00, d1, e1, e00, true_imp_iff, false_imp_iff, Bool.false_eq_true])
          refine aw_if rfl (fun h => by cases h) (fun h => ?_)
          refine aw_srd [(0,true),(1,true),(2,true),(3,true),(4,true),(5,true),(6,true),(7,true),(8,true),(9,true),(10,true),(11,true),(12,true),(13,true),(14,true)] mixed rfl (by kernel_rfl) ?_  -- r15
          simp only [go_sem, reduceIte, Nat.reduceEqDiff, Nat.reduceAdd, Nat.reduceMul, Nat.reduceSub, Nat.reduceLeDiff, Nat.reduceLT, reduceCtorEq, List.map_nil, List.map_cons, List.length_nil, List.length_cons, Int.natCast_zero, d00, d1, e1, e00, true_imp_iff, false_imp_iff, Bool.false_eq_true, Int.toNat_zero, toNat1, List.getD_cons_zero, List.drop_succ_cons, List.drop_zero, ePk, cPk, less_iff, h10, tk]
          repeat' first
            | (refine lk.goG_off fun v => ?_
               simp only [go_sem, reduceIte, Nat.reduceEqDiff, Nat.reduceAdd, Nat.reduceMul, Nat.reduceSub, Nat.reduceLeDiff, Nat.reduceLT, reduceCtorEq, List.map_nil, List.map_cons, List.length_nil, List.length_cons, Int.natCast_zero, d00, d1, e1, e00, true_imp_iff, false_imp_iff, Bool.false_eq_true, Int.toNat_zero, toNat1, List.getD_cons_zero, List.drop_succ_cons, List.drop_zero, ePk, cPk, less_iff, h10, tk])
          refine aw_if rfl (fun h => ?_) (fun h => by cases h)
          refine aw_rgd [(0,true),(1,true),(2,true),(3,true),(4,true),(5,true),(6,true),(7,true),(8,true),(9,true),(10,true),(11,false),(12,true)] mixed rfl (by kernel_rfl) ?_  -- r16
          simp only [go_sem, reduceIte, Nat.reduceEqDiff, Nat.reduceAdd, Nat.reduceMul, Nat.reduceSub, Nat.reduceLeDiff, Nat.reduceLT, reduceCtorEq, List.map_nil, List.map_cons, List.length_nil, List.length_cons, Int.natCast_zero, d00, d1, e1, e00, true_imp_iff, false_imp_iff, Bool.false_eq_true, Int.toNat_zero, toNat1, List.getD_cons_zero, List.drop_succ_cons, List.drop_zero, ePk, cPk, less_iff, h10, tk]
          refine ⟨⟨by omega, by omega, wid_ePk (n :: ns)⟩, ⟨by omega, by omega, wid_ePk (n :: ns)⟩, ⟨⟨by omega, by omega⟩, wid_ePk (n :: ns)⟩, ?_⟩
          refine ⟨[], ns, _, _, _, _, (n.1, 0, n.2), ⟨?_, by first | omega | (simp only [List.length_cons, List.length_nil]; omega)⟩, ⟨rfl, rfl, rfl, rfl⟩, hget_hset_self h10, hr.hset h10 (fun _ _ e => by cases e), sub_hset_fresh hbG hs⟩
          rw [turns_no] at he; exact he
      | cons o os =>
        cases ns with
        | nil =>
          refine aw_srd [(0,true),(1,true),(2,true),(3,true),(4,true),(5,true),(6,true),(7,true),(8,true),(9,true),(10,true),(11,true),(12,true),(13,true),(14,true),(15,true),(16,true),(17,true),(18,true),(19,true)] mixed rfl (by kernel_rfl) ?_  -- r13
          simp only [go_sem, reduceIte, Nat.reduceEqDiff, Nat.reduceAdd, Nat.reduceMul, Nat.reduceSub, Nat.reduceLeDiff, Nat.reduceLT, reduceCtorEq, List.map_nil, List.map_cons, List.length_nil, List.length_cons, Int.natCast_zero, d00, d1, e1, e00, true_imp_iff, false_imp_iff, Bool.false_eq_true]
          repeat' first
            | (refine lk.goG_off fun v => ?_
               simp only [go_sem, reduceIte, Nat.reduceEqDiff, Nat.reduceAdd, Nat.reduceMul, Nat.reduceSub, Nat.reduceLeDiff, Nat.reduceLT, reduceCtorEq, List.map_nil, List.map_cons, List.length_nil, List.length_cons, Int.natCast_zero, d00, d1, e1, e00, true_imp_iff, false_imp_iff, Bool.false_eq_true])
          refine aw_if rfl (fun h => ?_) (fun h => by cases h)
          refine aw_rgd [(0,true),(1,true),(2,true),(3,true),(4,true),(5,true),(6,true),(7,true),(8,true),(9,true),(10,true),(11,false),(12,true)] mixed rfl (by kernel_rfl) ?_  -- r14
          simp only [go_sem, reduceIte, Nat.reduceEqDiff, Nat.reduceAdd, Nat.reduceMul, Nat.reduceSub, Nat.reduceLeDiff, Nat.reduceLT, reduceCtorEq, List.map_nil, List.map_cons, List.length_nil, List.length_cons, Int.natCast_zero, d00, d1, e1, e00, true_imp_iff, false_imp_iff, Bool.false_eq_true, Int.toNat_zero, toNat1, List.getD_cons_zero, List.drop_succ_cons, List.drop_zero, ePk, cPk, less_iff, h10, tk]
          refine ⟨⟨by omega, by omega, wid_ePk (o :: os)⟩, ⟨by omega, by omega, wid_ePk (o :: os)⟩, ⟨⟨by omega, by omega⟩, wid_ePk (o :: os)⟩, ?_⟩
          refine ⟨os, [], _, _, _, _, (o.1, o.2, 0), ⟨?_, by first | omega | (simp only [List.length_cons, List.length_nil]; omega)⟩, ⟨rfl, rfl, rfl, rfl⟩, hget_hset_self h10, hr.hset h10 (fun _ _ e => by cases e), sub_hset_fresh hbG hs⟩
          rw [turns_on] at he; exact he
        | cons n ns =>
          refine aw_srd [(0,true),(1,true),(2,true),(3,true),(4,true),(5,true),(6,true),(7,true),(8,true),(9,true),(10,true),(11,true),(12,true),(13,true),(14,true),(15,true),(16,true),(17,true),(18,true),(19,true)] mixed rfl (by kernel_rfl) ?_  -- r13
          simp only [go_sem, reduceIte, Nat.reduceEqDiff, Nat.reduceAdd, Nat.reduceMul, Nat.reduceSub, Nat.reduceLeDiff, Nat.reduceLT, reduceCtorEq, List.map_nil, List.map_cons, List.length_nil, List.length_cons, Int.natCast_zero, d00, d1, e1, e00, true_imp_iff, false_imp_iff, Bool.false_eq_true, Int.toNat_zero, List.getD_cons_zero, b0, ePk, cPk, less_iff]
          refine ⟨⟨by omega, by omega, wid_ePk (o :: os)⟩, ⟨by omega, by omega, wid_ePk (n :: ns)⟩, ?_⟩
          refine aw_if rfl (fun h => ?_) (fun h => ?_)
          · have h : o.1 < n.1 := by simpa using h
            refine aw_rgd [(0,true),(1,true),(2,true),(3,true),(4,true),(5,true),(6,true),(7,true),(8,true),(9,true),(10,true),(11,false),(12,true)] mixed rfl (by kernel_rfl) ?_  -- r14
            simp only [go_sem, reduceIte, Nat.reduceEqDiff, Nat.reduceAdd, Nat.reduceMul, Nat.reduceSub, Nat.reduceLeDiff, Nat.reduceLT, reduceCtorEq, List.map_nil, List.map_cons, List.length_nil, List.length_cons, Int.natCast_zero, d00, d1, e1, e00, true_imp_iff, false_imp_iff, Bool.false_eq_true, Int.toNat_zero, toNat1, List.getD_cons_zero, List.drop_succ_cons, List.drop_zero, ePk, cPk, less_iff, h10, tk]
            refine ⟨⟨by omega, by omega, wid_ePk (o :: os)⟩, ⟨by omega, by omega, wid_ePk (o :: os)⟩, ⟨⟨by omega, by omega⟩, wid_ePk (o :: os)⟩, ?_⟩
            refine ⟨os, n :: ns, _, _, _, _, (o.1, o.2, 0), ⟨?_, by first | omega | (simp only [List.length_cons, List.length_nil]; omega)⟩, ⟨rfl, rfl, rfl, rfl⟩, hget_hset_self h10, hr.hset h10 (fun _ _ e => by cases e), sub_hset_fresh hbG hs⟩
            rw [turns_lt os ns h] at he; exact he
          · have h : ¬ o.1 < n.1 := by simpa using h
            refine aw_srd [(0,true),(1,true),(2,true),(3,true),(4,true),(5,true),(6,true),(7,true),(8,true),(9,true),(10,true),(11,true),(12,true),(13,true),(14,true)] mixed rfl (by kernel_rfl) ?_  -- r15
            simp only [go_sem, reduceIte, Nat.reduceEqDiff, Nat.reduceAdd, Nat.reduceMul, Nat.reduceSub, Nat.reduceLeDiff, Nat.reduceLT, reduceCtorEq, List.map_nil, List.map_cons, List.length_nil, List.length_cons, Int.natCast_zero, d00, d1, e1, e00, true_imp_iff, false_imp_iff, Bool.false_eq_true, Int.toNat_zero, toNat1, List.getD_cons_zero, List.drop_succ_cons, List.drop_zero, ePk, cPk, less_iff, h10, tk]
            refine ⟨⟨by omega, by omega, wid_ePk (n :: ns)⟩, ⟨by omega, by omega, wid_ePk (o :: os)⟩, ?_⟩
            refine aw_if rfl (fun h2 => ?_) (fun h2 => ?_)
            · have h2 : n.1 < o.1 := by simpa using h2
              refine aw_rgd [(0,true),(1,true),(2,true),(3,true),(4,true),(5,true),(6,true),(7,true),(8,true),(9,true),(10,true),(11,false),(12,true)] mixed rfl (by kernel_rfl) ?_  -- r16
              simp only [go_sem, reduceIte, Nat.reduceEqDiff, Nat.reduceAdd, Nat.reduceMul, Nat.reduceSub, Nat.reduceLeDiff, Nat.reduceLT, reduceCtorEq, List.map_nil, List.map_cons, List.length_nil, List.length_cons, Int.natCast_zero, d00, d1, e1, e00, true_imp_iff, false_imp_iff, Bool.false_eq_true, Int.toNat_zero, toNat1, List.getD_cons_zero, List.drop_succ_cons, List.drop_zero, ePk, cPk, less_iff, h10, tk]
              refine ⟨⟨by omega, by omega, wid_ePk (n :: ns)⟩, ⟨by omega, by omega, wid_ePk (n :: ns)⟩, ⟨⟨by omega, by omega⟩, wid_ePk (n :: ns)⟩, ?_⟩
              refine ⟨o :: os, ns, _, _, _, _, (n.1, 0, n.2), ⟨?_, by first | omega | (simp only [List.length_cons, List.length_nil]; omega)⟩, ⟨rfl, rfl, rfl, rfl⟩, hget_hset_self h10, hr.hset h10 (fun _ _ e => by cases e), sub_hset_fresh hbG hs⟩
              rw [turns_gt os ns h h2] at he; exact he
            · have h2 : ¬ n.1 < o.1 := by simpa using h2
              refine aw_srd [(0,true),(1,true),(2,true),(3,true),(4,true),(5,true),(6,true),(7,true),(8,true),(9,true),(10,true),(11,true),(12,true),(13,false)] mixed rfl (by kernel_rfl) ?_  -- r11
              simp only [go_sem, reduceIte, Nat.reduceEqDiff, Nat.reduceAdd, Nat.reduceMul, Nat.reduceSub, Nat.reduceLeDiff, Nat.reduceLT, reduceCtorEq, List.map_nil, List.map_cons, List.length_nil, List.length_cons, Int.natCast_zero, d00, d1, e1, e00, true_imp_iff, false_imp_iff, Bool.false_eq_true, Int.toNat_zero, toNat1, List.getD_cons_zero, List.drop_succ_cons, List.drop_zero, ePk, cPk, less_iff, h10, tk]
              refine ⟨⟨by omega, by omega, wid_ePk (o :: os)⟩, ⟨by omega, by omega, wid_ePk (o :: os)⟩, ⟨by omega, by omega, wid_ePk (n :: ns)⟩, ?_⟩
              refine aw_rgd [(0,true),(1,true),(2,true),(3,true),(4,true),(5,true)] mixed rfl (by kernel_rfl) ?_  -- r12
              simp only [go_sem, reduceIte, Nat.reduceEqDiff, Nat.reduceAdd, Nat.reduceMul, Nat.reduceSub, Nat.reduceLeDiff, Nat.reduceLT, reduceCtorEq, List.map_nil, List.map_cons, List.length_nil, List.length_cons, Int.natCast_zero, d00, d1, e1, e00, true_imp_iff, false_imp_iff, Bool.false_eq_true, Int.toNat_zero, toNat1, List.getD_cons_zero, List.drop_succ_cons, List.drop_zero, ePk, cPk, less_iff, h10, tk]
              refine ⟨⟨⟨by omega, by omega⟩, wid_ePk (o :: os)⟩, ⟨⟨by omega, by omega⟩, wid_ePk (n :: ns)⟩, ?_⟩
              refine ⟨os, ns, _, _, _, _, (o.1, o.2, n.2), ⟨?_, by first | omega | (simp only [List.length_cons, List.length_nil]; omega)⟩, ⟨rfl, rfl, rfl, rfl⟩, hget_hset_self h10, hr.hset h10 (fun _ _ e => by cases e), sub_hset_fresh hbG hs⟩
              rw [turns_eq os ns h h2] at he; exact he
    intro f' G' ⟨os', ns', n1', n2', t1', t2', tn, ⟨he', hlt⟩, hf', h10', hr', hs'⟩
    refine AW.of_fsub hf' ?_
    refine aw_sr rfl ?_  -- r17 @lock.go:101
    simp only [go_sem, reduceIte, Nat.reduceEqDiff, Nat.reduceAdd, Nat.reduceMul, Nat.reduceSub, Nat.reduceLeDiff, Nat.reduceLT, reduceCtorEq, h10', eTn]
    refine aw_if rfl (fun h => ?_) (fun h => ?_)
    · have h : ¬ tn.2.1 = tn.2.2 := by simpa using h
      have h1 : oneT tn = [tn] := if_neg h
      refine aw_rg rfl ?_  -- r18 @lock.go:102
      simp only [go_sem, reduceIte, Nat.reduceEqDiff, Nat.reduceAdd, Nat.reduceMul, Nat.reduceSub, Nat.reduceLeDiff, Nat.reduceLT, reduceCtorEq, h10', eTn]
      refine goP_rm (G := G) hr' hs' ?_ fun t6 H6 hr6 hs6 hg6 => ?_
      · exact ⟨rfl, rfl, by decide, wid_eTn _, wid_one rfl, by simp [sca, scalarV], by simp; omega, by simp; omega⟩
      simp only [go_sem, reduceIte, Nat.reduceEqDiff, Nat.reduceAdd, Nat.reduceMul, Nat.reduceSub, Nat.reduceLeDiff, Nat.reduceLT, reduceCtorEq]
      refine ⟨⟨⟨os', ns', n1', n2', t1', t2', out ++ [tn], t6, H6⟩, ?_, by simp; omega, hr6, hs6⟩, hlt, ?_, sub_rfl⟩
      · simp only
        rw [List.append_assoc]
        rw [h1] at he'
        exact he'
      · simp only
        rw [isE_one, List.map_append, List.map_cons, List.map_nil, eTn]
        exact ⟨rfl, rfl, rfl⟩
    · have h : tn.2.1 = tn.2.2 := by simpa using h
      have h1 : oneT tn = [] := if_pos h
      rw [h1] at he'
      exact aw_skip ⟨⟨⟨os', ns', n1', n2', t1', t2', out, t, G'⟩, he', by simp only; omega, hr', hs'⟩, hlt, ⟨rfl, rfl, rfl⟩, sub_rfl⟩
  · have hz : os = [] ∧ ns = [] := by
      simp only [Bool.or_eq_false_iff, decide_eq_false_iff_not] at h
      exact ⟨List.eq_nil_of_length_eq_zero (by omega), List.eq_nil_of_length_eq_zero (by omega)⟩
    obtain ⟨rfl, rfl⟩ := hz
    refine aw_exit ?_  -- 2
    refine hK9 _ _ ?_
    refine aw_sr rfl ?_  -- r19 @lock.go:105
    simp only [go_sem, reduceIte, Nat.reduceEqDiff, Nat.reduceAdd, Nat.reduceMul, Nat.reduceSub, Nat.reduceLeDiff, Nat.reduceLT, reduceCtorEq]
    refine aw_ret ⟨trivial, _, rfl, ?_, hs⟩
    rw [turns_nn, List.append_nil] at he
    rw [hset, he]
    exact .tupL (.cons .untag (.cons (Vle.refl _) .nil))
end Go.Proofs.Ytacecjfpkdijpaa

/- The kit's contract of sort.Strings, laid at this program. -/
namespace Go.Proofs
open Go.Shelf
def Try.sortS_ren : Go.Shelf.Ren := ⟨fun | 192 => 197 | 190 => 219 | 125 => 199 | 258 => 239 | 128 => 228 | 129 => 229 | 302 => 248 | 303 => 249 | 304 => 250 | 305 => 251 | 306 => 252 | 307 => 253 | 308 => 254 | 309 => 255 | 310 => 256 | 333 => 259 | 329 => 241 | 330 => 242 | 334 => 260 | 335 => 261 | 336 => 262 | 344 => 266 | n => n, fun | 31 => 59 | 0 => 0 | 9 => 9 | 3 => 3 | 46 => 88 | 51 => 403 | 53 => 406 | 4 => 4 | 183 => 411 | 182 => 410 | 131 => 278 | 5 => 5 | 218 => 426 | 222 => 430 | 228 => 439 | 229 => 100 | n => n, fun | n => n⟩
theorem Try.sortS : Go.Proofs.Lays.n192 Try.prog Try.sortS_ren := {
  mixed := by kernel_rfl
  f125 := Try.func199.trans (congrArg some (by kernel_rfl))
  f128 := Try.func228.trans (congrArg some (by kernel_rfl))
  f129 := Try.func229.trans (congrArg some (by kernel_rfl))
  f190 := Try.func219.trans (congrArg some (by kernel_rfl))
  f192 := Try.func197.trans (congrArg some (by kernel_rfl))
  f258 := Try.func239.trans (congrArg some (by kernel_rfl))
  f302 := Try.func248.trans (congrArg some (by kernel_rfl))
  f303 := Try.func249.trans (congrArg some (by kernel_rfl))
  f304 := Try.func250.trans (congrArg some (by kernel_rfl))
  f305 := Try.func251.trans (congrArg some (by kernel_rfl))
  f306 := Try.func252.trans (congrArg some (by kernel_rfl))
  f307 := Try.func253.trans (congrArg some (by kernel_rfl))
  f308 := Try.func254.trans (congrArg some (by kernel_rfl))
  f309 := Try.func255.trans (congrArg some (by kernel_rfl))
  f310 := Try.func256.trans (congrArg some (by kernel_rfl))
  f329 := Try.func241.trans (congrArg some (by kernel_rfl))
  f330 := Try.func242.trans (congrArg some (by kernel_rfl))
  f333 := Try.func259.trans (congrArg some (by kernel_rfl))
  f334 := Try.func260.trans (congrArg some (by kernel_rfl))
  f335 := Try.func261.trans (congrArg some (by kernel_rfl))
  f336 := Try.func262.trans (congrArg some (by kernel_rfl))
  f344 := Try.func266.trans (congrArg some (by kernel_rfl))
  t0 := Try.underlying0
  a0 := Try.isAgg0
  z0 := Try.sizeOf0
  v0 := Try.zeroValue0
  t3 := Try.underlying3
  a3 := Try.isAgg3
  z3 := Try.sizeOf3
  v3 := Try.zeroValue3
  t4 := Try.underlying4
  a4 := Try.isAgg4
  z4 := Try.sizeOf4
  v4 := Try.zeroValue4
  t5 := Try.underlying5
  a5 := Try.isAgg5
  z5 := Try.sizeOf5
  v5 := Try.zeroValue5
  t9 := Try.underlying9
  a9 := Try.isAgg9
  z9 := Try.sizeOf9
  v9 := Try.zeroValue9
  t31 := Try.underlying59
  a31 := Try.isAgg59
  z31 := Try.sizeOf59
  v31 := Try.zeroValue59
  t46 := Try.underlying88
  a46 := Try.isAgg88
  z46 := Try.sizeOf88
  v46 := Try.zeroValue88
  t51 := Try.underlying403
  a51 := Try.isAgg403
  z51 := Try.sizeOf403
  v51 := Try.zeroValue403
  t53 := Try.underlying406
  a53 := Try.isAgg406
  z53 := Try.sizeOf406
  v53 := Try.zeroValue406
  t131 := Try.underlying278
  a131 := Try.isAgg278
  z131 := Try.sizeOf278
  v131 := Try.zeroValue278
  t182 := Try.underlying410
  a182 := Try.isAgg410
  z182 := Try.sizeOf410
  v182 := Try.zeroValue410
  t183 := Try.underlying411
  a183 := Try.isAgg411
  z183 := Try.sizeOf411
  v183 := Try.zeroValue411
  t218 := Try.underlying426
  a218 := Try.isAgg426
  z218 := Try.sizeOf426
  v218 := Try.zeroValue426
  t222 := Try.underlying430
  a222 := Try.isAgg430
  z222 := Try.sizeOf430
  v222 := Try.zeroValue430
  t228 := Try.underlying439
  a228 := Try.isAgg439
  z228 := Try.sizeOf439
  v228 := Try.zeroValue439
  t229 := Try.underlying100
  a229 := Try.isAgg100
  z229 := Try.sizeOf100
  v229 := Try.zeroValue100 }
end Go.Proofs

/- The reference's sorted names. No conditions but sizes. -/
set_option linter.unusedSimpArgs false
set_option linter.unusedVariables false
namespace Go.Proofs.Ytacecjfpkdijpaa
open Go.Proofs.YtacecjfpkdijpaaV
set_option maxHeartbeats 1000000
set_option maxRecDepth 100000
theorem a_SortS (l : List (List UInt8)) (b c : Nat) (rest : List V) {G : Heap} (hb : hget G b = some (.vars ((l.map eSt).flatten ++ rest))) (hl : l.length ≤ 1048576) :
    ACall Try.prog 197 [.ms b 0 l.length c] (fun _ G' => G' = hset G b (.vars (((lk.sortN l).map eSt).flatten ++ rest))) G :=
  a_sortS Go.Proofs.Try.sortS Try.func197 rfl rfl hb (by omega)
theorem a_SortS0 (nl : Bool) (t : Tag) (G : Heap) : ACall Try.prog 197 [.sl [] nl t] (fun _ G' => G' = G) G :=
  a_sortS0 Go.Proofs.Try.sortS Try.func197 rfl rfl G
theorem wid_St (l : List (List UInt8)) : wid 1 (l.map eSt) := wid_map (g := eSt) (fun _ => rfl) _
theorem sca_St (l : List (List UInt8)) : sca (l.map eSt) := sca_map (g := eSt) (fun a x hx => by simp [eSt] at hx; subst hx; rfl) _
theorem q_sorted (l : List (List UInt8)) (nl : Bool) (t : Tag) (hl : l.length ≤ 1048576) : Quiet Try.prog 143 [.sl (l.map eSt) nl t] (.sl ((lk.sortN l).map eSt) false .no) := by
  refine Quiet.turn fun G => ?_
  refine acall_body (rs := [.tmp 2]) Try.func143 rfl rfl Try.ntmps143 (by kernel_rfl) (Nat.le_of_ble_eq_true rfl) ?_
  refine aw_sr rfl ?_  -- r0
  simp only [go_sem, reduceIte, Nat.reduceEqDiff, Nat.reduceAdd, Nat.reduceMul, Nat.reduceSub, Nat.reduceLeDiff, Nat.reduceLT, reduceCtorEq]
  by_cases hne : l = []
  · subst hne
    refine aw_sr rfl ?_  -- r1
    simp only [go_sem, reduceIte, Nat.reduceEqDiff, Nat.reduceAdd, Nat.reduceMul, Nat.reduceSub, Nat.reduceLeDiff, Nat.reduceLT, reduceCtorEq]
    refine goP_rm (G := G) (Rm.start _ _ _) sub_rfl ?_ fun t1 H1 hr1 hs1 hg1 => ?_
    · exact ⟨rfl, rfl, by decide, by simp [wid], by simp, by simp, by simp, by simp⟩
    simp only [go_sem, reduceIte, Nat.reduceEqDiff, Nat.reduceAdd, Nat.reduceMul, Nat.reduceSub, Nat.reduceLeDiff, Nat.reduceLT, reduceCtorEq]
    refine aw_sr rfl ?_  -- r2
    simp only [go_sem, reduceIte, Nat.reduceEqDiff, Nat.reduceAdd, Nat.reduceMul, Nat.reduceSub, Nat.reduceLeDiff, Nat.reduceLT, reduceCtorEq]
    refine goA_by (a_SortS0 _ _ H1) fun y H2 hy => ?_
    subst hy
    simp only [go_sem, reduceIte, Nat.reduceEqDiff, Nat.reduceAdd, Nat.reduceMul, Nat.reduceSub, Nat.reduceLeDiff, Nat.reduceLT, reduceCtorEq]
    refine aw_sr rfl ?_  -- r3
    simp only [go_sem, reduceIte, Nat.reduceEqDiff, Nat.reduceAdd, Nat.reduceMul, Nat.reduceSub, Nat.reduceLeDiff, Nat.reduceLT, reduceCtorEq]
    refine aw_ret ⟨trivial, _, rfl, _, _, Turn.refl _ _, ?_, hs1⟩
    rw [show lk.sortN [] = [] by simp [lk.sortN]]
    exact Vle.untag
  refine aw_sr rfl ?_  -- r1
  simp only [go_sem, reduceIte, Nat.reduceEqDiff, Nat.reduceAdd, Nat.reduceMul, Nat.reduceSub, Nat.reduceLeDiff, Nat.reduceLT, reduceCtorEq]
  refine ⟨⟨rfl, rfl, by decide, by simp [wid], wid_St _, sca_St _, by simp; omega, by simp; omega⟩, .inr ⟨rfl, rfl, by simpa using hne, fun b c hb hc => ?_⟩⟩
  simp only [go_sem, reduceIte, Nat.reduceEqDiff, Nat.reduceAdd, Nat.reduceMul, Nat.reduceSub, Nat.reduceLeDiff, Nat.reduceLT, reduceCtorEq]
  refine aw_sr rfl ?_  -- r2
  simp only [go_sem, reduceIte, Nat.reduceEqDiff, Nat.reduceAdd, Nat.reduceMul, Nat.reduceSub, Nat.reduceLeDiff, Nat.reduceLT, reduceCtorEq]
  refine goA_by (a_SortS l b c _ (hget_self _ _ _) hl) fun y H2 hy => ?_
  have hb2 : hget H2 b = some (.vars (((lk.sortN l).map eSt).flatten ++ List.replicate ((c - l.length) * 1) .any)) := by rw [hy]; exact hget_hset_self (hget_self _ _ _)
  have hs2 : Sub G H2 := by rw [hy]; exact sub_hset_fresh hb (sub_tail hb)
  simp only [go_sem, reduceIte, Nat.reduceEqDiff, Nat.reduceAdd, Nat.reduceMul, Nat.reduceSub, Nat.reduceLeDiff, Nat.reduceLT, reduceCtorEq]
  refine aw_sr rfl ?_  -- r3
  simp only [go_sem, reduceIte, Nat.reduceEqDiff, Nat.reduceAdd, Nat.reduceMul, Nat.reduceSub, Nat.reduceLeDiff, Nat.reduceLT, reduceCtorEq]
  refine aw_ret ⟨trivial, _, rfl, _, _, turn_buf (sz := 1) (c := c) hb2 (by rw [List.length_map]; exact List.length_mergeSort l) (wid_St _) (.ms _ rfl), Vle.refl _, fun k o hk => by rw [hget_hdel_ne (fun e => by subst e; rw [hb] at hk; cases hk)]; exact hs2 _ _ hk⟩
end Go.Proofs.Ytacecjfpkdijpaa

/- What turned between two lists of picks: the reference. No conditions but sizes. -/
set_option linter.unusedSimpArgs false
set_option linter.unusedVariables false
namespace Go.Proofs.Ytacecjfpkdijpaa
open Go.Proofs.YtacecjfpkdijpaaV
set_option maxHeartbeats 4000000
set_option maxRecDepth 100000
namespace lk
abbrev kvP (p : Pk) : V × V := (.str p.1, .int .i64 p.2)
theorem mfind_new {s : List UInt8} : ∀ {l : List Pk} {i : Nat}, (∀ p ∈ l, ¬ p.1 = s) → mfind (.str s) (l.map kvP) i = some none
  | [], i, _ => rfl
  | p :: l, i, h => by
    have h1 : ¬ s = p.1 := fun e => h p (by simp) e.symm
    simp only [List.map_cons, mfind, keyEq, decide_eq_false h1]
    exact mfind_new fun q hq => h q (by simp [hq])
theorem look_ver (s : List UInt8) : ∀ (l : List Pk) (i : Nat), lkF false (.int .i64 0) (mfind (.str s) (l.map kvP) i) = some (True, .int .i64 (ver l s))
  | [], i => rfl
  | p :: l, i => by
    rw [ver_cons]
    simp only [List.map_cons, mfind, keyEq]
    by_cases h : s = p.1
    · rw [decide_eq_true h, if_pos h.symm]; rfl
    · rw [decide_eq_false h, if_neg (fun e => h e.symm)]
      exact look_ver s l (i + 1)
theorem strict_take {l : List Pk} (h : Strict l) {i : Nat} (hi : i < l.length) : ∀ p ∈ l.take i, ¬ p.1 = l[i].1 := by
  intro p hp
  have h2 : l = l.take i ++ (l[i] :: l.drop (i + 1)) := by rw [← List.drop_eq_getElem_cons hi, List.take_append_drop]
  rw [h2] at h
  exact lt_ne ((List.pairwise_append.1 h).2.2 p hp l[i] List.mem_cons_self)
def newN (os ns : List Pk) : List (List UInt8) := (ns.filter fun p => decide (ver os p.1 = 0)).map (·.1)
theorem newN_take {os ns : List Pk} {i : Nat} (hi : i < ns.length) : newN os (ns.take (i + 1)) = newN os (ns.take i) ++ (if ver os ns[i].1 = 0 then [ns[i].1] else []) := by
  rw [newN, newN, List.take_succ_eq_append_getElem hi, List.filter_append, List.map_append]
  congr 1
  by_cases h : ver os ns[i].1 = 0
  · rw [if_pos h, List.filter_cons, if_pos (by simpa using h)]; rfl
  · rw [if_neg h, List.filter_cons, if_neg (by simpa using h)]; rfl
theorem newN_len (os ns : List Pk) : (newN os ns).length ≤ ns.length := by rw [newN, List.length_map]; exact List.length_filter_le _ _
theorem turnsN_take {os ns : List Pk} {l : List (List UInt8)} {i : Nat} (hi : i < l.length) : turnsN os ns (l.take (i + 1)) = turnsN os ns (l.take i) ++ oneT (l[i], ver os l[i], ver ns l[i]) := by
  rw [turnsN, turnsN, List.take_succ_eq_append_getElem hi, List.map_append, List.filter_append]
  congr 1
  rw [List.map_cons, List.map_nil, filt_cons, List.filter_nil, List.append_nil]
theorem turnsN_len (os ns : List Pk) (l : List (List UInt8)) : (turnsN os ns l).length ≤ l.length := by
  have h := List.length_filter_le (fun t : Tn => decide (t.2.1 ≠ t.2.2)) (l.map fun n => (n, ver os n, ver ns n))
  rw [List.length_map] at h
  exact h
end lk
open lk in
theorem q_LockTurns (a b : List Pk) (n1 n2 : Bool) (t1 t2 : Tag) (ha : a.length ≤ 1048576) (hb : b.length ≤ 1048576) (hsa : ∀ p ∈ a, p.1.length ≤ 1048576) (hsb : ∀ p ∈ b, p.1.length ≤ 1048576) :
    Quiet Try.prog 74 [.sl (a.map ePk) n1 t1, .sl (b.map ePk) n2 t2] (tTn (turnsR a b)) := by
  refine Quiet.weak fun G => ?_
  refine acall_body (rs := [.tmp 4, .tmp 5]) Try.func74 rfl rfl Try.ntmps74 (by kernel_rfl) (Nat.le_of_ble_eq_true rfl) ?_
  refine aw_sr rfl ?_  -- r0 @picks.go:257
  simp only [go_sem, reduceIte, Nat.reduceEqDiff, Nat.reduceAdd, Nat.reduceMul, Nat.reduceSub, Nat.reduceLeDiff, Nat.reduceLT, reduceCtorEq]
  refine aw_seq fun K1 hK1 => ?_
  refine aw_sr rfl ?_  -- r1
  simp only [go_sem, reduceIte, Nat.reduceEqDiff, Nat.reduceAdd, Nat.reduceMul, Nat.reduceSub, Nat.reduceLeDiff, Nat.reduceLT, reduceCtorEq]
  refine goA_q (q_LockFault a n1 t1 ha hsa) ?_
  simp only [go_sem, reduceIte, Nat.reduceEqDiff, Nat.reduceAdd, Nat.reduceMul, Nat.reduceSub, Nat.reduceLeDiff, Nat.reduceLT, reduceCtorEq]
  refine aw_sr rfl ?_  -- r2
  simp only [go_sem, reduceIte, Nat.reduceEqDiff, Nat.reduceAdd, Nat.reduceMul, Nat.reduceSub, Nat.reduceLeDiff, Nat.reduceLT, reduceCtorEq]
  refine aw_if rfl (fun h => ?_) (fun h => ?_)
  · have hf : faultK a ≠ 0 := by simpa using h
    refine aw_sr rfl ?_  -- r3
    simp only [go_sem, reduceIte, Nat.reduceEqDiff, Nat.reduceAdd, Nat.reduceMul, Nat.reduceSub, Nat.reduceLeDiff, Nat.reduceLT, reduceCtorEq]
    refine aw_ret ⟨trivial, _, rfl, ?_, sub_rfl⟩
    rw [turnsR, if_pos hf]
    exact .tupL (.cons .untag (.cons (Vle.refl _) .nil))
  have hfa : faultK a = 0 := by simpa using h
  refine aw_skip (hK1 _ _ ?_)
  refine aw_seq fun K2 hK2 => ?_
  refine aw_sr rfl ?_  -- r4
  simp only [go_sem, reduceIte, Nat.reduceEqDiff, Nat.reduceAdd, Nat.reduceMul, Nat.reduceSub, Nat.reduceLeDiff, Nat.reduceLT, reduceCtorEq]
  refine goA_q (q_LockFault b n2 t2 hb hsb) ?_
  simp only [go_sem, reduceIte, Nat.reduceEqDiff, Nat.reduceAdd, Nat.reduceMul, Nat.reduceSub, Nat.reduceLeDiff, Nat.reduceLT, reduceCtorEq]
  refine aw_sr rfl ?_  -- r5
  simp only [go_sem, reduceIte, Nat.reduceEqDiff, Nat.reduceAdd, Nat.reduceMul, Nat.reduceSub, Nat.reduceLeDiff, Nat.reduceLT, reduceCtorEq]
  refine aw_if rfl (fun h => ?_) (fun h => ?_)
  · have hf : faultK b ≠ 0 := by simpa using h
    refine aw_sr rfl ?_  -- r6
    simp only [go_sem, reduceIte, Nat.reduceEqDiff, Nat.reduceAdd, Nat.reduceMul, Nat.reduceSub, Nat.reduceLeDiff, Nat.reduceLT, reduceCtorEq]
    refine aw_ret ⟨trivial, _, rfl, ?_, sub_rfl⟩
    rw [turnsR, if_neg (by simp [hfa]), if_pos hf]
    exact .tupL (.cons .untag (.cons (Vle.refl _) .nil))
  have hfb : faultK b = 0 := by simpa using h
  obtain ⟨a30, astr, aver⟩ := faultK_ok hfa
  obtain ⟨b30, bstr, bver⟩ := faultK_ok hfb
  refine aw_skip (hK2 _ _ ?_)
  refine aw_sr rfl ?_  -- r7 @picks.go:264
  simp only [go_sem, reduceIte, Nat.reduceEqDiff, Nat.reduceAdd, Nat.reduceMul, Nat.reduceSub, Nat.reduceLeDiff, Nat.reduceLT, reduceCtorEq]
  intro b28 hb28 b29 hb29
  obtain ⟨m1, m2⟩ := fresh_cons hb29
  refine aw_box2 hb28 hb29 fun B1 hs1 h28 h29 n2829 _ => ?_
  refine aw_sr rfl ?_  -- r8 @picks.go:265
  simp only [go_sem, reduceIte, Nat.reduceEqDiff, Nat.reduceAdd, Nat.reduceMul, Nat.reduceSub, Nat.reduceLeDiff, Nat.reduceLT, reduceCtorEq]
  refine aw_seq fun K3 hK3 => ?_
  refine aw_sr rfl ?_  -- r9 @picks.go:266
  simp only [go_sem, reduceIte, Nat.reduceEqDiff, Nat.reduceAdd, Nat.reduceMul, Nat.reduceSub, Nat.reduceLeDiff, Nat.reduceLT, reduceCtorEq]
  refine aw_range a.length (S := Tag × Heap) (fun i s => [(1, .sl (b.map ePk) n2 t2), (8, .map b28), (9, .map b29), (10, .sl (((a.take i).map (·.1)).map eSt) (a.take i).isEmpty s.1), (30, .sl (a.map ePk) n1 t1)]) (fun _ s => s.2) (fun i s => hget s.2 b28 = some (.map ((a.take i).map kvP)) ∧ hget s.2 b29 = some (.map []) ∧ Rm G s.2 1 s.1 ∧ Sub G s.2) (.full, B1) (by omega) ?_ (fun _ _ h => h) ⟨h28, h29, Rm.start _ _ _, hs1⟩ rfl (fun _ _ => rfl) ?_ ?_ (by decide)
  · simp only [go_sem, reduceIte, Nat.reduceEqDiff, Nat.reduceAdd, Nat.reduceMul, Nat.reduceSub, Nat.reduceLeDiff, Nat.reduceLT, reduceCtorEq, Int.natCast_zero, List.take_zero, List.map_nil, List.isEmpty_nil]
  · intro i ⟨t4, H⟩ hi ⟨h28, h29, hr, hs⟩
    simp only at h28 h29 hr hs ⊢
    have htk : a.take (i + 1) = a.take i ++ [a[i]] := List.take_succ_eq_append_getElem hi
    have hmf := mfind_new (i := 0) (strict_take astr hi)
    refine aw_sr rfl ?_  -- r11 @picks.go:266
    simp only [go_sem, reduceIte, Nat.reduceEqDiff, Nat.reduceAdd, Nat.reduceMul, Nat.reduceSub, Nat.reduceLeDiff, Nat.reduceLT, reduceCtorEq, getD_map hi, ePk, cPk]
    refine ⟨⟨by omega, by omega, wid_ePk _⟩, ?_⟩
    generalize a[i] = p at htk hmf
    intro b12 hb12
    refine aw_box1 hb12 fun B2 hs2 h12 => ?_
    have n1228 := ne_fresh h28 hb12
    replace h28 := hs2 _ _ h28
    replace h29 := hs2 _ _ h29
    replace hr := hr.sub hs2
    replace hs := sub_trans hs hs2
    refine aw_sr rfl ?_  -- r12 @picks.go:267
    simp only [go_sem, reduceIte, Nat.reduceEqDiff, Nat.reduceAdd, Nat.reduceMul, Nat.reduceSub, Nat.reduceLeDiff, Nat.reduceLT, reduceCtorEq, h12, h28, hmf, mput]
    generalize hH2 : hset B2 b28 _ = H2
    have g28 : hget H2 b28 = some (.map ((a.take (i + 1)).map kvP)) := by rw [← hH2, hget_hset_self h28, htk, List.map_append]; rfl
    have g29 : hget H2 b29 = some (.map []) := by rw [← hH2]; exact hset_keep h29 (fun e => n2829 e.symm)
    have g12 : hget H2 b12 = some (.vars [.str p.1, .int .i64 p.2]) := by rw [← hH2]; exact hset_keep h12 (fun e => n1228 e.symm)
    have gr : Rm G H2 1 t4 := by rw [← hH2]; exact hr.hset h28 (fun _ _ e => by cases e)
    have gs : Sub G H2 := by rw [← hH2]; exact sub_hset_fresh hb28 hs
    refine aw_rg rfl ?_  -- r13 @picks.go:268
    simp only [go_sem, reduceIte, Nat.reduceEqDiff, Nat.reduceAdd, Nat.reduceMul, Nat.reduceSub, Nat.reduceLeDiff, Nat.reduceLT, reduceCtorEq, g12]
    refine goP_rm (G := G) gr gs ?_ fun t6 H6 hr6 hs6 hg6 => ?_
    · exact ⟨rfl, rfl, by decide, wid_St _, wid_one rfl, by simp [sca, scalarV], by simp; omega, by simp; omega⟩
    simp only [go_sem, reduceIte, Nat.reduceEqDiff, Nat.reduceAdd, Nat.reduceMul, Nat.reduceSub, Nat.reduceLeDiff, Nat.reduceLT, reduceCtorEq]
    refine ⟨(t6, H6), ⟨hg6.map g28, hg6.map g29, hr6, hs6⟩, ?_, sub_rfl⟩
    rw [htk, isE_one, List.map_append, List.map_append, List.map_cons, List.map_nil, List.map_cons, List.map_nil, eSt]
    exact ⟨rfl, rfl, rfl, rfl, rfl, rfl, rfl⟩
  intro ⟨t4, H⟩ ⟨h28, h29, hr, hs⟩
  simp only at h28 h29 hr hs ⊢
  rw [List.take_length] at h28 ⊢
  clear hs1
  refine hK3 _ _ ?_
  refine aw_seq fun K4 hK4 => ?_
  refine aw_sr rfl ?_  -- r15 @picks.go:270
  simp only [go_sem, reduceIte, Nat.reduceEqDiff, Nat.reduceAdd, Nat.reduceMul, Nat.reduceSub, Nat.reduceLeDiff, Nat.reduceLT, reduceCtorEq]
  refine aw_range b.length (S := Tag × Heap) (fun i s => [(8, .map b28), (9, .map b29), (10, .sl ((a.map (·.1) ++ newN a (b.take i)).map eSt) (a.map (·.1) ++ newN a (b.take i)).isEmpty s.1), (47, .sl (b.map ePk) n2 t2)]) (fun _ s => s.2) (fun i s => hget s.2 b28 = some (.map (a.map kvP)) ∧ hget s.2 b29 = some (.map ((b.take i).map kvP)) ∧ Rm G s.2 1 s.1 ∧ Sub G s.2) (t4, H) (by omega) ?_ (fun _ _ h => h) ⟨h28, h29, hr, hs⟩ rfl (fun _ _ => rfl) ?_ ?_ (by decide)
  · simp only [go_sem, reduceIte, Nat.reduceEqDiff, Nat.reduceAdd, Nat.reduceMul, Nat.reduceSub, Nat.reduceLeDiff, Nat.reduceLT, reduceCtorEq, Int.natCast_zero, List.take_zero, show newN a [] = [] from rfl, List.append_nil]
    first | trivial | simp
  · intro i ⟨t4, H⟩ hi ⟨h28, h29, hr, hs⟩
    simp only at h28 h29 hr hs ⊢
    have htk : b.take (i + 1) = b.take i ++ [b[i]] := List.take_succ_eq_append_getElem hi
    have hmf := mfind_new (i := 0) (strict_take bstr hi)
    have hnt := newN_take (os := a) hi
    have hnl := newN_len a (b.take i)
    rw [List.length_take] at hnl
    refine aw_sr rfl ?_  -- r17 @picks.go:270
    simp only [go_sem, reduceIte, Nat.reduceEqDiff, Nat.reduceAdd, Nat.reduceMul, Nat.reduceSub, Nat.reduceLeDiff, Nat.reduceLT, reduceCtorEq, getD_map hi, ePk, cPk]
    refine ⟨⟨by omega, by omega, wid_ePk _⟩, ?_⟩
    generalize b[i] = p at htk hmf hnt
    intro b14 hb14
    refine aw_box1 hb14 fun B2 hs2 h14 => ?_
    have n1429 := ne_fresh h29 hb14
    replace h28 := hs2 _ _ h28
    replace h29 := hs2 _ _ h29
    replace hr := hr.sub hs2
    replace hs := sub_trans hs hs2
    have hlk := look_ver p.1 a 0
    refine aw_mid (fun f' G' => ∃ t', FSub [(8, .map b28), (9, .map b29), (10, .sl ((a.map (·.1) ++ newN a (b.take (i + 1))).map eSt) (a.map (·.1) ++ newN a (b.take (i + 1))).isEmpty t'), (14, .ptr b14 0), (47, .sl (b.map ePk) n2 t2), (48, .int .i64 ((b.length : Nat) : Int)), (49, .int .i64 ((i : Nat) : Int))] f' ∧ hget G' b28 = some (.map (a.map kvP)) ∧ hget G' b29 = some (.map ((b.take i).map kvP)) ∧ hget G' b14 = some (.vars [.str p.1, .int .i64 p.2]) ∧ Rm G G' 1 t' ∧ Sub G G') ?_ ?_
    · refine aw_sr rfl ?_  -- r18 @picks.go:271
      simp only [go_sem, reduceIte, Nat.reduceEqDiff, Nat.reduceAdd, Nat.reduceMul, Nat.reduceSub, Nat.reduceLeDiff, Nat.reduceLT, reduceCtorEq, h14, h28, ↓hlk]
      refine aw_if rfl (fun h => ?_) (fun h => ?_)
      · have h : ver a p.1 = 0 := by simpa using h
        rw [if_pos h] at hnt
        refine aw_rg rfl ?_  -- r19 @picks.go:272
        simp only [go_sem, reduceIte, Nat.reduceEqDiff, Nat.reduceAdd, Nat.reduceMul, Nat.reduceSub, Nat.reduceLeDiff, Nat.reduceLT, reduceCtorEq, h14]
        refine goP_rm (G := G) hr hs ?_ fun t6 H6 hr6 hs6 hg6 => ?_
        · exact ⟨rfl, rfl, by decide, wid_St _, wid_one rfl, by simp [sca, scalarV], by simp; omega, by simp; omega⟩
        simp only [go_sem, reduceIte, Nat.reduceEqDiff, Nat.reduceAdd, Nat.reduceMul, Nat.reduceSub, Nat.reduceLeDiff, Nat.reduceLT, reduceCtorEq]
        refine ⟨t6, ?_, hg6.map h28, hg6.map h29, hg6.vars h14, hr6, hs6⟩
        rw [hnt, ← List.append_assoc, isE_one, List.map_append (l₂ := [p.1]), List.map_cons, List.map_nil, eSt]
        exact ⟨rfl, rfl, rfl, rfl, rfl, rfl, rfl⟩
      · have h : ¬ ver a p.1 = 0 := by simpa using h
        rw [if_neg h, List.append_nil] at hnt
        refine aw_skip ⟨t4, ?_, h28, h29, h14, hr, hs⟩
        rw [hnt]
        exact ⟨rfl, rfl, rfl, rfl, rfl, rfl, rfl⟩
    intro f' G' ⟨t', hf', h28, h29, h14, hr, hs⟩
    refine AW.of_fsub hf' ?_
    refine aw_rg rfl ?_  -- r20 @picks.go:274
    simp only [go_sem, reduceIte, Nat.reduceEqDiff, Nat.reduceAdd, Nat.reduceMul, Nat.reduceSub, Nat.reduceLeDiff, Nat.reduceLT, reduceCtorEq, h14, h29, hmf, mput]
    refine ⟨(t', _), ⟨hset_keep h28 n2829, ?_, hr.hset h29 (fun _ _ e => by cases e), sub_hset_fresh m2 hs⟩, ?_, sub_rfl⟩
    · rw [hget_hset_self h29, htk, List.map_append]; rfl
    · exact ⟨rfl, rfl, rfl, rfl, rfl, rfl⟩
  intro ⟨t4, H⟩ ⟨h28, h29, hr, hs⟩
  simp only at h28 h29 hr hs ⊢
  rw [List.take_length] at h29 ⊢
  have hnames : a.map (·.1) ++ newN a b = namesL a b := rfl
  have hnl : (namesL a b).length ≤ 60 := by
    have h1 := newN_len a b
    rw [← hnames, List.length_append, List.length_map]; omega
  have hsame := turns_same astr bstr (fun p hp => (aver p hp).1)
  have hsl : (sortN (namesL a b)).length ≤ 60 := by rw [sortN, List.length_mergeSort]; exact hnl
  have hset : turnsR a b = (turnsN a b (sortN (namesL a b)), 0) := by rw [hsame, turnsR, if_neg (by simp [hfa]), if_neg (by simp [hfb])]
  rw [hnames]
  refine hK4 _ _ ?_
  refine aw_sr rfl ?_  -- r22 @picks.go:276
  simp only [go_sem, reduceIte, Nat.reduceEqDiff, Nat.reduceAdd, Nat.reduceMul, Nat.reduceSub, Nat.reduceLeDiff, Nat.reduceLT, reduceCtorEq]
  refine aw_seq fun K5 hK5 => ?_
  refine aw_sr rfl ?_  -- r23 @picks.go:277
  simp only [go_sem, reduceIte, Nat.reduceEqDiff, Nat.reduceAdd, Nat.reduceMul, Nat.reduceSub, Nat.reduceLeDiff, Nat.reduceLT, reduceCtorEq]
  refine goA_q (q_sorted (namesL a b) _ _ (by omega)) ?_
  simp only [go_sem, reduceIte, Nat.reduceEqDiff, Nat.reduceAdd, Nat.reduceMul, Nat.reduceSub, Nat.reduceLeDiff, Nat.reduceLT, reduceCtorEq]
  generalize sortN (namesL a b) = l at hsl hset
  refine aw_range l.length (S := Tag × Heap) (fun i s => [(8, .map b28), (9, .map b29), (15, .sl ((turnsN a b (l.take i)).map eTn) (turnsN a b (l.take i)).isEmpty s.1), (70, .sl (l.map eSt) false .no)]) (fun _ s => s.2) (fun i s => hget s.2 b28 = some (.map (a.map kvP)) ∧ hget s.2 b29 = some (.map (b.map kvP)) ∧ Rm G s.2 3 s.1 ∧ Sub G s.2) (.full, H) (by omega) ?_ (fun _ _ h => h) ⟨h28, h29, Rm.start _ _ _, hs⟩ rfl (fun _ _ => rfl) ?_ ?_ (by decide)
  · simp only [go_sem, reduceIte, Nat.reduceEqDiff, Nat.reduceAdd, Nat.reduceMul, Nat.reduceSub, Nat.reduceLeDiff, Nat.reduceLT, reduceCtorEq, Int.natCast_zero, List.take_zero, show turnsN a b [] = [] from rfl, List.map_nil, List.isEmpty_nil]
  · intro i ⟨t4, H⟩ hi ⟨h28, h29, hr, hs⟩
    simp only at h28 h29 hr hs ⊢
    have htt := turnsN_take (os := a) (ns := b) hi
    have htl := turnsN_len a b (l.take i)
    rw [List.length_take] at htl
    refine aw_sr rfl ?_  -- r25 @picks.go:277
    simp only [go_sem, reduceIte, Nat.reduceEqDiff, Nat.reduceAdd, Nat.reduceMul, Nat.reduceSub, Nat.reduceLeDiff, Nat.reduceLT, reduceCtorEq, getD_map hi, eSt]
    refine ⟨⟨by omega, by omega, wid_St _⟩, ?_⟩
    generalize l[i] = x at htt
    have hl1 := look_ver x a 0
    have hl2 := look_ver x b 0
    refine aw_sr rfl ?_  -- r26 @picks.go:278
    simp only [go_sem, reduceIte, Nat.reduceEqDiff, Nat.reduceAdd, Nat.reduceMul, Nat.reduceSub, Nat.reduceLeDiff, Nat.reduceLT, reduceCtorEq, h28, h29, ↓hl1, ↓hl2]
    refine aw_if rfl (fun h => ?_) (fun h => ?_)
    · have h : ¬ ver a x = ver b x := by simpa using h
      have h1 : oneT (x, ver a x, ver b x) = [(x, ver a x, ver b x)] := if_neg h
      refine aw_rg rfl ?_  -- r27 @picks.go:279
      simp only [go_sem, reduceIte, Nat.reduceEqDiff, Nat.reduceAdd, Nat.reduceMul, Nat.reduceSub, Nat.reduceLeDiff, Nat.reduceLT, reduceCtorEq, h28, h29, ↓hl1, ↓hl2]
      refine goP_rm (G := G) hr hs ?_ fun t6 H6 hr6 hs6 hg6 => ?_
      · exact ⟨rfl, rfl, by decide, wid_eTn _, wid_one rfl, by simp [sca, scalarV], by simp; omega, by simp; omega⟩
      simp only [go_sem, reduceIte, Nat.reduceEqDiff, Nat.reduceAdd, Nat.reduceMul, Nat.reduceSub, Nat.reduceLeDiff, Nat.reduceLT, reduceCtorEq]
      refine ⟨(t6, H6), ⟨hg6.map h28, hg6.map h29, hr6, hs6⟩, ?_, sub_rfl⟩
      rw [htt, h1, isE_one, List.map_append, List.map_cons, List.map_nil, eTn]
      exact ⟨rfl, rfl, rfl, rfl, rfl, rfl⟩
    · have h : ver a x = ver b x := by simpa using h
      have h1 : oneT (x, ver a x, ver b x) = [] := if_pos h
      refine aw_skip ⟨(t4, H), ⟨h28, h29, hr, hs⟩, ?_, sub_rfl⟩
      rw [htt, h1, List.append_nil]
      exact ⟨rfl, rfl, rfl, rfl, rfl, rfl⟩
  intro ⟨t4, H⟩ ⟨h28, h29, hr, hs⟩
  simp only at hr hs ⊢
  rw [List.take_length]
  refine hK5 _ _ ?_
  refine aw_sr rfl ?_  -- r29 @picks.go:282
  simp only [go_sem, reduceIte, Nat.reduceEqDiff, Nat.reduceAdd, Nat.reduceMul, Nat.reduceSub, Nat.reduceLeDiff, Nat.reduceLT, reduceCtorEq]
  refine aw_ret ⟨trivial, _, rfl, ?_, hs⟩
  rw [hset]
  exact .tupL (.cons .untag (.cons (Vle.refl _) .nil))
end Go.Proofs.Ytacecjfpkdijpaa

/- LockTurns: the law, over data. No conditions but sizes. -/
set_option linter.unusedSimpArgs false
set_option linter.unusedVariables false
namespace Go.Proofs.Ytacecjfpkdijpaa
open Go.Proofs.YtacecjfpkdijpaaV
set_option maxHeartbeats 2000000
set_option maxRecDepth 100000
namespace lk
theorem mergeT_len : ∀ (k : Nat) (os ns : List Pk), os.length + ns.length ≤ k → (mergeT os ns).length ≤ os.length + ns.length
  | k, [], [], _ => by rw [mergeT_nn]; simp
  | 0, o :: os, ns, hk => by simp at hk
  | 0, [], n :: ns, hk => by simp at hk
  | k + 1, o :: os, [], hk => by
    have := mergeT_len k os [] (by simp at hk ⊢; omega)
    rw [mergeT_on]; simp at this ⊢; omega
  | k + 1, [], n :: ns, hk => by
    have := mergeT_len k [] ns (by simp at hk ⊢; omega)
    rw [mergeT_no]; simp at this ⊢; omega
  | k + 1, o :: os, n :: ns, hk => by
    simp only [List.length_cons] at hk ⊢
    rw [mergeT_oo]
    split
    · have := mergeT_len k os (n :: ns) (by simp; omega)
      simp at this ⊢; omega
    · split
      · have := mergeT_len k (o :: os) ns (by simp; omega)
        simp at this ⊢; omega
      · have := mergeT_len k os ns (by omega)
        simp at this ⊢; omega
theorem turnsR_len (a b : List Pk) : (turnsR a b).1.length ≤ 60 := by
  unfold turnsR
  split
  · simp
  · rename_i h1
    split
    · simp
    · rename_i h2
      have h1 : faultK a = 0 := by simpa using h1
      have h2 : faultK b = 0 := by simpa using h2
      have k1 := (faultK_ok h1).1
      have k2 := (faultK_ok h2).1
      have := mergeT_len _ a b (Nat.le_refl _)
      have h3 := List.length_filter_le (fun t : Tn => decide (t.2.1 ≠ t.2.2)) (mergeT a b)
      show (turnsF a b).length ≤ 60
      rw [turnsF]; omega
end lk
open lk in
theorem q_EqTn (xs ys : List Tn) (n1 n2 : Bool) (t1 t2 : Tag) (hx : (xs.length : Int) ≤ 9223372036854775807) : Quiet Try.prog 75 [.sl (xs.map eTn) n1 t1, .sl (ys.map eTn) n2 t2] (.bool (decide (xs = ys))) := by
  intro G
  refine acall_body (rs := [.tmp 4]) Try.func75 rfl rfl Try.ntmps75 (by kernel_rfl) (Nat.le_of_ble_eq_true rfl) ?_
  refine aw_sr rfl ?_
  simp only [go_sem, reduceIte, Nat.reduceEqDiff, Nat.reduceAdd, Nat.reduceMul, Nat.reduceSub, Nat.reduceLeDiff, Nat.reduceLT, reduceCtorEq]
  refine aw_seq fun K2 hK2 => ?_
  refine aw_sr rfl ?_
  simp only [go_sem, reduceIte, Nat.reduceEqDiff, Nat.reduceAdd, Nat.reduceMul, Nat.reduceSub, Nat.reduceLeDiff, Nat.reduceLT, reduceCtorEq]
  refine aw_if rfl (fun h => ?_) (fun h => ?_)
  · refine aw_sr rfl ?_
    simp only [go_sem, reduceIte, Nat.reduceEqDiff, Nat.reduceAdd, Nat.reduceMul, Nat.reduceSub, Nat.reduceLeDiff, Nat.reduceLT, reduceCtorEq]
    refine aw_ret ⟨trivial, _, rfl, ?_⟩
    simp only [decide_eq_true_eq, ne_eq, Int.natCast_inj] at h
    refine ⟨?_, rfl⟩
    rw [decide_eq_false (fun e => h (by rw [e]))]
    rfl
  · refine aw_skip (hK2 _ _ ?_)
    have hl : xs.length = ys.length := by simpa [Int.natCast_inj] using h
    refine aw_seq fun K3 hK3 => ?_
    refine aw_sr rfl ?_
    simp only [go_sem, reduceIte, Nat.reduceEqDiff, Nat.reduceAdd, Nat.reduceMul, Nat.reduceSub, Nat.reduceLeDiff, Nat.reduceLT, reduceCtorEq]
    refine aw_range xs.length (S := Unit) (fun _ _ => [(0, .sl (xs.map eTn) n1 t1), (1, .sl (ys.map eTn) n2 t2)]) (fun _ _ => G) (fun i _ => xs.take i = ys.take i) () hx ?_ (fun _ _ h => h) rfl rfl (fun _ _ => rfl) ?_ ?_ (by decide)
    · simp only [go_sem, reduceIte, Nat.reduceEqDiff, Nat.reduceAdd, Nat.reduceMul, Nat.reduceSub, Nat.reduceLeDiff, Nat.reduceLT, reduceCtorEq]
    · intro i _ hi he
      refine aw_sr rfl ?_
      simp only [go_sem, reduceIte, Nat.reduceEqDiff, Nat.reduceAdd, Nat.reduceMul, Nat.reduceSub, Nat.reduceLeDiff, Nat.reduceLT, reduceCtorEq]
      refine aw_srd [(0,true),(1,true),(2,true),(3,true),(4,true),(5,true),(6,true),(7,true),(8,true)] mixed rfl (by kernel_rfl) ?_
      simp only [go_sem, reduceIte, Nat.reduceEqDiff, Nat.reduceAdd, Nat.reduceMul, Nat.reduceSub, Nat.reduceLeDiff, Nat.reduceLT, reduceCtorEq, getD_map hi, getD_map (hl ▸ hi), eTn]
      refine ⟨⟨by omega, by omega, wid_map (g := eTn) (fun _ => rfl) _⟩, ⟨by omega, by omega, wid_map (g := eTn) (fun _ => rfl) _⟩, ?_⟩
      refine aw_if rfl (fun h => ?_) (fun h => ?_)
      · refine aw_sr rfl ?_
        simp only [go_sem, reduceIte, Nat.reduceEqDiff, Nat.reduceAdd, Nat.reduceMul, Nat.reduceSub, Nat.reduceLeDiff, Nat.reduceLT, reduceCtorEq]
        refine aw_ret ⟨trivial, _, rfl, ?_⟩
        refine ⟨?_, rfl⟩
        have h : ¬ xs[i] = ys[i]'(hl ▸ hi) := fun e => by rw [e] at h; simp at h
        rw [decide_eq_false (fun e => h (by subst e; rfl))]
        rfl
      · have h : xs[i] = ys[i]'(hl ▸ hi) := by
          have h2 : xs[i].1 = (ys[i]'(hl ▸ hi)).1 ∧ xs[i].2.1 = (ys[i]'(hl ▸ hi)).2.1 ∧ xs[i].2.2 = (ys[i]'(hl ▸ hi)).2.2 := by simpa using h
          exact Prod.ext h2.1 (Prod.ext h2.2.1 h2.2.2)
        refine aw_skip ⟨(), ?_, ?_, fun _ _ h => h⟩
        · rw [List.take_succ_eq_append_getElem hi, List.take_succ_eq_append_getElem (hl ▸ hi), he, h]
        · simp only [go_sem, reduceIte, Nat.reduceEqDiff, Nat.reduceAdd, Nat.reduceMul, Nat.reduceSub, Nat.reduceLeDiff, Nat.reduceLT, reduceCtorEq]
    · intro _ he
      refine hK3 _ _ ?_
      refine aw_sr rfl ?_
      simp only [go_sem, reduceIte, Nat.reduceEqDiff, Nat.reduceAdd, Nat.reduceMul, Nat.reduceSub, Nat.reduceLeDiff, Nat.reduceLT, reduceCtorEq]
      refine aw_ret ⟨trivial, _, rfl, ?_⟩
      rw [List.take_length, hl, List.take_length] at he
      subst he
      rw [decide_eq_true rfl]
      exact ⟨rfl, rfl⟩
open lk in
theorem law0_LockTurns (a b : List Pk) (n1 n2 : Bool) (ha : a.length ≤ 1048576) (hb : b.length ≤ 1048576) (hsa : ∀ p ∈ a, p.1.length ≤ 1048576) (hsb : ∀ p ∈ b, p.1.length ≤ 1048576) :
    Quiet Try.prog 12 [.sl (a.map ePk) n1 .no, .sl (b.map ePk) n2 .no] (.bool true) := by
  have hl := turnsR_len a b
  have h0 : Quiet Try.prog 73 [.sl [] true .full, .sl [[.str [97], .int .i64 2]] false .full] (.tup [.sl [[.str [97], .int .i64 0, .int .i64 2]] false .no, .int .i64 0]) := by
    have h := q_Turns [] [([97], 2)] true false .full .full (by simp) (by simp) (by simp) (by simp)
    have e : turnsR [] [([97], 2)] = ([([97], 0, 2)], 0) := by
      have f1 : faultK [] = 0 := rfl
      have f2 : faultK [(([97] : List UInt8), (2 : Int))] = 0 := by decide
      rw [turnsR, if_neg (by simp [f1]), if_neg (by simp [f2]), turnsF, mergeT_no, mergeT_nn]
      rfl
    rw [e] at h
    exact h
  refine Quiet.weak fun G => ?_
  refine acall_body (rs := [.tmp 4]) Try.func12 rfl rfl Try.ntmps12 (by kernel_rfl) (Nat.le_of_ble_eq_true rfl) ?_
  refine aw_sr rfl ?_  -- r0
  simp only [go_sem, reduceIte, Nat.reduceEqDiff, Nat.reduceAdd, Nat.reduceMul, Nat.reduceSub, Nat.reduceLeDiff, Nat.reduceLT, reduceCtorEq]
  refine aw_seq fun K1 hK1 => ?_
  refine aw_sr rfl ?_  -- r1
  simp only [go_sem, reduceIte, Nat.reduceEqDiff, Nat.reduceAdd, Nat.reduceMul, Nat.reduceSub, Nat.reduceLeDiff, Nat.reduceLT, reduceCtorEq]
  refine goA_q h0 ?_
  simp only [go_sem, reduceIte, Nat.reduceEqDiff, Nat.reduceAdd, Nat.reduceMul, Nat.reduceSub, Nat.reduceLeDiff, Nat.reduceLT, reduceCtorEq]
  refine aw_sr rfl ?_  -- r2
  simp only [go_sem, reduceIte, Nat.reduceEqDiff, Nat.reduceAdd, Nat.reduceMul, Nat.reduceSub, Nat.reduceLeDiff, Nat.reduceLT, reduceCtorEq]
  refine aw_if rfl (fun h => by simp at h) (fun h => ?_)
  refine aw_skip (hK1 _ _ ?_)
  refine aw_sr rfl ?_  -- r4
  simp only [go_sem, reduceIte, Nat.reduceEqDiff, Nat.reduceAdd, Nat.reduceMul, Nat.reduceSub, Nat.reduceLeDiff, Nat.reduceLT, reduceCtorEq]
  refine goA_q (q_Turns a b n1 n2 .no .no ha hb hsa hsb) ?_
  simp only [go_sem, reduceIte, Nat.reduceEqDiff, Nat.reduceAdd, Nat.reduceMul, Nat.reduceSub, Nat.reduceLeDiff, Nat.reduceLT, reduceCtorEq]
  refine aw_sr rfl ?_  -- r5
  simp only [go_sem, reduceIte, Nat.reduceEqDiff, Nat.reduceAdd, Nat.reduceMul, Nat.reduceSub, Nat.reduceLeDiff, Nat.reduceLT, reduceCtorEq]
  refine goA_q (q_LockTurns a b n1 n2 .no .no ha hb hsa hsb) ?_
  simp only [go_sem, reduceIte, Nat.reduceEqDiff, Nat.reduceAdd, Nat.reduceMul, Nat.reduceSub, Nat.reduceLeDiff, Nat.reduceLT, reduceCtorEq]
  generalize turnsR a b = x at hl
  refine aw_sr rfl ?_  -- r6
  simp only [go_sem, reduceIte, Nat.reduceEqDiff, Nat.reduceAdd, Nat.reduceMul, Nat.reduceSub, Nat.reduceLeDiff, Nat.reduceLT, reduceCtorEq]
  refine goA_q (q_EqTn x.1 x.1 _ _ _ _ (by omega)) ?_
  simp only [go_sem, reduceIte, Nat.reduceEqDiff, Nat.reduceAdd, Nat.reduceMul, Nat.reduceSub, Nat.reduceLeDiff, Nat.reduceLT, reduceCtorEq]
  refine aw_ret ⟨trivial, _, rfl, ?_, sub_rfl⟩
  first | exact Vle.refl _ | (simp; exact Vle.refl _)
end Go.Proofs.Ytacecjfpkdijpaa

/- LockTurns: the law, over its arguments as data. -/
namespace Go.Proofs.Ytacecjfpkdijpaa.lockTurns
open Go.Proofs.YtacecjfpkdijpaaV
set_option linter.unusedVariables false
set_option maxRecDepth 100000
theorem law (x0 : D170) (x1 : D170) (q0 : o170 x0) (q1 : o170 x1) : Quiet Try.prog 12 [.sl (x0.1.map e175) x0.2 .no, .sl (x1.1.map e175) x1.2 .no] (.bool true) :=
  law0_LockTurns x0.1 x1.1 x0.2 x1.2 q0.2.1 q1.2.1 (fun p hp => (q0.2.2 p hp).1) (fun p hp => (q1.2.2 p hp).1)
end Go.Proofs.Ytacecjfpkdijpaa.lockTurns

/- 'roadlaw5.LockTurns' returns true for every input whose bulk is at most 1048576 values and letters (the statement's own bound): . No other condition. -/
set_option linter.unusedSimpArgs false
set_option linter.unusedVariables false
set_option maxRecDepth 100000
namespace Go.Proofs.Ytacecjfpkdijpaa.lockTurns
open Go.ChangeShapes Go.WideShapes Go.ChangeAt Go.RowKit
open Go.Proofs.YtacecjfpkdijpaaV
theorem own : ownKnob Try.prog.godebug = none := by kernel_rfl
theorem laidOut : laidOutB Try.prog = true := by kernel_rfl
theorem uBool : Try.prog.underlying 4 = some .bool := by kernel_rfl
theorem typed {xs : List V} (h : TyAll Try.prog [170, 170] xs) (hs : vszL xs ≤ 1048576) : Quiet Try.prog 12 xs (.bool true) := by
  obtain ⟨x0, x1, rfl, q0, q1⟩ := args h hs
  exact law x0 x1 q0 q1
theorem contract (H : Type) (enc : TypeId × Value → H) (W : World) (base : Nat) (args : Array Value) (ds gs : List (DataW H)) (before : List MemPlace)
    (hval : ∀ (j : Nat) t v, Try.f12.params[j]? = some t → args[j]? = some v → Value.okWide Try.prog W .any base t v)
    (hW : DataW.Whole enc Try.prog Try.f12.params.toList Rows.lockTurnsSpec.vars false W args.toList ds gs before) (hk : Rows.uptoSmall H (ds ++ gs) = true) :
    Calls Try.prog 12 args W fun e W' => ∃ v, e = .returned v ∧ Rows.lockTurnsSpec.post enc Try.prog Try.f12 false true false false W args v W' := by
  have hW' := hW
  obtain ⟨p, q, hA0, hV, rfl, hfz, hnd⟩ := hW
  have hA : DataW.TrodAll enc Try.prog W 0 (fun _ => true) true Try.f12.params.toList args.toList ds p := hA0
  obtain ⟨rfl, rfl⟩ := trodVars_none hV
  rw [Try.params12] at hA hval
  obtain ⟨xs, hr, ht, hs⟩ := trod_all (fun j t v hj hv => hval j t v (by simpa using hj) (by simpa using hv)) hA
  have hk' : Rows.uptoBulkAll (ds ++ []) ≤ 1048576 := of_decide_eq_true hk
  rw [List.append_nil] at hk'
  have hq := typed ht (Nat.le_trans hs hk')
  refine (ACall.calls (hq []) Try.func12 rfl rfl hr).mono fun e W' ⟨v, he, bel, M', x, G', hx, hxe, _⟩ => ?_
  subst hxe
  have hv := hx.bool_inv
  subst he hv
  have hst := trod_stays laidOut bel (by kernel_rfl) hA
  obtain ⟨v0, vs0, d0, ds0, p0, q0, hargs, rfl, rfl, h0, r0⟩ := trodAll_cons hA
  obtain ⟨v1, vs1, d1, ds1, p1, q1, rfl, rfl, rfl, h1, r1⟩ := trodAll_cons r0
  obtain ⟨rfl, rfl, rfl⟩ := trodAll_nil r1
  exact ⟨_, rfl, _, _, _, [], _, [], hW', trodAll_mk1 (shut_bool uBool _), hst, rfl, bel.frame _, fun h => by cases h⟩
set_option maxRecDepth 100000 in
theorem lifted (os : Os) (started : os.Started) (H : Type) (enc : TypeId × Value → H) (F : Stop.Interp) :
    ReturnsInHanded {} Try.checked os 12 .any ((Rows.OpenSpec.upto Rows.lockTurnsSpec).pre6 enc Try.prog Try.f12 Rows.lockTurnsUptoRow.domain false) (((Rows.OpenSpec.upto Rows.lockTurnsSpec).at F).post enc Try.prog Try.f12 false true false false) := by
  refine returnsInHanded_of_cond (C := Try.checked) (s := Rows.OpenSpec.upto Rows.lockTurnsSpec) (k := Rows.uptoSmall) rfl own started (by kernel_rfl) Try.func12
    (OpenSpec.witness (enc := enc) (C := Try.checked) (s := Rows.OpenSpec.upto Rows.lockTurnsSpec) (k := Rows.uptoSmall) rfl false ⟨#[], #[(.slice none 0 0), (.slice none 0 0)], []⟩ 8 (by kernel_rfl) (by kernel_rfl) (by kernel_rfl)
      (x := ([.nil, .nil], [], [])) (by kernel_rfl) rfl (by kernel_rfl)) ?_
  intro W base args ds gs before hval hW _ hk _
  exact contract H enc W base args ds gs before hval hW hk
set_option maxHeartbeats 4000000 in
theorem joined : joinedFacts Try.pinned.checked.prog 12 Try.f12 (Rows.OpenSpec.upto Rows.lockTurnsSpec).bare Rows.lockTurnsUptoRow = true := by
  unfold joinedFacts
  simp only [Bool.and_eq_true]
  repeat' apply And.intro
  all_goals (as_aux_lemma => kernel_rfl)
theorem over : Rows.lockTurnsUptoRow.holds Try.pinned (Rows.OpenSpec.upto Rows.lockTurnsSpec) :=
  OpenClaim.holds_of_cond 12 Try.f12 rfl rfl rfl rfl rfl rfl rfl ⟨rfl, rfl, rfl, rfl, rfl⟩ rfl rfl rfl rfl rfl (by kernel_rfl) Try.func12 joined
    (of_decide_eq_true (by kernel_rfl)) (by unfold Func.isWrapper; first | (rw [if_pos (by decide +kernel)]; kernel_rfl) | (rw [if_neg (by decide +kernel)]; exact ⟨rfl, rfl⟩))
    (fun os started H enc _ F => lifted os started H enc F)
theorem proved : Rows.LockTurnsUptoSaid := over
#print axioms proved
end Go.Proofs.Ytacecjfpkdijpaa.lockTurns
