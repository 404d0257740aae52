/-
  Answers of which less is told; room behind slices that grow; functions without a body.
-/
import Derived.Test.YtomjghlaoncpbaaVo
import Derived.Laws.StandIn
import Derived.Lib.BytesEntry
import Derived.Lib.SlBytesConst
namespace Go.Proofs.YtomjghlaoncpbaaV
open Go.RowKit
set_option linter.unusedVariables false
set_option linter.unusedSimpArgs false

/-- What the first tells, the second tells, too. -/
def Vle (x y : V) : Prop := ∀ M v, Rep M x v → Rep M y v
theorem Vle.refl (x : V) : Vle x x := fun _ _ h => h
theorem Vle.untag {es : List (List V)} {nl : Bool} {t : Tag} : Vle (.sl es nl t) (.sl es nl .no) := fun _ _ h => h.untag
theorem Vle.tup {xs ys : List V} (hl : xs.length = ys.length) (h : ∀ i (hi : i < xs.length), Vle xs[i] (ys[i]'(by omega))) : Vle (.tup xs) (.tup ys) := fun M v hr => by
  cases hr with
  | tup cs vs h1 r => exact .tup ys vs (by omega) (fun i hi => h i (by omega) M _ (r i (by omega)))
section
variable {P : Program} {g : FuncId} {args : List V} {G : Heap}
theorem ACall.weak {Q : V → Heap → Prop} (h : ACall P g args (fun x G' => ∃ y G2, Vle x y ∧ (∀ b o, hget G2 b = some o → hget G' b = some o) ∧ Q y G2) G) : ACall P g args Q G :=
  fun E M w vs hm hr => (h E M w vs hm hr).mono fun v w' ⟨M', G', x, h1, h2, h3, y, G2, h4, h5, h6⟩ => ⟨M', G2, y, h1, h2.sub h5, h4 _ _ h3, h6⟩
theorem Quiet.weak {x : V} (h : ∀ G, ACall P g args (fun y G' => Vle y x ∧ ∀ b o, hget G b = some o → hget G' b = some o) G) : Quiet P g args x :=
  fun G => ACall.weak ((h G).mono fun y G' ⟨h1, h2⟩ => ⟨x, G, h1, h2, rfl, rfl⟩)
theorem acall_extern {Q : V → Heap → Prop} {fn : Func} {e : Array Value → Sem Value} (hf : P.funcs[g]? = some fn) (hname : (fn.name == "runtime.NumGoroutine") = false) (hb : fn.body.isNone = true) (hn : Extern.findNext fn = none) (he : Extern.find fn = some e)
    (h : ∀ E M w (vs : Array Value), Mem E M G w → RepL M args vs.toList → ∃ M' G' w' v x, (e vs).run P w = .ok v w' ∧ M.le M' ∧ Mem E M' G' w' ∧ Rep M' x v ∧ Q x G') : ACall P g args Q G := by
  intro E M w vs hm hr o a next Q' hq
  obtain ⟨M', G', w', v, x, h1, h2, h3, h4, h5⟩ := h E M w vs hm hr
  rw [run_callFunc_extern hf hname hb hn he, h1, Result.andThen_ok, Oper.upon_value]
  exact hq v w' ⟨M', G', x, h2, h3, h4, h5⟩
/-- internal/bytealg.IndexByte -/
theorem quiet_indexByte {fn : Func} {l : List UInt8} {nl : Bool} {t : Tag} {c : Int} (hf : P.funcs[g]? = some fn) (hname : (fn.name == "runtime.NumGoroutine") = false) (hb : fn.body.isNone = true) (hn : Extern.findNext fn = none) (he : Extern.find fn = some Extern.BytealgIndexByte.indexByte) :
    Quiet P g [.sl (bytesV l) nl t, .int .u8 c] (.int .i64 (Lib.indexByte l c.toNat.toUInt8)) := by
  intro G
  refine acall_extern hf hname hb hn he fun E M w vs hm hr => ?_
  obtain ⟨vs⟩ := vs
  match vs, hr with
  | [], hr => exact absurd hr.1 (by simp)
  | [_], hr => exact absurd hr.1 (by simp)
  | _ :: _ :: _ :: _, hr => exact absurd hr.1 (by simp)
  | [u, v], hr =>
    have h1 : Rep M (.sl (bytesV l) nl t) u := hr.head
    have h2 : v = .int .u8 c := hr.tail.head.int_inv
    subst h2
    refine ⟨M, G, w, .int .i64 (Lib.indexByte l c.toNat.toUInt8), _, ?_, M.le_refl, hm, .int _ _, rfl, rfl⟩
    rcases sl_cells hm h1 with ⟨hnil, a0, c0, rfl⟩ | ⟨b, z, c0, sz, rfl, hc, _, hlen, hmem, _⟩
    · have : l = [] := by cases l with | nil => rfl | cons b l => simp [bytesV] at hnil
      subst this
      cases a0 with
      | none => rfl
      | some a0 => rfl
    · have hx : (l.map fun b => ((b.toNat : Nat) : Int)).length = (bytesV l).length := by simp
      have := Lib.run_indexByteSlice (P := P) w b z (bytesV l).length c0 (l.map fun b => ((b.toNat : Nat) : Int)) hx (fun i hi => by
        have hi' : i < l.length := by simpa using hi
        obtain ⟨g, hg1, hg2⟩ := hmem i hi
        have e1 : (bytesV l)[i] = [V.int .u8 ((l[i].toNat : Nat) : Int)] := by simp [bytesV]
        have hs1 : sz = 1 := by rw [← hlen i hi, e1]; rfl
        subst hs1
        have hc1 := hm.pm _ _ _ (hg1 0 (by omega))
        simp only [Nat.mul_one, Nat.add_zero] at hc1
        have hg3 := hg2 0 (by rw [e1]; simp)
        have hg4 : g 0 = .int .u8 ((l[i].toNat : Nat) : Int) := by
          have : (bytesV l)[i][0]'(by rw [e1]; simp) = V.int .u8 ((l[i].toNat : Nat) : Int) := by simp [e1]
          rw [this] at hg3
          exact hg3.int_inv
        rw [hc1, hg4]
        simp [List.getD_eq_getElem?_getD, hi']) c
      rw [this]
      congr 3
      rw [Lib.bytesOf, List.map_map]
      conv => lhs; rw [show (l.map _) = l.map id from List.map_congr_left (fun b _ => by simp)]
      simp
end

/-! ### room -/
theorem hdel_none {G : Heap} {b : Nat} (h : hget G b = none) : hdel G b = G := by
  induction G with
  | nil => rfl
  | cons p G ih =>
    obtain ⟨k, u⟩ := p
    rw [hget] at h
    split at h
    · cases h
    · rename_i e; rw [hdel, if_neg e, ih h]
/-- A slice that this call has made, and what it may yet write behind it. -/
def Room (G : Heap) (n : Nat) (t : Tag) (H : Heap) : Prop := (t = .full ∧ H = G) ∨ ∃ b e c, t = .top n b e c ∧ hget G b = none ∧ H = (b, .top e c) :: G
theorem Room.start (G : Heap) (n : Nat) : Room G n .full G := .inl ⟨rfl, rfl⟩
theorem Room.sub {G H : Heap} {n : Nat} {t : Tag} (h : Room G n t H) : ∀ b o, hget G b = some o → hget H b = some o := by
  intro b o ho
  rcases h with ⟨_, rfl⟩ | ⟨b', e, c, _, hn, rfl⟩
  · exact ho
  · rw [hget, if_neg]
    · exact ho
    · intro e; subst e; rw [hn] at ho; cases ho
section
variable {P : Program} {ops : List Oper} {f : Frame} {G H : Heap} {K : Kf} {d : Option Tmp} {r : Rest}
theorem goP_room {n k : Nat} {z : V} {es ys : List (List V)} {nl : Bool} {t : Tag} (hr : Room G n t H) (hc : appC n k z es ys)
    (h : ∀ t' H', Room G n t' H' → go P ops r (fput f d (.sl (es ++ ys) (nl && ys.isEmpty) t')) H' K) : goP P ops (appC n k z es ys) n es ys nl t d r f H K := by
  refine ⟨hc, fun hy => ?_, fun hy => ?_⟩
  · subst hy
    have := h t H hr
    simpa using this
  · have he : ys.isEmpty = false := by cases ys with | nil => exact absurd rfl hy | cons a l => rfl
    rw [he, Bool.and_false] at h
    rcases hr with ⟨rfl, rfl⟩ | ⟨b, e, c, rfl, hn, rfl⟩
    · exact fun b e c hb => h _ _ (.inr ⟨b, e, c, rfl, hb, rfl⟩)
    · refine ⟨⟨rfl, by rw [hget, if_pos rfl]⟩, fun b' e' c' hb => ?_⟩
      have hd : hdel ((b, .top e c) :: G) b = G := by rw [hdel, if_pos rfl, hdel_none hn]
      rw [hd]
      refine h _ _ (.inr ⟨b', e', c', rfl, ?_, rfl⟩)
      rcases hb with hb | rfl
      · rw [hget] at hb; split at hb
        · cases hb
        · exact hb
      · exact hn
/-- The same where nothing is written behind it any more. -/
theorem goP_new {n k : Nat} {z : V} {es ys : List (List V)} {nl : Bool} (hc : appC n k z es ys)
    (h : ∀ t' H', Room H n t' H' → go P ops r (fput f d (.sl (es ++ ys) (nl && ys.isEmpty) t')) H' K) : goP P ops (appC n k z es ys) n es ys nl .full d r f H K := goP_room (Room.start H n) hc h
end
theorem all_zip_next {A B : Type} {q : A × B → Bool} {xs : List A} {ys : List B} {i : Nat} (h : ((xs.take i).zip (ys.take i)).all q = true) (hx : i < xs.length) (hy : i < ys.length) (he : q (xs[i], ys[i]) = true) : ((xs.take (i + 1)).zip (ys.take (i + 1))).all q = true := by
  rw [List.take_succ_eq_append_getElem hx, List.take_succ_eq_append_getElem hy, List.zip_append (by simp; omega), List.all_append, h]
  simp [he]
theorem all_zip_not {A B : Type} {q : A × B → Bool} {xs : List A} {ys : List B} {i : Nat} (hx : i < xs.length) (hy : i < ys.length) (he : q (xs[i], ys[i]) = false) : (xs.zip ys).all q = false := by
  rw [List.all_eq_false]
  refine ⟨(xs[i], ys[i]), ?_, by simp [he]⟩
  have hz : i < (xs.zip ys).length := by simp; omega
  have : (xs.zip ys)[i] = (xs[i], ys[i]) := by simp
  rw [← this]; exact List.getElem_mem hz
theorem take_bytesV (l : List UInt8) (n : Nat) : (bytesV l).take n = bytesV (l.take n) := by simp [bytesV, List.map_take]
theorem drop_bytesV (l : List UInt8) (n : Nat) : (bytesV l).drop n = bytesV (l.drop n) := by simp [bytesV, List.map_drop]
theorem AW.of_fsub {P : Program} {N : Nat} {Q : Cont} {f g : Frame} {G : Heap} {c : Code} (h : FSub g f) (h2 : AW P N c Q g G) : AW P N c Q f G := h2.sub h.ok (fun _ _ h => h)
theorem AW.of_hsub {P : Program} {N : Nat} {Q : Cont} {f : Frame} {G H : Heap} {c : Code} (h : ∀ b o, hget G b = some o → hget H b = some o) (h2 : AW P N c Q f G) : AW P N c Q f H := h2.sub (fun _ _ h => h) h
theorem one_bytesV (x : UInt8) : [[V.int .u8 ((x.toNat : Nat) : Int)]] = bytesV [x] := rfl
theorem getD_bytes {l : List UInt8} {i : Nat} (h : i < l.length) : (bytesV l).getD i [] = [V.int .u8 ((l[i].toNat : Nat) : Int)] := by
  rw [getD_bytesV l i h]
  congr 3
  rw [List.getD_eq_getElem?_getD, List.getElem?_eq_getElem h]; rfl
theorem pickV_true (x y : V) : pickV true x y = x := by unfold pickV; split <;> rfl
theorem pickV_false (x y : V) : pickV false x y = y := by unfold pickV; split <;> rfl
/-- A whole number's last byte. -/
def u8 (n : Int) : UInt8 := UInt8.ofNat (IntKind.u8.wrap n).toNat
theorem wrap_u8 (n : Int) : IntKind.u8.wrap n = n % 256 := by unfold IntKind.wrap; simp only [IntKind.bits, IntKind.signed]; simp
theorem u8_cast (n : Int) : ((u8 n).toNat : Int) = IntKind.u8.wrap n := by
  unfold u8
  rw [wrap_u8]
  simp only [UInt8.toNat_ofNat']
  omega
theorem two_bytesV (m n : Int) : [[V.int .u8 (IntKind.u8.wrap m)], [V.int .u8 (IntKind.u8.wrap n)]] = bytesV [u8 m, u8 n] := by
  simp only [bytesV, List.map_cons, List.map_nil, u8_cast]
theorem app_bytesV (a b : List UInt8) : bytesV a ++ bytesV b = bytesV (a ++ b) := by simp [bytesV]
theorem isEmpty_bytesV (l : List UInt8) : (bytesV l).isEmpty = l.isEmpty := by cases l <;> rfl
theorem vle2 {a b c d : V} (h1 : Vle a c) (h2 : Vle b d) : Vle (oneOf [a, b]) (.tup [c, d]) := Vle.tup (xs := [a, b]) (ys := [c, d]) rfl (fun i hi => by
  match i with
  | 0 => exact h1
  | 1 => exact h2
  | n + 2 => simp at hi; omega)
/-- A region that begins with a []byte of constant bytes, turned to itself. -/
theorem aw_lit {P : Program} {N : Nat} {Q : Cont} {f : Frame} {G : Heap} {id d1 d2 len : Nat} {t e n ty1 ty2 : Nat} {ps : Array (Nat × Operand)} {p1 p2 : String} {a1 a2 : Array Edge} {os : List Oper} {z : V} (es : List (List V))
    (hd : List.all (⟨some d1, .buildSlice t len ps, ty1, p1, a1, none⟩ :: ⟨some d2, .convert t t (.tmp d1), ty2, p2, a2, none⟩ :: os) (dstOk N) = true) (ht : tslice P t = some (e, n)) (hz : tzero P e = some z) (hp : plainV z = true) (hzn : (cellsV z).length = n) (hlen : len * n ≤ 16777216)
    (hu : isU8s P t = true) (hfill : fillE n (fget f) (List.replicate len (cellsV z)) ps.toList = some es)
    (h : go P (⟨some d1, .buildSlice t len ps, ty1, p1, a1, none⟩ :: ⟨some d2, .convert t t (.tmp d1), ty2, p2, a2, none⟩ :: os) (.t os) ((d2, .sl es false .full) :: (d1, .sl es false .full) :: f) G (fun f G => Q .normal f G)) :
    AW P N (.region id (⟨some d1, .buildSlice t len ps, ty1, p1, a1, none⟩ :: ⟨some d2, .convert t t (.tmp d1), ty2, p2, a2, none⟩ :: os).toArray false) Q f G := by
  intro E M w a hm hr hn hdf
  refine wp_region_list (P := P) ?_
  simp only [List.all_cons, Bool.and_eq_true] at hd
  obtain ⟨hd1, hd2, hd3⟩ := hd
  obtain ⟨arr, h1, h2, h3, h4⟩ := buildSlice_ok hm hr ht hz hp hzn hlen hfill
  obtain ⟨e2, he1, he2⟩ := isU8s_info hu
  have : e2 = e := by have := (tslice_info ht).1; rw [he1] at this; cases this; rfl
  subst this
  obtain ⟨q1, q2, q3⟩ := put_frame (o := ⟨some d1, .buildSlice t len ps, ty1, p1, a1, none⟩) (hr.mono h1) hn hdf hd1 h3
  obtain ⟨r1, r2, r3⟩ := put_frame (o := ⟨some d2, .convert t t (.tmp d1), ty2, p2, a2, none⟩) q1 q2 q3 hd2 h3
  have hrun1 : (execOp a.eval ⟨some d1, .buildSlice t len ps, ty1, p1, a1, none⟩).run P w = .ok (.value (.slice (some ⟨w.heap.size, 0, none⟩) len len)) (w.alloc (.cells arr e2)) := by
    simp only [execOp, Sem.run_bind, h4, Result.andThen_ok, Sem.run_pure]
  have hev : (a.put (some d1) (.slice (some ⟨w.heap.size, 0, none⟩) len len)).eval (.tmp d1) = .slice (some ⟨w.heap.size, 0, none⟩) len len := by
    have hlt : d1 < a.tmps.size := by rw [hn]; simpa [dstOk] using hd1
    simp [Act.eval, Act.put, hlt]
  have hrun2 : (execOp (a.put (some d1) (.slice (some ⟨w.heap.size, 0, none⟩) len len)).eval ⟨some d2, .convert t t (.tmp d1), ty2, p2, a2, none⟩).run P (w.alloc (.cells arr e2)) = .ok (.value (.slice (some ⟨w.heap.size, 0, none⟩) len len)) (w.alloc (.cells arr e2 (arr.size, arr.size + 1))) := by
    simp only [execOp, hev, Sem.run_bind, Lib.run_convert_bytes_const w t e2 arr len len he1 he2, Result.andThen_ok, Sem.run_pure]
  unfold wpList
  rw [if_pos (by simp [Region.wanted])]
  refine .inl ?_
  unfold Oper.wp
  rw [hrun1, Oper.upon_value]
  unfold wpList
  rw [if_pos (by simp [Region.wanted])]
  refine .inl ?_
  unfold Oper.wp
  rw [hrun2, Oper.upon_value]
  refine rg_ok (N := N) (K := fun f G => Q .normal f G) (f := (d2, .sl es false .full) :: (d1, .sl es false .full) :: f) h hd3 (h2 (arr.size, arr.size + 1)) ?_ r2 r3 fun M' f' G' a' w' k1 k2 k3 k4 k5 k6 => ⟨M', f', G', PM.le_trans h1 k1, k2, k3, k4, k5, k6⟩
  have e1 := fget_fput ((d1, V.sl es false .full) :: f) (some d2) (.sl es false .full)
  have e0 := fget_fput f (some d1) (.sl es false .full)
  show RepG _ (fget (fput (fput f (some d1) (.sl es false .full)) (some d2) (.sl es false .full))) _
  rw [fget_fput, fget_fput]
  exact r1
theorem aw_slit {P : Program} {N : Nat} {Q : Cont} {f : Frame} {G : Heap} {id d1 d2 len : Nat} {t e n ty1 ty2 : Nat} {ps : Array (Nat × Operand)} {p1 p2 : String} {a1 a2 : Array Edge} {os : List Oper} {z : V} {y : Code} (es : List (List V))
    (hd : List.all (⟨some d1, .buildSlice t len ps, ty1, p1, a1, none⟩ :: ⟨some d2, .convert t t (.tmp d1), ty2, p2, a2, none⟩ :: os) (dstOk N) = true) (ht : tslice P t = some (e, n)) (hz : tzero P e = some z) (hp : plainV z = true) (hzn : (cellsV z).length = n) (hlen : len * n ≤ 16777216)
    (hu : isU8s P t = true) (hfill : fillE n (fget f) (List.replicate len (cellsV z)) ps.toList = some es)
    (h : go P (⟨some d1, .buildSlice t len ps, ty1, p1, a1, none⟩ :: ⟨some d2, .convert t t (.tmp d1), ty2, p2, a2, none⟩ :: os) (.t os) ((d2, .sl es false .full) :: (d1, .sl es false .full) :: f) G (fun f G => AW P N y Q f G)) :
    AW P N (.seq (.region id (⟨some d1, .buildSlice t len ps, ty1, p1, a1, none⟩ :: ⟨some d2, .convert t t (.tmp d1), ty2, p2, a2, none⟩ :: os).toArray false) y) Q f G :=
  aw_seq' (aw_lit es hd ht hz hp hzn hlen hu hfill h)
theorem u8_mod (n : Int) : u8 (n % 256) = u8 n := by unfold u8; rw [wrap_u8, wrap_u8, Int.emod_emod_of_dvd _ (by decide)]
theorem or_bytes {x y : Nat} (hx : x < 256) (hy : y < 256) : bits BinOp.or IntKind.i64 (((x * 256 : Nat) : Nat) : Int) ((y : Nat) : Int) = ((x * 256 + y : Nat) : Int) := by
  unfold bits
  have h64 : IntKind.i64.bits = 64 := rfl
  simp only [h64, BitVec.ofInt_natCast, BitVec.toNat_or, BitVec.toNat_ofNat]
  rw [Nat.mod_eq_of_lt (by omega), Nat.mod_eq_of_lt (by omega)]
  have := Nat.shiftLeft_add_eq_or_of_lt (i := 8) (b := y) (by omega) x
  rw [Nat.shiftLeft_eq] at this
  rw [show x * 256 = x * 2 ^ 8 from rfl, ← this, wrap64 (by omega) (by omega)]
theorem wid_one {n : Nat} {e : List V} (h : e.length = n) : wid n [e] := fun x hx => by simp at hx; subst hx; exact h
theorem sca_one {e : List V} (h : e.all scalarV = true) : sca [e] := fun x hx => by simp at hx; subst hx; simpa using h
theorem sca_bytes (l : List UInt8) : sca (bytesV l) := by
  intro e he x hx
  obtain ⟨b, _, rfl⟩ := List.mem_map.1 he
  simp at hx; subst hx; rfl
theorem wid_bytes (l : List UInt8) : wid 1 (bytesV l) := wid_map (g := fun b : UInt8 => [V.int .u8 (b.toNat : Int)]) (fun _ => rfl) l
attribute [go_sem] plainV List.replicate_zero List.replicate_succ List.set_cons_zero List.set_cons_succ setMany List.nil_append List.append_nil List.cons_append List.isEmpty_nil List.isEmpty_cons oneOf
attribute [go_sem] app_bytesV isEmpty_bytesV two_bytesV one_bytesV take_bytesV drop_bytesV unb_bytesV length_bytesV eq_self srcV decide_true decide_false ite_self implies_true pickV_true pickV_false
end Go.Proofs.YtomjghlaoncpbaaV
