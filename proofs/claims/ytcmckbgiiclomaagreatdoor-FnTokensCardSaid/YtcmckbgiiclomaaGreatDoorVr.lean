/- An owned slice laid open at one element, and put together again; what is counted through data and marked. -/
import Derived.Test.YtcmckbgiiclomaaGreatDoorVq
import Derived.Laws.Externs
namespace Go.Proofs.YtcmckbgiiclomaaGreatDoor.V
open Go Go.RowKit
set_option linter.unusedVariables false
set_option linter.unusedSimpArgs false

section
variable {n : Nat} {w0 w : World} {M : List Ck} {α : Type} {d : Kd α}
/-- The other elements. -/
def restCk (d : Kd α) (rs : List (List Value × List Nat × α)) : Ck where
  fp := (rs.map (·.2.1)).flatten
  A := fun w => ∀ r ∈ rs, d.ow w r.2.1 r.1 r.2.2
  loc := fun h ha r hr => d.own_mono (ha r hr) fun b hb => h b (List.mem_flatten_of_mem (List.mem_map.2 ⟨r, hr, rfl⟩) hb)

theorem zip3 : ∀ (rows : List (List Value)) (fs : List (List Nat)) (l : List α), rows.length = l.length → fs.length = l.length → ∃ rs : List (List Value × List Nat × α), rs.map (·.1) = rows ∧ rs.map (·.2.1) = fs ∧ rs.map (·.2.2) = l
  | [], [], [], _, _ => ⟨[], rfl, rfl, rfl⟩
  | r :: rows, f :: fs, x :: l, h1, h2 => by
    obtain ⟨rs, e1, e2, e3⟩ := zip3 rows fs l (by simpa using h1) (by simpa using h2)
    exact ⟨(r, f, x) :: rs, by simp [e1], by simp [e2], by simp [e3]⟩
  | [], _ :: _, [], _, h2 => by simp at h2
  | _, [], _ :: _, _, h2 => by simp at h2
  | [], _, _ :: _, h1, _ => by simp at h1
  | _ :: _, _, [], h1, _ => by simp at h1

theorem split3 (rs : List (List Value × List Nat × α)) (i : Nat) (hi : i < rs.length) : ∃ a b, rs = a ++ rs[i] :: b ∧ a.length = i := by
  refine ⟨rs.take i, rs.drop (i + 1), ?_, by simp; omega⟩
  rw [← List.drop_eq_getElem_cons hi, List.take_append_drop]

theorem RowOw.of {e : TypeId} {fp : List Nat} {v : Value} (rs : List (List Value × List Nat × α)) (hr : w.owR e d.sz v rs.length (rs.map (·.1)).flatten) (he : ∀ r ∈ rs, d.ow w r.2.1 r.1 r.2.2) (hf : fp = v.ownBlock.toList ++ (rs.map (·.2.1)).flatten) (nd : fp.Nodup) :
    (Kd.slice e d).ow w fp [v] (rs.map (·.2.2)) :=
  ⟨v, rs.map (·.1), rs.map (·.2.1), rfl, ⟨by simpa using hr, by simp, by simp, fun i hi => by simp only [List.getElem_map]; exact he _ (List.getElem_mem _), hf, nd⟩⟩

theorem own_val {e : TypeId} {fp : List Nat} {v : Value} {l : List α} (h : (Kd.slice e d).ow w fp [v] l) : ∃ A c, v = .slice A l.length c ∧ (0 < l.length → ∃ g, A = some ⟨g, 0, none⟩) := by
  obtain ⟨v', rows, fs, hv, hr⟩ := h
  simp only [List.cons.injEq, and_true] at hv
  subst hv
  rcases hr.row.2 with ⟨h1, h2⟩ | ⟨g, cap, cur, h1, _⟩
  · exact ⟨none, 0, by rw [h1, h2], fun h => by omega⟩
  · exact ⟨_, cap, h1, fun _ => ⟨g, rfl⟩⟩

theorem cur_same {cur es : List Value} {o sz : Nat} (h : ∀ j, j < sz → cur[o + j]? = es[j]?) (hl : es.length = sz) (hc : o + sz ≤ cur.length) : cur = cur.take o ++ es ++ cur.drop (o + sz) := by
  have e : (cur.drop o).take sz = es := by
    apply List.ext_getElem?
    intro j
    rw [List.getElem?_take, List.getElem?_drop]
    by_cases hj : j < sz
    · rw [if_pos hj, h j hj]
    · rw [if_neg hj, List.getElem?_eq_none (by omega)]
  conv => lhs; rw [← List.take_append_drop o cur, ← List.take_append_drop sz (cur.drop o), e, List.drop_drop]
  rw [List.append_assoc]

/-- Laid open at an element: the row as a variable, the element, the other elements. -/
theorem Sep.openEl {e : TypeId} {fp : List Nat} {v : Value} {l : List α} (H : Sep n w0 w (Ck.own (Kd.slice e d) fp [v] l :: M)) (i : Nat) (hi : i < l.length) :
    ∃ g c pre post fpi es R, v = .slice (some ⟨g, 0, none⟩) l.length c ∧ pre.length = i * d.sz ∧ Sep n w0 w (Ck.box g (pre ++ es ++ post) e :: Ck.own d fpi es l[i] :: R :: M) ∧ es.length = d.sz ∧
      ∀ {n' : Nat} {w0' w' : World} {es' : List Value} {fpi' : List Nat} {y : α} {M' : List Ck}, Sep n' w0' w' (Ck.box g (pre ++ es' ++ post) e :: Ck.own d fpi' es' y :: R :: M') →
        ∃ fp', Sep n' w0' w' (Ck.own (Kd.slice e d) fp' [v] (l.set i y) :: M') := by
  obtain ⟨v', rows, fs, hv, hr⟩ := (show (Kd.slice e d).ow w fp [v] l from H.ok _ (.head _))
  simp only [List.cons.injEq, and_true] at hv
  subst hv
  obtain ⟨rs, e1, e2, e3⟩ := zip3 rows fs l hr.lr hr.lf
  have hrl : rs.length = l.length := by rw [← e3]; simp
  obtain ⟨a, b, hab, hal⟩ := split3 rs i (by omega)
  generalize hx : rs[i] = x at hab
  obtain ⟨es, fpi, y0⟩ := x
  have hel : ∀ r ∈ rs, d.ow w r.2.1 r.1 r.2.2 := fun r hrm => by
    obtain ⟨k, hk, rfl⟩ := List.getElem_of_mem hrm
    have := hr.el k (by omega)
    have q1 : rows[k]'(by rw [hr.lr]; omega) = rs[k].1 := by subst e1; simp
    have q2 : fs[k]'(by rw [hr.lf]; omega) = rs[k].2.1 := by subst e2; simp
    have q3 : l[k]'(by omega) = rs[k].2.2 := by subst e3; simp
    rw [q1, q2, q3] at this; exact this
  have hy0 : l[i] = y0 := by
    have q3 : l[i]'(by omega) = (rs[i]'(by omega)).2.2 := by subst e3; simp
    rw [q3, hx]
  rcases hr.row.2 with ⟨h1, h2⟩ | ⟨g, cap, cur, h1, _, hh, hc, hm, hs, ht⟩
  · omega
  subst h1
  have hes : es.length = d.sz := d.own_len (hel (es, fpi, y0) (by rw [hab]; simp))
  have hlens : ∀ r ∈ rows, r.length = d.sz := hr.lens
  have hle : i * d.sz + d.sz ≤ l.length * d.sz := by
    have := Nat.mul_le_mul_right d.sz (show i + 1 ≤ l.length by omega)
    rw [Nat.add_mul, Nat.one_mul] at this; exact this
  have hle2 : l.length * d.sz ≤ cap * d.sz := Nat.mul_le_mul_right _ hc
  have hrowi : rows[i]? = some es := by rw [← e1]; simp [hx, List.getElem?_eq_getElem (show i < rs.length by omega)]
  have hcur : cur.toList = cur.toList.take (i * d.sz) ++ es ++ cur.toList.drop (i * d.sz + d.sz) := by
    refine cur_same (fun j hj => ?_) hes (by simp; omega)
    have := Kd.flat_get rows hlens i j hj
    rw [hrowi, Option.bind_some, ← ht, List.getElem?_take, if_pos (by omega)] at this
    exact this
  refine ⟨g, cap, cur.toList.take (i * d.sz), cur.toList.drop (i * d.sz + d.sz), fpi, es, restCk d (a ++ b), rfl, by simp; omega, ?_, hes, ?_⟩
  · rw [hy0]
    refine H.swapTo ?_ fun c hcm => ?_
    · simp only [fps, Ck.own_fp, Ck.box, restCk, hr.hfp, ← e2, hab, Value.ownBlock, Option.map_some, Option.toList_some, List.map_append, List.map_cons, List.flatten_append, List.flatten_cons, List.append_assoc, List.cons_append, List.nil_append]
      refine List.Perm.cons _ ?_
      exact List.perm_append_comm_assoc ..
    · rcases List.mem_cons.1 hcm with rfl | hcm
      · show w.heap[g]? = _
        rw [hh, ← hcur]
      · rcases List.mem_cons.1 hcm with rfl | hcm
        · exact hel (es, fpi, y0) (by rw [hab]; simp)
        · rcases List.mem_cons.1 hcm with rfl | hcm
          · exact fun r hrm => hel r (by rw [hab]; simp at hrm ⊢; rcases hrm with h | h <;> simp [h])
          · exact H.ok _ (.tail _ hcm)
  · intro n' w0' w' es' fpi' y M' H'
    have hes' : es'.length = d.sz := d.own_len (show d.ow w' fpi' es' y from H'.ok _ (.tail _ (.head _)))
    have hlist : l.set i y = (a ++ (es', fpi', y) :: b).map (·.2.2) := by
      rw [← e3, hab, List.map_append, List.map_append, List.map_cons, List.map_cons, List.set_append_right _ _ (by simp; omega)]
      simp [hal]
    have hrows : (rows.set i es') = (a ++ (es', fpi', y) :: b).map (·.1) := by
      rw [← e1, hab, List.map_append, List.map_append, List.map_cons, List.map_cons, List.set_append_right _ _ (by simp; omega)]
      simp [hal]
    have hlen2 : (a ++ (es', fpi', y) :: b).length = l.length := by rw [← hrl, hab]; simp
    refine ⟨g :: ((a ++ (es', fpi', y) :: b).map (·.2.1)).flatten, ?_⟩
    have hperm : (fps (Ck.box g (cur.toList.take (i * d.sz) ++ es' ++ cur.toList.drop (i * d.sz + d.sz)) e :: Ck.own d fpi' es' y :: restCk d (a ++ b) :: M')).Perm (fps (Ck.own (Kd.slice e d) (g :: ((a ++ (es', fpi', y) :: b).map (·.2.1)).flatten) [.slice (some ⟨g, 0, none⟩) l.length cap] (l.set i y) :: M')) := by
      simp only [fps, Ck.own_fp, Ck.box, restCk, List.map_append, List.map_cons, List.flatten_append, List.flatten_cons, List.append_assoc, List.cons_append, List.nil_append]
      refine List.Perm.cons _ ?_
      exact List.perm_append_comm_assoc ..
    refine H'.swapTo hperm fun c hcm => ?_
    rcases List.mem_cons.1 hcm with rfl | hcm
    · show (Kd.slice e d).ow w' _ _ _
      rw [hlist]
      refine RowOw.of _ ?_ ?_ rfl ?_
      · rw [hlen2, ← hrows]
        refine ⟨?_, .inr ⟨g, cap, _, rfl, Nat.zero_le _, H'.ok _ (.head _), hc, hm, ?_, ?_⟩⟩
        · rw [flat_set rows i es' hlens (by rw [hr.lr]; omega), List.length_append, List.length_append, List.length_take, List.length_drop, hr.row.1, hes']
          omega
        · simp only [List.size_toArray, List.length_append, List.length_take, List.length_drop, Array.length_toList]
          omega
        · rw [flat_set rows i es' hlens (by rw [hr.lr]; omega), ← ht, List.take_take, Nat.min_eq_left (by omega)]
          apply List.ext_getElem?
          intro q
          simp only [List.getElem?_take, List.getElem?_append, List.length_append, List.length_take, List.getElem?_drop, Array.length_toList]
          split <;> split <;> (try split) <;> (try split) <;> (try rfl) <;> (try omega) <;> (try (congr 1; omega)) <;> simp <;> omega
      · intro r hrm
        rcases List.mem_append.1 hrm with hrm | hrm
        · exact (show (restCk d (a ++ b)).A w' from H'.ok _ (.tail _ (.tail _ (.head _)))) r (List.mem_append_left _ hrm)
        · rcases List.mem_cons.1 hrm with rfl | hrm
          · exact H'.ok _ (.tail _ (.head _))
          · exact (show (restCk d (a ++ b)).A w' from H'.ok _ (.tail _ (.tail _ (.head _)))) r (List.mem_append_right _ hrm)
      · have := hperm.nodup_iff.1 H'.nd
        simp only [fps, Ck.own_fp] at this
        exact (List.nodup_append.1 this).1
    · exact H'.ok _ (.tail _ (.tail _ (.tail _ hcm)))

theorem Sep.drop2 {c c' : Ck} (H : Sep n w0 w (c :: c' :: M)) : Sep n w0 w (c :: M) := by
  refine ⟨H.bel, H.ns, ?_, fun b hb => H.lo b ?_, fun d hd => ?_⟩
  · have := H.nd
    simp only [fps] at this ⊢
    obtain ⟨h1, h2, h3⟩ := List.nodup_append.1 this
    exact List.nodup_append.2 ⟨h1, (List.nodup_append.1 h2).2.1, fun a ha b hb => h3 a ha b (List.mem_append_right _ hb)⟩
  · simp only [fps] at hb ⊢
    rcases List.mem_append.1 hb with hb | hb
    · exact List.mem_append_left _ hb
    · exact List.mem_append_right _ (List.mem_append_right _ hb)
  · rcases List.mem_cons.1 hd with rfl | hd
    · exact H.ok _ (.head _)
    · exact H.ok _ (.tail _ (.tail _ hd))
/-- One part of many. -/
theorem Sep.only {c : Ck} {L L' : List Ck} (H : Sep n w0 w L) (h : Out c L L' := by repeat (first | exact Out.here | apply Out.there)) : Sep n w0 w [c] := (H.out h).head
/-- Data that owns no block. -/
theorem Sep.nothing {cs : List Value} {x : α} {L : List Ck} (H : Sep n w0 w L) (h : d.ow w [] cs x) : Sep n w0 w (Ck.own d [] cs x :: L) :=
  H.swapTo (by simp only [fps, Ck.own_fp, List.nil_append]; exact List.Perm.refl _) fun c hc => by
    rcases List.mem_cons.1 hc with rfl | hc
    · exact h
    · exact H.ok _ hc
end

/-! ### a row laid open -/
section
variable {P : Program} {n : Nat} {w0 w : World} {L : List Ck} {K : Value → World → Prop} {tg : Tg K}
theorem x_ldE (H : Sep n w0 w L) {g o j : Nat} {pre es post : List Value} {t e : TypeId} {z v : Value} (HS : ScT P e z) (h : K v w) (hm : Ck.box g (pre ++ es ++ post) t ∈ L := by repeat (first | exact List.mem_cons_self | apply List.mem_cons_of_mem)) (hp : o = pre.length + j := by omega) (hv : es[j]? = some v := by rfl) :
    VS P K tg (Instr.loadAt e (.pointer (some ⟨g, o, none⟩))) w := by
  refine x_ld H HS h hm ?_
  subst hp
  have hj : j < es.length := (List.getElem?_eq_some_iff.1 hv).1
  rw [List.append_assoc, List.getElem?_append_right (by omega), Nat.add_sub_cancel_left, List.getElem?_append_left hj, hv]
theorem x_stE (H : Sep n w0 w L) {g o j : Nat} {pre es post : List Value} {t e : TypeId} {z v : Value} {f : Ck → List Ck} {tg : Tg K} (HS : ScT P e z) (h : ∀ w', Sep n w0 w' (f (Ck.box g (pre ++ es.set j v ++ post) t)) → K undef w')
    (hm : Hole (Ck.box g (pre ++ es ++ post) t) L f := by repeat (first | exact Hole.here | apply Hole.there)) (hp : o = pre.length + j := by omega) (hj : j < es.length := by first | decide | simp) (h1 : v.oneCell' = true := by rfl) :
    VU P K tg (Instr.storeAt e (.pointer (some ⟨g, o, none⟩)) v) w := by
  refine x_st H HS (fun w' H' => h w' ?_) hm (by subst hp; simp; omega) h1
  subst hp
  have e : (pre ++ es ++ post).set (pre.length + j) v = pre ++ es.set j v ++ post := by
    rw [List.append_assoc, List.set_append_right _ _ (by omega), Nat.add_sub_cancel_left, List.set_append_left _ _ hj, List.append_assoc]
  rw [e] at H'
  exact H'
end

/-! ### entries: functions without a body -/
section
variable {P : Program} {s : Sl} {w : World} {K : Value → World → Prop} {d : Option Tmp} {ty : TypeId} {pos : String} {af : Array Edge} {g : Option (Nat × Bool)}
theorem o_ext {f : FuncId} {fn : Func} {e : Array Value → Sem Value} (hf : P.funcs[f]? = some fn) (hname : (fn.name == "runtime.NumGoroutine") = false) (hb : fn.body.isNone = true) (hn : Extern.findNext fn = none) (he : Extern.find fn = some e)
    {xs : List Operand} {ts : Array TypeId} {t : Tg ((⟨d, .call ⟨.value (.func f), xs.toArray, ts⟩, ty, pos, af, g⟩ : Oper), K)} (h : VS P K .mk (e (xs.map (ev s)).toArray) w) : Aop P ⟨d, .call ⟨.value (.func f), xs.toArray, ts⟩, ty, pos, af, g⟩ K t s w := by
  have e1 : execOp (ev s) ⟨d, .call ⟨.value (.func f), xs.toArray, ts⟩, ty, pos, af, g⟩ = callFunc f (xs.toArray.map (ev s)) := by
    simp only [execOp, resolve, ev, Deferred.ofValue, pure_bind, invoke]
    simp
  unfold Aop aop
  rw [e1, run_callFunc_extern hf hname hb hn he, List.map_toArray]
  unfold VS vS at h
  revert h
  cases (e (List.map (ev s) xs).toArray).run P w with
  | ok v w' => exact fun h => h
  | halt x w' => exact fun h => h
end

/-! ### marks -/
def mkB (l : List UInt8) (k : Nat) : List UInt8 := (List.range l.length).map fun i => UInt8.ofNat (k + i)
theorem mkB_len (l : List UInt8) (k : Nat) : (mkB l k).length = l.length := by simp [mkB]
theorem mkB_get {l : List UInt8} {k i : Nat} (h : i < (mkB l k).length) : (mkB l k)[i] = UInt8.ofNat (k + i) := by simp [mkB]
def mkL {α : Type} (mk : α → Nat → α) (tot : α → Nat) : List α → Nat → List α
  | [], _ => []
  | x :: xs, k => mk x k :: mkL mk tot xs (k + tot x)
def totL {α : Type} (tot : α → Nat) : List α → Nat
  | [] => 0
  | x :: xs => tot x + totL tot xs
theorem mkL_len {α : Type} {mk : α → Nat → α} {tot : α → Nat} : ∀ (l : List α) (k : Nat), (mkL mk tot l k).length = l.length
  | [], _ => rfl
  | x :: xs, k => by simp [mkL, mkL_len xs]
theorem mkL_append {α : Type} {mk : α → Nat → α} {tot : α → Nat} : ∀ (l : List α) (x : α) (k : Nat), mkL mk tot (l ++ [x]) k = mkL mk tot l k ++ [mk x (k + totL tot l)]
  | [], x, k => by simp [mkL, totL]
  | y :: l, x, k => by simp [mkL, totL, mkL_append l x, Nat.add_assoc]
theorem totL_append {α : Type} {tot : α → Nat} : ∀ (l : List α) (x : α), totL tot (l ++ [x]) = totL tot l + tot x
  | [], x => by simp [totL]
  | y :: l, x => by simp [totL, totL_append l x, Nat.add_assoc]
theorem totL_le {α : Type} {tot : α → Nat} {B : Nat} : ∀ {l : List α}, (∀ y ∈ l, tot y ≤ B) → totL tot l ≤ l.length * B
  | [], _ => by simp [totL]
  | y :: l, h => by
    have h1 := h y (List.mem_cons_self ..)
    have h2 := totL_le (l := l) fun z hz => h z (List.mem_cons_of_mem _ hz)
    simp only [totL, List.length_cons, Nat.add_mul, Nat.one_mul]; omega
theorem totL_take_le {α : Type} {tot : α → Nat} : ∀ (l : List α) (i : Nat), totL tot (l.take i) ≤ totL tot l
  | [], _ => by simp
  | y :: l, 0 => by simp [totL]
  | y :: l, i + 1 => by simp [totL, totL_take_le l i]
theorem totL_take_succ {α : Type} {tot : α → Nat} (l : List α) (i : Nat) (hi : i < l.length) : totL tot (l.take (i + 1)) = totL tot (l.take i) + tot l[i] := by
  rw [List.take_succ_eq_append_getElem hi, totL_append]
theorem mkL_get {α : Type} {mk : α → Nat → α} {tot : α → Nat} : ∀ (l : List α) (k i : Nat) (h : i < (mkL mk tot l k).length), (mkL mk tot l k)[i] = mk (l[i]'(by rw [mkL_len] at h; exact h)) (k + totL tot (l.take i))
  | [], k, i, h => by simp [mkL] at h
  | x :: xs, k, 0, h => by simp [mkL, totL]
  | x :: xs, k, i + 1, h => by
    simp only [mkL, List.getElem_cons_succ, List.take_succ_cons, totL]
    rw [mkL_get xs (k + tot x) i (by simpa [mkL] using h), Nat.add_assoc]
theorem mk_step {α : Type} {mk : α → Nat → α} {tot : α → Nat} (l : List α) (k i : Nat) (hi : i < l.length) :
    (mkL mk tot (l.take i) k ++ l.drop i).set i (mk l[i] (k + totL tot (l.take i))) = mkL mk tot (l.take (i + 1)) k ++ l.drop (i + 1) := by
  have hl : (mkL mk tot (l.take i) k).length = i := by rw [mkL_len, List.length_take]; omega
  rw [List.set_append_right _ _ (by omega), hl, Nat.sub_self, List.drop_eq_getElem_cons hi, List.set_cons_zero, List.take_succ_eq_append_getElem hi, mkL_append, List.append_assoc]
  rfl
theorem mk_at {α : Type} {mk : α → Nat → α} {tot : α → Nat} (l : List α) (k i : Nat) (hi : i < l.length) (h : i < (mkL mk tot (l.take i) k ++ l.drop i).length) : (mkL mk tot (l.take i) k ++ l.drop i)[i] = l[i] := by
  have hl : (mkL mk tot (l.take i) k).length = i := by rw [mkL_len, List.length_take]; omega
  rw [List.getElem_append_right (by omega)]
  simp [hl]
theorem mkB_step (l : List UInt8) (k i : Nat) (hi : i < l.length) : (mkB (l.take i) k ++ l.drop i).set i (UInt8.ofNat (k + i)) = mkB (l.take (i + 1)) k ++ l.drop (i + 1) := by
  have hl : (mkB (l.take i) k).length = i := by rw [mkB_len, List.length_take]; omega
  rw [List.set_append_right _ _ (by omega), hl, Nat.sub_self, List.drop_eq_getElem_cons hi, List.set_cons_zero]
  have : mkB (l.take (i + 1)) k = mkB (l.take i) k ++ [UInt8.ofNat (k + i)] := by
    unfold mkB
    rw [List.length_take, List.length_take, Nat.min_eq_left (by omega), Nat.min_eq_left (by omega), List.range_succ, List.map_append]
    rfl
  rw [this, List.append_assoc]; rfl
end Go.Proofs.YtcmckbgiiclomaaGreatDoor.V
