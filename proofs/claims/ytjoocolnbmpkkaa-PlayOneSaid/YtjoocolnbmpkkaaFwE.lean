/- Maps, function values; the check of one operation. No conditions. -/
import Derived.Test.YtjoocolnbmpkkaaFwC
import Derived.Maps.Keyed
import Derived.DeepKeys4
import Derived.Laws.IdiomStrings
set_option linter.unusedVariables false
set_option linter.unusedSimpArgs false
namespace Go.Fw
open Go Go.RowKit
variable {P : Program}

variable (P) in
def keyOk (kt : TypeId) : Bool := match P.underlying kt with
  | some (.int _) => true
  | some (.struct _) => laidOutB P && decide (kt < P.types.size) && P.keyTypeAt 20 kt && P.keyType kt && eqTy P 20 kt && P.keyTypeAt (P.types.size + 1) kt && eqTy P (P.types.size + 1) kt
  | some (.array _ _) => laidOutB P && decide (kt < P.types.size) && P.keyTypeAt 20 kt && P.keyType kt && eqTy P 20 kt && P.keyTypeAt (P.types.size + 1) kt && eqTy P (P.types.size + 1) kt
  | _ => false
def Formed (P : Program) (t : TypeId) (v : Value) : Prop := ((tyOf P t).isAg = true → ∃ cs, v = .agg cs) ∧ ((tyOf P t).isAg = false → v.cells = #[v])
theorem keyOk.keyed {kt : TypeId} (h : keyOk P kt = true) : Maps.Keyed P kt := by
  unfold keyOk at h
  split at h
  · rename_i q hu; exact Maps.int_keyed hu
  · rename_i fs hu
    simp only [Bool.and_eq_true, decide_eq_true_eq] at h
    exact .of_law (deep_law_laid h.1.1.1.1.1.1 (m := 20) (by omega) h.1.1.1.1.1.2 h.1.1.1.1.2 (by rw [hu]))
  · rename_i n e hu
    simp only [Bool.and_eq_true, decide_eq_true_eq] at h
    exact .of_law (deep_law_laid h.1.1.1.1.1.1 (m := 20) (by omega) h.1.1.1.1.1.2 h.1.1.1.1.2 (by rw [hu]))
  · cases h
theorem keyOk.read {kt : TypeId} (h : keyOk P kt = true) {H : Array Obj} {S : Nat → Prop} {x : D} {v : Value} (hr : RD P H S (tyOf P kt) x v.cells.toList) (hf : Formed P kt v) : ∃ l, keyOf P kt v = some l ∧
    ∀ {y : D} {v' : Value} {H' : Array Obj} {S' : Nat → Prop}, RD P H' S' (tyOf P kt) y v'.cells.toList → Formed P kt v' → (v = v' ↔ x = y) := by
  have K := (keyOk.keyed h)
  have ag : ∀ (hag : (tyOf P kt).isAg = true) (hk : ∀ v : Value, keyOf P kt v = if P.keyType kt && v.formed P kt then (P.keyLits (P.types.size + 1) kt v.cells.toList).map fun ls => .string (keyBytes ls) else none)
      (ht : tyOf P kt = .ag kt) (hw : (match P.underlying kt with | some (.struct _) | some (.array _ _) => true | _ => false) = true) (h1 : P.keyType kt = true) (h2 : eqTy P (P.types.size + 1) kt = true),
      ∃ l, keyOf P kt v = some l ∧ ∀ {y : D} {v' : Value} {H' : Array Obj} {S' : Nat → Prop}, RD P H' S' (tyOf P kt) y v'.cells.toList → Formed P kt v' → (v = v' ↔ x = y) := by
    intro hag hk ht hw h1 h2
    have key : ∀ {y : D} {v' : Value} {H' : Array Obj} {S' : Nat → Prop}, RD P H' S' (tyOf P kt) y v'.cells.toList → Formed P kt v' → keyOf P kt v' = some (.string (keyBytes y.lits)) := by
      intro y v' H' S' hr' hf'
      obtain ⟨cs, rfl⟩ := hf'.1 hag
      have hl := hr'.length
      rw [ht] at hl
      have hl' : cs.size = P.cellsOf kt := by simpa [tySize, Value.cells] using hl
      have hfm : (Value.agg cs).formed P kt = true := by
        clear hr' hf' hf hr hk K h
        unfold Value.formed
        cases hu : P.underlying kt with
        | none => rw [hu] at hw; cases hw
        | some kd => rw [hu] at hw; cases kd <;> first | (simp at hw; done) | (simp [hl'])
      rw [hk, h1, hfm]
      simp only [Bool.and_self, if_true]
      rw [RD.keys _ kt y _ h2 hr']
      rfl
    refine ⟨_, key hr hf, fun {y v' H' S'} hr' hf' => ⟨fun e => ?_, fun e => ?_⟩⟩
    · subst e
      have e1 := RD.keys _ kt x _ h2 hr
      have e2 := RD.keys _ kt y _ h2 hr'
      rw [e1] at e2
      injection e2 with e2
      exact (RD.lits_inj _ kt x y _ _ h2 hr hr').2 e2
    · subst e
      exact K.inj (key hr hf) (key hr' hf')
  unfold keyOk at h
  split at h
  · rename_i q hu
    have ht : tyOf P kt = .i q := by simp [tyOf, hu]
    have key : ∀ {y : D} {v' : Value} {H' : Array Obj} {S' : Nat → Prop}, RD P H' S' (tyOf P kt) y v'.cells.toList → Formed P kt v' → ∃ n, y = .int q n ∧ v' = .int q n ∧ (Lit.int q n).wf = true := by
      intro y v' H' S' hr' hf'
      have h1 := hf'.2 (by rw [ht]; rfl)
      rw [h1, ht] at hr'
      generalize hc : (#[v'] : Array Value).toList = cs at hr'
      cases hr' with
      | @int _ n hw => simp at hc; exact ⟨n, rfl, hc, hw⟩
    obtain ⟨n, rfl, rfl, hw⟩ := key hr hf
    refine ⟨.int q n, by simp [keyOf, mapKey, hu, hw], fun {y v' H' S'} hr' hf' => ?_⟩
    obtain ⟨m, rfl, rfl, _⟩ := key hr' hf'
    simp
  · rename_i fs hu
    simp only [Bool.and_eq_true, decide_eq_true_eq] at h
    exact ag (by simp [tyOf, hu, Ty.isAg]) (fun v => by simp [keyOf, hu]) (by simp [tyOf, hu]) (by rw [hu]) h.1.1.1.2 h.2
  · rename_i n e hu
    simp only [Bool.and_eq_true, decide_eq_true_eq] at h
    exact ag (by simp [tyOf, hu, Ty.isAg]) (fun v => by simp [keyOf, hu]) (by simp [tyOf, hu]) (by rw [hu]) h.1.1.1.2 h.2
  · cases h

/-! ### The abstract map -/
theorem mapFind_at : ∀ {l : List (D × V)} {x : D} {j : Nat} {v : V}, l.Pairwise (fun p q => p.1 ≠ q.1) → l[j]? = some (x, v) → mapFind l x = some v
  | [], _, _, _, _, h => by simp at h
  | (k, y) :: l, x, j, v, hp, h => by
    obtain ⟨h1, h2⟩ := List.pairwise_cons.1 hp
    simp only [mapFind]
    cases j with
    | zero =>
      simp at h
      obtain ⟨rfl, rfl⟩ := h
      rw [if_pos ((D.beq_iff _ _).2 rfl)]
    | succ j =>
      have hm : (x, v) ∈ l := List.mem_of_getElem? (by simpa using h)
      rw [if_neg (fun e => h1 _ hm ((D.beq_iff _ _).1 e).symm)]
      exact mapFind_at h2 (by simpa using h)
theorem mapFind_no : ∀ {l : List (D × V)} {x : D}, (∀ p ∈ l, p.1 ≠ x) → mapFind l x = none
  | [], _, _ => rfl
  | (k, y) :: l, x, h => by
    simp only [mapFind]
    rw [if_neg (fun e => h (k, y) List.mem_cons_self ((D.beq_iff _ _).1 e).symm)]
    exact mapFind_no (fun p hp => h p (List.mem_cons_of_mem _ hp))
theorem mapPut_at : ∀ {l : List (D × V)} {x : D} {j : Nat} {v y : V}, l.Pairwise (fun p q => p.1 ≠ q.1) → l[j]? = some (x, v) → mapPut l x y = l.set j (x, y)
  | [], _, _, _, _, _, h => by simp at h
  | (k, z) :: l, x, j, v, y, hp, h => by
    obtain ⟨h1, h2⟩ := List.pairwise_cons.1 hp
    simp only [mapPut]
    cases j with
    | zero =>
      simp at h
      obtain ⟨rfl, rfl⟩ := h
      rw [if_pos ((D.beq_iff _ _).2 rfl)]
      rfl
    | succ j =>
      have hm : (x, v) ∈ l := List.mem_of_getElem? (by simpa using h)
      rw [if_neg (fun e => h1 _ hm ((D.beq_iff _ _).1 e).symm), mapPut_at h2 (by simpa using h)]
      rfl
theorem mapPut_no : ∀ {l : List (D × V)} {x : D} {y : V}, (∀ p ∈ l, p.1 ≠ x) → mapPut l x y = l ++ [(x, y)]
  | [], _, _, _ => rfl
  | (k, z) :: l, x, y, h => by
    simp only [mapPut]
    rw [if_neg (fun e => h (k, z) List.mem_cons_self ((D.beq_iff _ _).1 e).symm), mapPut_no (fun p hp => h p (List.mem_cons_of_mem _ hp))]
    rfl
theorem mapPut_keys : ∀ {l : List (D × V)} {x : D} {y : V} {p : D × V}, p ∈ mapPut l x y → p.1 = x ∨ ∃ q ∈ l, q.1 = p.1
  | [], x, y, p, h => by simp [mapPut] at h; exact .inl (by rw [h])
  | (k, z) :: l, x, y, p, h => by
    simp only [mapPut] at h
    split at h
    · rcases List.mem_cons.1 h with rfl | h
      · exact .inr ⟨(k, z), List.mem_cons_self, rfl⟩
      · exact .inr ⟨p, List.mem_cons_of_mem _ h, rfl⟩
    · rcases List.mem_cons.1 h with rfl | h
      · exact .inr ⟨(k, z), List.mem_cons_self, rfl⟩
      · rcases mapPut_keys h with e | ⟨q, hq, e⟩
        · exact .inl e
        · exact .inr ⟨q, List.mem_cons_of_mem _ hq, e⟩
theorem mapPut_apart : ∀ {l : List (D × V)} {x : D} {y : V}, l.Pairwise (fun p q => p.1 ≠ q.1) → (mapPut l x y).Pairwise (fun p q => p.1 ≠ q.1)
  | [], _, _, _ => by simp [mapPut]
  | (k, z) :: l, x, y, hp => by
    obtain ⟨h1, h2⟩ := List.pairwise_cons.1 hp
    simp only [mapPut]
    split
    · exact List.pairwise_cons.2 ⟨h1, h2⟩
    · rename_i hne
      refine List.pairwise_cons.2 ⟨fun p hpm => ?_, mapPut_apart h2⟩
      rcases mapPut_keys hpm with e | ⟨q, hq, e⟩
      · intro e'
        apply hne
        rw [D.beq_iff]
        exact (e'.trans e).symm
      · rw [← e]; exact h1 q hq

section
variable {E : Fr} {tys : Nat → TTy} {U : Nat → Prop} {s : St} {a : Act} {w : World} {o : Oper}
theorem go_mkm {d : Nat} {t kt et : TypeId} {v : V} {u : Hp} {n : Nat} (hr : Rel P E tys U s a w) (hU : ∀ h, s.next ≤ h → h < n → ¬ U h) (ho : o.op = .makeMap t none) (hd : o.dst = some d) (hlt : d < a.tmps.size) (hu : P.underlying t = some (.map kt et)) (hty : tys d = .o (.mp t))
    (he : eff (.mkm d) s.env s.g s.next = some (v, u, n)) : Goes P E tys U s o a w (s.after (some d) v u n) := by
  simp only [eff] at he; injection he with he; injection he with h1 h2; injection h2 with h2 h3; subst h1 h2 h3
  obtain ⟨ρ, own, hb⟩ := hr
  have hU' := hU _ (Nat.le_refl _) (Nat.lt_succ_self _)
  let L : Loc := { blk := some w.heap.size, row := false, off := 0, size := 0, ty := t }
  have hn : newLoc ρ s.next L s.next = some L := by simp [newLoc]
  refine .inl ⟨.map (some w.heap.size), w.alloc (.map #[] 0), exec_run (f := Instr.makeMap t none) (by simp [execOp, ho]) (by simp [Instr.makeMap]), newLoc ρ s.next L, newOwn own w.heap.size, ?_⟩
  rw [hd]
  refine hb.new hU' (ob := .map #[] 0) (L := L) (w' := w.alloc (.map #[] 0)) rfl ⟨rfl, rfl, rfl⟩ rfl ?_ (fun k hk => ?_)
  · refine ⟨L, w.heap.size, #[], 0, kt, et, hn, rfl, .inr rfl, ?_, hu, rfl, List.Pairwise.nil, fun i k v h => by simp at h⟩
    show (w.heap.push _)[w.heap.size]? = _
    simp
  · injection hk with hk; subst hk
    refine ⟨hlt, ?_⟩
    rw [hty]
    exact .mk (VS.of_single (.map hn rfl rfl) rfl rfl)

/-- What a map's handle leads to, and where a key is. -/
theorem map_find {ρ : Nat → Option Loc} {own : Nat → Prop} (hb : RelB P E tys U s a w ρ own) {t kt et : TypeId} (hu : P.underlying t = some (.map kt et)) (hk : keyOk P kt = true) {h : Nat} {l : List (D × V)} {mv : Value} (hm : VS P (cx E w.heap own ρ) (.mp t) (.map h) mv) (hg : s.g h = some (.mp l))
    {x : D} {kv : Value} (hr : RD P w.heap (cx E w.heap own ρ).S (tyOf P kt) x kv.cells.toList) (hf : Formed P kt kv) :
    ∃ L r es clock, ρ h = some L ∧ L.blk = some r ∧ L.ty = t ∧ own r ∧ mv = .map (some r) ∧ w.heap[r]? = some (.map es clock) ∧ es.size = l.length ∧ l.Pairwise (fun p q => p.1 ≠ q.1) ∧ (∀ em, (Instr.checkKey em 10000 kt kv).run P w = .ok () w) ∧ (Instr.keyThatStays kv kv).run P w = .ok kv w ∧
      (∀ (i : Nat) (k : D) (v : V), l[i]? = some (k, v) → ∃ e, es[i]? = some e ∧ RD P w.heap (cx E w.heap own ρ).S (tyOf P kt) k e.key.cells.toList ∧ Formed P kt e.key ∧ (v = .und ∨ (VR P (cx E w.heap own ρ) (tyOf P et) v e.val.cells.toList ∧ Formed P et e.val))) ∧
      (((Instr.findKey kt kv es.toList).run P w = .ok none w ∧ ∀ p ∈ l, p.1 ≠ x) ∨ ∃ j e v, (Instr.findKey kt kv es.toList).run P w = .ok (some (j, e.val)) w ∧ es[j]? = some e ∧ e.key = kv ∧ l[j]? = some (x, v)) := by
  obtain ⟨m1, _, m3⟩ := hm
  have hmv : ∃ L r, ρ h = some L ∧ L.blk = some r ∧ L.ty = t ∧ mv = .map (some r) := by
    have hc := m3 rfl
    rw [hc] at m1
    generalize hcs : (#[mv] : Array Value).toList = cs at m1
    cases m1 with
    | map k1 k2 k3 => simp at hcs; exact ⟨_, _, k1, k2, k3, hcs⟩
  obtain ⟨L, r, e1, e2, e3, rfl⟩ := hmv
  obtain ⟨L', r', es, clock, kt', et', k1, k2, k3, k4, k5, k6, k6', k7⟩ := hb.heap.blk h _ hg
  have k1 : ρ h = some L' := k1
  rw [e1] at k1; injection k1 with k1; subst k1
  rw [e2] at k2; injection k2 with k2; subst k2
  rw [e3, hu] at k5; injection k5 with k5; injection k5 with q1 q2; subst q1 q2
  have K := (keyOk.keyed hk)
  obtain ⟨lx, hlx, hiff⟩ := keyOk.read hk hr hf
  have hkeys : ∀ e ∈ es.toList, ∃ l, keyOf P kt e.key = some l := by
    intro e he
    obtain ⟨i, hi⟩ := List.getElem?_of_mem he
    have hi' : es[i]? = some e := by simpa using hi
    have hil : i < l.length := by rw [← k6]; exact (Array.getElem?_eq_some_iff.1 hi').1
    obtain ⟨e', g1, g2, g3, _⟩ := k7 i l[i].1 l[i].2 (by simp [hil])
    rw [hi'] at g1; injection g1 with g1; subst g1
    obtain ⟨q, hq, _⟩ := keyOk.read hk g2 g3
    exact ⟨q, hq⟩
  refine ⟨L, r, es, clock, e1, e2, e3, k3, rfl, k4, k6, k6', fun em => K.check w em hlx, K.stays w hlx, k7, ?_⟩
  rcases K.find w hlx es.toList hkeys with ⟨f1, f2⟩ | ⟨j, e, f1, f2, f3⟩
  · refine .inl ⟨f1, fun p hp e => ?_⟩
    obtain ⟨i, hi⟩ := List.getElem?_of_mem hp
    obtain ⟨e', g1, g2, g3, _⟩ := k7 i p.1 p.2 hi
    have hmem : e' ∈ es.toList := List.mem_of_getElem? (by simpa using g1)
    exact f2 e' hmem ((hiff g2 g3).2 e.symm).symm
  · have f2' : es[j]? = some e := by simpa using f2
    have hjl : j < l.length := by rw [← k6]; exact (Array.getElem?_eq_some_iff.1 f2').1
    obtain ⟨e', g1, g2, g3, _⟩ := k7 j l[j].1 l[j].2 (by simp [hjl])
    rw [f2'] at g1; injection g1 with g1; subst g1
    have hx : x = l[j].1 := (hiff g2 g3).1 f3.symm
    exact .inr ⟨j, e, l[j].2, f1, f2', f3, by rw [hx]; simp [hjl]⟩
end
end Go.Fw
namespace Go.Fw
open Go Go.RowKit
variable {P : Program}
section
variable {E : Fr} {tys : Nat → TTy} {U : Nat → Prop} {s : St} {a : Act} {w : World} {o : Oper}
theorem VS.of_formed {C : Ctx} {t : TypeId} {v : V} {x : Value} (h : VR P C (tyOf P t) v x.cells.toList) (hf : Formed P t x) : VS P C (tyOf P t) v x := ⟨h, hf⟩
theorem zc.formed {t : TypeId} {cs : List Value} (h : zc P t = some cs) (hg : tyGood P t = true) : True := trivial

theorem go_lk {d : Nat} {xm xk : Opd} {ym yk : Operand} {z : V} {ok : Bool} {t kt et : TypeId} {v : V} {u : Hp} {n : Nat} (hr : Rel P E tys U s a w) (ho : o.op = .lookup t ym yk ok) (hd : o.dst = some d) (hlt : d < a.tmps.size) (hu : P.underlying t = some (.map kt et)) (hk : keyOk P kt = true)
    (hcm : opdOk E.ft tys (.o (.mp t)) ym xm = true) (hck : opdOk E.ft tys (.o (tyOf P kt)) yk xk = true) {zv : Value} (hz : ∀ w : World, (zeroValue et).run P w = .ok zv w) (hzv : z = .und ∨ ∀ C : Ctx, VS P C (tyOf P et) z zv) (hty : tys d = if ok then .t [tyOf P et, .b] else .o (tyOf P et))
    (he : eff (.lk d xm xk z ok) s.env s.g s.next = some (v, u, n)) : Goes P E tys U s o a w (s.after (some d) v u n) := by
  simp only [eff] at he
  split at he
  · rename_i h x hvm hvk
    split at he
    · rename_i l hg
      have key : ∀ ρ own, RelB P E tys U s a w ρ own → VS P (cx E w.heap own ρ) (.mp t) (.map h) (a.eval ym) ∧ RD P w.heap (cx E w.heap own ρ).S (tyOf P kt) x (a.eval yk).cells.toList ∧ Formed P kt (a.eval yk) := by
        intro ρ own hb
        have h1 := opd_VT (P := P) (C := cx E w.heap own ρ) hcm hb.env
        rw [hvm] at h1
        have h2 := opd_VT (P := P) (C := cx E w.heap own ρ) hck hb.env
        have hne : (val s.env xk).isUnd = false := by
          cases hh : val s.env xk <;> first | rfl | (rw [hh] at hvk; simp [V.pure?] at hvk)
        have h2 := h2.vs hne
        exact ⟨h1.vs rfl, h2.1.pure hvk, h2.2⟩
      -- one run tells all
      obtain ⟨ρ0, own0, hb0⟩ := id hr
      obtain ⟨g1, g2, g3⟩ := key ρ0 own0 hb0
      obtain ⟨L, r, es, clock, _, _, _, _, e5, e6, _, e8, e9, _, e11, e12⟩ := map_find hb0 hu hk g1 hg g2 g3
      have hval : ∀ ρ own, RelB P E tys U s a w ρ own → ∀ (j : Nat) (e : MapEntry) (v : V), es[j]? = some e → l[j]? = some (x, v) → v = .und ∨ VS P (cx E w.heap own ρ) (tyOf P et) v e.val := by
        intro ρ own hb j e v hj hl
        obtain ⟨q1, q2, q3⟩ := key ρ own hb
        obtain ⟨L', r', es', clock', _, _, _, _, f5, f6, _, _, _, _, f11, _⟩ := map_find hb hu hk q1 hg q2 q3
        rw [e5] at f5; injection f5 with f5; injection f5 with f5; subst f5
        rw [e6] at f6; injection f6 with f6; injection f6 with f6 _; subst f6
        obtain ⟨e', p1, _, _, p4⟩ := f11 j x v hl
        rw [hj] at p1; injection p1 with p1; subst p1
        rcases p4 with p4 | ⟨p4, p5⟩
        · exact .inl p4
        · exact .inr ⟨p4, p5⟩
      have fin : ∀ (y : Value) (b : Bool) (vv : V), (Instr.lookup t (a.eval ym) (a.eval yk) ok).run P w = .ok (if ok then .tuple #[y, .bool b] else y) w → (∀ ρ own, RelB P E tys U s a w ρ own → vv = .und ∨ VS P (cx E w.heap own ρ) (tyOf P et) vv y) → some (v, u, n) = some (if ok then .tup [vv, .bool b] else vv, [], s.next) → Goes P E tys U s o a w (s.after (some d) v u n) := by
        intro y b vv hrun hv heq
        injection heq with heq; injection heq with q1 q2; injection q2 with q2 q3; subst q1 q2 q3
        refine Goes.pure hr (exec_run (f := Instr.lookup t (a.eval ym) (a.eval yk) ok) (by simp [execOp, ho]) hrun) hd hlt (fun ρ own hb => ?_)
        rw [hty]
        cases ok with
        | false =>
          simp only [Bool.false_eq_true, if_false]
          rcases hv ρ own hb with k | k
          · exact .inl k
          · exact .inr (.inr k)
        | true =>
          simp only [if_true]
          refine .inr (.inr ⟨[vv, .bool b], #[y, .bool b], rfl, rfl, rfl, rfl, fun i ty v' w' h1 h2 h3 => ?_⟩)
          match i with
          | 0 => simp at h1 h2 h3; subst h1 h2 h3; exact hv ρ own hb
          | 1 => simp at h1 h2 h3; subst h1 h2 h3; exact .inr VS.mk_bool
          | i + 2 => simp at h1
      rcases e12 with ⟨f1, f2⟩ | ⟨j, e, v0, f1, f2, f3, f4⟩
      · rw [mapFind_no f2] at he
        refine fin zv false z ?_ (fun ρ own hb => hzv.imp id (fun k => k _)) he.symm
        rw [e5]
        simp [Instr.lookup, run_underlying hu, MapKept.run_getObj_map e6, e9, f1, hz, Result.andThen]
      · rw [mapFind_at e8 f4] at he
        refine fin e.val true v0 ?_ (fun ρ own hb => hval ρ own hb j e v0 f2 f4) he.symm
        rw [e5]
        simp [Instr.lookup, run_underlying hu, MapKept.run_getObj_map e6, e9, f1, Result.andThen]
    · cases he
  · cases he

theorem Evo.setObj {H : Array Obj} {own : Nat → Prop} {ρ : Nat → Option Loc} {b : Nat} (hb : own b) (ob : Obj) : Evo H (H.setIfInBounds b ob) own own ρ ρ (fun x => x = b) where
  size := by simp
  same := fun c _ hc => by simp [Ne.symm hc]
  xOwn := fun x hx => by subst hx; exact hb
  mine := fun b hb => .inl hb
  keep := fun b hb _ => hb
  locs := fun h L e => e

theorem go_mu {xm xk xv : Opd} {ym yk yv : Operand} {t kt et : TypeId} {v : V} {u : Hp} {n : Nat} (hr : Rel P E tys U s a w) (ho : o.op = .mapUpdate t ym yk yv ∨ o.op = .insert t ym yk yv) (hd : o.dst = none) (hu : P.underlying t = some (.map kt et)) (hk : keyOk P kt = true)
    (hcm : opdOk E.ft tys (.o (.mp t)) ym xm = true) (hck : opdOk E.ft tys (.o (tyOf P kt)) yk xk = true) (hcv : opdOk E.ft tys (.o (tyOf P et)) yv xv = true)
    (he : eff (.mu xm xk xv) s.env s.g s.next = some (v, u, n)) : Goes P E tys U s o a w (s.after none v u n) := by
  simp only [eff] at he
  split at he
  · cases he
  rename_i hund
  have huv : (val s.env xv).isUnd = false := by simpa using hund
  split at he
  · rename_i h x hvm hvk
    split at he
    · rename_i l hg
      injection he with he; injection he with h1 h2; injection h2 with h2 h3; subst h1 h2 h3
      obtain ⟨ρ, own, hb⟩ := hr
      have h1 := opd_VT (P := P) (C := cx E w.heap own ρ) hcm hb.env
      rw [hvm] at h1
      have h1 := h1.vs rfl
      have h2 := opd_VT (P := P) (C := cx E w.heap own ρ) hck hb.env
      have hne : (val s.env xk).isUnd = false := by
        cases hh : val s.env xk <;> first | rfl | (rw [hh] at hvk; simp [V.pure?] at hvk)
      have h2 := h2.vs hne
      have h3 := (opd_VT (P := P) (C := cx E w.heap own ρ) hcv hb.env).vs huv
      have hrk := h2.1.pure hvk
      have hfk : Formed P kt (a.eval yk) := h2.2
      obtain ⟨L, r, es, clock, e1, e2, e3, e4, e5, e6, e7, e8, e9, e10, e11, e12⟩ := map_find hb hu hk h1 hg hrk hfk
      have eU : addU U s.next (s.after none .und [(h, .mp (mapPut l x (val s.env xv)))] s.next).next = U := addU_self
      have fin : ∀ (es' : Array MapEntry) (clock' : Nat), (Instr.mapUpdate t (a.eval ym) (a.eval yk) (a.eval yv)).run P w = .ok () { w with heap := w.heap.setIfInBounds r (.map es' clock') } → es'.size = (mapPut l x (val s.env xv)).length →
          (∀ (i : Nat) (k : D) (v : V), (mapPut l x (val s.env xv))[i]? = some (k, v) → ∃ e, es'[i]? = some e ∧ RD P w.heap (cx E w.heap own ρ).S (tyOf P kt) k e.key.cells.toList ∧ Formed P kt e.key ∧ (v = .und ∨ (VR P (cx E w.heap own ρ) (tyOf P et) v e.val.cells.toList ∧ Formed P et e.val))) →
          Goes P E tys U s o a w (s.after none .und [(h, .mp (mapPut l x (val s.env xv)))] s.next) := by
        intro es' clock' hrun hsz hent
        refine .inr ⟨_, exec_unit (f := Instr.mapUpdate t (a.eval ym) (a.eval yk) (a.eval yv)) (by rcases ho with ho | ho <;> simp [execOp, ho]) hrun, ?_⟩
        rw [eU, hd]
        have ev := Evo.setObj (H := w.heap) (own := own) (ρ := ρ) e4 (.map es' clock')
        have le := ev.le (E := E)
        refine ⟨ρ, own, ?_⟩
        have eU2 : U = addU U s.next s.next := addU_self.symm
        rw [eU2]
        refine hb.step (w' := { w with heap := w.heap.setIfInBounds r (.map es' clock') }) ev (Nat.le_refl _) ⟨rfl, rfl, rfl⟩ (fun b0 e0 => ⟨h, _, L, hg, rfl, e1, by rw [e0]; exact e2, by simp [ulast]⟩) (fun h L e => .inl e) (fun h' y e => ?_) (fun ha h2 y y' L1 L2 b0 c1 o1 r1 b1 r2 b2 o2 hh => ?_) (d := none) (v := .und) (x := undef) (fun k hk => by cases hk)
        · simp only [ulast] at e
          split at e
          · rename_i heq; subst heq; injection e with e; subst e
            refine ⟨L, r, es', clock', kt, et, e1, e2, e4, (MapKept.heap_set e6).1, by rw [e3]; exact hu, hsz, mapPut_apart e8, fun i k v hi => ?_⟩
            obtain ⟨e', p1, p2, p3, p4⟩ := hent i k v hi
            refine ⟨e', p1, p2.mono le, p3, ?_⟩
            rcases p4 with p4 | ⟨p4, p5⟩
            · exact .inl p4
            · exact .inr ⟨p4.mono le, p5⟩
          · cases e
        · simp only [ulast] at c1
          split at c1
          · rename_i heq; subst heq
            by_cases hn : h2 = h
            · exact hn.symm
            · rcases hh with hh | hh
              · simp only [ulast] at hh
                rw [if_neg (Ne.symm hn)] at hh; cases hh
              · exact hb.heap.apart h h2 _ _ L1 L2 b0 hg hh.2 rfl o2 r1 r2 b1 b2
          · cases c1
      rcases e12 with ⟨f1, f2⟩ | ⟨j, e, v0, f1, f2, f3, f4⟩
      · have hput := mapPut_no (y := val s.env xv) f2
        refine fin (es.push { key := a.eval yk, val := a.eval yv, born := clock }) (clock + 1) ?_ (by rw [hput]; simp [e7]) (fun i k v hi => ?_)
        · rw [e5]
          simp [Instr.mapUpdate, run_underlying hu, MapKept.run_getObj_map e6, e9, f1, MapKept.run_setObj_map _ e6, Result.andThen]
        · rw [hput] at hi
          by_cases hil : i < l.length
          · rw [List.getElem?_append_left hil] at hi
            obtain ⟨e', p1, p2⟩ := e11 i k v hi
            refine ⟨e', ?_, p2⟩
            rw [Array.getElem?_push, if_neg (by omega)]
            exact p1
          · rw [List.getElem?_append_right (by omega)] at hi
            have hi0 : i = l.length := by
              cases hq : i - l.length with
              | zero => omega
              | succ q => rw [hq] at hi; simp at hi
            subst hi0
            simp at hi
            obtain ⟨rfl, rfl⟩ := hi
            refine ⟨{ key := a.eval yk, val := a.eval yv, born := clock }, by rw [Array.getElem?_push, if_pos e7.symm], hrk, hfk, .inr h3⟩
      · have hput := mapPut_at (y := val s.env xv) e8 f4
        have hjs : j < es.size := (Array.getElem?_eq_some_iff.1 f2).1
        refine fin (es.modify j fun e => { e with key := a.eval yk, val := a.eval yv }) clock ?_ (by rw [hput]; simp [e7]) (fun i k v hi => ?_)
        · rw [e5]
          simp [Instr.mapUpdate, run_underlying hu, MapKept.run_getObj_map e6, e9, f1, f2, f3, e10, MapKept.run_setObj_map _ e6, Result.andThen]
        · rw [hput] at hi
          by_cases hij : i = j
          · subst hij
            rw [List.getElem?_set_self (by omega)] at hi
            injection hi with hi; injection hi with q1 q2; subst q1 q2
            refine ⟨{ e with key := a.eval yk, val := a.eval yv }, ?_, hrk, hfk, .inr h3⟩
            rw [Array.getElem?_modify, if_pos rfl, f2]; rfl
          · rw [List.getElem?_set_ne (Ne.symm hij)] at hi
            obtain ⟨e', p1, p2⟩ := e11 i k v hi
            refine ⟨e', ?_, p2⟩
            rw [Array.getElem?_modify, if_neg (Ne.symm hij)]
            exact p1
    · cases he
  · cases he
end
end Go.Fw
namespace Go.Fw
open Go Go.RowKit
variable {P : Program}
variable (P) in
/-- A zero that a map's look-up may give. -/
def zvOk (t : TypeId) (z : V) : Bool := match (P.info? t).bind (·.zero) with
  | some zv => (match zv with | .agg _ => (tyOf P t).isAg | _ => !(tyOf P t).isAg) && (match z with | .und => true | z => zOk P t z zv.cells.toList)
  | none => false
theorem zvOk.out {t : TypeId} {z : V} (h : zvOk P t z = true) : ∃ zv, (∀ w : World, (zeroValue t).run P w = .ok zv w) ∧ (z = .und ∨ ∀ C : Ctx, VS P C (tyOf P t) z zv) := by
  unfold zvOk at h
  split at h
  · rename_i zv hz
    rw [Option.bind_eq_some_iff] at hz
    obtain ⟨i, h1, h2⟩ := hz
    rw [Bool.and_eq_true] at h
    refine ⟨zv, fun w => by simp [zeroValue, typeInfo, h1, h2], ?_⟩
    obtain ⟨hf, hzz⟩ := h
    by_cases hu : z = .und
    · exact .inl hu
    · right
      have hzo : zOk P t z zv.cells.toList = true := by
        cases z <;> first | exact absurd rfl hu | exact hzz
      intro C
      refine ⟨zOk.out hzo, ?_, ?_⟩
      · intro ha
        cases zv <;> first | exact ⟨_, rfl⟩ | (simp [ha] at hf; done)
      · intro ha
        cases zv <;> first | rfl | (simp [ha] at hf; done)
  · cases h

/-! ### Function values -/
def clsOk (ft : Nat → List Ty × List Ty × List (Nat × TypeId)) (tys : Nat → TTy) : List Ty → List Operand → List Opd → Bool
  | _, [], [] => true
  | t :: ts, y :: ys, x :: xs => !t.isAg && opdOk ft tys (.o t) y x && clsOk ft tys ts ys xs
  | _, _, _ => false
def mkfOk (ft : Nat → List Ty × List Ty × List (Nat × TypeId)) (tys : Nat → TTy) (td : TTy) (f : Nat) (fs cs : List Operand) (xs ys : List Opd) : Bool :=
  clsOk ft tys (ft f).1 fs xs && clsOk ft tys (ft f).2.1 cs ys && decide (ys.length = (ft f).2.1.length) && (match td with | .o (.fn t) => (ft f).2.2.contains (xs.length, t) | _ => false)
section
variable {E : Fr} {tys : Nat → TTy} {U : Nat → Prop} {s : St} {a : Act} {w : World} {o : Oper}
theorem clsOk.out {C : Ctx} (henv : ∀ i, VT P C (tys i) (look s.env i) (a.tmps.getD i undef)) : ∀ {ts : List Ty} {ys : List Operand} {xs : List Opd}, clsOk C.ft tys ts ys xs = true → (xs.map (val s.env)).any V.isUnd = false →
    ys.length = xs.length ∧ xs.length ≤ ts.length ∧ (∀ (i : Nat) (ty : Ty), i < xs.length → ts[i]? = some ty → ty.isAg = false) ∧ ∀ (i : Nat) (ty : Ty) (v : V) (c : Value), ts[i]? = some ty → (xs.map (val s.env))[i]? = some v → (ys.map a.eval)[i]? = some c → c.cells = #[c] ∧ VR P C ty v [c]
  | ts, [], [], _, _ => ⟨rfl, Nat.zero_le _, fun i ty h => by simp at h, fun i ty v c _ h => by simp at h⟩
  | t :: ts, y :: ys, x :: xs, h, hu => by
    simp only [clsOk, Bool.and_eq_true, Bool.not_eq_true'] at h
    simp only [List.map_cons, List.any_cons, Bool.or_eq_false_iff] at hu
    obtain ⟨k1, k2, k3, k4⟩ := clsOk.out henv h.2 hu.2
    have hv := (opd_VT (P := P) (C := C) h.1.2 henv).vs hu.1
    have hc := hv.2.2 h.1.1
    refine ⟨by simp [k1], by simp only [List.length_cons]; omega, fun i ty hi ht => ?_, fun i ty v c ht hvv hc' => ?_⟩
    · cases i with
      | zero => simp at ht; subst ht; exact h.1.1
      | succ i => exact k3 i ty (by simpa using hi) (by simpa using ht)
    · cases i with
      | zero =>
        simp at ht hvv hc'
        subst ht hvv hc'
        refine ⟨hc, ?_⟩
        have h1 := hv.1
        rw [hc] at h1
        exact h1
      | succ i => exact k4 i ty v c (by simpa using ht) (by simpa using hvv) (by simpa using hc')
  | [], _ :: _, _, h, _ => by simp [clsOk] at h
  | _, [], _ :: _, h, _ => by simp [clsOk] at h
  | _ :: _, _ :: _, [], h, _ => by simp [clsOk] at h
theorem go_mkf {d f : Nat} {xs ys : List Opd} {fs cs : Array Operand} {v : V} {u : Hp} {n : Nat} (hr : Rel P E tys U s a w) (ho : o.op = .makeFunc (.func f) fs cs) (hd : o.dst = some d) (hlt : d < a.tmps.size) (h : mkfOk E.ft tys (tys d) f fs.toList cs.toList xs ys = true)
    (he : eff (.mkf d f xs ys) s.env s.g s.next = some (v, u, n)) : Goes P E tys U s o a w (s.after (some d) v u n) := by
  simp only [eff] at he
  split at he
  · cases he
  · rename_i hu
    rw [Bool.or_eq_true, not_or, Bool.not_eq_true, Bool.not_eq_true] at hu
    injection he with he; injection he with h1 h2; injection h2 with h2 h3; subst h1 h2 h3
    simp only [mkfOk, Bool.and_eq_true, decide_eq_true_eq] at h
    obtain ⟨⟨⟨h1, h2⟩, h3⟩, h4⟩ := h
    refine Goes.pure hr (x := .func (.func f) (fs.map a.eval) (cs.map a.eval)) (exec_run (f := Instr.makeFunc (.func f) (fs.map a.eval) (cs.map a.eval)) (by simp [execOp, ho]) (by simp [Instr.makeFunc])) hd hlt (fun ρ own hb => ?_)
    split at h4
    · rename_i t ht
      rw [ht]
      obtain ⟨k1, k2, k3, k4⟩ := clsOk.out (P := P) (C := cx E w.heap own ρ) hb.env h1 hu.1
      obtain ⟨m1, m2, m3, m4⟩ := clsOk.out (P := P) (C := cx E w.heap own ρ) hb.env h2 hu.2
      have hfa : ∀ (i : Nat), (fs.map a.eval)[i]? = (fs.toList.map a.eval)[i]? := fun i => by simp
      have hca : ∀ (i : Nat), (cs.map a.eval)[i]? = (cs.toList.map a.eval)[i]? := fun i => by simp
      have h4' : (xs.length, t) ∈ (E.ft f).2.2 := by simpa using h4
      refine .mk (VS.of_single (.clo (by rw [List.length_map]; exact h4') (by rw [List.length_map]; exact k2) (by rw [List.length_map]; exact h3) (by simpa using k1) (by simpa using m1) (fun i c hc => ?_) (fun i c hc => ?_) (fun i ty hi ht => ?_) (fun i ty ht => ?_) (fun i ty v c ht hv hc => ?_) (fun i ty v c ht hv hc => ?_)) rfl rfl)
      · rw [hfa] at hc
        have hi : i < xs.length := by have := (List.getElem?_eq_some_iff.1 hc).1; simp at this k1; omega
        exact (k4 i _ _ c (List.getElem?_eq_getElem (by omega)) (List.getElem?_eq_getElem (by simpa using hi)) hc).1
      · rw [hca] at hc
        have hi : i < ys.length := by have := (List.getElem?_eq_some_iff.1 hc).1; simp at this m1; omega
        exact (m4 i _ _ c (List.getElem?_eq_getElem (by omega)) (List.getElem?_eq_getElem (by simpa using hi)) hc).1
      · exact k3 i ty (by simpa using hi) ht
      · exact m3 i ty (by rw [h3]; exact (List.getElem?_eq_some_iff.1 ht).1) ht
      · rw [hfa] at hc; exact (k4 i ty v c ht hv hc).2
      · rw [hca] at hc; exact (m4 i ty v c ht hv hc).2
    · cases h4

/-! ### Clear -/
theorem zeroCells_seg {z : Array Value} {n i : Nat} (hi : i < n) : seg (Builtin.zeroCells z n).toList (i * z.size) z.size = z.toList := by
  have hp := mul_part (s := z.size) hi
  apply List.ext_getElem?
  intro k
  unfold seg
  rw [List.getElem?_take]
  split
  · rename_i hk
    rw [List.getElem?_drop, Array.getElem?_toList, Array.getElem?_toList]
    simp only [Builtin.zeroCells, Array.getElem?_map]
    rw [Array.getElem?_range]
    rw [if_pos (by omega)]
    simp only [Option.map_some]
    have : (i * z.size + k) % z.size = k := by rw [Nat.add_comm, Nat.add_mul_mod_self_right, Nat.mod_eq_of_lt hk]
    rw [this]
    simp [hk]
  · rename_i hk
    rw [List.getElem?_eq_none (by simpa using hk)]
theorem go_clr {x : Opd} {y : Operand} {zd : D} {t e : TypeId} {v : V} {u : Hp} {n : Nat} {zcs : List Value} (hr : Rel P E tys U s a w) (ho : o.op = .call { callee := .builtin .clear, args := #[y], argTypes := #[t] }) (hd : o.dst = none)
    (hu : P.underlying t = some (.slice e)) (hg : tyGood P e = true) (hz : zc P e = some zcs) (hzl : zcs.length = tySize P (tyOf P e)) (hzd : dOk P 20 e zd zcs = true) (hc : opdOk E.ft tys (.o (.sl e)) y x = true)
    (he : eff (.clr zd x) s.env s.g s.next = some (v, u, n)) : Goes P E tys U s o a w (s.after none v u n) := by
  simp only [eff] at he
  split at he
  · rename_i u' hu'
    injection he with he; injection he with h1 h2; injection h2 with h2 h3; subst h1 h2 h3
    unfold clearV at hu'
    split at hu'
    · rename_i nl h off len hxv
      split at hu'
      · rename_i l hgl
        split at hu'
        · cases hu'
        · rename_i hbd
          injection hu' with hu'; subst hu'
          obtain ⟨ρ, own, hb⟩ := hr
          have hx := opd_VT (P := P) (C := cx E w.heap own ρ) hc hb.env
          rw [hxv] at hx
          obtain ⟨e', e1, L, k1, k2, k3, k4⟩ := (hx.vs rfl).sl
          injection e1 with e1; subst e1
          have k1 : ρ h = some L := k1
          obtain ⟨z, hz1, hz2, ie, hi1, hi2⟩ := zc.run hz w
          have hzs : z.cells.size = tySize P (tyOf P e) := by rw [← hz2] at hzl; simpa using hzl
          have eU : U = addU U s.next s.next := addU_self.symm
          have eU' : addU U s.next (s.after none .und [(h, .row true (l.take off ++ List.replicate len zd ++ l.drop (off + len)))] s.next).next = U := addU_self
          have hrow := hb.heap.blk h _ hgl
          have fin : ∀ (w' : World) (X : Nat → Prop), (Builtin.clear_ #[t] o.type #[a.eval y]).run P w = .ok (.tuple #[]) w' → Evo w.heap w'.heap own own ρ ρ X → (∀ b, X b → L.blk = some b) → (w'.os = w.os ∧ w'.tape = w.tape ∧ w'.output = w.output) →
              BR P (cx E w'.heap own ρ) own h (.row true (l.take off ++ List.replicate len zd ++ l.drop (off + len))) → Goes P E tys U s o a w (s.after none .und [(h, .row true (l.take off ++ List.replicate len zd ++ l.drop (off + len)))] s.next) := by
            intro w' X hrun ev hX hos hbr
            refine .inl ⟨.tuple #[], w', by simp [execOp, ho, resolve, invoke, builtin, hrun], ?_⟩
            rw [eU', hd]
            refine ⟨ρ, own, ?_⟩
            rw [eU]
            refine hb.step (x := .tuple #[]) ev (Nat.le_refl _) hos (fun b0 e0 => ⟨h, _, L, hgl, rfl, k1, hX b0 e0, by simp [ulast]⟩) (fun h L e => .inl e) (fun h' y e => ?_) (fun ha h2 y y' L1 L2 b0 c1 o1 r1 b1 r2 b2 o2 hh => ?_) (d := none) (v := .und) (fun k hk => by cases hk)
            · simp only [ulast] at e
              split at e
              · rename_i heq; subst heq; injection e with e; subst e; exact hbr
              · cases e
            · simp only [ulast] at c1
              split at c1
              · rename_i heq; subst heq
                by_cases hn : h2 = h
                · exact hn.symm
                · rcases hh with hh | hh
                  · simp only [ulast] at hh
                    rw [if_neg (Ne.symm hn)] at hh; cases hh
                  · exact hb.heap.apart h h2 _ _ L1 L2 b0 hgl hh.2 rfl o2 r1 r2 b1 b2
              · cases c1
          have same : len = 0 → (Builtin.clear_ #[t] o.type #[a.eval y]).run P w = .ok (.tuple #[]) w → Goes P E tys U s o a w (s.after none .und [(h, .row true (l.take off ++ List.replicate len zd ++ l.drop (off + len)))] s.next) := by
            intro h0 hrun
            refine fin w (fun _ => False) hrun ⟨Nat.le_refl _, fun _ _ _ => rfl, fun _ h => h.elim, fun _ h => .inl h, fun _ h _ => h, fun _ _ h => h⟩ (fun _ h => h.elim) ⟨rfl, rfl, rfl⟩ ?_
            subst h0
            simpa using hrow
          rcases k4 with ⟨_, h0, hv⟩ | ⟨_, ad, cap, hv, r1, r2, r3⟩
          · refine same h0 ?_
            rw [hv]
            simp [Builtin.clear_, run_underlying hu, Result.andThen]
          · by_cases h0 : len = 0
            · refine same h0 ?_
              subst h0
              rw [hv]
              simp [Builtin.clear_, run_underlying hu, Result.andThen]
            · rcases r3 with r3 | ⟨b, r3, r4, r5⟩
              · omega
              · obtain ⟨L', j1, j2, j3⟩ := hrow
                have j1 : ρ h = some L' := j1
                rw [k1] at j1; injection j1 with j1; subst j1
                rcases j3 with ⟨_, j3⟩ | ⟨b', c, te, i1, i2, i3, i4, i5, i6⟩
                · rw [r3] at j3; cases j3
                · rw [r3] at i1; injection i1 with i1; subst i1
                  simp only [if_true] at i5
                  have i2 : w.heap[b]? = some (.cells c te (0, 0)) := i2
                  rw [k3] at i4 i6
                  generalize hszd : tySize P (tyOf P e) = sz at *
                  have hle : (off + len) * sz ≤ l.length * sz := Nat.mul_le_mul_right _ (by omega)
                  rw [Nat.add_mul] at hle
                  have hnl : (Builtin.zeroCells z.cells len).toList.length = len * sz := by simp [size_zeroCells, hzs]
                  have hbound : L.off + off * sz + (Builtin.zeroCells z.cells len).toList.length ≤ c.size := by rw [hnl]; omega
                  have hRz : RD P w.heap (cx E w.heap own ρ).S (tyOf P e) zd z.cells.toList := by rw [hz2]; exact dOk.out 20 e zd zcs hzd
                  have hone : ∀ x ∈ (Builtin.zeroCells z.cells len).toList, x.oneCell' = true := by
                    refine one_of_parts (n := len) (sz := sz) hnl (fun i hi => ?_)
                    have := zeroCells_seg (z := z.cells) hi
                    rw [hzs] at this
                    rw [this]
                    exact hRz.one
                  have hst := run_storeCells_at (P := P) b (L.off + off * sz) te (Builtin.zeroCells z.cells len).toList 0 c w i2 (by simpa using hbound) hone
                  simp only [Nat.add_zero] at hst
                  have ev := Evo.setRow (w := w) (own := own) (ρ := ρ) i5 (splice c.toList (L.off + off * sz) (Builtin.zeroCells z.cells len).toList).toArray
                  have le := ev.le (E := E)
                  have hspl := splice_length (c := c.toList) (x := (Builtin.zeroCells z.cells len).toList) (o := L.off + off * sz) (by simpa using hbound)
                  refine fin _ _ ?_ ev (fun b0 e0 => by rw [e0]; exact r3) ⟨rfl, rfl, rfl⟩ ?_
                  · rw [hv, r4]
                    cases len with
                    | zero => exact absurd rfl h0
                    | succ len =>
                      simp [Builtin.clear_, run_underlying hu, Result.andThen, hz1]
                      rw [hst]
                      rfl
                  · refine ⟨L, k1, k2, .inr ⟨b, _, te, r3, setRow_heap w b c _ te (0, 0) i2, by simpa [hspl] using i3, ?_, i5, fun i dd hdd => ?_⟩⟩
                    · rw [k3, hszd]
                      simp only [List.size_toArray, hspl, Array.length_toList, List.length_append, List.length_take, List.length_replicate, List.length_drop]
                      have : min off l.length + len + (l.length - (off + len)) = l.length := by omega
                      rw [this]; exact i4
                    · rw [k3, hszd]
                      show RD P _ _ (tyOf P e) dd (seg (splice c.toList (L.off + off * sz) (Builtin.zeroCells z.cells len).toList) (L.off + i * sz) sz)
                      by_cases hio : i < off
                      · have hip := mul_part (s := sz) hio
                        rw [seg_splice_apart (by simpa using hbound) (by omega)]
                        rw [List.append_assoc, List.getElem?_append_left (by simp; omega), List.getElem?_take, if_pos hio] at hdd
                        exact (i6 i dd hdd).mono le
                      · by_cases hil : i < off + len
                        · rw [List.append_assoc, List.getElem?_append_right (by simp; omega), List.getElem?_append_left (by simp; omega)] at hdd
                          have hdz : dd = zd := by
                            rw [List.getElem?_replicate] at hdd
                            split at hdd
                            · injection hdd with hdd; exact hdd.symm
                            · cases hdd
                          subst hdz
                          have e1 : L.off + i * sz = L.off + off * sz + (i - off) * sz := by
                            have : i * sz = off * sz + (i - off) * sz := by rw [← Nat.add_mul]; congr 1; omega
                            omega
                          have hip := mul_part (s := sz) (show i - off < len by omega)
                          rw [e1, ← seg_seg (n := (Builtin.zeroCells z.cells len).toList.length) (by rw [hnl]; exact hip), seg_splice_same (by simpa using hbound)]
                          have := zeroCells_seg (z := z.cells) (show i - off < len by omega)
                          rw [hzs] at this
                          rw [this]
                          exact hRz.mono le
                        · have hge : off + len ≤ i := by omega
                          have : (off + len) * sz ≤ i * sz := Nat.mul_le_mul_right _ hge
                          rw [Nat.add_mul] at this
                          rw [seg_splice_apart (by simpa using hbound) (by rw [hnl]; omega)]
                          have e2 : (l.take off ++ List.replicate len zd ++ l.drop (off + len))[i]? = l[i]? := by
                            rw [List.getElem?_append_right (by simp; omega), List.getElem?_drop]
                            congr 1
                            simp
                            omega
                          rw [e2] at hdd
                          exact (i6 i dd hdd).mono le
      · cases hu'
    · cases hu'
  · cases he

/-! ### Nothing that is nil -/
theorem nil0 {ρ : Nat → Option Loc} {own : Nat → Prop} {e : TypeId} {X : V} {x : Value} (hx : VT P (cx E w.heap own ρ) (.o (.sl e)) X x) (h : isNil0 X = true) : x = .slice none 0 0 := by
  unfold isNil0 at h
  split at h
  · obtain ⟨e', e1, h⟩ := (hx.vs rfl).dsl
    rcases h with ⟨_, _, h⟩ | ⟨h, _⟩
    · exact h
    · cases h
  · obtain ⟨e', e1, h⟩ := (hx.vs rfl).asl
    rcases h with ⟨_, _, h⟩ | ⟨h, _⟩
    · exact h
    · cases h
  · cases h
theorem go_cap {d : Nat} {x : Opd} {y : Operand} {t e : TypeId} {v : V} {u : Hp} {n : Nat} (hr : Rel P E tys U s a w) (ho : o.op = .call { callee := .builtin .cap, args := #[y], argTypes := #[t] }) (hd : o.dst = some d) (hlt : d < a.tmps.size)
    (hu : P.underlying t = some (.slice e)) (hc : opdOk E.ft tys (.o (.sl e)) y x = true) (hty : tys d = .o (.i .i64)) (he : eff (.cap d x) s.env s.g s.next = some (v, u, n)) : Goes P E tys U s o a w (s.after (some d) v u n) := by
  obtain ⟨ρ0, own0, hb0⟩ := id hr
  have hy := opd_VT (P := P) (C := cx E w.heap own0 ρ0) hc hb0.env
  have key : isNil0 (val s.env x) = true ∧ v = .int .i64 0 ∧ u = [] ∧ n = s.next := by
    simp only [eff] at he
    split at he
    · rename_i k
      injection he with he; injection he with h1 h2; injection h2 with h2 h3
      rw [k]; exact ⟨rfl, h1.symm, h2.symm, h3.symm⟩
    · rename_i k
      injection he with he; injection he with h1 h2; injection h2 with h2 h3
      rw [k]; exact ⟨rfl, h1.symm, h2.symm, h3.symm⟩
    · cases he
  obtain ⟨h1, rfl, rfl, rfl⟩ := key
  have hv := nil0 hy h1
  refine Goes.pure hr (x := .int .i64 0) ?_ hd hlt (fun ρ own _ => by rw [hty]; exact .mk (VS.mk_int rfl))
  simp [execOp, ho, resolve, invoke, builtin, Builtin.cap_, hv, Sem.run_pure, run_underlying hu, goInt]
theorem append_zeros {t t2 ty e : TypeId} {k0 : IntKind} {i : TypeInfo} {z : Value} (ht : P.underlying t = some (.slice e)) (ht2 : P.underlying t2 = some (.int k0)) (hg : tyGood P e = true) (hi : P.info? e = some i) (hz : i.zero = some z) (hby : i.bytes ≤ 131072) {k : IntKind} {a : Int}
    (h0 : 0 < a) (hm : a ≤ 1073741824) (hsz : 0 < tySize P (tyOf P e)) :
    (Builtin.append_ #[t, t2] ty #[.slice none 0 0, .int k a]).run P w =
      .ok (.slice (some ⟨w.heap.size, 0, none⟩) a.toNat (grownCap w a.toNat 0 e)) (w.drew.alloc (.cells (Builtin.zeroCells z.cells a.toNat ++ Builtin.zeroCells z.cells (grownCap w a.toNat 0 e - a.toNat)) e)) := by
  have hw : IntKind.i64.wrap a = a := by rw [IntKind.wrap_i64]; omega
  have hn : ¬ a < 0 := by omega
  have hn2 : ¬ a.toNat = 0 := by omega
  have hb2 : a * (i.bytes : Int) ≤ 1073741824 * 131072 := Int.mul_le_mul hm (by omega) (by omega) (by omega)
  have hb1 : a.toNat * i.bytes ≤ 1073741824 * 131072 := Nat.mul_le_mul (by omega) hby
  have h48 : ¬ (281474976710656 < a * (i.bytes : Int)) := by omega
  have hfit := growslice_fits (need := a.toNat) (old := 0) (by omega) (bytes := i.bytes) (by omega)
  have h48' : ¬ (281474976710656 < Builtin.nextslicecap a.toNat 0 * i.bytes) := by omega
  have h63' : ¬ (9223372036854775807 < (a.toNat : Int)) := by omega
  have hs : (sizeOf e).run P w = .ok (tySize P (tyOf P e)) w := tyGood.size hg w
  have hs0 : ¬ tySize P (tyOf P e) = 0 := by omega
  have hn3 : ¬ a ≤ 0 := by omega
  have hmx : ¬ 9223372036854775807 < max a 0 := by omega
  have hmu : ¬ a.toNat * tySize P (tyOf P e) = 0 := Nat.mul_ne_zero hn2 hs0
  have fc : (Builtin.firstCells (tySize P (tyOf P e)) 0 (.slice none 0 0)).run P w.drew = .ok #[] w.drew := run_firstCells_none w.drew _ _ _ _
  simp [Builtin.append_, asInt, asIntOf, run_underlying ht, run_underlying ht2, hs, typeInfo, zeroValue, hi, hz, hw, hn, hn2, hs0, hn3, hmx, hmu, h48, h48', h63', Question.forced, newRow, grownCap, fc]
theorem go_apz {d : Nat} {x x2 : Opd} {zd : D} {y y2 : Operand} {t t2 e : TypeId} {k0 : IntKind} {v : V} {u : Hp} {n : Nat} {zcs : List Value} (hr : Rel P E tys U s a w) (hU : ∀ h, s.next ≤ h → h < n → ¬ U h) (ho : o.op = .call { callee := .builtin .append, args := #[y, y2], argTypes := #[t, t2] }) (hd : o.dst = some d) (hlt : d < a.tmps.size)
    (hu : P.underlying t = some (.slice e)) (hu2 : P.underlying t2 = some (.int k0)) (hg : tyGood P e = true) (hz : zc P e = some zcs) (hzl : zcs.length = tySize P (tyOf P e)) (hzd : dOk P 20 e zd zcs = true) (hby : bytesOk P e = true) (hsz : 0 < tySize P (tyOf P e))
    (hc : opdOk E.ft tys (.o (.sl e)) y x = true) (hc2 : intOk E.ft tys y2 x2 = true) (hty : tys d = .o (.sl e))
    (he : eff (.apz d x zd x2) s.env s.g s.next = some (v, u, n)) : Goes P E tys U s o a w (s.after (some d) v u n) := by
  simp only [eff] at he
  split at he
  · rename_i k1 m1 hn0 hv1
    split at he
    · rename_i hbd
      injection he with he; injection he with h1 h2; injection h2 with h2 h3; subst h1 h2 h3
      obtain ⟨ρ, own, hb⟩ := hr
      have hx := opd_VT (P := P) (C := cx E w.heap own ρ) hc hb.env
      have hv := nil0 hx hn0
      obtain ⟨z, hz1, hz2, ie, hi1, hi2⟩ := zc.run hz w
      obtain ⟨kl, hkl⟩ := intOk.out hc2
      have e1 := opd_VT (P := P) (C := cx E w.heap own ρ) hkl hb.env
      rw [hv1] at e1
      have q1 := e1.int.2.1
      unfold mostLen at hbd
      have hbytes : ie.bytes ≤ 131072 := by
        unfold bytesOk at hby
        rw [hi1] at hby
        simpa using hby
      have hzs : z.cells.size = tySize P (tyOf P e) := by rw [← hz2] at hzl; simpa using hzl
      have hrun := append_zeros (P := P) (ty := o.type) (w := w) hu hu2 hg hi1 hi2 hbytes (k := k1) hbd.1 hbd.2 hsz
      have hcap := grownCap_ge w m1.toNat 0 e
      have hcapm := grownCap_le_maxLen w m1.toNat 0 e (by simp only [maxLen]; omega)
      generalize grownCap w m1.toNat 0 e = nc at *
      have hex : (execOp a.eval o).run P w = .ok (.value (.slice (some ⟨w.heap.size, 0, none⟩) m1.toNat nc)) (w.drew.alloc (.cells (Builtin.zeroCells z.cells m1.toNat ++ Builtin.zeroCells z.cells (nc - m1.toNat)) e)) := by
        simp [execOp, ho, resolve, invoke, builtin, hv, q1, hrun]
      have hsize : (Builtin.zeroCells z.cells m1.toNat ++ Builtin.zeroCells z.cells (nc - m1.toNat)).size = nc * tySize P (tyOf P e) := by
        simp only [Array.size_append, size_zeroCells, hzs, ← Nat.add_mul]
        congr 1
        omega
      have hfin := hb.newRow (w' := w.drew.alloc (.cells (Builtin.zeroCells z.cells m1.toNat ++ Builtin.zeroCells z.cells (nc - m1.toNat)) e)) (r := Builtin.zeroCells z.cells m1.toNat ++ Builtin.zeroCells z.cells (nc - m1.toNat)) (e := e) (ds := List.replicate m1.toNat zd) (cap := nc) (dh := none) rfl ⟨rfl, rfl, rfl⟩ (hU _ (Nat.le_refl _) (Nat.lt_succ_self _))
        (by rw [hsize]; exact Nat.le_refl _) (by simpa using hcap) hcapm (fun i dd hdd => by
          have hi := (List.getElem?_eq_some_iff.1 hdd).1
          rw [List.length_replicate] at hi
          have : dd = zd := by
            rw [List.getElem?_replicate, if_pos hi] at hdd
            injection hdd with hdd; exact hdd.symm
          subst this
          rw [Array.toList_append, seg_append_left (by
            have hp := mul_part (s := tySize P (tyOf P e)) hi
            have hl : (Builtin.zeroCells z.cells m1.toNat).toList.length = m1.toNat * tySize P (tyOf P e) := by simp [size_zeroCells, hzs]
            rw [hl]; exact hp)]
          have hseg := zeroCells_seg (z := z.cells) (n := m1.toNat) (i := i) hi
          rw [hzs] at hseg
          rw [hseg, hz2]
          exact dOk.out 20 e dd _ hzd) hlt hty
      refine .inl ⟨_, _, hex, ?_⟩
      rw [hd]
      simp only [List.length_replicate, dead, List.nil_append] at hfin
      exact ⟨_, _, hfin⟩
    · cases he
  · cases he

/-! ### A string as bytes -/
theorem go_tob {d : Nat} {x : Opd} {y : Operand} {src dst e : TypeId} {v : V} {u : Hp} {n : Nat} (hr : Rel P E tys U s a w) (ho : o.op = .convert src dst y) (hd : o.dst = some d) (hlt : d < a.tmps.size)
    (hs : P.underlying src = some .string) (hds : P.underlying dst = some (.slice e)) (he8 : P.underlying e = some (.int .u8)) (hc : opdOk E.ft tys (.o .s) y x = true) (hty : tys d = .o (.sl e))
    (he : eff (.tob d x) s.env s.g s.next = some (v, u, n)) : Goes P E tys U s o a w (s.after (some d) v u n) := by
  simp only [eff] at he
  split at he
  · rename_i l hv
    split at he
    · rename_i hl
      injection he with he; injection he with h1 h2; injection h2 with h2 h3; subst h1 h2 h3
      obtain ⟨ρ, own, hb⟩ := hr
      have hx := opd_VT (P := P) (C := cx E w.heap own ρ) hc hb.env
      rw [hv] at hx
      have q : a.eval y = .string ⟨l.toArray⟩ := by
        rcases (hx.vs rfl).str with k | ⟨l', k, _, q⟩
        · cases k
        · injection k with k; injection k with k; subst k; exact q
      have hrun := run_bytes_of_string (P := P) w src dst e ⟨l.toArray⟩ hs hds he8
      have hsz : (ByteArray.mk l.toArray).size = l.length := by simp [ByteArray.size]
      rw [hsz] at hrun
      unfold mostLen at hl
      have hcap := grownCap_ge w l.length 0 e
      have hcapm := grownCap_le_maxLen w l.length 0 e (by simp only [maxLen]; omega)
      generalize grownCap w l.length 0 e = nc at *
      have hex : (execOp a.eval o).run P w = .ok (.value (.slice (some ⟨w.heap.size, 0, none⟩) l.length nc)) _ := exec_run (f := convert src dst (a.eval y)) (by simp [execOp, ho]) (by rw [q]; exact hrun)
      generalize hfr : ((bytesRow ⟨l.toArray⟩ nc).size, (bytesRow ⟨l.toArray⟩ nc).size + 1) = fr at *
      have hrow : ∀ i, i < l.length → seg (bytesRow ⟨l.toArray⟩ nc).toList i 1 = [Value.int .u8 ((l.getD i 0).toNat : Int)] := by
        intro i hi
        apply List.ext_getElem?
        intro j
        rw [seg_getElem?]
        cases j with
        | zero =>
          rw [if_pos (by omega)]
          simp [bytesRow, List.getD, List.getElem?_append_left, hi, List.getElem?_eq_getElem hi]
        | succ j => simp
      have ety : tyOf P e = .i .u8 := by unfold tyOf; rw [he8]
      have ev : Evo w.heap (w.heap.push (.cells (bytesRow ⟨l.toArray⟩ nc) e fr)) own own ρ ρ (fun _ => False) := ⟨by simp, fun b hb' _ => by simp [Array.getElem?_push, Nat.ne_of_lt hb'], fun _ h => h.elim, fun _ h => .inl h, fun _ h _ => h, fun _ _ h => h⟩
      have e0 : U = addU U s.next s.next := addU_self.symm
      refine .inl ⟨_, _, hex, ?_⟩
      rw [hd]
      refine ⟨ρ, own, ?_⟩
      show RelB P E tys (addU U s.next s.next) _ _ _ ρ own
      refine hb.step (w' := w.drew.alloc (.cells (bytesRow ⟨l.toArray⟩ nc) e fr)) ev (Nat.le_refl _) ⟨rfl, rfl, rfl⟩ (u := []) (fun _ h => h.elim) (fun h L e => .inl e) (fun h x e => by simp [ulast] at e) (fun h h' x x' L L' b e => by simp [ulast] at e) (fun k hk => ?_)
      injection hk with hk; subst hk
      refine ⟨hlt, ?_⟩
      rw [hty]
      have hS : (cx E (w.heap.push (.cells (bytesRow ⟨l.toArray⟩ nc) e fr)) own ρ).S w.heap.size := ⟨by simp, fun ho => by have := (hb.heap.bnd _ ho).2; omega, fun hlt => absurd hlt (by have := hb.bsize; omega)⟩
      refine .mk (VS.of_single (.d ?_ rfl) rfl rfl)
      have hlen : (l.map fun b => D.int .u8 (b.toNat : Int)).length = l.length := by simp
      rw [← hlen]
      refine .slice (g := fun i => [Value.int .u8 ((l.getD i 0).toNat : Int)]) (by rw [hlen]; exact hcap) hcapm (fun _ => rfl) (fun _ => hS) (fun i hi => ?_) (fun i dd hdd => ?_)
      · rw [hlen] at hi
        refine ⟨bytesRow ⟨l.toArray⟩ nc, e, fr, (by show (w.heap.push _)[w.heap.size]? = _; simp), ?_, ?_⟩
        · rw [ety]
          simp only [tySize, bytesRow, Array.size_append, Array.size_map, Array.size_replicate, List.length_cons, List.length_nil]
          simp
          omega
        · rw [ety]
          simp only [tySize, Nat.zero_add, Nat.mul_one, List.length_cons, List.length_nil]
          exact hrow i hi
      · rw [ety]
        rw [List.getElem?_map, Option.map_eq_some_iff] at hdd
        obtain ⟨b, hb', rfl⟩ := hdd
        have : l.getD i 0 = b := by simp [List.getD, hb']
        simp only [this]
        refine .int ?_
        have := b.toNat_lt
        simp [Lit.wf, IntKind.min, IntKind.max, IntKind.signed, IntKind.bits]
        omega
    · cases he
  · cases he
end
end Go.Fw
namespace Go.Fw
open Go Go.RowKit
variable {P : Program}

def kindOf (tys : Nat → TTy) : Operand → Option IntKind
  | .tmp t => (match tys t with | .o (.i k) => some k | _ => none)
  | .const (.int k _) => some k
  | _ => none
def isShift (op : BinOp) : Bool := decide (op = .shl) || decide (op = .shr)
def isCmp (op : BinOp) : Bool := decide (op = .eql) || decide (op = .neq) || decide (op = .lss) || decide (op = .leq) || decide (op = .gtr) || decide (op = .geq)
variable (P) in
def binOk (ft : Nat → List Ty × List Ty × List (Nat × TypeId)) (tys : Nat → TTy) (d : Nat) (op : BinOp) (xt : TypeId) (y1 y2 : Operand) (x1 x2 : Opd) : Bool :=
  match kindOf tys y1, kindOf tys y2 with
  | some k, some k' => opdOk ft tys (.o (.i k)) y1 x1 && opdOk ft tys (.o (.i k')) y2 x2 && (if isShift op then decide (tys d = .o (.i k)) else if isCmp op then decide (tys d = .o .b) else decide (tys d = .o (.i k)))
  | _, _ => if op = .add then (match P.underlying xt with | some .string => opdOk ft tys (.o .s) y1 x1 && opdOk ft tys (.o .s) y2 x2 && decide (tys d = .o .s) | _ => false) else (decide (op = .eql) || decide (op = .neq)) && decide (tys d = .o .b) && (match P.underlying xt with
    | some .bool => opdOk ft tys (.o .b) y1 x1 && opdOk ft tys (.o .b) y2 x2
    | some .string => opdOk ft tys (.o .s) y1 x1 && opdOk ft tys (.o .s) y2 x2
    | some (.slice e) => (match y2, x2 with | .const (.slice none 0 0), .c (.d (.sl true [])) => opdOk ft tys (.o (.sl e)) y1 x1 | _, _ => false)
    | _ => decide (tyOf P xt = .ag xt) && P.keyTypeAt 20 xt && eqTy P 20 xt && !P.eqGuardType P.depth xt && opdOk ft tys (.o (.ag xt)) y1 x1 && opdOk ft tys (.o (.ag xt)) y2 x2)
variable (P) in
def bldOk (ft : Nat → List Ty × List Ty × List (Nat × TypeId)) (tys : Nat → TTy) (t : TypeId) (parts : Array (Nat × Operand)) (xs : List Opd) : Bool :=
  nodup (parts.toList.map (·.1)) && (match P.underlying t, zc P t with
  | some (.struct fs), some zcs => structOk P t fs && fs.all (fun f => tyGood P f.type) && decide (zcs.length = P.cellsOf t) && parts.toList.all (fun p => decide (p.1 < fs.size)) && decide (xs.length = fs.size) &&
      ((fs.toList.zip xs).zipIdx 0).all fun q => itemOk P ft tys parts.toList zcs q.2 q.1.1.type q.1.1.offset q.1.2
  | some (.array m e), some zcs => tyGood P e && decide (zcs.length = P.cellsOf t) && decide (P.cellsOf t = m * tySize P (tyOf P e)) && parts.toList.all (fun p => decide (p.1 < m)) && decide (xs.length = m) &&
      (xs.zipIdx 0).all fun q => itemOk P ft tys parts.toList zcs q.2 e (q.2 * tySize P (tyOf P e)) q.1
  | _, _ => false)
variable (P) in
def bslOk (ft : Nat → List Ty × List Ty × List (Nat × TypeId)) (tys : Nat → TTy) (e : TypeId) (len : Nat) (parts : Array (Nat × Operand)) (xs : List Opd) : Bool :=
  tyGood P e && decide (0 < tySize P (tyOf P e)) && decide (len * tySize P (tyOf P e) ≤ 16777216) && nodup (parts.toList.map (·.1)) && parts.toList.all (fun p => decide (p.1 < len)) && decide (xs.length = len) && (match zc P e with
  | some zcs => decide (zcs.length = tySize P (tyOf P e)) && (xs.zipIdx 0).all fun q => (match partOpd parts.toList q.2 with | some y => sized P ft tys e y q.1 | none => (match q.1 with | .c z => zOk P e z zcs | _ => false))
  | none => false)
variable (P) in
def mksOk (e : TypeId) (zd : D) : Bool := tyGood P e && bytesOk P e && (match zc P e with | some zcs => decide (zcs.length = tySize P (tyOf P e)) && dOk P 20 e zd zcs | none => false)
variable (P) in
def rowOk (e : TypeId) : Bool := tyGood P e && bytesOk P e && (match zc P e with | some zcs => decide (zcs.length = tySize P (tyOf P e)) | none => false)
variable (P) in
def callOk (ft : Nat → List Ty × List Ty × List (Nat × TypeId)) (tys : Nat → TTy) (c : Call) (i : KI) : Bool :=
  match c.callee, c.args.toList, c.argTypes.toList, i with
  | .builtin .len, [y], [t], .len d x => (match P.underlying t with | some (.slice e) => opdOk ft tys (.o (.sl e)) y x && decide (tys d = .o (.i .i64)) | _ => false)
  | .builtin .len, [_], [t], .mv d (.c (.int .i64 n)) => (match P.underlying t with | some (.array m _) => decide (n = m) && decide (tys d = .o (.i .i64)) && (Lit.int .i64 n).wf | _ => false)
  | .builtin .append, [y, y2], [t, t2], .app d x x2 => (match P.underlying t, P.underlying t2 with
    | some (.slice e), some (.slice e2) => decide (e = e2) && rowOk P e && opdOk ft tys (.o (.sl e)) y x && opdOk ft tys (.o (.sl e)) y2 x2 && decide (tys d = .o (.sl e))
    | _, _ => false)
  | .builtin .append, [y, y2], [t, t2], .apz d x zd x2 => (match P.underlying t, P.underlying t2 with
    | some (.slice e), some (.int _) => mksOk P e zd && decide (0 < tySize P (tyOf P e)) && opdOk ft tys (.o (.sl e)) y x && intOk ft tys y2 x2 && decide (tys d = .o (.sl e))
    | _, _ => false)
  | .builtin .cap, [y], [t], .cap d x => (match P.underlying t with | some (.slice e) => opdOk ft tys (.o (.sl e)) y x && decide (tys d = .o (.i .i64)) | _ => false)
  | .builtin .max, ys, _, .mx d xs => (match tys d with | .o (.i k) => opdsOk ft tys (.o (.i k)) ys xs | _ => false)
  | .builtin .min, ys, _, .mn d xs => (match tys d with | .o (.i k) => opdsOk ft tys (.o (.i k)) ys xs | _ => false)
  | .builtin .clear, [y], [t], .clr zd x => (match P.underlying t with | some (.slice e) => mksOk P e zd && opdOk ft tys (.o (.sl e)) y x | _ => false)
  | _, _, _, _ => false
variable (P) in
def opOk (ft : Nat → List Ty × List Ty × List (Nat × TypeId)) (tys : Nat → TTy) (op : Op) (i : KI) : Bool :=
  match op, i with
  | .move y, .mv d x => opdOk ft tys (tys d) y x
  | .assign y, .mv d x => opdOk ft tys (tys d) y x
  | .pick y0 y1 y2, .pick d x0 x1 x2 => opdOk ft tys (.o .b) y0 x0 && opdOk ft tys (tys d) y1 x1 && opdOk ft tys (tys d) y2 x2
  | .alloc t, .alc d z => zGood P t z && decide (tys d = .o (.pt t))
  | .box t y, .box d x => opdOk ft tys (.o (tyOf P t)) y x && decide (tys d = .o (.pt t))
  | .build t parts, .bld d xs => bldOk P ft tys t parts xs && decide (tys d = .o (.ag t))
  | .buildSlice t len parts, .bsl d xs => (match P.underlying t with | some (.slice e) => bslOk P ft tys e len parts xs && decide (tys d = .o (.sl e)) | _ => false)
  | .load t y, .ld d x => tyGood P t && opdOk ft tys (.o (.pt t)) y x && decide (tys d = .o (tyOf P t))
  | .store t y z, .st x x2 => tyGood P t && opdOk ft tys (.o (.pt t)) y x && opdOk ft tys (.o (tyOf P t)) z x2
  | .nilCheck y, .nck d x => opdOk ft tys (tys d) y x
  | .binOp op xt y1 y2 _, .bin d op' x1 x2 => decide (op = op') && binOk P ft tys d op xt y1 y2 x1 x2
  | .unOp op _ y, .un d op' x => decide (op = op') && (match tys d with | .o ty => opdOk ft tys (.o ty) y x | _ => false)
  | .convert src dst y, .cv d k x => intOk ft tys y x && decide (tys d = .o (.i k)) && (P.underlying src).isSome && (match P.underlying dst with | some (.int k') => decide (k' = k) | _ => false)
  | .convert src dst y, .tos d x => decide (tys d = .o .s) && (match P.underlying src with | some (.slice e) => (match P.underlying e, P.underlying dst with | some (.int .u8), some .string => opdOk ft tys (.o (.sl e)) y x | _, _ => false) | _ => false)
  | .convert src dst y, .tob d x => (match P.underlying src, P.underlying dst with | some .string, some (.slice e) => (match P.underlying e with | some (.int .u8) => opdOk ft tys (.o .s) y x && decide (tys d = .o (.sl e)) | _ => false) | _, _ => false)
  | .makeSlice t yl yc, .mks d zd xl xc => (match P.underlying t with | some (.slice e) => mksOk P e zd && intOk ft tys yl xl && intOk ft tys yc xc && decide (tys d = .o (.sl e)) | _ => false)
  | .slice t y lo' hi' none, .slc d x lo hi => (match P.underlying t with | some (.slice e) => tyGood P e && opdOk ft tys (.o (.sl e)) y x && optOk ft tys lo' lo && optOk ft tys hi' hi && decide (tys d = .o (.sl e)) | _ => false)
  | .fieldAddr t y n, .fa d x n' => decide (n = n') && (match P.underlying t with
    | some (.struct fs) => (match fs[n]? with | some f => tyGood P f.type && decide (0 < tySize P (tyOf P f.type)) && opdOk ft tys (.o (.pt t)) y x && decide (tys d = .o (.pt f.type)) | none => false)
    | _ => false)
  | .field t y n, .fd d x n' => decide (n = n') && (match P.underlying t with
    | some (.struct fs) => (match fs[n]? with | some f => tyGood P f.type && opdOk ft tys (.o (.ag t)) y x && decide (tys d = .o (tyOf P f.type)) | none => false)
    | _ => false)
  | .indexAddr t y iy, .ia d x ix => intOk ft tys iy ix && (match P.underlying t with
    | some (.slice e) => tyGood P e && opdOk ft tys (.o (.sl e)) y x && decide (tys d = .o (.pt e))
    | some (.array _ e) => tyGood P e && opdOk ft tys (.o (.pt t)) y x && decide (tys d = .o (.pt e))
    | _ => false)
  | .index t y iy, .ix d x ix => intOk ft tys iy ix && (match P.underlying t with
    | some (.array _ e) => tyGood P e && opdOk ft tys (.o (.ag t)) y x && decide (tys d = .o (tyOf P e))
    | _ => false)
  | .extract (.tmp t) n, .ex d x n' => decide (n = n') && (match tys t with | .t l => opdOk ft tys (.t l) (.tmp t) x && (match l[n]? with | some ty => decide (tys d = .o ty) | none => false) | _ => false)
  | .call c, i => callOk P ft tys c i
  | .makeMap t none, .mkm d => (match P.underlying t with | some (.map _ _) => decide (tys d = .o (.mp t)) | _ => false)
  | .lookup t ym yk ok, .lk d xm xk z ok' => decide (ok = ok') && (match P.underlying t with
    | some (.map kt et) => keyOk P kt && opdOk ft tys (.o (.mp t)) ym xm && opdOk ft tys (.o (tyOf P kt)) yk xk && zvOk P et z && decide (tys d = if ok then .t [tyOf P et, .b] else .o (tyOf P et))
    | _ => false)
  | .mapUpdate t ym yk yv, .mu xm xk xv => (match P.underlying t with
    | some (.map kt et) => keyOk P kt && opdOk ft tys (.o (.mp t)) ym xm && opdOk ft tys (.o (tyOf P kt)) yk xk && opdOk ft tys (.o (tyOf P et)) yv xv
    | _ => false)
  | .insert t ym yk yv, .mu xm xk xv => (match P.underlying t with
    | some (.map kt et) => keyOk P kt && opdOk ft tys (.o (.mp t)) ym xm && opdOk ft tys (.o (tyOf P kt)) yk xk && opdOk ft tys (.o (tyOf P et)) yv xv
    | _ => false)
  | .makeFunc (.func f) fs cs, .mkf d f' xs ys => decide (f = f') && mkfOk ft tys (tys d) f fs.toList cs.toList xs ys
  | _, .bad _ => true
  | _, _ => false

section
variable {E : Fr} {tys : Nat → TTy} {U : Nat → Prop} {s : St} {a : Act} {w : World} {o : Oper}
theorem go_binOk {d : Nat} {op : BinOp} {x1 x2 : Opd} {y1 y2 : Operand} {xt yt : TypeId} {v : V} {u : Hp} {n : Nat} (hr : Rel P E tys U s a w) (ho : o.op = .binOp op xt y1 y2 yt) (hd : o.dst = some d) (hlt : d < a.tmps.size)
    (h : binOk P E.ft tys d op xt y1 y2 x1 x2 = true) (he : eff (.bin d op x1 x2) s.env s.g s.next = some (v, u, n)) : Goes P E tys U s o a w (s.after (some d) v u n) := by
  unfold binOk at h
  split at h
  · rename_i k k' _ _
    simp only [Bool.and_eq_true] at h
    refine go_bin_int hr ho hd hlt h.1.1 h.1.2 ⟨fun hs => ?_, fun hs => ⟨fun hc => ?_, fun hc => ?_⟩⟩ he
    · have hs' : isShift op = true := by simp [isShift, hs]
      have := h.2
      rw [if_pos hs'] at this
      exact of_decide_eq_true this
    · have hs' : ¬ isShift op = true := by simp only [isShift, Bool.or_eq_true, decide_eq_true_eq]; exact hs
      have hc' : isCmp op = true := by rcases hc with rfl | rfl | rfl | rfl | rfl | rfl <;> rfl
      have := h.2
      rw [if_neg hs', if_pos hc'] at this
      exact of_decide_eq_true this
    · have hs' : ¬ isShift op = true := by simp only [isShift, Bool.or_eq_true, decide_eq_true_eq]; exact hs
      have hc' : ¬ isCmp op = true := by
        simp only [isCmp, Bool.or_eq_true, decide_eq_true_eq]
        intro hh
        apply hc
        rcases hh with ((((hh | hh) | hh) | hh) | hh) | hh
        · exact .inl hh
        · exact .inr (.inl hh)
        · exact .inr (.inr (.inl hh))
        · exact .inr (.inr (.inr (.inl hh)))
        · exact .inr (.inr (.inr (.inr (.inl hh))))
        · exact .inr (.inr (.inr (.inr (.inr hh))))
      have := h.2
      rw [if_neg hs', if_neg hc'] at this
      exact of_decide_eq_true this
  · split at h
    · rename_i hadd
      subst hadd
      split at h
      · simp only [Bool.and_eq_true, decide_eq_true_eq] at h
        exact go_bin_cat hr ho hd hlt h.1.1 h.1.2 h.2 he
      · cases h
    simp only [Bool.and_eq_true, Bool.or_eq_true, decide_eq_true_eq] at h
    obtain ⟨⟨hop, hty⟩, h⟩ := h
    split at h
    · rename_i hu
      simp only [Bool.and_eq_true] at h
      exact go_bin_bool hr ho hd hlt hop hu h.1 h.2 hty he
    · rename_i hu
      simp only [Bool.and_eq_true] at h
      exact go_bin_str hr ho hd hlt hop hu h.1 h.2 hty he
    · rename_i e hu
      split at h
      · exact go_bin_nil hr ho hd hlt hop hu h hty he
      · cases h
    · simp only [Bool.and_eq_true, decide_eq_true_eq, Bool.not_eq_true'] at h
      obtain ⟨⟨⟨⟨⟨h1, h2⟩, h3⟩, h4⟩, h5⟩, h6⟩ := h
      exact go_bin_ag hr ho hd hlt hop h1 h2 h3 h4 h5 h6 hty he

theorem go_bldOk {d : Nat} {xs : List Opd} {t : TypeId} {parts : Array (Nat × Operand)} {v : V} {u : Hp} {n : Nat} (hr : Rel P E tys U s a w) (ho : o.op = .build t parts) (hd : o.dst = some d) (hlt : d < a.tmps.size)
    (h : bldOk P E.ft tys t parts xs = true) (hty : tys d = .o (.ag t)) (he : eff (.bld d xs) s.env s.g s.next = some (v, u, n)) : Goes P E tys U s o a w (s.after (some d) v u n) := by
  simp only [bldOk, Bool.and_eq_true] at h
  obtain ⟨hn, h⟩ := h
  split at h
  · rename_i fs zcs hu hz
    simp only [Bool.and_eq_true, decide_eq_true_eq] at h
    obtain ⟨⟨⟨⟨⟨h1, h2⟩, h3⟩, h4⟩, h5⟩, h6⟩ := h
    refine go_bld_struct hr ho hd hlt hu h1 (Array.all_eq_true_iff_forall_mem.1 h2) hz h3 hn (fun p hp => of_decide_eq_true (List.all_eq_true.1 h4 p hp)) h5 (fun i f x hf hx => ?_) hty he
    have hzi : ((fs.toList.zip xs).zipIdx 0)[i]? = some ((f, x), i) := by
      rw [List.getElem?_zipIdx]
      have : (fs.toList.zip xs)[i]? = some (f, x) := by
        rw [List.getElem?_zip_eq_some]
        exact ⟨by simpa using hf, hx⟩
      rw [this]; simp
    exact List.all_eq_true.1 h6 _ (List.mem_of_getElem? hzi)
  · rename_i m e zcs hu hz
    simp only [Bool.and_eq_true, decide_eq_true_eq] at h
    obtain ⟨⟨⟨⟨⟨h1, h2⟩, h3⟩, h4⟩, h5⟩, h6⟩ := h
    refine go_bld_array hr ho hd hlt hu h1 hz h2 h3 hn (fun p hp => of_decide_eq_true (List.all_eq_true.1 h4 p hp)) h5 (fun i x hx => ?_) hty he
    have hzi : (xs.zipIdx 0)[i]? = some (x, i) := by
      rw [List.getElem?_zipIdx, hx]; simp
    exact List.all_eq_true.1 h6 _ (List.mem_of_getElem? hzi)
  · cases h

theorem go_bslOk {d : Nat} {xs : List Opd} {t e : TypeId} {len : Nat} {parts : Array (Nat × Operand)} {v : V} {u : Hp} {n : Nat} (hr : Rel P E tys U s a w) (hU : ∀ h, s.next ≤ h → h < n → ¬ U h) (ho : o.op = .buildSlice t len parts) (hd : o.dst = some d) (hlt : d < a.tmps.size)
    (hu : P.underlying t = some (.slice e)) (h : bslOk P E.ft tys e len parts xs = true) (hty : tys d = .o (.sl e)) (he : eff (.bsl d xs) s.env s.g s.next = some (v, u, n)) : Goes P E tys U s o a w (s.after (some d) v u n) := by
  simp only [bslOk, Bool.and_eq_true, decide_eq_true_eq] at h
  obtain ⟨⟨⟨⟨⟨⟨h1, h2⟩, h3⟩, h4⟩, h5⟩, h6⟩, h⟩ := h
  split at h
  · rename_i zcs hz
    simp only [Bool.and_eq_true, decide_eq_true_eq] at h
    refine go_bsl hr hU ho hd hlt hu h1 h2 hz h.1 h3 h4 (fun p hp => of_decide_eq_true (List.all_eq_true.1 h5 p hp)) h6 (fun i x hx => ?_) hty he
    have hzi : (xs.zipIdx 0)[i]? = some (x, i) := by
      rw [List.getElem?_zipIdx, hx]; simp
    have hh := List.all_eq_true.1 h.2 _ (List.mem_of_getElem? hzi)
    simp only at hh
    split
    · rename_i y hy
      rw [hy] at hh
      exact hh
    · rename_i hy
      rw [hy] at hh
      simp only at hh
      split at hh
      · rename_i z
        exact ⟨z, rfl, hh⟩
      · cases hh
  · cases h
theorem go_lenArr {d m : Nat} {y : Operand} {t e : TypeId} {v : V} {u : Hp} {n : Nat} (hr : Rel P E tys U s a w) (ho : o.op = .call { callee := .builtin .len, args := #[y], argTypes := #[t] }) (hd : o.dst = some d) (hlt : d < a.tmps.size)
    (hu : P.underlying t = some (.array m e)) (hty : tys d = .o (.i .i64)) (hw : (Lit.int .i64 m).wf = true) (he : eff (.mv d (.c (.int .i64 m))) s.env s.g s.next = some (v, u, n)) : Goes P E tys U s o a w (s.after (some d) v u n) := by
  simp only [eff] at he; injection he with he; injection he with h1 h2; injection h2 with h2 h3; subst h1 h2 h3
  refine Goes.pure hr (x := .int .i64 (m : Int)) ?_ hd hlt (fun ρ own hb => by rw [hty]; exact .mk (VS.mk_int hw))
  simp [execOp, ho, resolve, invoke, builtin, Builtin.len_, run_underlying hu, goInt]
end
end Go.Fw
namespace Go.Fw
open Go Go.RowKit
variable {P : Program}
section
variable {E : Fr} {tys : Nat → TTy} {U : Nat → Prop} {s : St} {a : Act} {w : World} {o : Oper}

theorem call_eq {c : Call} {b : Callee} {ys : List Operand} {ts : List TypeId} (h1 : c.callee = b) (h2 : c.args.toList = ys) (h3 : c.argTypes.toList = ts) : c = { callee := b, args := ys.toArray, argTypes := ts.toArray } := by
  cases c
  simp only at h1 h2 h3
  subst h1 h2 h3
  simp

theorem go_callOk {i : KI} {c : Call} {v : V} {u : Hp} {n : Nat} (hr : Rel P E tys U s a w) (hU : ∀ h, s.next ≤ h → h < n → ¬ U h) (ho : o.op = .call c) (hd : o.dst = i.dst) (hlt : ∀ d, i.dst = some d → d < a.tmps.size)
    (h : callOk P E.ft tys c i = true) (he : eff i s.env s.g s.next = some (v, u, n)) : Goes P E tys U s o a w (s.after i.dst v u n) := by
  unfold callOk at h
  split at h
  · rename_i y t d x h1 h2 h3
    have hc := call_eq h1 h2 h3
    subst hc
    split at h
    · rename_i e hu
      simp only [Bool.and_eq_true, decide_eq_true_eq] at h
      exact go_len hr ho hd (hlt d rfl) hu h.1 h.2 he
    · cases h
  · rename_i y t d n' h1 h2 h3
    have hc := call_eq h1 h2 h3
    subst hc
    split at h
    · rename_i m e hu
      simp only [Bool.and_eq_true, decide_eq_true_eq] at h
      obtain ⟨⟨rfl, h4⟩, h5⟩ := h
      exact go_lenArr hr ho hd (hlt d rfl) hu h4 h5 he
    · cases h
  · rename_i y y2 t t2 d x x2 h1 h2 h3
    have hc := call_eq h1 h2 h3
    subst hc
    split at h
    · rename_i e e2 hu hu2
      simp only [Bool.and_eq_true, decide_eq_true_eq, rowOk] at h
      obtain ⟨⟨⟨⟨rfl, ⟨⟨h4, h5⟩, h6⟩⟩, h7⟩, h8⟩, h9⟩ := h
      split at h6
      · rename_i zcs hz
        exact go_app hr hU ho hd (hlt d rfl) hu hu2 h4 hz (of_decide_eq_true h6) h5 h7 h8 h9 he
      · cases h6
    · cases h
  · rename_i y y2 t t2 d x zd x2 h1 h2 h3
    have hc := call_eq h1 h2 h3
    subst hc
    split at h
    · rename_i e k0 hu hu2
      simp only [Bool.and_eq_true, decide_eq_true_eq, mksOk] at h
      obtain ⟨⟨⟨⟨⟨⟨h4, h5⟩, h6⟩, h7⟩, h8⟩, h9⟩, h10⟩ := h
      split at h6
      · rename_i zcs hz
        simp only [Bool.and_eq_true, decide_eq_true_eq] at h6
        exact go_apz hr hU ho hd (hlt d rfl) hu hu2 h4 hz h6.1 h6.2 h5 h7 h8 h9 h10 he
      · cases h6
    · cases h
  · rename_i y t d x h1 h2 h3
    have hc := call_eq h1 h2 h3
    subst hc
    split at h
    · rename_i e hu
      simp only [Bool.and_eq_true, decide_eq_true_eq] at h
      exact go_cap hr ho hd (hlt d rfl) hu h.1 h.2 he
    · cases h
  · rename_i ys d xs h1
    split at h
    · rename_i k hk
      simp only [eff] at he
      split at he
      · rename_i v' hv
        injection he with he; injection he with e1 e2; injection e2 with e2 e3; subst e1 e2 e3
        exact go_most (gt := true) hr ho h1 hd (hlt d rfl) h hk hv
      · cases he
    · cases h
  · rename_i ys d xs h1
    split at h
    · rename_i k hk
      simp only [eff] at he
      split at he
      · rename_i v' hv
        injection he with he; injection he with e1 e2; injection e2 with e2 e3; subst e1 e2 e3
        exact go_most (gt := false) hr ho h1 hd (hlt d rfl) h hk hv
      · cases he
    · cases h
  · rename_i y t zd x h1 h2 h3
    have hc := call_eq h1 h2 h3
    subst hc
    split at h
    · rename_i e hu
      simp only [Bool.and_eq_true, mksOk] at h
      obtain ⟨⟨⟨h4, _⟩, h5⟩, h6⟩ := h
      split at h5
      · rename_i zcs hz
        simp only [Bool.and_eq_true, decide_eq_true_eq] at h5
        exact go_clr hr ho hd hu h4 hz h5.1 h5.2 h6 he
      · cases h5
    · cases h
  · cases h

theorem go_op {i : KI} {v : V} {u : Hp} {n : Nat} (hr : Rel P E tys U s a w) (hU : ∀ h, s.next ≤ h → h < n → ¬ U h) (hd : o.dst = i.dst) (hlt : ∀ d, i.dst = some d → d < a.tmps.size)
    (h : opOk P E.ft tys o.op i = true) (he : eff i s.env s.g s.next = some (v, u, n)) : Goes P E tys U s o a w (s.after i.dst v u n) := by
  generalize hop : o.op = op at h
  unfold opOk at h
  split at h
  · rename_i y d x
    exact go_mv hr (.inl hop) hd (hlt d rfl) h he
  · rename_i y d x
    exact go_mv hr (.inr hop) hd (hlt d rfl) h he
  · rename_i y0 y1 y2 d x0 x1 x2
    simp only [Bool.and_eq_true] at h
    exact go_pick hr hop hd (hlt d rfl) h.1.1 h.1.2 h.2 he
  · rename_i t d z
    simp only [Bool.and_eq_true, decide_eq_true_eq] at h
    exact go_alc hr hU hop hd (hlt d rfl) h.1 h.2 he
  · rename_i t y d x
    simp only [Bool.and_eq_true, decide_eq_true_eq] at h
    exact go_box hr hU hop hd (hlt d rfl) h.1 h.2 he
  · rename_i t parts d xs
    simp only [Bool.and_eq_true, decide_eq_true_eq] at h
    exact go_bldOk hr hop hd (hlt d rfl) h.1 h.2 he
  · rename_i t len parts d xs
    split at h
    · rename_i e hu
      simp only [Bool.and_eq_true, decide_eq_true_eq] at h
      exact go_bslOk hr hU hop hd (hlt d rfl) hu h.1 h.2 he
    · cases h
  · rename_i t y d x
    simp only [Bool.and_eq_true, decide_eq_true_eq] at h
    exact go_ld hr hop hd (hlt d rfl) h.1.1 h.1.2 h.2 he
  · rename_i t y z x x2
    simp only [Bool.and_eq_true] at h
    exact go_st hr hop hd h.1.1 h.1.2 h.2 he
  · rename_i y d x
    exact go_nck hr hop hd (hlt d rfl) h he
  · rename_i op' xt y1 y2 yt d op2 x1 x2
    simp only [Bool.and_eq_true, decide_eq_true_eq] at h
    obtain ⟨rfl, h⟩ := h
    exact go_binOk hr hop hd (hlt d rfl) h he
  · rename_i op' xt y d op2 x
    simp only [Bool.and_eq_true, decide_eq_true_eq] at h
    obtain ⟨rfl, h⟩ := h
    split at h
    · rename_i ty hty
      exact go_un hr hop hd (hlt d rfl) h hty he
    · cases h
  · rename_i src dst y d k x
    simp only [Bool.and_eq_true, decide_eq_true_eq] at h
    obtain ⟨⟨⟨h1, h2⟩, h3⟩, h4⟩ := h
    obtain ⟨k0, hk0⟩ := intOk.out h1
    split at h4
    · rename_i k' hk
      have := of_decide_eq_true h4
      subst this
      exact go_cv hr hop hd (hlt d rfl) hk0 h2 h3 hk he
    · cases h4
  · rename_i src dst y d x
    simp only [Bool.and_eq_true, decide_eq_true_eq] at h
    obtain ⟨h1, h2⟩ := h
    split at h2
    · rename_i e hs
      split at h2
      · rename_i he8 hds
        exact go_tos hr hop hd (hlt d rfl) hs he8 hds h2 h1 he
      · cases h2
    · cases h2
  · rename_i src dst y d x
    split at h
    · rename_i e hs hds
      split at h
      · rename_i he8
        simp only [Bool.and_eq_true, decide_eq_true_eq] at h
        exact go_tob hr hop hd (hlt d rfl) hs hds he8 h.1 h.2 he
      · cases h
    · cases h
  · rename_i t yl yc d zd xl xc
    split at h
    · rename_i e hu
      simp only [Bool.and_eq_true, decide_eq_true_eq, mksOk] at h
      obtain ⟨⟨⟨⟨⟨h1, h2⟩, h3⟩, h4⟩, h5⟩, h6⟩ := h
      split at h3
      · rename_i zcs hz
        simp only [Bool.and_eq_true, decide_eq_true_eq] at h3
        exact go_mks hr hU hop hd (hlt d rfl) hu h1 hz h3.1 h3.2 h2 h4 h5 h6 he
      · cases h3
    · cases h
  · rename_i t y lo' hi' d x lo hi
    split at h
    · rename_i e hu
      simp only [Bool.and_eq_true, decide_eq_true_eq] at h
      obtain ⟨⟨⟨⟨h1, h2⟩, h3⟩, h4⟩, h5⟩ := h
      exact go_slc hr hop hd (hlt d rfl) hu h1 h2 h3 h4 h5 he
    · cases h
  · rename_i t y m d x m'
    simp only [Bool.and_eq_true, decide_eq_true_eq] at h
    obtain ⟨rfl, h⟩ := h
    split at h
    · rename_i fs hu
      split at h
      · rename_i f hf
        simp only [Bool.and_eq_true, decide_eq_true_eq] at h
        obtain ⟨⟨⟨h1, h2⟩, h3⟩, h4⟩ := h
        exact go_fa hr hop hd (hlt d rfl) hu hf h1 h2 h3 h4 he
      · cases h
    · cases h
  · rename_i t y m d x m'
    simp only [Bool.and_eq_true, decide_eq_true_eq] at h
    obtain ⟨rfl, h⟩ := h
    split at h
    · rename_i fs hu
      split at h
      · rename_i f hf
        simp only [Bool.and_eq_true, decide_eq_true_eq] at h
        obtain ⟨⟨h1, h3⟩, h4⟩ := h
        exact go_fd hr hop hd (hlt d rfl) hu hf h1 h3 h4 he
      · cases h
    · cases h
  · rename_i t y iy d x ix
    simp only [Bool.and_eq_true] at h
    obtain ⟨h1, h⟩ := h
    obtain ⟨k0, hk0⟩ := intOk.out h1
    split at h
    · rename_i e hu
      simp only [Bool.and_eq_true, decide_eq_true_eq] at h
      exact go_ia_slice hr hop hd (hlt d rfl) hu h.1.1 h.1.2 hk0 h.2 he
    · rename_i m e hu
      simp only [Bool.and_eq_true, decide_eq_true_eq] at h
      exact go_ia_array hr hop hd (hlt d rfl) hu h.1.1 h.1.2 hk0 h.2 he
    · cases h
  · rename_i t y iy d x ix
    simp only [Bool.and_eq_true] at h
    obtain ⟨h1, h⟩ := h
    obtain ⟨k0, hk0⟩ := intOk.out h1
    split at h
    · rename_i m e hu
      simp only [Bool.and_eq_true, decide_eq_true_eq] at h
      exact go_ix hr hop hd (hlt d rfl) hu h.1.1 h.1.2 hk0 h.2 he
    · cases h
  · rename_i t m d x m'
    simp only [Bool.and_eq_true, decide_eq_true_eq] at h
    obtain ⟨rfl, h⟩ := h
    split at h
    · rename_i l hl
      simp only [Bool.and_eq_true] at h
      obtain ⟨h1, h2⟩ := h
      split at h2
      · rename_i ty hty
        exact go_ex hr hop hd (hlt d rfl) h1 hty (of_decide_eq_true h2) he
      · cases h2
    · cases h
  · rename_i c i
    exact go_callOk hr hU hop hd hlt h he
  · rename_i t d
    split at h
    · rename_i kt et hu
      exact go_mkm hr hU hop hd (hlt d rfl) hu (of_decide_eq_true h) he
    · cases h
  · rename_i t ym yk ok d xm xk z ok'
    simp only [Bool.and_eq_true, decide_eq_true_eq] at h
    obtain ⟨rfl, h⟩ := h
    split at h
    · rename_i kt et hu
      simp only [Bool.and_eq_true, decide_eq_true_eq] at h
      obtain ⟨⟨⟨⟨h1, h2⟩, h3⟩, h4⟩, h5⟩ := h
      obtain ⟨zv, hz1, hz2⟩ := zvOk.out h4
      exact go_lk hr hop hd (hlt d rfl) hu h1 h2 h3 hz1 hz2 h5 he
    · cases h
  · rename_i t ym yk yv xm xk xv
    split at h
    · rename_i kt et hu
      simp only [Bool.and_eq_true] at h
      exact go_mu hr (.inl hop) hd hu h.1.1.1 h.1.1.2 h.1.2 h.2 he
    · cases h
  · rename_i t ym yk yv xm xk xv
    split at h
    · rename_i kt et hu
      simp only [Bool.and_eq_true] at h
      exact go_mu hr (.inr hop) hd hu h.1.1.1 h.1.1.2 h.1.2 h.2 he
    · cases h
  · rename_i f fs cs d f' xs ys
    simp only [Bool.and_eq_true, decide_eq_true_eq] at h
    obtain ⟨rfl, h⟩ := h
    exact go_mkf hr hop hd (hlt d rfl) h he
  · simp [eff] at he
  · cases h
end
end Go.Fw
