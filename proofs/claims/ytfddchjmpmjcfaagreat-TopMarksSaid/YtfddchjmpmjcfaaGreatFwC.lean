/- Each operation that was checked does concretely what it does abstractly. No conditions. -/
import Derived.Test.YtfddchjmpmjcfaaGreatFwB
import Derived.Great.BuildSlice
import Derived.Laws.MakeOwn
import Derived.Laws.BytesString
set_option linter.unusedVariables false
set_option linter.unusedSimpArgs false
namespace Go.Fw
open Go Go.RowKit
variable {P : Program}

theorem elem_of {t e : TypeId} (hu : P.underlying t = some (.slice e)) : P.underlying t = some (.slice (P.elem t)) := by
  unfold Program.elem
  rw [hu]
theorem elem_eq {t e : TypeId} (hu : P.underlying t = some (.slice e)) : P.elem t = e := by
  have := elem_of hu
  rw [hu] at this
  injection this with this
  injection this with this
  exact this.symm
def intOk (ft : Nat → List Ty × List Ty × List (Nat × TypeId)) (tys : Nat → TTy) (y : Operand) (x : Opd) : Bool :=
  match y with
  | .tmp t => (match tys t with | .o (.i k) => opdOk ft tys (.o (.i k)) y x | _ => false)
  | .const (.int k _) => opdOk ft tys (.o (.i k)) y x
  | _ => false
theorem intOk.out {ft : Nat → List Ty × List Ty × List (Nat × TypeId)} {tys : Nat → TTy} {y : Operand} {x : Opd} (h : intOk ft tys y x = true) : ∃ k, opdOk ft tys (.o (.i k)) y x = true := by
  unfold intOk at h
  split at h
  · split at h
    · exact ⟨_, h⟩
    · cases h
  · exact ⟨_, h⟩
  · cases h
def optOk (ft : Nat → List Ty × List Ty × List (Nat × TypeId)) (tys : Nat → TTy) : Option Operand → Option Opd → Bool
  | none, none => true
  | some y, some x => intOk ft tys y x
  | _, _ => false

/-- The data that a slice of somebody else's holds. -/
theorem Asl.data {H : Array Obj} {S : Nat → Prop} {C : Ctx} (hH : C.H = H) (hS : C.S = S) (hF : ∀ b, C.F b → S b) {e : TypeId} {n : Bool} {l : List D} {v : Value} (h : Asl P C e n l v) : RD P H S (.sl e) (.sl n l) [v] := by
  subst hH hS
  rcases h with ⟨rfl, rfl, rfl⟩ | ⟨rfl, b, o, cap, sp, g, rfl, h1, h2, h3, h4, h5, h6⟩
  · exact .nil
  · exact .slice h1 h2 h3 (fun k => hF _ (h4 k)) h5 h6
theorem RD.asl {C : Ctx} (hF : C.F = C.S) {e : TypeId} {n : Bool} {l : List D} {v : Value} (h : RD P C.H C.S (.sl e) (.sl n l) [v]) : Asl P C e n l v := by
  cases h with
  | nil => exact .inl ⟨rfl, rfl, rfl⟩
  | slice h1 h2 h3 h4 h5 h6 => exact .inr ⟨rfl, _, _, _, _, _, rfl, h1, h2, h3, by rw [hF]; exact h4, h5, h6⟩

theorem run_slc {w : World} {t e : TypeId} (hu : P.underlying t = some (.slice e)) (hg : tyGood P e = true) {ad : Option Addr} {len cap : Nat} {lo hi : Option Int} {ylo yhi : Option Value} (hlo : ∀ z, lo = some z → ∃ k, ylo = some (.int k z)) (hlo' : lo = none → ylo = none)
    (hhi : ∀ z, hi = some z → ∃ k, yhi = some (.int k z)) (hhi' : hi = none → yhi = none) (h0 : 0 ≤ lo.getD 0) (h1 : lo.getD 0 ≤ hi.getD len) (h2 : hi.getD len ≤ len) (h3 : len ≤ cap) :
    (Instr.sliceAt t (.slice ad len cap) ylo yhi none).run P w = .ok (.slice (if cap = (lo.getD 0).toNat then ad else ad.map (·.add ((lo.getD 0).toNat * tySize P (tyOf P e)))) ((hi.getD len).toNat - (lo.getD 0).toNat) (cap - (lo.getD 0).toNat)) w := by
  have hu' := elem_of hu
  rw [run_sliceAt_slice w t _ _ _ _ hu']
  have hsz : (sizeOf (P.elem t)).run P w = .ok (tySize P (tyOf P e)) w := by rw [elem_eq hu]; exact tyGood.size hg w
  cases lo with
  | none =>
    rw [hlo' rfl]
    simp only [Option.getD_none] at h0 h1 h2 ⊢
    cases hi with
    | none =>
      rw [hhi' rfl, run_slice_all w t ad len cap hu', hsz]
      simp [Result.andThen, sliced]
    | some z =>
      obtain ⟨k, hk⟩ := hhi z rfl
      simp only [Option.getD_some] at h1 h2 ⊢
      rw [hk, run_slice_h w t ad len cap hu' k z (by omega) (by omega), hsz]
      simp [Result.andThen, sliced]
  | some y =>
    obtain ⟨ky, hky⟩ := hlo y rfl
    rw [hky]
    simp only [Option.getD_some] at h0 h1 h2 ⊢
    cases hi with
    | none =>
      simp only [Option.getD_none] at h1 h2 ⊢
      rw [hhi' rfl, run_slice_l w t ad len cap hu' ky y h0 h1, hsz]
      simp [Result.andThen, sliced]
    | some z =>
      obtain ⟨k, hk⟩ := hhi z rfl
      simp only [Option.getD_some] at h1 h2 ⊢
      rw [hk, run_slice_lh w t ad len cap hu' ky k y z h0 h1 (by omega), hsz]
      simp [Result.andThen, sliced]

theorem Sl.piece {C : Ctx} {e : TypeId} {nl : Bool} {h off len0 : Nat} {ad : Option Addr} {len cap : Nat} (hs : Sl P C e nl h off len0 (.slice ad len cap)) {lo hi : Nat} (h1 : lo ≤ hi) (h2 : hi ≤ len0) :
    len = len0 ∧ len ≤ cap ∧ Sl P C e nl h (off + lo) (hi - lo) (.slice (if cap = lo then ad else ad.map (·.add (lo * tySize P (tyOf P e)))) (hi - lo) (cap - lo)) := by
  obtain ⟨L, k1, k2, k3, k4⟩ := hs
  rcases k4 with ⟨hn, rfl, hv⟩ | ⟨hn, a, cap', hv, q1, q2, q3⟩
  · injection hv with a1 a2 a3; subst a1 a2 a3
    have : lo = 0 := by omega
    subst this
    have : hi = 0 := by omega
    subst this
    exact ⟨rfl, by omega, L, k1, k2, k3, .inl ⟨hn, rfl, rfl⟩⟩
  · injection hv with a1 a2 a3; subst a1 a2 a3
    refine ⟨rfl, q1, L, k1, k2, k3, .inr ⟨hn, if cap = lo then a else a.add (lo * tySize P (tyOf P e)), cap - lo, ?_, by omega, by omega, ?_⟩⟩
    · split <;> simp
    · by_cases hc : cap = lo
      · exact .inl (by omega)
      · right
        rcases q3 with q3 | ⟨b, m1, m2, m3⟩
        · omega
        · refine ⟨b, m1, ?_, ?_⟩
          · rw [if_neg hc, m2, Addr.add_lit, Nat.add_mul, Nat.add_assoc]
          · have : off + lo + (cap - lo) = off + cap := by omega
            rw [this]; exact m3

section
variable {E : Fr} {tys : Nat → TTy} {U : Nat → Prop} {s : St} {a : Act} {w : World} {o : Oper}

theorem optV_run {lo' : Option Operand} {lo : Option Opd} (hr : Rel P E tys U s a w) (hlo : optOk E.ft tys lo' lo = true) {l : Option Int} (hl : optV s.env lo = some l) : (∀ z, l = some z → ∃ k, lo'.map a.eval = some (.int k z)) ∧ (l = none → lo'.map a.eval = none) := by
  obtain ⟨ρ0, own0, hb0⟩ := id hr
  unfold optOk at hlo
  split at hlo
  · simp only [optV] at hl; injection hl with hl; subst hl
    exact ⟨fun z h => (by cases h), fun _ => rfl⟩
  · rename_i y x
    obtain ⟨k, hk⟩ := intOk.out hlo
    have hv := opd_VT (P := P) (C := cx E w.heap own0 ρ0) hk hb0.env
    simp only [optV] at hl
    split at hl
    · rename_i k' n hx
      injection hl with hl; subst hl
      rw [hx] at hv
      refine ⟨fun z h => ?_, fun h => (by cases h)⟩
      injection h with h; subst h
      exact ⟨k', by simp [hv.int.2.1]⟩
    · cases hl
  · cases hlo

theorem go_slc {d : Nat} {x : Opd} {y : Operand} {t e : TypeId} {lo' hi' : Option Operand} {lo hi : Option Opd} {v : V} {u : Hp} {n : Nat} (hr : Rel P E tys U s a w) (ho : o.op = .slice t y lo' hi' none) (hd : o.dst = some d) (hlt : d < a.tmps.size)
    (hu : P.underlying t = some (.slice e)) (hg : tyGood P e = true) (hc : opdOk E.ft tys (.o (.sl e)) y x = true) (hlo : optOk E.ft tys lo' lo = true) (hhi : optOk E.ft tys hi' hi = true) (hty : tys d = .o (.sl e))
    (he : eff (.slc d x lo hi) s.env s.g s.next = some (v, u, n)) : Goes P E tys U s o a w (s.after (some d) v u n) := by
  simp only [eff] at he
  split at he
  · rename_i l h hl hh
    split at he
    · rename_i v' hv
      injection he with he; injection he with h1 h2; injection h2 with h2 h3; subst h1 h2 h3
      obtain ⟨p1, p2⟩ := optV_run hr hlo hl
      obtain ⟨p3, p4⟩ := optV_run hr hhi hh
      have key : ∀ ρ own, RelB P E tys U s a w ρ own → ∃ ad len cap, a.eval y = .slice ad len cap ∧ 0 ≤ l.getD 0 ∧ l.getD 0 ≤ h.getD len ∧ h.getD len ≤ len ∧ len ≤ cap ∧
          VS P (cx E w.heap own ρ) (.sl e) v' (.slice (if cap = (l.getD 0).toNat then ad else ad.map (·.add ((l.getD 0).toNat * tySize P (tyOf P e)))) ((h.getD len).toNat - (l.getD 0).toNat) (cap - (l.getD 0).toNat)) := by
        intro ρ own hb
        have hy := opd_VT (P := P) (C := cx E w.heap own ρ) hc hb.env
        unfold sliceV at hv
        split at hv
        · cases hv
        · rename_i m hm
          simp only at hv
          split at hv
          · rename_i hbd
            have hmn : m = ((m.toNat : Nat) : Int) := by
              unfold lenV at hm
              split at hm <;> first | (injection hm with hm; subst hm; simp) | cases hm
            have e1 : (h.getD m - l.getD 0).toNat = (h.getD m).toNat - (l.getD 0).toNat := by omega
            have e2 : (l.getD 0).toNat ≤ (h.getD m).toNat := by omega
            rw [e1] at hv
            split at hv
            · rename_i nl hh0 off len0 hx
              injection hv with hv; subst hv
              rw [hx] at hy hm
              simp only [lenV] at hm; injection hm with hm; subst hm
              obtain ⟨e', q1, q2⟩ := (hy.vs rfl).sl
              injection q1 with q1; subst q1
              obtain ⟨ad, len, cap, hval⟩ : ∃ ad len cap, a.eval y = .slice ad len cap := by
                obtain ⟨L, _, _, _, ⟨_, _, q⟩ | ⟨_, _, _, q, _⟩⟩ := q2
                · exact ⟨_, _, _, q⟩
                · exact ⟨_, _, _, q⟩
              rw [hval] at q2
              obtain ⟨r1, r2, r3⟩ := q2.piece e2 (by omega)
              subst r1
              exact ⟨ad, len, cap, hval, hbd.1, hbd.2.1, hbd.2.2, r2, VS.of_single (.sl r3) rfl rfl⟩
            · rename_i nl l' hx
              injection hv with hv; subst hv
              rw [hx] at hy hm
              simp only [lenV] at hm; injection hm with hm; subst hm
              obtain ⟨e', q1, q2⟩ := (hy.vs rfl).asl
              injection q1 with q1; subst q1
              obtain ⟨ad, len, cap, hval⟩ : ∃ ad len cap, a.eval y = .slice ad len cap := by
                rcases q2 with ⟨_, _, q⟩ | ⟨_, b, oo, cap, sp, g, q, _⟩
                · exact ⟨_, _, _, q⟩
                · exact ⟨_, _, _, q⟩
              rw [hval] at q2
              obtain ⟨r1, r2, r3, r4⟩ := q2.piece e2 (by omega)
              subst r1
              exact ⟨ad, l'.length, cap, hval, hbd.1, hbd.2.1, hbd.2.2, r2, VS.of_single (.asl r4) rfl rfl⟩
            · rename_i nl l' hx
              injection hv with hv; subst hv
              rw [hx] at hy hm
              simp only [lenV] at hm; injection hm with hm; subst hm
              have hvs := hy.vs rfl
              obtain ⟨e', q1, _⟩ := hvs.dsl
              injection q1 with q1; subst q1
              obtain ⟨g1, g2, g3⟩ := hvs
              rw [g3 rfl] at g1
              have g4 := RD.asl (C := { cx E w.heap own ρ with F := (cx E w.heap own ρ).S }) rfl g1.d_inv
              obtain ⟨ad, len, cap, hval⟩ : ∃ ad len cap, a.eval y = .slice ad len cap := by
                rcases g4 with ⟨_, _, q⟩ | ⟨_, b, oo, cap, sp, g, q, _⟩
                · exact ⟨_, _, _, q⟩
                · exact ⟨_, _, _, q⟩
              rw [hval] at g4
              obtain ⟨r1, r2, r3, r4⟩ := g4.piece e2 (by omega)
              subst r1
              exact ⟨ad, l'.length, cap, hval, hbd.1, hbd.2.1, hbd.2.2, r2, VS.of_single (.d (r4.data rfl rfl (fun _ h => h)) rfl) rfl rfl⟩
            · cases hv
          · cases hv
      obtain ⟨ρ0, own0, hb0⟩ := id hr
      obtain ⟨ad, len, cap, m1, m2, m3, m4, m5, _⟩ := key ρ0 own0 hb0
      refine Goes.pure hr (exec_run (f := Instr.sliceAt t (a.eval y) (lo'.map a.eval) (hi'.map a.eval) none) (by simp [execOp, ho]) (by rw [m1]; exact run_slc hu hg p1 p2 p3 p4 m2 m3 m4 m5)) hd hlt (fun ρ own hb => ?_)
      obtain ⟨ad', len', cap', q1, _, _, _, _, q⟩ := key ρ own hb
      rw [m1] at q1
      injection q1 with z1 z2 z3; subst z1 z2 z3
      rw [hty]; exact .mk q
    · cases he
  · cases he

theorem run_part_VR {t : TypeId} (hg : tyGood P t = true) {cs : Array Value} {off : Nat} (hl : off + tySize P (tyOf P t) ≤ cs.size) {C : Ctx} {v : V} (hv : VR P C (tyOf P t) v (seg cs.toList off (tySize P (tyOf P t)))) :
    ∃ x, (part t cs off).run P w = .ok x w ∧ VS P C (tyOf P t) v x := by
  have hne : tyOf P t ≠ .no := by
    simp only [tyGood, Bool.and_eq_true, decide_eq_true_eq] at hg
    exact hg.1.2
  cases hag : (tyOf P t).isAg with
  | true =>
    have htt : ∃ t', tyOf P t = .ag t' := by
      cases h : tyOf P t <;> simp [h, Ty.isAg] at hag
      exact ⟨_, rfl⟩
    refine ⟨.agg (cs.extract off (off + tySize P (tyOf P t))), ?_, ?_⟩
    · simp only [part, Sem.run_bind, tyGood.agg hg w, hag, Result.andThen_ok, if_true, tyGood.size hg w, Sem.run_pure]
    · obtain ⟨t', ht'⟩ := htt
      rw [ht'] at hv ⊢
      refine VS.of_agg ?_
      have : (cs.extract off (off + tySize P (.ag t'))).toList = seg cs.toList off (tySize P (.ag t')) := by
        simp [seg]
      rw [this]
      exact hv
  | false =>
    have hs : tySize P (tyOf P t) = 1 := by cases h : tyOf P t <;> simp_all [tySize, Ty.isAg]
    rw [hs] at hl hv
    have hi : off < cs.size := by omega
    have hseg : seg cs.toList off 1 = [cs[off]] := by
      apply List.ext_getElem?
      intro j
      rw [seg_getElem?]
      cases j with
      | zero => simp [hi]
      | succ j => simp
    rw [hseg] at hv
    refine ⟨cs[off], ?_, VS.of_single hv hag (hv.one _ (by simp))⟩
    simp only [part, Sem.run_bind, tyGood.agg hg w, hag, Result.andThen_ok, Bool.false_eq_true, if_false]
    simp [hi]

theorem go_fd {d i : Nat} {x : Opd} {y : Operand} {t : TypeId} {fs : Array Field} {f : Field} {v : V} {u : Hp} {n : Nat} (hr : Rel P E tys U s a w) (ho : o.op = .field t y i) (hd : o.dst = some d) (hlt : d < a.tmps.size)
    (hu : P.underlying t = some (.struct fs)) (hf : fs[i]? = some f) (hg : tyGood P f.type = true) (hc : opdOk E.ft tys (.o (.ag t)) y x = true) (hty : tys d = .o (tyOf P f.type))
    (he : eff (.fd d x i) s.env s.g s.next = some (v, u, n)) : Goes P E tys U s o a w (s.after (some d) v u n) := by
  simp only [eff] at he
  split at he
  · rename_i v' hv
    injection he with he; injection he with h1 h2; injection h2 with h2 h3; subst h1 h2 h3
    have key : ∀ ρ own, RelB P E tys U s a w ρ own → ∃ cs z, a.eval y = .agg cs ∧ (part f.type cs f.offset).run P w = .ok z w ∧ VS P (cx E w.heap own ρ) (tyOf P f.type) v' z := by
      intro ρ own hb
      have hy := opd_VT (P := P) (C := cx E w.heap own ρ) hc hb.env
      have hne : (val s.env x).isUnd = false := V.notUnd (fun e => by rw [e] at hv; simp [partV, V.at] at hv) (fun l e => by rw [e] at hv; simp [partV, V.at] at hv)
      obtain ⟨cs, q1, q2⟩ := (hy.vs hne).ag
      have hl := q2.len.resolve_left (V.ne_und hne)
      obtain ⟨r1, r2⟩ := q2.at (.field hu hf .nil) hl hv
      simp only [Nat.add_zero] at r1 r2
      obtain ⟨z, z1, z2⟩ := run_part_VR (w := w) hg (by simpa using r2) r1
      exact ⟨cs, z, q1, z1, z2⟩
    obtain ⟨ρ0, own0, hb0⟩ := id hr
    obtain ⟨cs, z, m1, m2, _⟩ := key ρ0 own0 hb0
    refine Goes.pure hr (x := z) (exec_run (f := Instr.field t (a.eval y) i) (by simp [execOp, ho]) ?_) hd hlt (fun ρ own hb => ?_)
    · simp only [Instr.field, Sem.run_bind, run_underlying hu w, Result.andThen_ok, hf, m1, asAgg, Sem.run_pure, m2]
    · obtain ⟨cs', z', q1, q2, q3⟩ := key ρ own hb
      rw [m1] at q1
      injection q1 with q1; subst q1
      rw [m2] at q2
      injection q2 with q2; subst q2
      rw [hty]; exact .mk q3
  · cases he

theorem go_ix {d : Nat} {x ix : Opd} {y iy : Operand} {t e : TypeId} {m0 : Nat} {k0 : IntKind} {v : V} {u : Hp} {n : Nat} (hr : Rel P E tys U s a w) (ho : o.op = .index t y iy) (hd : o.dst = some d) (hlt : d < a.tmps.size)
    (hu : P.underlying t = some (.array m0 e)) (hg : tyGood P e = true) (hc : opdOk E.ft tys (.o (.ag t)) y x = true) (hci : opdOk E.ft tys (.o (.i k0)) iy ix = true) (hty : tys d = .o (tyOf P e))
    (he : eff (.ix d x ix) s.env s.g s.next = some (v, u, n)) : Goes P E tys U s o a w (s.after (some d) v u n) := by
  simp only [eff] at he
  split at he
  · rename_i k1 j hij
    split at he
    · rename_i hj0
      split at he
      · rename_i v' hv
        injection he with he; injection he with h1 h2; injection h2 with h2 h3; subst h1 h2 h3
        have key : ∀ ρ own, RelB P E tys U s a w ρ own → ∃ cs z, a.eval y = .agg cs ∧ j < (m0 : Int) ∧ (part e cs (j.toNat * tySize P (tyOf P e))).run P w = .ok z w ∧ VS P (cx E w.heap own ρ) (tyOf P e) v' z := by
          intro ρ own hb
          have hy := opd_VT (P := P) (C := cx E w.heap own ρ) hc hb.env
          have hne : (val s.env x).isUnd = false := V.notUnd (fun e => by rw [e] at hv; simp [partV, V.at] at hv) (fun l e => by rw [e] at hv; simp [partV, V.at] at hv)
          obtain ⟨cs, q1, q2⟩ := (hy.vs hne).ag
          have hl := q2.len.resolve_left (V.ne_und hne)
          have hlt' : j.toNat < m0 := by
            cases hX : val s.env x <;> rw [hX] at q2 hv <;> first | (cases q2; done) | skip
            case d dd =>
              cases q2 with
              | d q _ =>
                cases q with
                | struct k1 => rw [hu] at k1; cases k1
                | array k1 k0 k2 k3 k4 =>
                  rw [hu] at k1
                  obtain ⟨rfl, rfl⟩ := array_inj k1
                  rw [← k3]
                  simp only [partV, V.at, D.at] at hv
                  split at hv
                  · rename_i q' hq'
                    split at hq'
                    · rename_i w' hw'; exact (List.getElem?_eq_some_iff.1 hw').1
                    · cases hq'
                  · cases hv
            case agg l =>
              cases q2 with
              | struct k1 => rw [hu] at k1; cases k1
              | array k1 k0 k2 k3 k4 =>
                rw [hu] at k1
                obtain ⟨rfl, rfl⟩ := array_inj k1
                rw [← k3]
                simp only [partV, V.at] at hv
                split at hv
                · rename_i w' hw'; exact (List.getElem?_eq_some_iff.1 hw').1
                · cases hv
            case und => exact absurd hX (V.ne_und hne)
          obtain ⟨r1, r2⟩ := q2.at (.elem hu hlt' .nil) hl hv
          simp only [Nat.add_zero] at r1 r2
          obtain ⟨z, z1, z2⟩ := run_part_VR (w := w) hg (by simpa using r2) r1
          exact ⟨cs, z, q1, by omega, z1, z2⟩
        obtain ⟨ρ0, own0, hb0⟩ := id hr
        have hiv := opd_VT (P := P) (C := cx E w.heap own0 ρ0) hci hb0.env
        rw [hij] at hiv
        obtain ⟨cs, z, m1, m2, m3, _⟩ := key ρ0 own0 hb0
        refine Goes.pure hr (x := z) (exec_run (f := Instr.index t (a.eval y) (a.eval iy)) (by simp [execOp, ho]) ?_) hd hlt (fun ρ own hb => ?_)
        · simp only [Instr.index, hiv.int.2.1, asIntOf, Sem.run_bind, Sem.run_pure, Result.andThen_ok, run_underlying hu w, m1, hj0, m2, and_self, if_true, tyGood.size hg, m3]
        · obtain ⟨cs', z', q1, q2, q3, q4⟩ := key ρ own hb
          rw [m1] at q1
          injection q1 with q1; subst q1
          rw [m3] at q3
          injection q3 with q3; subst q3
          rw [hty]; exact .mk q4
      · cases he
    · cases he
  · cases he

def opdsOk (ft : Nat → List Ty × List Ty × List (Nat × TypeId)) (tys : Nat → TTy) (tt : TTy) : List Operand → List Opd → Bool
  | [], [] => true
  | y :: ys, x :: xs => opdOk ft tys tt y x && opdsOk ft tys tt ys xs
  | _, _ => false
theorem opds_get {tt : TTy} : ∀ {ys : List Operand} {xs : List Opd}, opdsOk E.ft tys tt ys xs = true → ys.length = xs.length ∧ ∀ (i : Nat) (y : Operand) (x : Opd), ys[i]? = some y → xs[i]? = some x → opdOk E.ft tys tt y x = true
  | [], [], _ => ⟨rfl, fun i y x h => by simp at h⟩
  | y :: ys, x :: xs, h => by
    simp only [opdsOk, Bool.and_eq_true] at h
    obtain ⟨h1, h2⟩ := opds_get h.2
    refine ⟨by simp [h1], fun i y' x' a b => ?_⟩
    cases i with
    | zero => simp at a b; subst a b; exact h.1
    | succ i => exact h2 i y' x' (by simpa using a) (by simpa using b)
  | [], _ :: _, h => by simp [opdsOk] at h
  | _ :: _, [], h => by simp [opdsOk] at h

theorem go_most {d : Nat} {gt : Bool} {xs : List Opd} {c : Call} {k : IntKind} {v : V} (hr : Rel P E tys U s a w) (ho : o.op = .call c) (hcal : c.callee = .builtin (if gt then .max else .min)) (hd : o.dst = some d) (hlt : d < a.tmps.size)
    (hc : opdsOk E.ft tys (.o (.i k)) c.args.toList xs = true) (hty : tys d = .o (.i k)) (hv : maxV gt (xs.map (val s.env)) = some v) : Goes P E tys U s o a w (s.after (some d) v [] s.next) := by
  obtain ⟨ρ0, own0, hb0⟩ := id hr
  obtain ⟨hl, hget⟩ := opds_get hc
  unfold maxV at hv
  split at hv
  · rename_i k' m l hx
    cases xs with
    | nil => simp at hx
    | cons x0 xs =>
      simp only [List.map_cons] at hx
      injection hx with hx0 hxl
      cases hys : c.args.toList with
      | nil => rw [hys] at hl; simp at hl
      | cons y0 ys =>
        rw [hys] at hl hget
        have hv0 := opd_VT (P := P) (C := cx E w.heap own0 ρ0) (hget 0 y0 x0 rfl rfl) hb0.env
        rw [hx0] at hv0
        have hk : k = k' := by have := hv0.int.1; injection this with this; injection this
        subst hk
        obtain ⟨r, r1, r2, r3⟩ := mostV_run (P := P) (w := w) (gt := gt) l (ys.map a.eval) m v hv0.int.2.2 (fun i v x h1 h2 k' z e => by
          subst hxl
          rw [List.getElem?_map, Option.map_eq_some_iff] at h1 h2
          obtain ⟨x1, g1, rfl⟩ := h1
          obtain ⟨y1, g2, rfl⟩ := h2
          have hvv := opd_VT (P := P) (C := cx E w.heap own0 ρ0) (hget (i + 1) y1 x1 (by simpa using g2) (by simpa using g1)) hb0.env
          rw [e] at hvv
          exact hvv.int.2) (by subst hxl; simp at hl ⊢; omega) hv
        subst r2
        refine Goes.pure hr (x := .int k r) ?_ hd hlt (fun ρ own hb => by rw [hty]; exact .mk (VS.mk_int r3))
        have hargs : (c.args.map a.eval).toList = .int k m :: ys.map a.eval := by simp [hys, hv0.int.2.1]
        have hfold : (Builtin.max_ c.argTypes o.type (c.args.map a.eval)).run P w = .ok (.int k r) w → gt = true → (execOp a.eval o).run P w = .ok (.value (.int k r)) w := by
          intro h1 h2
          subst h2
          simp [execOp, ho, resolve, hcal, invoke, builtin, h1]
        have hfold' : (Builtin.min_ c.argTypes o.type (c.args.map a.eval)).run P w = .ok (.int k r) w → gt = false → (execOp a.eval o).run P w = .ok (.value (.int k r)) w := by
          intro h1 h2
          subst h2
          simp [execOp, ho, resolve, hcal, invoke, builtin, h1]
        cases gt with
        | true => exact hfold (by simp only [Builtin.max_, hargs]; exact r1) rfl
        | false => exact hfold' (by simp only [Builtin.min_, hargs]; exact r1) rfl
  · cases hv
end
end Go.Fw
namespace Go.Fw
open Go Go.RowKit
variable {P : Program}

/-! ### Checks -/
variable (P) in
def packed : Nat → List Field → Nat → Bool
  | o, [], n => decide (o = n)
  | o, f :: fs, n => decide (f.offset = o) && packed (o + tySize P (tyOf P f.type)) fs n
theorem packed.le : ∀ {fs : List Field} {o n : Nat}, packed P o fs n = true → o ≤ n
  | [], o, n, h => by simp [packed] at h; omega
  | f :: fs, o, n, h => by
    simp only [packed, Bool.and_eq_true, decide_eq_true_eq] at h
    have := packed.le h.2
    omega
theorem packed.get : ∀ {fs : List Field} {o n : Nat}, packed P o fs n = true → ∀ (i : Nat) (f : Field), fs[i]? = some f → o ≤ f.offset ∧ f.offset + tySize P (tyOf P f.type) ≤ n
  | [], o, n, _, i, f, hf => by simp at hf
  | g :: fs, o, n, h, i, f, hf => by
    simp only [packed, Bool.and_eq_true, decide_eq_true_eq] at h
    cases i with
    | zero => simp at hf; subst hf; have := packed.le h.2; omega
    | succ i => have := packed.get h.2 i f (by simpa using hf); omega
theorem packed.apart : ∀ {fs : List Field} {o n : Nat}, packed P o fs n = true → ∀ (i j : Nat) (f g : Field), i < j → fs[i]? = some f → fs[j]? = some g → f.offset + tySize P (tyOf P f.type) ≤ g.offset
  | [], o, n, _, i, j, f, g, _, hf, _ => by simp at hf
  | a :: fs, o, n, h, i, j, f, g, hij, hf, hg => by
    simp only [packed, Bool.and_eq_true, decide_eq_true_eq] at h
    cases j with
    | zero => omega
    | succ j =>
      cases i with
      | zero => simp at hf; subst hf; have := (packed.get h.2 j g (by simpa using hg)).1; omega
      | succ i => exact packed.apart h.2 i j f g (by omega) (by simpa using hf) (by simpa using hg)
theorem packed.cover : ∀ {fs : List Field} {o n : Nat}, packed P o fs n = true → ∀ j, o ≤ j → j < n → ∃ (i : Nat) (f : Field), fs[i]? = some f ∧ f.offset ≤ j ∧ j < f.offset + tySize P (tyOf P f.type)
  | [], o, n, h, j, h1, h2 => by simp [packed] at h; omega
  | a :: fs, o, n, h, j, h1, h2 => by
    simp only [packed, Bool.and_eq_true, decide_eq_true_eq] at h
    by_cases hj : j < o + tySize P (tyOf P a.type)
    · exact ⟨0, a, rfl, by omega, by omega⟩
    · obtain ⟨i, f, k1, k2⟩ := packed.cover h.2 j (by omega) h2
      exact ⟨i + 1, f, by simpa using k1, k2⟩
variable (P) in
def structOk (t : TypeId) (fs : Array Field) : Bool := packed P 0 fs.toList (P.cellsOf t)
theorem structOk.out {t : TypeId} {fs : Array Field} (h : structOk P t fs = true) : StructOk P t fs := by
  refine ⟨fun i f hf => (packed.get h i f (by simpa using hf)).2, fun i j f g hij hf hg => packed.apart h i j f g hij (by simpa using hf) (by simpa using hg), fun j hj => ?_⟩
  obtain ⟨i, f, k1, k2⟩ := packed.cover h j (Nat.zero_le _) hj
  exact ⟨i, f, by simpa using k1, k2⟩
variable (P) in
/-- Data of these cells, without memory. -/
def dOk : Nat → TypeId → D → List Value → Bool
  | 0, _, _, _ => false
  | m + 1, t, d, cs => match P.underlying t, d with
    | some .bool, .bool b => (match cs with | [.bool b'] => b == b' | _ => false)
    | some (.int k), .int k' n => (match cs with | [.int k'' n'] => decide (k' = k) && decide (k'' = k) && decide (n = n') && (Lit.int k n).wf | _ => false)
    | some .string, .str l => (match cs with | [.string s] => decide (s.data.toList = l) && decide (l.length ≤ maxLen) | _ => false)
    | some (.slice _), .sl true [] => (match cs with | [.slice none 0 0] => true | _ => false)
    | some (.struct fs), .agg ds => structOk P t fs && decide (cs.length = P.cellsOf t) && decide (ds.length = fs.size) &&
        (fs.toList.zip ds).all fun x => dOk m x.1.type x.2 (seg cs x.1.offset (tySize P (tyOf P x.1.type)))
    | some (.array n e), .agg ds => decide (P.cellsOf t = n * tySize P (tyOf P e)) && decide (cs.length = P.cellsOf t) && decide (ds.length = n) &&
        (ds.zipIdx 0).all fun x => dOk m e x.1 (seg cs (x.2 * tySize P (tyOf P e)) (tySize P (tyOf P e)))
    | _, _ => false
theorem dOk.out {H : Array Obj} {S : Nat → Prop} : ∀ (m : Nat) (t : TypeId) (d : D) (cs : List Value), dOk P m t d cs = true → RD P H S (tyOf P t) d cs
  | 0, _, _, _, h => by simp [dOk] at h
  | m + 1, t, d, cs, h => by
    unfold dOk at h
    split at h
    · rename_i b hu
      simp only [tyOf, hu]
      split at h
      · rename_i b'
        have : b = b' := by simpa using h
        subst this
        exact .bool
      · cases h
    · rename_i k k' n hu
      simp only [tyOf, hu]
      split at h
      · simp only [Bool.and_eq_true, decide_eq_true_eq] at h
        obtain ⟨⟨⟨rfl, rfl⟩, rfl⟩, hw⟩ := h
        exact .int hw
      · cases h
    · rename_i l hu
      simp only [tyOf, hu]
      split at h
      · rename_i s
        simp only [Bool.and_eq_true, decide_eq_true_eq] at h
        obtain ⟨rfl, hl⟩ := h
        have e : (Value.string s) = .string ⟨s.data.toList.toArray⟩ := by cases s; simp
        rw [e]
        exact .str hl
      · cases h
    · rename_i e hu
      simp only [tyOf, hu]
      split at h
      · exact .nil
      · cases h
    · rename_i fs ds hu
      rw [tyOf_struct hu]
      simp only [Bool.and_eq_true, decide_eq_true_eq] at h
      obtain ⟨⟨⟨h1, h2⟩, h3⟩, h4⟩ := h
      refine .struct hu (structOk.out h1) h2 h3 (fun i f d hf hd => ?_)
      have hz : (fs.toList.zip ds)[i]? = some (f, d) := by
        rw [List.getElem?_zip_eq_some]
        exact ⟨by simpa using hf, hd⟩
      exact dOk.out m f.type d _ (List.all_eq_true.1 h4 (f, d) (List.mem_of_getElem? hz))
    · rename_i n e ds hu
      rw [tyOf_array hu]
      simp only [Bool.and_eq_true, decide_eq_true_eq] at h
      obtain ⟨⟨⟨h1, h2⟩, h3⟩, h4⟩ := h
      refine .array hu h1 h2 h3 (fun i d hd => ?_)
      have hz : (ds.zipIdx 0)[i]? = some (d, i) := by simp [hd]
      exact dOk.out m e d _ (List.all_eq_true.1 h4 (d, i) (List.mem_of_getElem? hz))
    · cases h
variable (P) in
/-- What a constant of K stands for. -/
def zOk (t : TypeId) (v : V) (cs : List Value) : Bool :=
  match v with
  | .und => cs.all (·.oneCell')
  | .int k n => dOk P 1 t (.int k n) cs
  | .bool b => dOk P 1 t (.bool b) cs
  | .d x => !(tyOf P t).plain && dOk P 20 t x cs
  | _ => false
theorem zOk.out {C : Ctx} {t : TypeId} {v : V} {cs : List Value} (h : zOk P t v cs = true) : VR P C (tyOf P t) v cs := by
  unfold zOk at h
  split at h
  · exact .und (List.all_eq_true.1 h)
  · exact ofD_VR (x := .int _ _) (dOk.out 1 t _ cs h)
  · exact ofD_VR (x := .bool _) (dOk.out 1 t _ cs h)
  · simp only [Bool.and_eq_true, Bool.not_eq_true'] at h
    exact .d (dOk.out 20 t _ cs h.2) h.1
  · cases h

/-! ### Parts -/
theorem fill_one {cells : Array Value} {off : Nat} {v : Value} (h : off + v.cells.size ≤ cells.size) : (v.cells.zipIdx.foldl (fun cs (c, j) => cs.setIfInBounds (off + j) c) cells).toList = splice cells.toList off v.cells.toList := by
  have e : v.cells.zipIdx.foldl (fun cs (c, j) => cs.setIfInBounds (off + j) c) cells = (v.cells.toList.zipIdx 0).foldl (fun cs (x : Value × Nat) => cs.setIfInBounds (off + x.2) x.1) cells := by
    rw [← Array.foldl_toList, Array.toList_zipIdx]
  rw [e]
  obtain ⟨g1, g2⟩ := Great.foldl_set off v.cells.toList 0 cells
  apply List.ext_getElem?
  intro k
  rw [splice_getElem? (by simpa using h), Array.getElem?_toList, g2 k]
  simp only [Nat.add_zero, Array.length_toList, Array.getElem?_toList]
  by_cases hk : off ≤ k ∧ k < off + v.cells.size
  · rw [if_pos ⟨hk.1, hk.2, by omega⟩, if_pos hk]
  · rw [if_neg (by omega), if_neg hk]
def partAt : List (Nat × Value) → Nat → Option Value
  | [], _ => none
  | (j, v) :: l, i => if j = i then some v else partAt l i
theorem fill_get {place : Nat → Option (Nat × Nat)} (hdis : ∀ i j oi si oj sj, i ≠ j → place i = some (oi, si) → place j = some (oj, sj) → oi + si ≤ oj ∨ oj + sj ≤ oi) :
    ∀ (parts : List (Nat × Value)) (cells : Array Value), nodup (parts.map (·.1)) = true → (∀ p ∈ parts, ∃ o s, place p.1 = some (o, s) ∧ p.2.cells.size = s ∧ o + s ≤ cells.size) →
    ∃ r, Instr.fill place cells parts = some r ∧ r.size = cells.size ∧ ∀ i o s, place i = some (o, s) → o + s ≤ cells.size → seg r.toList o s = match partAt parts i with | some v => v.cells.toList | none => seg cells.toList o s
  | [], cells, _, _ => ⟨cells, rfl, rfl, fun i o s _ _ => rfl⟩
  | (j, v) :: parts, cells, hn, h => by
    simp only [List.map_cons, nodup, Bool.and_eq_true, Bool.not_eq_true'] at hn
    obtain ⟨o, s, h1, h2, h3⟩ := h (j, v) (by simp)
    simp only at h1 h2
    subst h2
    have hsp := fill_one (cells := cells) (off := o) (v := v) h3
    generalize hc : v.cells.zipIdx.foldl (fun cs (c, j) => cs.setIfInBounds (o + j) c) cells = cells' at hsp
    have hsz : cells'.size = cells.size := by
      have := congrArg List.length hsp
      rw [splice_length (by simpa using h3)] at this
      simpa using this
    obtain ⟨r, r1, r2, r3⟩ := fill_get hdis parts cells' hn.2 (fun p hp => by rw [hsz]; exact h p (List.mem_cons_of_mem _ hp))
    refine ⟨r, ?_, by rw [r2, hsz], fun i oi si hi hle => ?_⟩
    · unfold Instr.fill
      simp only [h1]
      rw [if_neg (by simp; omega)]
      rw [← r1, ← hc]
    · rw [r3 i oi si hi (by rw [hsz]; exact hle), hsp]
      simp only [partAt]
      by_cases hij : j = i
      · subst hij
        rw [if_pos rfl]
        have hnp : partAt parts j = none := by
          have hcn : (parts.map (·.1)).contains j = false := hn.1
          clear r3 r1 hn h
          induction parts with
          | nil => rfl
          | cons p ps ih =>
            simp only [List.map_cons, List.contains_cons, Bool.or_eq_false_iff] at hcn
            simp only [partAt]
            rw [if_neg (by have := hcn.1; simp at this; omega)]
            exact ih hcn.2
        rw [hnp]
        rw [h1] at hi; injection hi with hi; injection hi with e1 e2; subst e1 e2
        have := seg_splice_same (c := cells.toList) (x := v.cells.toList) (o := o) (by simpa using h3)
        simpa using this
      · rw [if_neg hij]
        cases partAt parts i with
        | some v' => rfl
        | none =>
          simp only
          rw [seg_splice_apart (by simpa using h3)]
          rcases hdis i j oi si o v.cells.size (Ne.symm hij) hi h1 with k | k
          · exact .inl k
          · exact .inr (by simpa using k)

/-! ### New blocks -/
def newOwn (own : Nat → Prop) (b : Nat) : Nat → Prop := fun x => own x ∨ x = b
def newLoc (ρ : Nat → Option Loc) (n : Nat) (L : Loc) : Nat → Option Loc := fun h => if h = n then some L else ρ h
theorem HRel.noLoc {E : Fr} {g : Nat → Option Blk} {U : Nat → Prop} {H : Array Obj} {ρ : Nat → Option Loc} {own : Nat → Prop} (hr : HRel P E g U H ρ own) {n : Nat} (hU : ¬ U n) : ρ n = none := by
  cases h : ρ n with
  | none => rfl
  | some L => exact absurd (hr.fresh n L h) hU
theorem HRel.own_of {E : Fr} {g : Nat → Option Blk} {U : Nat → Prop} {H : Array Obj} {ρ : Nat → Option Loc} {own : Nat → Prop} (hr : HRel P E g U H ρ own) {h : Nat} {x : Blk} {L : Loc} {b : Nat} (hg : g h = some x) (ho : x.owns = true) (hL : ρ h = some L) (hb : L.blk = some b) : own b := by
  have hx := hr.blk h x hg
  cases x with
  | dead => cases ho
  | box v =>
    obtain ⟨L', b', _, k1, k2, _, k4, _⟩ := hx
    have k1 : ρ h = some L' := k1
    rw [hL] at k1; injection k1 with k1; subst k1
    rw [hb] at k2; injection k2 with k2; subst k2
    exact k4
  | row o l =>
    obtain ⟨L', k1, _, k3⟩ := hx
    have k1 : ρ h = some L' := k1
    rw [hL] at k1; injection k1 with k1; subst k1
    rcases k3 with ⟨_, k3⟩ | ⟨b', c, te, k4, k5, k6, k7, k8, _⟩
    · rw [hb] at k3; cases k3
    · rw [hb] at k4; injection k4 with k4; subst k4
      cases o with
      | true => exact k8
      | false => cases ho
  | mp l =>
    obtain ⟨L', b', _, _, _, _, k1, k2, k3, _⟩ := hx
    have k1 : ρ h = some L' := k1
    rw [hL] at k1; injection k1 with k1; subst k1
    rw [hb] at k2; injection k2 with k2; subst k2
    exact k3

section
variable {E : Fr} {tys : Nat → TTy} {U : Nat → Prop} {s : St} {a : Act} {w : World} {o : Oper}
theorem Evo.alloc {H : Array Obj} {own : Nat → Prop} {ρ : Nat → Option Loc} {n : Nat} (hf : ρ n = none) (L : Loc) (ob : Obj) : Evo H (H.push ob) own (newOwn own H.size) ρ (newLoc ρ n L) (fun _ => False) where
  size := by simp
  same := fun b hb _ => by simp [Array.getElem?_push, Nat.ne_of_lt hb]
  xOwn := fun _ h => h.elim
  mine := fun b hb => by rcases hb with h | h; exact .inl h; exact .inr (by subst h; simp)
  keep := fun b hb _ => .inl hb
  locs := fun h L' e => by unfold newLoc; rw [if_neg (fun hh => by rw [hh, hf] at e; cases e)]; exact e
/-- One new block, under the next handle. -/
theorem RelB.new {w' : World} {ρ : Nat → Option Loc} {own : Nat → Prop} (hr : RelB P E tys U s a w ρ own) (hU : ¬ U s.next) {ob : Obj} (hw : w'.heap = w.heap.push ob) (hos : w'.os = w.os ∧ w'.tape = w.tape ∧ w'.output = w.output) {L : Loc} {bk : Blk}
    (hL : L.blk = some w.heap.size)
    (hbr : BR P (cx E w'.heap (newOwn own w.heap.size) (newLoc ρ s.next L)) (newOwn own w.heap.size) s.next bk) {d : Option Nat} {v : V} {x : Value}
    (hd : ∀ k, d = some k → k < a.tmps.size ∧ VT P (cx E w'.heap (newOwn own w.heap.size) (newLoc ρ s.next L)) (tys k) v x) :
    RelB P E tys (addU U s.next (s.next + 1)) (s.after d v [(s.next, bk)] (s.next + 1)) (a.put d x) w' (newLoc ρ s.next L) (newOwn own w.heap.size) := by
  have ev : Evo w.heap w'.heap own (newOwn own w.heap.size) ρ (newLoc ρ s.next L) (fun _ => False) := by rw [hw]; exact Evo.alloc (hr.heap.noLoc hU) L ob
  refine hr.step ev (Nat.le_succ _) hos (fun _ h => h.elim) (fun h L' e => ?_) (fun h y e => ?_) (fun h h' y y' L1 L2 b e1 o1 e2 b1 e3 b2 o2 hh => ?_) hd
  · unfold newLoc at e
    split at e
    · rename_i hn; subst hn; exact .inr ⟨Nat.le_refl _, Nat.lt_succ_self _⟩
    · exact .inl e
  · simp only [ulast] at e
    split at e
    · rename_i hn; subst hn; injection e with e; subst e; exact hbr
    · cases e
  · simp only [ulast] at e1
    split at e1
    · rename_i hn; subst hn
      unfold newLoc at e2 e3
      rw [if_pos rfl] at e2
      injection e2 with e2; subst e2
      rw [hL] at b1; injection b1 with b1; subst b1
      by_cases hn : h' = s.next
      · exact hn.symm
      · exfalso
        rw [if_neg hn] at e3
        have hg : s.g h' = some y' := by
          rcases hh with hh | hh
          · simp only [ulast] at hh
            rw [if_neg (Ne.symm hn)] at hh
            cases hh
          · exact hh.2
        have := (hr.heap.bnd _ (hr.heap.own_of hg o2 e3 b2)).2
        omega
    · cases e1
end
end Go.Fw
namespace Go.Fw
open Go Go.RowKit
variable {P : Program}

variable (P) in
/-- The cells of a type's zero. -/
def zc (t : TypeId) : Option (List Value) := ((P.info? t).bind (·.zero)).map (·.cells.toList)
theorem zc.run {t : TypeId} {cs : List Value} (h : zc P t = some cs) (w : World) : ∃ z : Value, (zeroValue t).run P w = .ok z w ∧ z.cells.toList = cs ∧ ∃ i, P.info? t = some i ∧ i.zero = some z := by
  unfold zc at h
  rw [Option.map_eq_some_iff] at h
  obtain ⟨z, h1, h2⟩ := h
  rw [Option.bind_eq_some_iff] at h1
  obtain ⟨i, h3, h4⟩ := h1
  exact ⟨z, by simp [zeroValue, typeInfo, h3, h4], h2, i, h3, h4⟩
variable (P) in
/-- A zero of a good type. -/
def zGood (t : TypeId) (v : V) : Bool := match zc P t with | some cs => tyGood P t && decide (cs.length = tySize P (tyOf P t)) && zOk P t v cs | none => false

section
variable {E : Fr} {tys : Nat → TTy} {U : Nat → Prop} {s : St} {a : Act} {w : World} {o : Oper}

def boxLoc (b : Nat) (t : TypeId) : Loc := { blk := some b, row := false, off := 0, size := 0, ty := t }
/-- A new variable. -/
theorem go_var {d : Nat} {t : TypeId} {v : V} {x : Value} (hr : Rel P E tys U s a w) (hU : ¬ U s.next) (hrun : (execOp a.eval o).run P w = .ok (.value (.pointer (some ⟨w.heap.size, 0, none⟩))) (w.alloc (.cells x.cells t))) (hd : o.dst = some d) (hlt : d < a.tmps.size) (hty : tys d = .o (.pt t))
    (hl : x.cells.toList.length = tySize P (tyOf P t)) (hv : ∀ ρ own, RelB P E tys U s a w ρ own → VR P (cx E w.heap own ρ) (tyOf P t) v x.cells.toList) :
    Goes P E tys U s o a w (s.after (some d) (.ptr s.next []) [(s.next, .box v)] (s.next + 1)) := by
  obtain ⟨ρ, own, hb⟩ := hr
  refine .inl ⟨_, _, hrun, newLoc ρ s.next (boxLoc w.heap.size t), newOwn own w.heap.size, ?_⟩
  rw [hd]
  have le := (Evo.alloc (H := w.heap) (own := own) (hb.heap.noLoc hU) (boxLoc w.heap.size t) (.cells x.cells t)).le (E := E)
  have hn : newLoc ρ s.next (boxLoc w.heap.size t) s.next = some (boxLoc w.heap.size t) := by simp [newLoc]
  refine hb.new hU (ob := .cells x.cells t) (L := boxLoc w.heap.size t) (w' := w.alloc (.cells x.cells t)) rfl ⟨rfl, rfl, rfl⟩ rfl ?_ (fun k hk => ?_)
  · refine ⟨_, _, x.cells, hn, rfl, rfl, .inr rfl, ?_, ?_, (hv ρ own hb).mono le⟩
    · show (w.heap.push _)[w.heap.size]? = _
      simp [boxLoc]
    · show x.cells.size = tySize P (tyOf P t)
      simpa using hl
  · injection hk with hk; subst hk
    refine ⟨hlt, ?_⟩
    rw [hty]
    exact .mk (VS.of_single (.ptr ⟨_, _, 0, hn, rfl, rfl, .inl ⟨rfl, .nil⟩⟩) rfl rfl)

theorem go_alc {d : Nat} {z : V} {t : TypeId} {v : V} {u : Hp} {n : Nat} (hr : Rel P E tys U s a w) (hU : ∀ h, s.next ≤ h → h < n → ¬ U h) (ho : o.op = .alloc t) (hd : o.dst = some d) (hlt : d < a.tmps.size) (hz : zGood P t z = true) (hty : tys d = .o (.pt t))
    (he : eff (.alc d z) s.env s.g s.next = some (v, u, n)) : Goes P E tys U s o a w (s.after (some d) v u n) := by
  simp only [eff] at he; injection he with he; injection he with h1 h2; injection h2 with h2 h3; subst h1 h2 h3
  unfold zGood at hz
  split at hz
  · rename_i cs hcs
    simp only [Bool.and_eq_true, decide_eq_true_eq] at hz
    obtain ⟨x, hx, rfl, _⟩ := zc.run hcs w
    exact go_var hr (hU _ (Nat.le_refl _) (Nat.lt_succ_self _)) (x := x) (exec_run (f := Instr.alloc t true (.tuple #[])) (by simp [execOp, ho]) (by simp [Instr.alloc, hx, newVar, newRow])) hd hlt hty hz.1.2 (fun ρ own _ => zOk.out hz.2)
  · cases hz

theorem go_box {d : Nat} {x : Opd} {y : Operand} {t : TypeId} {v : V} {u : Hp} {n : Nat} (hr : Rel P E tys U s a w) (hU : ∀ h, s.next ≤ h → h < n → ¬ U h) (ho : o.op = .box t y) (hd : o.dst = some d) (hlt : d < a.tmps.size) (hc : opdOk E.ft tys (.o (tyOf P t)) y x = true) (hty : tys d = .o (.pt t))
    (he : eff (.box d x) s.env s.g s.next = some (v, u, n)) : Goes P E tys U s o a w (s.after (some d) v u n) := by
  simp only [eff] at he
  split at he
  · cases he
  · rename_i hund
    have hne : (val s.env x).isUnd = false := by simpa using hund
    injection he with he; injection he with h1 h2; injection h2 with h2 h3; subst h1 h2 h3
    obtain ⟨ρ0, own0, hb0⟩ := id hr
    have key : ∀ ρ own, RelB P E tys U s a w ρ own → VS P (cx E w.heap own ρ) (tyOf P t) (val s.env x) (a.eval y) := fun ρ own hb => (opd_VT (P := P) (C := cx E w.heap own ρ) hc hb.env).vs hne
    have h0 := key ρ0 own0 hb0
    exact go_var hr (hU _ (Nat.le_refl _) (Nat.lt_succ_self _)) (x := a.eval y) (exec_run (f := Instr.box t (a.eval y)) (by simp [execOp, ho]) (by simp [Instr.box, newVar, newRow])) hd hlt hty (h0.1.len.resolve_left (V.ne_und hne)) (fun ρ own hb => (key ρ own hb).1)

/-! ### Building -/
/-- The part number i of what is built. -/
def partOpd : List (Nat × Operand) → Nat → Option Operand
  | [], _ => none
  | (j, y) :: l, i => if j = i then some y else partOpd l i
theorem partAt_map {parts : List (Nat × Operand)} {f : Operand → Value} {i : Nat} : partAt (parts.map fun (i, x) => (i, f x)) i = (partOpd parts i).map f := by
  induction parts with
  | nil => rfl
  | cons p ps ih =>
    obtain ⟨j, y⟩ := p
    simp only [List.map_cons, partAt, partOpd]
    split
    · rfl
    · exact ih
/-- Operands whose size is known. -/
def sized (P : Program) (ft : Nat → List Ty × List Ty × List (Nat × TypeId)) (tys : Nat → TTy) (t : TypeId) (y : Operand) (x : Opd) : Bool :=
  opdOk ft tys (.o (tyOf P t)) y x && (match x with | .c .und => (match y with | .const c => decide (c.cells.size = tySize P (tyOf P t)) && c.cells.all (·.oneCell') | _ => false) | _ => true)
theorem sized.out {t : TypeId} {y : Operand} {x : Opd} {C : Ctx} {e : Env} (h : sized P C.ft tys t y x = true) (henv : ∀ i, VT P C (tys i) (look e i) (a.tmps.getD i undef)) (hu : ∀ n, x = .t n → (look e n).isUnd = false) :
    (a.eval y).cells.size = tySize P (tyOf P t) ∧ VR P C (tyOf P t) (val e x) (a.eval y).cells.toList := by
  simp only [sized, Bool.and_eq_true] at h
  have hv := opd_VT (P := P) (C := C) h.1 henv
  cases hx : (val e x).isUnd with
  | true => cases x with
    | t n => exact absurd hx (by rw [show val e (.t n) = look e n from rfl, hu n rfl]; simp)
    | c z =>
      have hz : z.isUnd = true := hx
      have h2 := h.2
      have hzu : z = .und := by
        cases z <;> first | rfl | (cases hz; done) | skip
        simp only [opdOk] at h
        cases y <;> simp [constOk] at h
      subst hzu
      cases y with
      | const c =>
        simp only [Bool.and_eq_true, decide_eq_true_eq] at h2
        refine ⟨h2.1, .und (fun c' hc' => ?_)⟩
        have hm : c' ∈ c.cells := by simpa [Act.eval] using hc'
        exact Array.all_eq_true_iff_forall_mem.1 h2.2 c' hm
      | tmp _ => simp at h2
      | func _ => simp at h2
      | global _ => simp at h2
  | false =>
    have hs := hv.vs hx
    have hl := hs.1.len.resolve_left (V.ne_und hx)
    exact ⟨by simpa using hl, hs.1⟩
theorem anyUnd.out {e : Env} : ∀ {l : List Opd}, anyUnd e l = false → ∀ x ∈ l, ∀ n, x = .t n → (look e n).isUnd = false
  | [], _, x, hx => by simp at hx
  | .t m :: l, h, x, hx => by
    simp only [anyUnd, Bool.or_eq_false_iff] at h
    intro n hn
    rcases List.mem_cons.1 hx with rfl | hx
    · injection hn with hn; subst hn; exact h.1
    · exact anyUnd.out h.2 x hx n hn
  | .c z :: l, h, x, hx => by
    simp only [anyUnd] at h
    intro n hn
    rcases List.mem_cons.1 hx with rfl | hx
    · cases hn
    · exact anyUnd.out h x hx n hn
end
end Go.Fw
namespace Go.Fw
open Go Go.RowKit
variable {P : Program}

theorem partOpd_mem {parts : List (Nat × Operand)} (hn : nodup (parts.map (·.1)) = true) : ∀ p ∈ parts, partOpd parts p.1 = some p.2 := by
  induction parts with
  | nil => intro p hp; simp at hp
  | cons q ps ih =>
    obtain ⟨j, y⟩ := q
    simp only [List.map_cons, nodup, Bool.and_eq_true, Bool.not_eq_true'] at hn
    intro p hp
    rcases List.mem_cons.1 hp with rfl | hp
    · simp [partOpd]
    · simp only [partOpd]
      rw [if_neg, ih hn.2 p hp]
      intro e
      have : (ps.map (·.1)).contains j = true := by
        rw [e]; simp only [List.contains_eq_any_beq, List.any_map, List.any_eq_true]
        exact ⟨p, hp, by simp⟩
      rw [this] at hn; simp at hn

section
variable {E : Fr} {tys : Nat → TTy} {U : Nat → Prop} {s : St} {a : Act} {w : World} {o : Oper}

variable (P) in
/-- The part number i of type t at 'off'. -/
def itemOk (ft : Nat → List Ty × List Ty × List (Nat × TypeId)) (tys : Nat → TTy) (parts : List (Nat × Operand)) (zcs : List Value) (i : Nat) (t : TypeId) (off : Nat) (x : Opd) : Bool :=
  match partOpd parts i with
  | some y => sized P ft tys t y x
  | none => (match x with | .c z => zOk P t z (seg zcs off (tySize P (tyOf P t))) | _ => false)

theorem fill_core {place : Nat → Option (Nat × Nat)} {parts : List (Nat × Operand)} {xs : List Opd} {zcs : Array Value} {typ : Nat → Option (TypeId × Nat)} {e : Env} (hpl : ∀ i t off, typ i = some (t, off) → place i = some (off, tySize P (tyOf P t)) ∧ off + tySize P (tyOf P t) ≤ zcs.size)
    (hdis : ∀ i j oi si oj sj, i ≠ j → place i = some (oi, si) → place j = some (oj, sj) → oi + si ≤ oj ∨ oj + sj ≤ oi) (hn : nodup (parts.map (·.1)) = true) (hin : ∀ p ∈ parts, ∃ t off, typ p.1 = some (t, off))
    (hx : ∀ i t off, typ i = some (t, off) → ∃ x, xs[i]? = some x ∧ itemOk P E.ft tys parts zcs.toList i t off x = true) (hund : anyUnd e xs = false) {C0 : Ctx} (hft0 : C0.ft = E.ft) (henv0 : ∀ i, VT P C0 (tys i) (look e i) (a.tmps.getD i undef)) :
    ∃ r, Instr.fill place zcs (parts.map fun (i, x) => (i, a.eval x)) = some r ∧ r.size = zcs.size ∧ ∀ (C : Ctx), C.ft = E.ft → (∀ i, VT P C (tys i) (look e i) (a.tmps.getD i undef)) →
      ∀ i t off x, typ i = some (t, off) → xs[i]? = some x → VR P C (tyOf P t) (val e x) (seg r.toList off (tySize P (tyOf P t))) := by
  have key : ∀ (C : Ctx), C.ft = E.ft → (∀ i, VT P C (tys i) (look e i) (a.tmps.getD i undef)) → ∀ i t off y, typ i = some (t, off) → partOpd parts i = some y → ∃ x, xs[i]? = some x ∧ (a.eval y).cells.size = tySize P (tyOf P t) ∧ VR P C (tyOf P t) (val e x) (a.eval y).cells.toList := by
    intro C hC henv i t off y hi hy
    obtain ⟨x, hx1, hx2⟩ := hx i t off hi
    unfold itemOk at hx2
    rw [hy] at hx2
    simp only at hx2
    rw [← hC] at hx2
    obtain ⟨h1, h2⟩ := sized.out hx2 henv (anyUnd.out hund x (List.mem_of_getElem? hx1))
    exact ⟨x, hx1, h1, h2⟩
  obtain ⟨r, r1, r2, r3⟩ := fill_get hdis (parts.map fun (i, x) => (i, a.eval x)) zcs (by simpa [Function.comp_def] using hn) (fun p hp => by
    rw [List.mem_map] at hp
    obtain ⟨q, hq, rfl⟩ := hp
    obtain ⟨t, off, ht⟩ := hin q hq
    obtain ⟨x, _, h1, _⟩ := key C0 hft0 henv0 q.1 t off q.2 ht (partOpd_mem hn q hq)
    obtain ⟨h2, h3⟩ := hpl q.1 t off ht
    exact ⟨off, _, h2, h1, h3⟩)
  refine ⟨r, r1, r2, fun C hC henv i t off x hi hxi => ?_⟩
  obtain ⟨h2, h3⟩ := hpl i t off hi
  rw [r3 i off _ h2 h3, partAt_map]
  cases hp : partOpd parts i with
  | some y =>
    obtain ⟨x', hx', h4, h5⟩ := key C hC henv i t off y hi hp
    rw [hxi] at hx'; injection hx' with hx'; subst hx'
    exact h5
  | none =>
    simp only [Option.map_none]
    obtain ⟨x', hx1, hx2⟩ := hx i t off hi
    rw [hxi] at hx1; injection hx1 with hx1; subst hx1
    unfold itemOk at hx2
    rw [hp] at hx2
    simp only at hx2
    split at hx2
    · rename_i z
      exact zOk.out hx2
    · cases hx2

/-- What 'bld' says, of parts that stand. -/
theorem bld_VR {C : Ctx} {t : TypeId} {vs : List V} {cs : List Value} (h : VR P C (.ag t) (.agg vs) cs) : VR P C (.ag t) (match V.pures? vs with | some l => .d (.agg l) | none => .agg vs) cs := by
  split
  · rename_i l hl
    exact .d (h.pure (by simp [V.pure?, hl])) rfl
  · exact h

theorem go_bld_struct {d : Nat} {xs : List Opd} {t : TypeId} {parts : Array (Nat × Operand)} {fs : Array Field} {zcs : List Value} {v : V} {u : Hp} {n : Nat} (hr : Rel P E tys U s a w) (ho : o.op = .build t parts) (hd : o.dst = some d) (hlt : d < a.tmps.size)
    (hu : P.underlying t = some (.struct fs)) (hso : structOk P t fs = true) (hfg : ∀ f ∈ fs, tyGood P f.type = true) (hz : zc P t = some zcs) (hzl : zcs.length = P.cellsOf t) (hn : nodup (parts.toList.map (·.1)) = true) (hin : ∀ p ∈ parts.toList, p.1 < fs.size)
    (hxl : xs.length = fs.size) (hx : ∀ (i : Nat) (f : Field) (x : Opd), fs[i]? = some f → xs[i]? = some x → itemOk P E.ft tys parts.toList zcs i f.type f.offset x = true) (hty : tys d = .o (.ag t))
    (he : eff (.bld d xs) s.env s.g s.next = some (v, u, n)) : Goes P E tys U s o a w (s.after (some d) v u n) := by
  simp only [eff] at he
  split at he
  · cases he
  · rename_i hund
    have hund : anyUnd s.env xs = false := by simpa using hund
    have hvu : u = [] ∧ n = s.next ∧ v = (match V.pures? (xs.map (val s.env)) with | some l => .d (.agg l) | none => .agg (xs.map (val s.env))) := by
      split at he
      · rename_i l hl
        injection he with he; injection he with h1 h2; injection h2 with h2 h3; subst h1 h2 h3
        exact ⟨rfl, rfl, by rw [hl]⟩
      · rename_i hl
        injection he with he; injection he with h1 h2; injection h2 with h2 h3; subst h1 h2 h3
        exact ⟨rfl, rfl, by rw [hl]⟩
    obtain ⟨rfl, rfl, rfl⟩ := hvu
    obtain ⟨ρ0, own0, hb0⟩ := id hr
    have hs := structOk.out hso
    obtain ⟨z, hz1, hz2, i, hi1, hi2⟩ := zc.run hz w
    obtain ⟨r, r1, r2, r3⟩ := fill_core (P := P) (E := E) (tys := tys) (a := a) (place := fun i => (fs[i]?).map fun f => (f.offset, tySize P (tyOf P f.type))) (parts := parts.toList) (xs := xs) (zcs := zcs.toArray) (e := s.env)
      (typ := fun i => (fs[i]?).map fun f => (f.type, f.offset)) (fun i t' off h => by
        rw [Option.map_eq_some_iff] at h
        obtain ⟨f, hf, e⟩ := h
        injection e with e1 e2; subst e1 e2
        exact ⟨by rw [hf]; rfl, by simp only [List.size_toArray, hzl]; exact hs.1 i f hf⟩)
      (fun i j oi si oj sj hij h1 h2 => by
        rw [Option.map_eq_some_iff] at h1 h2
        obtain ⟨f, hf, e⟩ := h1
        injection e with e1 e2; subst e1 e2
        obtain ⟨g, hg, e⟩ := h2
        injection e with e1 e2; subst e1 e2
        rcases Nat.lt_or_gt_of_ne hij with k | k
        · exact .inl (hs.2.1 i j f g k hf hg)
        · exact .inr (hs.2.1 j i g f k hg hf)) hn
      (fun p hp => by
        have := hin p hp
        exact ⟨fs[p.1].type, fs[p.1].offset, by simp [this]⟩)
      (fun i t' off h => by
        rw [Option.map_eq_some_iff] at h
        obtain ⟨f, hf, e⟩ := h
        injection e with e1 e2; subst e1 e2
        have hi : i < xs.length := by rw [hxl]; exact (Array.getElem?_eq_some_iff.1 hf).1
        exact ⟨xs[i], List.getElem?_eq_getElem hi, hx i f _ hf (List.getElem?_eq_getElem hi)⟩) hund (C0 := cx E w.heap own0 ρ0) rfl hb0.env
    have hmap : fs.toList.mapM (fun f => (P.info? f.type).map fun i => (f.offset, i.size)) = some (fs.toList.map fun f => (f.offset, tySize P (tyOf P f.type))) := by
      refine mapM_some (by simp) (fun i f b hf hb => ?_)
      rw [List.getElem?_map, hf] at hb
      simp only [Option.map_some, Option.some.injEq] at hb
      subst hb
      have := hfg f (Array.mem_toList_iff.1 (List.mem_of_getElem? hf))
      simp only [tyGood, Bool.and_eq_true, decide_eq_true_eq] at this
      obtain ⟨⟨⟨h1, h2⟩, _⟩, _⟩ := this
      rw [← h2]
      cases hif : P.info? f.type with
      | none => rw [hif] at h1; cases h1
      | some i => simp [Program.cellsOf, hif]
    have hbuilt : P.built t (parts.map fun (i, x) => (i, a.eval x)).toList = some r := by
      unfold Program.built
      simp only [hi1, hu, hi2, hmap]
      rw [← r1]
      have e1 : z.cells = zcs.toArray := by rw [← hz2]
      rw [e1]
      congr 1
      · funext i
        simp [List.getElem?_map]
      · simp
    refine Goes.pure hr (x := .agg r) (exec_run (f := Instr.build t (parts.map fun (i, x) => (i, a.eval x))) (by simp [execOp, ho]) (run_build w t _ r hbuilt)) hd hlt (fun ρ own hb => ?_)
    rw [hty]
    refine .mk (VS.of_agg (bld_VR (.struct hu hs (by simp [r2, hzl]) (by simp [hxl]) (fun i f v hf hv => ?_))))
    · rw [List.getElem?_map, Option.map_eq_some_iff] at hv
      obtain ⟨x, hx', rfl⟩ := hv
      exact r3 _ rfl hb.env i f.type f.offset x (by simp [hf]) hx'

theorem go_bld_array {d : Nat} {xs : List Opd} {t e : TypeId} {parts : Array (Nat × Operand)} {m : Nat} {zcs : List Value} {v : V} {u : Hp} {n : Nat} (hr : Rel P E tys U s a w) (ho : o.op = .build t parts) (hd : o.dst = some d) (hlt : d < a.tmps.size)
    (hu : P.underlying t = some (.array m e)) (hg : tyGood P e = true) (hz : zc P t = some zcs) (hzl : zcs.length = P.cellsOf t) (hct : P.cellsOf t = m * tySize P (tyOf P e)) (hn : nodup (parts.toList.map (·.1)) = true) (hin : ∀ p ∈ parts.toList, p.1 < m)
    (hxl : xs.length = m) (hx : ∀ (i : Nat) (x : Opd), xs[i]? = some x → itemOk P E.ft tys parts.toList zcs i e (i * tySize P (tyOf P e)) x = true) (hty : tys d = .o (.ag t))
    (he : eff (.bld d xs) s.env s.g s.next = some (v, u, n)) : Goes P E tys U s o a w (s.after (some d) v u n) := by
  simp only [eff] at he
  split at he
  · cases he
  · rename_i hund
    have hund : anyUnd s.env xs = false := by simpa using hund
    have hvu : u = [] ∧ n = s.next ∧ v = (match V.pures? (xs.map (val s.env)) with | some l => .d (.agg l) | none => .agg (xs.map (val s.env))) := by
      split at he
      · rename_i l hl
        injection he with he; injection he with h1 h2; injection h2 with h2 h3; subst h1 h2 h3
        exact ⟨rfl, rfl, by rw [hl]⟩
      · rename_i hl
        injection he with he; injection he with h1 h2; injection h2 with h2 h3; subst h1 h2 h3
        exact ⟨rfl, rfl, by rw [hl]⟩
    obtain ⟨rfl, rfl, rfl⟩ := hvu
    obtain ⟨ρ0, own0, hb0⟩ := id hr
    obtain ⟨z, hz1, hz2, i, hi1, hi2⟩ := zc.run hz w
    have hie : ∃ ie, P.info? e = some ie ∧ ie.size = tySize P (tyOf P e) := by
      simp only [tyGood, Bool.and_eq_true, decide_eq_true_eq] at hg
      obtain ⟨⟨⟨h1, h2⟩, _⟩, _⟩ := hg
      cases hif : P.info? e with
      | none => rw [hif] at h1; cases h1
      | some i => exact ⟨i, rfl, by rw [← h2]; simp [Program.cellsOf, hif]⟩
    obtain ⟨ie, hie1, hie2⟩ := hie
    obtain ⟨r, r1, r2, r3⟩ := fill_core (P := P) (E := E) (tys := tys) (a := a) (place := fun i => some (i * ie.size, ie.size)) (parts := parts.toList) (xs := xs) (zcs := zcs.toArray) (e := s.env)
      (typ := fun i => if i < m then some (e, i * tySize P (tyOf P e)) else none) (fun i t' off h => by
        split at h
        · rename_i him
          injection h with h; injection h with h1 h2; subst h1 h2
          have := mul_part (s := tySize P (tyOf P e)) him
          exact ⟨by rw [hie2], by simp only [List.size_toArray, hzl, hct]; exact this⟩
        · cases h)
      (fun i j oi si oj sj hij h1 h2 => by
        injection h1 with h1; injection h1 with h1 h1'; subst h1 h1'
        injection h2 with h2; injection h2 with h2 h2'; subst h2 h2'
        rcases Nat.lt_or_gt_of_ne hij with k | k
        · exact .inl (mul_apart k)
        · exact .inr (mul_apart k)) hn
      (fun p hp => ⟨_, _, if_pos (hin p hp)⟩)
      (fun i t' off h => by
        split at h
        · rename_i him
          injection h with h; injection h with h1 h2; subst h1 h2
          have hi : i < xs.length := by omega
          exact ⟨xs[i], List.getElem?_eq_getElem hi, hx i _ (List.getElem?_eq_getElem hi)⟩
        · cases h) hund (C0 := cx E w.heap own0 ρ0) rfl hb0.env
    have hbuilt : P.built t (parts.map fun (i, x) => (i, a.eval x)).toList = some r := by
      unfold Program.built
      simp only [hi1, hu, hi2, hie1]
      rw [← r1]
      have e1 : z.cells = zcs.toArray := by rw [← hz2]
      rw [e1]
      congr 1
      simp
    refine Goes.pure hr (x := .agg r) (exec_run (f := Instr.build t (parts.map fun (i, x) => (i, a.eval x))) (by simp [execOp, ho]) (run_build w t _ r hbuilt)) hd hlt (fun ρ own hb => ?_)
    rw [hty]
    refine .mk (VS.of_agg (bld_VR (.array hu hct (by simp [r2, hzl]) (by simp [hxl]) (fun i v hv => ?_))))
    · rw [List.getElem?_map, Option.map_eq_some_iff] at hv
      obtain ⟨x, hx', rfl⟩ := hv
      have him : i < m := by rw [← hxl]; exact (List.getElem?_eq_some_iff.1 hx').1
      exact r3 _ rfl hb.env i e _ x (if_pos him) hx'
end
end Go.Fw
namespace Go.Fw
open Go Go.RowKit
variable {P : Program}

theorem pieceOf.out {l m : List D} {off len : Nat} (h : pieceOf l off len = some m) : off + len ≤ l.length ∧ m.length = len ∧ ∀ i d, m[i]? = some d → i < len ∧ l[off + i]? = some d := by
  unfold pieceOf at h
  split at h
  · rename_i hl
    injection h with h; subst h
    refine ⟨hl, by simp; omega, fun i d hd => ?_⟩
    rw [List.getElem?_take] at hd
    split at hd
    · rename_i hi
      rw [List.getElem?_drop] at hd
      exact ⟨hi, hd⟩
    · cases hd
  · cases h

/-- What a row of one's own holds. -/
theorem Sl.data {C : Ctx} {own : Nat → Prop} {e : TypeId} {n : Bool} {h off len : Nat} {v : Value} {o : Bool} {l m : List D} (hs : Sl P C e n h off len v) (hb : BR P C own h (.row o l)) (hp : pieceOf l off len = some m) :
    (n = true ∧ m = [] ∧ v = .slice none 0 0) ∨ (n = false ∧ ∃ (b oo cap : Nat) (sp : Option Nat) (g : Nat → List Value), v = .slice (some ⟨b, oo, sp⟩) m.length cap ∧ m.length ≤ cap ∧ cap ≤ maxLen ∧ (m ≠ [] → sp = none) ∧
      (m ≠ [] → (if o = true then own b else C.S b) ∧ ∃ L, C.ρ h = some L ∧ L.blk = some b) ∧
      (∀ i, i < m.length → CellsAt C.H b (oo + i * tySize P (tyOf P e)) (g i)) ∧ ∀ (i : Nat) (d : D), m[i]? = some d → RD P C.H C.S (tyOf P e) d (g i)) := by
  obtain ⟨q1, q2, q3⟩ := pieceOf.out hp
  obtain ⟨L, k1, k2, k3, k4⟩ := hs
  rcases k4 with ⟨hn, h0, hv⟩ | ⟨hn, ad, cap, hv, r1, r2, r3⟩
  · exact .inl ⟨hn, List.eq_nil_of_length_eq_zero (by omega), hv⟩
  · right
    refine ⟨hn, ?_⟩
    subst q2
    by_cases hm : m = []
    · subst hm
      obtain ⟨b, oo, sp⟩ := ad
      exact ⟨b, oo, cap, sp, fun _ => [], hv, r1, r2, fun h => absurd rfl h, fun h => absurd rfl h, fun i hi => by simp at hi, fun i d hd => by simp at hd⟩
    · have hml : 0 < m.length := List.length_pos_iff.2 hm
      rcases r3 with r3 | ⟨b, s1, s2, s3⟩
      · omega
      · obtain ⟨L', t1, t2, t3⟩ := hb
        rw [k1] at t1; injection t1 with t1; subst t1
        rcases t3 with ⟨_, t3⟩ | ⟨b', c, te, u1, u2, u3, u4, u5, u6⟩
        · rw [s1] at t3; cases t3
        · rw [s1] at u1; injection u1 with u1; subst u1
          rw [k3] at u4 u6
          refine ⟨b, L.off + off * tySize P (tyOf P e), cap, none, fun i => seg c.toList (L.off + off * tySize P (tyOf P e) + i * tySize P (tyOf P e)) (tySize P (tyOf P e)), by rw [hv, s2], r1, r2, fun _ => rfl, fun _ => ⟨u5, L, k1, s1⟩, ?_, ?_⟩
          · intro i hi
            have := mul_part (i := off + i) (s := tySize P (tyOf P e)) (n := l.length) (by omega)
            rw [Nat.add_mul] at this
            exact CellsAt.of_block u2 (by omega)
          · intro i d hd
            obtain ⟨_, hd'⟩ := q3 i d hd
            have := u6 (off + i) d hd'
            rw [Nat.add_mul, ← Nat.add_assoc] at this
            exact this

mutual
theorem freeze_mem {g : Nat → Option Blk} : ∀ (v : V) {d : D} {u : Hp}, freeze g v = some (d, u) → ∀ p ∈ u, ∃ o l, g p.1 = some (.row o l) ∧ p.2 = .row false l
  | .int k n, d, u, h => by simp [freeze] at h; rw [h.2]; simp
  | .bool b, d, u, h => by simp [freeze] at h; rw [h.2]; simp
  | .d x, d, u, h => by simp [freeze] at h; rw [h.2]; simp
  | .agg l, d, u, h => by
    simp only [freeze] at h
    split at h
    · rename_i m u' hm
      injection h with h; injection h with h1 h2; subst h1 h2
      exact freezes_mem l hm
    · cases h
  | .asl n l, d, u, h => by
    cases n with
    | true => simp [freeze] at h; rw [h.2]; simp
    | false => simp [freeze] at h
  | .sl n hh off len, d, u, h => by
    simp only [freeze] at h
    split at h
    · rename_i o l hg
      split at h
      · injection h with h; injection h with h1 h2; subst h1 h2
        intro p hp
        simp only [List.mem_singleton] at hp; subst hp
        exact ⟨o, l, hg, rfl⟩
      · cases h
    · cases h
  | .ptr _ _, d, u, h => by simp [freeze] at h
  | .rp _, d, u, h => by simp [freeze] at h
  | .clo _ _ _, d, u, h => by simp [freeze] at h
  | .map _, d, u, h => by simp [freeze] at h
  | .tup _, d, u, h => by simp [freeze] at h
  | .und, d, u, h => by simp [freeze] at h
theorem freezes_mem {g : Nat → Option Blk} : ∀ (l : List V) {m : List D} {u : Hp}, freezes g l = some (m, u) → ∀ p ∈ u, ∃ o l, g p.1 = some (.row o l) ∧ p.2 = .row false l
  | [], m, u, h => by simp [freezes] at h; rw [h.2]; simp
  | v :: l, m, u, h => by
    simp only [freezes] at h
    split at h
    · rename_i x u1 y u2 h1 h2
      injection h with h; injection h with e1 e2; subst e1 e2
      intro p hp
      rcases List.mem_append.1 hp with hp | hp
      · exact freeze_mem v h1 p hp
      · exact freezes_mem l h2 p hp
    · cases h
end
theorem freezes_len {g : Nat → Option Blk} : ∀ (l : List V) {m : List D} {u : Hp}, freezes g l = some (m, u) → m.length = l.length
  | [], m, u, h => by simp [freezes] at h; simp [h.1]
  | v :: l, m, u, h => by
    simp only [freezes] at h
    split at h
    · rename_i x u1 y u2 h1 h2
      injection h with h; injection h with e1 e2; subst e1 e2
      simp [freezes_len l h2]
    · cases h
theorem freezes_get {g : Nat → Option Blk} : ∀ (l : List V) {m : List D} {u : Hp}, freezes g l = some (m, u) → ∀ (i : Nat) (v : V) (d : D), l[i]? = some v → m[i]? = some d → ∃ u', freeze g v = some (d, u') ∧ ∀ p ∈ u', p ∈ u
  | [], m, u, h, i, v, d, hv, _ => by simp at hv
  | w :: l, m, u, h, i, v, d, hv, hd => by
    simp only [freezes] at h
    split at h
    · rename_i x u1 y u2 h1 h2
      injection h with h; injection h with e1 e2; subst e1 e2
      cases i with
      | zero => simp at hv hd; subst hv hd; exact ⟨u1, h1, fun p hp => List.mem_append_left _ hp⟩
      | succ i =>
        obtain ⟨u', k1, k2⟩ := freezes_get l h2 i v d (by simpa using hv) (by simpa using hd)
        exact ⟨u', k1, fun p hp => List.mem_append_right _ (k2 p hp)⟩
    · cases h

/-- What is frozen is data. -/
theorem VR.freeze {C : Ctx} {own : Nat → Prop} {g : Nat → Option Blk} (hg : ∀ h b, g h = some b → BR P C own h b) {S' : Nat → Prop} (hS : ∀ b, C.S b → S' b) {ty : Ty} {v : V} {cs : List Value} (hr : VR P C ty v cs) :
    ∀ {d : D} {u U : Hp}, freeze g v = some (d, u) → (∀ p ∈ u, p ∈ U) → (∀ h l L b, (h, Blk.row false l) ∈ U → g h = some (.row true l) → C.ρ h = some L → L.blk = some b → S' b) → RD P C.H S' ty d cs := by
  induction hr with
  | int h => intro d u U e _ _; simp [Fw.freeze] at e; rw [← e.1]; exact .int h
  | bool => intro d u U e _ _; simp [Fw.freeze] at e; rw [← e.1]; exact .bool
  | d h _ => intro d u U e _ _; simp [Fw.freeze] at e; rw [← e.1]; exact h.mono' hS (fun _ _ => rfl)
  | struct h1 h0 h2 h3 _ ih =>
    intro d u U e hU hb
    simp only [Fw.freeze] at e
    split at e
    · rename_i m u' hm
      injection e with e; injection e with e1 e2; subst e1 e2
      have hl := freezes_len _ hm
      refine .struct h1 h0 h2 (by rw [hl, h3]) (fun i f d hf hd => ?_)
      obtain ⟨v, hv⟩ : ∃ v, _ = some v := ⟨_, List.getElem?_eq_getElem (by rw [← hl]; exact (List.getElem?_eq_some_iff.1 hd).1)⟩
      obtain ⟨u'', k1, k2⟩ := freezes_get _ hm i v d hv hd
      exact ih i f v hf hv k1 (fun p hp => hU p (k2 p hp)) hb
    · cases e
  | array h1 h0 h2 h3 _ ih =>
    intro d u U e hU hb
    simp only [Fw.freeze] at e
    split at e
    · rename_i m u' hm
      injection e with e; injection e with e1 e2; subst e1 e2
      have hl := freezes_len _ hm
      refine .array h1 h0 h2 (by rw [hl, h3]) (fun i d hd => ?_)
      obtain ⟨v, hv⟩ : ∃ v, _ = some v := ⟨_, List.getElem?_eq_getElem (by rw [← hl]; exact (List.getElem?_eq_some_iff.1 hd).1)⟩
      obtain ⟨u'', k1, k2⟩ := freezes_get _ hm i v d hv hd
      exact ih i v hv k1 (fun p hp => hU p (k2 p hp)) hb
    · cases e
  | @asl e n l v h =>
    intro d u U e' _ _
    cases n with
    | true =>
      simp [Fw.freeze] at e'
      rcases h with ⟨_, _, rfl⟩ | ⟨h, _⟩
      · rw [← e'.1]; exact .nil
      · cases h
    | false => simp [Fw.freeze] at e'
  | @sl e n h off len v hs =>
    intro d u U e' hU hb
    simp only [Fw.freeze] at e'
    split at e'
    · rename_i o l hgh
      split at e'
      · rename_i m hm
        injection e' with e'; injection e' with e1 e2; subst e1 e2
        have hbr := hg h _ hgh
        rcases hs.data hbr hm with ⟨rfl, rfl, rfl⟩ | ⟨rfl, b, oo, cap, sp, gg, rfl, q1, q2, q3, q4, q5, q6⟩
        · exact .nil
        · refine .slice q1 q2 q3 (fun hne => ?_) q5 (fun i d hd => (q6 i d hd).mono' hS (fun _ _ => rfl))
          obtain ⟨r1, L, r2, r3⟩ := q4 hne
          cases o with
          | true => exact hb h l L b (hU _ (by simp)) hgh r2 r3
          | false => exact hS b r1
      · cases e'
    · cases e'
  | ptr _ => intro d u U e; simp [Fw.freeze] at e
  | rp _ _ _ => intro d u U e; simp [Fw.freeze] at e
  | map _ _ _ => intro d u U e; simp [Fw.freeze] at e
  | clo => intro d u U e; simp [Fw.freeze] at e
  | und _ => intro d u U e; simp [Fw.freeze] at e

theorem ulast_mem {u : Hp} {h : Nat} {b : Blk} (e : ulast u h = some b) : (h, b) ∈ u := by
  induction u with
  | nil => simp [ulast] at e
  | cons x u ih =>
    obtain ⟨k, c⟩ := x
    simp only [ulast] at e
    split at e
    · rename_i y hy
      injection e with e; subst e
      exact List.mem_cons_of_mem _ (ih hy)
    · split at e
      · rename_i hk; subst hk; injection e with e; subst e; simp
      · cases e
theorem ulast_some {u : Hp} {h : Nat} {b : Blk} (e : (h, b) ∈ u) : ulast u h ≠ none := by
  induction u with
  | nil => simp at e
  | cons x u ih =>
    obtain ⟨k, c⟩ := x
    simp only [ulast]
    rcases List.mem_cons.1 e with e | e
    · injection e with e1 e2; subst e1 e2
      cases ulast u h <;> simp
    · cases hu : ulast u h with
      | some y => simp
      | none => exact absurd hu (ih e)
theorem hputs_append (s u v : Hp) : hputs s (u ++ v) = hputs (hputs s u) v := by
  induction u generalizing s with
  | nil => rfl
  | cons x u ih => obtain ⟨k, b⟩ := x; simp only [List.cons_append, hputs, ih]

section
variable {E : Fr} {tys : Nat → TTy} {U : Nat → Prop} {s : St} {a : Act} {w : World} {o : Oper}
/-- Rows that are frozen. -/
theorem RelB.freeze {ρ : Nat → Option Loc} {own : Nat → Prop} (hr : RelB P E tys U s a w ρ own) {vs : List V} {ds : List D} {u : Hp} (hf : freezes s.g vs = some (ds, u)) :
    ∃ own', RelB P E tys U (s.after none .und u s.next) a w ρ own' ∧ (cx E w.heap own ρ).Le (cx E w.heap own' ρ) ∧
      ∀ (i : Nat) (v : V) (d : D) (ty : Ty) (cs : List Value), vs[i]? = some v → ds[i]? = some d → VR P (cx E w.heap own ρ) ty v cs → RD P w.heap (cx E w.heap own' ρ).S ty d cs := by
  let X : Nat → Prop := fun b => ∃ h l L, (h, Blk.row false l) ∈ u ∧ s.g h = some (.row true l) ∧ ρ h = some L ∧ L.blk = some b
  have hXown : ∀ b, X b → own b := fun b ⟨h, l, L, _, h2, h3, h4⟩ => hr.heap.own_of h2 rfl h3 h4
  have ev : Evo w.heap w.heap own (fun b => own b ∧ ¬ X b) ρ ρ X := ⟨Nat.le_refl _, fun _ _ _ => rfl, hXown, fun b hb => .inl hb.1, fun b h1 h2 => ⟨h1, h2⟩, fun _ _ h => h⟩
  have le := ev.le (E := E)
  refine ⟨fun b => own b ∧ ¬ X b, ?_, le, ?_⟩
  · have e0 : U = addU U s.next s.next := addU_self.symm
    rw [e0]
    refine hr.step ev (Nat.le_refl _) ⟨rfl, rfl, rfl⟩ (fun b ⟨h, l, L, h1, h2, h3, h4⟩ => ⟨h, _, L, h2, rfl, h3, h4, ulast_some h1⟩) (fun h L e => .inl e) (fun h x e => ?_) (fun h h' x x' L L' b e o => ?_) (d := none) (v := .und) (x := undef) (fun k hk => by cases hk)
    · obtain ⟨o, l, k1, k2⟩ := freezes_mem vs hf _ (ulast_mem e)
      simp only at k1 k2
      subst k2
      obtain ⟨L, q1, q2, q3⟩ := hr.heap.blk h _ k1
      refine ⟨L, q1, q2, ?_⟩
      rcases q3 with q3 | ⟨b, c, te, r1, r2, r3, r4, r5, r6⟩
      · exact .inl q3
      · refine .inr ⟨b, c, te, r1, r2, r3, r4, ?_, fun i d hd => (r6 i d hd).mono le⟩
        simp only [Bool.false_eq_true, if_false]
        cases o with
        | false => exact le.S b r5
        | true =>
          have hx : X b := ⟨h, l, L, ulast_mem e, k1, q1, r1⟩
          have hbn := hr.heap.bnd b r5
          exact ⟨hbn.2, fun hh => hh.2 hx, fun hlt => by omega⟩
    · obtain ⟨o', l, k1, k2⟩ := freezes_mem vs hf _ (ulast_mem e)
      simp only at k2
      subst k2
      cases o
  · intro i v d ty cs hv hd hvr
    obtain ⟨u', k1, k2⟩ := freezes_get vs hf i v d hv hd
    refine VR.freeze (own := own) (g := s.g) (fun h b hb => hr.heap.blk h b hb) (fun b hb => le.S b hb) hvr k1 k2 (fun h l L b h1 h2 h3 h4 => ?_)
    have hx : X b := ⟨h, l, L, h1, h2, h3, h4⟩
    have hbn := hr.heap.bnd b (hXown b hx)
    exact ⟨hbn.2, fun hh => hh.2 hx, fun hlt => by omega⟩
end
end Go.Fw
namespace Go.Fw
open Go Go.RowKit
variable {P : Program}

theorem setRow_ne (w : World) (g k : Nat) (cs : Array Value) (h : k ≠ g) : (w.setRow g cs).heap[k]? = w.heap[k]? := by
  simp [World.setRow, Array.getElem?_modify, Ne.symm h]
theorem setRow_size (w : World) (g : Nat) (cs : Array Value) : (w.setRow g cs).heap.size = w.heap.size := by simp [World.setRow]
theorem Evo.setRow {w : World} {own : Nat → Prop} {ρ : Nat → Option Loc} {b : Nat} (hb : own b) (cs : Array Value) : Evo w.heap (w.setRow b cs).heap own own ρ ρ (fun x => x = b) where
  size := by rw [setRow_size]; exact Nat.le_refl _
  same := fun k _ hk => setRow_ne w b k cs hk
  xOwn := fun k hk => by subst hk; exact hb
  mine := fun k hk => .inl hk
  keep := fun k hk _ => hk
  locs := fun _ _ h => h
/-- Cells are written into a block. -/
theorem run_put {w : World} {b o : Nat} {t ty : TypeId} {c : Array Value} {v : Value} (hc : w.heap[b]? = some (.cells c ty (0, 0))) (hg : tyGood P t = true) (hl : v.cells.toList.length = tySize P (tyOf P t)) (ho : o + v.cells.toList.length ≤ c.size) (h1 : ∀ x ∈ v.cells.toList, x.oneCell' = true) :
    (Instr.storeAt t (.pointer (some ⟨b, o, none⟩)) v).run P w = .ok () (w.setRow b (splice c.toList o v.cells.toList).toArray) := by
  have hs := run_storeCells_at (P := P) b o ty v.cells.toList 0 c w hc (by simpa using ho) h1
  have hl' : v.cells.size = tySize P (tyOf P t) := by simpa using hl
  simp only [Nat.add_zero] at hs
  simp only [Instr.storeAt, Instr.sureAddr, storeVar, Sem.run_bind, Sem.run_pure, Result.andThen_ok, tyGood.size hg w, hl', ne_eq, not_true_eq_false, if_false]
  rw [hs]
  rfl

section
variable {E : Fr} {tys : Nat → TTy} {U : Nat → Prop} {s : St} {a : Act} {w : World} {o : Oper}

theorem noDst {a : Act} {x : Value} : a.put none x = a := rfl
/-- A store into a variable. -/
theorem st_box {ρ : Nat → Option Loc} {own : Nat → Prop} (hb : RelB P E tys U s a w ρ own) {e : TypeId} {h : Nat} {p : List Nat} {ad y : Value} {bv xv nv : V} (hg : tyGood P e = true) (hp : Ptr P (cx E w.heap own ρ) e h p ad) (hbk : s.g h = some (.box bv)) (hy : VS P (cx E w.heap own ρ) (tyOf P e) xv y)
    (hl : y.cells.toList.length = tySize P (tyOf P e)) (hst : storeV bv p xv = some nv) :
    ∃ w', (Instr.storeAt e ad y).run P w = .ok () w' ∧ RelB P E tys U (s.after none .und [(h, .box nv)] s.next) a w' ρ own := by
  obtain ⟨L, b, oo, k1, k2, rfl, k3⟩ := hp
  have hbr := hb.heap.blk h _ hbk
  obtain ⟨L', b', c, m1, m2, m3, m4, m5, m6, m7⟩ := hbr
  rw [k1] at m1; injection m1 with m1; subst m1
  rw [k2] at m2; injection m2 with m2; subst m2
  rcases k3 with ⟨_, hpath⟩ | ⟨k3, _⟩
  · have hcl : c.toList.length = tySize P (tyOf P L.ty) := by simpa using m6
    have hbound := (storeV_VR hpath m7 hcl hy.1 hl hst).2
    have hone := hy.1.one
    refine ⟨_, run_put m5 hg hl (by simpa using hbound) hone, ?_⟩
    have ev := Evo.setRow (w := w) (own := own) (ρ := ρ) m4 (splice c.toList oo y.cells.toList).toArray
    have le := ev.le (E := E)
    have eU : U = addU U s.next s.next := addU_self.symm
    rw [eU]
    refine hb.step ev (Nat.le_refl _) ⟨rfl, rfl, rfl⟩ (fun b0 e0 => ⟨h, _, L, hbk, rfl, k1, by rw [e0]; exact k2, by simp [ulast]⟩) (fun h L e => .inl e) (fun h' x e => ?_) (fun h1 h2 x x' L1 L2 b0 e1 o1 r1 b1 r2 b2 o2 hh => ?_) (d := none) (v := .und) (x := undef) (fun k hk => by cases hk)
    · simp only [ulast] at e
      split at e
      · rename_i heq; subst heq; injection e with e; subst e
        refine ⟨L, b, _, k1, k2, m3, m4, setRow_heap w b c _ L.ty (0, 0) m5, ?_, ?_⟩
        · have := splice_length (c := c.toList) (x := y.cells.toList) (o := oo) (by simpa using hbound)
          simpa [m6] using this
        · exact (storeV_VR hpath (m7.mono le) hcl (hy.1.mono le) hl hst).1
      · cases e
    · simp only [ulast] at e1
      split at e1
      · rename_i heq; subst heq
        by_cases hn : h2 = h
        · exact hn.symm
        · rcases hh with hh | hh
          · simp only [ulast] at hh
            rw [if_neg (Ne.symm hn)] at hh; cases hh
          · exact hb.heap.apart h h2 _ _ L1 L2 b0 hbk hh.2 rfl o2 r1 r2 b1 b2
      · cases e1
  · rw [m3] at k3; cases k3
/-- A store into a row: what is stored is data. -/
theorem st_row {ρ : Nat → Option Loc} {own : Nat → Prop} (hb : RelB P E tys U s a w ρ own) {e : TypeId} {h i : Nat} {q : List Nat} {ad y : Value} {l : List D} {dy z z' : D} (hg : tyGood P e = true) (hp : Ptr P (cx E w.heap own ρ) e h (i :: q) ad) (hbk : s.g h = some (.row true l))
    (hy : RD P w.heap (cx E w.heap own ρ).S (tyOf P e) dy y.cells.toList) (hz : l[i]? = some z) (hst : z.set q dy = some z') :
    ∃ w', (Instr.storeAt e ad y).run P w = .ok () w' ∧ RelB P E tys U (s.after none .und [(h, .row true (l.set i z'))] s.next) a w' ρ own := by
  obtain ⟨L, b, oo, k1, k2, rfl, k3⟩ := hp
  have hbr := hb.heap.blk h _ hbk
  obtain ⟨L', m1, m2, m3⟩ := hbr
  rw [k1] at m1; injection m1 with m1; subst m1
  rcases k3 with ⟨k3, _⟩ | ⟨_, i', q', o', hiq, hpath, rfl⟩
  · rw [m2] at k3; cases k3
  · injection hiq with e1 e2; subst e1 e2
    rcases m3 with ⟨_, m3⟩ | ⟨b', c, te, n1, n2, n3, n4, n5, n6⟩
    · rw [k2] at m3; cases m3
    · rw [k2] at n1; injection n1 with n1; subst n1
      simp only [if_true] at n5
      have hi := (List.getElem?_eq_some_iff.1 hz).1
      have hpart := mul_part (s := tySize P (tyOf P L.ty)) hi
      generalize hsz : tySize P (tyOf P L.ty) = sz at *
      have hzr := n6 i z hz
      obtain ⟨r1, r2⟩ := hzr.set hpath hy hst
      have hseg : (seg c.toList (L.off + i * sz) sz).length = sz := seg_length (by simp; omega)
      rw [hseg] at r2
      have hone := hy.one
      have hbound : L.off + i * sz + o' + y.cells.toList.length ≤ c.size := by omega
      refine ⟨_, run_put n2 hg hy.length hbound hone, ?_⟩
      have ev := Evo.setRow (w := w) (own := own) (ρ := ρ) n5 (splice c.toList (L.off + i * sz + o') y.cells.toList).toArray
      have le := ev.le (E := E)
      have eU : U = addU U s.next s.next := addU_self.symm
      rw [eU]
      refine hb.step ev (Nat.le_refl _) ⟨rfl, rfl, rfl⟩ (fun b0 e0 => ⟨h, _, L, hbk, rfl, k1, by rw [e0]; exact k2, by simp [ulast]⟩) (fun h L e => .inl e) (fun h' x e => ?_) (fun h1 h2 x x' L1 L2 b0 e1 o1 r1 b1 r2 b2 o2 hh => ?_) (d := none) (v := .und) (x := undef) (fun k hk => by cases hk)
      · simp only [ulast] at e
        split at e
        · rename_i heq; subst heq; injection e with e; subst e
          refine ⟨L, k1, m2, .inr ⟨b, _, te, k2, setRow_heap w b c _ te (0, 0) n2, ?_, ?_, n5, fun j d hd => ?_⟩⟩
          · have := splice_length (c := c.toList) (x := y.cells.toList) (o := L.off + i * sz + o') (by simpa using hbound)
            simpa [n3] using this
          · have := splice_length (c := c.toList) (x := y.cells.toList) (o := L.off + i * sz + o') (by simpa using hbound)
            simp only [List.length_set, hsz]
            simpa [this] using n4
          · rw [hsz]
            show RD P _ _ _ _ (seg (splice c.toList (L.off + i * sz + o') y.cells.toList) (L.off + j * sz) sz)
            by_cases hj : j = i
            · subst hj
              rw [List.getElem?_set_self hi] at hd
              injection hd with hd; subst hd
              rw [seg_splice_in (by simp; omega) r2]
              exact r1.mono le
            · rw [List.getElem?_set_ne (Ne.symm hj)] at hd
              rw [seg_splice_apart (by simpa using hbound)]
              · exact (n6 j d hd).mono le
              · rcases Nat.lt_or_gt_of_ne hj with k | k
                · have := mul_apart (s := sz) k; omega
                · have := mul_apart (s := sz) k; omega
        · cases e
      · simp only [ulast] at e1
        split at e1
        · rename_i heq; subst heq
          by_cases hn : h2 = h
          · exact hn.symm
          · rcases hh with hh | hh
            · simp only [ulast] at hh
              rw [if_neg (Ne.symm hn)] at hh; cases hh
            · exact hb.heap.apart h h2 _ _ L1 L2 b0 hbk hh.2 rfl o2 r1 r2 b1 b2
        · cases e1

theorem exec_unit {f : Sem Unit} (h : execOp a.eval o = (do f; pure .skip)) {w' : World} (hf : f.run P w = .ok () w') : (execOp a.eval o).run P w = .ok .skip w' := by
  rw [h, Sem.run_bind, hf]; rfl
theorem freeze_single {g : Nat → Option Blk} {v : V} {d : D} {u : Hp} (h : freeze g v = some (d, u)) : freezes g [v] = some ([d], u) := by simp [freezes, h]

theorem go_st {x z : Opd} {y yz : Operand} {t : TypeId} {v : V} {u : Hp} {n : Nat} (hr : Rel P E tys U s a w) (ho : o.op = .store t y yz) (hd : o.dst = none) (hg : tyGood P t = true) (hc : opdOk E.ft tys (.o (.pt t)) y x = true) (hcz : opdOk E.ft tys (.o (tyOf P t)) yz z = true)
    (he : eff (.st x z) s.env s.g s.next = some (v, u, n)) : Goes P E tys U s o a w (s.after none v u n) := by
  simp only [eff] at he
  by_cases hund : (val s.env z).isUnd = true
  · rw [if_pos hund] at he; cases he
  rw [if_neg hund] at he
  have hu : (val s.env z).isUnd = false := by simpa using hund
  split at he
  · rename_i u' hu'
    injection he with he; injection he with h1 h2; injection h2 with h2 h3; subst h1 h2 h3
    obtain ⟨ρ, own, hb⟩ := hr
    have hx := opd_VT (P := P) (C := cx E w.heap own ρ) hc hb.env
    have hz := (opd_VT (P := P) (C := cx E w.heap own ρ) hcz hb.env).vs hu
    have hzl := hz.1.len.resolve_left (V.ne_und hu)
    unfold saveV at hu'
    split at hu'
    · rename_i h p hxv
      rw [hxv] at hx
      obtain ⟨e', e1, hp⟩ := (hx.vs rfl).ptr
      injection e1 with e1; subst e1
      split at hu'
      · rename_i bv hbk
        split at hu'
        · rename_i nv hst
          injection hu' with hu'; subst hu'
          obtain ⟨w', r1, r2⟩ := st_box hb hg hp hbk hz hzl hst
          refine .inr ⟨w', exec_unit (f := Instr.storeAt t (a.eval y) (a.eval yz)) (by simp [execOp, ho]) r1, ?_⟩
          have eU : addU U s.next (s.after none .und [(h, .box nv)] s.next).next = U := addU_self
          rw [eU, hd]
          exact ⟨ρ, own, r2⟩
        · cases hu'
      · rename_i l hbk
        split at hu'
        · rename_i i q yd uf hfz
          split at hu'
          · cases hu'
          · rename_i hany
            split at hu'
            · rename_i zz hzz
              split at hu'
              · rename_i z' hst
                injection hu' with hu'; subst hu'
                obtain ⟨own', hb', le, hRD⟩ := hb.freeze (freeze_single hfz)
                have hy := hRD 0 _ _ _ _ rfl rfl hz.1
                have hnone : ulast uf h = none := by
                  cases hul : ulast uf h with
                  | none => rfl
                  | some b =>
                    exfalso
                    apply hany
                    rw [List.any_eq_true]
                    exact ⟨(h, b), ulast_mem hul, by simp⟩
                have hbk' : (s.after none .und uf s.next).g h = some (.row true l) := by rw [after_g, hnone]; exact hbk
                obtain ⟨w', r1, r2⟩ := st_row hb' hg (hp.mono (fun _ _ h => h)) hbk' hy hzz hst
                refine .inr ⟨w', exec_unit (f := Instr.storeAt t (a.eval y) (a.eval yz)) (by simp [execOp, ho]) r1, ?_⟩
                have eU : addU U s.next (s.after none .und (uf ++ [(h, .row true (l.set i z'))]) s.next).next = U := addU_self
                rw [eU, hd]
                refine ⟨ρ, own', ?_⟩
                have es : (s.after none .und uf s.next).after none .und [(h, .row true (l.set i z'))] s.next = s.after none .und (uf ++ [(h, .row true (l.set i z'))]) s.next := by
                  simp only [St.after, putO, hputs_append]
                have es' : (s.after none .und uf s.next).next = s.next := rfl
                rw [es'] at r2
                rw [es] at r2
                exact r2
              · cases hu'
            · cases hu'
        · cases hu'
      · cases hu'
    · cases hu'
  · cases he
end
end Go.Fw
namespace Go.Fw
open Go Go.RowKit
variable {P : Program}

def rowLoc (b : Option Nat) (off size : Nat) (e : TypeId) : Loc := { blk := b, row := true, off := off, size := size, ty := e }
def dead : Option Nat → Hp
  | some h => [(h, .dead)]
  | none => []
section
variable {E : Fr} {tys : Nat → TTy} {U : Nat → Prop} {s : St} {a : Act} {w : World} {o : Oper}

/-- A new handle, in place of an elder one or beside all. -/
theorem RelB.renew {w' : World} {ρ : Nat → Option Loc} {own own' X : Nat → Prop} (hr : RelB P E tys U s a w ρ own) (hos : w'.os = w.os ∧ w'.tape = w.tape ∧ w'.output = w.output) {L : Loc} {bk : Blk} {dh : Option Nat}
    (ev : Evo w.heap w'.heap own own' ρ (newLoc ρ s.next L) X) (_hU : ¬ U s.next) (hX : ∀ b, X b → ∃ h x L, dh = some h ∧ s.g h = some x ∧ x.owns = true ∧ ρ h = some L ∧ L.blk = some b)
    (hL : ∀ b, L.blk = some b → ∀ h x L2, s.g h = some x → x.owns = true → ρ h = some L2 → L2.blk = some b → dh = some h)
    (hbr : BR P (cx E w'.heap own' (newLoc ρ s.next L)) own' s.next bk) {d : Option Nat} {v : V} {x : Value}
    (hd : ∀ k, d = some k → k < a.tmps.size ∧ VT P (cx E w'.heap own' (newLoc ρ s.next L)) (tys k) v x) :
    RelB P E tys (addU U s.next (s.next + 1)) (s.after d v (dead dh ++ [(s.next, bk)]) (s.next + 1)) (a.put d x) w' (newLoc ρ s.next L) own' := by
  have hul : ∀ h, ulast (dead dh ++ [(s.next, bk)]) h = if s.next = h then some bk else if dh = some h then some .dead else none := by
    intro h
    rw [ulast_append]
    simp only [ulast]
    by_cases h1 : s.next = h
    · simp [h1]
    · rw [if_neg h1, if_neg h1]
      cases dh with
      | none => simp [dead, ulast]
      | some k =>
        simp only [dead, ulast, Option.some.injEq]
  refine hr.step ev (Nat.le_succ _) hos (fun b hb => ?_) (fun h L' e => ?_) (fun h y e => ?_) (fun h h' y y' L1 L2 b e1 o1 e2 b1 e3 b2 o2 hh => ?_) hd
  · obtain ⟨h, x, L0, k1, k2, k3, k4, k5⟩ := hX b hb
    refine ⟨h, x, L0, k2, k3, k4, k5, ?_⟩
    rw [hul]
    split
    · simp
    · simp
  · unfold newLoc at e
    split at e
    · rename_i hn; subst hn; exact .inr ⟨Nat.le_refl _, Nat.lt_succ_self _⟩
    · exact .inl e
  · rw [hul] at e
    split at e
    · rename_i hn; subst hn; injection e with e; subst e; exact hbr
    · split at e
      · injection e with e; subst e; trivial
      · cases e
  · rw [hul] at e1
    split at e1
    · rename_i hn; subst hn
      injection e1 with e1; subst e1
      unfold newLoc at e2 e3
      rw [if_pos rfl] at e2
      injection e2 with e2; subst e2
      by_cases hn : h' = s.next
      · exact hn.symm
      · exfalso
        rw [if_neg hn] at e3
        rcases hh with hh | ⟨hh, hg⟩
        · rw [hul, if_neg (Ne.symm hn)] at hh
          split at hh
          · injection hh with hh; subst hh; cases o2
          · cases hh
        · have := hL b b1 h' y' L2 hg o2 e3 b2
          rw [hul, if_neg (Ne.symm hn), if_pos this] at hh
          cases hh
    · split at e1
      · injection e1 with e1; subst e1; cases o1
      · cases e1

/-- A new block with a row. -/
theorem RelB.newRow {ρ : Nat → Option Loc} {own : Nat → Prop} (hr : RelB P E tys U s a w ρ own) {w' : World} {r : Array Value} {e : TypeId} {ds : List D} {cap : Nat} {dh : Option Nat} (hw : w'.heap = w.heap.push (.cells r e)) (hos : w'.os = w.os ∧ w'.tape = w.tape ∧ w'.output = w.output)
    (hU : ¬ U s.next) (hcs : cap * tySize P (tyOf P e) ≤ r.size) (hlc : ds.length ≤ cap) (hcm : cap ≤ maxLen)
    (hrd : ∀ (i : Nat) (d : D), ds[i]? = some d → RD P w.heap (cx E w.heap own ρ).S (tyOf P e) d (seg r.toList (i * tySize P (tyOf P e)) (tySize P (tyOf P e)))) {d : Nat} (hlt : d < a.tmps.size) (hty : tys d = .o (.sl e)) :
    RelB P E tys (addU U s.next (s.next + 1)) (s.after (some d) (.sl false s.next 0 ds.length) (dead dh ++ [(s.next, .row true ds)]) (s.next + 1)) (a.put (some d) (.slice (some ⟨w.heap.size, 0, none⟩) ds.length cap)) w'
      (newLoc ρ s.next (rowLoc (some w.heap.size) 0 r.size e)) (newOwn own w.heap.size) := by
  have ev : Evo w.heap w'.heap own (newOwn own w.heap.size) ρ (newLoc ρ s.next (rowLoc (some w.heap.size) 0 r.size e)) (fun _ => False) := by rw [hw]; exact Evo.alloc (hr.heap.noLoc hU) _ _
  have le := ev.le (E := E)
  have hn : newLoc ρ s.next (rowLoc (some w.heap.size) 0 r.size e) s.next = some (rowLoc (some w.heap.size) 0 r.size e) := by simp [newLoc]
  have hls : ds.length * tySize P (tyOf P e) ≤ cap * tySize P (tyOf P e) := Nat.mul_le_mul_right _ hlc
  refine hr.renew hos ev hU (fun _ h => h.elim) (fun b hb h x L2 h1 h2 h3 h4 => ?_) ?_ (fun k hk => ?_)
  · injection hb with hb; subst hb
    have := (hr.heap.bnd _ (hr.heap.own_of h1 h2 h3 h4)).2
    omega
  · refine ⟨_, hn, rfl, .inr ⟨w.heap.size, r, e, rfl, ?_, rfl, ?_, .inr rfl, fun i d hd => ?_⟩⟩
    · show w'.heap[w.heap.size]? = _
      rw [hw]; simp
    · show 0 + ds.length * tySize P (tyOf P e) ≤ r.size
      omega
    · show RD P w'.heap _ (tyOf P e) d (seg r.toList (0 + i * tySize P (tyOf P e)) (tySize P (tyOf P e)))
      rw [Nat.zero_add]
      exact (hrd i d hd).mono le
  · injection hk with hk; subst hk
    refine ⟨hlt, ?_⟩
    rw [hty]
    refine .mk (VS.of_single (.sl ⟨_, hn, rfl, rfl, .inr ⟨rfl, ⟨w.heap.size, 0, none⟩, cap, rfl, hlc, hcm, .inr ⟨w.heap.size, rfl, ?_, ?_⟩⟩⟩) rfl rfl)
    · simp [rowLoc]
    · show 0 + (0 + cap) * tySize P (tyOf P e) ≤ r.size
      simpa using hcs
/-- A row without memory. -/
theorem RelB.noRow {ρ : Nat → Option Loc} {own : Nat → Prop} (hr : RelB P E tys U s a w ρ own) {e : TypeId} {dh : Option Nat} (hU : ¬ U s.next) {nl : Bool} {v : Value} (hv : (nl = true ∧ v = .slice none 0 0) ∨ (nl = false ∧ ∃ ad, v = .slice (some ad) 0 0))
    {d : Nat} (hlt : d < a.tmps.size) (hty : tys d = .o (.sl e)) :
    RelB P E tys (addU U s.next (s.next + 1)) (s.after (some d) (.sl nl s.next 0 0) (dead dh ++ [(s.next, .row true [])]) (s.next + 1)) (a.put (some d) v) w (newLoc ρ s.next (rowLoc none 0 0 e)) own := by
  have ev : Evo w.heap w.heap own own ρ (newLoc ρ s.next (rowLoc none 0 0 e)) (fun _ => False) := ⟨Nat.le_refl _, fun _ _ _ => rfl, fun _ h => h.elim, fun _ h => .inl h, fun _ h _ => h, fun h L hL => by
    unfold newLoc; rw [if_neg (fun hh => hU (by rw [← hh]; exact hr.heap.fresh h L hL))]; exact hL⟩
  have hn : newLoc ρ s.next (rowLoc none 0 0 e) s.next = some (rowLoc none 0 0 e) := by simp [newLoc]
  refine hr.renew (bk := .row true []) ⟨rfl, rfl, rfl⟩ ev hU (fun _ h => h.elim) (fun b hb => by cases hb) ⟨_, hn, rfl, .inl ⟨rfl, rfl⟩⟩ (fun k hk => ?_)
  injection hk with hk; subst hk
  refine ⟨hlt, ?_⟩
  rw [hty]
  rcases hv with ⟨rfl, rfl⟩ | ⟨rfl, ad, rfl⟩
  · exact .mk (VS.of_single (.sl ⟨_, hn, rfl, rfl, .inl ⟨rfl, rfl, rfl⟩⟩) rfl rfl)
  · exact .mk (VS.of_single (.sl ⟨_, hn, rfl, rfl, .inr ⟨rfl, ad, 0, rfl, Nat.le_refl _, Nat.zero_le _, .inl rfl⟩⟩) rfl rfl)

/-! ### Row literals -/
theorem madeCells_seg {z : Array Value} {n i : Nat} (h : i * z.size + z.size ≤ n) : seg (madeCells z n).toList (i * z.size) z.size = z.toList := by
  apply List.ext_getElem?
  intro j
  rw [seg_getElem?]
  by_cases hj : j < z.size
  · rw [if_pos hj]
    have h1 : i * z.size + j < n := by omega
    have h2 : (i * z.size + j) % z.size = j := by rw [Nat.mul_comm, Nat.mul_add_mod, Nat.mod_eq_of_lt hj]
    simp [madeCells, h1, h2, hj]
  · rw [if_neg hj, List.getElem?_eq_none (by simpa using hj)]
theorem freezes_und {g : Nat → Option Blk} {e : Env} : ∀ {xs : List Opd} {m : List D} {u : Hp}, freezes g (xs.map (val e)) = some (m, u) → anyUnd e xs = false
  | [], m, u, _ => rfl
  | x :: xs, m, u, h => by
    simp only [List.map_cons, freezes] at h
    split at h
    · rename_i d u1 ds u2 h1 h2
      have := freezes_und h2
      cases x with
      | c z => simpa [anyUnd] using this
      | t n =>
        simp only [anyUnd, this, Bool.or_false]
        simp only [val] at h1
        cases hl : look e n <;> first | rfl | (rw [hl] at h1; simp [freeze] at h1)
    · cases h

theorem go_bsl {d : Nat} {xs : List Opd} {t e : TypeId} {len : Nat} {parts : Array (Nat × Operand)} {zcs : List Value} {v : V} {u : Hp} {n : Nat} (hr : Rel P E tys U s a w) (hU : ∀ h, s.next ≤ h → h < n → ¬ U h) (ho : o.op = .buildSlice t len parts) (hd : o.dst = some d) (hlt : d < a.tmps.size)
    (hu : P.underlying t = some (.slice e)) (hg : tyGood P e = true) (hpos : 0 < tySize P (tyOf P e)) (hz : zc P e = some zcs) (hzl : zcs.length = tySize P (tyOf P e)) (hsmall : len * tySize P (tyOf P e) ≤ 16777216) (hn : nodup (parts.toList.map (·.1)) = true) (hin : ∀ p ∈ parts.toList, p.1 < len)
    (hxl : xs.length = len) (hx : ∀ (i : Nat) (x : Opd), xs[i]? = some x → match partOpd parts.toList i with | some y => sized P E.ft tys e y x = true | none => ∃ z, x = .c z ∧ zOk P e z zcs = true) (hty : tys d = .o (.sl e))
    (he : eff (.bsl d xs) s.env s.g s.next = some (v, u, n)) : Goes P E tys U s o a w (s.after (some d) v u n) := by
  simp only [eff] at he
  split at he
  · rename_i ds uf hfz
    injection he with he; injection he with h1 h2; injection h2 with h2 h3; subst h1 h2 h3
    obtain ⟨ρ, own, hb⟩ := hr
    obtain ⟨z, hz1, hz2, ie, hi1, hi2⟩ := zc.run hz w
    have hie : ie.size = tySize P (tyOf P e) := by
      simp only [tyGood, Bool.and_eq_true, decide_eq_true_eq] at hg
      obtain ⟨⟨⟨_, h2⟩, _⟩, _⟩ := hg
      rw [← h2]; simp [Program.cellsOf, hi1]
    generalize hszdef : tySize P (tyOf P e) = sz at *
    have hzs : z.cells.size = sz := by rw [← hz2] at hzl; simpa using hzl
    have h24 : len * sz ≤ 2 ^ 24 := hsmall
    have hcm : len ≤ maxLen := by
      have h24 : len * sz ≤ 16777216 := hsmall
      have := Nat.le_mul_of_pos_right len hpos
      have : len ≤ 16777216 := by omega
      simp only [maxLen]
      omega
    have hdl : ds.length = len := by rw [freezes_len _ hfz]; simp [hxl]
    obtain ⟨r, r1, r2, r3⟩ := fill_core (P := P) (E := E) (tys := tys) (a := a) (place := fun i => some (i * ie.size, ie.size)) (parts := parts.toList) (xs := xs) (zcs := madeCells z.cells (len * sz)) (e := s.env)
      (typ := fun i => if i < len then some (e, i * sz) else none) (fun i t' off h => by
        split at h
        · rename_i him
          injection h with h; injection h with h1 h2; subst h1 h2
          have := mul_part (s := sz) him
          refine ⟨by rw [hie, hszdef], ?_⟩
          rw [size_madeCells, hszdef]; exact this
        · cases h)
      (fun i j oi si oj sj hij h1 h2 => by
        injection h1 with h1; injection h1 with h1 h1'; subst h1 h1'
        injection h2 with h2; injection h2 with h2 h2'; subst h2 h2'
        rcases Nat.lt_or_gt_of_ne hij with k | k
        · exact .inl (mul_apart k)
        · exact .inr (mul_apart k)) hn
      (fun p hp => ⟨_, _, if_pos (hin p hp)⟩)
      (fun i t' off h => by
        split at h
        · rename_i him
          injection h with h; injection h with h1 h2; subst h1 h2
          have hi : i < xs.length := by omega
          refine ⟨xs[i], List.getElem?_eq_getElem hi, ?_⟩
          have hh := hx i _ (List.getElem?_eq_getElem hi)
          unfold itemOk
          split at hh
          · rename_i y hy
            first | (rw [hy]; exact hh) | exact hh
          · rename_i hy
            try rw [hy]
            obtain ⟨z', e1, e2⟩ := hh
            rw [e1]
            simp only
            have hseg := madeCells_seg (z := z.cells) (n := len * sz) (i := i) (by rw [hzs]; exact mul_part him)
            rw [hzs] at hseg
            rw [hszdef, hseg, hz2]
            exact e2
        · cases h) (freezes_und hfz) (C0 := cx E w.heap own ρ) rfl hb.env
    have hrun : (Instr.buildSlice t len (parts.map fun (i, x) => (i, a.eval x))).run P w = .ok (.slice (some ⟨w.heap.size, 0, none⟩) len len) (w.alloc (.cells r e)) := by
      by_cases h0 : len * ie.size = 0
      · have hl0 : len = 0 := by
          rcases Nat.mul_eq_zero.1 h0 with h | h
          · exact h
          · omega
        subst hl0
        have hp0 : parts.toList = [] := by
          cases hp : parts.toList with
          | nil => rfl
          | cons p ps => exact absurd (hin p (by rw [hp]; simp)) (by omega)
        have hpa : parts = #[] := by apply Array.ext'; simpa using hp0
        subst hpa
        have hr0 : r = #[] := by
          apply Array.eq_empty_of_size_eq_zero
          rw [r2, size_madeCells]; simp
        subst hr0
        simp [Instr.buildSlice, run_underlying hu, sizeOf, typeInfo, hi1, Instr.fill, newRow, Array.range_zero']
      · have hf : Instr.fill (fun i => some (i * ie.size, ie.size)) ((Array.range (len * ie.size)).map (z.cells[· % z.cells.size]!)) (parts.map fun (i, x) => (i, a.eval x)).toList = some r := by
          rw [← r1]
          unfold madeCells
          rw [hie]
          congr 1
          simp
        exact run_buildSlice w t e len _ r ie z hu hi1 hi2 (by rw [hie]; exact Nat.not_lt.2 h24) h0 hf
    obtain ⟨own', hb', le, hRD⟩ := hb.freeze hfz
    have hfin := hb'.newRow (w' := w.alloc (.cells r e)) (r := r) (e := e) (ds := ds) (cap := len) (dh := none) rfl ⟨rfl, rfl, rfl⟩ (hU _ (Nat.le_refl _) (Nat.lt_succ_self _))
      (by rw [hszdef, r2, size_madeCells]; exact Nat.le_refl _) (by omega) hcm (fun i dd hdd => by
        have hi : i < xs.length := by rw [hxl, ← hdl]; exact (List.getElem?_eq_some_iff.1 hdd).1
        have hvr := r3 (cx E w.heap own ρ) rfl hb.env i e (i * sz) xs[i] (if_pos (by omega)) (List.getElem?_eq_getElem hi)
        rw [hszdef] at hvr ⊢
        exact hRD i (val s.env xs[i]) dd _ _ (by simp [hi]) hdd hvr) hlt hty
    have hex0 : execOp a.eval o = (do pure (.value (← Instr.buildSlice t len (parts.map fun (i, x) => (i, a.eval x))))) := by
      simp only [execOp, ho]
    have hex : (execOp a.eval o).run P w = .ok (.value (.slice (some ⟨w.heap.size, 0, none⟩) len len)) (w.alloc (.cells r e)) := by
      rw [hex0, Sem.run_bind, hrun]; rfl
    refine .inl ⟨_, _, hex, ?_⟩
    rw [hd]
    have es : (s.after none .und uf s.next).after (some d) (.sl false s.next 0 ds.length) (dead none ++ [(s.next, .row true ds)]) (s.next + 1) = s.after (some d) (.sl false s.next 0 ds.length) (uf ++ [(s.next, .row true ds)]) (s.next + 1) := by
      simp only [St.after, putO, hputs_append, dead, List.nil_append]
    have en : (s.after none .und uf s.next).next = s.next := rfl
    rw [en] at hfin
    rw [es] at hfin
    rw [hdl] at hfin ⊢
    exact ⟨_, _, hfin⟩
  · cases he
end
end Go.Fw
namespace Go.Fw
open Go Go.RowKit
variable {P : Program}

variable (P) in
/-- So many bytes at most, and of this many cells. -/
def bytesOk (e : TypeId) : Bool := match P.info? e with | some i => decide (i.bytes ≤ 131072) | none => false
theorem info_size {e : TypeId} {i : TypeInfo} (hg : tyGood P e = true) (hi : P.info? e = some i) : i.size = tySize P (tyOf P e) := by
  simp only [tyGood, Bool.and_eq_true, decide_eq_true_eq] at hg
  obtain ⟨⟨⟨_, h2⟩, _⟩, _⟩ := hg
  rw [← h2]; simp [Program.cellsOf, hi]

section
variable {E : Fr} {tys : Nat → TTy} {U : Nat → Prop} {s : St} {a : Act} {w : World} {o : Oper}

theorem go_mks {d : Nat} {zd : D} {xl xc : Opd} {yl yc : Operand} {t e : TypeId} {zcs : List Value} {v : V} {u : Hp} {n : Nat} (hr : Rel P E tys U s a w) (hU : ∀ h, s.next ≤ h → h < n → ¬ U h) (ho : o.op = .makeSlice t yl yc) (hd : o.dst = some d) (hlt : d < a.tmps.size)
    (hu : P.underlying t = some (.slice e)) (hg : tyGood P e = true) (hz : zc P e = some zcs) (hzl : zcs.length = tySize P (tyOf P e)) (hzd : dOk P 20 e zd zcs = true) (hby : bytesOk P e = true)
    (hcl : intOk E.ft tys yl xl = true) (hcc : intOk E.ft tys yc xc = true) (hty : tys d = .o (.sl e))
    (he : eff (.mks d zd xl xc) s.env s.g s.next = some (v, u, n)) : Goes P E tys U s o a w (s.after (some d) v u n) := by
  simp only [eff] at he
  split at he
  · rename_i k1 m1 k2 m2 hv1 hv2
    split at he
    · rename_i hbd
      injection he with he; injection he with h1 h2; injection h2 with h2 h3; subst h1 h2 h3
      obtain ⟨ρ, own, hb⟩ := hr
      obtain ⟨z, hz1, hz2, ie, hi1, hi2⟩ := zc.run hz w
      have hie := info_size hg hi1
      obtain ⟨kl, hkl⟩ := intOk.out hcl
      obtain ⟨kc, hkc⟩ := intOk.out hcc
      have e1 := opd_VT (P := P) (C := cx E w.heap own ρ) hkl hb.env
      have e2 := opd_VT (P := P) (C := cx E w.heap own ρ) hkc hb.env
      rw [hv1] at e1
      rw [hv2] at e2
      have q1 := e1.int.2.1
      have q2 := e2.int.2.1
      unfold mostLen at hbd
      have hbytes : (ie.bytes : Int) ≤ 131072 := by
        unfold bytesOk at hby
        rw [hi1] at hby
        have : ie.bytes ≤ 131072 := by simpa using hby
        omega
      have hb1 : (ie.bytes : Int) * m2 ≤ 131072 * m2 := Int.mul_le_mul_of_nonneg_right hbytes (by omega)
      have hrun := run_make (P := P) w t e ie z hu hi1 hi2 k1 k2 m1 m2 hbd.1 hbd.2.1 (by omega) (by omega)
      have hzs : z.cells.size = tySize P (tyOf P e) := by rw [← hz2] at hzl; simpa using hzl
      have hex0 : execOp a.eval o = (do pure (.value (← Instr.makeSlice t (a.eval yl) (a.eval yc)))) := by
        simp only [execOp, ho]
      have hex : (execOp a.eval o).run P w = .ok (.value (.slice (some ⟨w.heap.size, 0, none⟩) m1.toNat m2.toNat)) (w.alloc (.cells (madeCells z.cells (m2.toNat * ie.size)) e)) := by
        rw [hex0, q1, q2, Sem.run_bind, hrun]; rfl
      have hmm : m1.toNat ≤ m2.toNat := by omega
      have hfin := hb.newRow (w' := w.alloc (.cells (madeCells z.cells (m2.toNat * ie.size)) e)) (r := madeCells z.cells (m2.toNat * ie.size)) (e := e) (ds := List.replicate m1.toNat zd) (cap := m2.toNat) (dh := none) rfl ⟨rfl, rfl, rfl⟩ (hU _ (Nat.le_refl _) (Nat.lt_succ_self _))
        (by rw [size_madeCells, hie]; exact Nat.le_refl _) (by simpa using hmm) (by simp only [maxLen]; omega) (fun i dd hdd => by
          have hi := (List.getElem?_eq_some_iff.1 hdd).1
          rw [List.length_replicate] at hi
          have : dd = zd := by
            rw [List.getElem?_replicate, if_pos hi] at hdd
            injection hdd with hdd; exact hdd.symm
          subst this
          have hp := mul_part (s := tySize P (tyOf P e)) (show i < m2.toNat by omega)
          have hseg := madeCells_seg (z := z.cells) (n := m2.toNat * ie.size) (i := i) (by rw [hzs, hie]; exact hp)
          rw [hzs] at hseg
          rw [hseg, hz2]
          exact dOk.out 20 e dd _ hzd) hlt hty
      refine .inl ⟨_, _, hex, ?_⟩
      rw [hd]
      simp only [List.length_replicate, dead, List.nil_append] at hfin
      exact ⟨_, _, hfin⟩
    · cases he
  · cases he

/-! ### What is read -/
theorem oneCell_at {w : World} {b oo n sz : Nat} {g : Nat → List Value} (hn : 0 < n) (hlen : ∀ i, i < n → (g i).length = sz) (hc : ∀ i, i < n → CellsAt w.heap b (oo + i * sz) (g i)) :
    ∃ c t fr, w.heap[b]? = some (.cells c t fr) ∧ oo + n * sz ≤ c.size ∧ ∀ i, i < n → seg (seg c.toList oo (n * sz)) (i * sz) sz = g i := by
  obtain ⟨c, t, fr, h1, h2, h3⟩ := hc (n - 1) (by omega)
  rw [hlen (n - 1) (by omega)] at h2
  refine ⟨c, t, fr, h1, ?_, fun i hi => ?_⟩
  · have : n * sz = (n - 1) * sz + sz := by
      conv => lhs; rw [show n = n - 1 + 1 by omega, Nat.add_mul, Nat.one_mul]
    omega
  · obtain ⟨c', t', fr', k1, k2, k3⟩ := hc i hi
    rw [h1] at k1; injection k1 with k1; injection k1 with k1 _ _; subst k1
    rw [hlen i hi] at k3
    rw [seg_seg (mul_part hi)]
    exact k3
/-- A slice's cells, read. -/
theorem src {w : World} {b oo n cap sz : Nat} {sp : Option Nat} {g : Nat → List Value} (hsp : 0 < n → sp = none) (hlen : ∀ i, i < n → (g i).length = sz) (hc : ∀ i, i < n → CellsAt w.heap b (oo + i * sz) (g i)) :
    ∃ news : List Value, news.length = n * sz ∧ (∀ w' : World, w'.heap = w.heap → (Builtin.firstCells sz n (.slice (some ⟨b, oo, sp⟩) n cap)).run P w' = .ok news.toArray w') ∧ ∀ i, i < n → seg news (i * sz) sz = g i := by
  by_cases hn : n = 0
  · subst hn
    exact ⟨[], by simp, fun w' _ => run_firstCells_some w' sz 0 _ 0 cap [] (by simp) (fun j v h => by simp at h), fun i hi => by omega⟩
  · have hn' : 0 < n := by omega
    rw [hsp hn']
    obtain ⟨c, t, fr, h1, h2, h3⟩ := oneCell_at hn' hlen hc
    have hl : (seg c.toList oo (n * sz)).length = n * sz := seg_length (by simpa using h2)
    refine ⟨seg c.toList oo (n * sz), hl, fun w' hw => ?_, h3⟩
    have hca : CellsAt w'.heap b oo (seg c.toList oo (n * sz)) := by rw [hw]; exact CellsAt.of_block h1 h2
    exact run_firstCells_some w' sz n ⟨b, oo, none⟩ n cap _ hl (fun j v hj => hca.cell j v hj)
theorem one_of_parts {news : List Value} {n sz : Nat} (hl : news.length = n * sz) (h : ∀ i, i < n → ∀ x ∈ seg news (i * sz) sz, x.oneCell' = true) : ∀ x ∈ news, x.oneCell' = true := by
  intro x hx
  obtain ⟨j, hj⟩ := List.getElem?_of_mem hx
  have hlt := (List.getElem?_eq_some_iff.1 hj).1
  have hs0 : 0 < sz := by rcases Nat.eq_zero_or_pos sz with k | k; subst k; simp at hl; subst hl; simp at hlt; exact k
  have hi : j / sz < n := Nat.div_lt_of_lt_mul (by rw [Nat.mul_comm]; omega)
  have e1 := Nat.div_mul_le_self j sz
  have e2 := Nat.lt_div_mul_add hs0 (a := j)
  exact h (j / sz) hi x (mem_seg hj e1 e2)

/-- The elements of a slice. -/
theorem elems_src {ρ : Nat → Option Loc} {own : Nat → Prop} (hb : RelB P E tys U s a w ρ own) {e : TypeId} {Y : V} {y : Value} (hy : VT P (cx E w.heap own ρ) (.o (.sl e)) Y y) {ys : List D} (hel : elemsOf s.g Y = some ys) :
    ∃ ad cap news, y = .slice ad ys.length cap ∧ news.length = ys.length * tySize P (tyOf P e) ∧ (∀ w' : World, w'.heap = w.heap → (Builtin.firstCells (tySize P (tyOf P e)) ys.length y).run P w' = .ok news.toArray w') ∧
      (∀ x ∈ news, x.oneCell' = true) ∧ ∀ (i : Nat) (d : D), ys[i]? = some d → RD P w.heap (cx E w.heap own ρ).S (tyOf P e) d (seg news (i * tySize P (tyOf P e)) (tySize P (tyOf P e))) := by
  have fin : ∀ {b oo cap : Nat} {sp : Option Nat} {g : Nat → List Value}, y = .slice (some ⟨b, oo, sp⟩) ys.length cap → (ys ≠ [] → sp = none) → (∀ i, i < ys.length → CellsAt w.heap b (oo + i * tySize P (tyOf P e)) (g i)) →
      (∀ (i : Nat) (d : D), ys[i]? = some d → RD P w.heap (cx E w.heap own ρ).S (tyOf P e) d (g i)) → ∃ ad cap news, y = .slice ad ys.length cap ∧ news.length = ys.length * tySize P (tyOf P e) ∧ (∀ w' : World, w'.heap = w.heap → (Builtin.firstCells (tySize P (tyOf P e)) ys.length y).run P w' = .ok news.toArray w') ∧
      (∀ x ∈ news, x.oneCell' = true) ∧ ∀ (i : Nat) (d : D), ys[i]? = some d → RD P w.heap (cx E w.heap own ρ).S (tyOf P e) d (seg news (i * tySize P (tyOf P e)) (tySize P (tyOf P e))) := by
    intro b oo cap sp g h1 h2 h3 h4
    have hlen : ∀ i, i < ys.length → (g i).length = tySize P (tyOf P e) := fun i hi => (h4 i ys[i] (List.getElem?_eq_getElem hi)).length
    obtain ⟨news, k1, k2, k3⟩ := src (P := P) (w := w) (b := b) (oo := oo) (n := ys.length) (cap := cap) (sp := sp) (fun hn => h2 (List.length_pos_iff.1 hn)) hlen h3
    subst h1
    refine ⟨_, _, news, rfl, k1, k2, one_of_parts k1 (fun i hi => ?_), fun i d hd => ?_⟩
    · rw [k3 i hi]
      exact (h4 i ys[i] (List.getElem?_eq_getElem hi)).one
    · rw [k3 i (List.getElem?_eq_some_iff.1 hd).1]
      exact h4 i d hd
  have nilc : y = .slice none 0 0 → ys = [] → ∃ ad cap news, y = .slice ad ys.length cap ∧ news.length = ys.length * tySize P (tyOf P e) ∧ (∀ w' : World, w'.heap = w.heap → (Builtin.firstCells (tySize P (tyOf P e)) ys.length y).run P w' = .ok news.toArray w') ∧
      (∀ x ∈ news, x.oneCell' = true) ∧ ∀ (i : Nat) (d : D), ys[i]? = some d → RD P w.heap (cx E w.heap own ρ).S (tyOf P e) d (seg news (i * tySize P (tyOf P e)) (tySize P (tyOf P e))) := by
    intro h1 h2
    subst h1 h2
    exact ⟨none, 0, [], rfl, by simp, fun w' _ => run_firstCells_none w' _ _ _ _, by simp, fun i d hd => by simp at hd⟩
  have hasl : ∀ {nl : Bool} {l : List D}, Asl P (cx E w.heap own ρ) e nl l y → ys = l → ∃ ad cap news, y = .slice ad ys.length cap ∧ news.length = ys.length * tySize P (tyOf P e) ∧ (∀ w' : World, w'.heap = w.heap → (Builtin.firstCells (tySize P (tyOf P e)) ys.length y).run P w' = .ok news.toArray w') ∧
      (∀ x ∈ news, x.oneCell' = true) ∧ ∀ (i : Nat) (d : D), ys[i]? = some d → RD P w.heap (cx E w.heap own ρ).S (tyOf P e) d (seg news (i * tySize P (tyOf P e)) (tySize P (tyOf P e))) := by
    intro nl l h hl
    subst hl
    rcases h with ⟨_, h1, h2⟩ | ⟨_, b, oo, cap, sp, g, h1, h2, h3, h4, h5, h6, h7⟩
    · exact nilc h2 h1
    · exact fin h1 h4 h6 h7
  unfold elemsOf at hel
  split at hel
  · rename_i nl l
    injection hel with hel; subst hel
    obtain ⟨e', e1, h⟩ := (hy.vs rfl).asl
    injection e1 with e1; subst e1
    exact hasl h rfl
  · rename_i nl l
    injection hel with hel; subst hel
    obtain ⟨e', e1, h⟩ := (hy.vs rfl).dsl
    injection e1 with e1; subst e1
    exact hasl h rfl
  · rename_i nl h off len
    obtain ⟨e', e1, hs⟩ := (hy.vs rfl).sl
    injection e1 with e1; subst e1
    split at hel
    · rename_i o' l hg
      rcases hs.data (hb.heap.blk _ _ hg) hel with ⟨_, h1, h2⟩ | ⟨_, b, oo, cap, sp, g, h1, h2, h3, h4, h5, h6, h7⟩
      · exact nilc h2 h1
      · exact fin h1 h4 h6 h7
    · cases hel
  · cases hel

/-! ### Bytes as a string -/
theorem foldl_pushB : ∀ (ns : List Int) (s : ByteArray), ns.foldl (fun r n => r.push (UInt8.ofNat n.toNat)) s = ⟨s.data ++ (ns.map fun n => UInt8.ofNat n.toNat).toArray⟩
  | [], s => by simp
  | n :: ns, s => by
    rw [List.foldl_cons, foldl_pushB ns]
    simp [ByteArray.push]
theorem bytesOf_spec : ∀ {l : List D} {m : List UInt8}, bytesOf l = some m → ∃ ns : List Int, l = ns.map (D.int .u8) ∧ m = ns.map (fun n => UInt8.ofNat n.toNat)
  | [], m, h => by simp [bytesOf] at h; subst h; exact ⟨[], rfl, rfl⟩
  | .int k n :: l, m, h => by
    unfold bytesOf at h
    split at h
    · cases ‹_ :: _ = []›
    · rename_i k' n' l' e
      injection e with e1 e2
      injection e1 with e3 e4
      subst e2 e3 e4
      split at h
      · rename_i m' hm
        injection h with h; subst h
        obtain ⟨ns, rfl, rfl⟩ := bytesOf_spec hm
        exact ⟨n :: ns, rfl, rfl⟩
      · cases h
    · cases h
  | .bool _ :: l, m, h => by simp [bytesOf] at h
  | .agg _ :: l, m, h => by simp [bytesOf] at h
  | .sl _ _ :: l, m, h => by simp [bytesOf] at h
  | .str _ :: l, m, h => by simp [bytesOf] at h
theorem slice_len {own : Nat → Prop} {ρ : Nat → Option Loc} {e : TypeId} {Y : V} {ad : Option Addr} {n cap : Nat} (hel : ∃ ys, elemsOf s.g Y = some ys) (hy : VS P (cx E w.heap own ρ) (.sl e) Y (.slice ad n cap)) : n ≤ maxLen := by
  have hasl : ∀ {nl : Bool} {l : List D}, Asl P (cx E w.heap own ρ) e nl l (.slice ad n cap) → n ≤ maxLen := by
    intro nl l h
    rcases h with ⟨_, _, h⟩ | ⟨_, b, oo, cap', sp, g, h, h1, h2, _⟩
    · injection h with _ h _; subst h; exact Nat.zero_le _
    · injection h with _ h _; subst h; exact Nat.le_trans h1 h2
  obtain ⟨ys, hel⟩ := hel
  unfold elemsOf at hel
  split at hel
  · obtain ⟨e', e1, h⟩ := hy.asl
    injection e1 with e1; subst e1
    exact hasl h
  · obtain ⟨e', e1, h⟩ := hy.dsl
    injection e1 with e1; subst e1
    exact hasl h
  · obtain ⟨e', e1, L, _, _, _, h⟩ := hy.sl
    rcases h with ⟨_, _, h⟩ | ⟨_, a', cap', h, h1, h2, _⟩
    · injection h with _ h _; subst h; exact Nat.zero_le _
    · injection h with _ h _; subst h; exact Nat.le_trans h1 h2
  · cases hel
theorem go_tos {d : Nat} {x : Opd} {y : Operand} {src dst e : TypeId} {v : V} {u : Hp} {n : Nat} (hr : Rel P E tys U s a w) (ho : o.op = .convert src dst y) (hd : o.dst = some d) (hlt : d < a.tmps.size)
    (hs : P.underlying src = some (.slice e)) (he8 : P.underlying e = some (.int .u8)) (hds : P.underlying dst = some .string) (hc : opdOk E.ft tys (.o (.sl e)) y x = true) (hty : tys d = .o .s)
    (he : eff (.tos d x) s.env s.g s.next = some (v, u, n)) : Goes P E tys U s o a w (s.after (some d) v u n) := by
  simp only [eff] at he
  split at he
  · rename_i ys hel
    split at he
    · rename_i m hm
      injection he with he; injection he with h1 h2; injection h2 with h2 h3; subst h1 h2 h3
      obtain ⟨ρ0, own0, hb0⟩ := id hr
      have hy := opd_VT (P := P) (C := cx E w.heap own0 ρ0) hc hb0.env
      obtain ⟨ad, cap, news, q1, q2, q3, _, q5⟩ := elems_src hb0 hy hel
      obtain ⟨ns, rfl, rfl⟩ := bytesOf_spec hm
      have ety : tyOf P e = .i .u8 := by unfold tyOf; rw [he8]
      rw [ety] at q2 q3 q5
      have hz : tySize P (.i .u8) = 1 := rfl
      rw [hz] at q2 q3 q5
      simp only [List.length_map, Nat.mul_one] at q2 q3 q1
      have hn : news = ns.map (Value.int .u8) := by
        apply List.ext_getElem?
        intro i
        by_cases hi : i < ns.length
        · have hd' : (ns.map (D.int .u8))[i]? = some (D.int .u8 ns[i]) := by simp [hi]
          have r := q5 i _ hd'
          have hseg : seg news (i * 1) 1 = [news[i]'(by omega)] := by
            rw [Nat.mul_one]
            apply List.ext_getElem?
            intro j
            rw [seg_getElem?]
            cases j with
            | zero => simp [q2, hi]
            | succ j => simp
          rw [hseg] at r
          generalize hx : news[i]'(by omega) = nx at r
          cases r with
          | int _ =>
            rw [List.getElem?_eq_getElem (by omega), hx]
            simp [hi]
        · rw [List.getElem?_eq_none (by omega), List.getElem?_eq_none (by simp; omega)]
      have hlen : ns.length ≤ maxLen := by
        have hY : (val s.env x) ≠ .und := fun k => by rw [k] at hel; cases hel
        have hu : (val s.env x).isUnd = false := by
          unfold elemsOf at hel
          split at hel <;> first | (rename_i k; rw [k]; rfl) | cases hel
        have h := hy.vs hu
        rw [q1] at h
        exact slice_len ⟨_, hel⟩ h
      refine Goes.pure hr (x := .string ⟨(ns.map fun n => UInt8.ofNat n.toNat).toArray⟩) (exec_run (f := convert src dst (a.eval y)) (by simp [execOp, ho]) ?_) hd hlt (fun ρ own _ => by rw [hty]; exact .mk (VS.of_single (.d (.str (by simpa using hlen)) rfl) rfl rfl))
      have r3 := q3 w rfl
      rw [q1] at r3 ⊢
      rw [run_convert_bytes_string w src dst e ad _ cap hs he8 hds]
      cases ad with
      | none =>
        simp only [Builtin.firstCells] at r3
        have h0 : ns = [] := by
          rw [hn] at r3
          have := Result.ok.inj r3
          simpa using this.1
        subst h0
        simp [Conv.bytesToString, Sem.run_pure]
        rfl
      | some ad =>
        simp only [Builtin.firstCells, Nat.mul_one] at r3
        rw [run_bytesToString w ad _ cap ns (by rw [r3, hn]), foldl_pushB]
        have e0 : ByteArray.empty.data = #[] := rfl
        rw [e0]; simp
    · cases he
  · cases he
end
end Go.Fw
namespace Go.Fw
open Go Go.RowKit
variable {P : Program}

section
variable {E : Fr} {tys : Nat → TTy} {U : Nat → Prop} {s : St} {a : Act} {w : World} {o : Oper}

theorem append_room {t t2 ty e e2 : TypeId} (ht : P.underlying t = some (.slice e)) (ht2 : P.underlying t2 = some (.slice e2)) (hg : tyGood P e = true) {base ad : Option Addr} {sLen sCap n cap : Nat} {news : List Value} {w' : World}
    (hf : (Builtin.firstCells (tySize P (tyOf P e)) n (.slice ad n cap)).run P w = .ok news.toArray w) (hle : sLen + n ≤ sCap)
    (hst : ∀ b, base = some b → (storeCells (b.add (sLen * tySize P (tyOf P e))) news).run P w = .ok () w') (hst' : base = none → w' = w) :
    (Builtin.append_ #[t, t2] ty #[.slice base sLen sCap, .slice ad n cap]).run P w = .ok (.slice base (sLen + n) sCap) w' := by
  cases base with
  | none =>
    rw [hst' rfl]
    simp [Builtin.append_, run_underlying ht, run_underlying ht2, tyGood.size hg w, Builtin.lenOf, hle, hf]
  | some b =>
    simp [Builtin.append_, run_underlying ht, run_underlying ht2, tyGood.size hg w, Builtin.lenOf, hle, hf, hst b rfl]

theorem append_grow {t t2 ty e e2 : TypeId} {i : TypeInfo} {z : Value} (ht : P.underlying t = some (.slice e)) (ht2 : P.underlying t2 = some (.slice e2)) (hg : tyGood P e = true) (hi : P.info? e = some i) (hz : i.zero = some z) (hby : i.bytes ≤ 131072) {base ad : Option Addr} {sLen sCap n cap : Nat} {olds news : List Value}
    (hfo : (Builtin.firstCells (tySize P (tyOf P e)) sLen (.slice base sLen sCap)).run P w.drew = .ok olds.toArray w.drew) (hf : (Builtin.firstCells (tySize P (tyOf P e)) n (.slice ad n cap)).run P w.drew = .ok news.toArray w.drew)
    (hgt : sCap < sLen + n) (hm : sLen + n ≤ 1073741824) :
    (Builtin.append_ #[t, t2] ty #[.slice base sLen sCap, .slice ad n cap]).run P w =
      .ok (.slice (some ⟨w.heap.size, 0, none⟩) (sLen + n) (grownCap w (sLen + n) sCap e)) (w.drew.alloc (.cells (olds.toArray ++ news.toArray ++ Builtin.zeroCells z.cells (grownCap w (sLen + n) sCap e - (sLen + n))) e)) := by
  have hn : ¬ (sLen + n ≤ sCap) := by omega
  have h63' : ¬ (9223372036854775807 < ((sLen : Int) + (n : Int))) := by omega
  have hb1 : (sLen + n) * i.bytes ≤ 1073741824 * 131072 := Nat.mul_le_mul hm hby
  have hfit := growslice_fits hgt (bytes := i.bytes) (by omega)
  have h48' : ¬ (281474976710656 < Builtin.nextslicecap (sLen + n) sCap * i.bytes) := by omega
  have hs : (sizeOf e).run P w = .ok (tySize P (tyOf P e)) w := tyGood.size hg w
  simp [Builtin.append_, run_underlying ht, run_underlying ht2, hs, typeInfo, zeroValue, hi, hz, Builtin.lenOf, hn, h63', h48', Question.forced, hf, hfo, newRow, grownCap]
  congr 2
  apply Array.ext'
  simp [List.append_assoc]

/-- What is appended to. -/
theorem app_old {ρ : Nat → Option Loc} {own : Nat → Prop} (_hb : RelB P E tys U s a w ρ own) {e : TypeId} {X : V} {x : Value} (hx : VT P (cx E w.heap own ρ) (.o (.sl e)) X x) {Y v : V} {u : Hp} {n : Nat} (he : appendV s.g s.next X Y = some (v, u, n)) :
    ∃ (ys m : List D) (nl : Bool) (dh : Option Nat), elemsOf s.g Y = some ys ∧ m.length + ys.length ≤ 1073741824 ∧ v = .sl (nl && ys.isEmpty) s.next 0 (m.length + ys.length) ∧ u = dead dh ++ [(s.next, .row true (m ++ ys))] ∧ n = s.next + 1 ∧
      ((nl = true ∧ m = [] ∧ x = .slice none 0 0) ∨
       (nl = false ∧ ∃ h off L l, dh = some h ∧ s.g h = some (.row true l) ∧ ρ h = some L ∧ L.row = true ∧ L.ty = e ∧ pieceOf l off m.length = some m ∧ ∃ ad cap, x = .slice (some ad) m.length cap ∧ m.length ≤ cap ∧ cap ≤ maxLen ∧
         (cap = 0 ∨ ∃ b, L.blk = some b ∧ ad = ⟨b, L.off + off * tySize P (tyOf P e), none⟩ ∧ L.off + (off + cap) * tySize P (tyOf P e) ≤ L.size))) := by
  unfold appendV at he
  split at he
  · cases he
  · rename_i ys hys
    split at he
    · rename_i al h off len
      split at he
      · rename_i l hg
        split at he
        · rename_i hm
          split at he
          · rename_i m hp
            injection he with he; injection he with h1 h2; injection h2 with h2 h3; subst h1 h2 h3
            obtain ⟨p1, p2, p3⟩ := pieceOf.out hp
            subst p2
            obtain ⟨e', e1, L, k1, k2, k3, k4⟩ := (hx.vs rfl).sl
            injection e1 with e1; subst e1
            refine ⟨ys, m, al, some h, hys, hm, rfl, rfl, rfl, ?_⟩
            rcases k4 with ⟨q1, q2, q3⟩ | ⟨q1, ad, cap, q2, q3, q4, q5⟩
            · exact .inl ⟨q1, List.eq_nil_of_length_eq_zero q2, q3⟩
            · exact .inr ⟨q1, h, off, L, l, rfl, hg, k1, k2, k3, hp, ad, cap, q2, q3, q4, q5⟩
          · cases he
        · cases he
      · cases he
    · split at he
      · rename_i hm
        injection he with he; injection he with h1 h2; injection h2 with h2 h3; subst h1 h2 h3
        obtain ⟨e', e1, h⟩ := (hx.vs rfl).dsl
        refine ⟨ys, [], true, none, hys, by simpa [mostLen] using hm, by simp, by simp [dead], rfl, .inl ⟨rfl, rfl, ?_⟩⟩
        rcases h with ⟨_, _, h⟩ | ⟨h, _⟩
        · exact h
        · cases h
      · cases he
    · split at he
      · rename_i hm
        injection he with he; injection he with h1 h2; injection h2 with h2 h3; subst h1 h2 h3
        obtain ⟨e', e1, h⟩ := (hx.vs rfl).asl
        refine ⟨ys, [], true, none, hys, by simpa [mostLen] using hm, by simp, by simp [dead], rfl, .inl ⟨rfl, rfl, ?_⟩⟩
        rcases h with ⟨_, _, h⟩ | ⟨h, _⟩
        · exact h
        · cases h
      · cases he
    · cases he

theorem seg_append_left {x y : List Value} {o n : Nat} (h : o + n ≤ x.length) : seg (x ++ y) o n = seg x o n := by
  simp only [seg]
  rw [List.drop_append_of_le_length (by omega), List.take_append_of_le_length (by simp; omega)]
theorem seg_append_right {x y : List Value} {o n : Nat} : seg (x ++ y) (x.length + o) n = seg y o n := by
  simp only [seg]
  rw [List.drop_append]
  simp [List.drop_of_length_le]

theorem go_app {d : Nat} {x x2 : Opd} {y y2 : Operand} {t t2 e : TypeId} {v : V} {u : Hp} {n : Nat} {zcs : List Value} (hr : Rel P E tys U s a w) (hU : ∀ h, s.next ≤ h → h < n → ¬ U h) (ho : o.op = .call { callee := .builtin .append, args := #[y, y2], argTypes := #[t, t2] }) (hd : o.dst = some d) (hlt : d < a.tmps.size)
    (hu : P.underlying t = some (.slice e)) (hu2 : P.underlying t2 = some (.slice e)) (hg : tyGood P e = true) (hz : zc P e = some zcs) (hzl : zcs.length = tySize P (tyOf P e)) (hby : bytesOk P e = true)
    (hc : opdOk E.ft tys (.o (.sl e)) y x = true) (hc2 : opdOk E.ft tys (.o (.sl e)) y2 x2 = true) (hty : tys d = .o (.sl e))
    (he : eff (.app d x x2) s.env s.g s.next = some (v, u, n)) : Goes P E tys U s o a w (s.after (some d) v u n) := by
  simp only [eff] at he
  obtain ⟨ρ, own, hb⟩ := hr
  have hx := opd_VT (P := P) (C := cx E w.heap own ρ) hc hb.env
  have hx2 := opd_VT (P := P) (C := cx E w.heap own ρ) hc2 hb.env
  obtain ⟨ys, m, nl, dh, h1, h2, rfl, rfl, rfl, h4⟩ := app_old hb hx he
  have h3 : ¬ U s.next := hU _ (Nat.le_refl _) (Nat.lt_succ_self _)
  obtain ⟨ad2, cap2, news, n1, n2, n3, n4, n5⟩ := elems_src hb hx2 h1
  obtain ⟨z, hz1, hz2, ie, hi1, hi2⟩ := zc.run hz w
  have hie := info_size hg hi1
  have hzs : z.cells.size = tySize P (tyOf P e) := by rw [← hz2] at hzl; simpa using hzl
  have hbytes : ie.bytes ≤ 131072 := by
    unfold bytesOk at hby
    rw [hi1] at hby
    simpa using hby
  have hex : ∀ {r : Value} {w' : World}, (Builtin.append_ #[t, t2] o.type #[a.eval y, a.eval y2]).run P w = .ok r w' → (execOp a.eval o).run P w = .ok (.value r) w' := by
    intro r w' h
    simp [execOp, ho, resolve, invoke, builtin, h]
  rw [n1] at n3 hex
  generalize hszd : tySize P (tyOf P e) = sz at *
  -- a new block
  have grow : ∀ {base : Option Addr} {sCap : Nat} {olds : List Value}, a.eval y = .slice base m.length sCap → olds.length = m.length * sz → (∀ w' : World, w'.heap = w.heap → (Builtin.firstCells sz m.length (.slice base m.length sCap)).run P w' = .ok olds.toArray w') →
      (∀ (i : Nat) (d : D), m[i]? = some d → RD P w.heap (cx E w.heap own ρ).S (tyOf P e) d (seg olds (i * sz) sz)) → sCap < m.length + ys.length → Goes P E tys U s o a w (s.after (some d) (.sl false s.next 0 (m.length + ys.length)) (dead dh ++ [(s.next, .row true (m ++ ys))]) (s.next + 1)) := by
    intro base sCap olds hv ho1 ho2 ho3 hgt
    have hcap := grownCap_ge w (m.length + ys.length) sCap e
    have hcapm := grownCap_le_maxLen w (m.length + ys.length) sCap e (by simp only [maxLen]; omega)
    have hrun := append_grow (P := P) (ty := o.type) (w := w) hu hu2 hg hi1 hi2 hbytes (base := base) (ad := ad2) (cap := cap2) (olds := olds) (news := news) (by rw [hszd]; exact ho2 w.drew rfl) (by rw [hszd]; exact n3 w.drew rfl) hgt h2
    generalize grownCap w (m.length + ys.length) sCap e = nc at *
    rw [hv] at hex
    have hsize : (olds.toArray ++ news.toArray ++ Builtin.zeroCells z.cells (nc - (m.length + ys.length))).size = nc * sz := by
      simp only [Array.size_append, List.size_toArray, size_zeroCells, hzs, ho1, n2, ← Nat.add_mul]
      congr 1
      omega
    have hfin := hb.newRow (w' := w.drew.alloc (.cells (olds.toArray ++ news.toArray ++ Builtin.zeroCells z.cells (nc - (m.length + ys.length))) e)) (r := olds.toArray ++ news.toArray ++ Builtin.zeroCells z.cells (nc - (m.length + ys.length))) (e := e) (ds := m ++ ys) (cap := nc) (dh := dh)
      rfl ⟨rfl, rfl, rfl⟩ h3 (by rw [hszd, hsize]; exact Nat.le_refl _) (by simpa using hcap) hcapm (fun i dd hdd => by
        rw [hszd]
        simp only [Array.toList_append, List.append_assoc]
        by_cases hi : i < m.length
        · rw [List.getElem?_append_left hi] at hdd
          rw [seg_append_left (by rw [ho1]; exact mul_part hi)]
          exact ho3 i dd hdd
        · rw [List.getElem?_append_right (by omega)] at hdd
          have hi' := (List.getElem?_eq_some_iff.1 hdd).1
          have e1 : i * sz = olds.length + (i - m.length) * sz := by
            rw [ho1, ← Nat.add_mul]; congr 1; omega
          rw [e1, seg_append_right, seg_append_left (by rw [n2]; exact mul_part hi')]
          exact n5 _ dd hdd) hlt hty
    refine .inl ⟨_, _, hex hrun, ?_⟩
    rw [hd]
    simp only [List.length_append] at hfin
    exact ⟨_, _, hfin⟩
  rcases h4 with ⟨rfl, rfl, hv⟩ | ⟨rfl, h, off, L, l, rfl, q1, q2, q3, q4, q5, ad, cap, hv, q6, q7, q8⟩
  · -- nil
    by_cases hys : ys = []
    · subst hys
      have hn0 : news = [] := List.eq_nil_of_length_eq_zero (by simpa using n2)
      subst hn0
      have hrun := append_room (P := P) (ty := o.type) (w := w) (w' := w) hu hu2 hg (base := none) (ad := ad2) (cap := cap2) (sLen := 0) (sCap := 0) (n := 0) (news := []) (by rw [hszd]; exact n3 w rfl) (by omega) (fun b h => by cases h) (fun _ => rfl)
      rw [hv] at hex
      have hfin := hb.noRow (e := e) (dh := dh) h3 (nl := true) (v := .slice none 0 0) (.inl ⟨rfl, rfl⟩) hlt hty
      refine .inl ⟨_, _, hex hrun, ?_⟩
      rw [hd]
      exact ⟨_, _, hfin⟩
    · have hpos : 0 < ys.length := List.length_pos_iff.2 hys
      have hg' := grow (base := none) (sCap := 0) (olds := []) hv (by simp) (fun w' _ => run_firstCells_none w' _ _ _ _) (fun i d hd => by simp at hd) (by simpa using hpos)
      have e1 : (true && ys.isEmpty) = false := by cases ys; exact absurd rfl hys; rfl
      rw [e1]
      exact hg'
  · simp only [Bool.false_and]
    obtain ⟨p1, p2, p3⟩ := pieceOf.out q5
    have hsl : Sl P (cx E w.heap own ρ) e false h off m.length (a.eval y) := ⟨L, q2, q3, q4, .inr ⟨rfl, ad, cap, hv, q6, q7, by rw [hszd]; exact q8⟩⟩
    by_cases hle : m.length + ys.length ≤ cap
    · by_cases hc0 : cap = 0
      · have hm0 : m = [] := List.eq_nil_of_length_eq_zero (by omega)
        have hys0 : ys = [] := List.eq_nil_of_length_eq_zero (by omega)
        subst hm0 hys0 hc0
        have hn0 : news = [] := List.eq_nil_of_length_eq_zero (by simpa using n2)
        subst hn0
        have hrun := append_room (P := P) (ty := o.type) (w := w) (w' := w) hu hu2 hg (base := some ad) (ad := ad2) (cap := cap2) (sLen := 0) (sCap := 0) (n := 0) (news := []) (by rw [hszd]; exact n3 w rfl) (by omega) (fun b _ => rfl) (fun h => by cases h)
        rw [hv] at hex
        have hfin := hb.noRow (e := e) (dh := some h) h3 (nl := false) (v := .slice (some ad) 0 0) (.inr ⟨rfl, ad, rfl⟩) hlt hty
        refine .inl ⟨_, _, hex hrun, ?_⟩
        rw [hd]
        exact ⟨_, _, hfin⟩
      · rcases q8 with q8 | ⟨b, r1, r2, r3⟩
        · exact absurd q8 hc0
        · obtain ⟨L', t1, t2, t3⟩ := hb.heap.blk h _ q1
          have t1 : ρ h = some L' := t1
          rw [q2] at t1; injection t1 with t1; subst t1
          rcases t3 with ⟨_, t3⟩ | ⟨b', c, te, u1, u2, u3, u4, u5, u6⟩
          · rw [r1] at t3; cases t3
          · rw [r1] at u1; injection u1 with u1; subst u1
            simp only [if_true] at u5
            have u2 : w.heap[b]? = some (.cells c te (0, 0)) := u2
            rw [q4, hszd] at u4 u6
            have hmul : L.off + (off + m.length + ys.length) * sz ≤ c.size := by
              have : (off + m.length + ys.length) * sz ≤ (off + cap) * sz := Nat.mul_le_mul_right _ (by omega)
              omega
            have hsplit : (off + m.length + ys.length) * sz = off * sz + m.length * sz + ys.length * sz := by rw [Nat.add_mul, Nat.add_mul]
            have hbound : L.off + off * sz + m.length * sz + news.length ≤ c.size := by rw [n2]; omega
            have hst := run_storeCells_at (P := P) b (L.off + off * sz + m.length * sz) te news 0 c w u2 (by simpa using hbound) n4
            simp only [Nat.add_zero] at hst
            have hrun := append_room (P := P) (ty := o.type) (w := w) (w' := w.setRow b (splice c.toList (L.off + off * sz + m.length * sz) news).toArray) hu hu2 hg (base := some ad) (ad := ad2) (cap := cap2) (sLen := m.length) (sCap := cap) (n := ys.length) (news := news) (by rw [hszd]; exact n3 w rfl) hle
              (fun b0 hb0 => by injection hb0 with hb0; subst hb0; rw [r2, Addr.add_lit, hszd]; exact hst) (fun h => by cases h)
            rw [hv] at hex
            let L2 : Loc := rowLoc (some b) (L.off + off * sz) L.size e
            have hn : newLoc ρ s.next L2 s.next = some L2 := by simp [newLoc]
            have ev0 := Evo.setRow (w := w) (own := own) (ρ := ρ) u5 (splice c.toList (L.off + off * sz + m.length * sz) news).toArray
            have ev : Evo w.heap (w.setRow b (splice c.toList (L.off + off * sz + m.length * sz) news).toArray).heap own own ρ (newLoc ρ s.next L2) (fun x => x = b) := 
              ⟨ev0.size, ev0.same, ev0.xOwn, ev0.mine, ev0.keep, fun h' L' hL' => (by
                unfold newLoc; rw [if_neg (fun hh => h3 (by rw [← hh]; exact hb.heap.fresh h' L' hL'))]; exact hL')⟩
            have le := ev.le (E := E)
            have hspl := splice_length (c := c.toList) (x := news) (o := L.off + off * sz + m.length * sz) (by simpa using hbound)
            have hfin := hb.renew (w' := w.setRow b (splice c.toList (L.off + off * sz + m.length * sz) news).toArray) (bk := .row true (m ++ ys)) (dh := some h) (L := L2) (d := some d) (v := .sl false s.next 0 (m.length + ys.length)) (x := .slice (some ad) (m.length + ys.length) cap) ⟨rfl, rfl, rfl⟩ ev h3
              (fun b0 hb0 => ⟨h, _, L, rfl, q1, rfl, q2, by rw [hb0]; exact r1⟩)
              (fun b0 hb0 h' x' L3 g1 g2 g3 g4 => by
                injection hb0 with hb0; subst hb0
                rw [hb.heap.apart h h' _ _ L L3 b q1 g1 rfl g2 q2 g3 r1 g4])
              (by
                refine ⟨L2, hn, rfl, .inr ⟨b, _, te, rfl, setRow_heap w b c _ te (0, 0) u2, ?_, ?_, u5, fun i dd hdd => ?_⟩⟩
                · show (splice c.toList (L.off + off * sz + m.length * sz) news).toArray.size = L.size
                  simpa [hspl] using u3
                · show L.off + off * sz + (m ++ ys).length * tySize P (tyOf P e) ≤ (splice c.toList (L.off + off * sz + m.length * sz) news).toArray.size
                  rw [hszd, List.length_append, Nat.add_mul]
                  simp only [List.size_toArray, hspl, Array.length_toList]
                  omega
                · show RD P _ _ (tyOf P e) dd (seg (splice c.toList (L.off + off * sz + m.length * sz) news) (L.off + off * sz + i * tySize P (tyOf P e)) (tySize P (tyOf P e)))
                  rw [hszd]
                  by_cases hi : i < m.length
                  · rw [List.getElem?_append_left hi] at hdd
                    have hip := mul_part (s := sz) hi
                    rw [seg_splice_apart (by simpa using hbound) (by omega)]
                    obtain ⟨_, hl'⟩ := p3 i dd hdd
                    have := u6 (off + i) dd hl'
                    rw [Nat.add_mul, ← Nat.add_assoc] at this
                    exact this.mono le
                  · rw [List.getElem?_append_right (by omega)] at hdd
                    have hi' := (List.getElem?_eq_some_iff.1 hdd).1
                    have hip := mul_part (s := sz) hi'
                    have e1 : L.off + off * sz + i * sz = (L.off + off * sz + m.length * sz) + (i - m.length) * sz := by
                      have : i * sz = m.length * sz + (i - m.length) * sz := by rw [← Nat.add_mul]; congr 1; omega
                      omega
                    rw [e1, ← seg_seg (n := news.length) (by rw [n2]; exact hip), seg_splice_same (by simpa using hbound)]
                    exact (n5 _ dd hdd).mono le)
              (fun k hk => by
                injection hk with hk; subst hk
                refine ⟨hlt, ?_⟩
                rw [hty]
                refine .mk (VS.of_single (.sl ⟨L2, hn, rfl, rfl, .inr ⟨rfl, ad, cap, rfl, hle, q7, .inr ⟨b, rfl, ?_, ?_⟩⟩⟩) rfl rfl)
                · rw [r2]; simp [L2, rowLoc]
                · show L.off + off * sz + (0 + cap) * tySize P (tyOf P e) ≤ L.size
                  rw [hszd, Nat.zero_add]
                  rw [Nat.add_mul] at r3
                  omega)
            refine .inl ⟨_, _, hex hrun, ?_⟩
            rw [hd]
            exact ⟨_, _, hfin⟩
    · rcases hsl.data (hb.heap.blk h _ q1) q5 with ⟨k0, _⟩ | ⟨_, b, oo, cap', sp, gg, k1, k2, k3, k4, k5, k6, k7⟩
      · cases k0
      · have hlen : ∀ i, i < m.length → (gg i).length = sz := fun i hi => by rw [(k7 i m[i] (List.getElem?_eq_getElem hi)).length, hszd]
        rw [hszd] at k6
        obtain ⟨olds, o1, o2, o3⟩ := src (P := P) (w := w) (b := b) (oo := oo) (n := m.length) (cap := cap') (sp := sp) (fun hn => k4 (List.length_pos_iff.1 hn)) hlen k6
        rw [hv] at k1
        injection k1 with k1 k1' k1''
        subst k1''
        refine grow (base := some ad) (sCap := cap) (olds := olds) hv o1 (fun w' hw => by rw [k1]; exact o2 w' hw) (fun i dd hdd => ?_) (by omega)
        rw [o3 i (List.getElem?_eq_some_iff.1 hdd).1]
        exact k7 i dd hdd

end
end Go.Fw
