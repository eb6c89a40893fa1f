/- The end of a call on data that stay. No conditions. -/
import Derived.Test.YtfddchjmpmjcfaaGreatS6
set_option linter.unusedVariables false
set_option linter.unusedSimpArgs false
namespace Go.Fw
open Go
section
variable {kp : Nat → Option KF} {e : Env} {h : Hp} {t : Nat → Option Blk} {b n : Nat} {r : List GI}
theorem o_das (d f : Nat) (xs : List Opd) : run kp (.ops (⟨none, .das d f xs⟩ :: r) ⟨e, h, t, b, n⟩) = dasK0 kp (freezes (gOf h t) (xs.map (val e))) f d r ⟨e, h, t, b, n⟩ := by rw [run_cons]; rfl
theorem o_cad (d f : Nat) (xs : List Opd) (nt : List Nat) : run kp (.ops (⟨none, .cad d f xs nt⟩ :: r) ⟨e, h, t, b, n⟩) = cadK kp (run kp (.call f (xs.map (val e)) (gOf h t) n)) nt d r ⟨e, h, t, b, n⟩ := by rw [run_cons]; rfl
theorem cadK_val' (v : V) (u : Hp) (m : Nat) (nt : List Nat) (d : Nat) : cadK kp (some (.val v u m)) nt d r ⟨e, h, t, b, n⟩ = cadF kp (freeze (gOf (hputs h u) t) v) u m nt d r ⟨e, h, t, b, n⟩ := rfl
end
attribute [simp] o_cad cadK_val' cadK_none cadK_ite cadF_some
attribute [simp] o_das dasK_ds dasK_none dasK0_some dasK_ite
/-- All of these are rows: those that are not yet seen are reached. -/
theorem reach_rows' {g : Nat → Option Blk} : ∀ (k : Nat) (todo seen : List Nat), todo.length < k → (∀ h ∈ todo, ∃ o l, g h = some (.row o l)) → ∀ x, x ∈ reach g 0 k todo seen ↔ x ∈ seen ∨ x ∈ todo
  | 0, _, _, h, _, _ => by omega
  | k + 1, [], seen, _, _, x => by simp [reach]
  | k + 1, h :: t, seen, hk, hg, x => by
    obtain ⟨o, l, hl⟩ := hg h List.mem_cons_self
    simp only [reach]
    rw [if_neg (by omega)]
    split
    · rename_i hc
      rw [reach_rows' k t seen (by simpa using hk) (fun x hx => hg x (List.mem_cons_of_mem _ hx))]
      rw [List.contains_eq_mem, decide_eq_true_eq] at hc
      constructor
      · rintro (k | k)
        · exact .inl k
        · exact .inr (List.mem_cons_of_mem _ k)
      · rintro (k | k)
        · exact .inl k
        · rcases List.mem_cons.1 k with k | k
          · subst k; exact .inl hc
          · exact .inr k
    · rw [hl]
      simp only [Blk.hs, List.nil_append]
      rw [reach_rows' k t (seen ++ [h]) (by simpa using hk) (fun x hx => hg x (List.mem_cons_of_mem _ hx))]
      simp [or_assoc]
mutual
theorem freeze_rows {g : Nat → Option Blk} : ∀ (v : V) {d : D} {u : Hp}, freeze g v = some (d, u) → ∀ h ∈ v.hs, ∃ o l, g h = some (.row o l)
  | .int _ _, _, _, _, h, hh => by simp [V.hs] at hh
  | .bool _, _, _, _, h, hh => by simp [V.hs] at hh
  | .d _, _, _, _, h, hh => by simp [V.hs] at hh
  | .agg l, d, u, hf, h, hh => by
    simp only [freeze] at hf
    split at hf
    · rename_i m w hm
      exact freezes_rows l hm h (by simpa [V.hs] using hh)
    · cases hf
  | .asl _ _, _, _, _, h, hh => by simp [V.hs] at hh
  | .sl a b c d', d, u, hf, h, hh => by
    simp only [V.hs, List.mem_singleton] at hh
    subst hh
    simp only [freeze] at hf
    split at hf
    · rename_i o l hl; exact ⟨o, l, hl⟩
    · cases hf
  | .ptr _ _, _, _, hf, _, _ => by simp [freeze] at hf
  | .rp _, _, _, hf, _, _ => by simp [freeze] at hf
  | .clo _ _ _, _, _, hf, _, _ => by simp [freeze] at hf
  | .map _, _, _, hf, _, _ => by simp [freeze] at hf
  | .tup _, _, _, hf, _, _ => by simp [freeze] at hf
  | .und, _, _, hf, _, _ => by simp [freeze] at hf
theorem freezes_rows {g : Nat → Option Blk} : ∀ (l : List V) {m : List D} {u : Hp}, freezes g l = some (m, u) → ∀ h ∈ V.hss l, ∃ o l, g h = some (.row o l)
  | [], _, _, _, h, hh => by simp [V.hss] at hh
  | v :: l, m, u, hf, h, hh => by
    simp only [V.hss, List.mem_append] at hh
    simp only [freezes] at hf
    split at hf
    · rename_i x u1 y u2 h1 h2
      rcases hh with hh | hh
      · exact freeze_rows v h1 h hh
      · exact freezes_rows l h2 h hh
    · cases hf
end
mutual
theorem freeze_ren {g g' : Nat → Option Blk} {r : Nat → Nat} : ∀ (v : V) {d : D} {u : Hp}, (∀ h ∈ v.hs, g' (r h) = g h) → freeze g v = some (d, u) → ∃ u', freeze g' (v.ren r) = some (d, u')
  | .int _ _, d, u, _, hf => ⟨u, hf⟩
  | .bool _, d, u, _, hf => ⟨u, hf⟩
  | .d _, d, u, _, hf => ⟨u, hf⟩
  | .agg l, d, u, h, hf => by
    simp only [freeze] at hf
    split at hf
    · rename_i m w hm
      injection hf with hf; injection hf with h1 h2; subst h1 h2
      obtain ⟨u', hu'⟩ := freezes_ren l (by simpa [V.hs] using h) hm
      exact ⟨u', by simp only [V.ren, freeze, hu']⟩
    · cases hf
  | .asl true _, d, u, _, hf => ⟨u, hf⟩
  | .asl false _, d, u, _, hf => by simp [freeze] at hf
  | .sl a hh b c, d, u, h, hf => by
    simp only [freeze] at hf
    simp only [V.ren, freeze]
    rw [h hh (by simp [V.hs])]
    split at hf
    · rename_i o l hl
      split at hf
      · rename_i m hm
        injection hf with hf; injection hf with h1 h2; subst h1 h2
        exact ⟨_, rfl⟩
      · cases hf
    · cases hf
  | .ptr _ _, _, _, _, hf => by simp [freeze] at hf
  | .rp _, _, _, _, hf => by simp [freeze] at hf
  | .clo _ _ _, _, _, _, hf => by simp [freeze] at hf
  | .map _, _, _, _, hf => by simp [freeze] at hf
  | .tup _, _, _, _, hf => by simp [freeze] at hf
  | .und, _, _, _, hf => by simp [freeze] at hf
theorem freezes_ren {g g' : Nat → Option Blk} {r : Nat → Nat} : ∀ (l : List V) {m : List D} {u : Hp}, (∀ h ∈ V.hss l, g' (r h) = g h) → freezes g l = some (m, u) → ∃ u', freezes g' (V.rens r l) = some (m, u')
  | [], m, u, _, hf => ⟨u, hf⟩
  | v :: l, m, u, h, hf => by
    simp only [freezes] at hf
    split at hf
    · rename_i x u1 y u2 h1 h2
      injection hf with hf; injection hf with e1 e2; subst e1 e2
      obtain ⟨w1, k1⟩ := freeze_ren v (fun x hx => h x (by simp [V.hss, hx])) h1
      obtain ⟨w2, k2⟩ := freezes_ren l (fun x hx => h x (by simp [V.hss, hx])) h2
      exact ⟨w1 ++ w2, by simp only [V.rens, freezes, k1, k2]⟩
    · cases hf
end
theorem vsOf_hs' {g : Nat → Option Blk} {v : V} {m : List D} {u : Hp} (h : freezes g (vsOf v) = some (m, u)) : v.hs = V.hss (vsOf v) := by
  cases v <;> first | (simp [vsOf, V.hss, V.hs]; done) | (simp [vsOf, freezes, freeze] at h; done)
/-- What a call on data that stay hands back, in the memory that it had. -/
theorem fink {v : V} {e : Env} {h : Hp} {n : Nat} (ho : (freezes (hlook h) (vsOf v)).isSome = true) (hl : (V.hss (vsOf v)).length < 4096) : frzK (canK (canon [(0, v)] ⟨e, h, fun _ => none, 0, n⟩)) = frK (freezes (hlook h) (vsOf v)) := by
  obtain ⟨⟨m, u⟩, hf⟩ := Option.isSome_iff_exists.1 ho
  have hg : St.g ⟨e, h, fun _ => none, 0, n⟩ = hlook h := by
    funext x
    simp only [St.g]
    cases hlook h x <;> rfl
  have hvs := vsOf_hs' hf
  have hrows := freezes_rows _ hf
  have hreach : ∀ x, x ∈ reach (hlook h) 0 4096 v.hs [] ↔ x ∈ v.hs := fun x => by
    rw [reach_rows' 4096 v.hs [] (by rw [hvs]; exact hl) (by rw [hvs]; exact hrows)]
    simp
  have hnil : hpHs (gathered (hlook h) id 0 (reach (hlook h) 0 4096 v.hs [])) = [] := by
    have key : ∀ (l : List Nat) (m : Nat), (∀ y ∈ l, ∃ o z, hlook h y = some (.row o z)) → hpHs (gathered (hlook h) id m l) = [] := by
      intro l
      induction l with
      | nil => intro m _; rfl
      | cons y l ih =>
        intro m hy
        obtain ⟨o, z, hz⟩ := hy y List.mem_cons_self
        simp only [gathered, hz, hpHs, Blk.ren, Blk.hs, List.nil_append]
        exact ih (m + 1) (fun y' hy' => hy y' (List.mem_cons_of_mem _ hy'))
    exact key _ 0 (fun y hy => hrows y (by rw [← hvs]; exact (hreach y).1 hy))
  have hcan : canon [(0, v)] ⟨e, h, fun _ => none, 0, n⟩ = some { env := [(0, v.ren (renOf 0 (reach (hlook h) 0 4096 v.hs [])))], hp := gathered (hlook h) (renOf 0 (reach (hlook h) 0 4096 v.hs [])) 0 (reach (hlook h) 0 4096 v.hs []), tl := fun _ => none, base := 0, next := (reach (hlook h) 0 4096 v.hs []).length } := by
    simp only [canon, hg, outer_zero, envHs, hpHs, List.append_nil, hnil]
    rw [if_pos]
    · simp [envRen, hpRen]
    · rw [List.all_eq_true]
      intro x hx
      simp only [Bool.or_eq_true, decide_eq_true_eq]
      right
      rw [List.contains_eq_mem]
      exact decide_eq_true ((hreach x).2 hx)
  rw [hcan]
  simp only [canK, look, if_true, frzK]
  have hgat : ∀ x ∈ V.hss (vsOf v), hlook (gathered (hlook h) (renOf 0 (reach (hlook h) 0 4096 v.hs [])) 0 (reach (hlook h) 0 4096 v.hs [])) (renOf 0 (reach (hlook h) 0 4096 v.hs []) x) = hlook h x := by
    intro x hx
    obtain ⟨o, l, hl⟩ := hrows x hx
    have hx' := (hreach x).2 (by rw [hvs]; exact hx)
    have er : renOf 0 (reach (hlook h) 0 4096 v.hs []) x = idx (reach (hlook h) 0 4096 v.hs []) x := by simp [renOf]
    rw [er, hlook_gathered]
    rw [if_pos (Nat.zero_le _)]
    have := idx_get (reach (hlook h) 0 4096 v.hs []) x hx'
    simp only [Nat.sub_zero, this, Option.map_some, hl]
    rfl
  rw [vsOf_ren]
  obtain ⟨u', hu'⟩ := freezes_ren _ hgat hf
  rw [hu', hf]
  rfl
attribute [simp] fink frK
theorem frzK_ite (c : Prop) [Decidable c] (x y : Option Ans) : frzK (if c then x else y) = if c then frzK x else frzK y := by split <;> rfl
theorem frzK_none : frzK none = none := rfl
theorem frzK_val (v : V) (u : Hp) (n : Nat) : frzK (some (.val v u n)) = frK (freezes (hlook u) (vsOf v)) := by
  cases v <;> rfl
attribute [simp] frzK_ite frzK_none frzK_val
end Go.Fw
