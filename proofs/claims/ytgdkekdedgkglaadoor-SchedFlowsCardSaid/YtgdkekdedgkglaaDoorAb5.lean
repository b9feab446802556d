/- A deterministic heap for the model, proved sound, and walks of the program over it: part 5. No condition. -/
import Derived.Test.YtgdkekdedgkglaaDoorAb1
import Derived.Test.YtgdkekdedgkglaaDoorAb2
import Derived.Test.YtgdkekdedgkglaaDoorAb3
import Derived.Test.YtgdkekdedgkglaaDoorAb4
set_option linter.unusedVariables false
set_option linter.unusedSimpArgs false
set_option linter.unusedSectionVars false
section
/- The scheduler as it is made: what holds of it at all times. No Go in it. -/
namespace Go.Abs.Sch
open Go.Abs

abbrev G := Str → Option MT
def gupd (g : G) (k : Str) (f : MT → MT) : G := fun k' => if k' = k then (g k').map f else g k'
theorem mget_mupL' {k : Str} {f : MT → MT} (hf : ∀ t, (f t).key = t.key) (k' : Str) : ∀ (l : List MT), mget (mupL l k f) k' = if k' = k then (mget l k').map f else mget l k'
  | [] => by simp [mget, mupL]
  | t :: l => by
    have ih := mget_mupL' (k := k) hf k' l
    have hkey : (if t.key = k then f t else t).key = t.key := by split; exact hf t; rfl
    unfold mget mupL at *
    rw [List.map_cons, List.find?_cons, List.find?_cons, hkey]
    by_cases e : t.key = k'
    · subst e
      simp only [bEq_self]
      split <;> simp_all
    · rw [bEq_false.2 e]
      simp only
      rw [ih]
theorem mget_up {l : List MT} {k : Str} {f : MT → MT} (hf : ∀ t, (f t).key = t.key) : mget (mupL l k f) = gupd (mget l) k f := by
  funext k'
  rw [mget_mupL' hf]; rfl
theorem mget_key {l : List MT} {k : Str} {t : MT} (h : mget l k = some t) : t.key = k := bEq_iff.1 (by simpa using List.find?_some h)
theorem mget_of_mem : ∀ {l : List MT} {t : MT}, (mkeys l).Nodup → t ∈ l → mget l t.key = some t
  | [], t, _, h => by simp at h
  | x :: l, t, hn, h => by
    simp only [mkeys, List.map_cons, List.nodup_cons] at hn
    unfold mget
    rw [List.find?_cons]
    rcases List.mem_cons.1 h with rfl | hm
    · simp
    · have hne : x.key ≠ t.key := fun e => hn.1 (by rw [e]; exact List.mem_map.2 ⟨t, hm, rfl⟩)
      rw [bEq_false.2 hne]
      exact mget_of_mem (l := l) hn.2 hm
theorem mget_mem' {l : List MT} {k : Str} {t : MT} (h : mget l k = some t) : t ∈ l := List.mem_of_find?_eq_some h

structure IG (g : G) (slots queue : List Str) : Prop where
  key : ∀ k t, g k = some t → t.key = k ∧ k ≠ e0
  st : ∀ k t, g k = some t → 1 ≤ t.st ∧ t.st ≤ 4
  q1 : ∀ k, k ∈ queue → ∃ t, g k = some t ∧ t.st = 1
  qn : queue.Nodup
  q2 : ∀ k t, g k = some t → t.st = 1 → k ∈ queue
  s1 : ∀ k, k ∈ slots → k ≠ e0 → ∃ t, g k = some t ∧ t.st = 2
  sn : ∀ (i j : Nat) (k : Str), slots[i]? = some k → slots[j]? = some k → k ≠ e0 → i = j
  s2 : ∀ k t, g k = some t → t.st = 2 → k ∈ slots
  w1 : ∀ k t, g k = some t → ∀ j, j ∈ t.ws → ∃ t', g j = some t' ∧ t'.st = 3 ∧ t'.on = k
  wn : ∀ k t, g k = some t → t.ws.Nodup
  w2 : ∀ k t, g k = some t → t.st = 3 → ∃ t', g t.on = some t' ∧ k ∈ t'.ws
structure IOk (m : MI) : Prop where
  nodup : (mkeys m.tasks).Nodup
  ig : IG (mget m.tasks) m.slots m.queue

theorem iok_new (n : Nat) : IOk ⟨[], List.replicate n e0, []⟩ := by
  refine ⟨List.nodup_nil, ⟨?_, ?_, ?_, List.nodup_nil, ?_, ?_, ?_, ?_, ?_, ?_, ?_⟩⟩
  all_goals first
    | (intro k t h; simp [mget] at h; done)
    | (intro k h; simp at h; done)
    | skip
  · intro k h h0
    exact absurd (List.mem_replicate.1 h).2 h0
  · intro i j k h _ h0
    exact absurd (List.mem_replicate.1 (List.mem_of_getElem? h)).2 h0

theorem mget_snoc {l : List MT} {t : MT} (h : mget l t.key = none) (k : Str) : mget (l ++ [t]) k = if k = t.key then some t else mget l k := by
  unfold mget at *
  rw [List.find?_append]
  by_cases e : k = t.key
  · subst e; rw [if_pos rfl, h]; simp
  · rw [if_neg e]
    cases hx : List.find? (fun t => bEq t.key k) l with
    | some x => rfl
    | none =>
      have : bEq t.key k = false := bEq_false.2 fun x => e x.symm
      simp [this]
theorem mget_none' {l : List MT} {k : Str} (h : mget l k = none) : k ∉ mkeys l := fun hm => by
  obtain ⟨t, ht, e⟩ := List.mem_map.1 hm
  have := List.find?_eq_none.1 h t ht
  rw [e] at this; simp at this
theorem iok_want1 {m : MI} {k : Str} (K : IOk m) (hk : k ≠ e0) : IOk (iwant1 m k) := by
  unfold iwant1
  cases e : mget m.tasks k with
  | some t => exact K
  | none =>
    have I := K.ig
    have hg : ∀ k', mget (m.tasks ++ [newMT k]) k' = if k' = k then some (newMT k) else mget m.tasks k' := mget_snoc (t := newMT k) e
    have old : ∀ k' t, mget m.tasks k' = some t → mget (m.tasks ++ [newMT k]) k' = some t := fun k' t h => by
      rw [hg, if_neg (fun x => by rw [x, e] at h; cases h)]; exact h
    have cs : ∀ k' t, mget (m.tasks ++ [newMT k]) k' = some t → (k' = k ∧ t = newMT k) ∨ mget m.tasks k' = some t := fun k' t h => by
      rw [hg] at h
      split at h
      · rename_i x; cases h; exact .inl ⟨x, rfl⟩
      · exact .inr h
    have hq : k ∉ m.queue := fun h => by
      obtain ⟨t, ht, _⟩ := I.q1 k h
      rw [e] at ht; cases ht
    refine ⟨?_, ⟨?_, ?_, ?_, ?_, ?_, ?_, I.sn, ?_, ?_, ?_, ?_⟩⟩
    · show (mkeys (m.tasks ++ [newMT k])).Nodup
      simp only [mkeys, List.map_append, List.map_cons, List.map_nil]
      rw [List.nodup_append]
      refine ⟨K.nodup, by simp, fun a ha b hb => ?_⟩
      simp [newMT] at hb; subst hb
      rintro rfl; exact mget_none' e ha
    · intro k' t h
      rcases cs k' t h with ⟨rfl, rfl⟩ | h
      · exact ⟨rfl, hk⟩
      · exact I.key k' t h
    · intro k' t h
      rcases cs k' t h with ⟨rfl, rfl⟩ | h
      · simp [newMT]
      · exact I.st k' t h
    · intro k' h
      rcases List.mem_append.1 h with h | h
      · obtain ⟨t, h1, h2⟩ := I.q1 k' h
        exact ⟨t, old _ _ h1, h2⟩
      · simp at h; subst h
        exact ⟨newMT k', by rw [hg, if_pos rfl], rfl⟩
    · rw [List.nodup_append]
      exact ⟨I.qn, by simp, fun a ha b hb => by simp at hb; subst hb; rintro rfl; exact hq ha⟩
    · intro k' t h h1
      rcases cs k' t h with ⟨rfl, rfl⟩ | h
      · simp
      · exact List.mem_append_left _ (I.q2 k' t h h1)
    · intro k' h h0
      obtain ⟨t, h1, h2⟩ := I.s1 k' h h0
      exact ⟨t, old _ _ h1, h2⟩
    · intro k' t h h1
      rcases cs k' t h with ⟨rfl, rfl⟩ | h
      · simp [newMT] at h1
      · exact I.s2 k' t h h1
    · intro k' t h j hj
      rcases cs k' t h with ⟨rfl, rfl⟩ | h
      · simp [newMT] at hj
      · obtain ⟨t', h1, h2⟩ := I.w1 k' t h j hj
        exact ⟨t', old _ _ h1, h2⟩
    · intro k' t h
      rcases cs k' t h with ⟨rfl, rfl⟩ | h
      · simp [newMT]
      · exact I.wn k' t h
    · intro k' t h h1
      rcases cs k' t h with ⟨rfl, rfl⟩ | h
      · simp [newMT] at h1
      · obtain ⟨t', h1, h2⟩ := I.w2 k' t h h1
        exact ⟨t', old _ _ h1, h2⟩
theorem iok_wants {ks : List Str} : ∀ {m : MI}, IOk m → e0 ∉ ks → IOk (ks.foldl iwant1 m) := by
  induction ks with
  | nil => intro m K _; exact K
  | cons k ks ih =>
    intro m K h
    exact ih (iok_want1 K fun e => h (by rw [e]; simp)) fun x => h (by simp [x])
theorem iok_want {m : MI} {ks : List Str} (K : IOk m) : IOk (iwant m ks).2 := by
  unfold iwant
  by_cases e : memB e0 ks = true
  · rw [if_pos e]; exact K
  · rw [if_neg e]
    exact iok_wants K (memB_not.1 (by simpa using e))
theorem gupd_cs {g : G} {k k' : Str} {f : MT → MT} {t : MT} (h : gupd g k f k' = some t) : (k' = k ∧ ∃ t0, g k = some t0 ∧ t = f t0) ∨ (k' ≠ k ∧ g k' = some t) := by
  unfold gupd at h
  split at h
  · rename_i e; subst e
    cases hx : g k' with
    | none => rw [hx] at h; cases h
    | some t0 => rw [hx] at h; exact .inl ⟨rfl, t0, rfl, by simpa using h.symm⟩
  · rename_i e; exact .inr ⟨e, h⟩
theorem gupd_same {g : G} {k : Str} {f : MT → MT} {t : MT} (h : g k = some t) : gupd g k f k = some (f t) := by simp [gupd, h]
theorem gupd_ne {g : G} {k k' : Str} {f : MT → MT} (h : k' ≠ k) : gupd g k f k' = g k' := by simp [gupd, h]
theorem mupL_nodup {l : List MT} {k : Str} {f : MT → MT} (hf : ∀ t, (f t).key = t.key) (h : (mkeys l).Nodup) : (mkeys (mupL l k f)).Nodup := by
  have : mkeys (mupL l k f) = mkeys l := by
    unfold mkeys mupL
    rw [List.map_map]
    refine List.map_congr_left fun t _ => ?_
    simp only [Function.comp]
    split
    · exact hf t
    · rfl
  rw [this]; exact h
theorem iok_fillAt {m : MI} {out : List Str} {i : Nat} (K : IOk m) : IOk (ifillAt m out i).1 := by
  unfold ifillAt
  split
  · rename_i s hs
    split
    · rename_i e; subst e
      split
      · rename_i k q hkq
        have I := K.ig
        have hkm : k ∈ m.queue := by rw [hkq]; simp
        obtain ⟨tk, htk, hst⟩ := I.q1 k hkm
        have hk0 := (I.key k tk htk).2
        have hqn : k ∉ q ∧ q.Nodup := by have := I.qn; rw [hkq] at this; exact List.nodup_cons.1 this
        have hlt := (List.getElem?_eq_some_iff.1 hs).1
        refine ⟨mupL_nodup (fun _ => rfl) K.nodup, ?_⟩
        simp only
        rw [mget_up (f := fun t => { t with st := 2, starts := t.starts + 1 }) (fun _ => rfl)]
        refine ⟨?_, ?_, ?_, hqn.2, ?_, ?_, ?_, ?_, ?_, ?_, ?_⟩
        · intro k' t h
          rcases gupd_cs h with ⟨rfl, t0, h0, rfl⟩ | ⟨_, h⟩
          · exact I.key k' t0 h0
          · exact I.key k' t h
        · intro k' t h
          rcases gupd_cs h with ⟨rfl, t0, h0, rfl⟩ | ⟨_, h⟩
          · simp
          · exact I.st k' t h
        · intro k' h
          obtain ⟨t, h1, h2⟩ := I.q1 k' (by rw [hkq]; simp [h])
          have hne : k' ≠ k := fun e => hqn.1 (e ▸ h)
          exact ⟨t, by rw [gupd_ne hne]; exact h1, h2⟩
        · intro k' t h h1
          rcases gupd_cs h with ⟨rfl, t0, h0, rfl⟩ | ⟨hne, h⟩
          · simp at h1
          · have := I.q2 k' t h h1
            rw [hkq] at this
            rcases List.mem_cons.1 this with x | x
            · exact absurd x hne
            · exact x
        · intro k' h h0
          rcases List.mem_or_eq_of_mem_set h with h | rfl
          · obtain ⟨t, h1, h2⟩ := I.s1 k' h h0
            have hne : k' ≠ k := fun e => by subst e; rw [htk] at h1; cases h1; omega
            exact ⟨t, by rw [gupd_ne hne]; exact h1, h2⟩
          · exact ⟨_, gupd_same htk, rfl⟩
        · have hks : ∀ j : Nat, m.slots[j]? ≠ some k := fun j hj => by
            obtain ⟨t, h1, h2⟩ := I.s1 k (List.mem_of_getElem? hj) hk0
            rw [htk] at h1; cases h1; omega
          intro a b k' ha hb h0
          rw [List.getElem?_set] at ha hb
          split at ha <;> split at hb
          · omega
          · rename_i e1 e2
            cases ha; exact absurd hb (hks b)
          · rename_i e1 e2
            cases hb; exact absurd ha (hks a)
          · exact I.sn a b k' ha hb h0
        · intro k' t h h1
          rcases gupd_cs h with ⟨rfl, t0, h0, rfl⟩ | ⟨hne, h⟩
          · exact List.mem_iff_getElem?.2 ⟨i, by simp [hlt]⟩
          · obtain ⟨j, hj⟩ := List.mem_iff_getElem?.1 (I.s2 k' t h h1)
            have hji : i ≠ j := fun e => by subst e; rw [hs] at hj; cases hj; exact (I.key _ t h).2 rfl
            exact List.mem_iff_getElem?.2 ⟨j, by rw [List.getElem?_set_ne hji]; exact hj⟩
        · intro k' t h j hj
          have hw : ∃ t0, mget m.tasks k' = some t0 ∧ t0.ws = t.ws := by
            rcases gupd_cs h with ⟨rfl, t0, h0, rfl⟩ | ⟨hne, h⟩
            · exact ⟨t0, h0, rfl⟩
            · exact ⟨t, h, rfl⟩
          obtain ⟨t0, h0, hw⟩ := hw
          obtain ⟨t', h1, h2, h3⟩ := I.w1 k' t0 h0 j (by rw [hw]; exact hj)
          have hne : j ≠ k := fun e => by subst e; rw [htk] at h1; cases h1; omega
          exact ⟨t', by rw [gupd_ne hne]; exact h1, h2, h3⟩
        · intro k' t h
          rcases gupd_cs h with ⟨rfl, t0, h0, rfl⟩ | ⟨hne, h⟩
          · exact I.wn k' t0 h0
          · exact I.wn k' t h
        · intro k' t h h1
          rcases gupd_cs h with ⟨rfl, t0, h0, rfl⟩ | ⟨hne, h⟩
          · simp at h1
          · obtain ⟨t', h2, h3⟩ := I.w2 k' t h h1
            by_cases e : t.on = k
            · exact ⟨{ t' with st := 2, starts := t'.starts + 1 }, by rw [e] at h2 ⊢; exact gupd_same h2, h3⟩
            · exact ⟨t', by rw [gupd_ne e]; exact h2, h3⟩
      · exact K
    · exact K
  · exact K
theorem iok_fill : ∀ (n : Nat) {m : MI} {out : List Str} {i : Nat}, IOk m → IOk (ifillFrom n m out i).1
  | 0, _, _, _, K => K
  | n + 1, _, _, _, K => iok_fill n (iok_fillAt K)
theorem ileave_at {g : G} {slots queue : List Str} {k : Str} (I : IG g slots queue) (hk : k ∈ slots) (h0 : k ≠ e0) : ∃ j, slots[j]? = some k ∧ ileave slots k = slots.set j e0 := by
  unfold ileave
  cases e : slots.findIdx? (fun t => bEq k t) with
  | none =>
    have := List.findIdx?_eq_none_iff.1 e k hk
    simp at this
  | some j =>
    obtain ⟨hj, h1, _⟩ := List.findIdx?_eq_some_iff_getElem.1 e
    exact ⟨j, by rw [List.getElem?_eq_getElem hj, ← bEq_iff.1 h1], rfl⟩
/-- A slot left. -/
theorem leave_sn {slots : List Str} {j : Nat} (sn : ∀ (i j : Nat) (k : Str), slots[i]? = some k → slots[j]? = some k → k ≠ e0 → i = j) : ∀ (a b : Nat) (k : Str), (slots.set j e0)[a]? = some k → (slots.set j e0)[b]? = some k → k ≠ e0 → a = b := by
  intro a b k ha hb h0
  rw [List.getElem?_set] at ha hb
  split at ha
  · split at ha
    · cases ha; exact absurd rfl h0
    · cases ha
  · split at hb
    · split at hb
      · cases hb; exact absurd rfl h0
      · cases hb
    · exact sn a b k ha hb h0
theorem leave_mem {slots : List Str} {j : Nat} {k x : Str} (hj : slots[j]? = some k) (sn : ∀ (i j : Nat) (k : Str), slots[i]? = some k → slots[j]? = some k → k ≠ e0 → i = j) (hk0 : k ≠ e0) (hx : x ≠ e0) : x ∈ slots.set j e0 ↔ x ∈ slots ∧ x ≠ k := by
  constructor
  · intro h
    obtain ⟨i, hi⟩ := List.mem_iff_getElem?.1 h
    rw [List.getElem?_set] at hi
    split at hi
    · split at hi
      · cases hi; exact absurd rfl hx
      · cases hi
    · rename_i hne
      refine ⟨List.mem_of_getElem? hi, fun e => hne ?_⟩
      subst e
      exact sn j i x hj hi hk0
  · rintro ⟨h, hne⟩
    obtain ⟨i, hi⟩ := List.mem_iff_getElem?.1 h
    refine List.mem_iff_getElem?.2 ⟨i, ?_⟩
    rw [List.getElem?_set_ne]
    · exact hi
    · rintro rfl; rw [hj] at hi; cases hi; exact hne rfl
def gm (g : G) (F : Str → MT → MT) : G := fun k => (g k).map (F k)
theorem gm_some {g : G} {F : Str → MT → MT} {k : Str} {t : MT} (h : gm g F k = some t) : ∃ t0, g k = some t0 ∧ t = F k t0 := by
  unfold gm at h
  cases hx : g k with
  | none => rw [hx] at h; cases h
  | some t0 => rw [hx] at h; exact ⟨t0, rfl, by simpa using h.symm⟩
theorem gm_of {g : G} {F : Str → MT → MT} {k : Str} {t : MT} (h : g k = some t) : gm g F k = some (F k t) := by simp [gm, h]
theorem gupd_gm {g : G} {k : Str} {f : MT → MT} : gupd g k f = gm g fun k' t => if k' = k then f t else t := by
  funext k'
  unfold gupd gm
  by_cases e : k' = k
  · simp [e]
  · simp [e]
theorem gm_gm {g : G} {F F' : Str → MT → MT} : gm (gm g F) F' = gm g fun k t => F' k (F k t) := by
  funext k
  unfold gm
  cases g k <;> rfl
theorem gm_congr {g : G} {F F' : Str → MT → MT} (h : ∀ k t, g k = some t → F k t = F' k t) : gm g F = gm g F' := by
  funext k
  unfold gm
  cases hx : g k with
  | none => rfl
  | some t => simp [h k t hx]

/-- Waiting. -/
def waitF (key on : Str) (k : Str) (t : MT) : MT := { t with st := if k = key then 3 else t.st, on := if k = key then on else t.on, ws := if k = on then t.ws ++ [key] else t.ws }
theorem ig_wait {g : G} {slots queue : List Str} {key on : Str} {t0 : MT} {j : Nat} (I : IG g slots queue) (hk : g key = some t0) (hst : t0.st = 2) (hon : ∃ t, g on = some t) (hj : slots[j]? = some key) : IG (gm g (waitF key on)) (slots.set j e0) queue := by
  have hk0 := (I.key key t0 hk).2
  have lm := fun x (hx : x ≠ e0) => leave_mem (x := x) hj I.sn hk0 hx
  refine ⟨?_, ?_, ?_, I.qn, ?_, ?_, leave_sn I.sn, ?_, ?_, ?_, ?_⟩
  · intro k t h
    obtain ⟨u, hu, rfl⟩ := gm_some h
    exact I.key k u hu
  · intro k t h
    obtain ⟨u, hu, rfl⟩ := gm_some h
    have := I.st k u hu
    unfold waitF
    simp only
    split <;> omega
  · intro k h
    obtain ⟨u, hu, h1⟩ := I.q1 k h
    have hne : k ≠ key := fun e => by subst e; rw [hk] at hu; cases hu; omega
    exact ⟨_, gm_of hu, by simp [waitF, hne, h1]⟩
  · intro k t h h1
    obtain ⟨u, hu, rfl⟩ := gm_some h
    have hne : k ≠ key := fun e => by subst e; simp [waitF] at h1
    exact I.q2 k u hu (by simpa [waitF, hne] using h1)
  · intro k h h0
    obtain ⟨h1, hne⟩ := (lm k h0).1 h
    obtain ⟨u, hu, h2⟩ := I.s1 k h1 h0
    exact ⟨_, gm_of hu, by simp [waitF, hne, h2]⟩
  · intro k t h h1
    obtain ⟨u, hu, rfl⟩ := gm_some h
    have hne : k ≠ key := fun e => by subst e; simp [waitF] at h1
    exact (lm k (I.key k u hu).2).2 ⟨I.s2 k u hu (by simpa [waitF, hne] using h1), hne⟩
  · intro k t h x hx
    obtain ⟨u, hu, rfl⟩ := gm_some h
    have old : x ∈ u.ws → ∃ t', gm g (waitF key on) x = some t' ∧ t'.st = 3 ∧ t'.on = k := fun hx => by
      obtain ⟨v, hv, h1, h2⟩ := I.w1 k u hu x hx
      have hne : x ≠ key := fun e => by subst e; rw [hk] at hv; cases hv; omega
      exact ⟨_, gm_of hv, by simp [waitF, hne, h1], by simp [waitF, hne, h2]⟩
    by_cases e : k = on
    · simp only [waitF, if_pos e] at hx
      rcases List.mem_append.1 hx with hx | hx
      · exact old hx
      · simp at hx; subst hx
        exact ⟨_, gm_of hk, by simp [waitF], by simp [waitF, e]⟩
    · simp only [waitF, if_neg e] at hx
      exact old hx
  · intro k t h
    obtain ⟨u, hu, rfl⟩ := gm_some h
    by_cases e : k = on
    · simp only [waitF, if_pos e]
      rw [List.nodup_append]
      refine ⟨I.wn k u hu, by simp, fun a ha b hb => ?_⟩
      simp at hb; subst hb
      rintro rfl
      obtain ⟨v, hv, h1, _⟩ := I.w1 k u hu a ha
      rw [hk] at hv; cases hv; omega
    · simp only [waitF, if_neg e]; exact I.wn k u hu
  · intro k t h h3
    obtain ⟨u, hu, rfl⟩ := gm_some h
    by_cases e : k = key
    · subst e
      obtain ⟨v, hv⟩ := hon
      refine ⟨_, by simp only [waitF, if_pos]; exact gm_of hv, by simp [waitF]⟩
    · obtain ⟨v, hv, h1⟩ := I.w2 k u hu (by simpa [waitF, e] using h3)
      refine ⟨_, by simp only [waitF, if_neg e]; exact gm_of hv, ?_⟩
      simp only [waitF]
      split
      · exact List.mem_append_left _ h1
      · exact h1
theorem mst_some {l : List MT} {k : Str} {n : Nat} (h : mst l k = n) (h0 : n ≠ 0) : ∃ t, mget l k = some t ∧ t.st = n := by
  unfold mst at h
  cases hx : mget l k with
  | none => rw [hx] at h; exact absurd h.symm h0
  | some t => rw [hx] at h; exact ⟨t, rfl, h⟩
theorem iwant1_get {m : MI} {on : Str} : (∃ t, mget (iwant1 m on).tasks on = some t) ∧ (∀ k t, mget m.tasks k = some t → mget (iwant1 m on).tasks k = some t) ∧ (iwant1 m on).slots = m.slots := by
  unfold iwant1
  cases e : mget m.tasks on with
  | some t => exact ⟨⟨t, e⟩, fun k t h => h, rfl⟩
  | none =>
    have hg := mget_snoc (t := newMT on) e
    refine ⟨⟨newMT on, by rw [hg]; exact if_pos rfl⟩, fun k t h => ?_, rfl⟩
    show mget (m.tasks ++ [newMT on]) k = some t
    rw [hg, if_neg (fun x => by
      have x : k = on := x
      rw [x, e] at h; cases h)]
    exact h
theorem iok_wait {m : MI} {key on : Str} (K : IOk m) : IOk (iwait m key on).2.2 := by
  unfold iwait
  split
  · exact K
  rename_i h1
  split
  · exact K
  rename_i h2
  split
  · exact K
  have K1 := iok_want1 K h1
  obtain ⟨hon, hk, hsl⟩ := iwant1_get (m := m) (on := on)
  obtain ⟨t0, ht0, hst⟩ := mst_some (Decidable.byContradiction h2) (by omega)
  have ht1 := hk _ _ ht0
  have I := K1.ig
  have hk0 := (I.key key t0 ht1).2
  obtain ⟨j, hj, hl⟩ := ileave_at I (I.s2 key t0 ht1 hst) hk0
  simp only
  refine ⟨mupL_nodup (fun _ => rfl) (mupL_nodup (fun _ => rfl) K1.nodup), ?_⟩
  simp only
  rw [mget_up (f := fun t => { t with ws := t.ws ++ [key] }) (fun _ => rfl), mget_up (f := fun t => { t with st := 3, on := on }) (fun _ => rfl), gupd_gm, gupd_gm, gm_gm, hl]
  have := ig_wait I ht1 hst hon hj
  rw [gm_congr (F' := waitF key on)]
  · exact this
  · intro k t _
    unfold waitF
    by_cases e1 : k = key
    · by_cases e2 : k = on
      · simp only [if_pos e1, if_pos e2]
      · simp only [if_pos e1, if_neg e2]
    · by_cases e2 : k = on
      · simp only [if_neg e1, if_pos e2]
      · simp only [if_neg e1, if_neg e2]

/-- Ending: of the task of key, in the list of on (where it waits); ws are woken. -/
def doneF (key : Str) (on : Option Str) (W : List Str) (k : Str) (t : MT) : MT :=
  { t with st := if k = key then 4 else if k ∈ W then 1 else t.st, ws := if k = key then [] else if on = some k then t.ws.filter fun x => !bEq x key else t.ws }
theorem ig_done {g : G} {slots queue slots' : List Str} {key : Str} {t0 : MT} {on : Option Str} {W : List Str} (I : IG g slots queue) (hk : g key = some t0)
    (hst : (t0.st = 2 ∧ on = none ∧ ∃ j, slots[j]? = some key ∧ slots' = slots.set j e0) ∨ (t0.st = 3 ∧ on = some t0.on ∧ slots' = slots)) (hW : W = t0.ws.filter fun x => !bEq x key) : IG (gm g (doneF key on W)) slots' (queue ++ W) := by
  have hk0 := (I.key key t0 hk).2
  have inW : ∀ k, k ∈ W ↔ (∃ u, g k = some u ∧ u.st = 3 ∧ u.on = key) ∧ k ≠ key := by
    intro k
    rw [hW, List.mem_filter]
    constructor
    · rintro ⟨h1, h2⟩
      have hne : k ≠ key := fun e => by subst e; simp at h2
      exact ⟨I.w1 key t0 hk k h1, hne⟩
    · rintro ⟨⟨u, hu, h3, ho⟩, hne⟩
      obtain ⟨v, hv, hm⟩ := I.w2 k u hu h3
      rw [ho, hk] at hv; cases hv
      exact ⟨hm, by rw [bEq_false.2 hne]; rfl⟩
  have Wst : ∀ {k u}, k ∈ W → g k = some u → u.st = 3 ∧ u.on = key := fun {k u} h hu => by
    obtain ⟨⟨v, hv, h1⟩, _⟩ := (inW k).1 h
    rw [hu] at hv; cases hv; exact h1
  have Wne : ∀ {k}, k ∈ W → k ≠ key := fun {k} h => ((inW k).1 h).2
  have hslm : ∀ x, x ≠ e0 → (x ∈ slots' ↔ x ∈ slots ∧ x ≠ key) := by
    intro x hx
    rcases hst with ⟨h2, _, j, hj, rfl⟩ | ⟨h3, _, rfl⟩
    · exact leave_mem hj I.sn hk0 hx
    · refine ⟨fun h => ⟨h, fun e => ?_⟩, fun h => h.1⟩
      subst e
      obtain ⟨u, hu, h2⟩ := I.s1 x h hx
      rw [hk] at hu; cases hu; omega
  have hq : key ∉ queue := fun h => by
    obtain ⟨u, hu, h1⟩ := I.q1 key h
    rw [hk] at hu; cases hu
    rcases hst with ⟨h2, _⟩ | ⟨h3, _⟩ <;> omega
  have F1 : ∀ {k u}, g k = some u → k ≠ key → k ∉ W → (doneF key on W k u).st = u.st := fun {k u} _ h1 h2 => by simp [doneF, h1, h2]
  refine ⟨?_, ?_, ?_, ?_, ?_, ?_, ?_, ?_, ?_, ?_, ?_⟩
  · intro k t h
    obtain ⟨u, hu, rfl⟩ := gm_some h
    exact I.key k u hu
  · intro k t h
    obtain ⟨u, hu, rfl⟩ := gm_some h
    have := I.st k u hu
    unfold doneF
    simp only
    split
    · omega
    · split <;> omega
  · intro k h
    rcases List.mem_append.1 h with h | h
    · obtain ⟨u, hu, h1⟩ := I.q1 k h
      have hne : k ≠ key := fun e => hq (e ▸ h)
      have hnW : k ∉ W := fun h => by have := (Wst h hu).1; omega
      exact ⟨_, gm_of hu, by rw [F1 hu hne hnW]; exact h1⟩
    · obtain ⟨⟨u, hu, _⟩, hne⟩ := (inW k).1 h
      exact ⟨_, gm_of hu, by simp [doneF, hne, h]⟩
  · rw [List.nodup_append]
    refine ⟨I.qn, by rw [hW]; exact (I.wn key t0 hk).filter _, fun a ha b hb => ?_⟩
    rintro rfl
    obtain ⟨u, hu, h1⟩ := I.q1 a ha
    have := (Wst hb hu).1; omega
  · intro k t h h1
    obtain ⟨u, hu, rfl⟩ := gm_some h
    have hne : k ≠ key := fun e => by subst e; simp [doneF] at h1
    by_cases hw : k ∈ W
    · exact List.mem_append_right _ hw
    · rw [F1 hu hne hw] at h1
      exact List.mem_append_left _ (I.q2 k u hu h1)
  · intro k h h0
    obtain ⟨h1, hne⟩ := (hslm k h0).1 h
    obtain ⟨u, hu, h2⟩ := I.s1 k h1 h0
    have hnW : k ∉ W := fun h => by have := (Wst h hu).1; omega
    exact ⟨_, gm_of hu, by rw [F1 hu hne hnW]; exact h2⟩
  · rcases hst with ⟨_, _, j, _, rfl⟩ | ⟨_, _, rfl⟩
    · exact leave_sn I.sn
    · exact I.sn
  · intro k t h h2
    obtain ⟨u, hu, rfl⟩ := gm_some h
    have hne : k ≠ key := fun e => by subst e; simp [doneF] at h2
    have hnW : k ∉ W := fun hw => by simp [doneF, hne, hw] at h2
    rw [F1 hu hne hnW] at h2
    exact (hslm k (I.key k u hu).2).2 ⟨I.s2 k u hu h2, hne⟩
  · intro k t h x hx
    obtain ⟨u, hu, rfl⟩ := gm_some h
    have hne : k ≠ key := fun e => by subst e; simp [doneF] at hx
    have hxu : x ∈ u.ws ∧ (on = some k → x ≠ key) := by
      simp only [doneF, if_neg hne] at hx
      split at hx
      · rw [List.mem_filter] at hx
        exact ⟨hx.1, fun _ e => by subst e; simp at hx⟩
      · rename_i ho; exact ⟨hx, fun e => absurd e ho⟩
    obtain ⟨v, hv, h3, ho⟩ := I.w1 k u hu x hxu.1
    have hxk : x ≠ key := fun e => by
      subst e
      rw [hk] at hv; cases hv
      rcases hst with ⟨h2, _⟩ | ⟨_, h4, _⟩
      · omega
      · exact hxu.2 (by rw [h4, ho]) rfl
    have hxW : x ∉ W := fun hw => hne (by have := (Wst hw hv).2; rw [← this, ho])
    exact ⟨_, gm_of hv, by rw [F1 hv hxk hxW]; exact h3, ho⟩
  · intro k t h
    obtain ⟨u, hu, rfl⟩ := gm_some h
    simp only [doneF]
    split
    · exact List.nodup_nil
    · split
      · exact (I.wn k u hu).filter _
      · exact I.wn k u hu
  · intro k t h h3
    obtain ⟨u, hu, rfl⟩ := gm_some h
    have hne : k ≠ key := fun e => by subst e; simp [doneF] at h3
    have hnW : k ∉ W := fun hw => by simp [doneF, hne, hw] at h3
    rw [F1 hu hne hnW] at h3
    obtain ⟨v, hv, hm⟩ := I.w2 k u hu h3
    have hon : u.on ≠ key := fun e => hnW ((inW k).2 ⟨⟨u, hu, h3, e⟩, hne⟩)
    refine ⟨_, gm_of hv, ?_⟩
    show k ∈ (doneF key on W u.on v).ws
    simp only [doneF, if_neg hon]
    split
    · rw [List.mem_filter]; exact ⟨hm, by rw [bEq_false.2 hne]; rfl⟩
    · exact hm
/-- All that are woken. -/
theorem wake_all {key : Str} : ∀ (ws : List Str) (l : List MT) (s q : List Str), ∃ l', ws.foldl (fun m k => if k = key then m else ready m k) ⟨l, s, q⟩ = ⟨l', s, q ++ ws.filter fun x => !bEq x key⟩ ∧ mkeys l' = mkeys l ∧ mget l' = gm (mget l) fun k t => if k ∈ (ws.filter fun x => !bEq x key) then { t with st := 1 } else t
  | [], l, s, q => ⟨l, by simp, rfl, by
      funext k; unfold gm; cases mget l k <;> simp⟩
  | k :: ws, l, s, q => by
    rw [List.foldl_cons]
    by_cases e : k = key
    · obtain ⟨l', h1, h2, h3⟩ := wake_all (key := key) ws l s q
      have hf : ((k :: ws).filter fun x => !bEq x key) = ws.filter fun x => !bEq x key := by simp [e]
      rw [if_pos e, hf]
      exact ⟨l', h1, h2, h3⟩
    · have hf : ((k :: ws).filter fun x => !bEq x key) = k :: ws.filter fun x => !bEq x key := by simp [bEq_false.2 e]
      rw [if_neg e, hf]
      obtain ⟨l', h1, h2, h3⟩ := wake_all (key := key) ws (mupL l k fun t => { t with st := 1 }) s (q ++ [k])
      refine ⟨l', by simpa [ready] using h1, h2.trans ?_, ?_⟩
      · unfold mkeys mupL
        rw [List.map_map]
        refine List.map_congr_left fun t _ => ?_
        simp only [Function.comp]
        split <;> rfl
      · rw [h3, mget_up (f := fun t => { t with st := 1 }) (fun _ => rfl), gupd_gm, gm_gm]
        refine gm_congr fun k' t _ => ?_
        by_cases e1 : k' = k
        · subst e1
          simp
        · simp [e1]
theorem idone_cases (m : MI) (key : Str) (K : IOk m) : (idone m key = (4, m) ∧ ∀ t, mget m.tasks key = some t → t.st ≠ 2 ∧ t.st ≠ 3) ∨
    ∃ t0 on slots', mget m.tasks key = some t0 ∧ ((t0.st = 2 ∧ on = none ∧ ∃ j, m.slots[j]? = some key ∧ slots' = m.slots.set j e0) ∨ (t0.st = 3 ∧ on = some t0.on ∧ slots' = m.slots)) ∧
      ∃ l', idone m key = (0, ⟨l', slots', m.queue ++ t0.ws.filter fun x => !bEq x key⟩) ∧ mkeys l' = mkeys m.tasks ∧ mget l' = gm (mget m.tasks) (doneF key on (t0.ws.filter fun x => !bEq x key)) := by
  have I := K.ig
  unfold idone
  cases hk : mget m.tasks key with
  | none => exact .inl ⟨rfl, fun t h => (by cases h)⟩
  | some t0 =>
    simp only
    have hk0 := (I.key key t0 hk).2
    split
    · rename_i hst
      refine .inr ?_
      have hkeys : ∀ (l : List MT) (k : Str) (f : MT → MT), (∀ t, (f t).key = t.key) → mkeys (mupL l k f) = mkeys l := by
        intro l k f hf
        unfold mkeys mupL
        rw [List.map_map]
        refine List.map_congr_left fun t _ => ?_
        simp only [Function.comp]
        split
        · exact hf t
        · rfl
      -- the state ahead of the waking
      have core : ∀ (l1 : List MT) (slots' : List Str) (on : Option Str), mkeys l1 = mkeys m.tasks → mget l1 = gm (mget m.tasks) (fun k t => if on = some k then { t with ws := t.ws.filter fun x => !bEq x key } else t) →
          ∃ l', (let l2 := mupL l1 key fun t => { t with st := 4 }
                 let ws := match mget l2 key with | some t => t.ws | none => []
                 let m3 := ws.foldl (fun m k => if k = key then m else ready m k) ⟨l2, slots', m.queue⟩
                 ((0, { m3 with tasks := mupL m3.tasks key fun t => { t with ws := [] } }) : Nat × MI)) = (0, ⟨l', slots', m.queue ++ t0.ws.filter fun x => !bEq x key⟩) ∧ mkeys l' = mkeys m.tasks ∧ mget l' = gm (mget m.tasks) (doneF key on (t0.ws.filter fun x => !bEq x key)) := by
        intro l1 slots' on hk1 hg1
        have hg2 : mget (mupL l1 key fun t => { t with st := 4 }) = gm (mget m.tasks) fun k t => { (if on = some k then { t with ws := t.ws.filter fun x => !bEq x key } else t) with st := if k = key then 4 else t.st } := by
          rw [mget_up (f := fun t => { t with st := 4 }) (fun _ => rfl), hg1, gupd_gm, gm_gm]
          refine gm_congr fun k t _ => ?_
          by_cases e1 : k = key <;> by_cases e2 : on = some k <;> simp [e1, e2] <;> split <;> rfl
        have hws : (match mget (mupL l1 key fun t => { t with st := 4 }) key with | some t => t.ws | none => []).filter (fun x => !bEq x key) = t0.ws.filter fun x => !bEq x key := by
          rw [hg2, gm_of hk]
          simp only
          split
          · rw [List.filter_filter]; simp
          · rfl
        obtain ⟨l', h1, h2, h3⟩ := wake_all (key := key) (match mget (mupL l1 key fun t => { t with st := 4 }) key with | some t => t.ws | none => []) (mupL l1 key fun t => { t with st := 4 }) slots' m.queue
        rw [hws] at h1 h3
        refine ⟨mupL l' key fun t => { t with ws := [] }, ?_, ?_, ?_⟩
        · simp only [h1]
        · exact (hkeys l' key (fun t => { t with ws := [] }) (fun _ => rfl)).trans (h2.trans ((hkeys l1 key (fun t => { t with st := 4 }) (fun _ => rfl)).trans hk1))
        · rw [mget_up (f := fun t => { t with ws := [] }) (fun _ => rfl), h3, hg2, gupd_gm, gm_gm, gm_gm]
          refine gm_congr fun k t _ => ?_
          unfold doneF
          by_cases e1 : k = key
          · have hn : k ∉ (t0.ws.filter fun x => !bEq x key) := by rw [List.mem_filter, e1]; simp
            simp only [if_pos e1, if_neg hn]
            split <;> rfl
          · simp only [if_neg e1]
            by_cases e2 : k ∈ (t0.ws.filter fun x => !bEq x key)
            · simp only [if_pos e2]; split <;> rfl
            · simp only [if_neg e2]; split <;> rfl
      rcases hst with h2 | h3
      · obtain ⟨j, hj, hl⟩ := ileave_at I (I.s2 key t0 hk h2) hk0
        refine ⟨t0, none, m.slots.set j e0, rfl, .inl ⟨h2, rfl, j, hj, rfl⟩, ?_⟩
        rw [if_neg (by omega), if_pos h2, hl]
        exact core m.tasks _ none rfl (by
          funext k; unfold gm; cases mget m.tasks k <;> simp)
      · refine ⟨t0, some t0.on, m.slots, rfl, .inr ⟨h3, rfl, rfl⟩, ?_⟩
        rw [if_pos h3, if_neg (by omega)]
        refine core _ _ (some t0.on) (hkeys _ _ _ (fun _ => rfl)) ?_
        rw [mget_up (f := fun t => { t with ws := t.ws.filter fun k => !bEq k key }) (fun _ => rfl), gupd_gm]
        refine gm_congr fun k t _ => ?_
        by_cases e : k = t0.on
        · subst e; simp
        · have : ¬ some t0.on = some k := fun x => e (Option.some.inj x).symm
          simp [e, this]
    · rename_i hst
      exact .inl ⟨rfl, fun t h => by cases h; exact ⟨fun x => hst (.inl x), fun x => hst (.inr x)⟩⟩
theorem iok_done {m : MI} {key : Str} (K : IOk m) : IOk (idone m key).2 := by
  rcases idone_cases m key K with ⟨h, _⟩ | ⟨t0, on, slots', hk, hst, l', h, hkeys, hg⟩
  · rw [h]; exact K
  · rw [h]
    refine ⟨?_, ?_⟩
    · show (mkeys l').Nodup
      rw [hkeys]; exact K.nodup
    · show IG (mget l') _ _
      rw [hg]
      exact ig_done K.ig hk hst rfl
end Go.Abs.Sch
end

section
/- The scheduler as it is made: sizes; what picking finds. No Go in it. -/
namespace Go.Abs.Sch
open Go.Abs

theorem nodup_sub : ∀ {l l' : List Str}, l.Nodup → (∀ x, x ∈ l → x ∈ l') → l.length ≤ l'.length
  | [], l', _, _ => by simp
  | x :: l, l', hn, hs => by
    obtain ⟨s, t, rfl⟩ := List.append_of_mem (hs x (by simp))
    have hn := List.nodup_cons.1 hn
    have := nodup_sub (l := l) (l' := s ++ t) hn.2 fun y hy => by
      have := hs y (by simp [hy])
      simp only [List.mem_append, List.mem_cons] at this ⊢
      rcases this with h | h | h
      · exact .inl h
      · subst h; exact absurd hy hn.1
      · exact .inr h
    simp at this ⊢; omega
theorem IOk.mem {m : MI} (K : IOk m) {t : MT} (h : t ∈ m.tasks) : mget m.tasks t.key = some t := mget_of_mem K.nodup h
theorem get_keys {l : List MT} {k : Str} {t : MT} (h : mget l k = some t) : k ∈ mkeys l := List.mem_map.2 ⟨t, mget_mem' h, mget_key h⟩
theorem IOk.queue_le {m : MI} (K : IOk m) : m.queue.length ≤ m.tasks.length := by
  have := nodup_sub (l' := mkeys m.tasks) K.ig.qn fun k hk => by
    obtain ⟨t, ht, _⟩ := K.ig.q1 k hk
    exact get_keys ht
  simpa [mkeys] using this
theorem IOk.ws_le {m : MI} (K : IOk m) {t : MT} (h : t ∈ m.tasks) : t.ws.length ≤ m.tasks.length := by
  have := nodup_sub (l' := mkeys m.tasks) (K.ig.wn t.key t (K.mem h)) fun k hk => by
    obtain ⟨t', ht, _⟩ := K.ig.w1 t.key t (K.mem h) k hk
    exact get_keys ht
  simpa [mkeys] using this
def StB (m : MI) (B : Nat) : Prop := ∀ t, t ∈ m.tasks → t.starts ≤ B
theorem StB.mono {m : MI} {B B' : Nat} (h : StB m B) (hb : B ≤ B') : StB m B' := fun t ht => Nat.le_trans (h t ht) hb
theorem stB_up {l : List MT} {k : Str} {f : MT → MT} {s q : List Str} {s' q' : List Str} {B : Nat} (h : StB ⟨l, s, q⟩ B) (hf : ∀ t, (f t).starts = t.starts) : StB ⟨mupL l k f, s', q'⟩ B := by
  intro t ht
  obtain ⟨z, hz, e⟩ := List.mem_map.1 ht
  have := h z hz
  rw [← e]; split
  · rw [hf]; exact this
  · exact this
theorem stB_want1 {m : MI} {k : Str} {B : Nat} (h : StB m B) : StB (iwant1 m k) B := by
  unfold iwant1
  split
  · exact h
  · intro t ht
    rcases List.mem_append.1 ht with ht | ht
    · exact h t ht
    · simp at ht; subst ht; simp [newMT]
theorem stB_wants {ks : List Str} {B : Nat} : ∀ {m : MI}, StB m B → StB (ks.foldl iwant1 m) B := by
  induction ks with
  | nil => intro m h; exact h
  | cons k ks ih => intro m h; exact ih (stB_want1 h)
theorem stB_fillAt {m : MI} {out : List Str} {i B : Nat} (h : StB m B) : StB (ifillAt m out i).1 (B + 1) := by
  unfold ifillAt
  split
  · split
    · split
      · intro t ht
        obtain ⟨z, hz, e⟩ := List.mem_map.1 ht
        have := h z hz
        rw [← e]; split
        · simp only; omega
        · omega
      · exact h.mono (by omega)
    · exact h.mono (by omega)
  · exact h.mono (by omega)
theorem stB_fill : ∀ (n : Nat) {m : MI} {out : List Str} {i B : Nat}, StB m B → StB (ifillFrom n m out i).1 (B + n)
  | 0, _, _, _, _, h => h
  | n + 1, m, out, i, B, h => by
    have := stB_fill n (m := (ifillAt m out i).1) (out := (ifillAt m out i).2) (i := i + 1) (stB_fillAt (i := i) (out := out) h)
    rw [show B + (n + 1) = B + 1 + n from by omega]
    exact this
theorem fillAt_len {m : MI} {out : List Str} {i : Nat} : (ifillAt m out i).1.tasks.length = m.tasks.length ∧ (ifillAt m out i).1.slots.length = m.slots.length := by
  unfold ifillAt
  split
  · split
    · split
      · simp [mupL]
      · simp
    · simp
  · simp
theorem fill_len : ∀ (n : Nat) {m : MI} {out : List Str} {i : Nat}, (ifillFrom n m out i).1.tasks.length = m.tasks.length ∧ (ifillFrom n m out i).1.slots.length = m.slots.length
  | 0, _, _, _ => ⟨rfl, rfl⟩
  | n + 1, m, out, i => by
    have h1 := fill_len n (m := (ifillAt m out i).1) (out := (ifillAt m out i).2) (i := i + 1)
    have h2 := fillAt_len (m := m) (out := out) (i := i)
    exact ⟨h1.1.trans h2.1, h1.2.trans h2.2⟩
theorem want1_len {m : MI} {k : Str} : (iwant1 m k).tasks.length ≤ m.tasks.length + 1 ∧ (iwant1 m k).slots = m.slots := by
  unfold iwant1
  split <;> simp
theorem wants_len {ks : List Str} : ∀ {m : MI}, (ks.foldl iwant1 m).tasks.length ≤ m.tasks.length + ks.length ∧ (ks.foldl iwant1 m).slots = m.slots := by
  induction ks with
  | nil => intro m; simp
  | cons k ks ih =>
    intro m
    have h1 := ih (m := iwant1 m k)
    have h2 := want1_len (m := m) (k := k)
    simp only [List.foldl_cons, List.length_cons]
    exact ⟨by omega, h1.2.trans h2.2⟩

/-! Picking. -/
theorem pickFrom_none {slots : List Str} {a : Nat} : ∀ (d i : Nat), pickFrom slots a d i = none ↔ ∀ j, i ≤ j → j < i + d → slots.getD ((a + j) % slots.length) e0 = e0
  | 0, i => by simp [pickFrom]; intro j; omega
  | d + 1, i => by
    rw [pickFrom]
    split
    · rename_i e
      rw [pickFrom_none d (i + 1)]
      refine ⟨fun h j h1 h2 => ?_, fun h j h1 h2 => h j (by omega) (by omega)⟩
      by_cases hj : j = i
      · subst hj; exact e
      · exact h j (by omega) (by omega)
    · rename_i e
      simp only [reduceCtorEq, false_iff]
      exact fun h => e (h i (Nat.le_refl _) (by omega))
theorem pickFrom_some {slots : List Str} {a : Nat} : ∀ (d i : Nat) {s : Str}, pickFrom slots a d i = some s → s ≠ e0 ∧ s ∈ slots
  | 0, i, s, h => by simp [pickFrom] at h
  | d + 1, i, s, h => by
    rw [pickFrom] at h
    split at h
    · exact pickFrom_some d (i + 1) h
    · rename_i e
      cases h
      refine ⟨e, ?_⟩
      rw [List.getD_eq_getElem?_getD] at e ⊢
      cases hx : slots[(a + i) % slots.length]? with
      | none => rw [hx] at e; exact absurd rfl e
      | some y => exact List.mem_of_getElem? hx
/-- None is picked just where all slots are idle. -/
theorem pick_idle {slots : List Str} (h0 : 0 < slots.length) (n : Int) : pickFrom slots (pickAt slots.length n) slots.length 0 = none ↔ ∀ s, s ∈ slots → s = e0 := by
  rw [pickFrom_none]
  constructor
  · intro h s hs
    obtain ⟨i, hi, e⟩ := List.getElem_of_mem hs
    have ha := pickAt_lt h0 n
    generalize pickAt slots.length n = a at *
    obtain ⟨j, hj, e2⟩ : ∃ j, j < slots.length ∧ (a + j) % slots.length = i := by
      by_cases h1 : a ≤ i
      · exact ⟨i - a, by omega, by rw [show a + (i - a) = i from by omega]; exact Nat.mod_eq_of_lt hi⟩
      · refine ⟨i + slots.length - a, by omega, ?_⟩
        rw [show a + (i + slots.length - a) = i + slots.length from by omega, Nat.add_mod_right]; exact Nat.mod_eq_of_lt hi
    have := h j (by omega) (by omega)
    rw [e2] at this
    rw [← e]; simpa [List.getD_eq_getElem?_getD, hi] using this
  · intro h j _ hj
    have hm : (pickAt slots.length n + j) % slots.length < slots.length := Nat.mod_lt _ h0
    rw [List.getD_eq_getElem?_getD, List.getElem?_eq_getElem hm]
    exact h _ (List.getElem_mem hm)
theorem many_zero {l : List MT} {s : Nat} (h0 : s ≠ 0) : manyOf l s = 0 ↔ ∀ t, t ∈ l → t.st ≠ s := by
  unfold manyOf
  rw [if_neg h0]
  constructor
  · intro h t ht e
    have : l.countP (fun t => t.st == s) = 0 := by omega
    rw [List.countP_eq_zero] at this
    exact this t ht (by simp [e])
  · intro h
    have : l.countP (fun t => t.st == s) = 0 := List.countP_eq_zero.2 fun t ht => by simpa using h t ht
    omega
theorem many_nonneg {l : List MT} {s : Nat} (h0 : s ≠ 0) : 0 ≤ manyOf l s := by
  unfold manyOf; rw [if_neg h0]; omega
/-- Whom Pick finds. -/
theorem IOk.pick {m : MI} (K : IOk m) (h0 : 0 < m.slots.length) (n : Int) : manyOf m.tasks 2 = 0 ↔ pickFrom m.slots (pickAt m.slots.length n) m.slots.length 0 = none := by
  rw [pick_idle h0, many_zero (by omega)]
  constructor
  · intro h s hs
    apply Decidable.byContradiction
    intro hne
    obtain ⟨t, ht, h2⟩ := K.ig.s1 s hs hne
    exact h t (mget_mem' ht) h2
  · intro h t ht h2
    have := K.ig.s2 t.key t (K.mem ht) h2
    exact (K.ig.key t.key t (K.mem ht)).2 (h _ this)

/-- Within sizes. -/
structure Sz (m : MI) (B : Nat) : Prop where
  nt : m.tasks.length ≤ 900
  ns : m.slots.length ≤ 64
  st : StB m B
theorem sz_new {n : Nat} (h : n ≤ 64) : Sz ⟨[], List.replicate n e0, []⟩ 0 := ⟨by simp, by simpa using h, fun t ht => by simp at ht⟩
theorem sz_want {m : MI} {B : Nat} {ks : List Str} (S : Sz m B) (h : m.tasks.length + ks.length ≤ 900) : Sz (iwant m ks).2 B := by
  unfold iwant
  split
  · exact S
  · have := wants_len (ks := ks) (m := m)
    exact ⟨by simp only; omega, by simp only [this.2]; exact S.ns, stB_wants S.st⟩
theorem sz_fill {m : MI} {B : Nat} {out : List Str} {i : Nat} (n : Nat) (S : Sz m B) : Sz (ifillFrom n m out i).1 (B + n) := by
  have := fill_len n (m := m) (out := out) (i := i)
  exact ⟨by rw [this.1]; exact S.nt, by rw [this.2]; exact S.ns, stB_fill n S.st⟩
theorem ileave_len {slots : List Str} {k : Str} : (ileave slots k).length = slots.length := by
  unfold ileave; split <;> simp
theorem sz_wait {m : MI} {B : Nat} {key on : Str} (S : Sz m B) (h : m.tasks.length + 1 ≤ 900) : Sz (iwait m key on).2.2 B ∧ (iwait m key on).2.2.tasks.length ≤ m.tasks.length + 1 ∧ (iwait m key on).2.2.slots.length = m.slots.length := by
  unfold iwait
  split
  · exact ⟨S, by simp, rfl⟩
  split
  · exact ⟨S, by simp, rfl⟩
  split
  · exact ⟨S, by simp, rfl⟩
  have h1 := want1_len (m := m) (k := on)
  have h2 := stB_want1 (k := on) S.st
  simp only
  refine ⟨⟨by simp only [mupL, List.length_map]; omega, by simp only [ileave_len, h1.2]; exact S.ns, ?_⟩, by simp only [mupL, List.length_map]; omega, by simp only [ileave_len, h1.2]⟩
  have a1 : StB ⟨mupL (iwant1 m on).tasks key fun t => { t with st := 3, on := on }, [], []⟩ B := stB_up (s := (iwant1 m on).slots) (q := (iwant1 m on).queue) h2 (fun _ => rfl)
  exact stB_up (f := fun t => { t with ws := t.ws ++ [key] }) a1 (fun _ => rfl)
theorem sz_done {m : MI} {B : Nat} {key : Str} (K : IOk m) (S : Sz m B) : Sz (idone m key).2 B ∧ (idone m key).2.tasks.length = m.tasks.length ∧ (idone m key).2.slots.length = m.slots.length := by
  have K' := iok_done (key := key) K
  rcases idone_cases m key K with ⟨h, _⟩ | ⟨t0, on, slots', hk, hst, l', h, hkeys, hg⟩
  · rw [h]; exact ⟨S, rfl, rfl⟩
  · rw [h] at K' ⊢
    have hl : l'.length = m.tasks.length := by have := congrArg List.length hkeys; simpa [mkeys] using this
    have hsl : slots'.length = m.slots.length := by
      rcases hst with ⟨_, _, j, _, rfl⟩ | ⟨_, _, rfl⟩ <;> simp
    refine ⟨⟨by rw [show (⟨l', slots', m.queue ++ t0.ws.filter fun x => !bEq x key⟩ : MI).tasks.length = l'.length from rfl, hl]; exact S.nt, by simp only [hsl]; exact S.ns, fun t ht => ?_⟩, hl, hsl⟩
    have := K'.mem ht
    simp only at this
    rw [hg] at this
    obtain ⟨u, hu, e⟩ := gm_some this
    rw [e]
    exact S.st u (mget_mem' hu)
end Go.Abs.Sch
end

section
/- Tasks that do not wait get their slots in their order. No Go in it. -/
namespace Go.Abs.Sch
open Go.Abs

variable {keys : List Str} {m : MI} {f : Nat}
end Go.Abs.Sch
end

section
/- The scheduler as it is made does what the scheduler as it is said does. No Go in it. -/
namespace Go.Abs.Sch
open Go.Abs

theorem bl_tri : ∀ x y : List UInt8, (Op.bytesLess x y || x == y) = !Op.bytesLess y x
  | [], [] => rfl
  | [], _ :: _ => rfl
  | _ :: _, [] => rfl
  | a :: x, b :: y => by
    have ih := bl_tri x y
    have hs : ((a :: x) == (b :: y)) = ((a == b) && (x == y)) := rfl
    rw [hs]
    unfold Op.bytesLess
    rcases Nat.lt_trichotomy a.toNat b.toNat with h | h | h
    · have h1 : a < b := h
      have h2 : ¬ b < a := fun x => by have : b.toNat < a.toNat := x; omega
      have h3 : ¬ b = a := fun x => by subst x; omega
      simp [h1, h2, h3]
    · have e : a = b := UInt8.toNat_inj.1 h
      subst e
      have h1 : ¬ a < a := fun x => Nat.lt_irrefl _ x
      simp [h1]
      simpa using ih
    · have h1 : b < a := h
      have h2 : ¬ a < b := fun x => by have : a.toNat < b.toNat := x; omega
      have h3 : ¬ a = b := fun x => by subst x; omega
      simp [h1, h2, h3]
theorem leq_less (c t : Str) : leqS c t = !less t c := bl_tri _ _
theorem mupL_set {l : List MT} {k : Str} {f : MT → MT} (hn : (mkeys l).Nodup) {j : Nat} {t : MT} (ht : l[j]? = some t) (hk : t.key = k) : l.set j (f t) = mupL l k f := by
  apply List.ext_getElem?
  intro i
  rw [List.getElem?_set]
  unfold mupL
  rw [List.getElem?_map]
  obtain ⟨hj, ej⟩ := List.getElem?_eq_some_iff.1 ht
  by_cases e : j = i
  · subst e
    rw [if_pos rfl, if_pos hj, ht]; simp [hk]
  · rw [if_neg e]
    cases hi : l[i]? with
    | none => rfl
    | some t' =>
      have : t'.key ≠ k := fun e2 => by
        obtain ⟨hi', ei⟩ := List.getElem?_eq_some_iff.1 hi
        have h1 : i < (mkeys l).length := by simpa [mkeys] using hi'
        have h2 : j < (mkeys l).length := by simpa [mkeys] using hj
        have := (List.getElem_inj (h₀ := h1) (h₁ := h2) hn).1 (by simp [mkeys, ei, ej, e2, hk])
        exact e this.symm
      simp [this]
end Go.Abs.Sch
end

section
/- Tasks that wait for each other, one after the other: all end, none is stuck. No Go in it. -/
namespace Go.Abs.Sch
open Go.Abs
/-! Chains of waiting tasks. -/
inductive Ch (g : G) : List Str → Str → Str → Prop
  | stop {k : Str} (h : ∀ t, g k = some t → t.st ≠ 3) : Ch g [] k k
  | step {k : Str} {t : MT} {L : List Str} {e : Str} (h : g k = some t) (h3 : t.st = 3) (c : Ch g L t.on e) : Ch g (k :: L) k e
theorem ch_det {g : G} {L L' : List Str} {k e e' : Str} (h : Ch g L k e) (h' : Ch g L' k e') : L = L' ∧ e = e' := by
  induction h generalizing L' with
  | stop hs => cases h' with
    | stop _ => exact ⟨rfl, rfl⟩
    | step h1 h3 _ => exact absurd h3 (hs _ h1)
  | step h1 h3 _ ih => cases h' with
    | stop hs => exact absurd h3 (hs _ h1)
    | step h2 _ c2 =>
      rw [h1] at h2; cases h2
      obtain ⟨a, b⟩ := ih c2
      exact ⟨by rw [a], b⟩
theorem ch_end {g : G} {L : List Str} {k e : Str} (h : Ch g L k e) : ∀ t, g e = some t → t.st ≠ 3 := by
  induction h with
  | stop hs => exact hs
  | step _ _ _ ih => exact ih
theorem ch_suf {g : G} {L : List Str} {k e : Str} (h : Ch g L k e) : ∀ x, x ∈ L → ∃ L1, Ch g L1 x e ∧ L1.length ≤ L.length ∧ L1 ≠ [] ∧ ∀ y, y ∈ L1 → y ∈ L := by
  induction h with
  | stop _ => intro x hx; simp at hx
  | @step k t L e h1 h3 c ih =>
    intro x hx
    rcases List.mem_cons.1 hx with rfl | hx
    · exact ⟨x :: L, .step h1 h3 c, Nat.le_refl _, by simp, fun y hy => hy⟩
    · obtain ⟨L1, a, b, c1, d⟩ := ih x hx
      exact ⟨L1, a, by simp; omega, c1, fun y hy => List.mem_cons_of_mem _ (d y hy)⟩
theorem ch_nodup {g : G} {L : List Str} {k e : Str} (h : Ch g L k e) : L.Nodup := by
  induction h with
  | stop _ => exact List.nodup_nil
  | @step k t L e h1 h3 c ih =>
    refine List.nodup_cons.2 ⟨fun hm => ?_, ih⟩
    obtain ⟨L1, a, b, _⟩ := ch_suf c k hm
    obtain ⟨e1, _⟩ := ch_det a (.step h1 h3 c)
    rw [e1] at b
    simp at b
    omega
theorem ch_st {g : G} {L : List Str} {k e : Str} (h : Ch g L k e) : ∀ x, x ∈ L → ∃ t, g x = some t ∧ t.st = 3 := by
  induction h with
  | stop _ => intro x hx; simp at hx
  | @step k t L e h1 h3 c ih =>
    intro x hx
    rcases List.mem_cons.1 hx with rfl | hx
    · exact ⟨t, h1, h3⟩
    · exact ih x hx
theorem ch_last {g : G} {L : List Str} {k e : Str} (h : Ch g L k e) (h0 : L ≠ []) : ∃ y t, g y = some t ∧ t.st = 3 ∧ t.on = e := by
  induction h with
  | stop _ => exact absurd rfl h0
  | @step k t L e h1 h3 c ih =>
    cases c with
    | stop _ => exact ⟨k, t, h1, h3, rfl⟩
    | step a b c => exact ih (by simp)
/-- Whoever waits, waits for somebody who does not in the end. -/
def Acy (g : G) : Prop := ∀ k, ∃ L e, Ch g L k e
theorem acy_sub {g g' : G} (A : Acy g) (h : ∀ k t', g' k = some t' → t'.st = 3 → ∃ t, g k = some t ∧ t.st = 3 ∧ t.on = t'.on) : Acy g' := by
  intro k
  obtain ⟨L, e, c⟩ := A k
  induction c with
  | stop hs =>
    rename_i k
    refine ⟨[], k, .stop fun t' ht' h3 => ?_⟩
    obtain ⟨t, h1, h2, _⟩ := h k t' ht' h3
    exact hs t h1 h2
  | @step k t L e h1 h3 c ih =>
    by_cases hw : ∃ t', g' k = some t' ∧ t'.st = 3
    · obtain ⟨t', h4, h5⟩ := hw
      obtain ⟨u, h6, _, h7⟩ := h k t' h4 h5
      rw [h1] at h6; cases h6
      obtain ⟨L', e', c'⟩ := ih
      exact ⟨_, e', .step h4 h5 (by rw [← h7]; exact c')⟩
    · exact ⟨[], k, .stop fun t' h4 h5 => hw ⟨t', h4, h5⟩⟩
theorem waitF_st {key on k : Str} {t : MT} : (waitF key on k t).st = if k = key then 3 else t.st := rfl
theorem waitF_on {key on k : Str} {t : MT} : (waitF key on k t).on = if k = key then on else t.on := rfl
/-- One more waits; what comes of the old chains. -/
theorem ch_wait {g : G} {key on : Str} {t0 : MT} (hk : g key = some t0) (h2 : t0.st ≠ 3) {L : List Str} {k e : Str} (c : Ch g L k e) (he : e ≠ key) : Ch (gm g (waitF key on)) L k e := by
  induction c with
  | @stop k hs =>
    refine .stop fun t' ht' => ?_
    obtain ⟨t, h1, rfl⟩ := gm_some ht'
    rw [waitF_st, if_neg he]
    exact hs t h1
  | @step k t L e h1 h3 c ih =>
    have hne : k ≠ key := fun x => by subst x; rw [hk] at h1; cases h1; exact h2 h3
    refine .step (t := waitF key on k t) (gm_of h1) ?_ ?_
    · rw [waitF_st, if_neg hne]; exact h3
    · rw [waitF_on, if_neg hne]; exact ih he
theorem ch_notkey {g : G} {key : Str} {t0 : MT} (hk : g key = some t0) (h2 : t0.st ≠ 3) {L : List Str} {k e : Str} (c : Ch g L k e) : key ∉ L := fun hm => by
  obtain ⟨t, h1, h3⟩ := ch_st c key hm
  rw [hk] at h1; cases h1; exact h2 h3
/-- No circle: still nobody waits for himself. -/
theorem acy_wait {g : G} {key on : Str} {t0 : MT} (hk : g key = some t0) (h2 : t0.st ≠ 3) (A : Acy g) {L : List Str} {e : Str} (c : Ch g L on e) (he : e ≠ key) : Acy (gm g (waitF key on)) := by
  have ck : Ch (gm g (waitF key on)) (key :: L) key e := .step (t := waitF key on key t0) (gm_of hk) (by rw [waitF_st, if_pos rfl]) (by rw [waitF_on, if_pos rfl]; exact ch_wait hk h2 c he)
  intro k
  obtain ⟨L', e', c'⟩ := A k
  induction c' with
  | @stop k hs =>
    by_cases hkk : k = key
    · subst hkk; exact ⟨_, _, ck⟩
    · exact ⟨[], k, ch_wait hk h2 (.stop hs) hkk⟩
  | @step k t L e h1 h3 c ih =>
    have hne : k ≠ key := fun x => by subst x; rw [hk] at h1; cases h1; exact h2 h3
    obtain ⟨L', e', c'⟩ := ih
    exact ⟨_, _, .step (t := waitF key on k t) (gm_of h1) (by rw [waitF_st, if_neg hne]; exact h3) (by rw [waitF_on, if_neg hne]; exact c')⟩
/-- A circle, one of whose tasks is ended: nobody waits for himself. -/
theorem acy_break {g g' : G} {key on c : Str} {t0 : MT} (hk : g key = some t0) (h2 : t0.st ≠ 3) (A : Acy g) {L : List Str} (cl : Ch g L on key) (hc : c = key ∨ c ∈ L)
    (hsub : ∀ k t', g' k = some t' → t'.st = 3 → k ≠ c ∧ ∃ t, gm g (waitF key on) k = some t ∧ t.st = 3 ∧ t.on = t'.on) : Acy g' := by
  -- from a task before c
  have upto : ∀ {L : List Str} {k e : Str}, Ch g L k e → c ∈ L → ∃ L' e', Ch g' L' k e' := by
    intro L k e ch
    induction ch with
    | stop _ => intro h; simp at h
    | @step k t L e h1 h3 ch ih =>
      intro hm
      have hne : k ≠ key := fun x => by subst x; rw [hk] at h1; cases h1; exact h2 h3
      by_cases hw : ∃ t', g' k = some t' ∧ t'.st = 3
      · obtain ⟨t', h4, h5⟩ := hw
        obtain ⟨h6, u, h7, _, h8⟩ := hsub k t' h4 h5
        rcases List.mem_cons.1 hm with x | hm
        · exact absurd x.symm h6
        obtain ⟨L', e', c'⟩ := ih hm
        rw [gm_of h1] at h7; cases h7
        rw [waitF_on, if_neg hne] at h8
        exact ⟨_, e', .step h4 h5 (by rw [← h8]; exact c')⟩
      · exact ⟨[], k, .stop fun t' h4 h5 => hw ⟨t', h4, h5⟩⟩
  have ck : ∃ L' e', Ch g' L' key e' := by
    by_cases hw : ∃ t', g' key = some t' ∧ t'.st = 3
    · obtain ⟨t', h4, h5⟩ := hw
      obtain ⟨h6, u, h7, _, h8⟩ := hsub key t' h4 h5
      rcases hc with x | hm
      · exact absurd x.symm h6
      obtain ⟨L', e', c'⟩ := upto cl hm
      rw [gm_of hk] at h7; cases h7
      rw [waitF_on, if_pos rfl] at h8
      exact ⟨_, e', .step h4 h5 (by rw [← h8]; exact c')⟩
    · exact ⟨[], key, .stop fun t' h4 h5 => hw ⟨t', h4, h5⟩⟩
  intro k
  obtain ⟨L', e', c'⟩ := A k
  induction c' with
  | @stop k hs =>
    by_cases hkk : k = key
    · subst hkk; exact ck
    · refine ⟨[], k, .stop fun t' h4 h5 => ?_⟩
      obtain ⟨_, u, h7, h8, _⟩ := hsub k t' h4 h5
      obtain ⟨t, h9, rfl⟩ := gm_some h7
      rw [waitF_st, if_neg hkk] at h8
      exact hs t h9 h8
  | @step k t L e h1 h3 c ih =>
    by_cases hw : ∃ t', g' k = some t' ∧ t'.st = 3
    · obtain ⟨t', h4, h5⟩ := hw
      obtain ⟨h6, u, h7, _, h8⟩ := hsub k t' h4 h5
      have hne : k ≠ key := fun x => by subst x; rw [hk] at h1; cases h1; exact h2 h3
      obtain ⟨L', e', c'⟩ := ih
      rw [gm_of h1] at h7; cases h7
      rw [waitF_on, if_neg hne] at h8
      exact ⟨_, e', .step h4 h5 (by rw [← h8]; exact c')⟩
    · exact ⟨[], k, .stop fun t' h4 h5 => hw ⟨t', h4, h5⟩⟩
/-! What the search for a circle finds. -/
theorem memB_false {k : Str} {l : List Str} (h : k ∉ l) : memB k l = false := memB_not.2 h
theorem ichase_none {l : List MT} {g : G} {key on : Str} {t0 : MT} (hl : mget l = gm g (waitF key on)) (hk : g key = some t0) (h2 : t0.st ≠ 3) {L : List Str} {k e : Str} (c : Ch g L k e) (he : e ≠ key) : ∀ (n : Nat) (out : List Str), ichase l key n k out = none := by
  induction c with
  | @stop k hs =>
    intro n out
    cases n with
    | zero => rfl
    | succ n =>
      unfold ichase
      rw [hl]
      cases hg : g k with
      | none => simp [gm, hg]
      | some t =>
        rw [gm_of hg]
        simp only
        rw [waitF_st, if_neg he, if_neg (hs t hg)]
  | @step k t L e h1 h3 c ih =>
    intro n out
    have hne : k ≠ key := fun x => by subst x; rw [hk] at h1; cases h1; exact h2 h3
    cases n with
    | zero => rfl
    | succ n =>
      unfold ichase
      rw [hl, gm_of h1]
      simp only
      rw [waitF_st, waitF_on, if_neg hne, if_neg hne, if_pos h3]
      have hno : t.on ≠ key := fun x => by
        have := ch_notkey hk h2 c
        rw [x] at c
        cases c with
        | stop _ => exact he rfl
        | step a b _ => simp at this
      rw [if_neg hno]
      split
      · rfl
      · exact ih he n _
theorem ichase_some {l : List MT} {g : G} {key on : Str} {t0 : MT} (hl : mget l = gm g (waitF key on)) (hk : g key = some t0) (h2 : t0.st ≠ 3) {L : List Str} {k e : Str} (c : Ch g L k e) (he : e = key) (h0 : L ≠ []) : ∀ (n : Nat) (out : List Str), L.length ≤ n → (∀ x, x ∈ L → x ∉ out) → ichase l key n k out = some (out ++ L) := by
  induction c with
  | stop _ => exact absurd rfl h0
  | @step k t L e h1 h3 c ih =>
    intro n out hn ho
    have hne : k ≠ key := fun x => by subst x; rw [hk] at h1; cases h1; exact h2 h3
    have hnd := ch_nodup (.step h1 h3 c)
    obtain ⟨n, rfl⟩ : ∃ m, n = m + 1 := ⟨n - 1, by simp at hn; omega⟩
    simp only [List.length_cons] at hn
    unfold ichase
    rw [hl, gm_of h1]
    simp only
    rw [waitF_st, waitF_on, if_neg hne, if_neg hne, if_pos h3, memB_false (ho k (by simp))]
    simp only [Bool.false_eq_true, if_false]
    cases c with
    | stop hs =>
      rw [if_pos he]
    | @step _ u L' _ a b c2 =>
      have hno : t.on ≠ key := fun x => by rw [x, hk] at a; cases a; exact h2 b
      rw [if_neg hno, ih he (by simp) n (out ++ [k]) (by omega) ?_]
      · simp
      · intro x hx hm
        rcases List.mem_append.1 hm with hm | hm
        · exact ho x (List.mem_cons_of_mem _ hx) hm
        · simp at hm; subst hm
          exact (List.nodup_cons.1 hnd).1 hx
theorem icircle_none {l : List MT} {g : G} {key on : Str} {t0 : MT} (hl : mget l = gm g (waitF key on)) (hk : g key = some t0) (h2 : t0.st ≠ 3) {L : List Str} {e : Str} (c : Ch g L on e) (he : e ≠ key) : icircle l key = [] := by
  unfold icircle
  have : ichase l key (l.length + 1) key [] = none := by
    unfold ichase
    rw [hl, gm_of hk]
    simp only
    rw [waitF_st, waitF_on, if_pos rfl, if_pos rfl, if_pos rfl]
    have hno : on ≠ key := fun x => by
      rw [x] at c
      cases c with
      | stop _ => exact he rfl
      | step a b _ => rw [hk] at a; cases a; exact h2 b
    rw [if_neg hno]
    split
    · rfl
    · exact ichase_none hl hk h2 c he _ _
  rw [this]
theorem icircle_some {l : List MT} {g : G} {key on : Str} {t0 : MT} (hl : mget l = gm g (waitF key on)) (hn : (mkeys l).Nodup) (hk : g key = some t0) (h2 : t0.st ≠ 3) {L : List Str} (c : Ch g L on key) : icircle l key = rotL (key :: L) := by
  unfold icircle
  have hnk := ch_notkey hk h2 c
  have hlen : L.length ≤ l.length := by
    have := nodup_sub (ch_nodup c) (l' := mkeys l) fun x hx => by
      obtain ⟨t, h1, _⟩ := ch_st c x hx
      exact get_keys (l := l) (t := waitF key on x t) (by rw [hl]; exact gm_of h1)
    simpa [mkeys] using this
  have : ichase l key (l.length + 1) key [] = some (key :: L) := by
    unfold ichase
    rw [hl, gm_of hk]
    simp only
    rw [waitF_st, waitF_on, if_pos rfl, if_pos rfl, if_pos rfl, memB_false (by simp)]
    simp only [Bool.false_eq_true, if_false, List.nil_append]
    cases c with
    | stop _ => rw [if_pos rfl]
    | @step _ t L' _ a b c' =>
      have hno : on ≠ key := fun x => by rw [x, hk] at a; cases a; exact h2 b
      rw [if_neg hno, ichase_some hl hk h2 (.step a b c') rfl (by simp) _ _ hlen ?_]
      · rfl
      · intro x hx hm
        simp at hm; subst hm
        exact hnk hx
  rw [this]
end Go.Abs.Sch
end

section
/- Tasks that ask others: what holds of the scheduler all along. No Go in it. -/
namespace Go.Abs.Sch
open Go.Abs
theorem bl_irr : ∀ x : List UInt8, Op.bytesLess x x = false
  | [] => rfl
  | a :: x => by
    have := bl_irr x
    have h1 : ¬ a < a := fun x => Nat.lt_irrefl _ x
    simp [Op.bytesLess, this, h1]
theorem bl_trans : ∀ x y z : List UInt8, Op.bytesLess x y = true → Op.bytesLess y z = true → Op.bytesLess x z = true
  | [], [], _, h, _ => by simp [Op.bytesLess] at h
  | _, _ :: _, [], _, h => by simp [Op.bytesLess] at h
  | [], _ :: _, _ :: _, _, _ => rfl
  | _ :: _, [], _, h, _ => by simp [Op.bytesLess] at h
  | a :: x, b :: y, c :: z, h1, h2 => by
    have ih := bl_trans x y z
    simp only [Op.bytesLess, Bool.or_eq_true, Bool.and_eq_true, decide_eq_true_eq, beq_iff_eq] at h1 h2 ⊢
    rcases h1 with h1 | ⟨rfl, h1⟩ <;> rcases h2 with h2 | ⟨rfl, h2⟩
    · exact .inl (Nat.lt_trans h1 h2)
    · exact .inl h1
    · exact .inl h2
    · exact .inr ⟨rfl, ih h1 h2⟩
theorem less_irr (x : Str) : less x x = false := bl_irr _
theorem less_trans {x y z : Str} (h1 : less x y = true) (h2 : less y z = true) : less x z = true := bl_trans _ _ _ h1 h2
theorem less_tot {x y : Str} (h : less x y = false) : y = x ∨ less y x = true := by
  have := bl_tri y.data.toList x.data.toList
  have h' : Op.bytesLess x.data.toList y.data.toList = false := h
  rw [h'] at this
  simp only [Bool.not_false, Bool.or_eq_true, beq_iff_eq] at this
  rcases this with x | e
  · exact .inr x
  · exact .inl (ByteArray.ext (Array.toList_inj.1 e))
theorem fold_min : ∀ (l : List Str) (c y : Str), y ∈ c :: l → less y (l.foldl (fun c t => if leqS c t then c else t) c) = false
  | [], c, y, h => by simp at h; subst h; exact less_irr _
  | t :: l, c, y, h => by
    rw [List.foldl_cons]
    have ih := fold_min l (if leqS c t then c else t)
    rw [leq_less] at ih ⊢
    by_cases e : less t c = true
    · rw [e] at ih ⊢
      simp only [Bool.not_true, Bool.false_eq_true, if_false] at ih ⊢
      rcases List.mem_cons.1 h with rfl | h
      · cases hx : less y (l.foldl (fun c t => if leqS c t then c else t) t) with
        | false => rfl
        | true => have := ih t (by simp); rw [less_trans e hx] at this; cases this
      · exact ih y h
    · have e : less t c = false := by simpa using e
      rw [e] at ih ⊢
      simp only [Bool.not_false, if_true] at ih ⊢
      rcases List.mem_cons.1 h with rfl | h
      · exact ih y (by simp)
      rcases List.mem_cons.1 h with rfl | h
      · cases hx : less y (l.foldl (fun c t => if leqS c t then c else t) c) with
        | false => rfl
        | true =>
          have h1 := ih c (by simp)
          rcases less_tot h1 with h2 | h2
          · rw [h2] at hx; rw [hx] at e; cases e
          · rw [less_trans hx h2] at e; cases e
      · exact ih y (by simp [h])
theorem min_le {x : List Str} {y : Str} (h : y ∈ x) : less y (minS x) = false := by
  cases x with
  | nil => simp at h
  | cons c l => exact fold_min l c y h
theorem idx_at {s : Str} : ∀ {x : List Str}, s ∈ x → ∃ h : idxN s x < x.length, x[idxN s x] = s
  | [], h => by simp at h
  | c :: x, h => by
    unfold idxN
    rw [List.findIdx?_cons]
    by_cases e : bEq s c = true
    · rw [if_pos e]
      exact ⟨by simp, by simpa using (bEq_iff.1 e).symm⟩
    · rw [if_neg e]
      have hne : s ≠ c := fun y => e (bEq_iff.2 y)
      have hm : s ∈ x := by rcases List.mem_cons.1 h with y | y; exact absurd y hne; exact y
      obtain ⟨h1, h2⟩ := idx_at hm
      unfold idxN at h1 h2
      cases hf : x.findIdx? fun t => bEq s t with
      | none =>
        rw [List.findIdx?_eq_none_iff] at hf
        have := hf s hm
        simp at this
      | some i =>
        rw [hf] at h1
        simp only [hf, Option.getD_some] at h1 h2
        simp only [Option.map_some, Option.getD_some]
        exact ⟨by simp; omega, by simpa using h2⟩
/-- The circle as it is told. -/
theorem rot_facts {x : List Str} (hn : x.Nodup) (h0 : x ≠ []) : (∀ y, y ∈ rotL x ↔ y ∈ x) ∧ (rotL x).Nodup ∧ (∃ h : 0 < (rotL x).length, (rotL x)[0] = minS x) ∧ ∀ y, y ∈ rotL x → less y (minS x) = false := by
  have hlen : 0 < x.length := List.length_pos_iff.2 h0
  obtain ⟨h1, h2⟩ := idx_at (minS_mem hlen)
  have hmem : ∀ y, y ∈ rotL x ↔ y ∈ x := fun y => by
    unfold rotL
    rw [List.mem_append, Or.comm, ← List.mem_append, List.take_append_drop]
  refine ⟨hmem, ?_, ?_, fun y hy => min_le ((hmem y).1 hy)⟩
  · unfold rotL
    have := (List.nodup_append.1 (show (x.take (idxN (minS x) x) ++ x.drop (idxN (minS x) x)).Nodup by rw [List.take_append_drop]; exact hn))
    exact List.nodup_append.2 ⟨this.2.1, this.1, fun a ha b hb e => this.2.2 b hb a ha e.symm⟩
  · refine ⟨by unfold rotL; simp; omega, ?_⟩
    unfold rotL
    rw [List.getElem_append_left (by simp; omega), List.getElem_drop]
    simpa using h2
/-! Counting. -/
theorem cnt_le {α : Type} {p q : α → Bool} : ∀ l : List α, (∀ x, x ∈ l → p x = true → q x = true) → l.countP p ≤ l.countP q
  | [], _ => by simp
  | x :: l, h => by
    have := cnt_le l fun y hy => h y (by simp [hy])
    simp only [List.countP_cons]
    have := h x (by simp)
    by_cases e : p x = true
    · simp [e, this e]; omega
    · simp [e]; omega
theorem cnt_lt {α : Type} {p q : α → Bool} : ∀ {l : List α} {y : α}, (∀ x, x ∈ l → p x = true → q x = true) → y ∈ l → p y = false → q y = true → l.countP p + 1 ≤ l.countP q
  | [], y, _, h, _, _ => by simp at h
  | x :: l, y, h, hm, hp, hq => by
    simp only [List.countP_cons]
    rcases List.mem_cons.1 hm with rfl | hm
    · have := cnt_le l fun z hz => h z (by simp [hz])
      simp [hp, hq]; omega
    · have := cnt_lt (fun z hz => h z (by simp [hz])) hm hp hq
      have h2 := h x (by simp)
      by_cases e : p x = true
      · simp [e, h2 e]; omega
      · simp [e]; omega
/-- How many of the tasks are done. -/
def dcnt (nm : Nat → Str) (n : Nat) (m : MI) : Nat := (List.range n).countP fun i => mst m.tasks (nm i) == 4
theorem dcnt_le (nm : Nat → Str) (n : Nat) (m : MI) : dcnt nm n m ≤ n := by
  have := List.countP_le_length (p := fun i => mst m.tasks (nm i) == 4) (l := List.range n)
  simpa [dcnt] using this
/-! What holds all along. -/
def StOk (t : MT) (a : Nat) : Prop := t.starts ≤ a + (if t.st = 2 ∨ t.st = 4 then 1 else 0) ∧ (t.st ≠ 1 → 1 ≤ t.starts) ∧ (t.st = 4 → t.ws = [])
structure FI (nm : Nat → Str) (n : Nat) (a : Nat → Nat) (m : MI) : Prop where
  ok : IOk m
  keys : ∀ k t, mget m.tasks k = some t → ∃ i, i < n ∧ k = nm i
  st : ∀ i t, i < n → mget m.tasks (nm i) = some t → StOk t (a i)
variable {nm : Nat → Str} {n : Nat} {a : Nat → Nat} {m : MI}
theorem FI.more (F : FI nm n a m) {b : Nat → Nat} (h : ∀ i, a i ≤ b i) : FI nm n b m :=
  ⟨F.ok, F.keys, fun i t hi ht => let ⟨x, y, z⟩ := F.st i t hi ht; ⟨by have := h i; omega, y, z⟩⟩
theorem FI.len (F : FI nm n a m) (hinj : ∀ i j, i < n → j < n → nm i = nm j → i = j) : m.tasks.length ≤ n := by
  have := nodup_sub F.ok.nodup (l' := (List.range n).map nm) fun x hx => by
    obtain ⟨t, ht, rfl⟩ := List.mem_map.1 hx
    obtain ⟨i, hi, e⟩ := F.keys t.key t (F.ok.mem ht)
    exact List.mem_map.2 ⟨i, List.mem_range.2 hi, e.symm⟩
  simpa [mkeys] using this
theorem FI.sz (F : FI nm n a m) (hinj : ∀ i j, i < n → j < n → nm i = nm j → i = j) (hn : n ≤ 100) (hs : m.slots.length ≤ 64) (ha : ∀ i, a i ≤ 100) : Sz m 101 := by
  refine ⟨by have := F.len hinj; omega, hs, fun t ht => ?_⟩
  obtain ⟨i, hi, e⟩ := F.keys t.key t (F.ok.mem ht)
  have := F.st i t hi (by rw [← e]; exact F.ok.mem ht)
  have h1 := this.1
  have := ha i
  split at h1 <;> omega
theorem fi_new (s : Nat) : FI nm n a ⟨[], List.replicate s e0, []⟩ :=
  ⟨iok_new s, fun k t h => by simp [mget] at h, fun i t _ h => by simp [mget] at h⟩
theorem want1_get (m : MI) (k : Str) (k' : Str) : mget (iwant1 m k).tasks k' = match mget m.tasks k' with | some t => some t | none => if k' = k then some (newMT k) else none := by
  unfold iwant1
  cases e : mget m.tasks k with
  | some t =>
    simp only
    cases e2 : mget m.tasks k' with
    | some u => rfl
    | none =>
      simp only
      rw [if_neg]
      intro x; subst x; rw [e] at e2; cases e2
  | none =>
    simp only
    have hg := mget_snoc (t := newMT k) e k'
    rw [hg]
    by_cases x : k' = k
    · subst x
      rw [e]
      simp only
      rw [if_pos (show k' = (newMT k').key from rfl)]
      simp
    · rw [if_neg x, if_neg (show ¬ k' = (newMT k).key from x)]
      cases mget m.tasks k' <;> rfl
theorem fi_want1 (F : FI nm n a m) {i : Nat} (hi : i < n) (h0 : nm i ≠ e0) : FI nm n a (iwant1 m (nm i)) := by
  refine ⟨iok_want1 F.ok h0, fun k t h => ?_, fun j t hj h => ?_⟩
  · rw [want1_get] at h
    split at h
    · rename_i u e
      exact F.keys k u e
    · split at h
      · rename_i x; exact ⟨i, hi, x⟩
      · cases h
  · rw [want1_get] at h
    split at h
    · rename_i u e
      cases h
      exact F.st j _ hj e
    · split at h
      · cases h
        exact ⟨by simp [newMT], fun x => absurd rfl x, fun x => by cases x⟩
      · cases h
theorem acy_want1 (A : Acy (mget m.tasks)) (k : Str) : Acy (mget (iwant1 m k).tasks) := acy_sub A fun k' t' h h3 => by
  rw [want1_get] at h
  split at h
  · rename_i u e
    cases h
    exact ⟨_, e, h3, rfl⟩
  · split at h
    · cases h; cases h3
    · cases h
theorem fillAt_get (m : MI) (out : List Str) (i : Nat) : ((ifillAt m out i).1.tasks = m.tasks ∧ (ifillAt m out i).1.queue = m.queue) ∨ ∃ k q, m.queue = k :: q ∧ mget (ifillAt m out i).1.tasks = gupd (mget m.tasks) k fun t => { t with st := 2, starts := t.starts + 1 } := by
  unfold ifillAt
  split
  · split
    · split
      · rename_i k q hq
        exact .inr ⟨k, q, hq, mget_up (f := fun t => { t with st := 2, starts := t.starts + 1 }) fun _ => rfl⟩
      · exact .inl ⟨rfl, rfl⟩
    · exact .inl ⟨rfl, rfl⟩
  · exact .inl ⟨rfl, rfl⟩
theorem fi_fillAt (F : FI nm n a m) (out : List Str) (i : Nat) : FI nm n a (ifillAt m out i).1 := by
  have K := iok_fillAt (out := out) (i := i) F.ok
  rcases fillAt_get m out i with ⟨e, _⟩ | ⟨k, q, hq, e⟩
  · exact ⟨K, by rw [e]; exact F.keys, by rw [e]; exact F.st⟩
  · obtain ⟨tk, htk, hst⟩ := F.ok.ig.q1 k (by rw [hq]; simp)
    refine ⟨K, fun k' t h => ?_, fun j t hj h => ?_⟩
    · rw [e] at h
      rcases gupd_cs h with ⟨rfl, t0, h1, rfl⟩ | ⟨_, h1⟩
      · exact F.keys _ _ h1
      · exact F.keys _ _ h1
    · rw [e] at h
      rcases gupd_cs h with ⟨e2, t0, h1, rfl⟩ | ⟨_, h1⟩
      · rw [htk] at h1; cases h1
        rw [← e2] at htk
        obtain ⟨x, y, z⟩ := F.st j tk hj htk
        refine ⟨?_, fun _ => by simp, fun x => by cases x⟩
        simp only [true_or, if_true]
        rw [if_neg (by omega)] at x
        omega
      · exact F.st j t hj h1
theorem acy_fillAt (K : IOk m) (A : Acy (mget m.tasks)) (out : List Str) (i : Nat) : Acy (mget (ifillAt m out i).1.tasks) := by
  rcases fillAt_get m out i with ⟨e, _⟩ | ⟨k, q, hq, e⟩
  · rw [e]; exact A
  · rw [e]
    refine acy_sub A fun k' t' h h3 => ?_
    rcases gupd_cs h with ⟨_, t0, h1, rfl⟩ | ⟨_, h1⟩
    · cases h3
    · exact ⟨t', h1, h3, rfl⟩
theorem fi_fill : ∀ (d : Nat) {m : MI} (_ : FI nm n a m) (_ : Acy (mget m.tasks)) (out : List Str) (i : Nat), FI nm n a (ifillFrom d m out i).1 ∧ Acy (mget (ifillFrom d m out i).1.tasks)
  | 0, m, F, A, out, i => ⟨F, A⟩
  | d + 1, m, F, A, out, i => fi_fill d (fi_fillAt F out i) (acy_fillAt F.ok A out i) _ _
/-- Who is done stays done, who is not over is not. -/
theorem fill_st : ∀ (d : Nat) {m : MI} (_ : IOk m) (out : List Str) (i : Nat) (k : Str), (mst m.tasks k = 4 ↔ mst (ifillFrom d m out i).1.tasks k = 4)
  | 0, m, K, out, i, k => Iff.rfl
  | d + 1, m, K, out, i, k => by
    refine Iff.trans ?_ (fill_st d (iok_fillAt K) _ _ k)
    rcases fillAt_get m out i with ⟨e, _⟩ | ⟨k', q, hq, e⟩
    · rw [e]
    · obtain ⟨tk, htk, hst⟩ := K.ig.q1 k' (by rw [hq]; simp)
      unfold mst
      rw [e]
      by_cases x : k = k'
      · subst x
        rw [gupd_same htk, htk]
        simp [hst]
      · rw [gupd_ne x]
theorem fill_queue (i : Nat) : ∀ (d : Nat) {m : MI} {out : List Str} {j : Nat}, m.queue = [] → (ifillFrom d m out j).1.queue = []
  | 0, m, out, j, h => h
  | d + 1, m, out, j, h => by
    refine fill_queue i d ?_
    unfold ifillAt
    split
    · split
      · split
        · rename_i hq; rw [h] at hq; cases hq
        · exact h
      · exact h
    · exact h
theorem fillAt_slots (m : MI) (out : List Str) (i j : Nat) (h : (ifillAt m out i).1.slots[j]? = some e0) (K : IOk m) : m.slots[j]? = some e0 ∧ (j = i → (ifillAt m out i).1.queue = []) := by
  unfold ifillAt at h ⊢
  split
  · rename_i s hs
    rw [hs] at h
    simp only at h
    split
    · rename_i es
      rw [if_pos es] at h
      split
      · rename_i k q hq
        rw [hq] at h
        simp only at h
        obtain ⟨tk, htk, _⟩ := K.ig.q1 k (by rw [hq]; simp)
        have hk0 := (K.ig.key k tk htk).2
        by_cases x : i = j
        · subst x
          have hlt : i < m.slots.length := (List.getElem?_eq_some_iff.1 hs).1
          rw [List.getElem?_set_self hlt] at h
          cases h
          exact absurd rfl hk0
        · rw [List.getElem?_set_ne x] at h
          exact ⟨h, fun y => absurd y.symm x⟩
      · rename_i hq
        rw [hq] at h
        exact ⟨h, fun _ => hq⟩
    · rename_i es
      rw [if_neg es] at h
      refine ⟨h, fun y => ?_⟩
      subst y
      rw [hs] at h
      cases h
      exact absurd rfl es
  · rename_i hs
    rw [hs] at h
    refine ⟨h, fun y => ?_⟩
    subst y
    rw [hs] at h
    cases h
theorem fill_full : ∀ (d : Nat) {m : MI} {out : List Str} {i : Nat}, IOk m → (∀ j, j < i → m.slots[j]? = some e0 → m.queue = []) → ∀ j, j < i + d → (ifillFrom d m out i).1.slots[j]? = some e0 → (ifillFrom d m out i).1.queue = []
  | 0, m, out, i, K, h, j, hj => h j hj
  | d + 1, m, out, i, K, h, j, hj => fun hs => by
    refine fill_full d (iok_fillAt K) (fun j' hj' hs' => ?_) j (by omega) hs
    obtain ⟨h1, h2⟩ := fillAt_slots m out i j' hs' K
    by_cases x : j' = i
    · exact h2 x
    · have hq := h j' (by omega) h1
      exact fill_queue 0 1 (m := m) (out := out) (j := i) hq
/-! Nobody is stuck. -/
theorem over_iff (F : FI nm n a m) : (!(decide (manyOf m.tasks 1 + manyOf m.tasks 2 > 0)) && (manyOf m.tasks 3 == 0)) = true ↔ ∀ t, t ∈ m.tasks → t.st = 4 := by
  have n1 := many_nonneg (l := m.tasks) (s := 1) (by omega)
  have n2 := many_nonneg (l := m.tasks) (s := 2) (by omega)
  simp only [Bool.and_eq_true, Bool.not_eq_true', decide_eq_false_iff_not, beq_iff_eq]
  constructor
  · intro ⟨h, h3⟩ t ht
    have h1 := (many_zero (l := m.tasks) (s := 1) (by omega)).1 (by omega) t ht
    have h2 := (many_zero (l := m.tasks) (s := 2) (by omega)).1 (by omega) t ht
    have h3 := (many_zero (l := m.tasks) (s := 3) (by omega)).1 h3 t ht
    have := F.ok.ig.st t.key t (F.ok.mem ht)
    omega
  · intro h
    have h1 := (many_zero (l := m.tasks) (s := 1) (by omega)).2 fun t ht => by have := h t ht; omega
    have h2 := (many_zero (l := m.tasks) (s := 2) (by omega)).2 fun t ht => by have := h t ht; omega
    have h3 := (many_zero (l := m.tasks) (s := 3) (by omega)).2 fun t ht => by have := h t ht; omega
    exact ⟨by omega, h3⟩
/-- Somebody goes on, unless all is over. -/
theorem live_of (F : FI nm n a m) (A : Acy (mget m.tasks)) (h : ∃ t, t ∈ m.tasks ∧ t.st ≠ 4) : ∃ t, t ∈ m.tasks ∧ (t.st = 1 ∨ t.st = 2) := by
  obtain ⟨t, ht, h4⟩ := h
  have hst := F.ok.ig.st t.key t (F.ok.mem ht)
  by_cases h3 : t.st = 3
  · obtain ⟨L, e, c⟩ := A t.key
    have h0 : L ≠ [] := by
      cases c with
      | stop hs => exact absurd h3 (hs t (F.ok.mem ht))
      | step _ _ _ => simp
    obtain ⟨y, u, hu, hu3, hon⟩ := ch_last c h0
    obtain ⟨v, hv, hyv⟩ := F.ok.ig.w2 y u hu hu3
    rw [hon] at hv
    have hv3 := ch_end c v hv
    have hvs := F.ok.ig.st e v hv
    obtain ⟨i, hi, ei⟩ := F.keys e v hv
    rw [ei] at hv
    have hv4 := (F.st i v hi hv).2.2
    refine ⟨v, mget_mem' hv, ?_⟩
    by_cases x : v.st = 4
    · rw [hv4 x] at hyv; simp at hyv
    · omega
  · exact ⟨t, ht, by omega⟩
theorem not_stuck (F : FI nm n a m) (A : Acy (mget m.tasks)) (h : ∃ t, t ∈ m.tasks ∧ t.st ≠ 4) : manyOf m.tasks 1 + manyOf m.tasks 2 > 0 := by
  have n1 := many_nonneg (l := m.tasks) (s := 1) (by omega)
  have n2 := many_nonneg (l := m.tasks) (s := 2) (by omega)
  obtain ⟨t, ht, x⟩ := live_of F A h
  rcases x with x | x
  · have : manyOf m.tasks 1 ≠ 0 := fun e => (many_zero (s := 1) (by omega)).1 e t ht x
    omega
  · have : manyOf m.tasks 2 ≠ 0 := fun e => (many_zero (s := 2) (by omega)).1 e t ht x
    omega
/-- Behind the filling somebody is picked. -/
theorem pick_of (F : FI nm n a m) (A : Acy (mget m.tasks)) (h0 : 0 < m.slots.length) (hf : ∀ j, j < m.slots.length → m.slots[j]? = some e0 → m.queue = []) (h : ∃ t, t ∈ m.tasks ∧ t.st ≠ 4) (z : Int) :
    ∃ i t, i < n ∧ pickFrom m.slots (pickAt m.slots.length z) m.slots.length 0 = some (nm i) ∧ mget m.tasks (nm i) = some t ∧ t.st = 2 := by
  have busy : ∃ s, s ∈ m.slots ∧ s ≠ e0 := by
    obtain ⟨t, ht, x⟩ := live_of F A h
    rcases x with x | x
    · have hq := F.ok.ig.q2 t.key t (F.ok.mem ht) x
      refine ⟨m.slots[0], List.getElem_mem h0, fun e => ?_⟩
      have := hf 0 h0 (by rw [List.getElem?_eq_getElem h0, e])
      rw [this] at hq; cases hq
    · exact ⟨t.key, F.ok.ig.s2 t.key t (F.ok.mem ht) x, (F.ok.ig.key t.key t (F.ok.mem ht)).2⟩
  obtain ⟨s0, hs0, hne0⟩ := busy
  cases hp : pickFrom m.slots (pickAt m.slots.length z) m.slots.length 0 with
  | none => exact absurd ((pick_idle h0 z).1 hp s0 hs0) hne0
  | some s =>
    obtain ⟨h1, h2⟩ := pickFrom_some _ _ hp
    obtain ⟨t', ht', h2'⟩ := F.ok.ig.s1 s h2 h1
    obtain ⟨i, hi, rfl⟩ := F.keys s t' ht'
    exact ⟨i, t', hi, rfl, ht', h2'⟩
end Go.Abs.Sch
end

section
/- A task ends, a task waits: what comes of it. No Go in it. -/
namespace Go.Abs.Sch
open Go.Abs
variable {nm : Nat → Str} {n : Nat} {a : Nat → Nat} {m : MI}
theorem mst_of {l : List MT} {k : Str} {t : MT} (h : mget l k = some t) : mst l k = t.st := by unfold mst; rw [h]
theorem fi_done (F : FI nm n a m) {key : Str} {t0 : MT} (hk : mget m.tasks key = some t0) (hst : t0.st = 2 ∨ t0.st = 3) :
    (idone m key).1 = 0 ∧ FI nm n a (idone m key).2 ∧ (idone m key).2.slots.length = m.slots.length ∧ (∀ k, mst m.tasks k = 4 → mst (idone m key).2.tasks k = 4) ∧ mst (idone m key).2.tasks key = 4 ∧
      ∀ k t', mget (idone m key).2.tasks k = some t' → t'.st = 3 → k ≠ key ∧ ∃ t, mget m.tasks k = some t ∧ t.st = 3 ∧ t.on = t'.on := by
  have K' := iok_done (key := key) F.ok
  rcases idone_cases m key F.ok with ⟨_, h⟩ | ⟨t1, on, slots', hk1, hst1, l', h, hkeys, hg⟩
  · obtain ⟨x, y⟩ := h t0 hk
    omega
  rw [hk] at hk1; cases hk1
  rw [h] at K' ⊢
  have hsl : slots'.length = m.slots.length := by rcases hst1 with ⟨_, _, j, _, rfl⟩ | ⟨_, _, rfl⟩ <;> simp
  have inW : ∀ k t, k ∈ (t0.ws.filter fun x => !bEq x key) → mget m.tasks k = some t → t.st = 3 := fun k t hm ht => by
    obtain ⟨u, hu, h3, _⟩ := F.ok.ig.w1 key t0 hk k (List.mem_filter.1 hm).1
    rw [ht] at hu; cases hu; exact h3
  refine ⟨rfl, ⟨K', fun k t ht => ?_, fun i t hi ht => ?_⟩, hsl, fun k h4 => ?_, ?_, fun k t' ht h3 => ?_⟩
  · simp only at ht
    rw [hg] at ht
    obtain ⟨u, hu, _⟩ := gm_some ht
    exact F.keys k u hu
  · simp only at ht
    rw [hg] at ht
    obtain ⟨u, hu, rfl⟩ := gm_some ht
    obtain ⟨x, y, z⟩ := F.st i u hi hu
    unfold doneF StOk
    simp only
    by_cases e : nm i = key
    · rw [e, hk] at hu; cases hu
      rw [if_pos e, if_pos e]
      refine ⟨?_, fun _ => y (by omega), fun _ => rfl⟩
      split at x <;> simp <;> omega
    · rw [if_neg e, if_neg e]
      by_cases w : nm i ∈ (t0.ws.filter fun x => !bEq x key)
      · have h3 := inW _ _ w hu
        rw [if_pos w]
        rw [if_neg (by omega)] at x
        exact ⟨by simpa using x, fun x => absurd rfl x, fun x => by cases x⟩
      · rw [if_neg w]
        refine ⟨x, y, fun h4 => ?_⟩
        rw [z h4]
        split <;> simp
  · obtain ⟨t, ht, h4⟩ := mst_some h4 (by omega)
    have : mget l' k = some (doneF key on (t0.ws.filter fun x => !bEq x key) k t) := by rw [hg, gm_of ht]
    rw [mst_of this]
    unfold doneF
    simp only
    split
    · rfl
    · split
      · rename_i w
        have := inW _ _ w ht
        omega
      · exact h4
  · have : mget l' key = some (doneF key on (t0.ws.filter fun x => !bEq x key) key t0) := by rw [hg, gm_of hk]
    rw [mst_of this]
    simp [doneF]
  · simp only at ht
    rw [hg] at ht
    obtain ⟨u, hu, rfl⟩ := gm_some ht
    unfold doneF at h3 ⊢
    simp only at h3 ⊢
    by_cases e : k = key
    · rw [if_pos e] at h3; cases h3
    · rw [if_neg e] at h3
      split at h3
      · cases h3
      · exact ⟨e, u, hu, h3, rfl⟩
theorem acy_done (F : FI nm n a m) (A : Acy (mget m.tasks)) {key : Str} {t0 : MT} (hk : mget m.tasks key = some t0) (hst : t0.st = 2 ∨ t0.st = 3) : Acy (mget (idone m key).2.tasks) :=
  acy_sub A fun k t' h h3 => ((fi_done F hk hst).2.2.2.2.2 k t' h h3).2
/-- A number more at one place. -/
def bump (a : Nat → Nat) (i : Nat) : Nat → Nat := fun k => a k + if k = i then 1 else 0
theorem fi_wait (F : FI nm n a m) (A : Acy (mget m.tasks)) (hinj : ∀ i j, i < n → j < n → nm i = nm j → i = j) (hne : ∀ i, i < n → nm i ≠ e0) {i j : Nat} (hi : i < n) (hj : j < n) {t0 : MT} (hk : mget m.tasks (nm i) = some t0) (h2 : t0.st = 2) :
    (iwait m (nm i) (nm j)).2.1 = 0 ∧ FI nm n (bump a i) (iwait m (nm i) (nm j)).2.2 ∧ (iwait m (nm i) (nm j)).2.2.slots.length = m.slots.length ∧ (∀ k, mst m.tasks k = 4 → mst (iwait m (nm i) (nm j)).2.2.tasks k = 4) ∧
      (((iwait m (nm i) (nm j)).1 = [] ∧ Acy (mget (iwait m (nm i) (nm j)).2.2.tasks)) ∨
        (∃ h : 0 < (iwait m (nm i) (nm j)).1.length, (iwait m (nm i) (nm j)).1.Nodup ∧ nm i ∈ (iwait m (nm i) (nm j)).1 ∧ (∀ c, c ∈ (iwait m (nm i) (nm j)).1 → mst (iwait m (nm i) (nm j)).2.2.tasks c = 3 ∧ less c ((iwait m (nm i) (nm j)).1[0]) = false) ∧
          Acy (mget (idone (iwait m (nm i) (nm j)).2.2 ((iwait m (nm i) (nm j)).1[0])).2.tasks))) := by
  have K' := iok_wait (key := nm i) (on := nm j) F.ok
  have hab : ∀ k, a k ≤ bump a i k := fun k => Nat.le_add_right _ _
  have hm2 : mst m.tasks (nm i) = 2 := by rw [mst_of hk, h2]
  have h0 := hne j hj
  by_cases h4 : mst m.tasks (nm j) = 4
  · have e : iwait m (nm i) (nm j) = ([], 0, m) := by
      unfold iwait
      rw [if_neg h0, if_neg (by omega), if_pos h4]
    rw [e]
    exact ⟨rfl, F.more hab, rfl, fun k x => x, .inl ⟨rfl, A⟩⟩
  have F1 := fi_want1 F hj h0
  have A1 := acy_want1 A (nm j)
  obtain ⟨hon, hold, hsl⟩ := iwant1_get (m := m) (on := nm j)
  have hk1 := hold _ _ hk
  have e : iwait m (nm i) (nm j) = (icircle (mupL (mupL (iwant1 m (nm j)).tasks (nm i) fun t => { t with st := 3, on := nm j }) (nm j) fun t => { t with ws := t.ws ++ [nm i] }) (nm i), 0,
      ⟨mupL (mupL (iwant1 m (nm j)).tasks (nm i) fun t => { t with st := 3, on := nm j }) (nm j) fun t => { t with ws := t.ws ++ [nm i] }, ileave (iwant1 m (nm j)).slots (nm i), (iwant1 m (nm j)).queue⟩) := by
    unfold iwait
    rw [if_neg h0, if_neg (by omega), if_neg h4]
  have hg : mget (mupL (mupL (iwant1 m (nm j)).tasks (nm i) fun t => { t with st := 3, on := nm j }) (nm j) fun t => { t with ws := t.ws ++ [nm i] }) = gm (mget (iwant1 m (nm j)).tasks) (waitF (nm i) (nm j)) := by
    rw [mget_up (f := fun t => { t with ws := t.ws ++ [nm i] }) (fun _ => rfl), mget_up (f := fun t => { t with st := 3, on := nm j }) (fun _ => rfl), gupd_gm, gupd_gm, gm_gm]
    refine gm_congr fun k t _ => ?_
    unfold waitF
    by_cases e1 : k = nm i
    · by_cases e2 : k = nm j
      · simp only [if_pos e1, if_pos e2]
      · simp only [if_pos e1, if_neg e2]
    · by_cases e2 : k = nm j
      · simp only [if_neg e1, if_pos e2]
      · simp only [if_neg e1, if_neg e2]
  rw [e] at K' ⊢
  simp only at K' ⊢
  generalize mupL (mupL (iwant1 m (nm j)).tasks (nm i) fun t => { t with st := 3, on := nm j }) (nm j) (fun t => { t with ws := t.ws ++ [nm i] }) = l at hg K' ⊢
  have hj4 : ∀ t, mget (iwant1 m (nm j)).tasks (nm j) = some t → t.st ≠ 4 := fun t ht x => by
    rw [want1_get] at ht
    split at ht
    · rename_i u hu
      cases ht
      exact h4 (by rw [mst_of hu, x])
    · split at ht
      · cases ht; cases x
      · cases ht
  have F' : FI nm n (bump a i) ⟨l, ileave (iwant1 m (nm j)).slots (nm i), (iwant1 m (nm j)).queue⟩ := by
    refine ⟨K', fun k t ht => ?_, fun q t hq ht => ?_⟩
    · simp only at ht
      rw [hg] at ht
      obtain ⟨u, hu, _⟩ := gm_some ht
      exact F1.keys k u hu
    · simp only at ht
      rw [hg] at ht
      obtain ⟨u, hu, rfl⟩ := gm_some ht
      obtain ⟨x, y, z⟩ := F1.st q u hq hu
      unfold StOk
      rw [waitF_st]
      by_cases e1 : nm q = nm i
      · have : q = i := hinj q i hq hi e1
        subst this
        rw [hk1] at hu; cases hu
        rw [if_pos rfl]
        rw [if_pos (.inl h2)] at x
        refine ⟨?_, fun _ => y (by omega), fun x => by cases x⟩
        simp only [waitF, bump, if_true]
        simpa using x
      · rw [if_neg e1]
        refine ⟨?_, y, fun x => ?_⟩
        · have := hab q
          simp only [waitF]
          omega
        · simp only [waitF]
          by_cases e2 : nm q = nm j
          · rw [e2] at hu
            exact absurd x (hj4 u hu)
          · rw [if_neg e2]
            exact z x
  have hst4 : ∀ k, mst m.tasks k = 4 → mst l k = 4 := fun k x => by
    obtain ⟨t, ht, h4'⟩ := mst_some x (by omega)
    have ht1 := hold _ _ ht
    have : mget l k = some (waitF (nm i) (nm j) k t) := by rw [hg, gm_of ht1]
    rw [mst_of this, waitF_st]
    split
    · rename_i e1
      rw [e1, hk] at ht; cases ht
      omega
    · exact h4'
  refine ⟨trivial, F', by rw [ileave_len, hsl], hst4, ?_⟩
  obtain ⟨L, en, c⟩ := A1 (nm j)
  by_cases he : en = nm i
  · subst he
    right
    have hc := icircle_some hg K'.nodup hk1 (by omega) c
    rw [hc]
    have hnd : (nm i :: L).Nodup := List.nodup_cons.2 ⟨ch_notkey hk1 (by omega) c, ch_nodup c⟩
    obtain ⟨r1, r2, ⟨r3, r4⟩, r5⟩ := rot_facts hnd (by simp)
    have w3 : ∀ c', c' ∈ nm i :: L → ∃ t, mget l c' = some t ∧ t.st = 3 := fun c' hc' => by
      rcases List.mem_cons.1 hc' with rfl | hc'
      · exact ⟨_, by rw [hg, gm_of hk1], by rw [waitF_st, if_pos rfl]⟩
      · obtain ⟨t, ht, h3⟩ := ch_st c c' hc'
        refine ⟨_, by rw [hg, gm_of ht], ?_⟩
        rw [waitF_st]
        split
        · rfl
        · exact h3
    refine ⟨r3, r2, (r1 _).2 (by simp), fun c' hc' => ?_, ?_⟩
    · obtain ⟨t, ht, h3⟩ := w3 c' ((r1 _).1 hc')
      exact ⟨by rw [mst_of ht, h3], by rw [r4]; exact r5 c' hc'⟩
    · have hmem : (rotL (nm i :: L))[0] ∈ nm i :: L := (r1 _).1 (List.getElem_mem _)
      obtain ⟨t, ht, h3⟩ := w3 _ hmem
      obtain ⟨_, _, _, _, _, sub⟩ := fi_done F' ht (.inr h3)
      refine acy_break hk1 (by omega) A1 c (List.mem_cons.1 hmem) fun k t' h1 h2 => ?_
      obtain ⟨x, u, hu, y⟩ := sub k t' h1 h2
      simp only at hu
      rw [hg] at hu
      exact ⟨x, u, hu, y⟩
  · left
    refine ⟨icircle_none hg hk1 (by omega) c he, ?_⟩
    rw [hg]
    exact acy_wait hk1 (by omega) A1 c he
end Go.Abs.Sch
end

section
/- Some pieces under one's eyes: what stands where, and what was not touched. -/
namespace Go.Abs
variable {h h' : AW} {μ μ' : Paint} {P : Program} {ρ0 ρ ρ' : Store} {ns : List Nat} {rs : List Res} {c : Nat}

/-- What is not of these names stays. -/
def Fra (ns : List Nat) (ρ ρ' : Store) : Prop := ∀ c r, c ∉ ns → ρ c = some r → ρ' c = some r
theorem Fra.refl : Fra ns ρ ρ := fun _ _ _ h => h
theorem Fra.trans {ρ'' : Store} (a : Fra ns ρ ρ') (b : Fra ns ρ' ρ'') : Fra ns ρ ρ'' := fun c r hn hc => b c r hn (a c r hn hc)
theorem Fra.mono {ms : List Nat} (a : Fra ns ρ ρ') (hs : ∀ c, c ∈ ns → c ∈ ms) : Fra ms ρ ρ' := fun c r hn hc => a c r (fun x => hn (hs c x)) hc
theorem Fra.upd {r : Res} (a : Fra ns ρ ρ') (hc : c ∈ ns) : Fra ns ρ (ρ'.upd c r) := fun d r' hn hd => by
  rw [upd_ne (fun e => hn (by rw [e]; exact hc))]; exact a d r' hn hd
theorem Fra.new {r : Res} (a : Fra ns ρ ρ') (hc : ρ' c = none) : Fra ns ρ (ρ'.upd c r) := fun d r' hn hd => upd_old hc (a d r' hn hd)
/-- What only names of ns1 turned, seen with more names. -/
theorem Fra.call {ns1 : List Nat} {ρ'' : Store} (a : Fra ns ρ ρ') (b : Fra ns1 ρ' ρ'') (hs : ∀ c, c ∈ ns1 → c ∈ ns ∨ ρ c = none) : Fra ns ρ ρ'' := fun c r hn hc =>
  b c r (fun x => by rcases hs c x with y | y
                     · exact hn y
                     · rw [hc] at y; cases y) (a c r hn hc)

structure Pcs (ρ0 ρ : Store) (ns : List Nat) (rs : List Res) : Prop where
  nodup : ns.Nodup
  len : ns.length = rs.length
  at_ : ∀ (i : Nat) (c : Nat) (r : Res), ns[i]? = some c → rs[i]? = some r → ρ c = some r
  fra : Fra ns ρ0 ρ

theorem Pcs.init (hd : ns.Nodup) (hl : ns.length = rs.length) (ha : ∀ (i : Nat) (c : Nat) (r : Res), ns[i]? = some c → rs[i]? = some r → ρ c = some r) : Pcs ρ ρ ns rs := ⟨hd, hl, ha, Fra.refl⟩
theorem Pcs.get (W : Pcs ρ0 ρ ns rs) (i : Nat) {r : Res} (hr : rs[i]? = some r) : ∃ c, ns[i]? = some c ∧ ρ c = some r := by
  have hi : i < ns.length := by rw [W.len]; exact (List.getElem?_eq_some_iff.1 hr).1
  exact ⟨ns[i], List.getElem?_eq_getElem hi, W.at_ i _ _ (List.getElem?_eq_getElem hi) hr⟩
theorem Pcs.set (W : Pcs ρ0 ρ ns rs) (i : Nat) (hc : ns[i]? = some c) (r : Res) : Pcs ρ0 (ρ.upd c r) ns (rs.set i r) := by
  refine ⟨W.nodup, by simp [W.len], fun j d r' hd hr => ?_, W.fra.upd (List.mem_of_getElem? hc)⟩
  rw [List.getElem?_set] at hr
  split at hr
  · rename_i e; subst e
    rw [hc] at hd; cases hd
    split at hr
    · cases hr; exact upd_same
    · cases hr
  · rename_i e
    have hi := (List.getElem?_eq_some_iff.1 hc).1
    have hj := (List.getElem?_eq_some_iff.1 hd).1
    rw [upd_ne, W.at_ j d r' hd hr]
    intro e2; subst e2
    have := (List.getElem_inj (h₀ := hj) (h₁ := hi) W.nodup).1 (by rw [(List.getElem?_eq_some_iff.1 hc).2, (List.getElem?_eq_some_iff.1 hd).2])
    exact e this.symm
/-- A new name that nobody asks for. -/
theorem Pcs.tmp (W : Pcs ρ0 ρ ns rs) (hc : ρ c = none) (r : Res) : Pcs ρ0 (ρ.upd c r) ns rs :=
  ⟨W.nodup, W.len, fun j d r' hd hr => upd_old hc (W.at_ j d r' hd hr), W.fra.new hc⟩
theorem Pcs.notin (W : Pcs ρ0 ρ ns rs) (hc : ρ c = none) : c ∉ ns := fun hm => by
  obtain ⟨i, hi⟩ := List.getElem?_of_mem hm
  have hlt : i < rs.length := by rw [← W.len]; exact (List.getElem?_eq_some_iff.1 hi).1
  have := W.at_ i c _ hi (List.getElem?_eq_getElem hlt)
  rw [hc] at this; cases this
theorem Pcs.not0 (W : Pcs ρ0 ρ ns rs) (hc : ρ c = none) : ρ0 c = none := by
  cases hx : ρ0 c with
  | none => rfl
  | some r => rw [W.fra c r (W.notin hc) hx] at hc; cases hc
/-- A new name under one's eyes too. -/
theorem Pcs.new (W : Pcs ρ0 ρ ns rs) (hc : ρ c = none) (r : Res) : Pcs ρ0 (ρ.upd c r) (c :: ns) (r :: rs) := by
  refine ⟨List.nodup_cons.2 ⟨W.notin hc, W.nodup⟩, by simp [W.len], fun j d r' hd hr => ?_, fun d r' hn hd => ?_⟩
  · cases j with
    | zero => simp at hd hr; subst hd hr; exact upd_same
    | succ j => simp at hd hr; exact upd_old hc (W.at_ j d r' hd hr)
  · exact upd_old hc (W.fra d r' (fun x => hn (List.mem_cons_of_mem _ x)) hd)

theorem Pcs.tail {r : Res} (W : Pcs ρ0 ρ (c :: ns) (r :: rs)) (hc : ρ0 c = none) : Pcs ρ0 ρ ns rs :=
  ⟨(List.nodup_cons.1 W.nodup).2, by have := W.len; simpa using this, fun i d r' hd hr => W.at_ (i + 1) d r' (by simpa using hd) (by simpa using hr), fun d r' hn hd => W.fra d r' (fun x => by
    rcases List.mem_cons.1 x with rfl | y
    · rw [hc] at hd; cases hd
    · exact hn y) hd⟩
/-- The first goes to the end. -/
theorem Pcs.rot {r : Res} (W : Pcs ρ0 ρ (c :: ns) (r :: rs)) : Pcs ρ0 ρ (ns ++ [c]) (rs ++ [r]) := by
  have hl : ns.length = rs.length := by have := W.len; simpa using this
  refine ⟨?_, by simp [hl], fun j d r' hd hr => ?_, fun d r' hn hd => W.fra d r' (fun x => hn (by
    rcases List.mem_cons.1 x with y | y
    · subst y; simp
    · exact List.mem_append_left _ y)) hd⟩
  · rw [List.nodup_append]
    have := List.nodup_cons.1 W.nodup
    refine ⟨this.2, by simp, fun a ha b hb => ?_⟩
    simp at hb; subst hb
    rintro rfl; exact this.1 ha
  · rcases Nat.lt_or_ge j ns.length with x | x
    · rw [List.getElem?_append_left x] at hd
      rw [List.getElem?_append_left (by rw [← hl]; exact x)] at hr
      exact W.at_ (j + 1) d r' (by simpa using hd) (by simpa using hr)
    · rw [List.getElem?_append_right x] at hd
      rw [List.getElem?_append_right (by rw [← hl]; exact x), ← hl] at hr
      cases hj : j - ns.length with
      | zero => rw [hj] at hd hr; exact W.at_ 0 d r' (by simpa using hd) (by simpa using hr)
      | succ k => rw [hj] at hd; simp at hd
/-- Whose names: the old ones, and new ones. -/
def FrN (ns : List Nat) (ρ : Store) (ns' : List Nat) (ρ' : Store) : Prop := Fra ns ρ ρ' ∧ (∀ c, c ∈ ns' → c ∈ ns ∨ ρ c = none) ∧ ∀ c, c ∈ ns → c ∈ ns'
theorem FrN.refl : FrN ns ρ ns ρ := ⟨Fra.refl, fun _ h => .inl h, fun _ h => h⟩
theorem FrN.of (F : Fra ns ρ ρ') : FrN ns ρ ns ρ' := ⟨F, fun _ h => .inl h, fun _ h => h⟩
theorem FrN.trans {ns' ns'' : List Nat} {ρ'' : Store} (a : FrN ns ρ ns' ρ') (b : FrN ns' ρ' ns'' ρ'') : FrN ns ρ ns'' ρ'' := by
  refine ⟨fun c r hn hc => b.1 c r (fun x => ?_) (a.1 c r hn hc), fun c hc => ?_, fun c hc => b.2.2 c (a.2.2 c hc)⟩
  · rcases a.2.1 c x with y | y
    · exact hn y
    · rw [hc] at y; cases y
  · rcases b.2.1 c hc with x | x
    · exact a.2.1 c x
    · by_cases hn : c ∈ ns
      · exact .inl hn
      · refine .inr ?_
        cases hx : ρ c with
        | none => rfl
        | some r => rw [a.1 c r hn hx] at x; cases x
/-- What is nobody's behind a call was nobody's. -/
theorem FrN.none {ns' : List Nat} (a : FrN ns ρ ns' ρ') {c : Nat} (hn : c ∉ ns') (hc : ρ' c = none) : ρ c = none := by
  cases hz : ρ c with
  | none => rfl
  | some r => rw [a.1 c r (fun x => hn (a.2.2 c x)) hz] at hc; cases hc
/-- Without the first. -/
theorem Pcs.tail' {r : Res} (W : Pcs ρ ρ (c :: ns) (r :: rs)) : Pcs ρ ρ ns rs :=
  ⟨(List.nodup_cons.1 W.nodup).2, by have := W.len; simpa using this, fun i d r' hd hr => W.at_ (i + 1) d r' (by simpa using hd) (by simpa using hr), Fra.refl⟩
theorem Pcs.self (W : Pcs ρ0 ρ ns rs) : Pcs ρ ρ ns rs := ⟨W.nodup, W.len, W.at_, Fra.refl⟩
theorem Pcs.to {rs' : List Res} (W : Pcs ρ0 ρ ns rs) (e : rs = rs') : Pcs ρ ρ ns rs' := e ▸ W.self
theorem Pcs.eq {rs' : List Res} (W : Pcs ρ0 ρ ns rs) (e : rs = rs') : Pcs ρ0 ρ ns rs' := e ▸ W
theorem Pcs.names {ns' : List Nat} (W : Pcs ρ0 ρ ns rs) (e : ns = ns') : Pcs ρ0 ρ ns' rs := e ▸ W
/-- Seen from an earlier store. -/
theorem Pcs.back {ρ1 : Store} (W : Pcs ρ0 ρ ns rs) (F : Fra ns ρ1 ρ0) : Pcs ρ1 ρ ns rs := ⟨W.nodup, W.len, W.at_, F.trans W.fra⟩
/-- Others' turns. -/
theorem Pcs.keep {ms : List Nat} (W : Pcs ρ0 ρ ns rs) (F : Fra ms ρ ρ') (hd : ∀ c, c ∈ ms → c ∉ ns) : Pcs ρ' ρ' ns rs :=
  ⟨W.nodup, W.len, fun i c r hc hr => F c r (fun x => hd c x (List.mem_of_getElem? hc)) (W.at_ i c r hc hr), Fra.refl⟩
/-- Others' pieces. -/
theorem Pcs.keepN {ms ms' : List Nat} (W : Pcs ρ ρ ns rs) (F : FrN ms ρ ms' ρ') (hd : ∀ c, c ∈ ms → c ∉ ns) : Pcs ρ' ρ' ns rs ∧ ∀ c, c ∈ ms' → c ∉ ns := by
  refine ⟨W.keep F.1 hd, fun c hc hn => ?_⟩
  rcases F.2.1 c hc with x | x
  · exact hd c x hn
  · exact W.notin x hn
/-- What a call made anew. -/
theorem Pcs.adopt {r : Res} (W : Pcs ρ0 ρ ns rs) (V : Pcs ρ ρ' [c] [r]) (hc : ρ c = none) : Pcs ρ0 ρ' (c :: ns) (r :: rs) := by
  have hn := W.notin hc
  have h0 := W.not0 hc
  refine ⟨List.nodup_cons.2 ⟨hn, W.nodup⟩, by simp [W.len], fun i d s hd hs => ?_, fun d s hd hs => ?_⟩
  · cases i with
    | zero => exact V.at_ 0 d s (by simpa using hd) (by simpa using hs)
    | succ i =>
      simp at hd hs
      refine V.fra d s (fun hm => hn ?_) (W.at_ i d s hd hs)
      simp at hm; subst hm; exact List.mem_of_getElem? hd
  · simp only [List.mem_cons, not_or] at hd
    exact V.fra d s (fun hm => by simp at hm; exact hd.1 hm) (W.fra d s hd.2 hs)
/-- What a call turned. -/
theorem Pcs.put {r : Res} {i : Nat} (W : Pcs ρ0 ρ ns rs) (hc : ns[i]? = some c) (V : Pcs ρ ρ' [c] [r]) : Pcs ρ0 ρ' ns (rs.set i r) := by
  refine ⟨W.nodup, by simp [W.len], fun j d s hd hs => ?_, fun d s hd hs => V.fra d s (fun hm => hd (by simp at hm; subst hm; exact List.mem_of_getElem? hc)) (W.fra d s hd hs)⟩
  rw [List.getElem?_set] at hs
  have hi := List.getElem?_eq_some_iff.1 hc
  have hj := List.getElem?_eq_some_iff.1 hd
  split at hs
  · rename_i e; subst e
    rw [hc] at hd; cases hd
    split at hs
    · cases hs; exact V.at_ 0 _ _ rfl rfl
    · cases hs
  · rename_i e
    refine V.fra d s (fun hm => ?_) (W.at_ j d s hd hs)
    simp at hm; subst hm
    exact e ((List.getElem_inj (h₀ := hi.1) (h₁ := hj.1) W.nodup).1 (by rw [hi.2, hj.2]))
/-- Without the second. -/
theorem Pcs.tail2 {d : Nat} {r s : Res} (W : Pcs ρ0 ρ (c :: d :: ns) (r :: s :: rs)) (hd : ρ0 d = none) : Pcs ρ0 ρ (c :: ns) (r :: rs) := by
  refine ⟨?_, by have := W.len; simp at this ⊢; omega, fun i e t he ht => ?_, fun e t he ht => W.fra e t (fun hm => ?_) ht⟩
  · have := W.nodup
    simp only [List.nodup_cons, List.mem_cons, not_or] at this ⊢
    exact ⟨this.1.2, this.2.2⟩
  · cases i with
    | zero => exact W.at_ 0 e t (by simpa using he) (by simpa using ht)
    | succ i => exact W.at_ (i + 2) e t (by simpa using he) (by simpa using ht)
  · simp only [List.mem_cons, not_or] at hm he
    rcases hm with x | x | x
    · exact he.1 x
    · subst x; rw [hd] at ht; cases ht
    · exact he.2 x
/-- A part of a slice. -/
def SubOf (a0 : Option Addr) (l0 : List Value) (a : Option Addr) (l : List Value) : Prop := ∃ k n, shO a0 k = some a ∧ l = (l0.drop k).take n
theorem SubOf.self {a : Option Addr} {l : List Value} (h : ∀ b, a = some b → b.spot = none) : SubOf a l a l := by
  refine ⟨0, l.length, ?_, by simp⟩
  cases a with
  | none => rfl
  | some b =>
    obtain ⟨i, off, s⟩ := b
    have := h _ rfl
    simp only at this
    subst this; rfl
theorem Sl.sub {a0 a : Option Addr} {l0 l : List Value} (X : Sl h a0 l0) (S : SubOf a0 l0 a l) : Sl h a l := by
  obtain ⟨k, n, e, rfl⟩ := S
  rcases X with ⟨rfl, rfl⟩ | ⟨i, off, rfl, hr⟩
  · simp only [shO, Option.some.injEq] at e; subst e
    exact .inl ⟨rfl, by simp⟩
  · simp only [shO, Option.some.injEq] at e; subst e
    refine .inr ⟨i, off + k, rfl, fun j hj => ?_⟩
    simp only [List.length_take, List.length_drop] at hj
    rw [List.getElem?_take_of_lt (by omega), List.getElem?_drop, Nat.add_assoc]
    exact hr _ (by omega)
/-- A slice that may be read, whatever becomes of the names ns. -/
def Rd (ρ : Store) (ns : List Nat) (a : Option Addr) (l : List Value) : Prop :=
  ∃ c, c ∉ ns ∧ ∃ r, ρ c = some r ∧ ∃ a0 l0, SubOf a0 l0 a l ∧ ((∃ cap sz, r = .sl a0 cap sz l0) ∨ (∃ vs, r = .ro vs ∧ (a0, l0) ∈ vs) ∨ (∃ vs cap sz, r = .many vs ∧ (a0, cap, sz, l0) ∈ vs))
theorem Own.spot (O : Own h μ ρ) {a : Option Addr} {cap sz : Nat} {l : List Value} (hc : ρ c = some (.sl a cap sz l)) : ∀ b, a = some b → b.spot = none := by
  have M : OM h μ c a cap sz l := O.holds _ _ hc
  rintro b rfl
  rcases M.mem with ⟨e, _⟩ | ⟨i, off, e, _⟩
  · cases e
  · cases e; rfl
theorem Rd.of_sl (O : Own h μ ρ) {a : Option Addr} {cap sz : Nat} {l : List Value} (hn : c ∉ ns) (hc : ρ c = some (.sl a cap sz l)) : Rd ρ ns a l :=
  ⟨c, hn, _, hc, a, l, SubOf.self (O.spot hc), .inl ⟨cap, sz, rfl⟩⟩
theorem Rd.of_ro {a0 a : Option Addr} {l0 l : List Value} {vs : List (Option Addr × List Value)} (hn : c ∉ ns) (hc : ρ c = some (.ro vs)) (hm : (a0, l0) ∈ vs) (S : SubOf a0 l0 a l) : Rd ρ ns a l :=
  ⟨c, hn, _, hc, a0, l0, S, .inr (.inl ⟨vs, rfl, hm⟩)⟩
theorem Rd.of_sub {a0 a : Option Addr} {l0 l : List Value} {cap sz : Nat} (hn : c ∉ ns) (hc : ρ c = some (.sl a0 cap sz l0)) (S : SubOf a0 l0 a l) : Rd ρ ns a l :=
  ⟨c, hn, _, hc, a0, l0, S, .inl ⟨cap, sz, rfl⟩⟩
theorem Rd.sl {a : Option Addr} {l : List Value} (R : Rd ρ ns a l) (O : Own h μ ρ) : Sl h a l := by
  obtain ⟨c, _, r, hc, a0, l0, S, ⟨cap, sz, rfl⟩ | ⟨vs, rfl, hm⟩ | ⟨vs, cap, sz, rfl, hm⟩⟩ := R
  · exact (O.sl hc).sub S
  · exact (O.ro hc hm).sub S
  · have M : OM _ _ c a0 cap sz l0 := (O.holds _ _ hc).1 _ _ _ _ hm
    exact M.sl.sub S
theorem Rd.of_many (O : Own h μ ρ) {a : Option Addr} {cap sz : Nat} {l : List Value} {vs : List (Option Addr × Nat × Nat × List Value)} (hn : c ∉ ns) (hc : ρ c = some (.many vs)) (hm : (a, cap, sz, l) ∈ vs) : Rd ρ ns a l := by
  have M : OM h μ c a cap sz l := (O.holds _ _ hc).1 _ _ _ _ hm
  refine ⟨c, hn, _, hc, a, l, SubOf.self ?_, .inr (.inr ⟨vs, cap, sz, rfl, hm⟩)⟩
  rintro b rfl
  rcases M.mem with ⟨e, _⟩ | ⟨i, off, e, _⟩
  · cases e
  · cases e; rfl
theorem Rd.keep {a : Option Addr} {l : List Value} (R : Rd ρ ns a l) (F : Fra ns ρ ρ') : Rd ρ' ns a l := by
  obtain ⟨c, hn, r, hc, rest⟩ := R
  exact ⟨c, hn, r, F c _ hn hc, rest⟩
theorem Rd.keepN {ns' : List Nat} {a : Option Addr} {l : List Value} (R : Rd ρ ns a l) (F : FrN ns ρ ns' ρ') : Rd ρ' ns' a l := by
  obtain ⟨c, hn, r, hc, rest⟩ := R
  refine ⟨c, fun x => ?_, r, F.1 c _ hn hc, rest⟩
  rcases F.2.1 c x with y | y
  · exact hn y
  · rw [y] at hc; cases hc
theorem Rd.add {a : Option Addr} {l : List Value} (R : Rd ρ ns a l) (hc : ρ c = none) : Rd ρ (c :: ns) a l := by
  obtain ⟨d, hn, r, hd, rest⟩ := R
  refine ⟨d, fun hm => ?_, r, hd, rest⟩
  rcases List.mem_cons.1 hm with x | x
  · subst x; rw [hc] at hd; cases hd
  · exact hn x
theorem Rd.fresh {a : Option Addr} {l : List Value} (R : Rd ρ [] a l) (F : Fra [] ρ ρ') (hf : ∀ c, c ∈ ns → ρ c = none) : Rd ρ' ns a l := by
  obtain ⟨d, hn, r, hd, rest⟩ := R
  exact ⟨d, fun hm => (by rw [hf d hm] at hd; cases hd), r, F d r hn hd, rest⟩
theorem Rd.mono {ms : List Nat} {a : Option Addr} {l : List Value} (R : Rd ρ ns a l) (h : ∀ c, c ∈ ms → c ∈ ns) : Rd ρ ms a l := by
  obtain ⟨c, hn, x⟩ := R
  exact ⟨c, fun y => hn (h c y), x⟩
/-! Steps. -/
theorem w_rd (O : Own h μ ρ) (W : Pcs ρ0 ρ ns rs) (i : Nat) {p j : Nat} {l : List Value} {v : Value} {f : Value → Prop} (hr : rs[i]? = some (.var p l)) (hv : l[j]? = some v) (H : f v) : oB (h.rd p j) f := by
  obtain ⟨c, _, hc⟩ := W.get i hr
  exact o_rd O hc hv H
theorem w_wr (O : Own h μ ρ) (W : Pcs ρ0 ρ ns rs) (i : Nat) {p j : Nat} {l : List Value} {v : Value} {f : AW → Prop} (hr : rs[i]? = some (.var p l)) (hj : j < l.length) (h1 : oneCell v = true)
    (H : ∀ h' ρ', Own h' μ ρ' → Pcs ρ0 ρ' ns (rs.set i (.var p (l.set j v))) → f h') : oB (h.wr p j v) f := by
  obtain ⟨c, hn, hc⟩ := W.get i hr
  exact o_wr O hc hj h1 fun h' O' => H h' _ O' (W.set i hn _)
/-- A new block. -/
theorem w_new (O : Own h μ ρ) (W : Pcs ρ0 ρ ns rs) (l : List Value) : ∃ μ' ρ' c, Own (h.addVar l) μ' ρ' ∧ Pcs ρ0 ρ' (c :: ns) (.var h.next l :: rs) ∧ ρ0 c = none := by
  obtain ⟨c, hc⟩ := O.fresh
  exact ⟨_, _, c, o_addVar O c, W.new hc _, W.not0 hc⟩
/-- A new block that is a slice. -/
theorem w_block (O : Own h μ ρ) (W : Pcs ρ0 ρ ns rs) (l : List Value) {n sz : Nat} (hl : l.length = n * sz) (ha : allOne l = true) : ∃ μ' ρ' c, Own (h.addVar l) μ' ρ' ∧ Pcs ρ0 ρ' (c :: ns) (.sl (some ⟨h.next, 0, none⟩) n sz l :: rs) ∧ ρ0 c = none := by
  obtain ⟨c, hc⟩ := O.fresh
  exact ⟨_, _, c, o_block O c hl ha, W.new hc _, W.not0 hc⟩
/-- A slice of nothing. -/
theorem w_nil (O : Own h μ ρ) (W : Pcs ρ0 ρ ns rs) (sz : Nat) : ∃ ρ' c, Own h μ ρ' ∧ Pcs ρ0 ρ' (c :: ns) (.sl none 0 sz [] :: rs) ∧ ρ0 c = none := by
  obtain ⟨c, hc⟩ := O.fresh
  exact ⟨_, c, O.step (r := .sl none 0 sz []) Chg.refl (OM.nil (sz := sz)), W.new hc _, W.not0 hc⟩
theorem w_cap (O : Own h μ ρ) (W : Pcs ρ0 ρ ns rs) (i : Nat) {a : Option Addr} {cap sz : Nat} {l : List Value} (hr : rs[i]? = some (.sl a cap sz l)) : l.length ≤ cap * sz := by
  obtain ⟨c, _, hc⟩ := W.get i hr
  have M : OM h μ c a cap sz l := O.holds _ _ hc
  exact M.le
theorem w_sl (O : Own h μ ρ) (W : Pcs ρ0 ρ ns rs) (i : Nat) {a : Option Addr} {cap sz : Nat} {l : List Value} (hr : rs[i]? = some (.sl a cap sz l)) : Sl h a l := by
  obtain ⟨c, _, hc⟩ := W.get i hr
  exact O.sl hc
theorem w_i1_wr (O : Own h μ ρ) (W : Pcs ρ0 ρ ns rs) (i : Nat) {a : Option Addr} {cap : Nat} {l : List Value} (hr : rs[i]? = some (.sl a cap 1 l)) {z : Int} {j n : Nat} {v : Value} (hz : z = j) (hn : n = l.length) (hj : j < l.length) (h1 : oneCell v = true) {f : AW → Prop}
    (H : ∀ h' ρ', Own h' μ ρ' → Pcs ρ0 ρ' ns (rs.set i (.sl a cap 1 (l.set j v))) → f h') : aP a fun i off => oB (natIdx z n) fun j => oB (h.wr i (off + j * 1) v) f := by
  obtain ⟨c, hn', hc⟩ := W.get i hr
  exact o_i1_wr O hc hz hn hj h1 fun h' O' => H h' _ O' (W.set i hn' _)
theorem w_app (O : Own h μ ρ) (W : Pcs ρ0 ρ ns rs) (i : Nat) {ty e : TypeId} {u : TypeDesc} {g ag : Bool} {sz bt s1 b1 : Nat} {z1 : Option Value} {z : Value} (h1 : tiOf P ty = some ⟨.slice e, ag, s1, b1, z1⟩) (h2 : tiOf P e = some ⟨u, g, sz, bt, some z⟩) (hs : 0 < sz)
    {a : Option Addr} {cap : Nat} {l : List Value} (hr : rs[i]? = some (.sl a cap sz l)) {n m k : Nat} (hl : l.length = n * sz) {b : Option Addr} {new : List Value} (X : Sl h b new) (hn : new.length = m * sz) (ha : allOne new = true)
    (r1 : (n + m) * bt ≤ 70368744177664) (r2 : n + m ≤ 4611686018427387904) {f : Value → AW → Prop}
    (H : ∀ a' cap' h' μ' ρ', Own h' μ' ρ' → Pcs ρ0 ρ' ns (rs.set i (.sl a' cap' sz (l ++ new))) → f (.slice a' (n + m) cap') h') : oP (appendB P h ⟨[ty, ty]⟩ [.slice a n cap, .slice b m k]) f := by
  obtain ⟨c, hn', hc⟩ := W.get i hr
  exact o_app (te := ⟨u, g, sz, bt, some z⟩) O h1 h2 rfl hs hc hl X hn ha r1 r2 fun a' cap' h' μ' O' => H a' cap' h' μ' _ O' (W.set i hn' _)
/-- append of n zeros. -/
theorem w_appN (O : Own h μ ρ) (W : Pcs ρ0 ρ ns rs) (i : Nat) {ty e ti : TypeId} {u : TypeDesc} {g ag ag2 : Bool} {sz bt s1 b1 s2 b2 : Nat} {z1 z2 : Option Value} {z : Value} (h1 : tiOf P ty = some ⟨.slice e, ag, s1, b1, z1⟩) (h2 : tiOf P e = some ⟨u, g, sz, bt, some z⟩) (h3 : tiOf P ti = some ⟨.int .i64, ag2, s2, b2, z2⟩) (hs : 0 < sz)
    {m : Nat} (hz : z.cells.toList.length = sz) (hza : allOne (rep z.cells.toList m) = true)
    {a : Option Addr} {cap : Nat} {l : List Value} (hr : rs[i]? = some (.sl a cap sz l)) {n : Nat} (hl : l.length = n * sz)
    (r1 : (n + m) * bt ≤ 70368744177664) (r2 : n + m ≤ 4611686018427387904) {f : Value → AW → Prop}
    (H : ∀ a' cap' h' μ' ρ', Own h' μ' ρ' → Pcs ρ0 ρ' ns (rs.set i (.sl a' cap' sz (l ++ rep z.cells.toList m))) → f (.slice a' (n + m) cap') h') : oP (appendB P h ⟨[ty, ti]⟩ [.slice a n cap, .int .i64 (m : Int)]) f := by
  obtain ⟨c, hn', hc⟩ := W.get i hr
  have M : OM h μ c a cap sz l := O.holds _ _ hc
  have hcap : n ≤ cap := by
    have := M.le; rw [hl] at this
    exact Nat.le_of_mul_le_mul_right this hs
  obtain ⟨a', cap', h', e', M', _, C⟩ := appendV_ok (P := P) (te := ⟨u, g, sz, bt, some z⟩) (new := rep z.cells.toList m) (n := m) h2 rfl M hl (by rw [rep_length, hz]) hza r1 r2 hcap
  have hmb : m * bt ≤ 281474976710656 := by
    have : m * bt ≤ (n + m) * bt := Nat.mul_le_mul_right _ (by omega)
    omega
  have : appendB P h ⟨[ty, ti]⟩ [.slice a n cap, .int .i64 (m : Int)] = some (.slice a' (n + m) cap', h') := by
    unfold appendB
    simp only
    rw [h1]; try simp only
    rw [h3]; try simp only
    rw [h2]; try simp only [isInt]
    rw [Nat.ble_eq_true_of_le hmb, Nat.ble_eq_true_of_le (show m ≤ 9223372036854775807 by omega)]
    exact e'
  rw [this]
  exact H a' cap' h' _ _ (O.step (r := .sl a' cap' sz (l ++ rep z.cells.toList m)) C M') (W.set i hn' _)
/-- The first elements. -/
theorem w_take (O : Own h μ ρ) (W : Pcs ρ0 ρ ns rs) (i : Nat) {a : Option Addr} {cap sz : Nat} {l : List Value} (hr : rs[i]? = some (.sl a cap sz l)) (k : Nat) : ∃ ρ', Own h μ ρ' ∧ Pcs ρ0 ρ' ns (rs.set i (.sl a cap sz (l.take k))) := by
  obtain ⟨c, hn', hc⟩ := W.get i hr
  have M : OM h μ c a cap sz l := O.holds _ _ hc
  exact ⟨_, O.step (r := .sl a cap sz (l.take k)) Chg.refl (M.take k), W.set i hn' _⟩
/-- From an element on, all that is left. -/
theorem w_drop (O : Own h μ ρ) (W : Pcs ρ0 ρ ns rs) (i : Nat) {a : Option Addr} {cap sz : Nat} {l : List Value} (hr : rs[i]? = some (.sl a cap sz l)) {k : Nat} (hk : k ≤ cap) {f : Option Addr → Prop}
    (H : ∀ a' ρ', Own h μ ρ' → Pcs ρ0 ρ' ns (rs.set i (.sl a' (cap - k) sz (l.drop (k * sz)))) → f a') : oB (shO a (k * sz)) f := by
  obtain ⟨c, hn', hc⟩ := W.get i hr
  have M : OM h μ c a cap sz l := O.holds _ _ hc
  rcases M.mem with ⟨e, _⟩ | ⟨b, off, e, _⟩
  · subst e
    exact H none _ (O.step (r := .sl none (cap - k) sz (l.drop (k * sz))) Chg.refl M.drop_none) (W.set i hn' _)
  · subst e
    exact H _ _ (O.step (r := .sl (some ⟨b, off + k * sz, none⟩) (cap - k) sz (l.drop (k * sz))) Chg.refl (M.drop hk)) (W.set i hn' _)
/-- A new row of zeros. -/
theorem o_blockT (O : Own h μ ρ) (c : Nat) {l : List Value} {n sz : Nat} (hl : l.length = n * sz) (ha : allOne l = true) (t : TypeId) : Own ((h.addVar l).tag h.next t) (mkNew μ h.next c) (ρ.upd c (.sl (some ⟨h.next, 0, none⟩) n sz l)) :=
  O.step (r := .sl (some ⟨h.next, 0, none⟩) n sz l) (Chg.tag addVar_chg (Nat.le_refl _)) (OM.tag (OM.block hl ha))
theorem make_eq {t e : TypeId} {u : TypeDesc} {g ag : Bool} {sz bt s1 b1 : Nat} {z1 : Option Value} {z : Value} (h1 : tiOf P t = some ⟨.slice e, ag, s1, b1, z1⟩) (h2 : tiOf P e = some ⟨u, g, sz, bt, some z⟩) (n : Nat)
    (hz : z.cells.toList.length = sz) (hza : allOne (rep z.cells.toList n) = true) (hb : n * bt ≤ 140737488355328) (hn : n ≤ 9223372036854775807) : makeSliceV P h t (.int .i64 (n : Int)) (.int .i64 (n : Int)) = some (.slice (some ⟨h.next, 0, none⟩) n n, (h.addVar (rep z.cells.toList n)).tag h.next e) := by
  unfold makeSliceV
  rw [h1, show ((n : Nat) : Int) = Int.ofNat n from rfl]; simp only
  rw [h2]; simp only
  rw [Nat.ble_eq_true_of_le (Nat.le_refl n), Nat.ble_eq_true_of_le hb, Nat.ble_eq_true_of_le hn]
  simp only [Bool.and_self]
  rw [show Nat.beq z.cells.size sz = true from by rw [← hz, ← Array.length_toList, Nat.beq_refl]]
  simp only
  unfold AW.newVar
  rw [hza]
  rfl
theorem w_make (O : Own h μ ρ) (W : Pcs ρ0 ρ ns rs) {t e : TypeId} {u : TypeDesc} {g ag : Bool} {sz bt s1 b1 : Nat} {z1 : Option Value} {z : Value} (h1 : tiOf P t = some ⟨.slice e, ag, s1, b1, z1⟩) (h2 : tiOf P e = some ⟨u, g, sz, bt, some z⟩) (n : Nat)
    (hz : z.cells.toList.length = sz) (hza : allOne (rep z.cells.toList n) = true) (hb : n * bt ≤ 140737488355328) (hn : n ≤ 9223372036854775807) {f : Value → AW → Prop}
    (H : ∀ h' μ' ρ' c a, Own h' μ' ρ' → Pcs ρ0 ρ' (c :: ns) (.sl a n sz (rep z.cells.toList n) :: rs) → ρ0 c = none → f (.slice a n n) h') : oP (makeSliceV P h t (.int .i64 (n : Int)) (.int .i64 (n : Int))) f := by
  obtain ⟨c, hc⟩ := O.fresh
  rw [make_eq h1 h2 n hz hza hb hn]
  exact H _ _ _ c _ (o_blockT O c (by rw [rep_length, hz]) hza e) (W.new hc _) (W.not0 hc)
theorem setAll_lt : ∀ (vs l : List Value) (j k : Nat), k < j → (setAll l j vs)[k]? = l[k]?
  | [], l, j, k, _ => rfl
  | v :: vs, l, j, k, hk => by rw [setAll, setAll_lt vs _ _ _ (by omega), List.getElem?_set_ne (by omega)]
theorem setAll_take (vs l : List Value) (j : Nat) : (setAll l j vs).take j = l.take j := by
  apply List.ext_getElem?
  intro k
  rw [List.getElem?_take, List.getElem?_take]
  split
  · rename_i hk; exact setAll_lt vs l j k hk
  · rfl
theorem o_sl_wrL {b off cap sz : Nat} : ∀ (vs : List Value) {h : AW} {ρ : Store} {rs : List Res} (i : Nat) {l : List Value} (j : Nat), Own h μ ρ → Pcs ρ0 ρ ns rs → rs[i]? = some (.sl (some ⟨b, off, none⟩) cap sz l) → j + vs.length ≤ l.length → allOne vs = true →
    ∃ h' ρ', h.wrL b (off + j) vs = some h' ∧ Own h' μ ρ' ∧ Pcs ρ0 ρ' ns (rs.set i (.sl (some ⟨b, off, none⟩) cap sz (setAll l j vs)))
  | [], h, ρ, rs, i, l, j, O, W, hr, _, _ => by
    refine ⟨h, ρ, rfl, O, W.eq ?_⟩
    obtain ⟨hi, e⟩ := List.getElem?_eq_some_iff.1 hr
    rw [setAll, ← e]; simp
  | v :: vs, h, ρ, rs, i, l, j, O, W, hr, hj, ha => by
    simp only [allOne] at ha
    split at ha
    · rename_i h1
      simp only [List.length_cons] at hj
      obtain ⟨c, hn, hc⟩ := W.get i hr
      have M : OM h μ c _ cap sz l := O.holds _ _ hc
      obtain ⟨h2, e, M', C, n⟩ := M.wr (j := j) (Nat.lt_of_lt_of_le (by omega) M.le) (by omega) h1
      rw [if_pos (by omega)] at M'
      have O2 := O.step (r := .sl (some ⟨b, off, none⟩) cap sz (l.set j v)) C M'
      have hi := (List.getElem?_eq_some_iff.1 hr).1
      obtain ⟨h3, ρ3, e3, O3, W3⟩ := o_sl_wrL (b := b) (off := off) (cap := cap) (sz := sz) vs i (l := l.set j v) (j + 1) O2 (W.set i hn _) (by simp [hi]) (by rw [List.length_set]; omega) ha
      refine ⟨h3, ρ3, ?_, O3, W3.eq (by rw [List.set_set]; rfl)⟩
      simp only [AW.wrL, e]
      rw [← e3, Nat.add_assoc]
    · cases ha
/-- clear, from an element on. -/
theorem w_clear (O : Own h μ ρ) (W : Pcs ρ0 ρ ns rs) (i : Nat) {ty e : TypeId} {u : TypeDesc} {g ag : Bool} {sz bt s1 b1 : Nat} {z1 : Option Value} {z : Value} (h1 : tiOf P ty = some ⟨.slice e, ag, s1, b1, z1⟩) (h2 : tiOf P e = some ⟨u, g, sz, bt, some z⟩)
    {b off cap k n kk : Nat} {l : List Value} (hr : rs[i]? = some (.sl (some ⟨b, off, none⟩) cap sz l)) (hz : z.cells.toList.length = sz) (hl : k * sz + n * sz ≤ l.length) (hza : allOne (rep z.cells.toList n) = true) {f : Value → AW → Prop}
    (H : ∀ h' ρ', Own h' μ ρ' → Pcs ρ0 ρ' ns (rs.set i (.sl (some ⟨b, off, none⟩) cap sz (setAll l (k * sz) (rep z.cells.toList n)))) → f (.tuple #[]) h') : oP (clearB P h ⟨[ty]⟩ [.slice (some ⟨b, off + k * sz, none⟩) n kk]) f := by
  obtain ⟨h', ρ', e, O', W'⟩ := o_sl_wrL (rep z.cells.toList n) i (k * sz) O W hr (by rw [rep_length, hz]; exact hl) hza
  unfold clearB
  simp only
  rw [h1]; simp only
  rw [h2]; simp only
  rw [e]
  exact H h' ρ' O' W'
theorem rep_one (v : Value) : ∀ n, rep [v] n = List.replicate n v
  | 0 => rfl
  | n + 1 => by rw [rep, rep_one v n, List.replicate_succ]; rfl
theorem w_mapL (O : Own h μ ρ) (W : Pcs ρ0 ρ ns rs) (i : Nat) {p : Nat} {es : List (Value × Value)} {f : List (Value × Value) → Prop} (hr : rs[i]? = some (.map p es)) (H : f es) : oB (h.mapL (some p)) f := by
  obtain ⟨c, _, hc⟩ := W.get i hr
  exact o_mapL O hc H
theorem w_mapUpd (O : Own h μ ρ) (W : Pcs ρ0 ρ ns rs) (i : Nat) {p : Nat} {es es' : List (Value × Value)} {t kt et : TypeId} {tk : TI} {ag : Bool} {s1 b1 : Nat} {z1 : Option Value} {k v : Value} (hr : rs[i]? = some (.map p es)) (h1 : tiOf P t = some ⟨.map kt et, ag, s1, b1, z1⟩) (h2 : tiOf P kt = some tk)
    (hk : keyKind tk.und = true) (hu : Abs.upd tk.und k v es = some es') {f : AW → Prop} (H : ∀ h' ρ', Own h' μ ρ' → Pcs ρ0 ρ' ns (rs.set i (.map p es')) → f h') : oB (mapUpdV P h t (.map (some p)) k v) f := by
  obtain ⟨c, hn, hc⟩ := W.get i hr
  exact o_mapUpd O hc h1 h2 hk hu fun h' O' => H h' _ O' (W.set i hn _)
/-- The same under other marks. -/
theorem OM.repaint {c d : Nat} {a : Option Addr} {cap sz : Nat} {l : List Value} (hm : ∀ i, i < h.next → μ i = c → μ' i = d) (H : OM h μ c a cap sz l) : OM h μ' d a cap sz l := by
  refine (⟨H.le, H.one, ?_⟩ : OM h μ' d a cap sz l)
  rcases H.mem with x | ⟨i, off, e, hi, hc, r, k⟩
  · exact .inl x
  · refine .inr ⟨i, off, e, hi, hm i hi hc, r, ?_⟩
    rcases k with x | ⟨f, g, lo, hi', t, ext, frz, h1, h2, h3, h4, h5⟩
    · exact .inl x
    · exact .inr ⟨f, g, lo, hi', t, ext, frz, h1, h2, h3, hm f h3 h4, h5⟩
theorem Res.Holds.repaint {c d : Nat} {r : Res} (hm : ∀ i, i < h.next → μ i = c → μ' i = d) (H : r.Holds h μ c) : r.Holds h μ' d := by
  cases r with
  | var i l =>
    obtain ⟨a, b, V⟩ := H
    exact ⟨a, hm i a b, V⟩
  | sl a cap sz l => exact OM.repaint hm H
  | map i es =>
    obtain ⟨a, b, V⟩ := H
    exact ⟨a, hm i a b, V⟩
  | ro vs =>
    intro a l hv
    rcases H a l hv with x | ⟨i, off, e, h1, h2, h3, r⟩
    · exact .inl x
    · exact .inr ⟨i, off, e, h1, hm i h1 h2, fun f g lo hi z t hr => ⟨(h3 f g lo hi z t hr).1, hm f (h3 f g lo hi z t hr).1 (h3 f g lo hi z t hr).2⟩, r⟩
  | many vs => exact ⟨fun a cap sz l hv => (H.1 a cap sz l hv).repaint hm, H.2⟩
  | bag vs => exact ⟨fun a cap sz n hv => let ⟨l, h1, h2⟩ := H.1 a cap sz n hv; ⟨l, h1, h2.repaint hm⟩, H.2⟩
  | ty i t => exact H
/-- A new piece in an old one's place. -/
theorem w_swap (O : Own h μ ρ) {r : Res} (W : Pcs ρ0 ρ (c :: ns) (r :: rs)) (h0 : ρ0 c = none) (i : Nat) (hi : i < rs.length) : ∃ μ' ρ', Own h μ' ρ' ∧ Pcs ρ0 ρ' ns (rs.set i r) := by
  have hin : i < ns.length := by have := W.len; simp at this; omega
  have hd : ns[i]? = some ns[i] := List.getElem?_eq_getElem hin
  generalize ns[i] = d at hd
  have hcn : c ∉ ns := (List.nodup_cons.1 W.nodup).1
  have hdc : d ≠ c := fun e => hcn (by rw [← e]; exact List.mem_of_getElem? hd)
  have hc : ρ c = some r := W.at_ 0 c r rfl rfl
  let ρ1 : Store := fun x => if x = d then some r else if x = c then none else ρ x
  let μ1 : Paint := fun x => if μ x = c then d else if μ x = d then c else μ x
  have O1 : Own h μ1 ρ1 := by
    refine ⟨?_, fun e r' he => ?_⟩
    · obtain ⟨N, hN⟩ := O.fin
      refine ⟨Nat.max N (d + 1), fun e he => ?_⟩
      have h1 : N ≤ e := Nat.le_trans (Nat.le_max_left _ _) he
      have h2 : d + 1 ≤ e := Nat.le_trans (Nat.le_max_right _ _) he
      show (if e = d then some r else if e = c then none else ρ e) = none
      rw [if_neg (by omega)]
      split
      · rfl
      · exact hN e h1
    · have he2 : (if e = d then some r else if e = c then none else ρ e) = some r' := he
      clear he
      by_cases ed : e = d
      · rw [if_pos ed] at he2
        cases he2
        rw [ed]
        exact (O.holds c r hc).repaint fun j _ hj => by simp [μ1, hj]
      · rw [if_neg ed] at he2
        by_cases ec : e = c
        · rw [if_pos ec] at he2; cases he2
        · rw [if_neg ec] at he2
          exact (O.holds e r' he2).repaint fun j _ hj => by simp [μ1, hj, ed, ec]
  refine ⟨μ1, ρ1, O1, (List.nodup_cons.1 W.nodup).2, by have := W.len; simp at this ⊢; omega, fun j e r' hj hr => ?_, fun e r' hn he => ?_⟩
  · rw [List.getElem?_set] at hr
    have hje := (List.getElem?_eq_some_iff.1 hj)
    have hie := (List.getElem?_eq_some_iff.1 hd)
    show (if e = d then some r else if e = c then none else ρ e) = some r'
    by_cases x : i = j
    · subst x
      rw [if_pos rfl, if_pos hi] at hr; cases hr
      rw [hd] at hj; cases hj
      rw [if_pos rfl]
    · rw [if_neg x] at hr
      have : e ≠ d := fun y => x (by
        have := (List.getElem_inj (h₀ := hje.1) (h₁ := hie.1) (List.nodup_cons.1 W.nodup).2).1 (by rw [hje.2, hie.2, y])
        exact this.symm)
      rw [if_neg this, if_neg (fun y => hcn (by rw [← y]; exact List.mem_of_getElem? hj))]
      exact W.at_ (j + 1) e r' (by simpa using hj) (by simpa using hr)
  · show (if e = d then some r else if e = c then none else ρ e) = some r'
    rw [if_neg (fun y => hn (by rw [y]; exact List.mem_of_getElem? hd)), if_neg (fun y => by rw [y, h0] at he; cases he)]
    exact W.fra e r' (fun y => by
      rcases List.mem_cons.1 y with z | z
      · rw [z, h0] at he; cases he
      · exact hn z) he
theorem updS_new {k : ByteArray} {v : Value} : ∀ {l : List (ByteArray × Value)}, lookS k l = none → updS k v l = l ++ [(k, v)]
  | [], _ => rfl
  | (k', v') :: l, h => by
    rw [lookS] at h
    by_cases e : k' = k
    · rw [if_pos e] at h; cases h
    · rw [if_neg e] at h
      rw [updS, if_neg e, updS_new h]; rfl
/-- From an element on. -/
theorem Sl.from {a : Option Addr} {l : List Value} (X : Sl h a l) (k : Nat) {f : Option Addr → Prop} (H : ∀ a', Sl h a' (l.drop k) → f a') : oB (shO a k) f := by
  rcases X with ⟨rfl, rfl⟩ | ⟨i, off, rfl, hr⟩
  · exact H none (.inl ⟨rfl, by simp⟩)
  · refine H _ (.inr ⟨i, off + k, rfl, fun j hj => ?_⟩)
    rw [List.length_drop] at hj
    rw [List.getElem?_drop, show off + k + j = off + (k + j) from by omega]
    exact hr _ (by omega)
theorem Sl.take {a : Option Addr} {l : List Value} (X : Sl h a l) (k : Nat) : Sl h a (l.take k) := by
  rcases X with ⟨rfl, rfl⟩ | ⟨i, off, rfl, hr⟩
  · exact .inl ⟨rfl, by simp⟩
  · refine .inr ⟨i, off, rfl, fun j hj => ?_⟩
    rw [List.length_take] at hj
    rw [hr j (by omega), List.getElem?_take_of_lt (by omega)]
end Go.Abs
end

section
/- Statements with bodies, as lists of lists: no Go in it; and how they lie in memory. -/
namespace Go.Abs.Fo
open Go.Abs

/-- A list of statements: each has a kind, words, a number and a body. -/
inductive F where
  | nil
  | cons (op : Int) (args : List Str) (n : Int) (body rest : F)
namespace F
def len : F → Nat
  | nil => 0
  | cons _ _ _ _ r => r.len + 1
def app : F → F → F
  | nil, g => g
  | cons o a n b r, g => cons o a n b (r.app g)
end F
/-- What may be read: a slice of cells at an address. -/
def Vw (ρ : Store) (ns : List Nat) (a : Option Addr) (l : List Value) : Prop := (a = none ∧ l = []) ∨ Rd ρ ns a l
variable {h : AW} {μ : Paint} {ρ ρ' : Store} {ns : List Nat}
theorem Vw.sl {a : Option Addr} {l : List Value} (X : Vw ρ ns a l) (O : Own h μ ρ) : Sl h a l := X.elim (fun x => .inl x) fun x => x.sl O
theorem Vw.mono {ms : List Nat} {a : Option Addr} {l : List Value} (X : Vw ρ ns a l) (hs : ∀ c, c ∈ ms → c ∈ ns) : Vw ρ ms a l := X.imp id fun x => x.mono hs
theorem Vw.keep {a : Option Addr} {l : List Value} (X : Vw ρ ns a l) (F : Fra ns ρ ρ') : Vw ρ' ns a l := X.imp id fun x => x.keep F

/-- How a list of statements lies: its cells, and what they point to. -/
def Lies (V : Option Addr → List Value → Prop) : F → List Value → Prop
  | .nil, cells => cells = []
  | .cons op args n body rest, cells => ∃ aa ac ba bc bcells rcells, cells = [.int .i64 op, .slice aa args.length ac, .int .i64 n, .slice ba body.len bc] ++ rcells ∧ V aa (strs args) ∧ V ba bcells ∧ Lies V body bcells ∧ Lies V rest rcells
theorem Lies.mono {V V' : Option Addr → List Value → Prop} (hV : ∀ a l, V a l → V' a l) : ∀ {f : F} {cells : List Value}, Lies V f cells → Lies V' f cells
  | .nil, _, h => h
  | .cons _ _ _ _ _, _, ⟨aa, ac, ba, bc, bcells, rcells, h1, h2, h3, h4, h5⟩ => ⟨aa, ac, ba, bc, bcells, rcells, h1, hV _ _ h2, hV _ _ h3, Lies.mono hV h4, Lies.mono hV h5⟩
theorem Lies.len {V : Option Addr → List Value → Prop} : ∀ {f : F} {cells : List Value}, Lies V f cells → cells.length = f.len * 4
  | .nil, _, h => by
    have h : _ = [] := h
    rw [h]; simp [F.len]
  | .cons _ _ _ _ _, _, ⟨aa, ac, ba, bc, bcells, rcells, h1, h2, h3, h4, h5⟩ => by
    rw [h1]
    have := Lies.len h5
    simp [F.len, this]; omega
theorem Lies.app {V : Option Addr → List Value → Prop} : ∀ {f g : F} {c1 c2 : List Value}, Lies V f c1 → Lies V g c2 → Lies V (f.app g) (c1 ++ c2)
  | .nil, g, c1, c2, h, k => by
    have h : c1 = [] := h
    rw [h]; exact k
  | .cons _ _ _ _ _, g, c1, c2, ⟨aa, ac, ba, bc, bcells, rcells, h1, h2, h3, h4, h5⟩, k => ⟨aa, ac, ba, bc, bcells, rcells ++ c2, by rw [h1]; simp, h2, h3, h4, Lies.app h5 k⟩
namespace F
end F
end Go.Abs.Fo
end

section
/- Actions: lines of words as statements, and what is said of them; no Go in it. -/
namespace Go.Abs.Fo
open Go.Abs

abbrev Line := List Str
abbrev wEnd : Str := ⟨#[101, 110, 100]⟩
abbrev wNeed : Str := ⟨#[110, 101, 101, 100]⟩
abbrev wCat : Str := ⟨#[99, 97, 116]⟩
abbrev wText : Str := ⟨#[116, 101, 120, 116]⟩
abbrev wUpper : Str := ⟨#[117, 112, 112, 101, 114]⟩
abbrev wSort : Str := ⟨#[115, 111, 114, 116]⟩
abbrev wUniq : Str := ⟨#[117, 110, 105, 113]⟩
abbrev wCount : Str := ⟨#[99, 111, 117, 110, 116]⟩
abbrev wWrite : Str := ⟨#[119, 114, 105, 116, 101]⟩
abbrev wFail : Str := ⟨#[102, 97, 105, 108]⟩
abbrev wRepeat : Str := ⟨#[114, 101, 112, 101, 97, 116]⟩
abbrev wEach : Str := ⟨#[101, 97, 99, 104]⟩
abbrev wWhen : Str := ⟨#[119, 104, 101, 110]⟩
abbrev kinds : List Str := [e0, wNeed, wCat, wText, wUpper, wSort, wUniq, wCount, wWrite, wFail, wRepeat, wEach, wWhen]
/-- The kind of a first word; 0: none. -/
def opOf (w : Str) : Nat :=
  if w = wNeed then 1 else if w = wCat then 2 else if w = wText then 3 else if w = wUpper then 4 else if w = wSort then 5 else if w = wUniq then 6
  else if w = wCount then 7 else if w = wWrite then 8 else if w = wFail then 9 else if w = wRepeat then 10 else if w = wEach then 11 else if w = wWhen then 12 else 0
/-- How many words a kind has; -1: any number. -/
def argsM (op : Int) : Int := if op = 1 ∨ op = 2 ∨ op = 8 ∨ op = 11 then 1 else if op = 3 ∨ op = 9 then -1 else if op = 12 then 2 else 0
def fitsM (op : Int) (n : Nat) : Bool := decide (argsM op < 0) || decide (argsM op = n)
def opensM (op : Int) : Bool := decide (10 ≤ op) && decide (op ≤ 12)
/-- A number in decimal digits. -/
def digB (n : Nat) : UInt8 := UInt8.ofNat (48 + n % 10)
def digits : Nat → Nat → List UInt8
  | 0, n => [digB n]
  | k + 1, n => if n ≥ 10 then digits k (n / 10) ++ [digB n] else [digB n]
def digS (n : Nat) : Str := ⟨⟨digits 20 n⟩⟩
/-- The number that digits say. -/
def numL : List UInt8 → Nat → Option Nat
  | [], n => some n
  | b :: l, n => if b.toNat < 48 ∨ 57 < b.toNat then none else numL l (10 * n + (b.toNat - 48))
def numM (s : Str) : Int :=
  if s.size < 1 ∨ 4 < s.size then -1 else
  match numL s.data.toList 0 with
  | none => -1
  | some n => if n > 1000 ∨ digS n ≠ s then -1 else n
/-- A line as a statement. -/
structure X where
  op : Int
  args : List Str
  n : Int
  ok : Bool
  deriving DecidableEq
def stmtM : Line → X
  | [] => ⟨0, [], 0, false⟩
  | w :: args =>
    if opOf w = 10 then
      match args with
      | [s] => ⟨10, [], numM s, decide (numM s ≥ 0)⟩
      | _ => ⟨0, [], 0, false⟩
    else ⟨opOf w, args, 0, decide (0 < opOf w) && fitsM (opOf w) args.length⟩
/-- The first error of lines. -/
def chk : List Line → Nat → Nat → Nat → Int × Int
  | [], i, o, _ => if o > 0 then (131, i) else (0, 0)
  | l :: r, i, o, m =>
    if l = [wEnd] then (if o = 0 then (131, i) else chk r (i + 1) (o - 1) m) else
    let x := stmtM l
    if x.ok = false then (130, i)
    else if m + 1 > 256 then (3, i)
    else if opensM x.op = true then (if o = 8 then (132, i) else chk r (i + 1) (o + 1) (m + 1))
    else chk r (i + 1) o (m + 1)
end Go.Abs.Fo
end

section
/- Readers: what is read stays; statements in memory. -/
namespace Go.Abs
variable {h h' : AW} {μ μ' : Paint} {P : Program} {ρ0 ρ ρ' : Store} {ns : List Nat} {rs : List Res} {c : Nat}
theorem p00 : Pcs ρ ρ [] [] := Pcs.init List.nodup_nil rfl (by intro i c r h; simp at h)
/-- New names alone. -/
theorem Pcs.fra0 (W : Pcs ρ0 ρ ns rs) (hn : ∀ c, c ∈ ns → ρ0 c = none) : Fra [] ρ0 ρ := fun c r _ hc => W.fra c r (fun hm => by rw [hn c hm] at hc; cases hc) hc
/-- What a reader comes to. -/
def RdQ (Q : Value → AW → Prop) (ρ : Store) (v : Value) : Prop := ∀ h' μ' ρ', Own h' μ' ρ' → Fra [] ρ ρ' → Q v h'
theorem RdQ.keep {Q : Value → AW → Prop} {v : Value} (H : RdQ Q ρ v) (F : Fra [] ρ ρ') : RdQ Q ρ' v := fun h' μ' ρ'' O G => H h' μ' ρ'' O (F.trans G)
theorem oB_bind {α : Type} {x : Option α} {v : α} {f : α → Prop} (h : x = some v) (H : f v) : oB x f := by rw [h]; exact H
namespace Fo
/-- A list of statements that may be read at a place. -/
def Ly (ρ : Store) (f : F) (a : Option Addr) : Prop := ∃ cells, Vw ρ [] a cells ∧ Lies (Vw ρ []) f cells
theorem Ly.keep {f : F} {a : Option Addr} (X : Ly ρ f a) (F : Fra [] ρ ρ') : Ly ρ' f a := by
  obtain ⟨c, h1, h2⟩ := X
  exact ⟨c, h1.keep F, h2.mono fun a l h => h.keep F⟩
theorem Vw.nil : Vw ρ ns none [] := .inl ⟨rfl, rfl⟩
theorem Ly.nil : Ly ρ .nil none := ⟨[], .inl ⟨rfl, rfl⟩, rfl⟩
variable {V : Option Addr → List Value → Prop}
theorem Sl.get {i off j : Nat} {l : List Value} {v : Value} (X : Sl h (some ⟨i, off, none⟩) l) (hj : l[j]? = some v) : h.rd i (off + j) = some v := by
  rcases X with ⟨e, _⟩ | ⟨i', off', e, hr⟩
  · cases e
  · cases e
    rw [hr j (List.getElem?_eq_some_iff.1 hj).1, hj]
/-- Lines of words that may be read. -/
structure Wds where
  a : Option Addr
  cap : Nat
  x : List Str
def Wds.cell (p : Wds) : Value := .slice p.a p.x.length p.cap
structure Lns (ρ : Store) (ps : List Wds) (a : Option Addr) : Prop where
  top : Vw ρ [] a (ps.map Wds.cell)
  each : ∀ p, p ∈ ps → Vw ρ [] p.a (strs p.x)
  caps : ∀ p, p ∈ ps → p.x.length ≤ p.cap
theorem Lns.keep {ps : List Wds} {a : Option Addr} (X : Lns ρ ps a) (F : Fra [] ρ ρ') : Lns ρ' ps a := ⟨X.top.keep F, fun p hp => (X.each p hp).keep F, X.caps⟩
theorem sub_drop {a0 a : Option Addr} {l0 l : List Value} (S : SubOf a0 l0 a l) (m : Nat) : ∃ a', shO a m = some a' ∧ SubOf a0 l0 a' (l.drop m) := by
  obtain ⟨k, n, e, rfl⟩ := S
  match a0, e with
  | none, e =>
    simp only [shO, Option.some.injEq] at e; subst e
    exact ⟨none, rfl, k + m, n - m, rfl, by rw [List.drop_take, List.drop_drop]⟩
  | some ⟨b, off, none⟩, e =>
    simp only [shO, Option.some.injEq] at e; subst e
    exact ⟨some ⟨b, off + k + m, none⟩, rfl, k + m, n - m, by simp [shO, Nat.add_assoc], by rw [List.drop_take, List.drop_drop]⟩
  | some ⟨b, off, some s⟩, e => simp [shO] at e
theorem sub_take {a0 a : Option Addr} {l0 l : List Value} (S : SubOf a0 l0 a l) (m : Nat) : SubOf a0 l0 a (l.take m) := by
  obtain ⟨k, n, e, rfl⟩ := S
  exact ⟨k, min m n, e, by rw [List.take_take]⟩
theorem Vw.drop {a : Option Addr} {l : List Value} (X : Vw ρ ns a l) (m : Nat) : ∃ a', shO a m = some a' ∧ Vw ρ ns a' (l.drop m) := by
  rcases X with ⟨rfl, rfl⟩ | ⟨c, hn, r, hc, a0, l0, S, x⟩
  · exact ⟨none, rfl, .inl ⟨rfl, by simp⟩⟩
  · obtain ⟨a', e, S'⟩ := sub_drop S m
    exact ⟨a', e, .inr ⟨c, hn, r, hc, a0, l0, S', x⟩⟩
theorem Vw.take {a : Option Addr} {l : List Value} (X : Vw ρ ns a l) (m : Nat) : Vw ρ ns a (l.take m) := by
  rcases X with ⟨rfl, rfl⟩ | ⟨c, hn, r, hc, a0, l0, S, x⟩
  · exact .inl ⟨rfl, by simp⟩
  · exact .inr ⟨c, hn, r, hc, a0, l0, sub_take S m, x⟩
end Fo
end Go.Abs
end

section
/- What is played: lines and lists of statements that are not too great; no Go in it. -/
namespace Go.Abs.Fo
open Go.Abs
end Go.Abs.Fo
end

section
/- Reading lines: what stays as it is; pieces of a call. -/
namespace Go.Abs
variable {h h' : AW} {μ μ' : Paint} {P : Program} {ρ0 ρ ρ' : Store} {ns : List Nat} {rs : List Res} {c : Nat}
theorem Fra.via {ms : List Nat} {ρ'' : Store} (F : Fra [] ρ ρ') (G : Fra ms ρ' ρ'') (hm : ∀ c, c ∈ ms → ρ c = none) : Fra [] ρ ρ'' := fun c r _ hc =>
  G c r (fun x => by rw [hm c x] at hc; cases hc) (F c r (by simp) hc)
theorem Pcs.one {r : Res} (hc : ρ c = some r) : Pcs ρ ρ [c] [r] := Pcs.init (by simp) rfl (by
  intro i d s h1 h2
  cases i with
  | zero => simp at h1 h2; subst h1 h2; exact hc
  | succ i => simp at h1)
theorem Pcs.none (F : Fra [] ρ0 ρ) : Pcs ρ0 ρ [] [] := Pcs.mk (ns := []) (rs := []) List.nodup_nil rfl (by intro i c r h; simp at h) F
namespace Fo
/-- What lies among many. -/
def Vm (vs : List (Option Addr × Nat × Nat × List Value)) (a : Option Addr) (l : List Value) : Prop := (a = none ∧ l = []) ∨ ∃ cap sz, (a, cap, sz, l) ∈ vs
theorem Vm.more {vs ws : List (Option Addr × Nat × Nat × List Value)} {a : Option Addr} {l : List Value} (H : Vm vs a l) (hs : ∀ x, x ∈ vs → x ∈ ws) : Vm ws a l := by
  rcases H with x | ⟨c, s, x⟩
  · exact .inl x
  · exact .inr ⟨c, s, hs _ x⟩
theorem Vm.read {cm : Nat} {vs : List (Option Addr × Nat × Nat × List Value)} (O : Own h μ ρ) (hc : ρ cm = some (.many vs)) {a : Option Addr} {l : List Value} (H : Vm vs a l) : Vw ρ [] a l := by
  rcases H with x | ⟨c, s, x⟩
  · exact .inl x
  · exact .inr (Rd.of_many O (by simp) hc x)
theorem Ly.of {co cm : Nat} {oa : Option Addr} {oc : Nat} {cells : List Value} {vs : List (Option Addr × Nat × Nat × List Value)} {f : F} (O : Own h μ ρ) (h1 : ρ co = some (.sl oa oc 4 cells)) (h2 : ρ cm = some (.many vs)) (L : Lies (Vm vs) f cells) : Ly ρ f oa :=
  ⟨cells, .inr (Rd.of_sl O (by simp) h1), L.mono fun _ _ x => x.read O h2⟩
end Fo
end Go.Abs
end
