/- Dealt by names to several, and joined. The join of the shards' lists of a window says what the whole told. The shards' lists of a window, in memory. tumblerlaw08's dealt and among; make of n lists. -/
import Derived.Test.YthbjpoiolmlpmaaGreatDoorAgGau
import Derived.Test.YthbjpoiolmlpmaaGreatDoorPJoin
import Derived.Test.YthbjpoiolmlpmaaGreatDoorAgOwn
set_option linter.unusedVariables false
set_option linter.unusedSimpArgs false
namespace Go.Proofs.YthbjpoiolmlpmaaGreatDoor
open Go.RowKit
section
variable {E Ei : List KE} {x : ByteArray}
/-- On a name's metrics the two lists of events say the same. -/
def SameOn (E Ei : List KE) (x : ByteArray) : Prop := ∀ (id k : Int), E.filter (inM id (k, x)) = Ei.filter (inM id (k, x))
theorem SameOn.any (h : SameOn E Ei x) (id k : Int) : E.any (inM id (k, x)) = Ei.any (inM id (k, x)) := by
  have hf : ∀ l : List KE, l.any (inM id (k, x)) = !(l.filter (inM id (k, x))).isEmpty := fun l => by
    induction l with
    | nil => rfl
    | cons a l ih =>
      rw [List.any_cons, List.filter_cons]
      cases inM id (k, x) a
      · simpa using ih
      · simp
  rw [hf, hf, h id k]
theorem SameOn.tk (h : SameOn E Ei x) (id k : Int) : tkOf E id (k, x) = tkOf Ei id (k, x) := by
  unfold tkOf
  rw [h id k]
def gst (E : List KE) (x : ByteArray) (s : Option Int) (id : Int) : Option Int := if E.any (inM id (2, x)) = true then some ((tkOf E id (2, x)).sum (s.getD 0)) else s
theorem gst_fold (E : List KE) (x : ByteArray) : ∀ (ids : List Int) (g : GV), (ids.foldl (gNext E) g) x = ids.foldl (gst E x) (g x)
  | [], g => rfl
  | id :: ids, g => by
    rw [List.foldl_cons, List.foldl_cons, gst_fold E x ids]
    rfl
theorem gst_skip (E : List KE) (x : ByteArray) : ∀ (ids : List Int) (s : Option Int), ids.foldl (gst E x) s = (ids.filter fun i => E.any (inM i (2, x))).foldl (gst E x) s
  | [], s => rfl
  | id :: ids, s => by
    rw [List.foldl_cons, List.filter_cons]
    by_cases h : E.any (inM id (2, x)) = true
    · rw [if_pos h, List.foldl_cons, gst_skip E x ids]
    · rw [if_neg h, gst_skip E x ids]
      congr 1
      unfold gst
      rw [if_neg h]
theorem take_lt {ids : List Int} (h : ids.Pairwise (· < ·)) {q : Nat} {id : Int} (hq : ids[q]? = some id) : ids.take q = ids.filter fun i => decide (i < id) := by
  obtain ⟨hl, rfl⟩ := List.getElem?_eq_some_iff.1 hq
  have e : ids.filter (fun i => decide (i < ids[q])) = (ids.take q).filter (fun i => decide (i < ids[q])) ++ (ids.drop q).filter (fun i => decide (i < ids[q])) := by
    rw [← List.filter_append, List.take_append_drop]
  rw [e]
  have h1 : (ids.take q).filter (fun i => decide (i < ids[q])) = ids.take q := by
    rw [List.filter_eq_self]
    intro i hi
    obtain ⟨j, hj⟩ := List.mem_iff_getElem?.1 hi
    have hjq : j < q := by
      have := (List.getElem?_eq_some_iff.1 hj).1
      rw [List.length_take] at this
      omega
    rw [List.getElem?_take_of_lt hjq] at hj
    obtain ⟨hj1, rfl⟩ := List.getElem?_eq_some_iff.1 hj
    exact decide_eq_true (List.pairwise_iff_getElem.1 h j q hj1 hl hjq)
  have h2 : (ids.drop q).filter (fun i => decide (i < ids[q])) = [] := by
    rw [List.filter_eq_nil_iff]
    intro i hi
    obtain ⟨j, hj⟩ := List.mem_iff_getElem?.1 hi
    rw [List.getElem?_drop] at hj
    obtain ⟨hj1, rfl⟩ := List.getElem?_eq_some_iff.1 hj
    rcases Nat.eq_zero_or_pos j with rfl | hp
    · simp
    · have := List.pairwise_iff_getElem.1 h q (q + j) hl hj1 (by omega)
      simp
      omega
  rw [h1, h2, List.append_nil]
/-- A gauge ahead of a window: the same in both. -/
theorem gau_same (h : SameOn E Ei x) {ids ids' : List Int} (h1 : IdsTo E mxI ids) (h2 : IdsTo Ei mxI ids') {q q' : Nat} {id : Int} (hq : ids[q]? = some id) (hq' : ids'[q']? = some id) :
    ((ids.take q).foldl (gNext E) (fun _ => none)) x = ((ids'.take q').foldl (gNext Ei) (fun _ => none)) x := by
  rw [gst_fold, gst_fold, take_lt h1.rise hq, take_lt h2.rise hq', gst_skip E x, gst_skip Ei x]
  have e : gst E x = gst Ei x := by
    funext s i
    unfold gst
    rw [h.any i 2, h.tk i 2]
  rw [e]
  congr 1
  refine rising_ext (lt := (· < ·)) (fun a => by omega) (fun a b h1 h2 => by omega) ((h1.rise.filter _).filter _) ((h2.rise.filter _).filter _) (fun i => ?_)
  simp only [List.mem_filter, h.any i 2, h1.mem i, h2.mem i]
  constructor
  · rintro ⟨⟨⟨k1, _⟩, k2⟩, k3⟩
    obtain ⟨p, hp, hm⟩ := List.any_eq_true.1 k3
    exact ⟨⟨⟨k1, p, hp, (inM_iff.1 hm).1⟩, k2⟩, k3⟩
  · rintro ⟨⟨⟨k1, _⟩, k2⟩, k3⟩
    have k4 := k3
    rw [← h.any i 2] at k4
    obtain ⟨p, hp, hm⟩ := List.any_eq_true.1 k4
    exact ⟨⟨⟨k1, p, hp, (inM_iff.1 hm).1⟩, k2⟩, k3⟩
end
/-- The events of a shard. -/
def ofSh (d : ByteArray → Nat) (i : Nat) (p : KE) : Bool := decide (d p.2.name = i)
theorem sameOn_sh (d : ByteArray → Nat) (rows : List KE) (i : Nat) (x : ByteArray) (hx : d x = i) : SameOn (rows.filter accB) ((rows.filter (ofSh d i)).filter accB) x := by
  intro id k
  rw [List.filter_filter, List.filter_filter, List.filter_filter]
  congr 1
  funext p
  by_cases hm : inM id (k, x) p = true
  · have hn : p.2.name = x := congrArg Prod.snd (inM_iff.1 hm).2
    have : ofSh d i p = true := by unfold ofSh; rw [hn, hx]; simp
    simp [this]
  · have hm : inM id (k, x) p = false := by simpa using hm
    simp [hm]
/-- The lists that a window's id has in what a shard told. -/
def listsOf (id : Int) (ws : List (Int × List TL)) : List TL := (ws.filter fun w => decide (w.1 = id)).flatMap (·.2)
structure Part (d : ByteArray → Nat) (rows : List KE) (i : Nat) (ws : List (Int × List TL)) : Prop where
  cl : ∃ A', Closes (runE (rows.filter (ofSh d i))) mxI ws A'
theorem listsOf_at {ws : List (Int × List TL)} (hn : (ws.map (·.1)).Nodup) {q : Nat} {w : Int × List TL} (hq : ws[q]? = some w) : listsOf w.1 ws = w.2 := by
  unfold listsOf
  have := filter_key (fun w : Int × List TL => w.1) ws hn w (List.mem_of_getElem? hq)
  rw [this]
  simp
theorem part_tell {d : ByteArray → Nat} {rows : List KE} {i : Nat} {ws : List (Int × List TL)} (h : Part d rows i ws) : ∃ ids g', IdsTo ((rows.filter (ofSh d i)).filter accB) mxI ids ∧ Tells ((rows.filter (ofSh d i)).filter accB) (fun _ => none) ids ws g' := by
  obtain ⟨A', h⟩ := h.cl
  obtain ⟨ids, h1, h2⟩ := runE_closes h
  exact ⟨ids, _, h1, h2⟩
/-- P8.6: a tally of the whole stands in its shard's list, and the other way about. -/
theorem shard_mem {d : ByteArray → Nat} {rows : List KE} {ws : List (Int × List TL)} {A' : AgE} (hC : Closes (runE rows) mxI ws A') {id : Int} {T : List TL} (hw : (id, T) ∈ ws) {i : Nat} {wi : List (Int × List TL)} (hp : Part d rows i wi) (t : TL) (hd : d t.n = i) :
    t ∈ T ↔ t ∈ listsOf id wi := by
  obtain ⟨ids, h1, h2⟩ := runE_closes hC
  obtain ⟨ids', g', k1, k2⟩ := part_tell hp
  have hs := sameOn_sh d rows i t.n hd
  obtain ⟨q, hq⟩ := List.mem_iff_getElem?.1 hw
  have hT := h2.at_.2 q _ hq
  have hidq : ids[q]? = some id := by rw [← h2.ids, List.getElem?_map, hq]; rfl
  have hn' : (wi.map (·.1)).Nodup := by rw [k2.ids]; exact k1.rise.imp (fun h => by omega)
  have hmet : t.met = (t.k, t.n) := rfl
  constructor
  · intro ht
    obtain ⟨p, hpm, hin⟩ := (hT.mem t.met).1 (List.mem_map_of_mem ht)
    have hany : ((rows.filter (ofSh d i)).filter accB).any (inM id (t.k, t.n)) = true := by
      rw [← hs.any]
      exact List.any_eq_true.2 ⟨p, hpm, hin⟩
    obtain ⟨p', hp', hin'⟩ := List.any_eq_true.1 hany
    have hid' : id ∈ ids' := (k1.mem id).2 ⟨((h1.mem id).1 (List.mem_of_getElem? hidq)).1, p', hp', (inM_iff.1 hin').1⟩
    obtain ⟨q', hq'⟩ := List.mem_iff_getElem?.1 hid'
    have hwq : ∃ T', wi[q']? = some (id, T') := by
      have h3 := hq'
      rw [← k2.ids, List.getElem?_map] at h3
      cases h4 : wi[q']? with
      | none => rw [h4] at h3; cases h3
      | some y => rw [h4] at h3; obtain rfl := Option.some.inj h3; exact ⟨y.2, rfl⟩
    obtain ⟨T', hwq⟩ := hwq
    have hT' := k2.at_.2 q' _ hwq
    obtain ⟨t', ht', hm'⟩ := List.mem_map.1 ((hT'.mem t.met).2 ⟨p', hp', hin'⟩)
    have e1 := hT.eq t ht
    have e2 := hT'.eq t' ht'
    have hg := gau_same hs h1 k1 hidq hq'
    have : t = t' := by
      rw [e1, e2, hm']
      unfold tlOf
      rw [hmet, hs.tk]
      dsimp only
      rw [hg]
    rw [listsOf_at hn' hwq, this]
    exact ht'
  · intro ht
    obtain ⟨y, hyf, hty⟩ := List.mem_flatMap.1 ht
    clear ht
    obtain ⟨hy, hyi⟩ := List.mem_filter.1 hyf
    clear hyf
    have ht := hty
    clear hty
    obtain ⟨id2, T'⟩ := y
    obtain rfl : id2 = id := by simpa using hyi
    obtain ⟨q', hq'⟩ := List.mem_iff_getElem?.1 hy
    have hT' := k2.at_.2 q' _ hq'
    have hid' : ids'[q']? = some id2 := by rw [← k2.ids, List.getElem?_map, hq']; rfl
    obtain ⟨p', hp', hin'⟩ := (hT'.mem t.met).1 (List.mem_map_of_mem ht)
    have hany : (rows.filter accB).any (inM id2 (t.k, t.n)) = true := by
      rw [hs.any]
      exact List.any_eq_true.2 ⟨p', hp', hin'⟩
    obtain ⟨p, hpm, hin⟩ := List.any_eq_true.1 hany
    obtain ⟨t2, ht2, hm2⟩ := List.mem_map.1 ((hT.mem t.met).2 ⟨p, hpm, hin⟩)
    have e1 := hT.eq t2 ht2
    have e2 := hT'.eq t ht
    have hg := gau_same hs h1 k1 hidq hid'
    have : t = t2 := by
      rw [e1, e2, hm2]
      unfold tlOf
      rw [hmet, hs.tk]
      dsimp only
      rw [hg]
    rw [this]
    exact ht2
theorem part_deal {d : ByteArray → Nat} {rows : List KE} {i : Nat} {wi : List (Int × List TL)} (hp : Part d rows i wi) {id : Int} {t : TL} (ht : t ∈ listsOf id wi) : d t.n = i := by
  obtain ⟨ids', g', k1, k2⟩ := part_tell hp
  obtain ⟨y, hy, ht⟩ := List.mem_flatMap.1 ht
  obtain ⟨hy, _⟩ := List.mem_filter.1 hy
  obtain ⟨q', hq'⟩ := List.mem_iff_getElem?.1 hy
  have hT' := k2.at_.2 q' _ hq'
  obtain ⟨p', hp', hin'⟩ := (hT'.mem t.met).1 (List.mem_map_of_mem ht)
  have h1 := (List.mem_filter.1 (List.mem_filter.1 hp').1).2
  have hn : p'.2.name = t.n := congrArg Prod.snd (inM_iff.1 hin').2
  unfold ofSh at h1
  rw [hn] at h1
  exact of_decide_eq_true h1
theorem part_mets {d : ByteArray → Nat} {rows : List KE} {i : Nat} {wi : List (Int × List TL)} (hp : Part d rows i wi) (id : Int) : ((listsOf id wi).map TL.met).Nodup := by
  obtain ⟨ids', g', k1, k2⟩ := part_tell hp
  have hn' : (wi.map (·.1)).Nodup := by rw [k2.ids]; exact k1.rise.imp (fun h => by omega)
  by_cases h : ∃ y ∈ wi, y.1 = id
  · obtain ⟨y, hy, rfl⟩ := h
    obtain ⟨q', hq'⟩ := List.mem_iff_getElem?.1 hy
    rw [listsOf_at hn' hq']
    exact (k2.at_.2 q' _ hq').rise.imp (fun {a b} hab e => by subst e; rw [ltM_irrefl] at hab; cases hab)
  · have : listsOf id wi = [] := by
      unfold listsOf
      rw [List.filter_eq_nil_iff.2 (fun y hy => by simpa using fun e => h ⟨y, hy, e⟩)]
      rfl
    rw [this]
    exact .nil
/-- All shards' lists of a window's id together. -/
theorem shard_all {d : ByteArray → Nat} {rows : List KE} {n : Nat} (hdn : ∀ x, d x < n) {ws : List (Int × List TL)} {A' : AgE} (hC : Closes (runE rows) mxI ws A') {id : Int} {T : List TL} (hw : (id, T) ∈ ws) (W : Nat → List (Int × List TL)) (hW : ∀ i, i < n → Part d rows i (W i)) :
    (((List.range n).flatMap fun i => listsOf id (W i)).map TL.met).Nodup ∧ ∀ t, t ∈ (List.range n).flatMap (fun i => listsOf id (W i)) ↔ t ∈ T := by
  refine ⟨?_, fun t => ?_⟩
  · have key : ∀ m, m ≤ n → (((List.range m).flatMap fun i => listsOf id (W i)).map TL.met).Nodup := by
      intro m
      induction m with
      | zero => intro _; exact .nil
      | succ m ih =>
        intro hm
        rw [List.range_succ, List.flatMap_append, List.map_append, List.nodup_append]
        refine ⟨ih (by omega), by simpa using part_mets (hW m (by omega)) id, fun a ha b hb e => ?_⟩
        subst e
        obtain ⟨t, ht, rfl⟩ := List.mem_map.1 ha
        obtain ⟨t2, ht2, e2⟩ := List.mem_map.1 hb
        obtain ⟨j, hj, ht⟩ := List.mem_flatMap.1 ht
        have hj := List.mem_range.1 hj
        simp at ht2
        have h1 := part_deal (hW j (by omega)) ht
        have h2 := part_deal (hW m (by omega)) ht2
        have e3 : t2.n = t.n := congrArg Prod.snd e2
        rw [e3] at h2
        omega
    exact key n (Nat.le_refl _)
  · rw [List.mem_flatMap]
    constructor
    · rintro ⟨i, hi, ht⟩
      have hi := List.mem_range.1 hi
      exact (shard_mem hC hw (hW i hi) t (part_deal (hW i hi) ht)).2 ht
    · intro ht
      exact ⟨d t.n, List.mem_range.2 (hdn _), (shard_mem hC hw (hW _ (hdn _)) t rfl).1 ht⟩
theorem shard_ids {d : ByteArray → Nat} {rows : List KE} {ws : List (Int × List TL)} {A' : AgE} (hC : Closes (runE rows) mxI ws A') {i : Nat} {wi : List (Int × List TL)} (hp : Part d rows i wi) : ∀ y ∈ wi, y.1 ∈ ws.map (·.1) := by
  obtain ⟨ids, h1, h2⟩ := runE_closes hC
  obtain ⟨ids', g', k1, k2⟩ := part_tell hp
  intro y hy
  have : y.1 ∈ ids' := by rw [← k2.ids]; exact List.mem_map_of_mem hy
  obtain ⟨k3, p, hp, e⟩ := (k1.mem _).1 this
  rw [h2.ids]
  obtain ⟨hp1, hp2⟩ := List.mem_filter.1 hp
  exact (h1.mem _).2 ⟨k3, p, List.mem_filter.2 ⟨(List.mem_filter.1 hp1).1, hp2⟩, e⟩
end Go.Proofs.YthbjpoiolmlpmaaGreatDoor
namespace Go.Proofs.YthbjpoiolmlpmaaGreatDoor
open Go.RowKit
theorem scan_zero : ∀ (L acc : List TC), (∀ t ∈ L, 1 ≤ t.k ∧ t.k ≤ 4) → ((acc ++ L).map keyT).Nodup → scan acc L = 0
  | [], acc, _, _ => rfl
  | t :: L, acc, hk, hn => by
    have h1 := hk t (by simp)
    have hb : bad acc t = 0 := by
      unfold bad
      rw [if_neg (by omega), if_neg]
      intro h
      rw [any_iff, mk_keys] at h
      rw [List.map_append, List.nodup_append] at hn
      exact hn.2.2 _ h (keyT t) (by simp) rfl
    rw [scan_ok hb]
    exact scan_zero L (acc ++ [t]) (fun x hx => hk x (List.mem_cons_of_mem _ hx)) (by simpa using hn)
theorem ltD_irrefl (a : Tally) : ltD a a = false := by simp [ltD, sLt_irrefl]
theorem ltD_asymm {a b : Tally} (h : ltD a b = true) : ¬ ltD b a = true := by
  intro k
  exact ltM_asymm (a := keyD a) (b := keyD b) h k
theorem strictD {ds : List Tally} (h : ds.Pairwise (fun a b => ltD b a = false)) (hn : (ds.map keyD).Nodup) : ds.Pairwise (fun a b => ltD a b = true) := by
  rw [List.pairwise_iff_getElem] at h ⊢
  intro i j hi hj hij
  have h1 := h i j hi hj hij
  rcases Bool.eq_false_or_eq_true (ltD ds[i] ds[j]) with k | k
  · exact k
  · exfalso
    have e := ltD_total k h1
    have := List.pairwise_iff_getElem.1 hn i j (by simpa using hi) (by simpa using hj) hij
    simp at this
    exact this e
theorem join_alike {w : World} {G : Nat → Prop} {os l' : List TC} {D ds : List Tally} (ho : TDs w G os D) (hp : l'.Perm os) (hs : l'.Pairwise (fun a b => ltT b a = false)) (hn : (D.map keyD).Nodup) (hm : ∀ d, d ∈ D ↔ d ∈ ds) (hd : ds.Pairwise (fun a b => ltD a b = true)) : TDs w G l' ds := by
  obtain ⟨ds', h1, h2⟩ := TDs.perm hp.symm ho
  have h3 := strictD (TDs.sorted h2 hs) ((h1.map keyD).nodup_iff.1 hn)
  have : ds' = ds := rising_ext (lt := fun a b => ltD a b = true) (fun a => by simp [ltD_irrefl]) (fun a b h k => ltD_asymm h k) h3 hd (fun x => (h1.mem_iff).symm.trans (hm x))
  rw [← this]
  exact h2
theorem tlD_key (t : TL) : keyD (tlD t) = t.met := rfl
theorem tlD_lt {a b : TL} (h : ltM a.met b.met = true) : ltD (tlD a) (tlD b) = true := h
theorem told_kind {E : List KE} (hE : ∀ p ∈ E, chk p.2 = 0) {g : GV} {id : Int} {T : List TL} (h : Told E g id T) {t : TL} (ht : t ∈ T) : 1 ≤ t.k ∧ t.k ≤ 4 := by
  obtain ⟨p, hp, hm⟩ := (h.mem t.met).1 (List.mem_map_of_mem ht)
  have hk := (chk_ok (hE p hp)).1
  have e : p.2.kind = t.k := congrArg Prod.fst (inM_iff.1 hm).2
  omega
/-- What the whole told of a window, against what the shards' lists join to. -/
theorem shard_join {rows : List KE} {ws : List (Int × List TL)} {A' : AgE} (hC : Closes (runE rows) mxI ws A') {id : Int} {T : List TL} (hw : (id, T) ∈ ws) {L : List TL} (hn : (L.map TL.met).Nodup) (hm : ∀ t, t ∈ L ↔ t ∈ T) :
    ((L.map tlD).map keyD).Nodup ∧ (∀ d, d ∈ L.map tlD ↔ d ∈ T.map tlD) ∧ (T.map tlD).Pairwise (fun a b => ltD a b = true) ∧ ∀ t ∈ L, 1 ≤ t.k ∧ t.k ≤ 4 := by
  obtain ⟨g, hT⟩ := runE_told hC _ hw
  refine ⟨?_, fun d => ?_, ?_, fun t ht => told_kind acc_ok hT ((hm t).1 ht)⟩
  · rw [List.map_map]
    exact hn
  · simp only [List.mem_map]
    constructor
    · rintro ⟨t, ht, rfl⟩
      exact ⟨t, (hm t).1 ht, rfl⟩
    · rintro ⟨t, ht, rfl⟩
      exact ⟨t, (hm t).2 ht, rfl⟩
  · have := hT.rise
    rw [List.pairwise_map] at this ⊢
    exact this.imp (fun h => tlD_lt h)
end Go.Proofs.YthbjpoiolmlpmaaGreatDoor
namespace Go.Proofs.YthbjpoiolmlpmaaGreatDoor
open Go.RowKit
def ent (id : Int) (cw : List WCL) : List WCL := cw.filter fun d => decide (d.id = id)
theorem ent_lists (id : Int) (cw : List WCL) : (ent id cw).flatMap (fun d => d.us.map (·.2)) = listsOf id (cw.map WCL.pl) := by
  unfold ent listsOf
  induction cw with
  | nil => rfl
  | cons c cw ih =>
    rw [List.map_cons, List.filter_cons, List.filter_cons]
    by_cases h : c.id = id
    · rw [if_pos (decide_eq_true h), if_pos (show decide (c.pl.1 = id) = true from decide_eq_true h), List.flatMap_cons, List.flatMap_cons, ih]
      rfl
    · rw [if_neg (by simpa using h), if_neg (show ¬ decide (c.pl.1 = id) = true from fun e => h (of_decide_eq_true e)), ih]
theorem ent_take (id : Int) {cw : List WCL} {j : Nat} {c : WCL} (h : cw[j]? = some c) : ent id (cw.take (j + 1)) = if c.id = id then ent id (cw.take j) ++ [c] else ent id (cw.take j) := by
  unfold ent
  rw [List.take_add_one, h]
  by_cases e : c.id = id <;> simp [List.filter_append, e]
def LWs (P : Nat → Value × Nat × List WCL) (id : Int) (r : Nat) : List WCL := (List.range r).flatMap fun i => ent id (P i).2.2
theorem lws_succ (P : Nat → Value × Nat × List WCL) (id : Int) (r : Nat) : LWs P id (r + 1) = LWs P id r ++ ent id (P r).2.2 := by
  unfold LWs
  rw [List.range_succ, List.flatMap_append]
  simp
theorem lws_flat (P : Nat → Value × Nat × List WCL) (id : Int) (n : Nat) : (LWs P id n).flatMap (fun d => d.us.map (·.2)) = (List.range n).flatMap fun i => listsOf id ((P i).2.2.map WCL.pl) := by
  unfold LWs
  rw [List.flatMap_assoc]
  congr 1
  funext i
  exact ent_lists id _
theorem lws_mem {P : Nat → Value × Nat × List WCL} {id : Int} {n : Nat} {d : WCL} (h : d ∈ LWs P id n) : ∃ j, j < n ∧ d ∈ (P j).2.2 := by
  obtain ⟨j, hj, h⟩ := List.mem_flatMap.1 h
  exact ⟨j, List.mem_range.1 hj, (List.mem_filter.1 h).1⟩
theorem ent_one {id : Int} {cw : List WCL} (hn : (cw.map WCL.id).Nodup) : (ent id cw).length ≤ 1 := by
  unfold ent
  by_cases hx : ∃ d, d ∈ cw.filter fun d => decide (d.id = id)
  · obtain ⟨d, hd⟩ := hx
    obtain ⟨h1, h2⟩ := List.mem_filter.1 hd
    have h2 : d.id = id := by simpa using h2
    have := filter_key WCL.id cw hn d h1
    rw [h2] at this
    rw [this]
    simp
  · have : cw.filter (fun d => decide (d.id = id)) = [] := List.eq_nil_iff_forall_not_mem.2 fun d hd => hx ⟨d, hd⟩
    rw [this]
    simp
theorem part_nodup {d : ByteArray → Nat} {rows : List KE} {i : Nat} {cw : List WCL} (hp : Part d rows i (cw.map WCL.pl)) : (cw.map WCL.id).Nodup := by
  obtain ⟨ids', g', k1, k2⟩ := part_tell hp
  have : cw.map WCL.id = ids' := by
    rw [← k2.ids, List.map_map]
    rfl
  rw [this]
  exact k1.rise.imp (fun h => by omega)
theorem lws_len {P : Nat → Value × Nat × List WCL} {id : Int} : ∀ (n : Nat), (∀ j, j < n → ((P j).2.2.map WCL.id).Nodup) → (LWs P id n).length ≤ n
  | 0, _ => by simp [LWs]
  | n + 1, h => by
    have ih := lws_len (P := P) (id := id) n (fun j hj => h j (by omega))
    have := ent_one (id := id) (h n (by omega))
    rw [lws_succ, List.length_append]
    omega
theorem TDs.hereS {w : World} {us : List TC} {ds : List Tally} (h : TDs w (fun _ => True) us ds) : TDs w (· < w.heap.size) us ds :=
  ⟨h.1, fun i a d h1 h2 => Rd.mono (fun b hb => hb.2) gTally _ _ (Rd.here gTally _ _ (by kernel_rfl) (h.2 i a d h1 h2))⟩
theorem TDs.appS {w : World} {F : Nat → Prop} {us vs : List TC} {ds es : List Tally} (h : TDs w F us ds) (k : TDs w F vs es) : TDs w F (us ++ vs) (ds ++ es) := by
  refine ⟨by rw [List.length_append, List.length_append, h.1, k.1], fun i a d h1 h2 => ?_⟩
  by_cases hi : i < us.length
  · rw [List.getElem?_append_left hi] at h1
    rw [List.getElem?_append_left (by rw [← h.1]; exact hi)] at h2
    exact h.2 i a d h1 h2
  · rw [List.getElem?_append_right (by omega)] at h1
    rw [List.getElem?_append_right (by rw [← h.1]; omega), ← h.1] at h2
    exact k.2 _ a d h1 h2
/-- Told windows' tallies, as Join wants them. -/
structure Wins (W : World) (LW : List WCL) : Prop where
  at_ : ∀ d ∈ LW, ∃ B, WinAt W B B d
  wf : ∀ d ∈ LW, ∀ u ∈ d.us, u.2.wf
  len : ∀ d ∈ LW, ∀ u ∈ d.us, u.2.smp.length ≤ 1048576 ∧ u.2.mem.length ≤ 1048576
theorem Wins.rows {W : World} {LW : List WCL} (h : Wins W LW) (i : Nat) (x : Value) (ts : List TC) (hx : (LW.map WCL.tv)[i]? = some x) (ht : (LW.map fun d => d.us.map (·.1))[i]? = some ts) : RowK W (· < W.heap.size) TC.cells 9 x ts := by
  rw [List.getElem?_map] at hx ht
  cases hd : LW[i]? with
  | none => rw [hd] at hx; cases hx
  | some d =>
    rw [hd] at hx ht
    obtain rfl := Option.some.inj hx
    obtain rfl := Option.some.inj ht
    obtain ⟨B, hB⟩ := h.at_ d (List.mem_of_getElem? hd)
    have hr := hB.rowK
    obtain ⟨A, c, e, h2, h3, h4, h5⟩ := hr
    refine ⟨A, c, e, h2, h3, h4, fun j u hu => ?_⟩
    obtain ⟨b, o, e2, _, hc⟩ := h5 j u hu
    refine ⟨b, o, e2, ?_, hc⟩
    exact World.block_lt_of_cell? W _ (hc 0 _ rfl)
theorem Wins.tds {W : World} : ∀ {LW : List WCL}, Wins W LW → TDs W (fun _ => True) (LW.map fun d => d.us.map (·.1)).flatten ((LW.flatMap fun d => d.us.map (·.2)).map tlD)
  | [], _ => ⟨rfl, fun i a d h => by simp at h⟩
  | d :: LW, h => by
    have ih := Wins.tds (LW := LW) ⟨fun x hx => h.at_ x (List.mem_cons_of_mem _ hx), fun x hx => h.wf x (List.mem_cons_of_mem _ hx), fun x hx => h.len x (List.mem_cons_of_mem _ hx)⟩
    obtain ⟨B, hB⟩ := h.at_ d (by simp)
    have h1 := hB.tds (h.wf d (by simp)) (Nat.le_refl _) (fun _ => True) (fun _ _ => trivial)
    have e : ((d :: LW).flatMap fun d => d.us.map (·.2)).map tlD = (d.us.map fun u => tlD u.2) ++ ((LW.flatMap fun d => d.us.map (·.2)).map tlD) := by
      rw [List.flatMap_cons, List.map_append, List.map_map]
      rfl
    rw [e, List.map_cons, List.flatten_cons]
    exact h1.appS ih
theorem Wins.small {W : World} {LW : List WCL} (h : Wins W LW) (i : Nat) (t : TC) (ht : (LW.map fun d => d.us.map (·.1)).flatten[i]? = some t) : t.sn ≤ 1048576 ∧ t.mn ≤ 1048576 := by
  have hm := List.mem_of_getElem? ht
  obtain ⟨l, hl, hm⟩ := List.mem_flatten.1 hm
  obtain ⟨d, hd, rfl⟩ := List.mem_map.1 hl
  obtain ⟨u, hu, rfl⟩ := List.mem_map.1 hm
  obtain ⟨B, hB⟩ := h.at_ d hd
  obtain ⟨SA, SC, MA, MC, e, _⟩ := (hB.2 u hu).form
  rw [e]
  exact h.len d hd u hu
theorem Wins.keys {W : World} {LW : List WCL} (h : Wins W LW) : (LW.map fun d => d.us.map (·.1)).flatten.map keyT = (LW.flatMap fun d => d.us.map (·.2)).map TL.met ∧ (∀ t ∈ (LW.map fun d => d.us.map (·.1)).flatten, ∃ l ∈ LW.flatMap fun d => d.us.map (·.2), t.k = l.k) := by
  constructor
  · rw [← List.flatMap_def, List.map_flatMap, List.map_flatMap]
    unfold List.flatMap
    congr 1
    refine List.map_congr_left fun d hd => ?_
    rw [List.map_map, List.map_map]
    refine List.map_congr_left fun u hu => ?_
    obtain ⟨B, hB⟩ := h.at_ d hd
    have := hB.2 u hu
    simp [keyT, TL.met, this.k, this.n]
  · intro t ht
    obtain ⟨l, hl, hm⟩ := List.mem_flatten.1 ht
    obtain ⟨d, hd, rfl⟩ := List.mem_map.1 hl
    obtain ⟨u, hu, rfl⟩ := List.mem_map.1 hm
    obtain ⟨B, hB⟩ := h.at_ d hd
    exact ⟨u.2, List.mem_flatMap.2 ⟨d, hd, List.mem_map_of_mem hu⟩, (hB.2 u hu).k⟩
theorem told_few {rows : List KE} {ws : List (Int × List TL)} {A' : AgE} (hC : Closes (runE rows) mxI ws A') {id : Int} {T : List TL} (hw : (id, T) ∈ ws) {L : List TL} (hn : (L.map TL.met).Nodup) (hm : ∀ t, t ∈ L ↔ t ∈ T) : L.length ≤ rows.length := by
  obtain ⟨g, hT⟩ := runE_told hC _ hw
  have := nodup_leA (m := (rows.filter accB).map fun p => met p.2) hn (fun m hmm => by
    obtain ⟨t, ht, rfl⟩ := List.mem_map.1 hmm
    obtain ⟨p, hp, hin⟩ := (hT.mem t.met).1 (List.mem_map_of_mem ((hm t).1 ht))
    exact List.mem_map.2 ⟨p, hp, (inM_iff.1 hin).2⟩)
  rw [List.length_map, List.length_map] at this
  exact Nat.le_trans this (List.length_filter_le _ _)
theorem TDs.monoS {w : World} {F G : Nat → Prop} (hFG : ∀ b, F b → G b) {us : List TC} {ds : List Tally} (h : TDs w F us ds) : TDs w G us ds := ⟨h.1, fun i a d h1 h2 => Rd.mono hFG _ _ _ (h.2 i a d h1 h2)⟩
theorem row_lt {w : World} {base n : Nat} {e : TypeId} {v : Value} {xs : List Value} (h : w.ownsRow base e 1 v n xs) (hn : n = xs.length) : RowK w (· < w.heap.size) (fun x => [x]) 1 v xs := by
  subst hn
  have e1 : xs.flatMap (fun x => [x]) = xs := by simp
  rw [← e1] at h
  have hl : (xs.flatMap fun x => [x]).length = xs.length := by simp
  obtain ⟨A, c, ev, h2, h3, h4, h5⟩ := (own_row (enc := fun x => [x]) (k := 1) (fun _ => rfl) (by decide) h).2
  refine ⟨A, c, ev, h2, h3, h4, fun j u hu => ?_⟩
  obtain ⟨b, o, e2, _, hc⟩ := h5 j u hu
  exact ⟨b, o, e2, World.block_lt_of_cell? w _ (hc 0 _ rfl), hc⟩
theorem Wins.len_eq {W : World} {LW : List WCL} (h : Wins W LW) : (LW.map fun d => d.us.map (·.1)).flatten.length = (LW.flatMap fun d => d.us.map (·.2)).length := by
  have := h.tds.1
  rw [this, List.length_map]
theorem part_lens {d : ByteArray → Nat} {rows : List KE} (hl : rows.length ≤ 1048576) {i : Nat} {cw : List WCL} (hp : Part d rows i (cw.map WCL.pl)) {c : WCL} (hc : c ∈ cw) {u : TC × TL} (hu : u ∈ c.us) : u.2.wf ∧ u.2.smp.length ≤ 1048576 ∧ u.2.mem.length ≤ 1048576 := by
  obtain ⟨A', h⟩ := hp.cl
  have h0 := List.length_filter_le (ofSh d i) rows
  have h1 := (runE_ok _).wf_close (by omega) h c.pl (List.mem_map_of_mem hc) u.2 (List.mem_map_of_mem hu)
  obtain ⟨g, hT⟩ := runE_told h c.pl (List.mem_map_of_mem hc)
  have h2 := told_lens acc_ok hT (t := u.2) (List.mem_map_of_mem hu)
  have h3 := List.length_filter_le accB (rows.filter (ofSh d i))
  exact ⟨h1, by omega, by omega⟩
end Go.Proofs.YthbjpoiolmlpmaaGreatDoor
namespace Go.Proofs.YthbjpoiolmlpmaaGreatDoor
open Go.RowKit
def dlL (n : Nat) (l : List UInt8) : Nat := l.foldl (fun k b => (k * 31 + b.toNat) % n) 0
def dlt (n : Nat) (s : ByteArray) : Nat := dlL n s.data.toList
theorem dlL_lt {n : Nat} (h : 1 ≤ n) (l : List UInt8) : dlL n l < n := by
  unfold dlL
  rcases List.eq_nil_or_concat l with rfl | ⟨k, y, rfl⟩
  · exact h
  · rw [List.concat_eq_append, List.foldl_append]
    exact Nat.mod_lt _ (by omega)
theorem dlL_take (n : Nat) (s : ByteArray) {k : Nat} (h : k < s.size) : dlL n (s.data.toList.take (k + 1)) = (dlL n (s.data.toList.take k) * 31 + s[k].toNat) % n := by
  have e : s.data.toList[k]? = some s[k] := by
    rw [Array.getElem?_toList, Array.getElem?_eq_getElem h]
    rfl
  rw [List.take_add_one, e]
  unfold dlL
  rw [List.foldl_append]
  rfl
set_option maxRecDepth 4000 in
set_option maxHeartbeats 1000000 in
theorem dealt_calls (s : ByteArray) (hs : s.size ≤ maxLen) (n : Nat) (h1 : 1 ≤ n) (h4 : n ≤ 4) (w : World) :
    Calls Tryz.prog 31 #[.string s, .int .i64 n] w fun e w' => e = .returned (.int .i64 (dlt n s)) ∧ w' = w := by
  have hlm : s.size ≤ 9223372036854775807 := Nat.le_trans hs (by unfold maxLen; decide)
  have hnz : ¬ (n : Int) = 0 := by omega
  go_enter Tryz.func31, Tryz.ntmps31
  go_wp2_with fail
  go_loopw [5, 6] (fun h i wr => ∃ k : Nat, k ≤ s.size ∧ i = .int .i64 (k : Int) ∧ h = .int .i64 (dlL n (s.data.toList.take k)) ∧ wr = w) (fun _ i _ => s.size - (intOf i).toNat)
  case atStart => exact ⟨0, Nat.zero_le _, rfl, rfl, rfl⟩
  case round =>
    obtain ⟨k, hk, rfl, rfl, rfl⟩ := hrel
    by_cases hlt : k < s.size
    · have hkI : (k : Int) < (s.size : Int) := by omega
      have hdl := dlL_lt h1 (s.data.toList.take k)
      obtain ⟨D, hD⟩ : ∃ D, D = dlL n (s.data.toList.take k) := ⟨_, rfl⟩
      have HD := Lib.hid hD
      rw [← hD] at hdl ⊢
      have hb : s[k].toNat < 256 := s[k].toNat_lt
      clear hD
      go_wp2
      exact ⟨⟨k + 1, hlt, by first | rfl | go_num, by rw [dlL_take n s hlt, ← HD.out]; first | rfl | go_num, trivial⟩, by simp [intOf]; omega⟩
    · obtain rfl : k = s.size := by omega
      have e1 : dlL n (s.data.toList.take s.size) = dlt n s := by
        have : s.size = s.data.toList.length := by rw [Array.length_toList]; rfl
        rw [this, List.take_length]
        rfl
      rw [e1]
      clear e1
      go_wp2_with fail
      go_ret
      exact ⟨rfl, rfl⟩
set_option maxHeartbeats 1000000 in
theorem among_calls {w : World} {B base : Nat} {v : Value} {cw : List WCL} (h : WinsAt w B base v cw) (id : Int) (hid : id ∈ cw.map WCL.id) :
    Calls Tryz.prog 34 #[v, .int .i64 id] w fun e w' => e = .returned (.bool true) ∧ w' = w := by
  obtain ⟨Ax, cx, rfl, hcw, hcx, _⟩ := own_shape h.row
  have hcw : cw.length ≤ 9223372036854775807 := by unfold maxLen at hcx; omega
  have H := Lib.hid h
  have HID := Lib.hid hid
  clear h hcx hid
  go_enter Tryz.func34, Tryz.ntmps34
  go_wp2_with fail
  go_loopw [5] (fun i wr => ∃ k : Nat, k ≤ cw.length ∧ i = .int .i64 (k : Int) ∧ (∀ j c, j < k → cw[j]? = some c → c.id ≠ id) ∧ wr = w) (fun i _ => cw.length - (intOf i).toNat)
  case atStart => exact ⟨0, Nat.zero_le _, rfl, fun j c hj => by omega, rfl⟩
  case round =>
    obtain ⟨k, hk, rfl, hno, rfl⟩ := hrel
    have HNO := Lib.hid hno
    clear hno
    by_cases hlt : k < cw.length
    · obtain ⟨c, hc⟩ : ∃ c, cw[k]? = some c := ⟨cw[k], List.getElem?_eq_getElem hlt⟩
      obtain ⟨b, m, e, _, ⟨x0, x1⟩, _⟩ := H.out.at_ hc
      injection e with e1 e2 e3
      subst e1 e3
      have HC := Lib.hid hc
      clear hc e2
      by_cases hi : c.id = id
      · have d1 : (c.id == id) = true := by simpa using hi
        clear hi
        go_wp2_with fail
        go_ret
        exact ⟨rfl, rfl⟩
      · have d1 : (c.id == id) = false := by simpa using hi
        have HI := Lib.hid hi
        clear hi
        go_wp2_with fail
        exact ⟨⟨k + 1, hlt, by first | rfl | go_num, fun j d hj hd => by
          by_cases e : j = k
          · subst e
            rw [HC.out] at hd
            obtain rfl := Option.some.inj hd
            exact HI.out
          · exact HNO.out j d (by omega) hd, trivial⟩, by simp [intOf]; omega⟩
    · exfalso
      obtain ⟨c, hc, e⟩ := List.mem_map.1 HID.out
      obtain ⟨j, hj⟩ := List.mem_iff_getElem?.1 hc
      have := (List.getElem?_eq_some_iff.1 hj).1
      exact HNO.out j c (by omega) hj e
theorem infoWs : (Tryz.prog.info? 23).map (fun i => (i.zero, i.size, i.bytes)) = some (some (.slice none 0 0), 1, 24) := by kernel_rfl
theorem made_one (z : Value) (n : Nat) : madeCells #[z] n = (List.replicate n z).toArray := by
  apply Array.ext_getElem?
  intro j
  by_cases hj : j < n
  · simp [madeCells, hj, Nat.mod_one]
  · rw [Array.getElem?_eq_none (by rw [size_madeCells]; omega), Array.getElem?_eq_none (by simp; omega)]
theorem mk_wss (n : Nat) (hn : n ≤ 16) (W : World) : (Instr.makeSlice 80 (.int .i64 (n : Int)) (.int .i64 (n : Int))).run Tryz.prog W = .ok (.slice (some ⟨W.heap.size, 0, none⟩) n n) (W.alloc (.cells (List.replicate n (.slice none 0 0)).toArray 23)) := by
  obtain ⟨i, hi, hzz⟩ := Option.map_eq_some_iff.1 infoWs
  simp only [Prod.mk.injEq] at hzz
  obtain ⟨hz, hs, hb⟩ := hzz
  have h := run_make (P := Tryz.prog) W 80 23 i _ (by kernel_rfl) hi hz .i64 .i64 n n (by omega) (Int.le_refl _) (by rw [hb]; omega) (by omega)
  rw [hs] at h
  simp only [Int.toNat_natCast, Nat.mul_one] at h
  rw [h, ← made_one]
  rfl
end Go.Proofs.YthbjpoiolmlpmaaGreatDoor
