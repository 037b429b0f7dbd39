/- Plain: Open of Bytes gives the file back (under way). -/
import Derived.Test.YtdjpcinibgbglaaOpen
import Derived.Test.YtdjpcinibgbglaaBys
set_option linter.unusedVariables false
set_option linter.unusedSimpArgs false
namespace Go.Proofs.Ytdjpcinibgbglaa
open Go.RowKit Go.Sort
theorem mod_succ (n m : Int) (hm : 0 < m) : n / m % 256 * m + n % m = n % (m * 256) := by
  have h1 : n % (m * 256) = n - m * 256 * (n / (m * 256)) := Int.emod_def _ _
  have h2 : n / m % 256 = n / m - 256 * (n / m / 256) := Int.emod_def _ _
  have h3 : n % m = n - m * (n / m) := Int.emod_def _ _
  have h4 : n / (m * 256) = n / m / 256 := (Int.ediv_ediv_of_nonneg (Int.le_of_lt hm)).symm
  rw [h1, h2, h3, h4, Int.sub_mul, Int.mul_assoc m 256, Int.mul_comm (n / m) m, Int.mul_comm (256 * (n / m / 256)) m]
  omega
theorem fold_highL (n : Int) : ∀ (k : Nat) (a : Int), (highL n k).foldl (fun n c => n * 256 + c) a = a * 256 ^ k + n % 256 ^ k := by
  intro k
  induction k with
  | zero => intro a; simp [highL]
  | succ k ih =>
    intro a
    rw [highL, List.foldl_cons, ih, Int.pow_succ, ← mod_succ n (256 ^ k) (Int.pow_pos (by decide)), Int.add_mul, Int.mul_assoc a 256, Int.mul_comm 256 (256 ^ k)]
    omega
theorem num_highL (n : Int) (k : Nat) : num (highL n k) = n % 256 ^ k := by
  unfold num
  rw [fold_highL]
  simp
/-- From a place on a list goes on with these. -/
def From (l : List Int) (p : Nat) (xs : List Int) : Prop := p ≤ l.length ∧ ∃ post, l.drop p = xs ++ post
theorem From.left {l : List Int} {p : Nat} {xs ys : List Int} (h : From l p (xs ++ ys)) : From l p xs := by
  obtain ⟨h1, q, h2⟩ := h
  exact ⟨h1, ys ++ q, by rw [h2, List.append_assoc]⟩
theorem From.right {l : List Int} {p : Nat} {xs ys : List Int} (h : From l p (xs ++ ys)) : From l (p + xs.length) ys := by
  obtain ⟨h1, q, h2⟩ := h
  have hl : (l.drop p).length = xs.length + ys.length + q.length := by rw [h2]; simp [List.length_append]; omega
  rw [List.length_drop] at hl
  refine ⟨by omega, q, ?_⟩
  rw [← List.drop_drop, h2, List.append_assoc, List.drop_left]
theorem From.num {l : List Int} {p : Nat} {n : Int} {k : Nat} (h : From l p (highL n k)) (hn : 0 ≤ n ∧ n < 256 ^ k) : numAt l p k = some n := by
  obtain ⟨h1, q, h2⟩ := h
  have hl : (l.drop p).length = k + q.length := by rw [h2, List.length_append, highL_len]
  rw [List.length_drop] at hl
  unfold numAt
  rw [if_pos (by omega), h2, List.take_left' (highL_len n k), num_highL, Int.emod_eq_of_lt hn.1 hn.2]
theorem From.nx8 {l : List Int} {p : Nat} {n : Int} (h : From l p (highL n 8)) (hn : 0 ≤ n ∧ n < 18446744073709551616) : nx8 l p = p + 8 := by
  unfold Go.Proofs.Ytdjpcinibgbglaa.nx8
  rw [h.num ⟨hn.1, by have : (256 : Int) ^ 8 = 18446744073709551616 := by decide
                      omega⟩]
  rfl
theorem From.nx4 {l : List Int} {p : Nat} {n : Int} (h : From l p (highL n 4)) (hn : 0 ≤ n ∧ n < 4294967296) : nx4 l p = p + 4 := by
  unfold Go.Proofs.Ytdjpcinibgbglaa.nx4
  rw [h.num ⟨hn.1, by have : (256 : Int) ^ 4 = 4294967296 := by decide
                      omega⟩]
  rfl
theorem From.num' {l : List Int} {p : Nat} {n : Int} {k : Nat} (h : From l p (highL n k)) (hn : 0 ≤ n ∧ n < 256 ^ k) : p + k ≤ l.length ∧ Go.Proofs.Ytdjpcinibgbglaa.num ((l.drop p).take k) = n := by
  have h1 := h.num hn
  unfold numAt at h1
  split at h1
  · rename_i h2
    injection h1 with h1
    exact ⟨h2, h1⟩
  · cases h1
theorem rdPnt_from {l : List Int} {p : Nat} {q : Pt} (h : From l p (ptB q)) (ht : sec q.t = true) (hv : I128 q.v) : p + 24 ≤ l.length ∧ rdPnt l p = ⟨q.t, wh q.v, wl q.v⟩ := by
  have e8 : (256 : Int) ^ 8 = 18446744073709551616 := by decide
  have htb : 0 ≤ q.t ∧ q.t ≤ 1099511627775 := by simpa [sec] using ht
  have hwh := wh_i hv
  have hwl := wl_u q.v
  unfold I64 at hwh
  unfold U64 at hwl
  unfold ptB at h
  have h1 := h.left.left.num' (by rw [e8]; omega)
  have h2 := h.left.right.num' (by unfold uw; rw [e8]; omega)
  have h3 := h.right.num' (by rw [e8]; omega)
  rw [highL_len] at h2
  rw [List.length_append, highL_len, highL_len] at h3
  refine ⟨by omega, ?_⟩
  unfold rdPnt
  rw [h1.2, h2.2, show p + 16 = p + (8 + 8) by omega, h3.2]
  have e1 : sI q.t = q.t := by unfold sI; rw [if_pos (by omega)]
  have e2 : sI (uw (wh q.v)) = wh q.v := by unfold sI uw; split <;> omega
  rw [e1, e2]
theorem pointP_from {l : List Int} {p : Nat} {q : Pt} {b : Band} {last : Int} (h : From l p (ptB q)) (ht : sec q.t = true) (hv : I128 q.v) (h1 : q.t % b.step = 0) (h2 : last < q.t) (h3 : b.pl[b.place q.t]? = some none) (h4 : fitV q.v b.step = true) : pointP b l p last = some q := by
  obtain ⟨h5, h6⟩ := rdPnt_from h ht hv
  have hz : PntV.v ⟨q.t, wh q.v, wl q.v⟩ = q.v := whl q.v
  unfold pointP
  rw [h6, hz, if_pos ⟨h5, ht, h1, h2, h3, h4⟩]
theorem ptB_len (q : Pt) : (ptB q).length = 24 := by unfold ptB; simp [List.length_append, highL_len]
theorem rdPts_from (l : List Int) : ∀ (ps : List Pt) (p : Nat) (last : Int) (b : Band), From l p (ps.flatMap ptB) → (∀ q ∈ ps, sec q.t = true ∧ q.t % b.step = 0 ∧ fitV q.v b.step = true ∧ I128 q.v ∧ last < q.t ∧ b.pl[b.place q.t]? = some none) →
    ps.Pairwise (fun a c => a.t < c.t ∧ b.place a.t ≠ b.place c.t) → rdPts l ps.length p last b = .ok (ps.foldl (fun b q => b.put q.t q.v) b, p + 24 * ps.length) := by
  intro ps
  induction ps with
  | nil => intro p last b _ _ _; rfl
  | cons q ps ih =>
    intro p last b hf hq hp
    rw [List.flatMap_cons] at hf
    obtain ⟨a1, a2, a3, a4, a5, a6⟩ := hq q (by simp)
    have hP := pointP_from hf.left a1 a4 a2 a5 a6 a3
    rw [List.pairwise_cons] at hp
    have hr := hf.right
    rw [ptB_len] at hr
    rw [List.length_cons, rdPts_succ, hP]
    show rdPts l ps.length (p + 24) q.t (b.put q.t q.v) = _
    rw [ih (p + 24) q.t (b.put q.t q.v) hr ?_ ?_]
    · rw [List.foldl_cons]
      have : p + 24 + 24 * ps.length = p + 24 * (ps.length + 1) := by omega
      rw [this]
    · intro c hc
      obtain ⟨c1, c2, c3, c4, c5, c6⟩ := hq c (by simp [hc])
      have h7 := hp.1 c hc
      refine ⟨c1, c2, c3, c4, h7.1, ?_⟩
      rw [Band.put_place]
      unfold Band.put
      rw [List.getElem?_set_ne h7.2]
      exact c6
    · exact hp.2.imp (fun {a c} h => ⟨h.1, by rw [Band.put_place, Band.put_place]; exact h.2⟩)
def putAll (ps : List Pt) (b : Band) : Band := ps.foldl (fun b q => b.put q.t q.v) b
theorem putAll_step : ∀ (ps : List Pt) (b : Band), (putAll ps b).step = b.step ∧ (putAll ps b).n = b.n ∧ ∀ t, (putAll ps b).place t = b.place t := by
  intro ps
  induction ps with
  | nil => intro b; exact ⟨rfl, rfl, fun _ => rfl⟩
  | cons q ps ih =>
    intro b
    obtain ⟨h1, h2, h3⟩ := ih (b.put q.t q.v)
    exact ⟨h1, h2.trans (Band.put_n _ _ _), fun t => (h3 t).trans (Band.put_place _ _ _ _)⟩
theorem putAll_off : ∀ (ps : List Pt) (b : Band) (k : Nat), (∀ q ∈ ps, b.place q.t ≠ k) → (putAll ps b).pl[k]? = b.pl[k]? := by
  intro ps
  induction ps with
  | nil => intro b k _; rfl
  | cons q ps ih =>
    intro b k h
    show (putAll ps (b.put q.t q.v)).pl[k]? = _
    rw [ih (b.put q.t q.v) k (fun c hc => by rw [Band.put_place]; exact h c (by simp [hc]))]
    unfold Band.put
    rw [List.getElem?_set_ne (h q (by simp))]
theorem putAll_on : ∀ (ps : List Pt) (b : Band), ps.Pairwise (fun a c => b.place a.t ≠ b.place c.t) → (∀ q ∈ ps, q.t % b.step = 0 ∧ b.place q.t < b.pl.length) → ∀ q ∈ ps, (putAll ps b).pl[b.place q.t]? = some (some q) := by
  intro ps
  induction ps with
  | nil => intro b _ _ q hq; cases hq
  | cons c ps ih =>
    intro b hp hq q hm
    rw [List.pairwise_cons] at hp
    show (putAll ps (b.put c.t c.v)).pl[b.place q.t]? = _
    rcases List.mem_cons.1 hm with rfl | hm
    · rw [putAll_off ps _ _ (fun x hx => by rw [Band.put_place]; exact (hp.1 x hx).symm)]
      obtain ⟨h1, h2⟩ := hq q (by simp)
      unfold Band.put
      rw [List.getElem?_set_self h2, h1, Int.sub_zero]
    · have h := ih (b.put c.t c.v) (hp.2.imp (fun {x y} h => by rw [Band.put_place, Band.put_place]; exact h)) (fun x hx => by
        obtain ⟨h1, h2⟩ := hq x (by simp [hx])
        exact ⟨h1, by rw [Band.put_place]; unfold Band.put; rw [List.length_set]; exact h2⟩) q hm
      rw [Band.put_place] at h
      exact h
theorem mem_pts {b : Band} {q : Pt} : q ∈ b.pts ↔ ∃ k : Nat, b.pl[k]? = some (some q) := by
  unfold Band.pts
  rw [List.mem_mergeSort]
  simp only [List.mem_filterMap, id, exists_eq_right]
  rw [List.mem_iff_getElem?]
theorem putAll_pts {b : Band} (h : b.ok) (hp : b.pts.Pairwise (fun a c => b.place a.t ≠ b.place c.t)) : putAll b.pts (newB b.spc) = b := by
  have hb := h.b
  have hn : newB b.spc = ⟨b.step, List.replicate b.n none⟩ := by unfold newB Band.spc; simp
  have hpl : ∀ t, (newB b.spc).place t = b.place t := by
    intro t
    rw [hn]
    unfold Band.place Band.n
    simp
  obtain ⟨h1, h2, h3⟩ := putAll_step b.pts (newB b.spc)
  have hst : (putAll b.pts (newB b.spc)).step = b.step := by rw [h1, hn]
  have hplq : (putAll b.pts (newB b.spc)).pl = b.pl := by
    apply List.ext_getElem?
    intro k
    by_cases hk : ∃ q, b.pl[k]? = some (some q)
    · obtain ⟨q, hq⟩ := hk
      have hm := mem_pts.2 ⟨k, hq⟩
      have h5 := h.pts k q hq
      have h6 := putAll_on b.pts (newB b.spc) (hp.imp (fun {x y} h => by rw [hpl, hpl]; exact h)) (fun x hx => by
        obtain ⟨j, hj⟩ := mem_pts.1 hx
        have h7 := h.pts j x hj
        have h8 := (List.getElem?_eq_some_iff.1 hj).1
        refine ⟨by rw [hn]; exact h7.2.2.1, ?_⟩
        rw [hpl, h7.2.2.2.1, hn]
        simpa [Band.n] using h8) q hm
      rw [hpl, h5.2.2.2.1] at h6
      rw [h6, hq]
    · rw [putAll_off b.pts (newB b.spc) k (fun q hq e => by
        obtain ⟨j, hj⟩ := mem_pts.1 hq
        have h7 := h.pts j q hj
        rw [hpl, h7.2.2.2.1] at e
        subst e
        exact hk ⟨q, hj⟩), hn]
      by_cases hkl : k < b.pl.length
      · obtain ⟨x, hx⟩ : ∃ x, b.pl[k]? = some x := ⟨_, List.getElem?_eq_getElem hkl⟩
        cases x with
        | some q => exact absurd ⟨q, hx⟩ hk
        | none =>
          rw [hx]
          simp [Band.n, hkl]
      · rw [List.getElem?_eq_none (by simp [Band.n]; omega), List.getElem?_eq_none (by omega)]
  cases hpa : putAll b.pts (newB b.spc) with
  | mk st pl =>
    rw [hpa] at hst hplq
    simp only at hst hplq
    subst hst hplq
    rfl
theorem specB_len (b : Band) : (specB b).length = 12 := by unfold specB; simp [List.length_append, highL_len]
theorem rdSpecs_from (l : List Int) : ∀ (bs : List Band) (p i : Nat) (acc : List Spc), From l p (bs.flatMap specB) → (∀ b ∈ bs, b.ok) → (chk i acc.getLast? (bs.map Band.spc)).2 = 0 → rdSpecs l bs.length p acc = .ok (acc ++ bs.map Band.spc, p + 12 * bs.length) := by
  intro bs
  induction bs with
  | nil => intro p i acc _ _ _; simp [rdSpecs]
  | cons b bs ih =>
    intro p i acc hf hok hc
    rw [List.flatMap_cons] at hf
    have hb := (hok b (by simp)).b
    have e4 : (256 : Int) ^ 4 = 4294967296 := by decide
    have e8 : (256 : Int) ^ 8 = 18446744073709551616 := by decide
    have hs := hf.left
    unfold specB at hs
    have h1 := hs.left.num (by rw [e8]; omega)
    have h2 := hs.left.nx8 (by omega)
    have hr := hs.right
    rw [highL_len] at hr
    have h3 := hr.num (by rw [e4]; omega)
    have h4 := hr.nx4 (by omega)
    have hsp : rdSpc l p = b.spc := by
      unfold rdSpc Band.spc
      rw [h1, h2, h3]
      simp only [Option.getD_some]
      have : sI b.step = b.step := by unfold sI; rw [if_pos (by omega)]
      rw [this]
    rw [List.map_cons] at hc
    have hcs := chk_step hc
    have hrr := hf.right
    rw [specB_len] at hrr
    rw [List.length_cons, rdSpecs_succ, h2, h3, hsp, if_pos ⟨rfl, hcs.1⟩, h4, ih (p + 8 + 4) (i + 1) (acc ++ [b.spc]) (by rw [show p + 8 + 4 = p + 12 by omega]; exact hrr) (fun c hc => hok c (by simp [hc])) (by rw [List.getLast?_append]; simpa using hcs.2)]
    rw [List.append_assoc, List.map_cons]
    have : p + 8 + 4 + 12 * bs.length = p + 12 * (bs.length + 1) := by omega
    rw [this]
    rfl
theorem ptsOk_pts {b : Band} (h : b.ok) : PtsOk b b.pts := ptsOk h (List.mergeSort_perm _ _) (by
  have := List.pairwise_mergeSort (le := fun p q : Pt => decide (p.t ≤ q.t)) (fun a b c h1 h2 => by simp at *; omega) (fun a b => by simp; omega) (b.pl.filterMap id)
  exact this.imp (fun h => by simpa using h))
theorem newB_eq (b : Band) : newB b.spc = ⟨b.step, List.replicate b.n none⟩ := by unfold newB Band.spc; simp
theorem newB_place (b : Band) (t : Int) : (newB b.spc).place t = b.place t := by rw [newB_eq]; unfold Band.place Band.n; simp
theorem rdBand_from {l : List Int} {p : Nat} {b : Band} (h : b.ok) (hf : From l p (bandB b)) : rdBand l p (newB b.spc) = .ok (b, p + (bandB b).length) := by
  have hp := ptsOk_pts h
  have hb := h.b
  have e4 : (256 : Int) ^ 4 = 4294967296 := by decide
  have hl := hp.len
  unfold bandB at hf
  have h1 := hf.left.num (by rw [e4]; omega)
  have h2 := hf.right
  rw [highL_len] at h2
  have hn : (newB b.spc).n = b.n := by rw [newB_eq]; simp [Band.n]
  have hs : (newB b.spc).step = b.step := by rw [newB_eq]
  have hlen : (bandB b).length = 4 + 24 * b.pts.length := by
    unfold bandB
    rw [List.length_append, highL_len]
    congr 1
    induction b.pts with
    | nil => rfl
    | cons q ps ih => rw [List.flatMap_cons, List.length_append, ptB_len, ih, List.length_cons]; omega
  unfold rdBand
  rw [h1]
  simp only
  rw [hn, if_neg (by omega), Int.toNat_natCast, rdPts_from l b.pts (p + 4) (-1) (newB b.spc) h2 ?_ ?_]
  · have := putAll_pts h hp.apart
    unfold putAll at this
    rw [this, hlen]
    rw [Nat.add_assoc]
  · intro q hq
    obtain ⟨k, hk⟩ := mem_pts.1 hq
    have h5 := h.pts k q hk
    have hkl := (List.getElem?_eq_some_iff.1 hk).1
    refine ⟨by simp [sec]; omega, by rw [hs]; exact h5.2.2.1, by rw [hs]; simp [fitV]; exact h5.2.2.2.2, h.big hk, by omega, ?_⟩
    rw [newB_place, h5.2.2.2.1, newB_eq]
    simp [Band.n, hkl]
  · exact hp.rise.and hp.apart |>.imp (fun {x y} h => ⟨h.1, by rw [newB_place, newB_place]; exact h.2⟩)
theorem rdBands_from (l : List Int) : ∀ (bs : List Band) (p : Nat), (∀ b ∈ bs, b.ok) → From l p (bs.flatMap bandB) → rdBands l (bs.map fun b => newB b.spc) p = .ok (bs, p + (bs.flatMap bandB).length) := by
  intro bs
  induction bs with
  | nil => intro p _ _; rfl
  | cons b bs ih =>
    intro p hok hf
    rw [List.flatMap_cons] at hf
    rw [List.map_cons, rdBands_cons, rdBand_from (hok b (by simp)) hf.left]
    show resT [b] (rdBands l (bs.map fun b => newB b.spc) (p + (bandB b).length)) = _
    rw [ih _ (fun c hc => hok c (by simp [hc])) hf.right, List.flatMap_cons, List.length_append, Nat.add_assoc]
    rfl
theorem chk_bands : ∀ (bs : List Band) (i : Nat) (pr : Option Spc), (∀ b ∈ bs, b.ok) → (∀ (k : Nat) (a b : Band), bs[k]? = some a → bs[k + 1]? = some b → okPair a.spc b.spc = true) → (∀ a, pr = some a → ∀ b, bs[0]? = some b → okPair a b.spc = true) → i + bs.length ≤ 8 → (chk i pr (bs.map Band.spc)).2 = 0 := by
  intro bs
  induction bs with
  | nil => intro i pr _ _ _ _; rfl
  | cons b bs ih =>
    intro i pr hok hp h0 h8
    simp only [List.length_cons] at h8
    have hf : fitsS b.spc pr = true := by
      have h1 := (hok b (by simp)).spc
      cases pr with
      | none => exact h1
      | some a => simp only [fitsS, Bool.and_eq_true]; exact ⟨h1, h0 a rfl b rfl⟩
    rw [List.map_cons, chk, if_neg (by simp [hf]; omega)]
    refine ih (i + 1) (some b.spc) (fun c hc => hok c (by simp [hc])) (fun k a c ha hc => hp (k + 1) a c (by simpa using ha) (by simpa using hc)) ?_ (by omega)
    intro a ha c hc
    injection ha with ha
    subst ha
    exact hp 0 b c rfl (by simpa using hc)
theorem openP_bytes {f : Fl} (h : f.ok) : openP f.bytes = .ok f := by
  have hm := h.m
  have hx := h.x
  have hle := h.le
  have hne : 1 ≤ f.bands.length := by
    cases hb : f.bands with
    | nil => exact absurd hb h.ne
    | cons a b => simp
  have e4 : (256 : Int) ^ 4 = 4294967296 := by decide
  have hfb := fnv_bd f.body
  obtain ⟨B, hB⟩ : ∃ B, B = f.body := ⟨_, rfl⟩
  have hBe : B = 82 :: 82 :: 65 :: 49 :: f.m :: (f.bands.length : Int) :: (highL f.xff 4 ++ f.bands.flatMap specB ++ f.bands.flatMap bandB) := by rw [hB]; simp [Fl.body]
  have hBl : B.length = 10 + (f.bands.flatMap specB).length + (f.bands.flatMap bandB).length := by
    rw [hBe]
    simp only [List.length_cons, List.length_append, highL_len]
    omega
  have hby : f.bytes = B ++ highL (fnv B) 4 := by unfold Fl.bytes; rw [← hB]
  have hl : f.bytes.length = B.length + 4 := by rw [hby, List.length_append, highL_len]
  rw [← hB] at hfb
  have hsl : (f.bands.flatMap specB).length = 12 * f.bands.length := by
    induction f.bands with
    | nil => rfl
    | cons b bs ih => rw [List.flatMap_cons, List.length_append, specB_len, ih, List.length_cons]; omega
  have n4 : numAt B 4 1 = some f.m := by
    unfold numAt
    rw [if_pos (by omega), hBe]
    simp [num]
  have n5 : numAt B 5 1 = some (f.bands.length : Int) := by
    unfold numAt
    rw [if_pos (by omega), hBe]
    simp [num]
  have hf6 : From B 6 (highL f.xff 4 ++ f.bands.flatMap specB ++ f.bands.flatMap bandB) := ⟨by omega, [], by rw [hBe]; simp⟩
  have n6 := hf6.left.left.num (by rw [e4]; omega)
  have hf10 := hf6.left.right
  rw [highL_len] at hf10
  have hfb2 := hf6.right
  rw [List.length_append, highL_len, hsl] at hfb2
  have hrs := rdSpecs_from B f.bands (6 + 4) 0 [] hf10 h.bands (chk_bands f.bands 0 none h.bands h.pairs (fun a ha => by cases ha) (by omega))
  have hrb := rdBands_from B f.bands (6 + (4 + 12 * f.bands.length)) h.bands hfb2
  have hhead : headP B = .ok (f.bands.map Band.spc, f.m, f.xff, 10 + 12 * f.bands.length) := by
    unfold headP headQ
    rw [n4, n5, n6]
    simp only [Option.getD_some]
    rw [if_neg (by omega), if_neg (by omega), if_neg (by omega), Int.toNat_natCast, hrs]
    rfl
  unfold openP
  rw [hl, if_neg (by omega), if_neg ?_, Nat.add_sub_cancel, if_neg ?_]
  · rw [hby, List.take_left, hhead]
    show opnT B f.m f.xff (rdBands B ((f.bands.map Band.spc).map newB) (10 + 12 * f.bands.length)) = _
    rw [List.map_map, show (newB ∘ Band.spc) = (fun b : Band => newB b.spc) from rfl, show 10 + 12 * f.bands.length = 6 + (4 + 12 * f.bands.length) by omega, hrb]
    show (if _ < B.length then _ else _) = _
    rw [if_neg (by omega)]
  · rw [hby, List.drop_left, List.take_left, num_highL, e4, Int.emod_eq_of_lt (by omega) (by omega)]
    simp
  · rw [hby, hBe]
    simp [titleL]
end Go.Proofs.Ytdjpcinibgbglaa
