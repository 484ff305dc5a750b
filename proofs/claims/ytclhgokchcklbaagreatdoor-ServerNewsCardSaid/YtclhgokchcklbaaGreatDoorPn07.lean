/- Texts of this proof, packed: SortIns, RowG, Keys, LeaRow, LeaSpec, Far, LeaFind, LeaLess, LeaSort, AppG, LeaOf. -/
import Derived.Test.YtclhgokchcklbaaGreatDoorPn06
import Derived.Test.YtclhgokchcklbaaGreatDoorPn02
import Derived.Test.YtclhgokchcklbaaGreatDoorPn00
import Derived.Deep.RegionHeld3
import Derived.Handy
import Derived.ChangeKeysEq
import Derived.Lib.BytesEntry
import Derived.Lib.Bytealg
import Derived.Test.YtclhgokchcklbaaGreatDoorPnS
section
namespace Go.Proofs.YtclhgokchcklbaaGreatDoor
open Go Go.RowKit Go.Mem Gf
attribute [local go_sem ↓] Go.wp_at_zero Go.wp_at_succ
structure Sorter {α : Type} (St : World → List α → Prop) (N : Nat → Prop) (lt : α → α → Bool) (g sf : Nat) (lb sb : Array Value) : Prop where
  new : ∀ W l, St W l → ∀ k, N k → k < W.heap.size
  alloc : ∀ W l o, St W l → St (W.alloc o) l
  less : ∀ W l (i j : Nat) x y, j < i → St W l → l[i]? = some x → l[j]? = some y → Calls Tryz.prog g (#[.int .i64 i, .int .i64 j] ++ lb) W fun e W' => e = .returned (.bool (lt x y)) ∧ St W' l ∧ Chg N W W'
  swap : ∀ W l (i j : Nat) x y, j < i → St W l → l[i]? = some x → l[j]? = some y → ∃ W', (callFunc sf (#[.int .i64 i, .int .i64 j] ++ sb)).run Tryz.prog W = .ok (.value (.tuple #[])) W' ∧ St W' (Srt.swap l i j) ∧ Chg N W W'
  enters : ∀ args w, (callFunc g args).run Tryz.prog w = .ok (.enter g args) w
  ord : Srt.Ord lt
theorem chg_box {N : Nat → Prop} {w wr : World} {o : Obj} (h : Chg N (w.alloc o) wr) : Chg N w wr := (Chg.of_below ((Below.refl _ _).alloc (Nat.le_refl _) o)).trans h
set_option maxHeartbeats 2000000 in
set_option maxRecDepth 100000 in
theorem ins_calls {α : Type} {St : World → List α → Prop} {N : Nat → Prop} {lt : α → α → Bool} {g sf : Nat} {lb sb : Array Value} (S : Sorter St N lt g sf lb sb) (l : List α) (n : Nat) (hn : l.length = n) (hl : n ≤ 1000) (w : World) (h : St w l) :
    Calls Tryz.prog 211 #[.agg #[.func (.func g) #[] lb, .func (.func sf) #[] sb], .int .i64 0, .int .i64 n] w fun e w' => e = .returned (.tuple #[]) ∧ ∃ l', St w' l' ∧ l'.Perm l ∧ Srt.Upto lt l' n ∧ Chg N w w' := by
  have eg := S.enters
  have SS := Lib.hid S
  have H0 : Hid (St (w.alloc (.cells #[.func (.func g) #[] lb, .func (.func sf) #[] sb] 228)) l) := S.alloc _ _ _ h
  have HN : Hid (¬ N w.heap.size) := fun e => Nat.lt_irrefl _ (S.new _ _ h _ e)
  have HB := Lib.hid (Blk.new w #[.func (.func g) #[] lb, .func (.func sf) #[] sb] 228)
  obtain ⟨bx, hbx⟩ : ∃ b, b = w.heap.size := ⟨_, rfl⟩
  obtain ⟨w0, hw0⟩ : ∃ x, x = w.alloc (.cells #[.func (.func g) #[] lb, .func (.func sf) #[] sb] 228) := ⟨_, rfl⟩
  have HW0 := Lib.hid hw0; have HBX := Lib.hid hbx
  rw [← hw0] at H0
  rw [← hbx] at HN
  rw [← hbx, ← hw0] at HB
  have HL := Lib.hid hn
  clear hw0 hbx h S hn
  go_enter Tryz.func211, Tryz.ntmps211
  go_upto_region 1 with fail
  rw [← HW0.out, ← HBX.out]
  go_wp2_with fail
  go_loopw [6] (fun vi wr => ∃ (i : Nat) (m : List α), 0 < i ∧ i ≤ n + 1 ∧ vi = .int .i64 i ∧ Hid (m.length = n ∧ St wr m ∧ m.Perm l ∧ Srt.Upto lt m (min i n) ∧ Chg N w0 wr)) (fun vi _ => n + 1 - (intOf vi).toNat)
  case atStart => exact ⟨1, l, by omega, by omega, rfl, HL.out, H0.out, List.Perm.refl _, fun p q _ _ h1 h2 => by omega, Chg.refl _ _⟩
  case round =>
    obtain ⟨i, m, hi0, hi1, rfl, H⟩ := hrel
    by_cases hin : i < n
    · go_wp2_with fail
      go_loopw [7] (fun vj wj => ∃ (j : Nat) (q : List α), j ≤ i ∧ vj = .int .i64 j ∧ Hid (q.length = n ∧ St wj q ∧ q.Perm l ∧ Srt.Ins lt q j i ∧ Chg N w0 wj)) (fun vj _ => (intOf vj).toNat)
      case atStart => exact ⟨i, m, Nat.le_refl _, rfl, H.out.1, H.out.2.1, H.out.2.2.1, Srt.ins_start (by have := H.out.2.2.2.1; rw [Nat.min_eq_left (by omega)] at this; exact this), H.out.2.2.2.2⟩
      case round =>
        obtain ⟨j, q, hji, rfl, G⟩ := hrel
        have HBJ := Lib.hid (G.out.2.2.2.2.blk HB.out HN.out)
        have c0 : wr.cell? ⟨bx, 0, none⟩ = some (.func (.func g) #[] lb) := HBJ.out.cell 0
        by_cases hj0 : 0 < j
        · have hx : q[j]? = some (q[j]'(by have := G.out.1; omega)) := by simp
          have hy : q[j - 1]? = some (q[j - 1]'(by have := G.out.1; omega)) := by simp
          generalize q[j]'(by have := G.out.1; omega) = x at hx
          generalize q[j - 1]'(by have := G.out.1; omega) = y at hy
          have hless := SS.out.less wr q j (j - 1) x y (by omega) G.out.2.1 hx hy
          rw [show (((j - 1 : Nat) : Int)) = (j : Int) - 1 by omega] at hless
          have HXY := Lib.hid (And.intro hx hy)
          have HLESS := Lib.hid hless
          clear hx hy hless
          go_wp2_with fail
          refine (HLESS.out).mono ?_
          rintro e w1 ⟨rfl, hS1, hC1⟩
          have HS1 := Lib.hid hS1; have HC1 := Lib.hid (G.out.2.2.2.2.trans hC1)
          have HB1 := Lib.hid (hC1.blk HBJ.out HN.out)
          have c1 : w1.cell? ⟨bx, 1, none⟩ = some (.func (.func sf) #[] sb) := HB1.out.cell 1
          clear hS1 hC1
          cases hlt : lt x y with
          | true =>
            obtain ⟨w2, hsw, hS2, hC2⟩ := SS.out.swap w1 q j (j - 1) x y (by omega) HS1.out HXY.out.1 HXY.out.2
            rw [show (((j - 1 : Nat) : Int)) = (j : Int) - 1 by omega] at hsw
            have HF : Hid ((Srt.swap q j (j - 1)).length = n ∧ St w2 (Srt.swap q j (j - 1)) ∧ (Srt.swap q j (j - 1)).Perm l ∧ Srt.Ins lt (Srt.swap q j (j - 1)) (j - 1) i ∧ Chg N w0 w2) :=
              ⟨by rw [Srt.swap_len HXY.out.1 HXY.out.2]; exact G.out.1, hS2, (Srt.swap_perm HXY.out.1 HXY.out.2).trans G.out.2.2.1, Srt.ins_step SS.out.ord G.out.2.2.2.1 hj0 hji HXY.out.1 HXY.out.2 hlt, HC1.out.trans hC2⟩
            have HSW := Lib.hid hsw
            clear hS2 hC2 hsw
            go_wp2_with fail
            rw [HSW.out, Oper.upon_value]
            go_wp2_with fail
            exact ⟨⟨j - 1, _, by omega, by congr 1; omega, HF.out⟩, by simp [intOf]; omega⟩
          | false =>
            have HF := Lib.hid (Srt.ins_stop SS.out.ord G.out.2.2.2.1 hji (.inr ⟨x, y, HXY.out.1, HXY.out.2, hlt⟩))
            go_wp2_with fail
            exact ⟨⟨i + 1, q, by omega, by omega, by go_num, G.out.1, HS1.out, G.out.2.2.1, by rw [Nat.min_eq_left (by omega)]; exact HF.out, HC1.out⟩, by simp [intOf]; omega⟩
        · have HF := Lib.hid (Srt.ins_stop SS.out.ord G.out.2.2.2.1 hji (.inl (by omega)))
          go_wp2_with fail
          exact ⟨⟨i + 1, q, by omega, by omega, by go_num, G.out.1, G.out.2.1, G.out.2.2.1, by rw [Nat.min_eq_left (by omega)]; exact HF.out, G.out.2.2.2.2⟩, by simp [intOf]; omega⟩
    · go_wp2_with fail
      go_end0
      refine ⟨rfl, m, H.out.2.1, H.out.2.2.1, ?_, ?_⟩
      · have := H.out.2.2.2.1
        rw [Nat.min_eq_right (by omega)] at this
        exact this
      · have := H.out.2.2.2.2
        rw [HW0.out] at this
        exact chg_box this
set_option maxHeartbeats 2000000 in
set_option maxRecDepth 100000 in
theorem pdq_calls {α : Type} {St : World → List α → Prop} {N : Nat → Prop} {lt : α → α → Bool} {g sf : Nat} {lb sb : Array Value} (S : Sorter St N lt g sf lb sb) (l : List α) (n : Nat) (lim : Int) (hn : l.length = n) (hl : n ≤ 12) (w : World) (h : St w l) :
    Calls Tryz.prog 181 #[.agg #[.func (.func g) #[] lb, .func (.func sf) #[] sb], .int .i64 0, .int .i64 n, .int .i64 lim] w fun e w' => e = .returned (.tuple #[]) ∧ ∃ l', St w' l' ∧ l'.Perm l ∧ Srt.Upto lt l' n ∧ Chg N w w' := by
  have H0 : Hid (St (w.alloc (.cells #[.func (.func g) #[] lb, .func (.func sf) #[] sb] 228)) l) := S.alloc _ _ _ h
  have SS := Lib.hid S
  have HB := Lib.hid (Blk.new w #[.func (.func g) #[] lb, .func (.func sf) #[] sb] 228)
  obtain ⟨bx, hbx⟩ : ∃ b, b = w.heap.size := ⟨_, rfl⟩
  obtain ⟨w0, hw0⟩ : ∃ x, x = w.alloc (.cells #[.func (.func g) #[] lb, .func (.func sf) #[] sb] 228) := ⟨_, rfl⟩
  have HW0 := Lib.hid hw0; have HBX := Lib.hid hbx
  rw [← hw0] at H0
  rw [← hbx, ← hw0] at HB
  have HL := Lib.hid hn
  have c0 : w0.cell? ⟨bx, 0, none⟩ = some (.func (.func g) #[] lb) := HB.out.cell 0
  have c1 : w0.cell? ⟨bx, 1, none⟩ = some (.func (.func sf) #[] sb) := HB.out.cell 1
  clear hw0 hbx h S hn
  go_enter Tryz.func181, Tryz.ntmps181
  go_upto_region 1 with fail
  rw [← HW0.out, ← HBX.out]
  go_wp2_with fail
  go_loopw [1, 2] (fun a b wr => wr = w0 ∧ a = .int .i64 0 ∧ b = .int .i64 n) (fun _ _ _ => 0)
  case atStart => exact ⟨rfl, rfl, rfl⟩
  case round =>
    obtain ⟨rfl, rfl, rfl⟩ := hrel
    go_wp2_with fail
    refine (ins_calls SS.out l n HL.out (by omega) _ H0.out).mono ?_
    rintro e w1 ⟨rfl, l', h1, h2, h3, h4⟩
    go_wp2_with fail
    go_returns
    rw [HW0.out] at h4
    exact ⟨rfl, l', h1, h2, h3, chg_box h4⟩
end Go.Proofs.YtclhgokchcklbaaGreatDoor
end
section
namespace Go.Mem
open Go Go.RowKit Gf
structure EncK {α : Type} (enc : α → List Value) (Wf : α → Prop) (k : Nat) : Prop where
  len : ∀ x, Wf x → (enc x).length = k
  one : ∀ x v, v ∈ enc x → v.oneCell' = true
  pos : 0 < k
def allV {α : Type} (enc : α → List Value) (l : List α) : List Value := l.flatMap enc
section
variable {α : Type} {enc : α → List Value} {Wf : α → Prop} {k : Nat}
theorem allV_len (E : EncK enc Wf k) : ∀ (l : List α), (∀ x ∈ l, Wf x) → (allV enc l).length = l.length * k
  | [], _ => by simp [allV]
  | x :: l, h => by
    have := allV_len E l (fun y hy => h y (by simp [hy]))
    unfold allV at this ⊢
    rw [List.flatMap_cons, List.length_append, E.len x (h x (by simp)), this, List.length_cons, Nat.add_mul]; omega
theorem allV_get (E : EncK enc Wf k) : ∀ (l : List α), (∀ x ∈ l, Wf x) → ∀ (i : Nat) (x : α), l[i]? = some x → ∀ c, c < k → (allV enc l)[i * k + c]? = (enc x)[c]?
  | y :: l, h, 0, x, hx, c, hc => by
    simp at hx
    subst hx
    unfold allV
    rw [List.flatMap_cons, Nat.zero_mul, Nat.zero_add, List.getElem?_append_left (by rw [E.len y (h y (by simp))]; exact hc)]
  | y :: l, h, i + 1, x, hx, c, hc => by
    have ih := allV_get E l (fun z hz => h z (by simp [hz])) i x (by simpa using hx) c hc
    have hl := E.len y (h y (by simp))
    unfold allV at ih ⊢
    have e : (i + 1) * k + c = k + (i * k + c) := by rw [Nat.add_mul]; omega
    rw [List.flatMap_cons, List.getElem?_append_right (by rw [hl]; omega), hl, e, Nat.add_sub_cancel_left]
    exact ih
theorem allV_app (l m : List α) : allV enc (l ++ m) = allV enc l ++ allV enc m := by unfold allV; rw [List.flatMap_append]
theorem allV_one (x : α) : allV enc [x] = enc x := by simp [allV]
theorem wfG_set {l : List α} (h : ∀ x ∈ l, Wf x) {i : Nat} {y : α} (hy : Wf y) : ∀ x ∈ l.set i y, Wf x := fun x hx => by
  rcases List.mem_or_eq_of_mem_set hx with h' | rfl
  · exact h x h'
  · exact hy
theorem at_div {i j k : Nat} (hk : 0 < k) : (i * k ≤ j ∧ j < i * k + k) ↔ j / k = i := by
  have e := Nat.div_add_mod' j k
  have hr := Nat.mod_lt j hk
  constructor
  · rintro ⟨h1, h2⟩
    exact Nat.div_eq_of_lt_le h1 (by rw [Nat.add_mul]; omega)
  · intro h
    subst h
    omega
theorem allV_set (E : EncK enc Wf k) (l : List α) (h : ∀ x ∈ l, Wf x) {i : Nat} {y : α} (hy : Wf y) (hi : i < l.length) (j : Nat) (hj : j < l.length * k) :
    (allV enc (l.set i y))[j]? = if i * k ≤ j ∧ j < i * k + k then (enc y)[j - i * k]? else (allV enc l)[j]? := by
  have e := Nat.div_add_mod' j k
  have hr := Nat.mod_lt j E.pos
  have hq : j / k < l.length := Nat.div_lt_of_lt_mul (by rw [Nat.mul_comm]; exact hj)
  have hx : l[j / k]? = some l[j / k] := by simp
  by_cases c : i * k ≤ j ∧ j < i * k + k
  · rw [if_pos c]
    have hji := (at_div E.pos).1 c
    have := allV_get E _ (wfG_set h hy) i y (by rw [List.getElem?_set_self hi]) (j % k) hr
    rw [← hji, e] at this
    rw [← hji, this]
    congr 1
    omega
  · rw [if_neg c]
    have hji : i ≠ j / k := fun h' => c ((at_div E.pos).2 h'.symm)
    have h1 := allV_get E _ (wfG_set h hy) (j / k) _ (by rw [List.getElem?_set_ne hji]; exact hx) (j % k) hr
    have h2 := allV_get E l h (j / k) _ hx (j % k) hr
    rw [e] at h1 h2
    rw [h1, h2]
end
structure OwnG {α : Type} (enc : α → List Value) (Wf : α → Prop) (k : Nat) (ti : TypeId) (w : World) (base : Nat) (v : Value) (l : List α) : Prop where
  own : w.ownsRow base ti k v l.length (allV enc l)
  wf : ∀ x ∈ l, Wf x
structure RowG {α : Type} (enc : α → List Value) (Wf : α → Prop) (k : Nat) (ti : TypeId) (w : World) (base g n cap : Nat) (l : List α) : Prop where
  own : w.ownsRow base ti k (.slice (some ⟨g, 0, none⟩) n cap) n (allV enc l)
  len : n = l.length
  wf : ∀ x ∈ l, Wf x
section
variable {α : Type} {enc : α → List Value} {Wf : α → Prop} {k : Nat} {ti : TypeId} {w : World} {base g n cap : Nat} {l : List α} {v : Value}
theorem OwnG.nil (enc : α → List Value) (Wf : α → Prop) (k : Nat) (ti : TypeId) (w : World) (base : Nat) : OwnG enc Wf k ti w base (.slice none 0 0) ([] : List α) :=
  ⟨World.ownsRow_nil w base ti k, fun _ h => by cases h⟩
theorem OwnG.ex (h : OwnG enc Wf k ti w base v l) (h0 : 0 < l.length) : ∃ g cap, v = .slice (some ⟨g, 0, none⟩) l.length cap ∧ RowG enc Wf k ti w base g l.length cap l := by
  rcases h.own.2 with ⟨_, e⟩ | ⟨g, cap, cur, e, _⟩
  · omega
  · exact ⟨g, cap, e, by rw [← e]; exact h.own, rfl, h.wf⟩
theorem OwnG.slice (h : OwnG enc Wf k ti w base v l) : ∃ p c, v = .slice p l.length c := by
  obtain ⟨a, c, e, _⟩ := own_eq_slice h.own
  exact ⟨a, c, e⟩
theorem OwnG.chg {S : Nat → Prop} {w' : World} (h : OwnG enc Wf k ti w base v l) (hc : Chg S w w') (hs : ∀ g, v.ownBlock = some g → ¬ S g) : OwnG enc Wf k ti w' base v l := ⟨own_chg h.own hc hs, h.wf⟩
theorem OwnG.lower {b : Nat} (h : OwnG enc Wf k ti w base v l) (hb : b ≤ base) : OwnG enc Wf k ti w b v l := by
  refine ⟨⟨h.own.1, ?_⟩, h.wf⟩
  rcases h.own.2 with e | ⟨g, cap, cur, e, h1, h2⟩
  · exact .inl e
  · exact .inr ⟨g, cap, cur, e, by omega, h2⟩
theorem RowG.to (h : RowG enc Wf k ti w base g n cap l) : OwnG enc Wf k ti w base (.slice (some ⟨g, 0, none⟩) n cap) l := ⟨by rw [← h.len]; exact h.own, h.wf⟩
theorem RowG.block (h : RowG enc Wf k ti w base g n cap l) : ∃ cur : Array Value, w.heap[g]? = some (.cells cur ti (0, 0)) ∧ base ≤ g ∧ n ≤ cap ∧ cap ≤ maxLen ∧ cur.size = cap * k ∧ ∀ j, j < n * k → cur[j]? = (allV enc l)[j]? := by
  rcases h.own.2 with ⟨e, _⟩ | ⟨g', cap', cur, e, hb, hh, h1, h2, h3, h4⟩
  · cases e
  · cases e
    refine ⟨cur, hh, hb, h1, h2, h3, fun j hj => ?_⟩
    rw [← h4, List.getElem?_take, if_pos hj, Array.getElem?_toList]
theorem RowG.cell (h : RowG enc Wf k ti w base g n cap l) {j : Nat} (hj : j < n * k) : w.cell? ⟨g, j, none⟩ = (allV enc l)[j]? := by
  obtain ⟨cur, hh, _, _, _, _, hc⟩ := h.block
  rw [← hc j hj]
  have hB : Blk w g cur ti := hh
  exact hB.cell j
theorem some_lt {l : List α} {i : Nat} {x : α} (hx : l[i]? = some x) : i < l.length := by
  rcases Nat.lt_or_ge i l.length with h | h
  · exact h
  · rw [List.getElem?_eq_none h] at hx; cases hx
theorem in_row {i n k c : Nat} (hi : i < n) (hc : c < k) : i * k + c < n * k := by
  have := Nat.mul_le_mul_right k (show i + 1 ≤ n from hi)
  rw [Nat.add_mul, Nat.one_mul] at this
  omega
theorem RowG.range (E : EncK enc Wf k) (h : RowG enc Wf k ti w base g n cap l) {i : Nat} {x : α} (hx : l[i]? = some x) : w.rangeAt g (i * k) (enc x) := fun j v hv => by
  have hi := some_lt hx
  have hj : j < k := by
    have := some_lt hv
    rwa [E.len x (h.wf x (List.mem_of_getElem? hx))] at this
  rw [h.cell (in_row (by rw [h.len]; exact hi) hj), allV_get E l h.wf i x hx j hj]
  exact hv
theorem RowG.there (h : RowG enc Wf k ti w base g n cap l) {i : Nat} (hi : i < n) : w.there g (i * k) k := fun j hj => by
  obtain ⟨cur, hh, _, h1, _, h3, _⟩ := h.block
  have hB : Blk w g cur ti := hh
  have := in_row (k := k) hi hj
  have := Nat.mul_le_mul_right k h1
  exact ⟨by rw [hB.cell]; simp; omega, hB.free _⟩
theorem RowG.read (E : EncK enc Wf k) (h : RowG enc Wf k ti w base g n cap l) {i : Nat} {x : α} (hx : l[i]? = some x) : readK k w g (i * k) = enc x := readK_eq (h.range E hx) (E.len x (h.wf x (List.mem_of_getElem? hx)))
theorem RowG.set (E : EncK enc Wf k) (h : RowG enc Wf k ti w base g n cap l) {i : Nat} (hi : i < n) {y : α} (hy : Wf y) : RowG enc Wf k ti (w.setCells g (i * k) (enc y)) base g n cap (l.set i y) := by
  obtain ⟨cur, hh, hb, h1, h2, h3, h4⟩ := h.block
  have hB : Blk w g cur ti := hh
  obtain ⟨cur', b1, b2, b3⟩ := Blk.setCells (enc y) (i * k) w cur hB
  have hll := h.len
  have hm : n * k ≤ cap * k := Nat.mul_le_mul_right _ h1
  refine ⟨⟨?_, .inr ⟨g, cap, cur', rfl, hb, b1, h1, h2, by rw [b2, h3], ?_⟩⟩, by rw [List.length_set]; exact hll, wfG_set h.wf hy⟩
  · rw [allV_len E _ (wfG_set h.wf hy), List.length_set, hll]
  · apply List.ext_getElem?
    intro j
    have hlen := allV_len E _ (wfG_set h.wf hy (i := i))
    rw [List.length_set, ← hll] at hlen
    rw [List.getElem?_take, Array.getElem?_toList]
    by_cases hj : j < n * k
    · rw [if_pos hj, b3 j (by omega), allV_set E l h.wf hy (by omega) j (by rw [← hll]; exact hj), E.len y hy, h4 j hj]
    · rw [if_neg hj, List.getElem?_eq_none (by omega)]
theorem RowG.chg {S : Nat → Prop} {w' : World} (h : RowG enc Wf k ti w base g n cap l) (hc : Chg S w w') (hs : ¬ S g) : RowG enc Wf k ti w' base g n cap l := ⟨own_chg h.own hc (fun q hq => by cases hq; exact hs), h.len, h.wf⟩
theorem RowG.lt (h : RowG enc Wf k ti w base g n cap l) : g < w.heap.size := by
  obtain ⟨cur, hh, _⟩ := h.block
  exact lt_of_block hh
end
end Go.Mem
end
section
namespace Go.Mem
open Go Go.RowKit Gf
section
variable {w : World} {b : Nat} {arr : Array Value} {t : TypeId}
theorem blk_has {n o : Nat} (h : Blk w b arr t) (hn : o + n ≤ arr.size) : HasK n w b o := fun j hj => by
  exact ⟨by rw [h.cell]; simp; omega, h.free _⟩
theorem blk_read {n o : Nat} (h : Blk w b arr t) {cs : List Value} (hn : cs.length = n) (hc : ∀ k, k < n → arr[o + k]? = cs[k]?) : readK n w b o = cs := by
  refine readK_eq (fun k v hv => ?_) hn
  rw [h.cell, hc k (by rw [← hn]; exact (List.getElem?_eq_some_iff.1 hv).1)]
  exact hv
theorem blk_read0 {n : Nat} {cs : List Value} (h : Blk w b cs.toArray t) (hn : cs.length = n) : readK n w b 0 = cs := blk_read h hn (fun k _ => by rw [Nat.zero_add]; simp)
end
theorem eqItems_bytes {P : Program} (w : World) (d : Nat) {e : TypeId} (he : P.underlying e = some (.int .u8)) (hc : P.cellsOf e = 1) (xs ys : List UInt8) : ∀ is : List Nat, (∀ i ∈ is, i < xs.length ∧ i < ys.length) →
    (Op.eqItems (d + 1) e (P.cellsOf e) (bV xs).toArray (bV ys).toArray is).run P w = .ok (decide (∀ i ∈ is, xs[i]? = ys[i]?)) w
  | [], _ => by simp [Op.eqItems]
  | i :: is, h => by
    obtain ⟨h1, h2⟩ := h i (by simp)
    have hp : P.plainKey e = true := by simp [Program.plainKey, he]
    have hx : xs[i]? = some xs[i] := by simp
    have hy : ys[i]? = some ys[i] := by simp
    generalize xs[i] = a at hx
    generalize ys[i] = b at hy
    have p1 := run_part_plain (P := P) w hp (xs := (bV xs).toArray) (off := i * P.cellsOf e) (v := .int .u8 (a.toNat : Int)) (by rw [hc, Nat.mul_one]; simp [bV, hx])
    have p2 := run_part_plain (P := P) w hp (xs := (bV ys).toArray) (off := i * P.cellsOf e) (v := .int .u8 (b.toNat : Int)) (by rw [hc, Nat.mul_one]; simp [bV, hy])
    have ih := eqItems_bytes w d he hc xs ys is (fun j hj => h j (by simp [hj]))
    simp only [Op.eqItems, Sem.run_bind, p1, p2, run_equalIn_int w d e .u8 .u8 _ _ he, Result.andThen_ok]
    by_cases hab : a = b
    · subst hab
      simp only [beq_self_eq_true, Bool.not_true, Bool.false_eq_true, if_false, ih]
      congr 1
      simp [hx, hy]
    · have hn : ((a.toNat : Int) == (b.toNat : Int)) = false := by
        have : a.toNat ≠ b.toNat := fun e => hab (Gf.ext e)
        simp; omega
      simp only [hn, Bool.not_false, if_true, Sem.run_pure]
      congr 1
      rw [eq_comm, decide_eq_false_iff_not]
      intro hall
      have := hall i (by simp)
      rw [hx, hy] at this
      exact hab (Option.some.inj this)
theorem run_eq_bytes {P : Program} (w : World) (d n : Nat) {t e : TypeId} {i : TypeInfo} (hu : P.underlying t = some (.array n e)) (hi : P.info? e = some i) (he : P.underlying e = some (.int .u8)) (hc : P.cellsOf e = 1) (xs ys : List UInt8) (hx : xs.length = n) (hy : ys.length = n) :
    (Op.equalIn (d + 2) t (.agg (bV xs).toArray) (.agg (bV ys).toArray)).run P w = .ok (decide (xs = ys)) w := by
  rw [show d + 2 = (d + 1) + 1 from rfl, run_equalIn_array w (d + 1) _ _ hu hi, eqItems_bytes w d he hc xs ys (List.range n) (fun i hi => by rw [List.mem_range] at hi; omega)]
  congr 1
  refine decide_eq_decide.2 ⟨?_, ?_⟩
  · intro h
    apply List.ext_getElem?
    intro k
    rcases Nat.lt_or_ge k n with hk | hk
    · exact h k (List.mem_range.2 hk)
    · rw [List.getElem?_eq_none (by omega), List.getElem?_eq_none (by omega)]
  · intro h k _
    rw [h]
theorem u8_lt (a b : UInt8) : a < b ↔ a.toNat < b.toNat := UInt8.lt_iff_toNat_lt
theorem cmp_neg : ∀ a b : List UInt8, Go.Lib.compareBytes b a = - Go.Lib.compareBytes a b
  | [], [] => rfl
  | [], _ :: _ => rfl
  | _ :: _, [] => rfl
  | x :: a, y :: b => by
    unfold Go.Lib.compareBytes
    have h1 := u8_lt x y
    have h2 := u8_lt y x
    by_cases c1 : x < y
    · have c2 : ¬ y < x := by rw [h2]; rw [h1] at c1; omega
      rw [if_neg c2, if_pos c1, if_pos c1]; rfl
    · by_cases c2 : y < x
      · rw [if_pos c2, if_neg c1, if_pos c2]
      · rw [if_neg c2, if_neg c1, if_neg c1, if_neg c2]; exact cmp_neg a b
theorem cmp_trans : ∀ a b c : List UInt8, Go.Lib.compareBytes a b ≤ 0 → Go.Lib.compareBytes b c ≤ 0 → Go.Lib.compareBytes a c ≤ 0
  | [], _, [], _, _ => by decide
  | [], _, _ :: _, _, _ => by show (-1 : Int) ≤ 0; decide
  | _ :: _, [], _, h, _ => by exact absurd (show (1 : Int) ≤ 0 from h) (by decide)
  | _ :: _, _ :: _, [], _, h => by exact absurd (show (1 : Int) ≤ 0 from h) (by decide)
  | x :: a, y :: b, z :: c, h1, h2 => by
    unfold Go.Lib.compareBytes at h1 h2 ⊢
    have e1 := u8_lt x y; have e2 := u8_lt y x; have e3 := u8_lt y z; have e4 := u8_lt z y; have e5 := u8_lt x z; have e6 := u8_lt z x
    by_cases c5 : x < z
    · rw [if_pos c5]; decide
    · rw [if_neg c5]
      have d2 : ¬ y < x := fun c => by
        have : ¬ x < y := by rw [e1]; rw [e2] at c; omega
        rw [if_neg this, if_pos c] at h1
        exact absurd h1 (by decide)
      have d4 : ¬ z < y := fun c => by
        have : ¬ y < z := by rw [e3]; rw [e4] at c; omega
        rw [if_neg this, if_pos c] at h2
        exact absurd h2 (by decide)
      have e : ¬ z < x := by rw [e6]; rw [e2] at d2; rw [e4] at d4; omega
      rw [if_neg e]
      have d1 : ¬ x < y := by rw [e1]; rw [e5] at c5; rw [e2] at d2; rw [e4] at d4; omega
      have d3 : ¬ y < z := by rw [e3]; rw [e5] at c5; rw [e2] at d2; rw [e4] at d4; omega
      rw [if_neg d1, if_neg d2] at h1
      rw [if_neg d3, if_neg d4] at h2
      exact cmp_trans a b c h1 h2
theorem cmp_eq0 : ∀ a b : List UInt8, Go.Lib.compareBytes a b = 0 → a = b
  | [], [], _ => rfl
  | [], _ :: _, h => by exact absurd (show (-1 : Int) = 0 from h) (by decide)
  | _ :: _, [], h => by exact absurd (show (1 : Int) = 0 from h) (by decide)
  | x :: a, y :: b, h => by
    unfold Go.Lib.compareBytes at h
    have e1 := u8_lt x y; have e2 := u8_lt y x
    by_cases c1 : x < y
    · rw [if_pos c1] at h; exact absurd h (by decide)
    · rw [if_neg c1] at h
      by_cases c2 : y < x
      · rw [if_pos c2] at h; exact absurd h (by decide)
      · rw [if_neg c2] at h
        have : x = y := Gf.ext (by rw [e1] at c1; rw [e2] at c2; omega)
        rw [this, cmp_eq0 a b h]
end Go.Mem
namespace Go.Proofs.YtclhgokchcklbaaGreatDoor
open Go Go.RowKit Go.Mem Gf
theorem bytesOf_back (bs : List UInt8) : Lib.bytesOf (bs.map fun u => (u.toNat : Int)) = bs := by
  unfold Lib.bytesOf
  rw [List.map_map]
  conv => rhs; rw [← List.map_id bs]
  apply List.map_congr_left
  intro u _
  simp
theorem run_bytesOf_bys {P : Program} {w : World} {v : Value} {bs : List UInt8} (h : Bys w v bs) : (Extern.Bytes.bytesOf v).run P w = .ok ⟨bs.toArray⟩ w := by
  obtain ⟨a, cap, rfl, h1, h2, h3⟩ := h
  cases a with
  | none =>
    have : bs = [] := by
      rcases Nat.eq_zero_or_pos bs.length with e | e
      · exact List.eq_nil_of_length_eq_zero e
      · obtain ⟨b, off, e2, _⟩ := h3 e; cases e2
    subst this
    simp [Extern.Bytes.bytesOf]
    rfl
  | some a =>
    have hl := Lib.run_loadBytesX (P := P) w (bs.map fun u => (u.toNat : Int)) a .empty (fun j x hj => by
      rw [List.getElem?_map] at hj
      obtain ⟨u, hu, rfl⟩ := Option.map_eq_some_iff.1 hj
      have hp : 0 < bs.length := by have := (List.getElem?_eq_some_iff.1 hu).1; omega
      obtain ⟨b, off, e, hc⟩ := h3 hp
      cases e
      have e2 : (⟨b, off, none⟩ : Addr).add j = ⟨b, off + j, none⟩ := by unfold Addr.add; split <;> simp_all
      rw [e2]
      exact hc j u hu)
    rw [List.length_map, bytesOf_back] at hl
    show (Extern.Bytes.loadBytes a bs.length .empty).run P w = _
    rw [hl, show ByteArray.empty.data ++ bs.toArray = bs.toArray from Array.empty_append ..]
set_option maxRecDepth 100000 in
noncomputable def cmpFn : Func := (Tryz.prog.funcs[182]?).get (by kernel_rfl)
set_option maxRecDepth 100000 in
theorem cmpFn_is : Tryz.prog.funcs[182]? = some cmpFn := (Option.some_get _).symm
set_option maxRecDepth 100000 in
theorem bcomp_calls (va vb : Value) (xs ys : List UInt8) (w : World) (ha : Bys w va xs) (hb : Bys w vb ys) :
    Calls Tryz.prog 141 #[va, vb] w fun e w' => e = .returned (.int .i64 (Go.Lib.compareBytes xs ys)) ∧ w' = w := by
  have h1 := run_bytesOf_bys (P := Tryz.prog) ha
  have h2 := run_bytesOf_bys (P := Tryz.prog) hb
  have hx : (callFunc 182 #[va, vb]).run Tryz.prog w = .ok (.value (.int .i64 (Go.Lib.compareBytes xs ys))) w := by
    rw [run_callFunc_extern cmpFn_is (by kernel_rfl) (by kernel_rfl) (by kernel_rfl) (e := Extern.BytealgCompare.compare) (by kernel_rfl)]
    change ((do pure (goInt (Extern.BytealgCompare.cmp (← Extern.Bytes.bytesOf va) (← Extern.Bytes.bytesOf vb))) : Sem Value).run Tryz.prog w).andThen _ = _
    simp only [Sem.run_bind, h1, h2, Sem.run_pure, Result.andThen_ok]
    rw [Lib.cmp_eq]
    rfl
  clear ha hb h1 h2
  go_enter Tryz.func141, Tryz.ntmps141
  go_wp2_with fail
  go_ret
  exact ⟨rfl, rfl⟩
end Go.Proofs.YtclhgokchcklbaaGreatDoor
end
section
namespace Lea
open Go Go.RowKit Go.Mem Gf
abbrev Sec := List UInt8 × Int
def encL (x : Sec) : List Value := bV x.1 ++ [.int .i64 x.2]
def WfL (x : Sec) : Prop := x.1.length = 16
theorem ecL : EncK encL WfL 17 := by
  refine ⟨fun x h => ?_, fun x v hv => ?_, by decide⟩
  · unfold encL
    rw [List.length_append, bV_len, h, List.length_singleton]
  · unfold encL at hv
    rcases List.mem_append.1 hv with hv | hv
    · exact bV_one _ v hv
    · rw [List.mem_singleton.1 hv]; rfl
theorem encL_end {x : Sec} (h : WfL x) : (encL x)[16]? = some (.int .i64 x.2) := by
  unfold encL
  rw [List.getElem?_append_right (by rw [bV_len, h]; omega), bV_len, h]
  rfl
theorem encL_sec {x : Sec} {k : Nat} {u : UInt8} (h : x.1[k]? = some u) : (encL x)[k]? = some (.int .u8 u.toNat) := by
  unfold encL
  rw [List.getElem?_append_left (by rw [bV_len]; exact (List.getElem?_eq_some_iff.1 h).1)]
  simp [bV, h]
theorem allL {x : Sec} (h : WfL x) : AllK 17 (encL x) := ⟨ecL.len x h, ecL.one x⟩
def ltL (a b : Sec) : Bool := decide (a.2 < b.2) || (decide (a.2 = b.2) && decide (Go.Lib.compareBytes a.1 b.1 < 0))
theorem ltL_false {a b : Sec} : ltL a b = false ↔ b.2 < a.2 ∨ (a.2 = b.2 ∧ 0 ≤ Go.Lib.compareBytes a.1 b.1) := by
  unfold ltL
  simp only [Bool.or_eq_false_iff, decide_eq_false_iff_not, Bool.and_eq_false_iff]
  omega
theorem ordL : Srt.Ord ltL := by
  refine ⟨fun a b h => ?_, fun a b c h1 h2 => ?_⟩
  · rw [ltL_false]
    unfold ltL at h
    simp only [Bool.or_eq_true, decide_eq_true_eq, Bool.and_eq_true] at h
    have := cmp_neg a.1 b.1
    omega
  · rw [ltL_false] at *
    have e1 := cmp_neg a.1 b.1
    have e2 := cmp_neg b.1 c.1
    have e3 := cmp_neg a.1 c.1
    rcases h1 with h1 | h1
    · rcases h2 with h2 | h2 <;> (left; omega)
    · rcases h2 with h2 | h2
      · left; omega
      · right
        have := cmp_trans a.1 b.1 c.1 (by omega) (by omega)
        omega
theorem ltL_anti {a b : Sec} (h1 : ltL a b = false) (h2 : ltL b a = false) : a = b := by
  rw [ltL_false] at *
  have := cmp_neg a.1 b.1
  have e : a.2 = b.2 := by omega
  have : Go.Lib.compareBytes a.1 b.1 = 0 := by omega
  exact Prod.ext (cmp_eq0 _ _ this) e
theorem sorted_eq {α : Type} {R : α → α → Prop} (hanti : ∀ a b, R a b → R b a → a = b) : ∀ (l m : List α), l.Pairwise R → m.Pairwise R → l.Perm m → l = m
  | [], m, _, _, h => h.nil_eq
  | a :: l, [], _, _, h => by exact absurd h.length_eq (by simp)
  | a :: l, b :: m, hl, hm, h => by
    have hl' := List.pairwise_cons.1 hl
    have hm' := List.pairwise_cons.1 hm
    have e : a = b := by
      rcases List.mem_cons.1 (h.mem_iff.1 (List.mem_cons_self : a ∈ a :: l)) with e | ha
      · exact e
      · rcases List.mem_cons.1 (h.mem_iff.2 (List.mem_cons_self : b ∈ b :: m)) with e | hb
        · exact e.symm
        · exact hanti _ _ (hl'.1 b hb) (hm'.1 a ha)
    subst e
    rw [sorted_eq hanti l m hl'.2 hm'.2 ((List.perm_cons a).1 h)]
end Lea
namespace Go.Proofs.YtclhgokchcklbaaGreatDoor
open Go Go.RowKit Go.Mem Gf Lea
attribute [local go_sem ↓] Go.wp_at_zero Go.wp_at_succ
theorem i17 : (Tryz.prog.info? 153).map (·.size) = some 17 := by kernel_rfl
theorem load_lease (dst : Option Tmp) (x : Operand) (ty : TypeId) (pos : String) (af : Array Edge) (a : Act) (w : World) (K : Act → World → Prop) (Q : Exit → Act → World → Prop)
    (hp : ptrIs (a.eval x) = true) (ht : HasK 17 w (ptrB (a.eval x)) (ptrO (a.eval x))) :
    Oper.wp Tryz.prog ⟨dst, .load 153 x, ty, pos, af, none⟩ a w K Q = K (a.put dst (.agg (readK 17 w (ptrB (a.eval x)) (ptrO (a.eval x))).toArray)) w :=
  wp_loadK Tryz.underlying153 rfl i17 dst x ty pos af a w K Q hp ht
theorem store_lease (dst : Option Tmp) (x y : Operand) (ty : TypeId) (pos : String) (af : Array Edge) (a : Act) (w : World) (K : Act → World → Prop) (Q : Exit → Act → World → Prop)
    (hp : ptrIs (a.eval x) = true) (hy : aggIs (a.eval y) = true) (ht : HasK 17 w (ptrB (a.eval x)) (ptrO (a.eval x))) (hc : AllK 17 (aggL (a.eval y))) :
    Oper.wp Tryz.prog ⟨dst, .store 153 x y, ty, pos, af, none⟩ a w K Q = K (a.put dst undef) (w.setCells (ptrB (a.eval x)) (ptrO (a.eval x)) (aggL (a.eval y))) :=
  wp_storeK i17 dst x y ty pos af a w K Q hp hy ht hc
attribute [local go_sem ↓] load_lease store_lease
attribute [local go_sem] ptrB_eq ptrO_eq ptrIs_eq aggL_eq aggIs_eq
end Go.Proofs.YtclhgokchcklbaaGreatDoor
end
section
namespace Lea
abbrev Key := List UInt8
def kOf (x : Les) : Key × Key := (x.ix, x.sec)
def ofL (l : List Les) (ix : Key) : List Sec := (l.filter fun x => decide (x.ix = ix)).map fun x => (x.sec, x.e)
def NoKey (l : List Les) (ix sec : Key) : Prop := ∀ x ∈ l, ¬ (x.ix = ix ∧ x.sec = sec)
def May (e : Int) : Prop := 1 ≤ e ∧ e ≤ 1048576
instance (e : Int) : Decidable (May e) := by unfold May; infer_instance
structure Good (l : List Les) : Prop where
  ends : ∀ x ∈ l, May x.e
  uniq : (l.map kOf).Nodup
  few : ∀ ix, (ofL l ix).length ≤ 8
theorem ofL_keys (l : List Les) (ix : Key) : (ofL l ix).length = ((l.map kOf).filter fun k => decide (k.1 = ix)).length := by
  unfold ofL
  rw [List.length_map, List.filter_map, List.length_map]
  rfl
theorem ofL_perm {l l' : List Les} (h : l'.Perm l) (ix : Key) : (ofL l' ix).Perm (ofL l ix) := (h.filter _).map _
theorem Good.perm {l l' : List Les} (h : l'.Perm l) (g : Good l) : Good l' :=
  ⟨fun x hx => g.ends x (h.mem_iff.1 hx), (h.map kOf).nodup_iff.2 g.uniq, fun ix => by rw [(ofL_perm h ix).length_eq]; exact g.few ix⟩
theorem Good.nil : Good [] := ⟨(fun _ h => by cases h), List.nodup_nil, (fun _ => by simp [ofL])⟩
theorem Good.sub {l l' : List Les} (h : l'.Sublist l) (g : Good l) : Good l' :=
  ⟨fun x hx => g.ends x (h.subset hx), g.uniq.sublist (h.map kOf), fun ix => Nat.le_trans (by
    unfold ofL
    rw [List.length_map, List.length_map]
    exact (h.filter _).length_le) (g.few ix)⟩
theorem ofL_app (l m : List Les) (ix : Key) : ofL (l ++ m) ix = ofL l ix ++ ofL m ix := by unfold ofL; rw [List.filter_append, List.map_append]
theorem Good.push {l : List Les} (g : Good l) (x : Les) (hx : May x.e) (hk : NoKey l x.ix x.sec) (h8 : (ofL l x.ix).length < 8) : Good (l ++ [x]) := by
  refine ⟨fun y hy => ?_, ?_, fun ix => ?_⟩
  · rcases List.mem_append.1 hy with hy | hy
    · exact g.ends y hy
    · rw [List.mem_singleton.1 hy]; exact hx
  · rw [List.map_append, List.nodup_append]
    refine ⟨g.uniq, by simp, fun a ha b hb => ?_⟩
    obtain ⟨y, hy, rfl⟩ := List.mem_map.1 ha
    simp at hb
    subst hb
    intro e
    exact hk y hy ⟨congrArg Prod.fst e, congrArg Prod.snd e⟩
  · rw [ofL_app, List.length_append]
    by_cases c : x.ix = ix
    · subst c
      have : (ofL [x] x.ix).length ≤ 1 := by unfold ofL; rw [List.length_map]; exact List.length_filter_le _ [x]
      omega
    · have : (ofL [x] ix) = [] := by simp [ofL, c]
      rw [this]
      have := g.few ix
      simpa using this
theorem map_set_key {l : List Les} {k : Nat} {x y : Les} (hx : l[k]? = some x) (hy : kOf y = kOf x) : (l.set k y).map kOf = l.map kOf := by
  rw [List.map_set]
  apply List.ext_getElem?
  intro j
  by_cases c : k = j
  · subst c
    have hk := Go.Mem.some_lt hx
    rw [List.getElem?_set_self (by simpa using hk), List.getElem?_map, hx, hy]; rfl
  · rw [List.getElem?_set_ne c]
theorem Good.set {l : List Les} (g : Good l) {k : Nat} {x y : Les} (hx : l[k]? = some x) (hy : kOf y = kOf x) (he : May y.e) : Good (l.set k y) := by
  refine ⟨fun z hz => ?_, by rw [map_set_key hx hy]; exact g.uniq, fun ix => by rw [ofL_keys, map_set_key hx hy, ← ofL_keys]; exact g.few ix⟩
  rcases List.mem_or_eq_of_mem_set hz with hz | rfl
  · exact g.ends z hz
  · exact he
inductive AddR (l : List Les) (ix sec : Key) (e : Int) : Bool → List Les → Prop
  | no (h : ¬ May e ∨ (NoKey l ix sec ∧ 8 ≤ (ofL l ix).length)) : AddR l ix sec e false l
  | more (k : Nat) (x : Les) (l' : List Les) (he : May e) (hx : l[k]? = some x) (h1 : x.ix = ix) (h2 : x.sec = sec) (hp : l'.Perm (l.set k ⟨ix, sec, max x.e e⟩)) : AddR l ix sec e true l'
  | new (l' : List Les) (he : May e) (hk : NoKey l ix sec) (h8 : (ofL l ix).length < 8) (hp : l'.Perm (l ++ [⟨ix, sec, e⟩])) : AddR l ix sec e true l'
theorem AddR.good {l l' : List Les} {ix sec : Key} {e : Int} {b : Bool} (h : AddR l ix sec e b l') (g : Good l) : Good l' := by
  cases h with
  | no h => exact g
  | more k x l' he hx h1 h2 hp =>
    have hm := g.ends x (List.mem_of_getElem? hx)
    refine (g.set hx (y := ⟨ix, sec, max x.e e⟩) (by unfold kOf; rw [h1, h2]) ?_).perm hp
    unfold May at *
    simp only
    omega
  | new l' he hk h8 hp => exact (g.push ⟨ix, sec, e⟩ he hk h8).perm hp
theorem AddR.len {l l' : List Les} {ix sec : Key} {e : Int} {b : Bool} (h : AddR l ix sec e b l') : l'.length ≤ l.length + 1 := by
  cases h with
  | no h => omega
  | more k x l' he hx h1 h2 hp => rw [hp.length_eq, List.length_set]; omega
  | new l' he hk h8 hp => rw [hp.length_eq]; simp
def FindR (l : List Les) (ix sec : Key) (r : Int) : Prop := (r = -1 ∧ NoKey l ix sec) ∨ ∃ (k : Nat) (x : Les), r = k ∧ l[k]? = some x ∧ x.ix = ix ∧ x.sec = sec
structure OfR (l : List Les) (ix : Key) (out : List Sec) : Prop where
  perm : out.Perm (ofL l ix)
  up : out.Pairwise fun a b => ltL b a = false
theorem OfR.eq {l l' : List Les} {ix : Key} {a b : List Sec} (ha : OfR l ix a) (hb : OfR l' ix b) (h : l.Perm l') : a = b :=
  sorted_eq (fun _ _ h1 h2 => ltL_anti h2 h1) a b ha.up hb.up (ha.perm.trans ((ofL_perm h ix).trans hb.perm.symm))
theorem mem_ofL {l : List Les} {ix : Key} {s : Sec} : s ∈ ofL l ix ↔ ∃ x ∈ l, x.ix = ix ∧ (x.sec, x.e) = s := by
  unfold ofL
  constructor
  · intro h
    obtain ⟨x, hx, e⟩ := List.mem_map.1 h
    have := List.mem_filter.1 hx
    exact ⟨x, this.1, by simpa using this.2, e⟩
  · rintro ⟨x, hx, e, e2⟩
    exact List.mem_map.2 ⟨x, List.mem_filter.2 ⟨hx, by simpa using e⟩, e2⟩
theorem ofL_nil {l : List Les} {ix : Key} : ofL l ix = [] ↔ ∀ x ∈ l, x.ix ≠ ix := by
  constructor
  · intro h x hx e
    have : (x.sec, x.e) ∈ ofL l ix := mem_ofL.2 ⟨x, hx, e, rfl⟩
    rw [h] at this
    cases this
  · intro h
    rw [List.eq_nil_iff_forall_not_mem]
    intro s hs
    obtain ⟨x, hx, e, _⟩ := mem_ofL.1 hs
    exact h x hx e
def left (l : List Les) (now : Int) : List Les := l.filter fun x => decide (now < x.e)
end Lea
end
section
namespace Go.Mem
open Go Go.RowKit Gf
section
variable {w : World}
theorem readK_drew (n : Nat) (w : World) (g o : Nat) : readK n w.drew g o = readK n w g o := rfl
theorem hasK_drew (n : Nat) (w : World) (g o : Nat) : HasK n w.drew g o = HasK n w g o := rfl
theorem setCells_drew (w : World) (g : Nat) : ∀ (cs : List Value) (o : Nat), w.drew.setCells g o cs = (w.setCells g o cs).drew := fun cs o => by
  induction cs generalizing o w with
  | nil => rfl
  | cons v vs ih => exact ih (w.setCell ⟨g, o, none⟩ v) (o + 1)
theorem readK_alloc_past (o' : Obj) (n g o : Nat) (hn : g < w.heap.size) : readK n (w.alloc o') g o = readK n w g o := by
  unfold readK
  apply List.map_congr_left
  intro k _
  rw [World.cell?_alloc_past _ _ _ hn]
theorem hasK_alloc_past (o' : Obj) (n g o : Nat) (hn : g < w.heap.size) : HasK n (w.alloc o') g o = HasK n w g o := by
  unfold HasK World.there
  apply propext
  constructor
  · intro h j hj
    have := h j hj
    rw [World.cell?_alloc_past _ _ _ hn, World.frozen?_alloc_past _ _ _ hn] at this
    exact this
  · intro h j hj
    rw [World.cell?_alloc_past _ _ _ hn, World.frozen?_alloc_past _ _ _ hn]
    exact h j hj
def cutC (c : Array Value) (o n : Nat) : List Value := (c.toList.drop o).take n
theorem readK_alloc_in (c : Array Value) (t : TypeId) (n g o : Nat) (hn : g = w.heap.size) (hc : o + n ≤ c.size) : readK n (w.alloc (.cells c t)) g o = cutC c o n := by
  subst hn
  have hb := Blk.new w c t
  unfold cutC
  have hl : ((c.toList.drop o).take n).length = n := by
    rw [List.length_take, List.length_drop, Array.length_toList]; omega
  refine readK_eq (fun k v hv => ?_) hl
  have hk : k < n := by have := some_lt hv; omega
  rw [hb.cell]
  rw [List.getElem?_take, if_pos hk, List.getElem?_drop, Array.getElem?_toList] at hv
  exact hv
theorem hasK_alloc_in (c : Array Value) (t : TypeId) (n g o : Nat) (hn : g = w.heap.size) (hc : o + n ≤ c.size) : HasK n (w.alloc (.cells c t)) g o := by
  subst hn
  intro j hj
  have hb := Blk.new w c t
  exact ⟨by rw [hb.cell]; simp; omega, hb.free _⟩
theorem hasK_alloc_at (c : Array Value) (t : TypeId) (n g : Nat) (hn : g = w.heap.size) (hc : n ≤ c.size) : HasK n (w.alloc (.cells c t)) g 0 := by
  subst hn
  intro j hj
  have hb := Blk.new w c t
  exact ⟨by rw [hb.cell]; simp; omega, hb.free _⟩
theorem setCells_alloc_past (o' : Obj) (n : Nat) (hn : n < w.heap.size) (cs : List Value) (o : Nat) : (w.alloc o').setCells n o cs = (w.setCells n o cs).alloc o' := by
  induction cs generalizing o w with
  | nil => rfl
  | cons v vs ih =>
    show ((w.alloc o').setCell ⟨n, o, none⟩ v).setCells n (o + 1) vs = _
    rw [World.setCell_alloc_past _ _ _ _ hn]
    exact ih (by simpa using hn) (o + 1)
theorem setCells_alloc_some (c : Array Value) (t : TypeId) (n : Nat) (hn : n = w.heap.size) (cs : List Value) (o : Nat) : ∃ c' : Array Value, (w.alloc (.cells c t)).setCells n o cs = w.alloc (.cells c' t) := by
  induction cs generalizing o c with
  | nil => exact ⟨c, rfl⟩
  | cons v vs ih =>
    show ∃ c' : Array Value, ((w.alloc (.cells c t)).setCell ⟨n, o, none⟩ v).setCells n (o + 1) vs = _
    rw [World.setCell_alloc_at _ _ _ _ _ hn]
    exact ih _ (o + 1)
theorem setCells_alloc_at (c : Array Value) (t : TypeId) (n : Nat) (cs : List Value) (hn : n = w.heap.size) (hc : c.size = cs.length) : (w.alloc (.cells c t)).setCells n 0 cs = w.alloc (.cells cs.toArray t) := by
  subst hn
  obtain ⟨c', e⟩ := setCells_alloc_some c t w.heap.size rfl cs 0
  obtain ⟨arr, h1, h2, h3⟩ := Blk.setCells cs 0 _ _ (Blk.new w c t)
  rw [e] at h1 ⊢
  have h4 := Blk.new w c' t
  have e2 : c' = arr := by
    unfold Blk at h1 h4
    rw [h1] at h4
    simpa using h4.symm
  have e3 : arr = cs.toArray := by
    apply Array.ext_getElem?
    intro k
    rcases Nat.lt_or_ge k c.size with hk | hk
    · rw [h3 k hk, if_pos ⟨Nat.zero_le _, by omega⟩, Nat.sub_zero]; simp
    · rw [Array.getElem?_eq_none (by omega), Array.getElem?_eq_none (by simp; omega)]
  rw [e2, e3]
end
theorem wp_loadG {P : Program} {n : Nat} {t : TypeId} {d : TypeDesc} (hu : P.underlying t = some d) (hd : d.isRow = true) (hi : (P.info? t).map (·.size) = some n) (dst : Option Tmp) (x : Operand) (ty : TypeId) (pos : String) (af : Array Edge) (gd : Option (Tmp × Bool)) (a : Act) (w : World) (K : Act → World → Prop) (Q : Exit → Act → World → Prop)
    (hp : ptrIs (a.eval x) = true) (ht : HasK n w (ptrB (a.eval x)) (ptrO (a.eval x))) :
    Oper.wp P ⟨dst, .load t x, ty, pos, af, gd⟩ a w K Q = K (a.put dst (.agg (readK n w (ptrB (a.eval x)) (ptrO (a.eval x))).toArray)) w := by
  unfold Oper.wp execOp
  have e := ptr_of hp
  have hl := run_loadVar_mid (P := P) w (ptrB (a.eval x)) (ptrO (a.eval x)) t (readK n w (ptrB (a.eval x)) (ptrO (a.eval x))) d (readK_range ht) hu hd (by rw [hi, readK_len])
  simp only
  rw [e]
  simp only [ptrB_eq, ptrO_eq, Instr.loadAt, Instr.sureAddr, Sem.run_bind, Sem.run_pure, Result.andThen_ok, hl]
  rfl
end Go.Mem
end
section
namespace Go.Proofs.YtclhgokchcklbaaGreatDoor
open Go Go.RowKit Go.Mem Gf Lea
theorem i16 : (Tryz.prog.info? 44).map (·.size) = some 16 := by kernel_rfl
theorem load_key (dst : Option Tmp) (x : Operand) (ty : TypeId) (pos : String) (af : Array Edge) (gd : Option (Tmp × Bool)) (a : Act) (w : World) (K : Act → World → Prop) (Q : Exit → Act → World → Prop)
    (hp : ptrIs (a.eval x) = true) (ht : HasK 16 w (ptrB (a.eval x)) (ptrO (a.eval x))) :
    Oper.wp Tryz.prog ⟨dst, .load 44 x, ty, pos, af, gd⟩ a w K Q = K (a.put dst (.agg (readK 16 w (ptrB (a.eval x)) (ptrO (a.eval x))).toArray)) w :=
  wp_loadG Tryz.underlying44 rfl i16 dst x ty pos af gd a w K Q hp ht
theorem eq_key (xs ys : List UInt8) (hx : xs.length = 16) (hy : ys.length = 16) (w : World) : (Op.equalIn 10000 44 (.agg (bV xs).toArray) (.agg (bV ys).toArray)).run Tryz.prog w = .ok (decide (xs = ys)) w :=
  run_eq_bytes (P := Tryz.prog) w 9998 16 Tryz.underlying44 (Option.some_get (by kernel_rfl)).symm (by kernel_rfl) (by kernel_rfl) xs ys hx hy
theorem itemKey {x : Les} (h : Wf x) : cutC (cellsI x).toArray 0 16 = bV x.ix ∧ cutC (cellsI x).toArray 16 16 = bV x.sec := by
  have h1 : (bV x.ix).length = 16 := by rw [bV_len]; exact h.1
  have h2 : (bV x.sec).length = 16 := by rw [bV_len]; exact h.2
  unfold cutC cellsI
  constructor
  · simp [h1]
  · rw [List.toList_toArray, List.append_assoc, List.drop_append_of_le_length (by omega), List.drop_of_length_le (by omega), List.nil_append, List.take_append_of_le_length (by omega), List.take_of_length_le (by omega)]
theorem _root_.Lea.Row.below {ti : TypeId} {w w' : World} {base g n cap : Nat} {l : List Les} (h : Row ti w base g n cap l) (hb : Below w.heap.size w w') : Row ti w' base g n cap l := ⟨own_chg (S := fun _ => False) h.own (Chg.of_below hb) (fun _ _ h => h), h.len, h.wf⟩
theorem _root_.Lea.Row.lt {ti : TypeId} {w : World} {base g n cap : Nat} {l : List Les} (h : Row ti w base g n cap l) : g < w.heap.size := by
  obtain ⟨cur, hh, _⟩ := h.block
  exact lt_of_block hh
theorem LTab.row {w : World} {tb g n cap : Nat} {v : Value} {l : List Les} (h : LTab w tb v l) (hn : l.length = n) (hv : v = .slice (some ⟨g, 0, none⟩) n cap) : Row 191 w 0 g n cap l := by
  subst hv
  exact h.theRow hn
theorem noKey_succ {l : List Les} {i : Nat} {x : Les} {ix sec : Key} (h : NoKey (l.take i) ix sec) (hx : l[i]? = some x) (hn : ¬ (x.ix = ix ∧ x.sec = sec)) : NoKey (l.take (i + 1)) ix sec := by
  intro y hy
  rw [List.take_add_one, hx] at hy
  rcases List.mem_append.1 hy with hy | hy
  · exact h y hy
  · simp at hy
    rw [hy]; exact hn
attribute [local go_sem ↓] Go.wp_at_zero Go.wp_at_succ
attribute [local go_sem ↓] load_key load_item store_item
attribute [local go_sem] ptrB_eq ptrO_eq ptrIs_eq aggL_eq aggIs_eq readK_drew hasK_drew readK_alloc_past hasK_alloc_past readK_alloc_in hasK_alloc_in setCells_drew setCells_alloc_past setCells_alloc_at
set_option maxRecDepth 100000 in
set_option maxHeartbeats 1000000 in
theorem find_calls (w : World) (tb : Nat) (v : Value) (l : List Les) (ix sec : Key) (h : LTab w tb v l) (hl : l.length ≤ 100000) (hix : ix.length = 16) (hsec : sec.length = 16) :
    Calls Tryz.prog 84 #[.pointer (some ⟨tb, 0, none⟩), .agg (bV ix).toArray, .agg (bV sec).toArray] w fun e w' => ∃ r, e = .returned (.int .i64 r) ∧ FindR l ix sec r ∧ Below w.heap.size w w' := by
  have hcell : w.cell? ⟨tb, 0, none⟩ = some v := by simpa using h.cell.cell 0
  have htb := h.cell.lt
  have htb1 : tb < w.heap.size + 1 := by omega
  obtain ⟨a0, c0, hv, hg⟩ := own_eq_slice h.own
  obtain ⟨n, hn⟩ : ∃ n, n = l.length := ⟨_, rfl⟩
  rw [← hn] at hl
  have H := Lib.hid (And.intro h (And.intro hn (And.intro hv hg)))
  rw [hv, ← hn] at hcell
  clear h hn hv hg
  go_enter Tryz.func84, Tryz.ntmps84
  go_upto_region 2 with fail
  have hB0 : Below w.heap.size w ((w.alloc (.cells (bV ix).toArray 44)).alloc (.cells (bV sec).toArray 44)) := ((Below.refl _ _).alloc (Nat.le_refl _) _).alloc (by simp) _
  have hk1 : Blk ((w.alloc (.cells (bV ix).toArray 44)).alloc (.cells (bV sec).toArray 44)) w.heap.size (bV ix).toArray 44 := (Blk.new _ _ _).alloc _
  have hk2 : Blk ((w.alloc (.cells (bV ix).toArray 44)).alloc (.cells (bV sec).toArray 44)) (w.heap.size + 1) (bV sec).toArray 44 := Blk.new_at _ _ _ _ (by simp)
  obtain ⟨w0, hw0⟩ : ∃ x, x = (w.alloc (.cells (bV ix).toArray 44)).alloc (.cells (bV sec).toArray 44) := ⟨_, rfl⟩
  rw [← hw0] at hB0 hk1 hk2 ⊢
  clear hw0
  obtain ⟨p4, hp4⟩ : ∃ p, p = w.heap.size := ⟨_, rfl⟩
  obtain ⟨p5, hp5⟩ : ∃ p, p = w.heap.size + 1 := ⟨_, rfl⟩
  rw [← hp5] at hk2 ⊢
  rw [← hp4] at hk1 ⊢
  have HB0 := Lib.hid hB0
  clear hp4 hp5 hB0
  go_loopw [14] (fun vi wr => ∃ i : Nat, i ≤ n ∧ vi = .int .i64 i ∧ Hid (NoKey (l.take i) ix sec ∧ Blk wr p4 (bV ix).toArray 44 ∧ Blk wr p5 (bV sec).toArray 44 ∧ Below w.heap.size w wr)) (fun vi _ => n - (intOf vi).toNat)
  case atStart => exact ⟨0, Nat.zero_le _, rfl, fun x hx => by simp at hx, hk1, hk2, HB0.out⟩
  case round =>
    obtain ⟨i, hi0, rfl, G⟩ := hrel
    by_cases hin : i < n
    · obtain ⟨g, rfl⟩ := H.out.2.2.2 (by have := H.out.2.1; omega)
      have hrow := (H.out.1.row H.out.2.1.symm (by rw [H.out.2.1]; exact H.out.2.2.1)).below G.out.2.2.2
      have hx : l[i]? = some (l[i]'(by have := H.out.2.1; omega)) := by simp
      generalize l[i]'(by have := H.out.2.1; omega) = x at hx
      have hwx := hrow.wf x (List.mem_of_getElem? hx)
      have rx : readK 33 wr g (i * 33) = cellsI x := readK_eq (hrow.range hx) (cellsI_len hwx)
      have t1 : HasK 33 wr g (i * 33) := hrow.there hin
      have ax := allI_cells hwx
      have lx := cellsI_len hwx
      have k1 := (itemKey hwx).1
      have k2 := (itemKey hwx).2
      have gl : g < wr.heap.size := hrow.lt
      have r4 : readK 16 wr p4 0 = bV ix := blk_read0 G.out.2.1 (by rw [bV_len, hix])
      have r5 : readK 16 wr p5 0 = bV sec := blk_read0 G.out.2.2.1 (by rw [bV_len, hsec])
      have h4 : HasK 16 wr p4 0 := blk_has G.out.2.1 (by simp [bV_len, hix])
      have h5 : HasK 16 wr p5 0 := blk_has G.out.2.2.1 (by simp [bV_len, hsec])
      have l4 := G.out.2.1.lt
      have l5 := G.out.2.2.1.lt
      have e1 := eq_key x.ix ix hwx.1 hix
      have e2 := eq_key x.sec sec hwx.2 hsec
      have i0 : (0 : Int) ≤ (i : Int) := by omega
      have i1 : (i : Int) < (n : Int) := by omega
      have HX := Lib.hid hx
      obtain ⟨cx, hcx⟩ : ∃ c, c = cellsI x := ⟨_, rfl⟩
      rw [← hcx] at rx ax lx k1 k2
      clear hrow hx hcx
      have hend : Below w.heap.size w (wr.alloc (.cells cx.toArray 191)) := G.out.2.2.2.alloc (G.out.2.2.2.size) _
      have HE := Lib.hid hend
      have hmore : ¬ (x.ix = ix ∧ x.sec = sec) → NoKey (l.take (i + 1)) ix sec := fun hn => noKey_succ G.out.1 HX.out hn
      clear hend
      by_cases c1 : x.ix = ix
      · have d1 : decide (x.ix = ix) = true := by simpa using c1
        replace c1 := Lib.hid c1
        by_cases c2 : x.sec = sec
        · have d2 : decide (x.sec = sec) = true := by simpa using c2
          replace c2 := Lib.hid c2
          go_wp2_with fail
          go_ret
          exact ⟨i, rfl, .inr ⟨i, x, rfl, HX.out, c1.out, c2.out⟩, HE.out⟩
        · have d2 : decide (x.sec = sec) = false := by simpa using c2
          have hm := Lib.hid (hmore fun h => c2 h.2)
          clear c2 hmore
          go_wp2_with fail
          exact ⟨⟨i + 1, by omega, by simp, hm.out, G.out.2.1.alloc _, G.out.2.2.1.alloc _, HE.out⟩, by show n - ((i : Int) + 1).toNat < n - (i : Int).toNat; omega⟩
      · have d1 : decide (x.ix = ix) = false := by simpa using c1
        have hm := Lib.hid (hmore fun h => c1 h.1)
        clear c1 hmore
        go_wp2_with fail
        exact ⟨⟨i + 1, by omega, by simp, hm.out, G.out.2.1.alloc _, G.out.2.2.1.alloc _, HE.out⟩, by show n - ((i : Int) + 1).toNat < n - (i : Int).toNat; omega⟩
    · go_wp2_with fail
      go_ret
      refine ⟨-1, rfl, .inl ⟨rfl, ?_⟩, G.out.2.2.2⟩
      have := G.out.1
      rwa [List.take_of_length_le (by have := H.out.2.1; omega)] at this
end Go.Proofs.YtclhgokchcklbaaGreatDoor
end
section
namespace Go.Proofs.YtclhgokchcklbaaGreatDoor
open Go Go.RowKit Go.Mem Gf Lea
attribute [local go_sem ↓] Go.wp_at_zero Go.wp_at_succ
attribute [local go_sem ↓] load_lease store_lease
attribute [local go_sem] ptrB_eq ptrO_eq ptrIs_eq aggL_eq aggIs_eq readK_drew hasK_drew readK_alloc_past hasK_alloc_past hasK_alloc_at setCells_drew setCells_alloc_past setCells_alloc_at
theorem below_drewN {B : Nat} {w w' : World} (h : Below B w w') (n : Nat) : Below B w (w'.drewN n) := ⟨h.os, h.tape, h.output, h.size, h.block⟩
set_option maxRecDepth 100000 in
set_option maxHeartbeats 1000000 in
theorem ofless_calls (w : World) (bx base g n cap : Nat) (l : List Sec) (h : RowG encL WfL 17 153 w base g n cap l) (hb : Blk w bx #[.slice (some ⟨g, 0, none⟩) n cap] 149) (i j : Nat) (x y : Sec) (hx : l[i]? = some x) (hy : l[j]? = some y) :
    Calls Tryz.prog 140 #[.int .i64 i, .int .i64 j, .pointer (some ⟨bx, 0, none⟩)] w fun e w' => e = .returned (.bool (ltL x y)) ∧ Below w.heap.size w w' := by
  have hi : i < n := by rw [h.len]; exact some_lt hx
  have hj : j < n := by rw [h.len]; exact some_lt hy
  have i0 : (0 : Int) ≤ (i : Int) := by omega
  have i1 : (i : Int) < (n : Int) := by omega
  have j0 : (0 : Int) ≤ (j : Int) := by omega
  have j1 : (j : Int) < (n : Int) := by omega
  have c0 : w.cell? ⟨bx, 0, none⟩ = some (.slice (some ⟨g, 0, none⟩) n cap) := by simpa using hb.cell 0
  have hwx := h.wf x (List.mem_of_getElem? hx)
  have hwy := h.wf y (List.mem_of_getElem? hy)
  go_enter Tryz.func140, Tryz.ntmps140
  have rx := h.read ecL hx
  have ry := h.read ecL hy
  have t1 : HasK 17 w g (i * 17) := h.there hi
  have t1' : HasK 17 w g (j * 17) := h.there hj
  have ax := allL hwx
  have ay := allL hwy
  have lx := ecL.len x hwx
  have ly := ecL.len y hwy
  have hgl : g < w.heap.size := by
    obtain ⟨cur, hh, _⟩ := h.block
    exact lt_of_block hh
  have hbl := hb.lt
  have hgl1 : g < w.heap.size + 1 := by omega
  go_upto_region 1 with fail
  go_cut [6, 7] (fun a b wx => ∃ p q, p ≠ q ∧ a = .pointer (some ⟨p, 0, none⟩) ∧ b = .pointer (some ⟨q, 0, none⟩) ∧ Blk wx p (encL x).toArray 153 ∧ Blk wx q (encL y).toArray 153 ∧ Below w.heap.size w wx)
  case first =>
    go_region
    all_goals go_wp2_with fail
    all_goals go_meet
    · exact ⟨_, _, by omega, rfl, rfl, (Blk.new _ _ _).alloc _, Blk.new_at _ _ _ _ (by simp), (((Below.refl _ _).alloc (Nat.le_refl _) _).alloc (by simp) _).drew⟩
    · exact ⟨_, _, by omega, rfl, rfl, Blk.new_at _ _ _ _ (by simp), (Blk.new _ _ _).alloc _, (((Below.refl _ _).alloc (Nat.le_refl _) _).alloc (by simp) _).drew⟩
  case rest =>
    obtain ⟨p, q, hpq, rfl, rfl, hp, hq, hB⟩ := hcut
    have cp : wc.cell? ⟨p, 16, none⟩ = some (.int .i64 x.2) := by rw [hp.cell]; simpa using encL_end hwx
    have cq : wc.cell? ⟨q, 16, none⟩ = some (.int .i64 y.2) := by rw [hq.cell]; simpa using encL_end hwy
    have bp : Bys wc (.slice (some ⟨p, 0, none⟩) 16 16) x.1 := by
      have := Blk.bys hp (bs := x.1) (cap := 16) (by rw [hwx]; omega) (by decide) (fun k u hu => by simpa using encL_sec hu)
      rwa [hwx] at this
    have bq : Bys wc (.slice (some ⟨q, 0, none⟩) 16 16) y.1 := by
      have := Blk.bys hq (bs := y.1) (cap := 16) (by rw [hwy]; omega) (by decide) (fun k u hu => by simpa using encL_sec hu)
      rwa [hwy] at this
    have HL := Lib.hid (And.intro hB (And.intro bp bq))
    clear hB bp bq hp hq h hb hx hy rx ry t1 t1' ax ay lx ly
    go_upto_region 2 with fail
    by_cases c1 : x.2 < y.2
    · have d1 : decide (x.2 < y.2) = true := by simpa using c1
      have hr : ltL x y = true := by unfold ltL; simp [c1]
      go_quiet (fail)
      go_wp2
      go_ret
      exact ⟨by first | rfl | (rw [hr]; rfl), below_drewN HL.out.1 _⟩
    · have d1 : decide (x.2 < y.2) = false := by simpa using c1
      by_cases c2 : x.2 = y.2
      · have hr : ltL x y = decide (Go.Lib.compareBytes x.1 y.1 < 0) := by unfold ltL; simp [c2]
        have d2 : decide (x.2 = y.2) = true := by simpa using c2
        have d3 : (x.2 == y.2) = true := by simpa using c2
        go_quiet (exact Calls.quiet_of_same (bcomp_calls _ _ x.1 y.1 _ (HL.out.2.1.drewN _) (HL.out.2.2.drewN _)))
        go_wp2
        go_ret
        exact ⟨by first | rfl | (rw [hr]; rfl), below_drewN HL.out.1 _⟩
      · have hr : ltL x y = false := by unfold ltL; simp [c1, c2]
        have d2 : decide (x.2 = y.2) = false := by simpa using c2
        have d3 : (x.2 == y.2) = false := by simpa using c2
        go_quiet (fail)
        go_wp2
        go_ret
        exact ⟨by first | rfl | (rw [hr]; rfl), below_drewN HL.out.1 _⟩
end Go.Proofs.YtclhgokchcklbaaGreatDoor
end
section
namespace Go.Proofs.YtclhgokchcklbaaGreatDoor
open Go Go.RowKit Go.Mem Gf Lea Go.Lib Go.Shelf
noncomputable def lsT : TypeInfo := (Tryz.prog.info? 149).get (by kernel_rfl)
noncomputable def lsE : TypeInfo := (Tryz.prog.info? 153).get (by kernel_rfl)
theorem lsK9 (n : Nat) (h2 : 2 ≤ n) : Lib.swapperK n lsE 25 = 9 := by
  have a : lsE.hasPointers = false := by kernel_rfl
  have b : lsE.bytes = 24 := by kernel_rfl
  have c : (n == 0) = false := by simp; omega
  have d : (n == 1) = false := by simp; omega
  simp [Lib.swapperK, a, b, c, d]
theorem sorter_one {α : Type} (lt : α → α → Bool) (ho : Srt.Ord lt) (g sf : Nat) (lb sb : Array Value) (eg : ∀ args w, (callFunc g args).run Tryz.prog w = .ok (.enter g args) w) :
    Sorter (fun _ l => l.length ≤ 1) (fun _ => False) lt g sf lb sb :=
  ⟨fun _ _ _ _ h => h.elim, fun _ _ _ h => h, fun W l i j x y hij h hi hj => by have := some_lt hi; omega, fun W l i j x y hij h hi hj => by have := some_lt hi; omega, eg, ho⟩
theorem upto_pairwise {α : Type} {lt : α → α → Bool} {l : List α} {n : Nat} (h : Srt.Upto lt l n) (hn : l.length ≤ n) : l.Pairwise fun a b => lt b a = false := by
  rw [List.pairwise_iff_getElem]
  intro i j hi hj hij
  exact h i j _ _ hij (by omega) (by simp) (by simp)
theorem ofless_enters : ∀ args w, (callFunc 140 args).run Tryz.prog w = .ok (.enter 140 args) w := enters_of Tryz.func140 (by kernel_rfl) rfl
theorem sorter_of (bx base g n cap : Nat) (hne : bx ≠ g) (sf : Nat) (gS : Bool) (hx : ∀ args W, (callFunc sf args).run Tryz.prog W = ((Extern.ReflectliteSwapper.swap gS args).run Tryz.prog W).andThen fun v w' => .ok (.value v) w') :
    Sorter (fun W l => RowG encL WfL 17 153 W base g n cap l ∧ Blk W bx #[.slice (some ⟨g, 0, none⟩) n cap] 149) (fun k => k = g) ltL 140 sf #[.pointer (some ⟨bx, 0, none⟩)] #[.slice (some ⟨g, 0, none⟩) n cap, typeHandle Tryz.prog 153] := by
  refine ⟨fun W l h k hk => ?_, fun W l o h => ?_, fun W l i j x y _ h hi hj => ?_, fun W l i j x y hij h hi hj => ?_, ofless_enters, ordL⟩
  · obtain ⟨cur, hh, _⟩ := h.1.block
    rw [hk]; exact lt_of_block hh
  · exact ⟨h.1.chg (S := fun _ => False) (Chg.of_below ((Below.refl _ _).alloc (Nat.le_refl _) o)) (fun h => h), h.2.alloc o⟩
  · refine (ofless_calls W bx base g n cap l h.1 h.2 i j x y hi hj).mono ?_
    rintro e W' ⟨rfl, hB⟩
    have hc : Chg (fun k => k = g) W W' := Chg.of_below hB
    exact ⟨rfl, ⟨h.1.chg (S := fun _ => False) (Chg.of_below hB) (fun h => h), hc.blk h.2 hne⟩, hc⟩
  · have hi' : i < n := by rw [h.1.len]; exact some_lt hi
    have hj' : j < n := by rw [h.1.len]; exact some_lt hj
    have wx := h.1.wf x (List.mem_of_getElem? hi)
    have wy := h.1.wf y (List.mem_of_getElem? hj)
    have hs : lsE.size = 17 := by kernel_rfl
    have h1 := h.1.set ecL hi' wy
    have h2 := h1.set ecL hj' wx
    have hsw := run_swap_cells (P := Tryz.prog) gS 153 lsE (by kernel_rfl) (fun _ => by kernel_rfl) g 0 n cap i j hi' hj' (encL x) (encL y) (by rw [hs]; exact ecL.len x wx) (by rw [hs]; exact ecL.len y wy) (ecL.one x) (ecL.one y) W
      (fun k v hv => by rw [hs, Nat.zero_add]; exact h.1.range ecL hi k v hv) (fun k v hv => by rw [hs, Nat.zero_add]; exact h.1.range ecL hj k v hv)
      (fun k hk => by rw [hs] at hk ⊢; rw [Nat.zero_add]; exact (h.1.there hi' k hk).2) (fun k hk => by rw [hs] at hk ⊢; rw [Nat.zero_add]; exact (h.1.there hj' k hk).2)
    rw [hs, Nat.zero_add, Nat.zero_add] at hsw
    have hc : Chg (fun k => k = g) W ((W.setCells g (i * 17) (encL y)).setCells g (j * 17) (encL x)) := Chg.setCells (S := fun b => b = g) (L := g) rfl _ _ _ (Chg.setCells (S := fun b => b = g) (L := g) rfl _ _ _ (Chg.refl _ _))
    refine ⟨_, ?_, ⟨?_, hc.blk h.2 hne⟩, hc⟩
    · rw [hx]
      show ((Extern.ReflectliteSwapper.swap gS #[.int .i64 i, .int .i64 j, .slice (some ⟨g, 0, none⟩) n cap, typeHandle Tryz.prog 153]).run Tryz.prog W).andThen _ = _
      rw [hsw]
      rfl
    · unfold Srt.swap
      rw [hi, hj]
      exact h2
theorem lsort_small (w : World) (p : Option Addr) (n c : Nat) (hn : n ≤ 1) (bx : Nat) :
    Calls Tryz.prog 139 #[.iface 149 (.slice p n c), .func (.func 140) #[] #[.pointer (some ⟨bx, 0, none⟩)]] w fun e w' => e = .returned (.tuple #[]) ∧ Chg (fun _ => False) w w' := by
  obtain ⟨l, hl⟩ : ∃ l : List Sec, l.length = n := ⟨List.replicate n ([], 0), by simp⟩
  obtain ⟨f, hf⟩ : ∃ f, Tryz.prog.funcs.findIdx? (·.name == "internal/reflectlite" ++ ".Swapper$" ++ toString (swapperK n lsE 25)) = some f := by
    rcases (by omega : n = 0 ∨ n = 1) with rfl | rfl
    · exact ⟨202, by kernel_rfl⟩
    · exact ⟨203, by kernel_rfl⟩
  have hb : sliceBound Tryz.prog 153 lsE 25 p n c = #[] := by
    unfold sliceBound swapperK
    rcases (by omega : n = 0 ∨ n = 1) with rfl | rfl <;> simp
  have hw : Chg (fun _ => False) w (sliceWorld Tryz.prog Tryz.laysGg6_ren 149 p n c w) := Chg.of_below (((Below.refl _ _).alloc (Nat.le_refl _) _).alloc (by simp) _)
  refine Any.sort_Slice_of_pdq Tryz.laysGg6 149 153 lsT lsE (by kernel_rfl) (by kernel_rfl) (by kernel_rfl) (by kernel_rfl) 25 (fun _ => by kernel_rfl) p n c (by omega) f hf _ _ _ w _ ?_
  rw [hb]
  refine (pdq_calls (sorter_one ltL ordL 140 f #[.pointer (some ⟨bx, 0, none⟩)] #[] ofless_enters) l n _ hl (by omega) _ (by omega)).mono ?_
  rintro e w' ⟨rfl, _, _, _, _, hc⟩
  exact ⟨rfl, hw.trans hc⟩
theorem lsort_calls (w : World) (bx base g n cap : Nat) (l : List Sec) (h : RowG encL WfL 17 153 w base g n cap l) (hb : Blk w bx #[.slice (some ⟨g, 0, none⟩) n cap] 149) (hne : bx ≠ g) (h2 : 2 ≤ n) (hn : n ≤ 12) :
    Calls Tryz.prog 139 #[.iface 149 (.slice (some ⟨g, 0, none⟩) n cap), .func (.func 140) #[] #[.pointer (some ⟨bx, 0, none⟩)]] w fun e w' =>
      e = .returned (.tuple #[]) ∧ ∃ l', RowG encL WfL 17 153 w' base g n cap l' ∧ l'.Perm l ∧ (l'.Pairwise fun a b => ltL b a = false) ∧ Chg (fun k => k = g) w w' := by
  have hf : Tryz.prog.funcs.findIdx? (·.name == "internal/reflectlite" ++ ".Swapper$" ++ toString (swapperK n lsE 25)) = some 210 := by
    rw [lsK9 n h2]; kernel_rfl
  have hsb : sliceBound Tryz.prog 153 lsE 25 (some ⟨g, 0, none⟩) n cap = #[.slice (some ⟨g, 0, none⟩) n cap, typeHandle Tryz.prog 153] := by
    unfold sliceBound
    rw [lsK9 n h2]
    rfl
  have hB : Below w.heap.size w (sliceWorld Tryz.prog Tryz.laysGg6_ren 149 (some ⟨g, 0, none⟩) n cap w) := ((Below.refl _ _).alloc (Nat.le_refl _) _).alloc (by simp) _
  have hw : Chg (fun k => k = g) w (sliceWorld Tryz.prog Tryz.laysGg6_ren 149 (some ⟨g, 0, none⟩) n cap w) := Chg.of_below hB
  have S := sorter_of bx base g n cap hne 210 false (fun args W => run_callFunc_extern Tryz.func210 (by kernel_rfl) (by kernel_rfl) (by kernel_rfl) (e := Extern.ReflectliteSwapper.swap false) (by kernel_rfl) args W)
  refine Any.sort_Slice_of_pdq Tryz.laysGg6 149 153 lsT lsE (by kernel_rfl) (by kernel_rfl) (by kernel_rfl) (by kernel_rfl) 25 (fun _ => by kernel_rfl) _ n cap (by omega) _ hf _ _ _ w _ ?_
  rw [hsb]
  refine (pdq_calls S l n _ h.len.symm hn _ ⟨h.chg (S := fun _ => False) (Chg.of_below hB) (fun h => h), hw.blk hb hne⟩).mono ?_
  rintro e w' ⟨rfl, l', h1, hp, hu, hc⟩
  exact ⟨rfl, l', h1.1, hp, upto_pairwise hu (by rw [hp.length_eq, ← h.len]; exact Nat.le_refl _), hw.trans hc⟩
end Go.Proofs.YtclhgokchcklbaaGreatDoor
end
section
namespace Go.Mem
open Go Go.RowKit Gf
section
variable {P : Program} {w : World} {ops : Array Oper} {rest : List Oper} {o : Oper} {a : Act} {Q : Exit → Act → World → Prop} {K : Act → World → Prop} {E0 : Prop}
theorem wpAppN {t e : TypeId} {z : Value} {size bytes : Nat} (E : ElemK P t e z size bytes) (s x : Operand) (ho : o.op = .call { callee := .builtin .append, args := #[s, x], argTypes := #[t, t] })
    {base : Nat} {v : Value} {n m cx : Nat} {xs : List Value} (news : List Value) (hs : a.eval s = v) {mb : Nat} (hx : a.eval x = .slice (some ⟨mb, 0, none⟩) m cx) (hl : news.length = m * size) (hnews : ∀ j u, news[j]? = some u → w.cell? ⟨mb, j, none⟩ = some u) (h1 : ∀ u ∈ news, u.oneCell' = true)
    (hown : w.ownsRow base e size v n xs) (hn : n + m ≤ 4294967296) (hby : bytes ≤ 4096) (hbase : base ≤ w.heap.size)
    (h : ∀ v' w', w'.ownsRow base e size v' (n + m) (xs ++ news) ∧ w.grownBy w' v.ownBlock ∧ (∀ k, v'.ownBlock = some k → v.ownBlock = some k ∨ w.heap.size ≤ k) → K (a.put o.dst v') w') : o.wp P a w K Q := by
  obtain ⟨i, hi, hz, hsz, hb⟩ := info_parts E.info
  have hm : (n + m) * bytes ≤ 4294967296 * 4096 := Nat.mul_le_mul hn hby
  obtain ⟨v', w', hr, h2, h3, h4⟩ := run_append_own_new (P := P) w base t o.type e i z size bytes E.under hi hz hsz hb E.zsize E.pos v n xs hown ⟨mb, 0, none⟩ m cx news (by omega)
    (fun j y hj => by
      rw [show (⟨mb, 0, none⟩ : Addr).add j = ⟨mb, j, none⟩ from by unfold Addr.add; split <;> simp_all]
      exact hnews j y hj)
    h1 (by unfold maxLen; omega) (by omega) hbase
  unfold Oper.wp execOp
  simp only [ho, resolve, invoke, builtin, Sem.run_bind, Sem.run_pure, Result.andThen_ok, List.map_toArray, List.map_cons, List.map_nil, hs, hx, hr]
  exact h v' w' ⟨h2, h3, h4⟩
theorem appG_own {α : Type} {enc : α → List Value} {Wf : α → Prop} {t e : TypeId} {z : Value} {size bytes : Nat} (E : ElemK P t e z size bytes) (EC : EncK enc Wf size) (hgd : o.guard = none) (s x : Operand) (ho : o.op = .call { callee := .builtin .append, args := #[s, x], argTypes := #[t, t] })
    {base : Nat} {v : Value} {l : List α} (y : α) (hy : Wf y) (hs : a.eval s = v) {mb cx : Nat} (hx : a.eval x = .slice (some ⟨mb, 0, none⟩) 1 cx) {e' : TypeId} (hnews : Blk w mb (enc y).toArray e')
    (hown : OwnG enc Wf size e w base v l) (hn : l.length + 1 ≤ 4294967296) (hby : bytes ≤ 4096) (hbase : base ≤ w.heap.size)
    (h : ∀ v' w', OwnG enc Wf size e w' base v' (l ++ [y]) → w.grownBy w' v.ownBlock → (∀ k, v'.ownBlock = some k → v.ownBlock = some k ∨ w.heap.size ≤ k) → wpList P ops Q rest (a.put o.dst v') w') : wpList P ops Q (o :: rest) a w :=
  to_list hgd (fun _ hK => wpAppN E s x ho (enc y) hs hx (by rw [EC.len y hy, Nat.one_mul]) (fun j u hj => by rw [hnews.cell]; simpa using hj) (EC.one y) hown.own hn hby hbase hK) fun v' w' h2 => h v' w'
    ⟨by rw [List.length_append, List.length_singleton, allV_app, allV_one]; exact h2.1, fun q hq => by
      rcases List.mem_append.1 hq with hq | hq
      · exact hown.wf q hq
      · rw [List.mem_singleton.1 hq]; exact hy⟩ h2.2.1 h2.2.2
end
theorem Chg.trans_below {S : Nat → Prop} {w w' w'' : World} (h : Chg S w w') (h' : Below w'.heap.size w' w'') : Chg S w w'' := h.trans (Chg.of_below h')
theorem OwnG.ge {α : Type} {enc : α → List Value} {Wf : α → Prop} {k : Nat} {ti : TypeId} {w : World} {base : Nat} {v : Value} {l : List α} (h : OwnG enc Wf k ti w base v l) {g : Nat} (e : v.ownBlock = some g) : base ≤ g := by
  rcases h.own.2 with ⟨e1, _⟩ | ⟨g', cap, cur, e1, h1, _⟩
  · rw [e1] at e; cases e
  · rw [e1] at e; cases e; exact h1
end Go.Mem
end
section
namespace Go.Proofs.YtclhgokchcklbaaGreatDoor
open Go Go.RowKit Go.Mem Gf Lea
theorem EKl : ElemK Tryz.prog 149 153 (.agg ((List.replicate 16 (Value.int .u8 0)) ++ [Value.int .i64 0]).toArray) 17 24 := ⟨Tryz.underlying149, by kernel_rfl, rfl, by decide⟩
theorem slice_lease (dst : Option Tmp) (x : Operand) (ty : TypeId) (pos : String) (af : Array Edge) (a : Act) (w : World) (K : Act → World → Prop) (Q : Exit → Act → World → Prop) (hy : aggIs (a.eval x) = true) (hc : AllK 17 (aggL (a.eval x))) :
    Oper.wp Tryz.prog ⟨dst, .buildSlice 149 1 #[(0, x)], ty, pos, af, none⟩ a w K Q = K (a.put dst (.slice (some ⟨w.heap.size, 0, none⟩) 1 1)) (w.alloc (.cells (aggL (a.eval x)).toArray 153)) :=
  wp_sliceK Tryz.underlying149 (by kernel_rfl) (by decide) (by decide) dst x ty pos af a w K Q hy hc
theorem itemLease {x : Les} (h : Wf x) : cutC (cellsI x).toArray 16 17 = encL (x.sec, x.e) := by
  have h1 : (bV x.ix).length = 16 := by rw [bV_len]; exact h.1
  have h2 : (bV x.sec).length = 16 := by rw [bV_len]; exact h.2
  unfold cutC cellsI encL
  rw [List.toList_toArray, List.append_assoc, List.drop_append_of_le_length (by omega), List.drop_of_length_le (by omega), List.nil_append, List.take_of_length_le (by simp; omega)]
theorem ofL_succ {l : List Les} {i : Nat} {x : Les} (hx : l[i]? = some x) (ix : Key) : ofL (l.take (i + 1)) ix = ofL (l.take i) ix ++ if x.ix = ix then [(x.sec, x.e)] else [] := by
  rw [List.take_add_one, hx, Option.toList_some, ofL_app]
  congr 1
  unfold ofL
  by_cases c : x.ix = ix <;> simp [c]
attribute [local go_sem ↓] Go.wp_at_zero Go.wp_at_succ
attribute [local go_sem ↓] load_key load_item store_item load_lease slice_lease
attribute [local go_sem] ptrB_eq ptrO_eq ptrIs_eq aggL_eq aggIs_eq readK_drew hasK_drew readK_alloc_past hasK_alloc_past readK_alloc_in hasK_alloc_in setCells_drew setCells_alloc_past setCells_alloc_at
set_option maxRecDepth 100000 in
set_option maxHeartbeats 1000000 in
theorem of_calls (w : World) (tb : Nat) (v : Value) (l : List Les) (ix : Key) (h : LTab w tb v l) (hl : l.length ≤ 100000) (hix : ix.length = 16) (h8 : (ofL l ix).length ≤ 12) :
    Calls Tryz.prog 88 #[.pointer (some ⟨tb, 0, none⟩), .agg (bV ix).toArray] w fun e w' => ∃ vo out, e = .returned vo ∧ OwnG encL WfL 17 153 w' w.heap.size vo out ∧ OfR l ix out ∧ Below w.heap.size w w' := by
  have hcell : w.cell? ⟨tb, 0, none⟩ = some v := by simpa using h.cell.cell 0
  have htb := h.cell.lt
  have htb1 : tb < w.heap.size + 1 := by omega
  obtain ⟨a0, c0, hv, hg⟩ := own_eq_slice h.own
  obtain ⟨n, hn⟩ : ∃ n, n = l.length := ⟨_, rfl⟩
  rw [← hn] at hl
  have H := Lib.hid (And.intro h (And.intro hn (And.intro hv hg)))
  rw [hv, ← hn] at hcell
  have H8 := Lib.hid h8
  clear h hn hv hg h8
  go_enter Tryz.func88, Tryz.ntmps88
  go_upto_region 3 with fail
  have hB0 : Below w.heap.size w ((w.alloc (.cells (bV ix).toArray 44)).alloc (.cells #[.slice none 0 0] 149)) := ((Below.refl _ _).alloc (Nat.le_refl _) _).alloc (by simp) _
  have hk1 : Blk ((w.alloc (.cells (bV ix).toArray 44)).alloc (.cells #[.slice none 0 0] 149)) w.heap.size (bV ix).toArray 44 := (Blk.new _ _ _).alloc _
  have hk2 : Blk ((w.alloc (.cells (bV ix).toArray 44)).alloc (.cells #[.slice none 0 0] 149)) (w.heap.size + 1) #[.slice none 0 0] 149 := Blk.new_at _ _ _ _ (by simp)
  obtain ⟨w0, hw0⟩ : ∃ x, x = (w.alloc (.cells (bV ix).toArray 44)).alloc (.cells #[.slice none 0 0] 149) := ⟨_, rfl⟩
  have hsz : w0.heap.size = w.heap.size + 2 := by rw [hw0]; simp
  rw [← hw0] at hB0 hk1 hk2 ⊢
  clear hw0
  obtain ⟨p3, hp3⟩ : ∃ p, p = w.heap.size := ⟨_, rfl⟩
  obtain ⟨p5, hp5⟩ : ∃ p, p = w.heap.size + 1 := ⟨_, rfl⟩
  rw [← hp5] at hk2 ⊢
  rw [← hp3] at hk1 ⊢
  have HP := Lib.hid (And.intro hp3 (And.intro hp5 (And.intro hsz hB0)))
  clear hp3 hp5 hsz hB0
  go_loopw [13] (fun vi wr => ∃ (i : Nat) (a5 : Option Addr) (n5 c5 : Nat), i ≤ n ∧ vi = .int .i64 i ∧ Hid (OwnG encL WfL 17 153 wr (p5 + 1) (.slice a5 n5 c5) (ofL (l.take i) ix) ∧ Blk wr p3 (bV ix).toArray 44 ∧ Blk wr p5 #[.slice a5 n5 c5] 149 ∧ Chg (fun k => w.heap.size ≤ k) w wr)) (fun vi _ => n - (intOf vi).toNat)
  case atStart => exact ⟨0, none, 0, 0, Nat.zero_le _, rfl, OwnG.nil _ _ _ _ _ _, hk1, hk2, Chg.of_below HP.out.2.2.2⟩
  case round =>
    obtain ⟨i, a5, n5, c5, hi0, rfl, G⟩ := hrel
    have l5 := G.out.2.2.1.lt
    have q5 : wr.cell? ⟨p5, 0, none⟩ = some (.slice a5 n5 c5) := by simpa using G.out.2.2.1.cell 0
    by_cases hin : i < n
    · obtain ⟨g, rfl⟩ := H.out.2.2.2 (by have := H.out.2.1; omega)
      have hrow := (H.out.1.row H.out.2.1.symm (by rw [H.out.2.1]; exact H.out.2.2.1)).below (G.out.2.2.2.below (Nat.le_refl _) (fun _ h => h))
      have hx : l[i]? = some (l[i]'(by have := H.out.2.1; omega)) := by simp
      generalize l[i]'(by have := H.out.2.1; omega) = x at hx
      have hwx := hrow.wf x (List.mem_of_getElem? hx)
      have rx : readK 33 wr g (i * 33) = cellsI x := readK_eq (hrow.range hx) (cellsI_len hwx)
      have t1 : HasK 33 wr g (i * 33) := hrow.there hin
      have ax := allI_cells hwx
      have lx := cellsI_len hwx
      have k1 := (itemKey hwx).1
      have k2 := itemLease hwx
      have gl : g < wr.heap.size := hrow.lt
      have r3 : readK 16 wr p3 0 = bV ix := blk_read0 G.out.2.1 (by rw [bV_len, hix])
      have h3 : HasK 16 wr p3 0 := blk_has G.out.2.1 (by simp [bV_len, hix])
      have l3 := G.out.2.1.lt
      have e1 := eq_key x.ix ix hwx.1 hix
      have i0 : (0 : Int) ≤ (i : Int) := by omega
      have i1 : (i : Int) < (n : Int) := by omega
      have hs := ofL_succ hx ix
      have HX := Lib.hid (And.intro hx hs)
      have wl : WfL (x.sec, x.e) := hwx.2
      have al := allL wl
      obtain ⟨cx, hcx⟩ : ∃ c, c = cellsI x := ⟨_, rfl⟩
      rw [← hcx] at rx ax lx k1 k2
      obtain ⟨y, hy⟩ : ∃ y, y = (x.sec, x.e) := ⟨_, rfl⟩
      have HY := Lib.hid hy
      rw [← hy] at k2 wl al
      obtain ⟨cy, hcy⟩ : ∃ c, c = encL y := ⟨_, rfl⟩
      have HC := Lib.hid hcy
      rw [← hcy] at k2 al
      have hend : Chg (fun k => w.heap.size ≤ k) w (wr.alloc (.cells cx.toArray 191)) := G.out.2.2.2.trans_below ((Below.refl _ _).alloc (Nat.le_refl _) _)
      have HE := Lib.hid hend
      have hown : OwnG encL WfL 17 153 (wr.alloc (.cells cx.toArray 191)) (p5 + 1) (.slice a5 n5 c5) (ofL (l.take i) ix) := G.out.1.chg (S := fun _ => False) (Chg.of_below ((Below.refl _ _).alloc (Nat.le_refl _) _)) (fun _ _ h => h)
      have HO := Lib.hid hown
      clear hrow hx hcx hs hend hown hy hcy
      by_cases c1 : x.ix = ix
      · have d1 : decide (x.ix = ix) = true := by simpa using c1
        have hs := HX.out.2
        rw [if_pos c1] at hs
        have HS := Lib.hid hs
        replace c1 := Lib.hid c1
        clear hs
        have hle : (ofL (l.take i) ix).length + 1 ≤ 4294967296 := by
          have h1 : (ofL (l.take i) ix).length ≤ (l.take i).length := by unfold ofL; rw [List.length_map]; exact List.length_filter_le _ _
          rw [List.length_take] at h1
          omega
        have HLE := Lib.hid hle
        clear hle
        go_wp2_with
          (first
            | (refine appG_own EKl ecL (by rfl) _ _ (by rfl) (base := p5 + 1) (v := .slice a5 n5 c5) (l := ofL (l.take i) ix) (cx := 1) (e' := 153) y wl (by rfl) (by rfl) (by rw [← HC.out]; exact Blk.new_at _ _ _ _ (by simp)) (HO.out.chg (S := fun _ => False) (Chg.of_below ((Below.refl _ _).alloc (Nat.le_refl _) _)) (fun _ _ h => h)) HLE.out (by decide) (by simp; omega) ?_
               intro v1 x1 hv1 hg1 hs1
               obtain ⟨a1, n1, rfl⟩ := hv1.slice
               have hB1 : Blk x1 p5 #[.slice a5 n5 c5] 149 := Blk.grown' ((G.out.2.2.1.alloc _).alloc _) hg1 (fun e => by have := G.out.1.ge e; omega)
               have hh : x1.cell? ⟨p5, 0, none⟩ = some (.slice a5 n5 c5) := by simpa using hB1.cell 0
               have f2 : x1.frozen? ⟨p5, 0, none⟩ = false := hB1.free 0
               have HV1 := Lib.hid hv1; have HG1 := Lib.hid hg1; have HS1 := Lib.hid hs1; have HB1 := Lib.hid hB1
               clear hv1 hg1 hs1 hB1)
            | fail)
        have hv := HV1.out
        rw [List.length_append, List.length_singleton] at hv
        have hp3 : p3 < p5 := by rw [HP.out.1, HP.out.2.1]; omega
        have hp5 : w.heap.size ≤ p5 := by rw [HP.out.2.1]; omega
        refine ⟨⟨i + 1, a1, _, n1, by omega, by simp, ?_, ?_, HB1.out.set 0 _, ?_⟩, by show n - ((i : Int) + 1).toNat < n - (i : Int).toNat; omega⟩
        · rw [HS.out, ← HY.out]
          exact hv.chg (chg_cell x1 p5 0 _) (fun q hq e => by have := hv.ge hq; omega)
        · exact (Blk.grown' ((G.out.2.1.alloc _).alloc _) HG1.out (fun e => by have := G.out.1.ge e; omega)).set_other (fun e => by have e' : p5 = p3 := e; omega) _
        · exact ((HE.out.trans_below ((Below.refl _ _).alloc (Nat.le_refl _) _)).grown HG1.out (fun q hq => by left; have := G.out.1.ge hq; omega)).set (a := ⟨p5, 0, none⟩) hp5 _
      · have d1 : decide (x.ix = ix) = false := by simpa using c1
        have hs := HX.out.2
        rw [if_neg c1, List.append_nil] at hs
        have HS := Lib.hid hs
        clear c1 hs
        go_wp2_with fail
        exact ⟨⟨i + 1, a5, n5, c5, by omega, by simp, by rw [HS.out]; exact HO.out, G.out.2.1.alloc _, G.out.2.2.1.alloc _, HE.out⟩, by show n - ((i : Int) + 1).toNat < n - (i : Int).toNat; omega⟩
    · go_wp2_with fail
      have hfull : ofL (l.take i) ix = ofL l ix := by rw [List.take_of_length_le (by have := H.out.2.1; omega)]
      have hown := G.out.1
      rw [hfull] at hown
      have hlen : n5 = (ofL l ix).length := by
        obtain ⟨_, _, e⟩ := hown.slice
        cases e; rfl
      have hB := G.out.2.2.2.below (Nat.le_refl _) (fun _ h => h)
      have hp5 : w.heap.size ≤ p5 := by rw [HP.out.2.1]; omega
      have HO := Lib.hid (And.intro hown (And.intro hlen (And.intro hB hp5)))
      clear hown hlen hB hp5 hfull
      by_cases h2 : 2 ≤ n5
      · obtain ⟨g5, c5', e5, hrow⟩ := HO.out.1.ex (by rw [← HO.out.2.1]; omega)
        injection e5 with ea en ec
        subst ea
        subst ec
        rw [← HO.out.2.1] at hrow
        clear en
        have HR := Lib.hid hrow
        have hne : p5 ≠ g5 := fun e => by have := HO.out.1.ge (g := g5) rfl; omega
        clear hrow
        refine (lsort_calls wr p5 (p5 + 1) g5 n5 c5 (ofL l ix) HR.out G.out.2.2.1 hne h2 (by rw [HO.out.2.1]; exact H8.out)).mono ?_
        rintro e w2 ⟨rfl, out, hr2, hp2, hs2, hc2⟩
        have hb2 := hc2.blk G.out.2.2.1 hne
        have q2 : w2.cell? ⟨p5, 0, none⟩ = some (.slice (some ⟨g5, 0, none⟩) n5 c5) := by simpa using hb2.cell 0
        have H2 := Lib.hid (And.intro hr2 (And.intro hp2 (And.intro hs2 hc2)))
        clear hr2 hp2 hs2 hc2 hb2
        go_wp2_with fail
        go_ret
        refine ⟨_, out, rfl, H2.out.1.to.lower (by have := HO.out.2.2.2; omega), ⟨H2.out.2.1, H2.out.2.2.1⟩, ?_⟩
        exact ((Chg.of_below (S := fun k => w.heap.size ≤ k) HO.out.2.2.1).mix H2.out.2.2.2 (fun k hk => .inl (by have := HO.out.1.ge (g := g5) rfl; have := HO.out.2.2.2; omega))).below (Nat.le_refl _) (fun _ h => h)
      · refine (lsort_small wr a5 n5 c5 (by omega) p5).mono ?_
        rintro e w2 ⟨rfl, hc2⟩
        have hb2 := hc2.blk G.out.2.2.1 (fun h => h)
        have q2 : w2.cell? ⟨p5, 0, none⟩ = some (.slice a5 n5 c5) := by simpa using hb2.cell 0
        have H2 := Lib.hid hc2
        clear hc2 hb2
        go_wp2_with fail
        go_ret
        refine ⟨_, ofL l ix, rfl, (HO.out.1.chg H2.out (fun _ _ h => h)).lower (by have := HO.out.2.2.2; omega), ⟨List.Perm.refl _, ?_⟩, ?_⟩
        · rw [List.pairwise_iff_getElem]
          intro p q hp hq hpq
          have := HO.out.2.1
          omega
        · exact ((Chg.of_below (S := fun k => w.heap.size ≤ k) HO.out.2.2.1).mix H2.out (fun k hk => hk.elim)).below (Nat.le_refl _) (fun _ h => h)
end Go.Proofs.YtclhgokchcklbaaGreatDoor
end
