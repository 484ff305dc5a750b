/- Texts of this proof, packed: SrvNew, SortG, LeaKeys, LeaBare, SrvIdx, SrvRest, SrvReqB, SrvLab, SrvTell, SrvOne, SrvWake, SrvFind. -/
import Derived.Test.YtbbojbdigiibbaaGreatDoorPk12
import Derived.Test.YtbbojbdigiibbaaGreatDoorPk07
import Derived.Shelf.GgSortFunc.InsertionK
import Derived.Test.YtbbojbdigiibbaaGreatDoorPk08
import Derived.Test.YtbbojbdigiibbaaGreatDoorPk02
import Derived.Great.FillDense
section
namespace Go.Mem
open Go Go.RowKit Gf Lea Go.Proofs.YtbbojbdigiibbaaGreatDoor
def freshS (slots room : Nat) : SrvS := ⟨slots, room, ⟨room, List.replicate slots Sto.Rec.free, false, .fresh (slots * (room + 1))⟩, [], false⟩
theorem freshS_good (slots room : Nat) (h : 1 ≤ room ∧ room ≤ 1000) (h2 : slots ≤ 120) : SrvG 0 (freshS slots room) ∧ (∀ nm, Sto.look (freshS slots room).st.recs nm = none) ∧ (freshS slots room).st.disk.stops = false :=
  ⟨⟨SLive.fresh slots room h, Lea.Good.nil, (fun _ h => by cases h), fun ix _ => .inl ⟨look_free _ _, rfl⟩, rfl, by show slots = (List.replicate slots Sto.Rec.free).length; rw [List.length_replicate], rfl, h2⟩, fun nm => look_free _ _, rfl⟩
end Go.Mem
namespace Go.Proofs.YtbbojbdigiibbaaGreatDoor
open Go Go.RowKit Go.Mem Gf Lea
attribute [local go_sem ↓] Go.wp_at_zero Go.wp_at_succ
theorem srvnew_is {w w2 w3 w4 : World} {sb lb d L tb : Nat} {slots room : Nat} (hS : LabS w w2 sb lb d L ⟨room, List.replicate slots Sto.Rec.free, false, .fresh (slots * (room + 1))⟩) (h1 : w2.heap.size ≤ tb) (h2 : Heap w3 tb (.slice none 0 0) []) (hb : Below w2.heap.size w2 w3)
    (hw : w4 = w3.alloc (.cells (srvV slots room d sb tb false) 95)) :
    ∃ C, IsSrv w4 C (fun _ => False) w3.heap.size (freshS slots room) ∧ (∀ b, C b → w.heap.size ≤ b) ∧ Below w.heap.size w w4 := by
  have hs2 := hS.bel.size
  have hs3 := hb.size
  have hlt := hS.st.lt
  have htl := h2.tab.cell.lt
  have hb4 : Below w3.heap.size w3 w4 := by rw [hw]; exact (Below.refl _ _).alloc (Nat.le_refl _) _
  have hb24 : Below w2.heap.size w2 w4 := hb.trans (hb4.mono hs3)
  have h4 : w4.heap.size = w3.heap.size + 1 := by rw [hw]; simp
  refine ⟨fun b => (DL d L b ∨ b = sb ∨ b = lb) ∨ b = tb ∨ b = w3.heap.size, ⟨sb, lb, d, L, tb, .slice none 0 0, ?_, ?_, h2.below hb4, Lea.Good.nil, ?_, (fun _ h => h.elim), ?_, ?_, (fun g hg => by cases hg)⟩, ?_, hS.bel.trans (hb24.mono hs2)⟩
  · rw [hw]; exact Blk.new _ _ _
  · refine hS.st.grow (S := fun _ => False) (Chg.of_below hb24) (fun _ _ h => h) (fun _ h => h.elim) (fun b hM => ?_) (fun b hN => .inl (.inl hN)) (fun b hM => ?_)
    · rcases hM with (hM | rfl | rfl) | hM
      · exact .inl hM
      · exact .inr h1
      · exact .inr hs3
      · exact hM.elim
    · rcases hM with (hM | rfl | rfl) | hM
      · have := hS.st.old b hM; omega
      · omega
      · omega
      · exact hM.elim
  · rintro b (hf | rfl | rfl | hv)
    · left
      rcases hf with rfl | rfl | rfl | rfl
      · exact .inr (.inl rfl)
      · exact .inr (.inr rfl)
      · exact .inl (.inl rfl)
      · exact .inl (.inr rfl)
    · exact .inr (.inr rfl)
    · exact .inr (.inl rfl)
    · cases hv
  · intro hf
    have := hlt _ hf; omega
  · exact ⟨fun hf => by have := hlt _ hf; omega, by omega⟩
  · rintro b ((hM | rfl | rfl) | rfl | rfl)
    · rcases hM with rfl | rfl
      · exact hS.d1
      · exact hS.l1
    · exact hS.s1
    · exact hS.b1
    · omega
    · omega
set_option maxRecDepth 100000 in
set_option maxHeartbeats 1000000 in
theorem srvnew_calls (slots room : Nat) (w : World) (hT : Tab w) (h1 : 1 ≤ slots ∧ slots ≤ 1024) (h2 : 1 ≤ room ∧ room ≤ 1024) (h3 : slots * (room + 1) ≤ 4096) :
    Calls Tryz.prog 14 #[.int .i64 slots, .int .i64 room] w fun e w' => ∃ pb C, e = .returned (.tuple #[.pointer (some ⟨pb, 0, none⟩), .int .i64 0]) ∧ IsSrv w' C (fun _ => False) pb (freshS slots room) ∧ (∀ b, C b → w.heap.size ≤ b) ∧ Below w.heap.size w w' := by
  obtain ⟨m, hmm⟩ : ∃ m, m = slots * (room + 1) := ⟨_, rfl⟩
  have q1 : IntKind.i64.wrap ((room : Int) + 1) = (room : Int) + 1 := IntWalk.i64_in _ (by omega)
  have q2 : IntKind.i64.wrap ((slots : Int) * ((room : Int) + 1)) = (m : Int) := by
    have e2 : (slots : Int) * ((room : Int) + 1) = (m : Int) := by rw [hmm]; push_cast; rfl
    rw [e2]
    exact IntWalk.i64_in _ (by omega)
  have hm1 : 1 ≤ m := by rw [hmm]; exact Nat.mul_pos (by omega) (by omega)
  rw [← hmm] at h3
  have i1 : decide ((slots : Int) < 1) = false := by simp; omega
  have i2 : decide ((room : Int) < 1) = false := by simp; omega
  have i3 : decide (4096 < (slots : Int)) = false := by simp; omega
  have i4 : decide (4096 < (room : Int)) = false := by simp; omega
  have i1' : decide (slots < 1) = false := by simp; omega
  have i2' : decide (room < 1) = false := by simp; omega
  have i3' : decide (4096 < slots) = false := by simp; omega
  have i4' : decide (4096 < room) = false := by simp; omega
  have HM := Lib.hid hmm
  have HT := Lib.hid hT
  have HA := Lib.hid (And.intro h1 (And.intro h2 (And.intro h3 hm1)))
  clear hmm hT h1 h2 h3 hm1
  go_enter Tryz.func14, Tryz.ntmps14
  go_wp2_with fail
  refine (lab_new m w w HT.out (Below.refl _ _) HA.out.2.2.2 HA.out.2.2.1).mono ?_
  rintro e w1 ⟨d, L, rfl, hl1, ht, _⟩
  have H1 := Lib.hid (And.intro ht hl1)
  clear ht hl1
  go_wp2_with fail
  refine (lab_open_uniq H1.out.2 H1.out.1 (slots := slots) (room := room) HA.out.1 HA.out.2.1 (by show 0 < _; omega) (l := List.replicate slots Sto.Rec.free) List.length_replicate (by rw [HM.out]; exact Holds.fresh slots room) rfl (uniq_free slots)).mono ?_
  rintro e w2 ⟨sb, lb, rfl, hs2, _⟩
  have H2 := Lib.hid hs2
  clear hs2
  go_wp2_with fail
  refine (new_calls w2).mono ?_
  rintro e w3 ⟨tb, rfl, hn1, hn2, hn3⟩
  have H3 := Lib.hid (And.intro hn1 (And.intro hn2 hn3))
  clear hn1 hn2 hn3
  go_wp2_with fail
  go_ret2
  obtain ⟨C, a1, a2, a3⟩ := srvnew_is (by have := H2.out; rw [HM.out] at this; exact this) H3.out.1 H3.out.2.1 H3.out.2.2 rfl
  exact ⟨w3.heap.size, C, rfl, a1, a2, a3⟩
end Go.Proofs.YtbbojbdigiibbaaGreatDoor
end
section
namespace Go.Mem
open Go Go.RowKit Gf Go.Sort
section
variable {α : Type} {enc : α → List Value} {Wf : α → Prop} {k : Nat} {ti : TypeId} {w : World} {base g n cap : Nat} {l : List α} [Inhabited {x : α // Wf x}]
omit [Inhabited {x : α // Wf x}] in
theorem toS (hwf : ∀ x ∈ l, Wf x) : ∃ d : Array {x : α // Wf x}, d.toList.map (·.1) = l := by
  refine ⟨(l.pmap Subtype.mk hwf).toArray, ?_⟩
  rw [List.toList_toArray, List.map_pmap]
  simp
def encSub (enc : α → List Value) (Wf : α → Prop) (x : {x : α // Wf x}) : List Value := enc x.1
theorem flat_all (E : EncK enc Wf k) (d : Array {x : α // Wf x}) {j : Nat} (hj : j < d.size * k) : (allV enc (d.toList.map (·.1)))[j]? = some (flatK (encSub enc Wf) k d)[j]! := by
  have e := Nat.div_add_mod' j k
  have hr := Nat.mod_lt j E.pos
  have hq : j / k < d.size := Nat.div_lt_of_lt_mul (by rw [Nat.mul_comm]; exact hj)
  have hx : (d.toList.map (·.1))[j / k]? = some (d[j / k]!).1 := by
    rw [List.getElem?_map, Array.getElem?_toList, getElem!_pos d _ hq, Array.getElem?_eq_getElem hq]; rfl
  have hwf : ∀ x ∈ d.toList.map (·.1), Wf x := fun x hx => by
    obtain ⟨y, _, rfl⟩ := List.mem_map.1 hx
    exact y.2
  have := allV_get E _ hwf (j / k) _ hx (j % k) hr
  rw [e] at this
  rw [this, get_flatK _ _ _ _ hj]
  have hl := E.len _ (d[j / k]!).2
  unfold encSub
  generalize d[j / k]! = y at *
  have hl' : j % k < (enc y.1).length := by omega
  rw [getElem!_pos (enc y.1) (j % k) hl', List.getElem?_eq_getElem hl']
theorem RowG.holds (E : EncK enc Wf k) (h : RowG enc Wf k ti w base g n cap l) (d : Array {x : α // Wf x}) (hd : d.toList.map (·.1) = l) : HoldsK (encSub enc Wf) k w g 0 d := by
  have hn : d.size = n := by rw [h.len, ← hd]; simp
  intro j hj
  rw [size_flatK] at hj
  rw [Nat.zero_add]
  refine ⟨?_, ?_⟩
  · rw [h.cell (by rw [← hn]; exact hj), ← hd, flat_all E d hj]; rfl
  · obtain ⟨cur, hh, _⟩ := h.block
    have hB : Blk w g cur ti := hh
    exact hB.free _
theorem RowG.put (E : EncK enc Wf k) (h : RowG enc Wf k ti w base g n cap l) (m : Nat) (os : Array Obj) (d : Array {x : α // Wf x}) (hd : d.size = n) :
    RowG enc Wf k ti (grow (putRowK (encSub enc Wf) k (Sort.ahead w m) g 0 d) os) base g n cap (d.toList.map (·.1)) ∧ Chg (fun b => b = g) w (grow (putRowK (encSub enc Wf) k (Sort.ahead w m) g 0 d) os) := by
  obtain ⟨cur, hh, hb, h1, h2, h3, h4⟩ := h.block
  have hg : g < w.heap.size := lt_of_block hh
  have hlen : (d.toList.map (·.1)).length = n := by simp [hd]
  have hwf : ∀ x ∈ d.toList.map (·.1), Wf x := fun x hx => by
    obtain ⟨y, _, rfl⟩ := List.mem_map.1 hx
    exact y.2
  have hal := allV_len E _ hwf
  rw [hlen] at hal
  have hm : n * k ≤ cap * k := Nat.mul_le_mul_right _ h1
  refine ⟨⟨⟨hal, .inr ⟨g, cap, putCells id 0 (flatK (encSub enc Wf) k d) cur, rfl, hb, ?_, h1, h2, by rw [← h3]; simp [putCells], ?_⟩⟩, hlen.symm, hwf⟩, ⟨rfl, rfl, rfl, ?_, fun b hbs hne => ?_⟩⟩
  · rw [heap_grow_old _ _ (by unfold putRowK; rw [size_putRow]; exact hg)]
    show ((w.heap).modify g (onCells _))[g]? = _
    rw [Array.getElem?_modify, if_pos rfl, hh]; rfl
  · apply List.ext_getElem?
    intro j
    rw [List.getElem?_take, Array.getElem?_toList]
    by_cases hj : j < n * k
    · rw [if_pos hj, flat_all E d (by rw [hd]; exact hj)]
      have hjc : j < cur.size := by omega
      unfold putCells
      rw [Array.getElem?_mapIdx, Array.getElem?_eq_getElem hjc, Option.map_some, if_pos ⟨Nat.zero_le _, by rw [size_flatK, hd]; omega⟩]
      rfl
    · rw [if_neg hj, List.getElem?_eq_none (by omega)]
  · rw [size_grow]
    unfold putRowK
    rw [size_putRow]
    exact Nat.le_add_right _ _
  · rw [heap_grow_old _ _ (by unfold putRowK; rw [size_putRow]; exact hbs)]
    show ((w.heap).modify g (onCells _))[b]? = _
    rw [Array.getElem?_modify, if_neg (fun e => hne e.symm)]
theorem permIn_perm {d d' : Array {x : α // Wf x}} (h : PermIn 0 d.size d d') : (d'.toList.map (·.1)).Perm (d.toList.map (·.1)) := by
  have h2 := h.2.2
  have e1 : d.extract 0 d.size = d := by simp
  have e2 : d'.extract 0 d.size = d' := by rw [← h.1]; simp
  rw [e1, e2] at h2
  exact h2.map _
theorem sortedIn_pairwise {lt : α → α → Bool} {d : Array {x : α // Wf x}} {m : Nat} (hm : d.size = m) (h : SortedIn (fun a b => lt a.1 b.1) 0 m d) : (d.toList.map (·.1)).Pairwise fun a b => lt b a = false := by
  rw [List.pairwise_iff_getElem]
  intro i j hi hj hij
  simp at hi hj
  have := h i j (Nat.zero_le _) hij (by omega)
  rw [getElem!_pos d i hi, getElem!_pos d j hj] at this
  simpa using this
end
end Go.Mem
end
section
namespace Go.Proofs.YtbbojbdigiibbaaGreatDoor
open Go Go.RowKit Go.Mem Gf Lea Go.Lib Go.Shelf
def WfK (k : Key) : Prop := k.length = 16
instance : Inhabited {k : Key // WfK k} := ⟨⟨List.replicate 16 0, by unfold WfK; simp⟩⟩
attribute [local go_sem ↓] Go.wp_at_zero Go.wp_at_succ
end Go.Proofs.YtbbojbdigiibbaaGreatDoor
end
section
namespace Go.Proofs.YtbbojbdigiibbaaGreatDoor
open Go Go.RowKit Go.Mem Gf Lea
section
variable {l : List Les} {ks R : List Key} {i : Nat} {x : Key}
theorem mem_take_succ (hx : ks[i]? = some x) (k : Key) : k ∈ ks.take (i + 1) ↔ k ∈ ks.take i ∨ k = x := by
  rw [List.take_add_one, hx, Option.toList_some, List.mem_append, List.mem_singleton]
end
theorem store_key (dst : Option Tmp) (x y : Operand) (ty : TypeId) (pos : String) (af : Array Edge) (a : Act) (w : World) (K : Act → World → Prop) (Q : Exit → Act → World → Prop)
    (hp : ptrIs (a.eval x) = true) (hy : aggIs (a.eval y) = true) (ht : HasK 16 w (ptrB (a.eval x)) (ptrO (a.eval x))) (hc : AllK 16 (aggL (a.eval y))) :
    Oper.wp Tryz.prog ⟨dst, .store 39 x y, ty, pos, af, none⟩ a w K Q = K (a.put dst undef) (w.setCells (ptrB (a.eval x)) (ptrO (a.eval x)) (aggL (a.eval y))) :=
  wp_storeK i16 dst x y ty pos af a w K Q hp hy ht hc
attribute [local go_sem ↓] Go.wp_at_zero Go.wp_at_succ
attribute [local go_sem ↓] load_key store_key
attribute [local go_sem] ptrB_eq ptrO_eq ptrIs_eq aggL_eq aggIs_eq readK_drew hasK_drew readK_alloc_past hasK_alloc_past readK_alloc_in hasK_alloc_in setCells_drew setCells_alloc_past setCells_alloc_at
end Go.Proofs.YtbbojbdigiibbaaGreatDoor
end
section
namespace Go.Mem
open Go Go.RowKit Gf Lea Go.Proofs.YtbbojbdigiibbaaGreatDoor
end Go.Mem
namespace Go.Proofs.YtbbojbdigiibbaaGreatDoor
open Go Go.RowKit Go.Mem Gf Lea Go.Sort
attribute [local go_sem ↓] Go.wp_at_zero Go.wp_at_succ
attribute [local go_sem ↓] load_keyS
attribute [local go_sem] ptrB_eq ptrO_eq ptrIs_eq aggL_eq aggIs_eq readK_drew someK_drew readK_alloc_past
end Go.Proofs.YtbbojbdigiibbaaGreatDoor
end
section
namespace Go.Mem
open Go Go.RowKit Gf Lea Go.Proofs.YtbbojbdigiibbaaGreatDoor
theorem nodup_at {R : List Key} (h : R.Nodup) {i j : Nat} {x : Key} (hi : R[i]? = some x) (hj : R[j]? = some x) : i = j := by
  have h1 := some_lt hi
  have h2 := some_lt hj
  rw [List.getElem?_eq_getElem h1] at hi
  rw [List.getElem?_eq_getElem h2] at hj
  rcases Nat.lt_trichotomy i j with c | c | c
  · have := List.pairwise_iff_getElem.1 h i j h1 h2 c
    cases hi; injection hj with hj; exact absurd hj.symm this
  · exact c
  · have := List.pairwise_iff_getElem.1 h j i h2 h1 c
    cases hj; injection hi with hi; exact absurd hi.symm this
structure RestI (f : Look) (R : List Key) (i : Nat) (lt : List Les) : Prop where
  good : Lea.Good lt
  len : lt.length ≤ 8 * i
  ixs : ∀ x ∈ lt, x.ix ∈ R.take i
  tab : ∀ ix ∈ R.take i, (f (leaseN ix) = none ∧ ofL lt ix = []) ∨ ∃ out, f (leaseN ix) = some (packL out) ∧ OfR lt ix out ∧ out ≠ []
theorem RestI.zero (f : Look) (R : List Key) : RestI f R 0 [] := ⟨Lea.Good.nil, Nat.le_refl _, (fun _ h => by cases h), fun ix h => by simp at h⟩
theorem RestI.none {f : Look} {R : List Key} {i : Nat} {lt : List Les} (h : RestI f R i lt) (hnd : R.Nodup) {x : Key} (hx : R[i]? = some x) (hf : f (leaseN x) = none) : RestI f R (i + 1) lt := by
  have hxi : x ∉ R.take i := fun hm => by
    obtain ⟨j, hj⟩ := List.mem_iff_getElem?.1 hm
    rw [List.getElem?_take] at hj
    split at hj
    · have := nodup_at hnd hj hx
      omega
    · cases hj
  refine ⟨h.good, Nat.le_trans h.len (by omega), fun y hy => (mem_take_succ hx _).2 (.inl (h.ixs y hy)), fun ix hm => ?_⟩
  rcases (mem_take_succ hx ix).1 hm with hm | rfl
  · exact h.tab ix hm
  · exact .inl ⟨hf, ofL_nil.2 fun y hy e => hxi (by rw [← e]; exact h.ixs y hy)⟩
theorem RestI.some {f : Look} {R : List Key} {i : Nat} {lt l' : List Les} (h : RestI f R i lt) (hnd : R.Nodup) {x : Key} (hx : R[i]? = some x) {out : List Sec} (hf : f (leaseN x) = some (packL out)) (ho : LeOk out) (hg : Lea.Good l') (hp : l'.Perm (lt ++ itemsS x out)) : RestI f R (i + 1) l' ∧ ∀ y ∈ lt, y.ix ≠ x := by
  have hxi : x ∉ R.take i := fun hm => by
    obtain ⟨j, hj⟩ := List.mem_iff_getElem?.1 hm
    rw [List.getElem?_take] at hj
    split at hj
    · have := nodup_at hnd hj hx
      omega
    · cases hj
  have hlt : ∀ y ∈ lt, y.ix ≠ x := fun y hy e => hxi (by rw [← e]; exact h.ixs y hy)
  refine ⟨⟨hg, ?_, fun y hy => ?_, fun ix hm => ?_⟩, hlt⟩
  · rw [hp.length_eq, List.length_append]
    have h1 : (itemsS x out).length = out.length := by unfold itemsS; rw [List.length_map]
    have h2 := ho.few
    have h3 := h.len
    omega
  · rcases List.mem_append.1 (hp.mem_iff.1 hy) with hy | hy
    · exact (mem_take_succ hx _).2 (.inl (h.ixs y hy))
    · obtain ⟨s, _, rfl⟩ := List.mem_map.1 hy
      exact (mem_take_succ hx _).2 (.inr rfl)
  · rcases (mem_take_succ hx ix).1 hm with hm | rfl
    · have hne : ix ≠ x := fun e => hxi (by rw [← e]; exact hm)
      have hpe : (ofL l' ix).Perm (ofL lt ix) := by
        refine (ofL_perm hp ix).trans ?_
        rw [ofL_app]
        have : ofL (itemsS x out) ix = [] := ofL_nil.2 fun y hy => by
          obtain ⟨s, _, rfl⟩ := List.mem_map.1 hy
          exact fun e => hne e.symm
        rw [this, List.append_nil]
      rcases h.tab ix hm with ⟨a1, a2⟩ | ⟨o, a1, a2, a3⟩
      · exact .inl ⟨a1, by rw [a2] at hpe; exact List.perm_nil.1 hpe⟩
      · exact .inr ⟨o, a1, ⟨a2.perm.trans hpe.symm, a2.up⟩, a3⟩
    · refine .inr ⟨out, hf, ⟨?_, ho.up⟩, ho.ne⟩
      have := ofL_perm hp ix
      rw [ofL_items lt ix out hlt] at this
      exact this.symm
end Go.Mem
namespace Go.Proofs.YtbbojbdigiibbaaGreatDoor
open Go Go.RowKit Go.Mem Gf Lea
theorem SrvAt.tchg {w w' : World} {C X : Nat → Prop} {pb sb lb d L tb : Nat} {v v' : Value} {s : SrvS} {l' : List Les} (h : SrvAt w C X pb sb lb d L tb v s) (hc : TChg tb v v' w w') (hh : Heap w' tb v' l') (hg : Lea.Good l') :
    SrvAt w' (fun b => C b ∨ v'.ownBlock = some b) X pb sb lb d L tb v' { s with tab := l' } ∧ SChg C (fun b => C b ∨ v'.ownBlock = some b) w w' := by
  have hct : C tb := h.core tb (.inr (.inr (.inl rfl)))
  have hcv : ∀ g, v.ownBlock = some g → C g := fun g hg => h.core g (.inr (.inr (.inr hg)))
  have hs := hc.1.size
  have hnew : ∀ g, v'.ownBlock = some g → C g ∨ w.heap.size ≤ g := fun g hg => (hc.2 g hg).imp (hcv g) id
  have hold : ∀ g, v'.ownBlock = some g → g < w'.heap.size := fun g hg => (hh.tab.own.lt g hg).2
  have hS : ∀ b, (b = tb ∨ v.ownBlock = some b) → ¬ Foot sb lb d L b ∧ b ≠ pb := fun b hb => by
    rcases hb with rfl | hb
    · exact h.ntb
    · exact h.nown b hb
  refine ⟨⟨hc.1.blk h.blk (fun e => (hS pb e).2 rfl), ?_, hh, hg, ?_, ?_, h.npb, h.ntb, fun g hg => ?_⟩, hc.1.mono (fun b hb => by rcases hb with rfl | hb; exact hct; exact hcv b hb), fun b hb => ?_⟩
  · refine h.st.grow hc.1 (fun b hb e => (hS b e).1 hb) (fun b hb _ => .inl (by rcases hb with rfl | hb; exact hct; exact hcv b hb)) (fun b hM => ?_) (fun b hN => ?_) (fun b hM => ?_)
    · rcases hM with (hM | hM) | hM
      · exact .inl (.inl hM)
      · exact (hnew b hM).imp .inl id
      · exact .inl (.inr hM)
    · exact hN.imp .inl id
    · rcases hM with (hM | hM) | hM
      · exact Nat.lt_of_lt_of_le (h.lt (.inl hM)) hs
      · exact hold b hM
      · exact Nat.lt_of_lt_of_le (h.lt (.inr hM)) hs
  · rintro b (hb | hb | hb | hb)
    · exact .inl (h.core b (.inl hb))
    · exact .inl (h.core b (.inr (.inl hb)))
    · exact .inl (h.core b (.inr (.inr (.inl hb))))
    · exact .inr hb
  · rintro b hX (hC | hC)
    · exact h.xc b hX hC
    · rcases hnew b hC with h1 | h1
      · exact h.xc b hX h1
      · have := h.lt (.inr hX); omega
  · rcases hc.2 g hg with h1 | h1
    · exact h.nown g h1
    · exact ⟨fun hf => by have := h.lt (.inl (h.foot g hf)); omega, fun e => by have := h.pb_lt; omega⟩
  · rcases hb with hb | hb
    · exact .inl hb
    · exact hnew b hb
attribute [local go_sem ↓] Go.wp_at_zero Go.wp_at_succ
attribute [local go_sem ↓] load_key store_key
attribute [local go_sem] ptrB_eq ptrO_eq ptrIs_eq aggL_eq aggIs_eq readK_drew hasK_drew readK_alloc_past hasK_alloc_past readK_alloc_in hasK_alloc_in setCells_drew setCells_alloc_past setCells_alloc_at
end Go.Proofs.YtbbojbdigiibbaaGreatDoor
end
section
namespace Go.Mem
open Go Go.RowKit Gf Lea
structure RF where
  kind : Value
  ix : List Value
  sec : List Value
  ends : Value
  en : List Value
  vt : Value
  vb : Value
def RF.V (f : RF) : List Value := f.kind :: (f.ix ++ (f.sec ++ (f.ends :: (f.en ++ [f.vt, f.vb]))))
def zk : List Value := bV z16
theorem zk_eq : zk = bV z16 := rfl
def RF.zero : RF := ⟨.int .i64 0, zk, zk, .int .i64 0, zk, .slice none 0 0, .slice none 0 0⟩
def RF.set (f : RF) : Nat → Value → RF
  | 0, v => { f with kind := v }
  | 1, v => { f with ix := aggL v }
  | 2, v => { f with sec := aggL v }
  | 3, v => { f with ends := v }
  | 4, v => { f with en := aggL v }
  | 5, v => { f with vt := v }
  | 6, v => { f with vb := v }
  | _, _ => f
def okAt : Nat → Value → Bool
  | 0, v => v.oneCell'
  | 1, v => aggIs v && decide ((aggL v).length = 16)
  | 2, v => aggIs v && decide ((aggL v).length = 16)
  | 3, v => v.oneCell'
  | 4, v => aggIs v && decide ((aggL v).length = 16)
  | 5, v => v.oneCell'
  | 6, v => v.oneCell'
  | _, _ => false
structure RF.Ok (f : RF) : Prop where
  ix : f.ix.length = 16
  sec : f.sec.length = 16
  en : f.en.length = 16
theorem zk_len : zk.length = 16 := by rw [zk_eq, bV_len]; rfl
theorem RF.zero_ok : RF.zero.Ok := ⟨zk_len, zk_len, zk_len⟩
theorem RF.Ok.set {f : RF} (h : f.Ok) {i : Nat} {v : Value} (hv : okAt i v = true) : (f.set i v).Ok := by
  match i, hv with
  | 0, _ => exact ⟨h.ix, h.sec, h.en⟩
  | 1, hv => simp [okAt] at hv; exact ⟨hv.2, h.sec, h.en⟩
  | 2, hv => simp [okAt] at hv; exact ⟨h.ix, hv.2, h.en⟩
  | 3, _ => exact ⟨h.ix, h.sec, h.en⟩
  | 4, hv => simp [okAt] at hv; exact ⟨h.ix, h.sec, hv.2⟩
  | 5, _ => exact ⟨h.ix, h.sec, h.en⟩
  | 6, _ => exact ⟨h.ix, h.sec, h.en⟩
theorem RF.Ok.len {f : RF} (h : f.Ok) : f.V.length = 52 := by
  unfold RF.V
  simp [h.ix, h.sec, h.en]
theorem cells_one {v : Value} (h : v.oneCell' = true) : v.cells = #[v] := by
  cases v <;> first | rfl | cases h
theorem cells_agg {v : Value} (h : aggIs v = true) : v.cells = (aggL v).toArray := by
  cases v <;> first | rfl | cases h
theorem fold_cells (off : Nat) (q c : Array Value) (h : off + q.size ≤ c.size) : q.zipIdx.foldl (fun cs (x : Value × Nat) => cs.setIfInBounds (off + x.2) x.1) c = (c.toList.take off ++ q.toList ++ c.toList.drop (off + q.size)).toArray := by
  have e : q.zipIdx.foldl (fun cs (x : Value × Nat) => cs.setIfInBounds (off + x.2) x.1) c = (q.toList.zipIdx 0).foldl (fun cs (x : Value × Nat) => cs.setIfInBounds (off + x.2) x.1) c := by
    rw [← Array.foldl_toList, Array.toList_zipIdx]
  obtain ⟨h1, h2⟩ := Great.foldl_set off q.toList 0 c
  rw [e]
  apply Array.ext_getElem?
  intro k
  rw [h2]
  simp only [Nat.add_zero, Array.length_toList, List.getElem?_toArray]
  by_cases hk : k < off
  · rw [if_neg (by omega), List.getElem?_append_left (by simp; omega), List.getElem?_append_left (by simp; omega), List.getElem?_take, if_pos hk, Array.getElem?_toList]
  · by_cases hk2 : k < off + q.size
    · rw [if_pos (by omega), List.getElem?_append_left (by simp; omega), List.getElem?_append_right (by simp; omega)]
      simp only [List.length_take, Array.length_toList, Array.getElem?_toList]
      congr 1
      omega
    · rw [if_neg (by omega), List.getElem?_append_right (by simp; omega)]
      simp only [List.length_append, List.length_take, Array.length_toList, List.getElem?_drop]
      rw [← Array.getElem?_toList]
      congr 1
      omega
def reqPl : List (Nat × Nat) := [(0, 1), (1, 16), (17, 16), (33, 1), (34, 16), (50, 1), (51, 1)]
theorem take_app {a b : List Value} {n : Nat} (h : a.length = n) : (a ++ b).take n = a := by rw [List.take_append_of_le_length (by omega), List.take_of_length_le (by omega)]
theorem drop_app {a b : List Value} {n : Nat} (h : a.length = n) : (a ++ b).drop n = b := by rw [List.drop_append_of_le_length (by omega), List.drop_of_length_le (by omega), List.nil_append]
theorem set_mid {a b c d : List Value} {n m : Nat} (h1 : a.length = n) (h2 : b.length = m) : ((a ++ (b ++ c)).take n ++ d ++ (a ++ (b ++ c)).drop (n + m)) = a ++ (d ++ c) := by
  rw [take_app h1, ← List.append_assoc a b c, drop_app (by rw [List.length_append]; omega), List.append_assoc]
theorem fill_step {f : RF} (h : f.Ok) {i : Nat} {v : Value} (hv : okAt i v = true) (rest : List (Nat × Value)) : Instr.fill (reqPl.toArray[·]?) f.V.toArray ((i, v) :: rest) = Instr.fill (reqPl.toArray[·]?) (f.set i v).V.toArray rest := by
  have hl := h.len
  obtain ⟨k, ix, sec, e, en, vt, vb⟩ := f
  obtain ⟨h1, h2, h3⟩ := h
  simp only at h1 h2 h3
  have key : ∀ (off n : Nat) (q : List Value), reqPl.toArray[i]? = some (off, n) → v.cells = q.toArray → q.length = n → off + n ≤ 52 →
      Instr.fill (reqPl.toArray[·]?) (RF.V ⟨k, ix, sec, e, en, vt, vb⟩).toArray ((i, v) :: rest) = Instr.fill (reqPl.toArray[·]?) ((RF.V ⟨k, ix, sec, e, en, vt, vb⟩).take off ++ q ++ (RF.V ⟨k, ix, sec, e, en, vt, vb⟩).drop (off + n)).toArray rest := fun off n q e1 e2 e3 e4 => by
    rw [Instr.fill]
    simp only [e1, e2]
    rw [if_neg (by simp [hl, e3]; omega), fold_cells _ _ _ (by simp [hl]; omega)]
    simp [e3]
  match i, hv with
  | 0, hv => rw [key 0 1 [v] rfl (cells_one hv) rfl (by decide)]; rfl
  | 1, hv =>
    simp only [okAt, Bool.and_eq_true, decide_eq_true_eq] at hv
    rw [key 1 16 (aggL v) rfl (cells_agg hv.1) hv.2 (by decide)]
    exact congrArg (fun l => Instr.fill _ (List.toArray l) rest) (set_mid (a := [k]) (b := ix) rfl h1)
  | 2, hv =>
    simp only [okAt, Bool.and_eq_true, decide_eq_true_eq] at hv
    rw [key 17 16 (aggL v) rfl (cells_agg hv.1) hv.2 (by decide)]
    have : RF.V ⟨k, ix, sec, e, en, vt, vb⟩ = (k :: ix) ++ (sec ++ (e :: (en ++ [vt, vb]))) := by simp [RF.V]
    rw [this, set_mid (by simp; omega) h2]
    simp [RF.V, RF.set]
  | 3, hv =>
    rw [key 33 1 [v] rfl (cells_one hv) rfl (by decide)]
    have : RF.V ⟨k, ix, sec, e, en, vt, vb⟩ = (k :: (ix ++ sec)) ++ ([e] ++ (en ++ [vt, vb])) := by simp [RF.V]
    rw [this, set_mid (m := 1) (by simp; omega) rfl]
    simp [RF.V, RF.set]
  | 4, hv =>
    simp only [okAt, Bool.and_eq_true, decide_eq_true_eq] at hv
    rw [key 34 16 (aggL v) rfl (cells_agg hv.1) hv.2 (by decide)]
    have : RF.V ⟨k, ix, sec, e, en, vt, vb⟩ = (k :: (ix ++ (sec ++ [e]))) ++ (en ++ [vt, vb]) := by simp [RF.V]
    rw [this, set_mid (by simp; omega) h3]
    simp [RF.V, RF.set]
  | 5, hv =>
    rw [key 50 1 [v] rfl (cells_one hv) rfl (by decide)]
    have : RF.V ⟨k, ix, sec, e, en, vt, vb⟩ = (k :: (ix ++ (sec ++ (e :: en)))) ++ ([vt] ++ [vb]) := by simp [RF.V]
    rw [this, set_mid (m := 1) (by simp; omega) rfl]
    simp [RF.V, RF.set]
  | 6, hv =>
    rw [key 51 1 [v] rfl (cells_one hv) rfl (by decide)]
    have : RF.V ⟨k, ix, sec, e, en, vt, vb⟩ = (k :: (ix ++ (sec ++ (e :: (en ++ [vt]))))) ++ ([vb] ++ []) := by simp [RF.V]
    rw [this, set_mid (m := 1) (by simp; omega) rfl]
    simp [RF.V, RF.set]
theorem fill_req : ∀ (l : List (Nat × Value)) (f : RF), f.Ok → (∀ p ∈ l, okAt p.1 p.2 = true) → Instr.fill (reqPl.toArray[·]?) f.V.toArray l = some (l.foldl (fun f p => f.set p.1 p.2) f).V.toArray
  | [], f, _, _ => rfl
  | (i, v) :: l, f, h, hl => by
    rw [fill_step h (hl (i, v) (by simp)), fill_req l _ (h.set (hl (i, v) (by simp))) (fun p hp => hl p (List.mem_cons_of_mem _ hp))]
    rfl
section
variable (k e vt vb v : Value) (ix sec en : List Value)
theorem rfs0 : RF.set ⟨k, ix, sec, e, en, vt, vb⟩ 0 v = ⟨v, ix, sec, e, en, vt, vb⟩ := rfl
theorem rfs1 : RF.set ⟨k, ix, sec, e, en, vt, vb⟩ 1 v = ⟨k, aggL v, sec, e, en, vt, vb⟩ := rfl
theorem rfs2 : RF.set ⟨k, ix, sec, e, en, vt, vb⟩ 2 v = ⟨k, ix, aggL v, e, en, vt, vb⟩ := rfl
theorem rfs3 : RF.set ⟨k, ix, sec, e, en, vt, vb⟩ 3 v = ⟨k, ix, sec, v, en, vt, vb⟩ := rfl
theorem rfs4 : RF.set ⟨k, ix, sec, e, en, vt, vb⟩ 4 v = ⟨k, ix, sec, e, aggL v, vt, vb⟩ := rfl
theorem rfs5 : RF.set ⟨k, ix, sec, e, en, vt, vb⟩ 5 v = ⟨k, ix, sec, e, en, v, vb⟩ := rfl
theorem rfs6 : RF.set ⟨k, ix, sec, e, en, vt, vb⟩ 6 v = ⟨k, ix, sec, e, en, vt, v⟩ := rfl
theorem rfz : RF.zero = ⟨.int .i64 0, zk, zk, .int .i64 0, zk, .slice none 0 0, .slice none 0 0⟩ := rfl
theorem ok0 : okAt 0 v = v.oneCell' := rfl
theorem ok1 : okAt 1 v = (aggIs v && decide ((aggL v).length = 16)) := rfl
theorem ok2 : okAt 2 v = (aggIs v && decide ((aggL v).length = 16)) := rfl
theorem ok3 : okAt 3 v = v.oneCell' := rfl
theorem ok4 : okAt 4 v = (aggIs v && decide ((aggL v).length = 16)) := rfl
theorem ok5 : okAt 5 v = v.oneCell' := rfl
theorem ok6 : okAt 6 v = v.oneCell' := rfl
end
end Go.Mem
namespace Go.Proofs.YtbbojbdigiibbaaGreatDoor
open Go Go.RowKit Go.Mem Gf Lea
theorem built_req (l : List (Nat × Value)) (h : ∀ p ∈ l, okAt p.1 p.2 = true) : Tryz.prog.built 47 l = some (l.foldl (fun f p => f.set p.1 p.2) RF.zero).V.toArray := by
  have h0 : Tryz.prog.built 47 l = Instr.fill (reqPl.toArray[·]?) RF.zero.V.toArray l := by
    unfold Program.built
    kernel_rfl
  rw [h0, fill_req l _ RF.zero_ok h]
def reqOf (a : Act) (l : List (Nat × Operand)) : RF := l.foldl (fun f p => f.set p.1 (a.eval p.2)) RF.zero
def reqFit (a : Act) (l : List (Nat × Operand)) : Bool := l.all fun p => okAt p.1 (a.eval p.2)
theorem build_req (dst : Option Tmp) (l : List (Nat × Operand)) (ty : TypeId) (pos : String) (af : Array Edge) (gd : Option (Tmp × Bool)) (a : Act) (w : World) (K : Act → World → Prop) (Q : Exit → Act → World → Prop) (h : reqFit a l = true) :
    Oper.wp Tryz.prog ⟨dst, .build 47 l.toArray, ty, pos, af, gd⟩ a w K Q = K (a.put dst (.agg (reqOf a l).V.toArray)) w := by
  have hb := built_req (l.map fun p => (p.1, a.eval p.2)) (fun p hp => by
    obtain ⟨q, hq, rfl⟩ := List.mem_map.1 hp
    exact List.all_eq_true.1 h q hq)
  have e : (l.map fun p => (p.1, a.eval p.2)).foldl (fun (f : RF) p => f.set p.1 p.2) RF.zero = reqOf a l := by
    unfold reqOf
    rw [List.foldl_map]
  rw [e] at hb
  unfold Oper.wp execOp
  have hr := run_build (P := Tryz.prog) w 47 (l.map fun p => (p.1, a.eval p.2)).toArray (reqOf a l).V.toArray (by exact hb)
  have em : l.toArray.map (fun p => (p.1, a.eval p.2)) = (l.map fun p => (p.1, a.eval p.2)).toArray := by simp
  simp only [Sem.run_bind]
  first
    | (rw [show (Array.map (fun x => (x.1, a.eval x.2)) l.toArray) = (l.map fun p => (p.1, a.eval p.2)).toArray from em]; simp only [hr, Result.andThen_ok]; rfl)
    | (simp only [em, hr, Result.andThen_ok]; rfl)
theorem build_req_ct (dst : Option Tmp) (i0 : Nat) (c0 : Value) (i1 : Nat) (x1 : Operand) (ty : TypeId) (pos : String) (af : Array Edge) (gd : Option (Tmp × Bool)) (a : Act) (w : World) (K : Act → World → Prop) (Q : Exit → Act → World → Prop) (h : reqFit a [(i0, .const c0), (i1, x1)] = true) :
    Oper.wp Tryz.prog ⟨dst, .build 47 #[(i0, .const c0), (i1, x1)], ty, pos, af, gd⟩ a w K Q = K (a.put dst (.agg (reqOf a [(i0, .const c0), (i1, x1)]).V.toArray)) w := build_req dst [(i0, .const c0), (i1, x1)] ty pos af gd a w K Q h
theorem build_req_cct (dst : Option Tmp) (i0 : Nat) (c0 : Value) (i1 : Nat) (c1 : Value) (i2 : Nat) (x2 : Operand) (ty : TypeId) (pos : String) (af : Array Edge) (gd : Option (Tmp × Bool)) (a : Act) (w : World) (K : Act → World → Prop) (Q : Exit → Act → World → Prop) (h : reqFit a [(i0, .const c0), (i1, .const c1), (i2, x2)] = true) :
    Oper.wp Tryz.prog ⟨dst, .build 47 #[(i0, .const c0), (i1, .const c1), (i2, x2)], ty, pos, af, gd⟩ a w K Q = K (a.put dst (.agg (reqOf a [(i0, .const c0), (i1, .const c1), (i2, x2)]).V.toArray)) w := build_req dst [(i0, .const c0), (i1, .const c1), (i2, x2)] ty pos af gd a w K Q h
end Go.Proofs.YtbbojbdigiibbaaGreatDoor
end
section
namespace Go.Proofs.YtbbojbdigiibbaaGreatDoor
open Go Go.RowKit Go.Mem Gf Lea
set_option linter.unusedVariables false
structure SrvL (w0 w : World) (C : Nat → Prop) (pb : Nat) (s : SrvS) : Prop where
  srv : IsSrv w C (fun _ => False) pb s
  bel : Below w0.heap.size w0 w
  c1 : ∀ b, C b → w0.heap.size ≤ b
section
variable {w0 w w' : World} {C C' : Nat → Prop} {pb : Nat} {s s' : SrvS}
theorem SrvL.step (h : SrvL w0 w C pb s) (hb : Below w.heap.size w w') : SrvL w0 w' C pb s := ⟨h.srv.below hb, h.bel.trans (hb.mono h.bel.size), h.c1⟩
theorem SrvL.sch (h : SrvL w0 w C pb s) (hs : IsSrv w' C' (fun _ => False) pb s') (hc : SChg C C' w w') : SrvL w0 w' C' pb s' :=
  ⟨hs, Chg.far h.bel hc.1 h.bel.size h.c1, fun b hb => by
    rcases hc.2 b hb with h1 | h1
    · exact h.c1 b h1
    · exact Nat.le_trans h.bel.size h1⟩
theorem SrvL.tab (h : SrvL w0 w C pb s) : Tab w := h.srv.tab
theorem SrvL.old (h : SrvL w0 w C pb s) {b : Nat} (hb : C b) : b < w.heap.size := h.srv.lt (.inl hb)
theorem BlAt.sch {v : Value} {l : List Blob} (h : BlAt w C v l) (hc : SChg C C' w w') : BlAt w' C' v l :=
  ((h.mono (M := fun b => C b ∨ C' b) (fun b hb => hb.elim .inl (hc.2 b))).chg hc.1 (fun b hb _ => .inl hb)).mono (fun b hb => .inl (.inr hb))
end
theorem do_answers {C X : Nat → Prop} {pb : Nat} {s : SrvS} {r : Req} (hr : r.Wf) {w : World} (h : IsSrv w C X pb s) (hB : s.dead = false) (k : Nat) (hk : handD k = true) (hkr : r.kind = (k : Int)) (R : Int → SrvS → Prop)
    (hP : ∀ w1 p4, Below w.heap.size w w1 → w.heap.size ≤ p4 → IsSrv w1 C (fun b => X b ∨ b = p4) pb s → Calls Tryz.prog (91 + (k - 1)) #[.pointer (some ⟨pb, 0, none⟩), .agg (reqV r).toArray] w1 (Answers C (fun b => X b ∨ b = p4) pb R w1)) :
    Calls Tryz.prog 20 #[.pointer (some ⟨pb, 0, none⟩), .agg (reqV r).toArray] w (Answers C X pb R w) := by
  refine do_calls C X pb s r hr w h hB k hk hkr _ fun w1 p4 hb h4 hb4 hs => ?_
  refine (hP w1 p4 hb h4 hs).mono ?_
  rintro e w2 ⟨C', err, s', rfl, hR, hs', hsc⟩
  have hk4 := hsc.1.blk hb4 (fun hC => by have := h.lt (.inl hC); omega)
  have hE := reply_end (x := .int .i64 err) (y := .slice none 0 0) hs' (hsc.pre hb) h4
  exact ⟨err, none, 0, 0, rfl, hk4, C', err, s', rfl, hR, hE.1, hE.2⟩
theorem do_gives {C X : Nat → Prop} {pb : Nat} {s : SrvS} {r : Req} (hr : r.Wf) {w : World} (h : IsSrv w C X pb s) (hB : s.dead = false) (k : Nat) (hk : handD k = true) (hkr : r.kind = (k : Int)) (l : List Blob)
    (hP : ∀ w1 p4, Below w.heap.size w w1 → w.heap.size ≤ p4 → IsSrv w1 C (fun b => X b ∨ b = p4) pb s → Calls Tryz.prog (91 + (k - 1)) #[.pointer (some ⟨pb, 0, none⟩), .agg (reqV r).toArray] w1 (Gives w1 l)) :
    Calls Tryz.prog 20 #[.pointer (some ⟨pb, 0, none⟩), .agg (reqV r).toArray] w (Gives w l) := by
  refine do_calls C X pb s r hr w h hB k hk hkr _ fun w1 p4 hb h4 hb4 hs => ?_
  refine (hP w1 p4 hb h4 hs).mono ?_
  rintro e w2 ⟨u, rfl, hO, hb2⟩
  obtain ⟨a, c, rfl, _⟩ := hO.slice
  have hk4 := hb4.kept hb2
  have hE := gives_end (x := .int .i64 0) (y := .slice a l.length c) hO hb hb2 h4 hb4.lt
  exact ⟨0, a, l.length, c, rfl, hk4, _, rfl, hE.1, hE.2⟩
section
variable {w0 w : World} {C : Nat → Prop} {pb : Nat} {s : SrvS}
theorem SrvL.put (h : SrvL w0 w C pb s) (hd : s.dead = false) (hB : SrvB s) (hw : s.st.disk.writes < 72057594037800000) {r : Req} (hr : r.Wf) (hk : r.kind = 2) {l : List Blob} (hl : BlAt w C r.vb l) (hz : ∀ x ∈ l, x.2.length ≤ 1000000) :
    Calls Tryz.prog 20 #[.pointer (some ⟨pb, 0, none⟩), .agg (reqV r).toArray] w fun e w' => ∃ C' err s', e = .returned (.agg #[.int .i64 err, .slice none 0 0]) ∧ PutSh s r l err s' ∧ SrvL w0 w' C' pb s' ∧ SChg C C' w w' := by
  refine (do_answers hr h.srv hd 2 rfl hk (PutSh s r l) fun w1 p4 hb h4 hs => ?_).mono ?_
  · have hl1 : BlAt w1 (fun b => C b ∨ (False ∨ b = p4)) r.vb l := BlAt.below (hl.mono (fun b hb' => hb'.elim .inl (fun h' => h'.elim (fun f => f.elim) (fun e => .inr (by rw [e]; exact h4))))) hb
    exact put_calls16 C _ pb s r l hr w1 hs hB hw hl1 hz
  · rintro e w' ⟨C', err, s', rfl, hR, hs', hsc⟩
    exact ⟨C', err, s', rfl, hR, h.sch hs' hsc, hsc⟩
theorem SrvL.get (h : SrvL w0 w C pb s) (hd : s.dead = false) (hB : SrvB s) {r : Req} (hr : r.Wf) (hk : r.kind = 1) :
    Calls Tryz.prog 20 #[.pointer (some ⟨pb, 0, none⟩), .agg (reqV r).toArray] w (Gives w (s.shares r.ix)) :=
  do_gives hr h.srv hd 1 rfl hk _ fun w1 p4 hb h4 hs => getShares_calls C _ pb s r hr w1 hs hB
theorem SrvL.slot (h : SrvL w0 w C pb s) (hd : s.dead = false) (hB : SrvB s) {r : Req} (hr : r.Wf) (hk : r.kind = 3) {o : Option (Key × List Blob)} (ho : ContIs s r.ix o) :
    Calls Tryz.prog 20 #[.pointer (some ⟨pb, 0, none⟩), .agg (reqV r).toArray] w (Gives w (contL o)) :=
  do_gives hr h.srv hd 3 rfl hk _ fun w1 p4 hb h4 hs => readSlot_calls C _ pb s r o hr w1 hs hB ho
theorem SrvL.renew (h : SrvL w0 w C pb s) (hd : s.dead = false) (hB : SrvB s) {r : Req} (hr : r.Wf) (hk : r.kind = 5) {o : Option (Key × List Blob)} (ho : ContIs s r.ix o) :
    Calls Tryz.prog 20 #[.pointer (some ⟨pb, 0, none⟩), .agg (reqV r).toArray] w fun e w' => ∃ C' err s', e = .returned (.agg #[.int .i64 err, .slice none 0 0]) ∧ RenSrv s r o err s' ∧ SrvL w0 w' C' pb s' ∧ SChg C C' w w' := by
  refine (do_answers hr h.srv hd 5 rfl hk (RenSrv s r o) fun w1 p4 hb h4 hs => renew_calls16 C _ pb s r o hr w1 hs hB ho).mono ?_
  rintro e w' ⟨C', err, s', rfl, hR, hs', hsc⟩
  exact ⟨C', err, s', rfl, hR, h.sch hs' hsc, hsc⟩
theorem SrvL.cancel (h : SrvL w0 w C pb s) (hd : s.dead = false) (hB : SrvB s) {r : Req} (hr : r.Wf) (hk : r.kind = 6) :
    Calls Tryz.prog 20 #[.pointer (some ⟨pb, 0, none⟩), .agg (reqV r).toArray] w fun e w' => ∃ C' err s', e = .returned (.agg #[.int .i64 err, .slice none 0 0]) ∧ CanSrv s r.ix r.sec err s' ∧ SrvL w0 w' C' pb s' ∧ SChg C C' w w' := by
  refine (do_answers hr h.srv hd 6 rfl hk (CanSrv s r.ix r.sec) fun w1 p4 hb h4 hs => can_calls C _ pb s r hr w1 hs hB).mono ?_
  rintro e w' ⟨C', err, s', rfl, hR, hs', hsc⟩
  exact ⟨C', err, s', rfl, hR, h.sch hs' hsc, hsc⟩
theorem SrvL.form (h : SrvL w0 w C pb s) (hd : s.dead = false) {r : Req} (hr : r.Wf) (hk : ∀ k : Nat, handD k = true → (k : Int) ≠ r.kind) :
    Calls Tryz.prog 20 #[.pointer (some ⟨pb, 0, none⟩), .agg (reqV r).toArray] w fun e w' => ∃ C', e = .returned (.agg #[.int .i64 2, .slice none 0 0]) ∧ SrvL w0 w' C' pb s ∧ SChg C C' w w' := by
  refine (do_form C _ pb s r hr w h.srv hd hk).mono ?_
  rintro e w' ⟨C', err, s', rfl, ⟨rfl, rfl⟩, hs', hsc⟩
  exact ⟨C', rfl, h.sch hs' hsc, hsc⟩
theorem SrvL.gone (h : SrvL w0 w C pb s) (hd : s.dead = true) {r : Req} (hr : r.Wf) :
    Calls Tryz.prog 20 #[.pointer (some ⟨pb, 0, none⟩), .agg (reqV r).toArray] w fun e w' => ∃ C', e = .returned (.agg #[.int .i64 8, .slice none 0 0]) ∧ SrvL w0 w' C' pb s ∧ SChg C C' w w' := by
  refine (do_dead C _ pb s r hr w h.srv hd).mono ?_
  rintro e w' ⟨C', err, s', rfl, ⟨rfl, rfl⟩, hs', hsc⟩
  exact ⟨C', rfl, h.sch hs' hsc, hsc⟩
end
theorem _root_.Go.Mem.SrvG.hold {m : Nat} {s : SrvS} (h : SrvG m s) : SHold m s.st.disk s.room s.st.recs := by
  rw [h.room]; exact h.st.hold
end Go.Proofs.YtbbojbdigiibbaaGreatDoor
end
section
namespace Go.Proofs.YtbbojbdigiibbaaGreatDoor
open Go Go.RowKit Go.Mem Gf Lea
set_option linter.unusedVariables false
attribute [local irreducible] RF.V zk reqV
attribute [local go_sem ↓] Go.wp_at_zero Go.wp_at_succ
attribute [local go_sem ↓] load_key build_req_ct
attribute [local go_sem] Value.oneCell' reqOf reqFit List.foldl_cons List.foldl_nil List.all_cons List.all_nil rfs0 rfs1 rfs2 rfs3 rfs4 rfs5 rfs6 rfz ok0 ok1 ok2 ok3 ok4 ok5 ok6
attribute [local go_sem] ptrB_eq ptrO_eq ptrIs_eq aggL_eq aggIs_eq readK_drew hasK_drew readK_alloc_past hasK_alloc_past readK_alloc_in hasK_alloc_in
section
variable {w0 w : World} {C : Nat → Prop} {pb : Nat} {s : SrvS}
def askV (k : Int) (ix : Key) : Req := ⟨k, ix, z16, 0, z16, .slice none 0 0, .slice none 0 0⟩
theorem askV_wf (k : Int) {ix : Key} (h : ix.length = 16) : (askV k ix).Wf := ⟨h, by show z16.length = 16; decide, by show z16.length = 16; decide⟩
unseal RF.V zk reqV in
theorem askV_eq (k : Int) (ix : Key) : RF.V ⟨.int .i64 k, bV ix, zk, .int .i64 0, zk, .slice none 0 0, .slice none 0 0⟩ = reqV (askV k ix) := rfl
theorem fld_reply0 (a b : Value) (w : World) : (Instr.field 43 (.agg #[a, b]) 0).run Tryz.prog w = .ok a w := by kernel_rfl
theorem fld_reply1 (a b : Value) (w : World) : (Instr.field 43 (.agg #[a, b]) 1).run Tryz.prog w = .ok b w := by kernel_rfl
attribute [local go_sem] fld_reply0 fld_reply1
set_option maxRecDepth 100000 in
set_option maxHeartbeats 1000000 in
theorem SrvL.shares (h : SrvL w0 w C pb s) (hd : s.dead = false) (hB : SrvB s) (ix : Key) (hix : ix.length = 16) :
    Calls Tryz.prog 23 #[.pointer (some ⟨pb, 0, none⟩), .agg (bV ix).toArray] w fun e w' => ∃ u, e = .returned u ∧ OwnBl 53 w' w.heap.size (fun b => b < w.heap.size) u (s.shares ix) ∧ Below w.heap.size w w' := by
  have hb0 : Below w.heap.size w (w.alloc (.cells (bV ix).toArray 39)) := (Below.refl _ _).alloc (Nat.le_refl _) _
  obtain ⟨ck, hck⟩ : ∃ c, c = bV ix := ⟨_, rfl⟩
  have k1 : cutC ck.toArray 0 16 = ck := by rw [hck]; exact (key_in hix).1
  have k2 : ck.length = 16 := by rw [hck, bV_len]; exact hix
  rw [← hck] at hb0 ⊢
  have H := Lib.hid (And.intro h (And.intro hd (And.intro hB (And.intro hck (And.intro hix hb0)))))
  clear h hd hB hck hix hb0
  go_enter Tryz.func23, Tryz.ntmps23
  go_wp2_with fail
  rw [show RF.V ⟨.int .i64 1, ck, zk, .int .i64 0, zk, .slice none 0 0, .slice none 0 0⟩ = reqV (askV 1 ix) from by rw [H.out.2.2.2.1]; exact askV_eq 1 ix]
  refine ((H.out.1.step H.out.2.2.2.2.2).get H.out.2.1 H.out.2.2.1 (askV_wf 1 H.out.2.2.2.2.1) rfl).mono ?_
  rintro e w2 ⟨u, rfl, hO, hb2⟩
  obtain ⟨ua, uc, rfl, _⟩ := hO.slice
  obtain ⟨un, hun⟩ : ∃ n, n = (s.shares (askV 1 ix).ix).length := ⟨_, rfl⟩
  rw [← hun] at hO ⊢
  have HUN := Lib.hid hun
  clear hun
  have HR := Lib.hid (And.intro (ownBl_weak (base' := w.heap.size) (M := fun b => b < w.heap.size) hO (by simp) (fun b hb => .inl (by simp; omega))) (H.out.2.2.2.2.2.trans (hb2.mono (by simp))))
  clear hO hb2
  go_wp2_with fail
  go_ret
  exact ⟨_, rfl, HR.out.1, HR.out.2⟩
set_option maxRecDepth 100000 in
set_option maxHeartbeats 1000000 in
theorem SrvL.slotOf (h : SrvL w0 w C pb s) (hd : s.dead = false) (hB : SrvB s) (ix : Key) (hix : ix.length = 16) {o : Option (Key × List Blob)} (ho : ContIs s ix o) :
    Calls Tryz.prog 24 #[.pointer (some ⟨pb, 0, none⟩), .agg (bV ix).toArray] w fun e w' => ∃ u, e = .returned u ∧ OwnBl 53 w' w.heap.size (fun b => b < w.heap.size) u (contL o) ∧ Below w.heap.size w w' := by
  have hb0 : Below w.heap.size w (w.alloc (.cells (bV ix).toArray 39)) := (Below.refl _ _).alloc (Nat.le_refl _) _
  obtain ⟨ck, hck⟩ : ∃ c, c = bV ix := ⟨_, rfl⟩
  have k1 : cutC ck.toArray 0 16 = ck := by rw [hck]; exact (key_in hix).1
  have k2 : ck.length = 16 := by rw [hck, bV_len]; exact hix
  rw [← hck] at hb0 ⊢
  have H := Lib.hid (And.intro h (And.intro hd (And.intro hB (And.intro hck (And.intro hix hb0)))))
  have HO := Lib.hid ho
  clear ho
  clear h hd hB hck hix hb0
  go_enter Tryz.func24, Tryz.ntmps24
  go_wp2_with fail
  rw [show RF.V ⟨.int .i64 3, ck, zk, .int .i64 0, zk, .slice none 0 0, .slice none 0 0⟩ = reqV (askV 3 ix) from by rw [H.out.2.2.2.1]; exact askV_eq 3 ix]
  refine ((H.out.1.step H.out.2.2.2.2.2).slot H.out.2.1 H.out.2.2.1 (askV_wf 3 H.out.2.2.2.2.1) rfl HO.out).mono ?_
  rintro e w2 ⟨u, rfl, hO, hb2⟩
  obtain ⟨ua, uc, rfl, _⟩ := hO.slice
  obtain ⟨un, hun⟩ : ∃ n, n = (contL o).length := ⟨_, rfl⟩
  rw [← hun] at hO ⊢
  have HUN := Lib.hid hun
  clear hun
  have HR := Lib.hid (And.intro (ownBl_weak (base' := w.heap.size) (M := fun b => b < w.heap.size) hO (by simp) (fun b hb => .inl (by simp; omega))) (H.out.2.2.2.2.2.trans (hb2.mono (by simp))))
  clear hO hb2
  go_wp2_with fail
  go_ret
  exact ⟨_, rfl, HR.out.1, HR.out.2⟩
end
end Go.Proofs.YtbbojbdigiibbaaGreatDoor
end
section
namespace Lea
theorem AddR.none {l l' : List Les} {ix sec : Key} {e : Int} {b : Bool} (hl : ofL l ix = []) (he : May e) (h : AddR l ix sec e b l') : b = true ∧ l'.Perm (l ++ [⟨ix, sec, e⟩]) := by
  have hno : ∀ x ∈ l, x.ix ≠ ix := ofL_nil.1 hl
  cases h with
  | no h =>
    rcases h with h | ⟨_, h⟩
    · exact absurd he h
    · rw [hl] at h; simp at h
  | more k x _ _ hx h1 _ _ => exact absurd h1 (hno x (List.mem_of_getElem? hx))
  | new _ _ _ _ hp => exact ⟨rfl, hp⟩
theorem AddR.again {l l' : List Les} {ix sec : Key} {e e0 : Int} {b : Bool} (hl : l.Perm [⟨ix, sec, e0⟩]) (he : May e) (h : AddR l ix sec e b l') : b = true ∧ l'.Perm [⟨ix, sec, max e0 e⟩] := by
  have h1 := List.perm_singleton.1 hl
  subst h1
  cases h with
  | no h =>
    rcases h with h | ⟨h, _⟩
    · exact absurd he h
    · exact absurd ⟨rfl, rfl⟩ (h _ (List.mem_singleton.2 rfl))
  | more k x _ _ hx _ _ hp =>
    cases k with
    | zero =>
      simp at hx
      subst hx
      exact ⟨rfl, hp⟩
    | succ k => simp at hx
  | new _ _ hk _ _ => exact absurd ⟨rfl, rfl⟩ (hk _ (List.mem_singleton.2 rfl))
theorem OfR.one {l : List Les} {ix sec : Key} {e : Int} {out : List Sec} (hl : l.Perm [⟨ix, sec, e⟩]) (h : OfR l ix out) : out = [(sec, e)] := by
  have h1 := List.perm_singleton.1 hl
  subst h1
  have h2 := h.perm
  unfold ofL at h2
  simp at h2
  exact h2
end Lea
namespace Go.Mem
open Go Go.RowKit Gf Lea Go.Proofs.YtbbojbdigiibbaaGreatDoor
theorem freeN_live {m : Nat} {s : SrvS} (h : SrvG m s) : liveN s.st.recs + s.st.freeN = s.st.recs.length := by
  have := free_live s.st.recs
  unfold St.freeN
  rw [if_neg (by simp [h.st.dead])]
  exact this
theorem live_le {l : List Sto.Rec} (ht : Sto.slot l < l.length) (name : ByteArray) (data : List UInt8) : liveN (putF l name data) ≤ liveN l + 1 := putF_live ht name data
theorem lease_fits {room : Nat} (hr : 8 ≤ room) {ix : Key} (hix : ix.length = 16) {sec : Key} (hs : sec.length = 16) (e : Int) : fitsB room (leaseN ix) (packL [(sec, e)]) = true := by
  have h1 := lease_size ix hix
  have h2 := packL_len [(sec, e)] (fun s hs' => by rw [List.mem_singleton.1 hs']; exact hs)
  simp only [List.length_singleton] at h2
  exact fits_of (by omega) (by omega) (by omega)
theorem SrvG.add_one {m : Nat} {s : SrvS} (h : SrvG m s) (hm : m < 1000000) {ix sec : Key} (hix : ix.length = 16) (hsec : sec.length = 16) {e E : Int} (hroom : 8 ≤ s.room) (hlive : liveN s.st.recs + 1 ≤ s.st.recs.length) (hE : ∀ b l2, AddR s.tab ix sec e b l2 → b = true ∧ l2.Perm [⟨ix, sec, E⟩]) {err : Int} {s' : SrvS} (hl : AddSrv s ix sec e err s') :
    (err = 0 ∧ SrvG (m + 1) s' ∧ s'.tab.Perm [⟨ix, sec, E⟩] ∧ (∀ nm, Sto.look s'.st.recs nm = upd (Sto.look s.st.recs) (leaseN ix) (some (packL [(sec, E)])) nm) ∧ s'.st.disk.stops = s.st.disk.stops) ∨
    (err = 8 ∧ s.st.disk.stops = true ∧ ∃ l, SrvX (m + 1) s' l ∧ ((∀ nm, Sto.look l nm = Sto.look s.st.recs nm) ∨ ∀ nm, Sto.look l nm = upd (Sto.look s.st.recs) (leaseN ix) (some (packL [(sec, E)])) nm)) := by
  have hl0 := hl
  rcases h.add hm hix hsec hl with ⟨_, _, ha⟩ | ⟨l2, out, ha, hR, h0, hc⟩
  · have := (hE _ _ ha).1; cases this
  · have hp := (hE _ _ ha).2
    have ho := OfR.one hp hR
    subst ho
    rcases hc with ⟨h1, h2, h3, h4, h5⟩ | ⟨h1, h2⟩ | h1
    · exact .inl ⟨h1, h2, by rw [h3]; exact hp, h4, h5⟩
    · exfalso
      have hfit := lease_fits (room := s.st.room) (by rw [← h.room]; exact hroom) hix hsec E
      have hslot : Sto.slot s.st.recs < s.st.recs.length := slot_of_live (by omega)
      cases hl0 with
      | full ha' => have := (hE _ _ ha').1; cases this
      | laid l3 _ _ ha' hy =>
        obtain ⟨out', hR', herr, _⟩ := hy
        have ho' := OfR.one (hE _ _ ha').2 hR'
        subst ho'
        have e0 : layR s ix [(sec, E)] = putR s.st (leaseN ix) (packL [(sec, E)]) := by unfold layR; rw [if_neg (by simp)]
        rw [e0] at herr
        have hok : RecOk (leaseN ix) (packL [(sec, E)]) := RecOk.lease ix _ hix (ofR_leOk (ha'.wf h.wf hix hsec) (ha'.good h.good) hR' (by simp))
        have hput := h.st.put hm hok
        generalize putR s.st (leaseN ix) (packL [(sec, E)]) = R at hput herr
        cases hput with
        | arg h' => rw [hfit] at h'; cases h'
        | full _ h' => omega
        | done _ _ _ _ _ _ _ => simp only at herr; omega
        | torn _ _ _ _ _ _ _ _ _ _ => simp only at herr; omega
    · exact .inr h1
theorem SrvG.put_one {m : Nat} {s : SrvS} (h : SrvG m s) (hm : m + 1 < 1000000) {r : Req} (hr : r.Wf) {n : Nat} {data : List UInt8} (hn : n < 16) (hme : May r.ends) (hd : data.length ≤ 200) (hg : Sto.look s.st.recs (shareN r.ix n) = none) (hroom : 8 ≤ s.room) (hlive : liveN s.st.recs + 2 ≤ s.st.recs.length) {E : Int}
    (hE : ∀ b l2, AddR s.tab r.ix r.sec r.ends b l2 → b = true ∧ l2.Perm [⟨r.ix, r.sec, E⟩]) {err : Int} {s' : SrvS} (hp : PutSh s r [((n : Int), data)] err s') :
    (err = 0 ∧ SrvG (m + 2) s' ∧ s'.tab.Perm [⟨r.ix, r.sec, E⟩] ∧ (∀ nm, Sto.look s'.st.recs nm = upd (upd (Sto.look s.st.recs) (shareN r.ix n) (some data)) (leaseN r.ix) (some (packL [(r.sec, E)])) nm) ∧ s'.st.disk.stops = s.st.disk.stops ∧ s'.slots = s.slots ∧ s'.room = s.room ∧ liveN s'.st.recs ≤ liveN s.st.recs + 2) ∨
    (err = 8 ∧ s.st.disk.stops = true ∧ s'.slots = s.slots ∧ s'.room = s.room ∧ ∃ f : Look, SrvT (m + 2) s' f ∧ ((∀ nm, f nm = Sto.look s.st.recs nm) ∨ (∀ nm, f nm = upd (Sto.look s.st.recs) (shareN r.ix n) (some data) nm) ∨ ∀ nm, f nm = upd (upd (Sto.look s.st.recs) (shareN r.ix n) (some data)) (leaseN r.ix) (some (packL [(r.sec, E)])) nm)) := by
  have hfit : fitsB s.st.room (shareN r.ix n) data = true := fits_of (by rw [share_size _ _ hr.ix]; omega) (by omega) (by rw [share_size _ _ hr.ix, ← h.room]; omega)
  have hlf := lease_fits (room := s.st.room) (by rw [← h.room]; exact hroom) hr.ix hr.sec E
  have hfl := freeN_live h
  have hslot : Sto.slot s.st.recs < s.st.recs.length := slot_of_live (by omega)
  have hget : s.st.get (shareN r.ix n) = none := by rw [h.get, hg]
  have hask : ∀ err', AskR s r.ix r.sec r.ends (shareN r.ix n) data false err' → err' = 0 := fun err' ha => by
    obtain ⟨b, l2, out, ha1, ha2, rfl⟩ := ha
    obtain ⟨rfl, hp2⟩ := hE _ _ ha1
    have ho := OfR.one hp2 (ha2 rfl)
    subst ho
    rw [if_neg (by simp; omega), if_neg (by simp [hfit, hlf])]
  have hnl : ∀ ix, shareN r.ix n ≠ leaseN ix := fun ix => share_lease
  have hok : RecOk (shareN r.ix n) data := RecOk.share r.ix n data hr.ix hn (by omega)
  cases hp with
  | form h' => exact absurd ⟨rfl, ⟨⟨fun x hx => by rw [List.mem_singleton.1 hx]; simp; omega, by simp⟩, hme⟩⟩ h'
  | no n' data' _ hl hn' hm' ha h0 =>
    simp only [List.cons.injEq, Prod.mk.injEq, and_true] at hl
    obtain ⟨e1, rfl⟩ := hl
    have e1 : n = n' := by omega
    subst e1
    rw [hget] at ha
    exact absurd (hask _ ha) h0
  | torn n' data' hl hn' hm' hg' ha h0 =>
    simp only [List.cons.injEq, Prod.mk.injEq, and_true] at hl
    obtain ⟨e1, rfl⟩ := hl
    have e1 : n = n' := by omega
    subst e1
    rcases h.put (by omega) hok hnl with ⟨h1, _⟩ | ⟨h1, _⟩ | ⟨h1, h2, l, h3, h4⟩
    · exact absurd h1 h0
    · exfalso
      have hput := h.st.put (by omega) hok
      generalize putR s.st (shareN r.ix n) data = R at hput h1
      cases hput with
      | arg h' => rw [hfit] at h'; cases h'
      | full _ h' => omega
      | done _ _ _ _ _ _ _ => simp only at h1; omega
      | torn _ _ _ _ _ _ _ _ _ _ => simp only at h1; omega
    · refine .inr ⟨h1, h2, rfl, rfl, Sto.look l, .inr ⟨l, h3.le (by omega), fun _ => rfl⟩, ?_⟩
      rcases h4 with h4 | h4
      · exact .inl h4
      · exact .inr (.inl h4)
  | put n' data' _ _ hl hn' hm' hg' ha h0 hs =>
    simp only [List.cons.injEq, Prod.mk.injEq, and_true] at hl
    obtain ⟨e1, rfl⟩ := hl
    have e1 : n = n' := by omega
    subst e1
    rcases h.put (by omega) hok hnl with ⟨h1, h2, h3, h4⟩ | ⟨h1, _⟩ | ⟨h1, _⟩
    · have hrec : (putR s.st (shareN r.ix n) data).2.recs = putF s.st.recs (shareN r.ix n) data := by
        have hput := h.st.put (m := m) (by omega) hok
        generalize putR s.st (shareN r.ix n) data = R at hput h0
        cases hput with
        | arg h' => rw [hfit] at h'; cases h'
        | full _ h' => omega
        | done _ _ _ hr' _ _ _ => exact hr'
        | torn _ _ _ _ _ _ _ _ _ _ => simp only at h0; omega
      have hlv := live_le hslot (shareN r.ix n) data
      have hln := putF_len s.st.recs (shareN r.ix n) data
      have hlv2 : liveN (putR s.st (shareN r.ix n) data).2.recs + 1 ≤ (putR s.st (shareN r.ix n) data).2.recs.length := by rw [hrec, hln]; omega
      have hslots : s'.slots = s.slots ∧ s'.room = s.room ∧ (err = 0 → liveN s'.st.recs ≤ liveN (putR s.st (shareN r.ix n) data).2.recs + 1) := by
        cases hs with
        | full _ => exact ⟨rfl, rfl, fun _ => Nat.le_succ _⟩
        | laid l2 _ _ ha2 hy =>
          obtain ⟨out, hR, herr, hs'⟩ := hy
          have h0' : out.length ≠ 0 := fun e => ha2.ne (hR.nil_iff.1 (List.eq_nil_of_length_eq_zero e))
          have e0 : layR { s with st := (putR s.st (shareN r.ix n) data).2 } r.ix out = putR (putR s.st (shareN r.ix n) data).2 (leaseN r.ix) (packL out) := by unfold layR; rw [if_neg h0']
          rw [e0] at hs' herr
          have hlr : (putR (putR s.st (shareN r.ix n) data).2 (leaseN r.ix) (packL out)).1 = 0 → liveN (putR (putR s.st (shareN r.ix n) data).2 (leaseN r.ix) (packL out)).2.recs ≤ liveN (putR s.st (shareN r.ix n) data).2.recs + 1 := by
            have hR2 := List.perm_singleton.1 (hE _ _ ha2).2
            have hput := h2.st.put (m := m + 1) hm (RecOk.lease r.ix out hr.ix (ofR_leOk (ha2.wf h2.wf hr.ix hr.sec) (ha2.good h2.good) hR (fun e => h0' (by rw [e]; rfl))))
            generalize hq : (putR s.st (shareN r.ix n) data).2 = st1 at *
            have hpr := hput
            generalize putR st1 (leaseN r.ix) (packL out) = R at hput
            cases hput with
            | arg h' => exact fun _ => Nat.le_succ _
            | full _ h' => exact fun _ => Nat.le_succ _
            | done _ _ hsl hr' _ _ _ => intro _; show liveN _ ≤ _; rw [hr']; exact live_le hsl _ _
            | torn _ _ _ _ _ _ _ _ _ _ => intro h; simp only at h; omega
          split at hs'
          · rw [hs', herr]; exact ⟨rfl, rfl, hlr⟩
          · rw [hs', herr]; exact ⟨rfl, rfl, hlr⟩
      rcases h2.add_one hm hr.ix hr.sec hroom hlv2 hE hs with ⟨a1, a2, a3, a4, a5⟩ | ⟨a1, a2, l, a3, a4⟩
      · have hnm : ∀ nm, Sto.look s'.st.recs nm = upd (upd (Sto.look s.st.recs) (shareN r.ix n) (some data)) (leaseN r.ix) (some (packL [(r.sec, E)])) nm := fun nm => by
          rw [a4]
          unfold upd
          split
          · rfl
          · exact h3 nm
        exact .inl ⟨a1, a2, a3, hnm, a5.trans h4, hslots.1, hslots.2.1, by have := hslots.2.2 a1; rw [hrec] at this; omega⟩
      · refine .inr ⟨a1, by rw [← h4]; exact a2, hslots.1, hslots.2.1, Sto.look l, .inr ⟨l, a3, fun _ => rfl⟩, ?_⟩
        rcases a4 with a4 | a4
        · exact .inr (.inl fun nm => by rw [a4]; exact h3 nm)
        · refine .inr (.inr fun nm => ?_)
          rw [a4]
          unfold upd
          split
          · rfl
          · exact h3 nm
    · omega
    · omega
  | there n' data' _ _ hl hn' hm' hg' ha hs =>
    simp only [List.cons.injEq, Prod.mk.injEq, and_true] at hl
    obtain ⟨e1, rfl⟩ := hl
    have e1 : n = n' := by omega
    subst e1
    rw [hget] at hg'
    cases hg'
theorem SrvG.put_there {m : Nat} {s : SrvS} (h : SrvG m s) (hm : m < 1000000) {r : Req} (hr : r.Wf) {n : Nat} {data x : List UInt8} (hn : n < 16) (hme : May r.ends) (hd : data.length ≤ 200) (hg : Sto.look s.st.recs (shareN r.ix n) = some x) (hroom : 8 ≤ s.room) (hlive : liveN s.st.recs + 1 ≤ s.st.recs.length) (hst : s.st.disk.stops = false) {E : Int}
    (hE : ∀ b l2, AddR s.tab r.ix r.sec r.ends b l2 → b = true ∧ l2.Perm [⟨r.ix, r.sec, E⟩]) {err : Int} {s' : SrvS} (hp : PutSh s r [((n : Int), data)] err s') : err = 5 := by
  have hfit : fitsB s.st.room (shareN r.ix n) data = true := fits_of (by rw [share_size _ _ hr.ix]; omega) (by omega) (by rw [share_size _ _ hr.ix, ← h.room]; omega)
  have hlf := lease_fits (room := s.st.room) (by rw [← h.room]; exact hroom) hr.ix hr.sec E
  have hfl := freeN_live h
  have hget : s.st.get (shareN r.ix n) = some x := by rw [h.get, hg]
  have hask : ∀ err', AskR s r.ix r.sec r.ends (shareN r.ix n) data true err' → err' = 0 := fun err' ha => by
    obtain ⟨b, l2, out, ha1, ha2, rfl⟩ := ha
    obtain ⟨rfl, hp2⟩ := hE _ _ ha1
    have ho := OfR.one hp2 (ha2 rfl)
    subst ho
    rw [if_neg (by simp; omega), if_neg (by simp [hfit, hlf])]
  cases hp with
  | form h' => exact absurd ⟨rfl, ⟨⟨fun x hx => by rw [List.mem_singleton.1 hx]; simp; omega, by simp⟩, hme⟩⟩ h'
  | no n' data' _ hl hn' hm' ha h0 =>
    simp only [List.cons.injEq, Prod.mk.injEq, and_true] at hl
    obtain ⟨e1, rfl⟩ := hl
    have e1 : n = n' := by omega
    subst e1
    rw [hget] at ha
    exact absurd (hask _ ha) h0
  | torn n' data' hl hn' hm' hg' ha h0 =>
    simp only [List.cons.injEq, Prod.mk.injEq, and_true] at hl
    obtain ⟨e1, rfl⟩ := hl
    have e1 : n = n' := by omega
    subst e1
    rw [hget] at hg'
    cases hg'
  | put n' data' _ _ hl hn' hm' hg' ha h0 hs =>
    simp only [List.cons.injEq, Prod.mk.injEq, and_true] at hl
    obtain ⟨e1, rfl⟩ := hl
    have e1 : n = n' := by omega
    subst e1
    rw [hget] at hg'
    cases hg'
  | there n' data' _ _ hl hn' hm' hg' ha hs =>
    simp only [List.cons.injEq, Prod.mk.injEq, and_true] at hl
    obtain ⟨e1, rfl⟩ := hl
    have e1 : n = n' := by omega
    subst e1
    rcases h.add_one hm hr.ix hr.sec hroom hlive hE hs with ⟨a1, _⟩ | ⟨_, a2, _⟩
    · rw [if_pos a1]
    · rw [hst] at a2; cases a2
end Go.Mem
end
section
namespace Go.Mem
open Go Go.RowKit Gf Lea Go.Proofs.YtbbojbdigiibbaaGreatDoor
theorem len_by_ix : ∀ (K : List Key) (l : List Les), (∀ x ∈ l, x.ix ∈ K) → (∀ ix, (ofL l ix).length ≤ 8) → l.length ≤ 8 * K.length
  | [], l, h, _ => by
    cases l with
    | nil => simp
    | cons x l => have := h x (by simp); cases this
  | k :: K, l, h, h8 => by
    have h1 := len_by_ix K (l.filter fun x => !decide (x.ix = k)) (fun x hx => by
      have := h x (List.mem_filter.1 hx).1
      have h2 := (List.mem_filter.1 hx).2
      simp only [Bool.not_eq_true', decide_eq_false_iff_not] at h2
      rcases List.mem_cons.1 this with e | e
      · exact absurd e h2
      · exact e) (fun ix => Nat.le_trans (by
      unfold ofL
      rw [List.length_map, List.length_map]
      exact ((List.filter_sublist (p := fun x => !decide (x.ix = k)) (l := l)).filter _).length_le) (h8 ix))
    have h2 := h8 k
    have h3 := List.length_eq_countP_add_countP (fun x : Les => decide (x.ix = k)) (l := l)
    unfold ofL at h2
    rw [List.length_map, ← List.countP_eq_length_filter] at h2
    rw [← List.countP_eq_length_filter] at h1
    have h4 : l.countP (fun x => !decide (x.ix = k)) = l.countP (fun x => decide (¬ decide (x.ix = k) = true)) := by
      congr 1
      funext x
      by_cases e : x.ix = k <;> simp [e]
    rw [List.length_cons]
    omega
theorem SrvG.srvB {m : Nat} {s : SrvS} (h : SrvG m s) (hm : m < 1000000) : SrvB s := by
  refine ⟨?_, by have := h.st.writes; omega⟩
  have := len_by_ix (s.st.recs.map fun r => ixOf r.name) s.tab (fun x hx => by
    have hw := (h.wf x hx).1
    rcases h.tab x.ix hw with ⟨_, h2⟩ | ⟨o, h1, _⟩
    · exact absurd rfl (ofL_nil.1 h2 x hx)
    · obtain ⟨r, a1, a2, a3, _⟩ := look_at h1
      exact List.mem_map.2 ⟨r, a1, by rw [a3]; exact ixOf_lease hw⟩) h.good.few
  rw [List.length_map, ← h.slots] at this
  have := h.few
  omega
theorem reqV_all {r : Req} (h : r.Wf) (h1 : r.vt.oneCell' = true) (h2 : r.vb.oneCell' = true) : AllK 52 (reqV r) := by
  refine ⟨reqV_len h, fun v hv => ?_⟩
  unfold reqV at hv
  simp only [List.mem_cons, List.mem_append, List.mem_nil_iff, or_false] at hv
  rcases hv with rfl | hv | hv | rfl | hv | rfl | rfl
  · rfl
  · exact bV_one _ v hv
  · exact bV_one _ v hv
  · rfl
  · exact bV_one _ v hv
  · exact h1
  · exact h2
theorem blAt_one {w : World} {N : Nat → Prop} {g : Nat} {n : Int} {a : Option Addr} {c : Nat} {bs : List UInt8} {t : TypeId} (hb : Blk w g #[.int .i64 n, .slice a bs.length c] t) (hN : ¬ N g) (hd : DataZ w N (.slice a bs.length c) bs) : BlAt w N (.slice (some ⟨g, 0, none⟩) 1 1) [(n, bs)] := by
  refine ⟨_, 1, rfl, Nat.le_refl _, by decide, fun _ => ⟨g, 0, rfl, hb.lt, hN, fun i x hx => ?_⟩⟩
  cases i with
  | zero =>
    simp at hx
    subst hx
    exact ⟨by rw [hb.cell]; rfl, a, c, by rw [hb.cell]; rfl, hd⟩
  | succ i => simp at hx
end Go.Mem
namespace Go.Proofs.YtbbojbdigiibbaaGreatDoor
open Go Go.RowKit Go.Mem Gf Lea
set_option linter.unusedVariables false
theorem store_req (dst : Option Tmp) (x y : Operand) (ty : TypeId) (pos : String) (af : Array Edge) (a : Act) (w : World) (K : Act → World → Prop) (Q : Exit → Act → World → Prop)
    (hp : ptrIs (a.eval x) = true) (hy : aggIs (a.eval y) = true) (ht : HasK 52 w (ptrB (a.eval x)) (ptrO (a.eval x))) (hc : AllK 52 (aggL (a.eval y))) :
    Oper.wp Tryz.prog ⟨dst, .store 47 x y, ty, pos, af, none⟩ a w K Q = K (a.put dst undef) (w.setCells (ptrB (a.eval x)) (ptrO (a.eval x)) (aggL (a.eval y))) :=
  wp_storeK i52 dst x y ty pos af a w K Q hp hy ht hc
theorem setCells_zeroR (w : World) (n : Nat) (hn : n = w.heap.size) (cs : List Value) (h : AllK 52 cs) : (w.alloc (.cells #[Value.int .i64 0, .int .u8 0, .int .u8 0, .int .u8 0, .int .u8 0, .int .u8 0, .int .u8 0, .int .u8 0, .int .u8 0, .int .u8 0, .int .u8 0, .int .u8 0, .int .u8 0, .int .u8 0, .int .u8 0, .int .u8 0, .int .u8 0, .int .u8 0, .int .u8 0, .int .u8 0, .int .u8 0, .int .u8 0, .int .u8 0, .int .u8 0, .int .u8 0, .int .u8 0, .int .u8 0, .int .u8 0, .int .u8 0, .int .u8 0, .int .u8 0, .int .u8 0, .int .u8 0, .int .i64 0, .int .u8 0, .int .u8 0, .int .u8 0, .int .u8 0, .int .u8 0, .int .u8 0, .int .u8 0, .int .u8 0, .int .u8 0, .int .u8 0, .int .u8 0, .int .u8 0, .int .u8 0, .int .u8 0, .int .u8 0, .int .u8 0, .slice none 0 0, .slice none 0 0] 47)).setCells n 0 cs = w.alloc (.cells cs.toArray 47) := setCells_alloc_at _ _ _ _ hn (by rw [h.1]; rfl)
def putV (e : Int) (u : Value) : Req := ⟨2, z16, z16, e, z16, .slice none 0 0, u⟩
theorem putV_wf (e : Int) (u : Value) : (putV e u).Wf := ⟨by show z16.length = 16; decide, by show z16.length = 16; decide, by show z16.length = 16; decide⟩
theorem putV_eq (e : Int) (u : Value) : RF.V ⟨.int .i64 2, zk, zk, .int .i64 e, zk, .slice none 0 0, u⟩ = reqV (putV e u) := rfl
theorem putV_all (e : Int) (a : Option Addr) (n c : Nat) : AllK 52 (reqV (putV e (.slice a n c))) := reqV_all (putV_wf e _) rfl rfl
theorem cutC_all {l : List Value} {n : Nat} (h : l.length = n) : cutC l.toArray 0 n = l := by
  unfold cutC
  subst h
  apply List.ext_getElem?
  intro k
  simp
theorem putV_size (e : Int) (a : Option Addr) (n c : Nat) : (reqV (putV e (.slice a n c))).length = 52 := reqV_len (putV_wf e _)
attribute [local irreducible] RF.V zk reqV
attribute [local go_sem ↓] Go.wp_at_zero Go.wp_at_succ
attribute [local go_sem ↓] load_req store_req build_req_cct
attribute [local go_sem] Value.oneCell' reqOf reqFit List.foldl_cons List.foldl_nil List.all_cons List.all_nil rfs0 rfs1 rfs2 rfs3 rfs4 rfs5 rfs6 rfz ok0 ok1 ok2 ok3 ok4 ok5 ok6 fld_reply0 fld_reply1
attribute [local go_sem] ptrB_eq ptrO_eq ptrIs_eq aggL_eq aggIs_eq readK_drew hasK_drew readK_alloc_past hasK_alloc_past readK_alloc_in hasK_alloc_in setCells_drew setCells_alloc_past setCells_zeroR putV_eq putV_all putV_size
theorem may5 : May 5 := ⟨by decide, by decide⟩
set_option maxRecDepth 100000 in
set_option maxHeartbeats 1000000 in
theorem wakes16_calls (w : World) (hT : Tab w) : Calls Tryz.prog 16 #[] w fun e w' => e = .returned (.bool true) ∧ Below w.heap.size w w' := by
  have HT := Lib.hid hT
  clear hT
  go_enter Tryz.func16, Tryz.ntmps16
  go_wp2_with fail
  refine (srvnew_calls 4 8 w HT.out (by omega) (by omega) (by omega)).mono ?_
  rintro e w1 ⟨pb, C, rfl, hS, hC, hb1⟩
  have HL := Lib.hid (show SrvL w w1 C pb (freshS 4 8) from ⟨hS, hb1, hC⟩)
  clear hS hC hb1
  go_upto_region 5 with fail
  have hbA : Below w1.heap.size w1 (w1.alloc (.cells #[Value.int .u8 7] 5)) := (Below.refl _ _).alloc (Nat.le_refl _) _
  have hbB := hbA.alloc hbA.size (.cells #[Value.int .i64 1, Value.slice (some ⟨w1.heap.size, 0, none⟩) 1 1] 53)
  have hbD := hbB.alloc hbB.size (.cells (reqV (putV 5 (.slice (some ⟨w1.heap.size + 1, 0, none⟩) 1 1))).toArray 47)
  have hkB : Blk ((w1.alloc (.cells #[Value.int .u8 7] 5)).alloc (.cells #[Value.int .i64 1, Value.slice (some ⟨w1.heap.size, 0, none⟩) 1 1] 53)) (w1.heap.size + 1) #[Value.int .i64 1, Value.slice (some ⟨w1.heap.size, 0, none⟩) 1 1] 53 := Blk.new_at _ _ _ _ (by simp)
  have hdA : Bys (w1.alloc (.cells #[Value.int .u8 7] 5)) (.slice (some ⟨w1.heap.size, 0, none⟩) 1 1) [7] := bys_one w1 7 _ rfl _
  have hkB2 := hkB.alloc (.cells (reqV (putV 5 (.slice (some ⟨w1.heap.size + 1, 0, none⟩) 1 1))).toArray 47)
  have hdB := (hdA.below ((Below.refl _ _).alloc (Nat.le_refl _) (.cells #[Value.int .i64 1, Value.slice (some ⟨w1.heap.size, 0, none⟩) 1 1] 53))).below ((Below.refl _ _).alloc (Nat.le_refl _) (.cells (reqV (putV 5 (.slice (some ⟨w1.heap.size + 1, 0, none⟩) 1 1))).toArray 47))
  have hkD : Blk (((w1.alloc (.cells #[Value.int .u8 7] 5)).alloc (.cells #[Value.int .i64 1, Value.slice (some ⟨w1.heap.size, 0, none⟩) 1 1] 53)).alloc (.cells (reqV (putV 5 (.slice (some ⟨w1.heap.size + 1, 0, none⟩) 1 1))).toArray 47)) (w1.heap.size + 1 + 1) (reqV (putV 5 (.slice (some ⟨w1.heap.size + 1, 0, none⟩) 1 1))).toArray 47 := Blk.new_at _ _ _ _ (by simp)
  obtain ⟨wd, hwd⟩ : ∃ q, q = ((w1.alloc (.cells #[Value.int .u8 7] 5)).alloc (.cells #[Value.int .i64 1, Value.slice (some ⟨w1.heap.size, 0, none⟩) 1 1] 53)).alloc (.cells (reqV (putV 5 (.slice (some ⟨w1.heap.size + 1, 0, none⟩) 1 1))).toArray 47) := ⟨_, rfl⟩
  rw [← hwd] at hbD hkB2 hdB hkD ⊢
  have hlD := hkD.lt
  have hnC : ∀ b, w1.heap.size ≤ b → ¬ C b := fun b hb hC => by have := HL.out.old hC; omega
  have hbl : BlAt wd C (.slice (some ⟨w1.heap.size + 1, 0, none⟩) 1 1) [(1, [7])] := blAt_one (a := some ⟨w1.heap.size, 0, none⟩) (bs := [7]) hkB2 (hnC _ (by omega)) ⟨hdB, _, _, rfl, fun _ b hb => by cases hb; exact ⟨by show w1.heap.size < _; omega, hnC _ (Nat.le_refl _)⟩⟩
  obtain ⟨p8, hp8⟩ : ∃ q, q = w1.heap.size + 1 := ⟨_, rfl⟩
  obtain ⟨p9, hp9⟩ : ∃ q, q = w1.heap.size + 1 + 1 := ⟨_, rfl⟩
  rw [← hp9] at hkD hlD ⊢
  rw [← hp8] at hkD hbl ⊢
  have r52 : readK 52 wd p9 0 = reqV (putV 5 (.slice (some ⟨p8, 0, none⟩) 1 1)) := blk_read0 hkD (putV_size _ _ _ _)
  have g52 : HasK 52 wd p9 0 := blk_has hkD (by simp [putV_size])
  have HD := Lib.hid (And.intro hbD (And.intro hkD (And.intro hbl (hnC p9 (by omega)))))
  have HG := Lib.hid (freshS_good 4 8 (by omega) (by omega))
  clear hbA hbB hbD hkB hdA hkB2 hdB hkD hwd hp8 hp9 hnC hbl hlD
  obtain ⟨s0, hs0⟩ : ∃ x, x = freshS 4 8 := ⟨_, rfl⟩
  have hsl : s0.slots = 4 ∧ s0.room = 8 ∧ s0.tab = [] ∧ s0.st.recs = List.replicate 4 Sto.Rec.free := by rw [hs0]; exact ⟨rfl, rfl, rfl, rfl⟩
  have HL0 := HL.out
  have HG0 := HG.out
  rw [← hs0] at HL0 HG0
  have H0 := Lib.hid (And.intro HL0 (And.intro HG0 hsl))
  clear HL HG HL0 HG0 hs0 hsl
  go_wp2_with fail
  refine ((H0.out.1.step HD.out.1).put H0.out.2.1.1.live ⟨by rw [H0.out.2.2.2.2.1]; simp, by have := H0.out.2.1.1.st.writes; omega⟩ (by have := H0.out.2.1.1.st.writes; omega) (putV_wf 5 _) rfl HD.out.2.2.1 (fun x hx => by rw [List.mem_singleton.1 hx]; decide)).mono ?_
  rintro e w2 ⟨C2, err, s1, rfl, hP, hL2, hsc⟩
  have hres : err = 0 ∧ SrvG 2 s1 ∧ s1.tab.Perm [⟨z16, z16, 5⟩] ∧ (∃ x, Sto.look s1.st.recs (shareN z16 1) = some x) ∧ s1.st.disk.stops = false ∧ s1.room = 8 ∧ s1.st.recs.length = 4 ∧ liveN s1.st.recs ≤ 2 := by
    have hlv : liveN s0.st.recs = 0 := by rw [H0.out.2.2.2.2.2]; exact live_free 4
    have hln : s0.st.recs.length = 4 := by rw [H0.out.2.2.2.2.2, List.length_replicate]
    rcases H0.out.2.1.1.put_one (E := 5) (by decide) (putV_wf 5 _) (n := 1) (by decide) may5 (by decide) (H0.out.2.1.2.1 _) (by rw [H0.out.2.2.2.1]; exact Nat.le_refl _) (by omega) (fun b l2 ha => by
      rw [H0.out.2.2.2.2.1] at ha
      exact AddR.none rfl may5 ha) hP with ⟨a1, a2, a3, a4, a5, a6, a7, a8⟩ | ⟨_, a2, _⟩
    · have h4 : s1.st.recs.length = 4 := by rw [← a2.slots, a6, H0.out.2.2.1]
      exact ⟨a1, a2, a3, ⟨_, by rw [a4, upd, if_neg share_lease, upd]; exact if_pos rfl⟩, a5.trans H0.out.2.1.2.2, a7.trans H0.out.2.2.2.1, h4, by omega⟩
    · rw [H0.out.2.1.2.2] at a2; cases a2
  obtain ⟨rfl, hres⟩ := hres
  have hk2 := hsc.1.blk HD.out.2.1 HD.out.2.2.2
  have r52' : readK 52 w2 p9 0 = reqV (putV 5 (.slice (some ⟨p8, 0, none⟩) 1 1)) := blk_read0 hk2 (putV_size _ _ _ _)
  have g52' : HasK 52 w2 p9 0 := blk_has hk2 (by simp [putV_size])
  have H2 := Lib.hid (And.intro hres (And.intro hL2 (BlAt.sch HD.out.2.2.1 hsc)))
  clear hP hL2 hsc hk2 r52 g52 hres
  go_wp2_with fail
  refine (H2.out.2.1.put H2.out.1.1.live ⟨by rw [H2.out.1.2.1.length_eq]; simp, by have := H2.out.1.1.st.writes; omega⟩ (by have := H2.out.1.1.st.writes; omega) (putV_wf 5 _) rfl H2.out.2.2 (fun x hx => by rw [List.mem_singleton.1 hx]; decide)).mono ?_
  rintro e w3 ⟨C3, err, s2, rfl, hP, hL3, hsc⟩
  have herr : err = 5 := by
    obtain ⟨x, hx⟩ := H2.out.1.2.2.1
    exact H2.out.1.1.put_there (E := 5) (by decide) (putV_wf 5 _) (n := 1) (by decide) may5 (by decide) hx (by rw [H2.out.1.2.2.2.2.1]; exact Nat.le_refl _) (by have := H2.out.1.2.2.2.2.2; omega) H2.out.1.2.2.2.1 (fun b l2 ha => AddR.again H2.out.1.2.1 may5 ha) hP
  subst herr
  have H3 := Lib.hid hL3.bel
  clear hP hL3 hsc
  go_wp2_with fail
  go_ret
  exact ⟨rfl, H3.out⟩
end Go.Proofs.YtbbojbdigiibbaaGreatDoor
end
section
namespace Go.Mem
open Go Go.RowKit Gf Lea
def findB (l : List Blob) (num : Int) : Option (List UInt8) := (l.find? fun x => decide (x.1 = num)).map (·.2)
theorem findB_some {l : List Blob} {num : Int} {i : Nat} {x : Blob} (hx : l[i]? = some x) (he : x.1 = num) (hb : ∀ q y, q < i → l[q]? = some y → y.1 ≠ num) : findB l num = some x.2 := by
  unfold findB
  have : l.find? (fun x => decide (x.1 = num)) = some x := by
    induction l generalizing i with
    | nil => simp at hx
    | cons z l ih =>
      cases i with
      | zero =>
        simp at hx; subst hx
        rw [List.find?_cons_of_pos (by simpa using he)]
      | succ i =>
        rw [List.find?_cons_of_neg (by simpa using hb 0 z (by omega) rfl)]
        exact ih (i := i) (by simpa using hx) fun q y hq hy => hb (q + 1) y (by omega) (by simpa using hy)
  rw [this]; rfl
theorem findB_none {l : List Blob} {num : Int} (hb : ∀ (q : Nat) (y : Blob), l[q]? = some y → y.1 ≠ num) : findB l num = none := by
  unfold findB
  rw [List.find?_eq_none.2]
  · rfl
  · intro x hx
    obtain ⟨i, hi⟩ := List.getElem?_of_mem hx
    simpa using hb i x hi
end Go.Mem
namespace Go.Proofs.YtbbojbdigiibbaaGreatDoor
open Go Go.RowKit Go.Mem Gf Lea
set_option linter.unusedVariables false
attribute [local go_sem ↓] Go.wp_at_zero Go.wp_at_succ
attribute [local irreducible] contV
def FindP (w : World) (l : List Blob) (num : Int) (e : Ending) (w' : World) : Prop :=
  ∃ v ok, e = .returned (.tuple #[v, .bool ok]) ∧ Below w.heap.size w w' ∧ ((∃ bs, findB l num = some bs ∧ ok = true ∧ DataZ w' (fun _ => False) v bs) ∨ (findB l num = none ∧ ok = false ∧ v = .slice none 0 0))
set_option maxRecDepth 100000 in
set_option maxHeartbeats 1000000 in
theorem cfind_calls (w : World) (is : Bool) (k : List Value) (u : Value) (l : List Blob) (num : Int) (hk : k.length = 16) (ho : ∀ v ∈ k, v.oneCell' = true) (h : BlAt w (fun _ => False) u l) :
    Calls Tryz.prog 185 #[.agg (contV is k u).toArray, .int .i64 num] w (FindP w l num) := by
  obtain ⟨a, c, rfl, hc1, hc2, hrow⟩ := id h
  obtain ⟨n, hn⟩ : ∃ n, n = l.length := ⟨_, rfl⟩
  rw [← hn] at hc1 hrow ⊢
  unfold maxLen at hc2
  have hu := contV_u is hk (.slice a n c)
  have hcl := contV_len is hk (.slice a n c)
  obtain ⟨cc, hcc⟩ : ∃ cc, cc = contV is k (.slice a n c) := ⟨_, rfl⟩
  rw [← hcc] at hu hcl ⊢
  have hkC : Blk (w.alloc (.cells cc.toArray 205)) w.heap.size cc.toArray 205 := Blk.new _ _ _
  have hbC : Below w.heap.size w (w.alloc (.cells cc.toArray 205)) := (Below.refl _ _).alloc (Nat.le_refl _) _
  have c17 : (w.alloc (.cells cc.toArray 205)).cell? ⟨w.heap.size, 17, none⟩ = some (.slice a n c) := by rw [hkC.cell 17]; simpa using hu
  have k1 : cutC cc.toArray 0 18 = cc := cutC_all hcl
  have H := Lib.hid (And.intro h (And.intro hn (And.intro hrow hbC)))
  clear h hn hrow hcc hbC
  go_enter Tryz.func185, Tryz.ntmps185
  go_upto_region 2 with fail
  go_loopw [11] (fun vi wr => ∃ i : Nat, i ≤ n ∧ vi = .int .i64 i ∧ Hid ((∀ q y, q < i → l[q]? = some y → y.1 ≠ num) ∧ Below w.heap.size w wr)) (fun vi _ => n - (intOf vi).toNat)
  case atStart => exact ⟨0, Nat.zero_le _, rfl, (fun q y h => by omega), H.out.2.2.2⟩
  case round =>
    obtain ⟨i, hi0, rfl, G⟩ := hrel
    by_cases hin : i < n
    · obtain ⟨b, off, rfl, hb, hnb, hcells⟩ := H.out.2.2.1 (by omega)
      have hx : l[i]? = some (l[i]'(by have := H.out.2.1; omega)) := by simp
      generalize l[i]'(by have := H.out.2.1; omega) = x at hx
      obtain ⟨c1, a', c', c2, hd⟩ := hcells i x hx
      have hbc := fun o => G.out.2.cell (p := ⟨b, o, none⟩) hb
      rw [← hbc] at c1 c2
      have i0 : (0 : Int) ≤ (i : Int) := by omega
      have i1 : (i : Int) < (n : Int) := by omega
      obtain ⟨z, hz⟩ : ∃ z, z = x.1 := ⟨_, rfl⟩
      obtain ⟨xl, hxl⟩ : ∃ z, z = x.2.length := ⟨_, rfl⟩
      rw [← hz] at c1
      rw [← hxl] at c2 hd
      have hbA := G.out.2.alloc G.out.2.size (.cells #[.int .i64 z, .slice a' xl c'] 53)
      have HX := Lib.hid (And.intro hx (And.intro hz (And.intro hxl (And.intro hbA (hd.chg (S := fun _ => False) (Chg.of_below hbA) (fun _ h => h.elim))))))
      clear hx hz hxl hd hbA hb hcells hbc
      by_cases hzz : z = num
      · have HF := Lib.hid (findB_some HX.out.1 (by rw [← HX.out.2.1]; exact hzz) G.out.1)
        have t1 : (z == num) = true := by simpa using hzz
        replace hzz := Lib.hid hzz
        go_wp2_with fail
        go_ret2
        exact ⟨_, true, rfl, HX.out.2.2.2.1, .inl ⟨_, HF.out, rfl, HX.out.2.2.2.2⟩⟩
      · have t1 : (z == num) = false := by simpa using hzz
        have HNE := Lib.hid hzz
        clear hzz
        go_wp2_with fail
        exact ⟨⟨i + 1, by omega, by simp, fun q y' hq hy' => by
          rcases Nat.lt_or_ge q i with h | h
          · exact G.out.1 q y' h hy'
          · have : q = i := by omega
            subst this
            rw [HX.out.1] at hy'
            cases hy'
            rw [← HX.out.2.1]; exact HNE.out, HX.out.2.2.2.1⟩, by show n - ((i : Int) + 1).toNat < n - (i : Int).toNat; omega⟩
    · obtain rfl : i = n := by omega
      have HF := Lib.hid (findB_none (l := l) (num := num) fun q y hy => G.out.1 q y (by have := some_lt hy; have := H.out.2.1; omega) hy)
      go_wp2_with fail
      go_ret2
      exact ⟨_, false, rfl, G.out.2, .inr ⟨HF.out, rfl, rfl⟩⟩
end Go.Proofs.YtbbojbdigiibbaaGreatDoor
end
